/- strings.ContainsAny of any text and the two signs [ and ]. -/
import Derived.Test.YtajcgoinhpengaaDoorP20
import Derived.Test.YtajcgoinhpengaaDoorP05
import Derived.Lib.SplitLaws
import Derived.Test.YtajcgoinhpengaaDoorP21
import Derived.Test.YtajcgoinhpengaaDoorP24
import Derived.Laws.CopyRow
import Derived.Test.YtajcgoinhpengaaDoorP29

namespace Go.Proofs.YtajcgoinhpengaaDoor
open Go.RowKit

namespace Hv
def sqs : List UInt8 := [91, 93]
end Hv
def sq : ByteArray := ⟨#[91, 93]⟩
theorem sq_size : sq.size = 2 := rfl
theorem sq_ascii : ∀ j (h : j < sq.size), (sq[j]'h).toNat < 128 := by
  intro j h
  have h' : j < 2 := h
  rcases (by omega : j = 0 ∨ j = 1) with rfl | rfl <;> decide +revert
set_option maxHeartbeats 2000000 in
set_option maxRecDepth 100000 in
theorem sqRune_wrong (w : World) :
    Calls Tryd.prog 88 #[.string sq, .int .i32 65533] w fun e w' => e = .returned (.int .i64 (-1)) ∧ Below w.heap.size w w' := by
  have HS := Lib.hid sq_size
  have HA := Lib.hid sq_ascii
  obtain ⟨s, hs⟩ : ∃ s, sq = s := ⟨_, rfl⟩
  rw [hs] at HS HA ⊢
  clear hs
  go_enter Tryd.func88, Tryd.ntmps88
  go_wp2
  go_loopw [176] (fun _ wr => ∃ (pos : Nat), wr = w.iter s pos) (fun _ wr => s.size - wr.iterPos w.heap.size)
  case atStart => exact ⟨0, rfl⟩
  case round =>
    obtain ⟨pos, rfl⟩ := hrel
    by_cases hp : pos < s.size
    · have hx := HA.out pos hp
      have hnx := fun ty => run_next_ascii (P := Tryd.prog) w s pos ty hp hx
      obtain ⟨x, hxx⟩ : ∃ x, (s[pos]'hp).toNat = x := ⟨_, rfl⟩
      rw [hxx] at hx hnx
      clear hxx
      have q1 : ((x : Int) == 65533) = false := by rw [beq_eq_false_iff_ne]; omega
      have q2 : ¬ (x : Int) = 65533 := by omega
      go_wp2
      go_roundw
      case rel => exact ⟨pos + 1, rfl⟩
      case measure => simp only [World.iterPos_iter]; omega
    · have hnx : ∀ ty, (Instr.next (.pointer (some ⟨w.heap.size, 0, none⟩)) true ty).run Tryd.prog (w.iter s pos) = _ := fun ty => run_next_end w s pos ty hp
      go_wp2
      go_ret
      exact ⟨rfl, iter_below s pos⟩
set_option maxHeartbeats 2000000 in
set_option maxRecDepth 100000 in
theorem sqRune_high (r : Int) (h1 : 128 ≤ r) (h2 : r ≤ 2147483647) (h3 : r ≠ 65533) (w : World) :
    Calls Tryd.prog 88 #[.string sq, .int .i32 r] w fun e w' => e = .returned (.int .i64 (-1)) ∧ Below w.heap.size w w' := by
  have q1 : ¬ r < 128 := by omega
  have q2 : (r == 65533) = false := by rw [beq_eq_false_iff_ne]; exact h3
  have q0 : 0 ≤ r := by omega
  have hV := fun W => Tryd.utf8_ValidRune r W
  cases hv : Lib.validRune r with
  | false =>
    rw [hv] at hV
    have HV := Lib.hid hV
    clear hv hV
    go_enter Tryd.func88, Tryd.ntmps88
    go_wp2_with (refine (HV.out _).mono ?_; rintro e w' ⟨rfl, rfl⟩)
    go_wp2
    go_ret
    exact ⟨rfl, Below.refl _ _⟩
  | true =>
    rw [hv] at hV
    have HV := Lib.hid hV
    have hvv : Utf8.valid r = true := by
      unfold Lib.validRune at hv
      have := of_decide_eq_true hv
      unfold Utf8.valid
      simp only [Bool.or_eq_true, Bool.and_eq_true, decide_eq_true_eq]
      omega
    obtain ⟨f1, f2, f3⟩ := encode_facts r hvv h1
    clear hv hV hvv h1 h2
    obtain ⟨x, hx⟩ : ∃ x, Utf8.encode r = x := ⟨_, rfl⟩
    have hcv : ∀ W, (convert 21 9 (.int .i32 r)).run Tryd.prog W = .ok (.string x) W := fun W => by
      rw [← hx]
      exact run_convert_int_string W _ _ _ _ (by rw [Tryd.underlying21]; rfl) Tryd.underlying9
    rw [hx] at f1 f2 f3
    clear hx
    obtain ⟨c, hc⟩ : ∃ c, x[x.size - 1]'(by omega) = c := ⟨_, rfl⟩
    have hc128 : 128 ≤ c.toNat := by rw [← hc]; exact f3 (by omega)
    have HI : Hid (∀ k W, Calls Tryd.prog 99 #[.string (sq.extract k sq.size), .int .u8 c.toNat] W fun e w' => e = .returned (.int .i64 (-1)) ∧ w' = W) := by
      intro k W
      have h := Tryd.strings_IndexByte (sq.extract k sq.size) c.toNat W
      rw [no_high] at h
      · exact h
      · intro b hb e
        rw [Lib.extract_data] at hb
        have hb2 := List.mem_of_mem_drop (List.mem_of_mem_take hb)
        have : ∀ b ∈ sq.data.toList, b.toNat < 128 := by decide
        have h5 := this b hb2
        rw [e] at h5
        simp at h5
        omega
    have HS := Lib.hid sq_size
    have HA := Lib.hid sq_ascii
    obtain ⟨s, hs⟩ : ∃ s, sq = s := ⟨_, rfl⟩
    rw [hs] at HS HA HI ⊢
    clear hs
    obtain ⟨m, hm⟩ : ∃ m, x.size - 1 = m := ⟨_, rfl⟩
    have hm1 : x.size = m + 1 := by omega
    have hm2 : 1 ≤ m ∧ m ≤ 3 := by omega
    simp only [hm] at hc
    have hmx : m < x.size := by omega
    have hc' : x[m]'hmx = c := hc
    clear hc
    by_cases hms : m < s.size
    case neg =>
      have w1 : IntKind.i64.wrap ((m : Int) + 1 - 1) = m := by rw [IntKind.wrap_i64]; omega
      have w3 : wrap64 (m : Int) = m := by unfold wrap64; omega
      have l1 : ¬ (m : Int) < (s.size : Int) := by omega
      clear hm f1 f2 f3 hc128 hm2
      go_enter Tryd.func88, Tryd.ntmps88
      go_wp2_with (refine (HV.out _).mono ?_; rintro e w' ⟨rfl, rfl⟩)
      go_wp2
      go_step3
      go_wp2
      go_loopw [9] (fun i wr => i = .int .i64 m ∧ Hid (Drew w' wr)) (fun _ _ => 0)
      case atStart => exact ⟨by rw [w3], Drew.refl _⟩
      case round =>
        obtain ⟨rfl, HD⟩ := hrel
        go_wp2
        simp +zetaDelta only [Exit.inBlock, Exit.noGoto_ret]
        go_ret
        exact ⟨rfl, HD.out.below _⟩
    obtain ⟨y, hy⟩ : ∃ y, s[m]'hms = y := ⟨_, rfl⟩
    have hy128 : y.toNat < 128 := by rw [← hy]; exact HA.out m hms
    have qy : ((y.toNat : Int) != (c.toNat : Int)) = true := by simp; omega
    have qy' : ¬ (y.toNat : Int) = (c.toNat : Int) := by omega
    have w1 : IntKind.i64.wrap ((m : Int) + 1 - 1) = m := by rw [IntKind.wrap_i64]; omega
    have w2 : IntKind.i64.wrap ((m : Int) + 1) = (m : Int) + 1 := by rw [IntKind.wrap_i64]; omega
    have w3 : wrap64 (m : Int) = m := by unfold wrap64; omega
    have l1 : (m : Int) < (s.size : Int) := by omega
    have l2 : (0 : Int) ≤ (m : Int) := by omega
    have l3 : (m : Int) < (m : Int) + 1 := by omega
    have l4 : (m : Int) + 1 ≤ (s.size : Int) := by omega
    have l5 : (0 : Int) ≤ (m : Int) + 1 := by omega
    clear hm f1 f2 f3 hc128 hm2 hy128
    go_enter Tryd.func88, Tryd.ntmps88
    go_wp2_with (refine (HV.out _).mono ?_; rintro e w' ⟨rfl, rfl⟩)
    go_wp2
    go_step3
    go_wp2
    go_loopw [9] (fun i wr => i = .int .i64 m ∧ Hid (Drew w' wr)) (fun _ _ => 0)
    case atStart => exact ⟨by rw [w3], Drew.refl _⟩
    case round =>
      obtain ⟨rfl, HD⟩ := hrel
      have HI1 := Lib.hid (fun W => HI.out (m + 1) W)
      have e1 : ((m + 1 : Nat) : Int) = (m : Int) + 1 := rfl
      go_wp2
      go_step3
      go_wp2
      go_quiet (fail)
      go_wp2
      go_quiet ((go_at_call 99; exact (HI1.out _).mono fun e w2 h => ⟨h.1, _, h.2⟩))
      go_wp2
      simp +zetaDelta only [Exit.inBlock, Exit.noGoto_ret, Exit.then]
      go_ret
      exact ⟨rfl, ((HD.out.drewN _).below _)⟩
theorem sqRune_any (r : Int) (h1 : 128 ≤ r) (h2 : r ≤ 2147483647) (w : World) :
    Calls Tryd.prog 88 #[.string sq, .int .i32 r] w fun e w' => e = .returned (.int .i64 (-1)) ∧ Below w.heap.size w w' := by
  by_cases h3 : r = 65533
  · subst h3
    exact sqRune_wrong w
  · exact sqRune_high r h1 h2 h3 w

theorem sq_list : sq.data.toList = Hv.sqs := rfl
theorem sqs_low : ∀ b ∈ Hv.sqs, b.toNat < 128 := by decide
theorem sq_high_not (b : UInt8) (h : 128 ≤ b.toNat) : Hv.sqs.contains b = false := by
  cases hc : Hv.sqs.contains b with
  | false => rfl
  | true =>
    have := sqs_low b (by simpa using hc)
    omega
/-- A sign of several letters has none of the four. -/
theorem sqNoAny_high (s : ByteArray) (pos : Nat) (ha : 128 ≤ (s.get! pos).toNat) (h : Lib.NoAny (tl s) Hv.sqs pos) : Lib.NoAny (tl s) Hv.sqs (pos + (Utf8.decode s pos).2) := by
  intro j b hj hb
  by_cases h1 : j < pos
  · exact h j b h1 hb
  · have hjs : j < s.size := by
      have := (List.getElem?_eq_some_iff.1 hb).1
      rwa [tl_length] at this
    have hb2 := Te.get_tl s j hjs
    rw [hb] at hb2
    rw [Option.some.inj hb2]
    apply sq_high_not
    by_cases h2 : j = pos
    · rw [h2]; exact ha
    · have := (Te.tail_high s pos (j - pos) (by omega) (by omega)).2
      rwa [show pos + (j - pos) = j from by omega] at this
set_option maxHeartbeats 4000000 in
set_option maxRecDepth 100000 in
theorem sqAny_short (s : ByteArray) (h8 : s.size ≤ 8) (w : World) :
    Calls Tryd.prog 80 #[.string s, .string sq] w fun e w' => e = .returned (.int .i64 (Lib.indexAny (tl s) Hv.sqs)) ∧ Below w.heap.size w w' := by
  have HR : Hid (∀ (r : Int) W, 128 ≤ r → r ≤ 2147483647 → Calls Tryd.prog 88 #[.string sq, .int .i32 r] W fun e w' => e = .returned (.int .i64 (-1)) ∧ Below W.heap.size W w') := fun r W h1 h2 => sqRune_any r h1 h2 W
  have HA : Hid (∀ (x : UInt8) W, x.toNat < 128 → Calls Tryd.prog 88 #[.string sq, .int .i32 x.toNat] W fun e w' => e = .returned (.int .i64 (Lib.indexByte Hv.sqs x)) ∧ w' = W) := by
    intro x W hx
    have h := Tryd.strings_IndexRune_ascii sq x.toNat W (by omega) (by omega)
    rw [sq_list, show ((x.toNat : Int)).toNat.toUInt8 = x from by simp] at h
    exact h
  have hemp : sq.toList.isEmpty = false := by rw [Lib.toList_data]; rfl
  have hn4 : (sq.size : Int) = 2 := rfl
  obtain ⟨q, hq⟩ : ∃ q, sq = q := ⟨_, rfl⟩
  rw [hq] at HR HA hemp hn4 ⊢
  clear hq
  have h8z : decide ((8 : Int) < (s.size : Int)) = false := decide_eq_false (by omega)
  have HU := Lib.hid (fun W => Tryd.strings_shouldUseASCIISet s.size W)
  rw [h8z] at HU
  obtain ⟨v, hv⟩ : ∃ v, Lib.indexAny (tl s) Hv.sqs = v := ⟨_, rfl⟩
  rw [hv]
  have HV := Lib.hid hv
  clear hv h8z
  go_enter Tryd.func80, Tryd.ntmps80
  go_wp2_with (refine (HU.out _).mono ?_; rintro e w' ⟨rfl, rfl⟩)
  go_loopw [46] (fun _ wr => ∃ (pos : Nat), wr.heap[w'.heap.size]? = some (.stringIter s pos) ∧ Hid (Below w'.heap.size w' wr) ∧ Hid (Lib.NoAny (tl s) Hv.sqs pos)) (fun _ wr => s.size - wr.iterPos w'.heap.size)
  case atStart => exact ⟨0, World.iter_heap _ s 0, iter_below s 0, Lib.NoAny.zero _ _⟩
  case round =>
    obtain ⟨pos, hit, HB, HN⟩ := hrel
    have hsz : w'.heap.size < wr.heap.size := (Array.getElem?_eq_some_iff.1 hit).1
    by_cases hp : pos < s.size
    · have hnx : ∀ ty, (Instr.next (.pointer (some ⟨w'.heap.size, 0, none⟩)) true ty).run Tryd.prog wr = _ := fun ty => Lib.run_next_any_at wr w'.heap.size s pos ty hit hp
      have hw := Te.width_pos s pos hp
      by_cases ha : (s.get! pos).toNat < 128
      · rw [Te.first_ascii s pos hp ha] at hnx
        have HX := Lib.hid (Te.get_tl s pos hp)
        obtain ⟨x, hx⟩ : ∃ x, s.get! pos = x := ⟨_, rfl⟩
        rw [hx] at hnx ha HX
        clear hx hw
        have hit2 := Lib.iterAt_heap wr w'.heap.size s pos (pos + 1) hit
        have HB2 := Lib.hid (Lib.below_iterAt HB.out (k := w'.heap.size) (Nat.le_refl _) s (pos + 1))
        have HC := Lib.hid (fun W => HA.out x W ha)
        have hcon := Lib.contains_iff_indexByte Hv.sqs x
        cases hin : Hv.sqs.contains x with
        | false =>
          rw [hin] at hcon
          have hlt : ¬ ((0 : Int) ≤ Lib.indexByte Hv.sqs x) := of_decide_eq_false hcon.symm
          have HN2 := Lib.hid (HN.out.succ HX.out hin)
          clear hcon hin HN HX HB
          go_wp2_with (refine (HC.out _).mono ?_; rintro e w2 ⟨rfl, rfl⟩)
          go_wp2
          go_roundw
          case rel => exact ⟨pos + 1, hit2, HB2, HN2⟩
          case measure => simp only [World.iterPos, hit2, hit]; omega
        | true =>
          rw [hin] at hcon
          have hge : (0 : Int) ≤ Lib.indexByte Hv.sqs x := of_decide_eq_true hcon.symm
          have HE : Hid (v = pos) := by
            show v = pos
            rw [← HV.out]
            exact Lib.indexAny_hit HN.out HX.out hin
          clear hcon hin HN HX HB
          go_wp2_with (refine (HC.out _).mono ?_; rintro e w2 ⟨rfl, rfl⟩)
          go_wp2
          go_ret
          exact ⟨by rw [HE.out]; rfl, HB2.out⟩
      · have hh := Te.first_high s pos hp (by omega)
        have hle := decode_le s pos
        have HN2 := Lib.hid (sqNoAny_high s pos (by omega) HN.out)
        obtain ⟨c, hc⟩ : ∃ c, (Utf8.decode s pos).1 = c := ⟨_, rfl⟩
        obtain ⟨n, hn⟩ : ∃ n, (Utf8.decode s pos).2 = n := ⟨_, rfl⟩
        rw [hc, hn] at hnx
        rw [hc] at hh hle
        rw [hn] at hw HN2
        clear hc hn ha
        have hit2 := Lib.iterAt_heap wr w'.heap.size s pos (pos + n) hit
        have HB2 := Lib.hid (Lib.below_iterAt HB.out (k := w'.heap.size) (Nat.le_refl _) s (pos + n))
        have hsz2 : w'.heap.size < (wr.iterAt w'.heap.size s (pos + n)).heap.size := by rw [Lib.iterAt_size]; exact hsz
        have HC := Lib.hid (fun W => HR.out (c : Int) W (by omega) (by omega))
        clear HN HB
        go_wp2_with (refine (HC.out _).mono ?_; rintro e w2 ⟨rfl, hb⟩)
        have hit3 : w2.heap[w'.heap.size]? = some (.stringIter s (pos + n)) := (hb.block _ hsz2).trans hit2
        have HB3 := Lib.hid (HB2.out.trans (hb.mono (Nat.le_of_lt hsz2)))
        clear hb
        go_wp2
        go_roundw
        case rel => exact ⟨pos + n, hit3, HB3, HN2⟩
        case measure => simp only [World.iterPos, hit3, hit]; omega
    · have hnx : ∀ ty, (Instr.next (.pointer (some ⟨w'.heap.size, 0, none⟩)) true ty).run Tryd.prog wr = _ := fun ty => Lib.run_next_end_at wr w'.heap.size s pos ty hit hp
      have HE : Hid (v = -1) := by
        show v = -1
        rw [← HV.out]
        apply Lib.indexAny_none
        intro j b hj hb
        rw [tl_length] at hj
        exact HN.out j b (by omega) hb
      go_wp2
      go_ret
      exact ⟨by rw [HE.out]; rfl, HB.out⟩
theorem sqAny_all (s : ByteArray) (hs : s.size < 4294967281) (w : World) :
    Calls Tryd.prog 80 #[.string s, .string sq] w fun e w' => e = .returned (.int .i64 (Lib.indexAny (tl s) Hv.sqs)) ∧ Below w.heap.size w w' := by
  by_cases h8 : s.size ≤ 8
  · exact sqAny_short s h8 w
  · have h116 : (Tryd.prog.info? 151).map (fun i => (i.zero, i.size)) = some (some (.agg (Array.replicate 256 (.bool false))), 256) := by kernel_rfl
    refine (Tryd.strings_IndexAny_long (zero_of_info h116).1 s sq w (by decide) (by omega) hs (by decide) ?_).mono ?_
    · intro j b hb
      exact sqs_low b (List.mem_of_getElem? hb)
    · rintro e w' ⟨rfl, rfl⟩
      exact ⟨rfl, ((Below.refl _ _).alloc (Nat.le_refl _) _).alloc (by simp) _⟩
set_option maxHeartbeats 1000000 in
theorem sqContains_all (s : ByteArray) (hs : s.size < 4294967281) (w : World) :
    Calls Tryd.prog 68 #[.string s, .string sq] w fun e w' => e = .returned (.bool (Lib.containsAny (tl s) Hv.sqs)) ∧ Below w.heap.size w w' := by
  have HC := Lib.hid (fun W => sqAny_all s hs W)
  obtain ⟨q, hq⟩ : ∃ q, sq = q := ⟨_, rfl⟩
  rw [hq] at HC ⊢
  clear hq
  go_enter Tryd.func68, Tryd.ntmps68
  go_wp2_with (refine (HC.out _).mono ?_; rintro e w' ⟨rfl, hb⟩)
  go_ret
  exact ⟨rfl, hb⟩
end Go.Proofs.YtajcgoinhpengaaDoor

/- hive.Path: whether a text is a path. -/
namespace Go.Proofs.YtajcgoinhpengaaDoor
open Go.RowKit

namespace Hv
/-- A text, parted at each backslash. -/
def parts (s : ByteArray) : List ByteArray := Lib.splitB ⟨#[92]⟩ 0 (Lib.countB s ⟨#[92]⟩) s
def path (s : ByteArray) : Bool := decide (1 ≤ s.size) && (decide (s.size ≤ 256) && (Te.plain s && (!Lib.containsAny (tl s) sqs && !Lib.containsS (parts s) ⟨#[]⟩)))
theorem path_size {s : ByteArray} (h : path s = true) : s.size ≤ 256 := by
  unfold path at h
  simp only [Bool.and_eq_true, decide_eq_true_eq] at h
  exact h.2.1
end Hv
theorem hvSplit (s : ByteArray) (hs : s.size ≤ 256) (w : World) (hW : Wl w) :
    Calls Tryd.prog 94 #[.string s, .string ⟨#[92]⟩] w fun e w' => e = .returned (.slice (some ⟨w.heap.size, 0, none⟩) (Hv.parts s).length (Hv.parts s).length) ∧ w' = w.alloc (.cells ((Hv.parts s).map Value.string).toArray 9) := by
  obtain ⟨m, hm⟩ := hW.maxl
  have e : (Hv.parts s).length = Lib.countB s ⟨#[92]⟩ + 1 := Lib.splitB_all ⟨#[92]⟩ (by decide) 0 _ s rfl
  rw [e]
  exact Tryd.strings_Split s ⟨#[92]⟩ m w (by omega) hm (by decide)
theorem cell_str (w : World) (l : List ByteArray) (t : TypeId) (j : Nat) (h : j < l.length) : (w.alloc (.cells (l.map Value.string).toArray t)).cell? ⟨w.heap.size, 0 + j, none⟩ = some (.string (l.getD j ByteArray.empty)) := by
  rw [World.cell?_alloc_new]
  simp [List.getD, h]
theorem parts_len (s : ByteArray) (hs : s.size ≤ 256) : (Hv.parts s).length ≤ 9223372036854775807 := by
  have h := Lib.splitB_length_le ⟨#[92]⟩ 0 (Lib.countB s ⟨#[92]⟩) s
  have h2 : Lib.countB s ⟨#[92]⟩ ≤ s.size := Lib.countB_le ⟨#[92]⟩ (by decide) s.size s (Nat.le_refl _)
  unfold Hv.parts
  omega
set_option maxHeartbeats 2000000 in
set_option maxRecDepth 100000 in
theorem hvPath_any (s : ByteArray) (hs : s.size ≤ maxLen) (w : World) (hW : Wl w) :
    Calls Tryd.prog 83 #[.string s] w fun e w' => e = .returned (.bool (Hv.path s)) ∧ Below w.heap.size w w' := by
  have HP := Lib.hid (fun W => utfPlain_any s hs W)
  unfold maxLen at hs
  obtain ⟨v, hv⟩ : ∃ v, Hv.path s = v := ⟨_, rfl⟩
  rw [hv]
  unfold Hv.path at hv
  have HW := Lib.hid hW
  clear hW
  by_cases h1 : s.size < 1
  · have q1 : (s.size : Int) < 1 := by omega
    rw [decide_eq_false (show ¬ 1 ≤ s.size by omega)] at hv
    have HV : Hid (v = false) := hv.symm
    clear hv h1
    go_enter Tryd.func83, Tryd.ntmps83
    go_wp2
    go_ret
    exact ⟨by rw [HV.out]; rfl, Below.refl _ _⟩
  · have q1 : ¬ (s.size : Int) < 1 := by omega
    rw [decide_eq_true (show 1 ≤ s.size by omega)] at hv
    by_cases h2 : 256 < s.size
    · have q2 : (256 : Int) < (s.size : Int) := by omega
      rw [decide_eq_false (show ¬ s.size ≤ 256 by omega)] at hv
      have HV : Hid (v = false) := hv.symm
      clear hv h1 h2
      go_enter Tryd.func83, Tryd.ntmps83
      go_wp2
      go_ret
      exact ⟨by rw [HV.out]; rfl, Below.refl _ _⟩
    · have q2 : ¬ (256 : Int) < (s.size : Int) := by omega
      rw [decide_eq_true (show s.size ≤ 256 by omega)] at hv
      cases hp : Te.plain s with
      | false =>
        rw [hp] at hv HP
        have HV : Hid (v = false) := hv.symm
        clear hv h1 h2 hp
        go_enter Tryd.func83, Tryd.ntmps83
        go_wp2_with (refine (HP.out _).mono ?_; rintro e w1 ⟨rfl, hb⟩)
        go_ret
        exact ⟨by rw [HV.out]; rfl, hb⟩
      | true =>
        rw [hp] at hv HP
        have HC : Hid (∀ W, Calls Tryd.prog 68 #[.string s, .string ⟨#[91, 93]⟩] W fun e w' => e = .returned (.bool (Lib.containsAny (tl s) Hv.sqs)) ∧ Below W.heap.size W w') := fun W => sqContains_all s (by omega) W
        cases hc : Lib.containsAny (tl s) Hv.sqs with
        | true =>
          rw [hc] at hv HC
          have HV : Hid (v = false) := hv.symm
          clear hv h1 h2 hp hc
          go_enter Tryd.func83, Tryd.ntmps83
          go_wp2_with (first | (go_at_call 67; refine (HP.out _).mono ?_; rintro e w1 ⟨rfl, hb⟩) | (go_at_call 68; refine (HC.out _).mono ?_; rintro e w2 ⟨rfl, hb2⟩))
          go_ret
          exact ⟨by rw [HV.out]; rfl, below_then hb hb2⟩
        | false =>
          rw [hc] at hv HC
          have HS := Lib.hid (fun W (hW : Wl W) => hvSplit s (by omega) W hW)
          have HV := Lib.hid hv
          have hpl := parts_len s (by omega)
          clear hv h1 h2 hp hc
          obtain ⟨l, hl⟩ : ∃ l, Hv.parts s = l := ⟨_, rfl⟩
          rw [hl] at HS HV hpl
          have HK : Hid (∀ W : World, Calls Tryd.prog 93 #[.slice (some ⟨W.heap.size, 0, none⟩) l.length l.length, .string ⟨#[]⟩] (W.alloc (.cells (l.map Value.string).toArray 9)) fun e w' => e = .returned (.bool (Lib.containsS l ⟨#[]⟩)) ∧ w' = W.alloc (.cells (l.map Value.string).toArray 9)) := by
            intro W
            have h := Tryd.slices_Contains_string W.heap.size 0 l.length l.length l ⟨#[]⟩ (W.alloc (.cells (l.map Value.string).toArray 9)) (Nat.le_refl _) hpl (fun j hj => cell_str W l 9 j hj)
            rw [List.take_length] at h
            exact h
          obtain ⟨q, hq⟩ : ∃ q, Lib.containsS l ⟨#[]⟩ = q := ⟨_, rfl⟩
          rw [hq] at HK HV
          clear hl hq
          go_enter Tryd.func83, Tryd.ntmps83
          go_wp2_with (first | (go_at_call 67; refine (HP.out _).mono ?_; rintro e w1 ⟨rfl, hb⟩) | (go_at_call 68; refine (HC.out _).mono ?_; rintro e w2 ⟨rfl, hb2⟩) | (go_at_call 94; refine (HS.out _ ((HW.out.below hb).below hb2)).mono ?_; rintro e w3 ⟨rfl, rfl⟩) | (go_at_call 93; refine (HK.out _).mono ?_; rintro e w4 ⟨rfl, rfl⟩))
          go_ret
          refine ⟨?_, (below_then hb hb2).alloc (below_then hb hb2).size _⟩
          rw [← HV.out]
          simp
end Go.Proofs.YtajcgoinhpengaaDoor

/- The hive of one key without values: hive.Put to the empty hive, hive.Under. -/
namespace Go.Proofs.YtajcgoinhpengaaDoor
open Go.RowKit

/-- An owned row of one element at least lies in a block. -/
theorem own_at {w : World} {B size n : Nat} {e : TypeId} {v : Value} {xs : List Value} (h : w.ownsRow B e size v n xs) (hn : 1 ≤ n) : ∃ g c, v = .slice (some ⟨g, 0, none⟩) n c ∧ n ≤ c ∧ c ≤ maxLen ∧ B ≤ g ∧ At w g xs := by
  rcases h.2 with ⟨hv, h0⟩ | ⟨g, cap, cur, hv, hb, hg, h1, h2, _⟩
  · omega
  · subst hv
    refine ⟨g, cap, rfl, h1, h2, hb, (Array.getElem?_eq_some_iff.1 hg).1, fun j u hj => ?_⟩
    obtain ⟨ad, e, _, hc⟩ := (Reads.of_own h).2 (by omega)
    injection e with e
    subst e
    have h3 := hc j u hj
    have e : (⟨g, 0, none⟩ : Addr).add j = ⟨g, j, none⟩ := by
      unfold Addr.add
      rcases Nat.eq_zero_or_pos j with h0 | h0
      · subst h0; rfl
      · simp [show ¬ j = 0 by omega]
    rw [e] at h3
    exact ⟨h3, by simp [World.frozen?, hg]⟩
set_option maxHeartbeats 2000000 in
set_option maxRecDepth 100000 in
theorem hvCheck_nil (w : World) : Calls Tryd.prog 61 #[.agg #[.slice none 0 0]] w fun e w' => e = .returned (.int .i64 0) ∧ Below w.heap.size w w' := by
  have hmk := make_set 0
  go_enter Tryd.func61, Tryd.ntmps61
  go_wp2_with fail
  go_loopw [19] (fun i wr => i = .int .i64 0 ∧ Hid (Below w.heap.size w wr)) (fun _ _ => 0)
  case atStart => exact ⟨rfl, bal (bal1 _ _) _⟩
  case round =>
    obtain ⟨rfl, HB⟩ := hrel
    go_wp2
    go_ret
    exact ⟨rfl, HB.out⟩
set_option maxHeartbeats 2000000 in
set_option maxRecDepth 100000 in
theorem hvKey_none (p : ByteArray) (hp : Hv.path p = true) (A : Option Addr) (c : Nat) (w : World) (hW : Wl w) : Calls Tryd.prog 74 #[.agg #[.string p, .slice A 0 c]] w fun e w' => e = .returned (.bool true) ∧ Below w.heap.size w w' := by
  have hmk := make_set 0
  have HP : Hid (∀ W, Below w.heap.size w W → Calls Tryd.prog 83 #[.string p] W fun e w' => e = .returned (.bool true) ∧ Below W.heap.size W w') := by
    intro W hb
    have h := hvPath_any p (Nat.le_trans (Hv.path_size hp) (by decide)) W (hW.below hb)
    rw [hp] at h
    exact h
  clear hW hp
  have HB0 := Lib.hid (bal1 w (.cells #[.string p, .slice A 0 c] 130))
  have HA0 := Lib.hid (At.new w #[.string p, .slice A 0 c] 130)
  obtain ⟨W0, hW0⟩ : ∃ W, w.alloc (.cells #[.string p, .slice A 0 c] 130) = W := ⟨_, rfl⟩
  rw [hW0] at HB0 HA0
  have a0 := HA0.out.cell 0 _ rfl
  have HW0 := Lib.hid hW0
  clear hW0
  go_enter Tryd.func74, Tryd.ntmps74
  go_wp2_with fail
  rw [HW0.out]
  go_wp2_with fail
  refine (HP.out _ HB0.out).mono ?_
  rintro e w1 ⟨rfl, hb⟩
  have HB1 := Lib.hid (below_then HB0.out hb)
  have a1 := (HA0.out.call hb).cell 1 _ rfl
  have hlt1 := (HA0.out.call hb).lt
  clear hb a0
  go_wp2_with fail
  go_loopw [25] (fun i wr => i = .int .i64 0 ∧ Hid (Below w.heap.size w wr)) (fun _ _ => 0)
  case atStart => exact ⟨rfl, bal HB1.out _⟩
  case round =>
    obtain ⟨rfl, HB⟩ := hrel
    go_wp2
    go_ret
    exact ⟨rfl, HB.out⟩
set_option maxHeartbeats 2000000 in
set_option maxRecDepth 100000 in
theorem hvCheck_one (p : ByteArray) (hp : Hv.path p = true) (A : Option Addr) (c g c1 : Nat) (w : World) (hW : Wl w) (hA : At w g [.string p, .slice A 0 c]) : Calls Tryd.prog 61 #[.agg #[.slice (some ⟨g, 0, none⟩) 1 c1]] w fun e w' => e = .returned (.int .i64 0) ∧ Below w.heap.size w w' := by
  have hmk := make_set 1
  have hps : p.size ≤ maxLen := Nat.le_trans (Hv.path_size hp) (by decide)
  have HK : Hid (∀ W, Below w.heap.size w W → Calls Tryd.prog 74 #[.agg #[.string p, .slice A 0 c]] W fun e w' => e = .returned (.bool true) ∧ Below W.heap.size W w') := fun W hb => hvKey_none p hp A c W (hW.below hb)
  have HA := Lib.hid hA
  clear hW hp hA
  obtain ⟨W0, hW0⟩ : ∃ W, (w.alloc (.cells #[.slice (some ⟨g, 0, none⟩) 1 c1] 97)).alloc (.map #[] 0) = W := ⟨_, rfl⟩
  obtain ⟨bm, hbm⟩ : ∃ b, w.heap.size + 1 = b := ⟨_, rfl⟩
  have HB0 : Hid (Below w.heap.size w W0) := by show Below _ _ _; rw [← hW0]; exact bal (bal1 _ _) _
  have HM0 : Hid (MapF Tryd.prog 9 W0 bm 0 (Ca.sf [])) := by
    show MapF _ _ _ _ _ _
    rw [← hW0, ← hbm]
    have h := MapF.made (P := Tryd.prog) (k := 9) (w.alloc (.cells #[.slice (some ⟨g, 0, none⟩) 1 c1] 97))
    rw [World.size_alloc] at h
    exact h
  have HBm := Lib.hid hbm
  have b0 : W0.cell? ⟨w.heap.size, 0, none⟩ = some (.slice (some ⟨g, 0, none⟩) 1 c1) := by
    rw [← hW0]
    exact ((At.new w #[.slice (some ⟨g, 0, none⟩) 1 c1] 97).allocO _).cell 0 _ rfl
  have HW0 := Lib.hid hW0
  clear hW0 hbm
  go_enter Tryd.func61, Tryd.ntmps61
  go_wp2_with fail
  rw [HW0.out, HBm.out]
  go_wp2_with fail
  clear hmk b0
  go_loopw [19] (fun i wr => ∃ k : Nat, k ≤ 1 ∧ i = .int .i64 (k : Int) ∧ Hid (Below w.heap.size w wr) ∧ (k = 0 → Hid (MapF Tryd.prog 9 wr bm 0 (Ca.sf [])))) (fun i _ => 1 - (intOf i).toNat)
  case atStart => exact ⟨0, by omega, rfl, HB0.out, fun _ => HM0.out⟩
  case round =>
    obtain ⟨k, hk, rfl, HB, hM⟩ := hrel
    by_cases hlt : k < 1
    · have hk0 : k = 0 := by omega
      subst hk0
      have HM := hM rfl
      clear hM
      obtain ⟨a0, a1, _⟩ := (HA.out.call HB.out).two
      have hA9 := (At.new wr #[.string p, .slice A 0 c] 130)
      obtain ⟨V, hV⟩ : ∃ V, wr.alloc (.cells #[.string p, .slice A 0 c] 130) = V := ⟨_, rfl⟩
      rw [hV] at hA9
      have HA9 := Lib.hid hA9
      have HB9 : Hid (Below w.heap.size w V) := by show Below _ _ _; rw [← hV]; exact bal HB.out _
      have HM9 : Hid (MapF Tryd.prog 9 V bm 0 (Ca.sf [])) := by show MapF _ _ _ _ _ _; rw [← hV]; exact HM.out.alloc _
      have HV := Lib.hid hV
      have hq : Ca.has [] p = false := rfl
      obtain ⟨d0, d1, _⟩ := HA9.out.two
      have e0 : ((0 : Nat) : Int) = 0 := rfl
      clear hA9 hV
      go_wp2_with fail
      rw [HV.out]
      go_wp2_with fail
      refine (HK.out _ HB9.out).mono ?_
      rintro e w2 ⟨rfl, hb⟩
      have HB2 := Lib.hid (below_then HB9.out hb)
      have HM2 := Lib.hid (HM9.out.below hb)
      have HA2 := Lib.hid (HA9.out.call hb)
      obtain ⟨e0, e1, _⟩ := HA2.out.two
      have hlt2 := HA2.out.lt
      clear d0 d1 hb a0 a1
      go_wp2_with (first | (at_lookup; refine look_set _ rfl _ _ bm 0 [] p hps rfl rfl rfl HM2.out false hq ?_) | (at_mapUpdate; refine store_set _ rfl _ _ _ bm 0 [] p hps (by decide) rfl rfl rfl rfl (HM2.out.alloc _) ?_; intro w3 hM3 hg3; have HB3 := Lib.hid ((bal HB2.out (.cells #[] 85)).grown hg3 (bal HB2.out (.cells #[] 85)).size (fun j e => by cases e; have := HBm.out; omega)); clear hM3 hg3))
      go_roundw
      case rel => exact ⟨1, by omega, by go_num, HB3.out, fun h => by omega⟩
      case measure => simp [intOf]
    · have hk1 : k = 1 := by omega
      subst hk1
      go_wp2
      go_ret
      exact ⟨rfl, HB.out⟩
set_option maxHeartbeats 2000000 in
set_option maxRecDepth 100000 in
theorem hvIndex_nil (f : Value) (w : World) : Calls Tryd.prog 75 #[.slice none 0 0, f] w fun e w' => e = .returned (.int .i64 (-1)) ∧ Drew w w' := by
  go_enter Tryd.func75, Tryd.ntmps75
  go_wp2
  go_loopw [8] (fun i wr => i = .int .i64 0 ∧ wr = w) (fun _ _ => 0)
  case atStart => exact ⟨rfl, rfl⟩
  case round =>
    obtain ⟨rfl, rfl⟩ := hrel
    go_wp2
    go_ret
    exact ⟨rfl, Drew.refl _⟩
set_option maxHeartbeats 2000000 in
set_option maxRecDepth 100000 in
theorem hvPlace_nil (p : ByteArray) (w : World) : Calls Tryd.prog 63 #[.agg #[.slice none 0 0], .string p] w fun e w' => e = .returned (.int .i64 (-1)) ∧ Below w.heap.size w w' := by
  have HI := Lib.hid (fun f W => hvIndex_nil f W)
  go_enter Tryd.func63, Tryd.ntmps63
  go_wp2_with (refine (HI.out _ _).mono ?_; rintro e w1 ⟨rfl, hd⟩)
  go_ret
  exact ⟨rfl, below_drew (bal (bal1 _ _) _) hd⟩
end Go.Proofs.YtajcgoinhpengaaDoor

/- hive.Put of a key without values to the empty hive; hive.Under of that. -/
namespace Go.Proofs.YtajcgoinhpengaaDoor
open Go.RowKit

theorem value_info : (Tryd.prog.info? 128).map (fun i => (i.zero, i.size, i.bytes)) = some (some (.agg #[.string ⟨#[]⟩, .int .u8 0, .string ⟨#[]⟩, .int .u32 0, .string ⟨#[]⟩]), 5, 64) := by kernel_rfl
theorem key_info : (Tryd.prog.info? 130).map (fun i => (i.zero, i.size, i.bytes)) = some (some (.agg #[.string ⟨#[]⟩, .slice none 0 0]), 2, 40) := by kernel_rfl
theorem copy_nil_value (a : Addr) (n c : Nat) (ty : TypeId) (W : World) : (Builtin.copy_ #[122, 122] ty #[.slice (some a) n c, .slice none 0 0]).run Tryd.prog W = .ok (goInt 0) W :=
  run_copy_nil (P := Tryd.prog) W _ _ ty 128 a n c Tryd.underlying122 (by kernel_rfl)
theorem copy_nil_key (a : Addr) (n c : Nat) (ty : TypeId) (W : World) : (Builtin.copy_ #[95, 95] ty #[.slice (some a) n c, .slice none 0 0]).run Tryd.prog W = .ok (goInt 0) W :=
  run_copy_nil (P := Tryd.prog) W _ _ ty 130 a n c Tryd.underlying95 (by kernel_rfl)
set_option maxHeartbeats 2000000 in
set_option maxRecDepth 100000 in
theorem hvput_nil (w : World) : Calls Tryd.prog 64 #[.slice none 0 0, .slice none 0 0] w fun e w' => (∃ g, e = .returned (.slice (some ⟨g, 0, none⟩) 0 0)) ∧ Below w.heap.size w w' := by
  obtain ⟨i0, hi0, hz0, hz1, hz2⟩ := info_parts value_info
  have hmm := make_int 0
  have hmk := fun W : World => run_make (P := Tryd.prog) W 122 128 i0 _ Tryd.underlying122 hi0 hz0 .i64 .i64 0 0 (by omega) (by omega) (by rw [hz2]; omega) (by omega)
  rw [hz1] at hmk
  obtain ⟨MC, hMC⟩ : ∃ x, madeCells (Value.agg #[.string ⟨#[]⟩, .int .u8 0, .string ⟨#[]⟩, .int .u32 0, .string ⟨#[]⟩]).cells ((0 : Int).toNat * 5) = x := ⟨_, rfl⟩
  rw [hMC] at hmk
  have hcp := copy_nil_value
  clear hMC hi0 hz0 hz1 hz2
  go_enter Tryd.func64, Tryd.ntmps64
  go_wp2_with fail
  go_loopw [29] (fun i wr => i = .int .i64 0 ∧ Hid (Below w.heap.size w wr)) (fun _ _ => 0)
  case atStart => exact ⟨rfl, bal (bal1 _ _) _⟩
  case round =>
    clear hmk hmm hcp
    obtain ⟨rfl, HB⟩ := hrel
    go_wp2_with fail
    go_loopw [5, 41] (fun v i wv => i = .int .i64 0 ∧ v = .slice (some ⟨w.heap.size, 0, none⟩) 0 0 ∧ Hid (Below w.heap.size w wv)) (fun _ _ _ => 0)
    case atStart => exact ⟨rfl, rfl, HB.out⟩
    case round =>
      obtain ⟨rfl, rfl, HB2⟩ := hrel
      go_wp2
      go_ret
      exact ⟨⟨_, rfl⟩, HB2.out⟩
theorem put_results {tmps : Array Value} {w : World} {b : Nat} {v : Value} (h6 : tmps[6]?.getD undef = .pointer (some ⟨b, 0, none⟩)) (h7 : tmps[7]?.getD undef = .int .i64 0) (hb : w.cell? ⟨b, 0, none⟩ = some v) :
    (results Tryd.f41 tmps).run Tryd.prog w = .ok (.tuple #[.agg #[v], .int .i64 0]) w := by
  simp [results, Tryd.f41, go_sem, h6, h7, hb]
set_option maxHeartbeats 2000000 in
set_option maxRecDepth 100000 in
theorem hvPut_one (p : ByteArray) (hp : Hv.path p = true) (w : World) (hW : Wl w) : Calls Tryd.prog 41 #[.agg #[.slice none 0 0], .string p, .slice none 0 0] w
    fun e w' => (∃ g c A, e = .returned (.tuple #[.agg #[.slice (some ⟨g, 0, none⟩) 1 c], .int .i64 0]) ∧ 1 ≤ c ∧ c ≤ maxLen ∧ At w' g [.string p, .slice A 0 0]) ∧ Below w.heap.size w w' := by
  obtain ⟨i0, hi0, hz0, hz1, hz2⟩ := info_parts key_info
  have hmk := fun W : World => run_make (P := Tryd.prog) W 95 130 i0 _ Tryd.underlying95 hi0 hz0 .i64 .i64 0 1 (by omega) (by omega) (by rw [hz2]; omega) (by omega)
  rw [hz1] at hmk
  obtain ⟨MC, hMC⟩ : ∃ x, madeCells (Value.agg #[.string ⟨#[]⟩, .slice none 0 0]).cells ((1 : Int).toNat * 2) = x := ⟨_, rfl⟩
  rw [hMC] at hmk
  have hMs : MC.size = 1 * 2 := by rw [← hMC, size_madeCells]; simp
  have hcp := copy_nil_key
  have HC := Lib.hid hvCheck_nil
  have HI := Lib.hid (And.intro hi0 (And.intro hz0 (And.intro hz1 hz2)))
  have HMk : Hid (∀ W : World, (Instr.makeSlice 95 (.int .i64 0) (.int .i64 1)).run Tryd.prog W = .ok (.slice (some ⟨W.heap.size, 0, none⟩) 0 1) (W.alloc (.cells MC 130))) := fun W => hmk W
  obtain ⟨W1, hW1⟩ : ∃ W, (w.alloc (.cells #[.slice none 0 0] 97)).alloc (.cells #[.slice none 0 0] 97) = W := ⟨_, rfl⟩
  have hA1 : At W1 w.heap.size [.slice none 0 0] := by rw [← hW1]; exact (At.new w #[.slice none 0 0] 97).allocO _
  have hR1 : At W1 (w.heap.size + 1) [.slice none 0 0] := by
    rw [← hW1]
    have h := At.new (w.alloc (.cells #[.slice none 0 0] 97)) #[.slice none 0 0] 97
    rw [World.size_alloc] at h
    exact h
  have HB1 : Hid (Below w.heap.size w W1) := by show Below _ _ _; rw [← hW1]; exact bal (bal1 _ _) _
  have HA1 := Lib.hid hA1
  have HR1 := Lib.hid hR1
  have HW1 := Lib.hid hW1
  have HW := Lib.hid hW
  have HMs := Lib.hid hMs
  have HPt := Lib.hid hp
  clear hMC hmk hi0 hz0 hz1 hz2 hA1 hR1 hW1 hW hMs hp
  go_enter Tryd.func41, Tryd.ntmps41
  go_wp2_with fail
  rw [HW1.out]
  refine (HC.out _).mono ?_
  rintro e w2 ⟨rfl, hb2⟩
  have HB2 := Lib.hid (below_then HB1.out hb2)
  have HA2 := Lib.hid (HA1.out.call hb2)
  have HR2 := Lib.hid (HR1.out.call hb2)
  have a0 := HA2.out.cell 0 _ rfl
  have hlt2 := HA2.out.lt
  have hmk := HMk.out
  clear hb2
  obtain ⟨w3, hw3⟩ : ∃ W, w2.alloc (.cells MC 130) = W := ⟨_, rfl⟩
  obtain ⟨K, hK⟩ : ∃ k, w2.heap.size = k := ⟨_, rfl⟩
  have hB3 : Below w.heap.size w w3 := by rw [← hw3]; exact bal HB2.out _
  have hA3 : At w3 w.heap.size [.slice none 0 0] := by rw [← hw3]; exact HA2.out.allocO _
  have hR3 : At w3 (w.heap.size + 1) [.slice none 0 0] := by rw [← hw3]; exact HR2.out.allocO _
  have hO3 : w3.ownsRow K 130 2 (.slice (some ⟨K, 0, none⟩) 0 1) 0 [] := by
    rw [← hw3, ← hK]
    exact World.ownsRow_made w2 MC 1 (Nat.le_refl _) (by unfold maxLen; omega) HMs.out
  have HKl := Lib.hid (show w.heap.size + 1 < K by rw [← hK]; exact HR2.out.lt)
  have HW3 := Lib.hid hw3
  have HK := Lib.hid hK
  have HB3 := Lib.hid hB3
  have HA3 := Lib.hid hA3
  have HR3 := Lib.hid hR3
  have HO3 := Lib.hid hO3
  clear hw3 hK hB3 hA3 hR3 hO3
  go_wp2_with fail
  rw [HW3.out, HK.out]
  clear hmk a0 hlt2 hcp
  go_loopw [30] (fun i wr => i = .int .i64 0 ∧ Hid (wr = w3)) (fun _ _ => 0)
  case atStart => exact ⟨rfl, rfl⟩
  case round =>
    obtain ⟨rfl, HWr⟩ := hrel
    rw [HWr.out]
    have a0 := HA3.out.cell 0 _ rfl
    have HPl := Lib.hid (hvPlace_nil p w3)
    go_wp2_with fail
    refine HPl.out.mono ?_
    rintro e w4 ⟨rfl, hb4⟩
    have HB4 := Lib.hid (below_then HB3.out hb4)
    have HR4 := Lib.hid (HR3.out.call hb4)
    have HO4 := Lib.hid (own_below HO3.out hb4)
    have HK4 := Lib.hid (HO4.out.lt K rfl).2
    clear hb4 a0
    have HAp := Lib.hid fun (_ : True) {ops : Array Oper} {rest : List Oper} {o : Oper} {a : Act} {Q : Exit → Act → World → Prop} (hgd : o.guard = none) (ho : o.op = .call { callee := .builtin .append, args := #[.tmp 51, .tmp 54], argTypes := #[95, 95] }) (hs : a.eval (.tmp 51) = .slice (some ⟨K, 0, none⟩) 0 1) (hx : a.eval (.tmp 54) = .slice (some ⟨w4.heap.size, 0, none⟩) 1 1) h => wpList_append_any (P := Tryd.prog) (ops := ops) (rest := rest) (o := o) (a := a) (Q := Q) (w4.alloc (.cells #[.string p, .slice none 0 0] 130)) hgd (.tmp 51) (.tmp 54) 95 ho K 130 i0 _ 2 40 Tryd.underlying95 HI.out.1 HI.out.2.1 HI.out.2.2.1 HI.out.2.2.2 rfl (by decide) _ 0 [] hs (HO4.out.alloc _) _ _ 1 1 _ hx ((At.new w4 #[.string p, .slice none 0 0] 130).reads rfl) (by intro u hu; simp only [List.mem_cons, List.not_mem_nil, or_false] at hu; rcases hu with rfl | rfl <;> rfl) (by unfold maxLen; omega) (by omega) (by rw [World.size_alloc]; have := HK4.out; omega) h
    go_wp2_with (at_builtin; go_loud (refine HAp.out trivial rfl rfl rfl rfl ?_; intro v9 w9 hown9 hg9 hat9; obtain ⟨g, c9, rfl, hc91, hc92, hgk, hA9⟩ := own_at hown9 (by omega); have HB9 := Lib.hid ((bal HB4.out (.cells #[.string p, .slice none 0 0] 130)).grown hg9 (bal HB4.out (.cells #[.string p, .slice none 0 0] 130)).size (fun j e => by have := (HO4.out.lt j e).1; have := HKl.out; omega)); have HR9 := Lib.hid (Sc.At.grownO (HR4.out.allocO (.cells #[.string p, .slice none 0 0] 130)) hg9 (fun j e => by have := (HO4.out.lt j e).1; have := HKl.out; omega)); have HA9 := Lib.hid hA9; have HPn := Lib.hid (hvput_nil w9); have a1 := HA9.out.cell 1 _ rfl; clear hown9 hg9 hat9 hA9))
    refine HPn.out.mono ?_
    rintro e w10 ⟨⟨g2, rfl⟩, hb10⟩
    have HB10 := Lib.hid (below_then HB9.out hb10)
    have HR10 := Lib.hid (HR9.out.call hb10)
    have HA10 := Lib.hid (HA9.out.call hb10)
    have HGk := Lib.hid hgk
    obtain ⟨t0, t1, f0, f1⟩ := HA10.out.two
    clear a1 hb10 hgk
    obtain ⟨W11, hW11⟩ : ∃ W, w10.setCell ⟨g, 1, none⟩ (.slice (some ⟨g2, 0, none⟩) 0 0) = W := ⟨_, rfl⟩
    have HB11 : Hid (Below w.heap.size w W11) := by
      show Below _ _ _
      rw [← hW11]
      exact HB10.out.setCell (by show w.heap.size ≤ g; have h1 := HGk.out; have h2 := HKl.out; omega) _
    have HA11 : Hid (At W11 g [.string p, .slice (some ⟨g2, 0, none⟩) 0 0]) := by
      show At _ _ _
      rw [← hW11]
      exact HA10.out.set 1 _
    have HR11 : Hid (At W11 (w.heap.size + 1) [.slice none 0 0]) := by
      show At _ _ _
      rw [← hW11]
      exact HR10.out.set_other _ _ (by show g ≠ w.heap.size + 1; have h1 := HGk.out; have h2 := HKl.out; omega)
    have HW11 := Lib.hid hW11
    obtain ⟨w12, hw12⟩ : ∃ W, W11.alloc (.cells #[.slice (some ⟨g, 0, none⟩) 1 c9] 97) = W := ⟨_, rfl⟩
    have HB12 : Hid (Below w.heap.size w w12) := by show Below _ _ _; rw [← hw12]; exact bal HB11.out _
    have HA12 : Hid (At w12 g [.string p, .slice (some ⟨g2, 0, none⟩) 0 0]) := by show At _ _ _; rw [← hw12]; exact HA11.out.allocO _
    have HR12 : Hid (At w12 (w.heap.size + 1) [.slice none 0 0]) := by show At _ _ _; rw [← hw12]; exact HR11.out.allocO _
    have hz11 : W11.heap.size = w10.heap.size := by rw [← hW11, heap_set]
    have HM12 : Hid (At w12 w10.heap.size [.slice (some ⟨g, 0, none⟩) 1 c9]) := by show At _ _ _; rw [← hw12, ← hz11]; exact At.new _ _ _
    have HW12 := Lib.hid hw12
    have HCk := Lib.hid (hvCheck_one p HPt.out _ 0 g c9 w12 (HW.out.below HB12.out) HA12.out)
    clear hW11 hw12 hz11
    go_wp2_with fail
    rw [HW11.out, HW12.out]
    refine HCk.out.mono ?_
    rintro e w13 ⟨rfl, hb13⟩
    have HB13 := Lib.hid (below_then HB12.out hb13)
    have HR13 := Lib.hid (HR12.out.call hb13)
    have HM13 := Lib.hid (HM12.out.call hb13)
    have HA13 := Lib.hid (HA12.out.call hb13)
    have m0 := HM13.out.cell 0 _ rfl
    have r0 := HR13.out.cell 0 _ rfl
    have r1 := HR13.out.free 0 _ rfl
    clear hb13 t0 t1 f0 f1
    go_wp2
    refine bodyPost_ret (put_results rfl rfl ((HR13.out.set 0 _).cell 0 _ rfl)) rfl ?_
    refine ⟨⟨g, c9, _, rfl, hc91, hc92, HA13.out.set_other _ _ ?_⟩, HB13.out.setCell (by show w.heap.size ≤ w.heap.size + 1; omega) _⟩
    show w.heap.size + 1 ≠ g
    have h1 := HGk.out
    have h2 := HKl.out
    omega
end Go.Proofs.YtajcgoinhpengaaDoor
