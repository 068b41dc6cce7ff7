/- strings.ContainsAny of any text and the two signs [ and ]. -/
import Derived.Test.YthmhadgbhakdlaaGreatDoorK04
import Derived.Test.YthmhadgbhakdlaaGreatDoorK01
import Derived.Lib.SplitLaws

namespace Go.Proofs.YthmhadgbhakdlaaGreatDoor
open Go.RowKit

namespace Hv
def sqs : List UInt8 := [91, 93]
end Hv
def sq : ByteArray := ⟨#[91, 93]⟩
theorem sq_size : sq.size = 2 := rfl
theorem sq_ascii : ∀ j (h : j < sq.size), (sq[j]'h).toNat < 128 := by
  intro j h
  have h' : j < 2 := h
  rcases (by omega : j = 0 ∨ j = 1) with rfl | rfl <;> decide +revert
set_option maxHeartbeats 2000000 in
set_option maxRecDepth 100000 in
theorem sqRune_wrong (w : World) :
    Calls Tryz.prog 151 #[.string sq, .int .i32 65533] w fun e w' => e = .returned (.int .i64 (-1)) ∧ Below w.heap.size w w' := by
  have HS := Lib.hid sq_size
  have HA := Lib.hid sq_ascii
  obtain ⟨s, hs⟩ : ∃ s, sq = s := ⟨_, rfl⟩
  rw [hs] at HS HA ⊢
  clear hs
  go_enter Tryz.func151, Tryz.ntmps151
  go_wp2
  go_loopw [176] (fun _ wr => ∃ (pos : Nat), wr = w.iter s pos) (fun _ wr => s.size - wr.iterPos w.heap.size)
  case atStart => exact ⟨0, rfl⟩
  case round =>
    obtain ⟨pos, rfl⟩ := hrel
    by_cases hp : pos < s.size
    · have hx := HA.out pos hp
      have hnx := fun ty => run_next_ascii (P := Tryz.prog) w s pos ty hp hx
      obtain ⟨x, hxx⟩ : ∃ x, (s[pos]'hp).toNat = x := ⟨_, rfl⟩
      rw [hxx] at hx hnx
      clear hxx
      have q1 : ((x : Int) == 65533) = false := by rw [beq_eq_false_iff_ne]; omega
      have q2 : ¬ (x : Int) = 65533 := by omega
      go_wp2
      go_roundw
      case rel => exact ⟨pos + 1, rfl⟩
      case measure => simp only [World.iterPos_iter]; omega
    · have hnx : ∀ ty, (Instr.next (.pointer (some ⟨w.heap.size, 0, none⟩)) true ty).run Tryz.prog (w.iter s pos) = _ := fun ty => run_next_end w s pos ty hp
      go_wp2
      go_ret
      exact ⟨rfl, iter_below s pos⟩
set_option maxHeartbeats 2000000 in
set_option maxRecDepth 100000 in
theorem sqRune_high (r : Int) (h1 : 128 ≤ r) (h2 : r ≤ 2147483647) (h3 : r ≠ 65533) (w : World) :
    Calls Tryz.prog 151 #[.string sq, .int .i32 r] w fun e w' => e = .returned (.int .i64 (-1)) ∧ Below w.heap.size w w' := by
  have q1 : ¬ r < 128 := by omega
  have q2 : (r == 65533) = false := by rw [beq_eq_false_iff_ne]; exact h3
  have q0 : 0 ≤ r := by omega
  have hV := fun W => Tryz.utf8_ValidRune r W
  cases hv : Lib.validRune r with
  | false =>
    rw [hv] at hV
    have HV := Lib.hid hV
    clear hv hV
    go_enter Tryz.func151, Tryz.ntmps151
    go_wp2_with (refine (HV.out _).mono ?_; rintro e w' ⟨rfl, rfl⟩)
    go_wp2
    go_ret
    exact ⟨rfl, Below.refl _ _⟩
  | true =>
    rw [hv] at hV
    have HV := Lib.hid hV
    have hvv : Utf8.valid r = true := by
      unfold Lib.validRune at hv
      have := of_decide_eq_true hv
      unfold Utf8.valid
      simp only [Bool.or_eq_true, Bool.and_eq_true, decide_eq_true_eq]
      omega
    obtain ⟨f1, f2, f3⟩ := encode_facts r hvv h1
    clear hv hV hvv h1 h2
    obtain ⟨x, hx⟩ : ∃ x, Utf8.encode r = x := ⟨_, rfl⟩
    have hcv : ∀ W, (convert 21 9 (.int .i32 r)).run Tryz.prog W = .ok (.string x) W := fun W => by
      rw [← hx]
      exact run_convert_int_string W _ _ _ _ (by rw [Tryz.underlying21]; rfl) Tryz.underlying9
    rw [hx] at f1 f2 f3
    clear hx
    obtain ⟨c, hc⟩ : ∃ c, x[x.size - 1]'(by omega) = c := ⟨_, rfl⟩
    have hc128 : 128 ≤ c.toNat := by rw [← hc]; exact f3 (by omega)
    have HI : Hid (∀ k W, Calls Tryz.prog 175 #[.string (sq.extract k sq.size), .int .u8 c.toNat] W fun e w' => e = .returned (.int .i64 (-1)) ∧ w' = W) := by
      intro k W
      have h := Tryz.strings_IndexByte (sq.extract k sq.size) c.toNat W
      rw [no_high] at h
      · exact h
      · intro b hb e
        rw [Lib.extract_data] at hb
        have hb2 := List.mem_of_mem_drop (List.mem_of_mem_take hb)
        have : ∀ b ∈ sq.data.toList, b.toNat < 128 := by decide
        have h5 := this b hb2
        rw [e] at h5
        simp at h5
        omega
    have HS := Lib.hid sq_size
    have HA := Lib.hid sq_ascii
    obtain ⟨s, hs⟩ : ∃ s, sq = s := ⟨_, rfl⟩
    rw [hs] at HS HA HI ⊢
    clear hs
    obtain ⟨m, hm⟩ : ∃ m, x.size - 1 = m := ⟨_, rfl⟩
    have hm1 : x.size = m + 1 := by omega
    have hm2 : 1 ≤ m ∧ m ≤ 3 := by omega
    simp only [hm] at hc
    have hmx : m < x.size := by omega
    have hc' : x[m]'hmx = c := hc
    clear hc
    by_cases hms : m < s.size
    case neg =>
      have w1 : IntKind.i64.wrap ((m : Int) + 1 - 1) = m := by rw [IntKind.wrap_i64]; omega
      have w3 : wrap64 (m : Int) = m := by unfold wrap64; omega
      have l1 : ¬ (m : Int) < (s.size : Int) := by omega
      clear hm f1 f2 f3 hc128 hm2
      go_enter Tryz.func151, Tryz.ntmps151
      go_wp2_with (refine (HV.out _).mono ?_; rintro e w' ⟨rfl, rfl⟩)
      go_wp2
      go_step3
      go_wp2
      go_loopw [9] (fun i wr => i = .int .i64 m ∧ Hid (Drew w' wr)) (fun _ _ => 0)
      case atStart => exact ⟨by rw [w3], Drew.refl _⟩
      case round =>
        obtain ⟨rfl, HD⟩ := hrel
        go_wp2
        simp +zetaDelta only [Exit.inBlock, Exit.noGoto_ret]
        go_ret
        exact ⟨rfl, HD.out.below _⟩
    obtain ⟨y, hy⟩ : ∃ y, s[m]'hms = y := ⟨_, rfl⟩
    have hy128 : y.toNat < 128 := by rw [← hy]; exact HA.out m hms
    have qy : ((y.toNat : Int) != (c.toNat : Int)) = true := by simp; omega
    have qy' : ¬ (y.toNat : Int) = (c.toNat : Int) := by omega
    have w1 : IntKind.i64.wrap ((m : Int) + 1 - 1) = m := by rw [IntKind.wrap_i64]; omega
    have w2 : IntKind.i64.wrap ((m : Int) + 1) = (m : Int) + 1 := by rw [IntKind.wrap_i64]; omega
    have w3 : wrap64 (m : Int) = m := by unfold wrap64; omega
    have l1 : (m : Int) < (s.size : Int) := by omega
    have l2 : (0 : Int) ≤ (m : Int) := by omega
    have l3 : (m : Int) < (m : Int) + 1 := by omega
    have l4 : (m : Int) + 1 ≤ (s.size : Int) := by omega
    have l5 : (0 : Int) ≤ (m : Int) + 1 := by omega
    clear hm f1 f2 f3 hc128 hm2 hy128
    go_enter Tryz.func151, Tryz.ntmps151
    go_wp2_with (refine (HV.out _).mono ?_; rintro e w' ⟨rfl, rfl⟩)
    go_wp2
    go_step3
    go_wp2
    go_loopw [9] (fun i wr => i = .int .i64 m ∧ Hid (Drew w' wr)) (fun _ _ => 0)
    case atStart => exact ⟨by rw [w3], Drew.refl _⟩
    case round =>
      obtain ⟨rfl, HD⟩ := hrel
      have HI1 := Lib.hid (fun W => HI.out (m + 1) W)
      have e1 : ((m + 1 : Nat) : Int) = (m : Int) + 1 := rfl
      go_wp2
      go_step3
      go_wp2
      go_quiet (fail)
      go_wp2
      go_quiet ((go_at_call 175; exact (HI1.out _).mono fun e w2 h => ⟨h.1, _, h.2⟩))
      go_wp2
      simp +zetaDelta only [Exit.inBlock, Exit.noGoto_ret, Exit.then]
      go_ret
      exact ⟨rfl, ((HD.out.drewN _).below _)⟩
theorem sqRune_any (r : Int) (h1 : 128 ≤ r) (h2 : r ≤ 2147483647) (w : World) :
    Calls Tryz.prog 151 #[.string sq, .int .i32 r] w fun e w' => e = .returned (.int .i64 (-1)) ∧ Below w.heap.size w w' := by
  by_cases h3 : r = 65533
  · subst h3
    exact sqRune_wrong w
  · exact sqRune_high r h1 h2 h3 w

theorem sq_list : sq.data.toList = Hv.sqs := rfl
theorem sqs_low : ∀ b ∈ Hv.sqs, b.toNat < 128 := by decide
theorem sq_high_not (b : UInt8) (h : 128 ≤ b.toNat) : Hv.sqs.contains b = false := by
  cases hc : Hv.sqs.contains b with
  | false => rfl
  | true =>
    have := sqs_low b (by simpa using hc)
    omega
/-- A sign of several letters has none of the four. -/
theorem sqNoAny_high (s : ByteArray) (pos : Nat) (ha : 128 ≤ (s.get! pos).toNat) (h : Lib.NoAny (tl s) Hv.sqs pos) : Lib.NoAny (tl s) Hv.sqs (pos + (Utf8.decode s pos).2) := by
  intro j b hj hb
  by_cases h1 : j < pos
  · exact h j b h1 hb
  · have hjs : j < s.size := by
      have := (List.getElem?_eq_some_iff.1 hb).1
      rwa [tl_length] at this
    have hb2 := Te.get_tl s j hjs
    rw [hb] at hb2
    rw [Option.some.inj hb2]
    apply sq_high_not
    by_cases h2 : j = pos
    · rw [h2]; exact ha
    · have := (Te.tail_high s pos (j - pos) (by omega) (by omega)).2
      rwa [show pos + (j - pos) = j from by omega] at this
set_option maxHeartbeats 4000000 in
set_option maxRecDepth 100000 in
theorem sqAny_short (s : ByteArray) (h8 : s.size ≤ 8) (w : World) :
    Calls Tryz.prog 108 #[.string s, .string sq] w fun e w' => e = .returned (.int .i64 (Lib.indexAny (tl s) Hv.sqs)) ∧ Below w.heap.size w w' := by
  have HR : Hid (∀ (r : Int) W, 128 ≤ r → r ≤ 2147483647 → Calls Tryz.prog 151 #[.string sq, .int .i32 r] W fun e w' => e = .returned (.int .i64 (-1)) ∧ Below W.heap.size W w') := fun r W h1 h2 => sqRune_any r h1 h2 W
  have HA : Hid (∀ (x : UInt8) W, x.toNat < 128 → Calls Tryz.prog 151 #[.string sq, .int .i32 x.toNat] W fun e w' => e = .returned (.int .i64 (Lib.indexByte Hv.sqs x)) ∧ w' = W) := by
    intro x W hx
    have h := Tryz.strings_IndexRune_ascii sq x.toNat W (by omega) (by omega)
    rw [sq_list, show ((x.toNat : Int)).toNat.toUInt8 = x from by simp] at h
    exact h
  have hemp : sq.toList.isEmpty = false := by rw [Lib.toList_data]; rfl
  have hn4 : (sq.size : Int) = 2 := rfl
  obtain ⟨q, hq⟩ : ∃ q, sq = q := ⟨_, rfl⟩
  rw [hq] at HR HA hemp hn4 ⊢
  clear hq
  have h8z : decide ((8 : Int) < (s.size : Int)) = false := decide_eq_false (by omega)
  have HU := Lib.hid (fun W => Tryz.strings_shouldUseASCIISet s.size W)
  rw [h8z] at HU
  obtain ⟨v, hv⟩ : ∃ v, Lib.indexAny (tl s) Hv.sqs = v := ⟨_, rfl⟩
  rw [hv]
  have HV := Lib.hid hv
  clear hv h8z
  go_enter Tryz.func108, Tryz.ntmps108
  go_wp2_with (refine (HU.out _).mono ?_; rintro e w' ⟨rfl, rfl⟩)
  go_loopw [46] (fun _ wr => ∃ (pos : Nat), wr.heap[w'.heap.size]? = some (.stringIter s pos) ∧ Hid (Below w'.heap.size w' wr) ∧ Hid (Lib.NoAny (tl s) Hv.sqs pos)) (fun _ wr => s.size - wr.iterPos w'.heap.size)
  case atStart => exact ⟨0, World.iter_heap _ s 0, iter_below s 0, Lib.NoAny.zero _ _⟩
  case round =>
    obtain ⟨pos, hit, HB, HN⟩ := hrel
    have hsz : w'.heap.size < wr.heap.size := (Array.getElem?_eq_some_iff.1 hit).1
    by_cases hp : pos < s.size
    · have hnx : ∀ ty, (Instr.next (.pointer (some ⟨w'.heap.size, 0, none⟩)) true ty).run Tryz.prog wr = _ := fun ty => Lib.run_next_any_at wr w'.heap.size s pos ty hit hp
      have hw := Te.width_pos s pos hp
      by_cases ha : (s.get! pos).toNat < 128
      · rw [Te.first_ascii s pos hp ha] at hnx
        have HX := Lib.hid (Te.get_tl s pos hp)
        obtain ⟨x, hx⟩ : ∃ x, s.get! pos = x := ⟨_, rfl⟩
        rw [hx] at hnx ha HX
        clear hx hw
        have hit2 := Lib.iterAt_heap wr w'.heap.size s pos (pos + 1) hit
        have HB2 := Lib.hid (Lib.below_iterAt HB.out (k := w'.heap.size) (Nat.le_refl _) s (pos + 1))
        have HC := Lib.hid (fun W => HA.out x W ha)
        have hcon := Lib.contains_iff_indexByte Hv.sqs x
        cases hin : Hv.sqs.contains x with
        | false =>
          rw [hin] at hcon
          have hlt : ¬ ((0 : Int) ≤ Lib.indexByte Hv.sqs x) := of_decide_eq_false hcon.symm
          have HN2 := Lib.hid (HN.out.succ HX.out hin)
          clear hcon hin HN HX HB
          go_wp2_with (refine (HC.out _).mono ?_; rintro e w2 ⟨rfl, rfl⟩)
          go_wp2
          go_roundw
          case rel => exact ⟨pos + 1, hit2, HB2, HN2⟩
          case measure => simp only [World.iterPos, hit2, hit]; omega
        | true =>
          rw [hin] at hcon
          have hge : (0 : Int) ≤ Lib.indexByte Hv.sqs x := of_decide_eq_true hcon.symm
          have HE : Hid (v = pos) := by
            show v = pos
            rw [← HV.out]
            exact Lib.indexAny_hit HN.out HX.out hin
          clear hcon hin HN HX HB
          go_wp2_with (refine (HC.out _).mono ?_; rintro e w2 ⟨rfl, rfl⟩)
          go_wp2
          go_ret
          exact ⟨by rw [HE.out]; rfl, HB2.out⟩
      · have hh := Te.first_high s pos hp (by omega)
        have hle := decode_le s pos
        have HN2 := Lib.hid (sqNoAny_high s pos (by omega) HN.out)
        obtain ⟨c, hc⟩ : ∃ c, (Utf8.decode s pos).1 = c := ⟨_, rfl⟩
        obtain ⟨n, hn⟩ : ∃ n, (Utf8.decode s pos).2 = n := ⟨_, rfl⟩
        rw [hc, hn] at hnx
        rw [hc] at hh hle
        rw [hn] at hw HN2
        clear hc hn ha
        have hit2 := Lib.iterAt_heap wr w'.heap.size s pos (pos + n) hit
        have HB2 := Lib.hid (Lib.below_iterAt HB.out (k := w'.heap.size) (Nat.le_refl _) s (pos + n))
        have hsz2 : w'.heap.size < (wr.iterAt w'.heap.size s (pos + n)).heap.size := by rw [Lib.iterAt_size]; exact hsz
        have HC := Lib.hid (fun W => HR.out (c : Int) W (by omega) (by omega))
        clear HN HB
        go_wp2_with (refine (HC.out _).mono ?_; rintro e w2 ⟨rfl, hb⟩)
        have hit3 : w2.heap[w'.heap.size]? = some (.stringIter s (pos + n)) := (hb.block _ hsz2).trans hit2
        have HB3 := Lib.hid (HB2.out.trans (hb.mono (Nat.le_of_lt hsz2)))
        clear hb
        go_wp2
        go_roundw
        case rel => exact ⟨pos + n, hit3, HB3, HN2⟩
        case measure => simp only [World.iterPos, hit3, hit]; omega
    · have hnx : ∀ ty, (Instr.next (.pointer (some ⟨w'.heap.size, 0, none⟩)) true ty).run Tryz.prog wr = _ := fun ty => Lib.run_next_end_at wr w'.heap.size s pos ty hit hp
      have HE : Hid (v = -1) := by
        show v = -1
        rw [← HV.out]
        apply Lib.indexAny_none
        intro j b hj hb
        rw [tl_length] at hj
        exact HN.out j b (by omega) hb
      go_wp2
      go_ret
      exact ⟨by rw [HE.out]; rfl, HB.out⟩
theorem sqAny_all (s : ByteArray) (hs : s.size < 4294967281) (w : World) :
    Calls Tryz.prog 108 #[.string s, .string sq] w fun e w' => e = .returned (.int .i64 (Lib.indexAny (tl s) Hv.sqs)) ∧ Below w.heap.size w w' := by
  by_cases h8 : s.size ≤ 8
  · exact sqAny_short s h8 w
  · have h116 : (Tryz.prog.info? 201).map (fun i => (i.zero, i.size)) = some (some (.agg (Array.replicate 256 (.bool false))), 256) := by kernel_rfl
    refine (Tryz.strings_IndexAny_long (zero_of_info h116).1 s sq w (by decide) (by omega) hs (by decide) ?_).mono ?_
    · intro j b hb
      exact sqs_low b (List.mem_of_getElem? hb)
    · rintro e w' ⟨rfl, rfl⟩
      exact ⟨rfl, ((Below.refl _ _).alloc (Nat.le_refl _) _).alloc (by simp) _⟩
set_option maxHeartbeats 1000000 in
theorem sqContains_all (s : ByteArray) (hs : s.size < 4294967281) (w : World) :
    Calls Tryz.prog 60 #[.string s, .string sq] w fun e w' => e = .returned (.bool (Lib.containsAny (tl s) Hv.sqs)) ∧ Below w.heap.size w w' := by
  have HC := Lib.hid (fun W => sqAny_all s hs W)
  obtain ⟨q, hq⟩ : ∃ q, sq = q := ⟨_, rfl⟩
  rw [hq] at HC ⊢
  clear hq
  go_enter Tryz.func60, Tryz.ntmps60
  go_wp2_with (refine (HC.out _).mono ?_; rintro e w' ⟨rfl, hb⟩)
  go_ret
  exact ⟨rfl, hb⟩
end Go.Proofs.YthmhadgbhakdlaaGreatDoor

/- hive.Path: whether a text is a path. -/
namespace Go.Proofs.YthmhadgbhakdlaaGreatDoor
open Go.RowKit

namespace Hv
/-- A text, parted at each backslash. -/
def parts (s : ByteArray) : List ByteArray := Lib.splitB ⟨#[92]⟩ 0 (Lib.countB s ⟨#[92]⟩) s
def path (s : ByteArray) : Bool := decide (1 ≤ s.size) && (decide (s.size ≤ 256) && (Te.plain s && (!Lib.containsAny (tl s) sqs && !Lib.containsS (parts s) ⟨#[]⟩)))
theorem path_size {s : ByteArray} (h : path s = true) : s.size ≤ 256 := by
  unfold path at h
  simp only [Bool.and_eq_true, decide_eq_true_eq] at h
  exact h.2.1
end Hv
theorem hvSplit (s : ByteArray) (hs : s.size ≤ 256) (w : World) (hW : Wl w) :
    Calls Tryz.prog 47 #[.string s, .string ⟨#[92]⟩] w fun e w' => e = .returned (.slice (some ⟨w.heap.size, 0, none⟩) (Hv.parts s).length (Hv.parts s).length) ∧ w' = w.alloc (.cells ((Hv.parts s).map Value.string).toArray 9) := by
  obtain ⟨m, hm⟩ := hW.maxl
  have e : (Hv.parts s).length = Lib.countB s ⟨#[92]⟩ + 1 := Lib.splitB_all ⟨#[92]⟩ (by decide) 0 _ s rfl
  rw [e]
  exact Tryz.strings_Split s ⟨#[92]⟩ m w (by omega) hm (by decide)
theorem cell_str (w : World) (l : List ByteArray) (t : TypeId) (j : Nat) (h : j < l.length) : (w.alloc (.cells (l.map Value.string).toArray t)).cell? ⟨w.heap.size, 0 + j, none⟩ = some (.string (l.getD j ByteArray.empty)) := by
  rw [World.cell?_alloc_new]
  simp [List.getD, h]
theorem parts_len (s : ByteArray) (hs : s.size ≤ 256) : (Hv.parts s).length ≤ 9223372036854775807 := by
  have h := Lib.splitB_length_le ⟨#[92]⟩ 0 (Lib.countB s ⟨#[92]⟩) s
  have h2 : Lib.countB s ⟨#[92]⟩ ≤ s.size := Lib.countB_le ⟨#[92]⟩ (by decide) s.size s (Nat.le_refl _)
  unfold Hv.parts
  omega
set_option maxHeartbeats 2000000 in
set_option maxRecDepth 100000 in
theorem hvPath_any (s : ByteArray) (hs : s.size ≤ maxLen) (w : World) (hW : Wl w) :
    Calls Tryz.prog 27 #[.string s] w fun e w' => e = .returned (.bool (Hv.path s)) ∧ Below w.heap.size w w' := by
  have HP := Lib.hid (fun W => utfPlain_any s hs W)
  unfold maxLen at hs
  obtain ⟨v, hv⟩ : ∃ v, Hv.path s = v := ⟨_, rfl⟩
  rw [hv]
  unfold Hv.path at hv
  have HW := Lib.hid hW
  clear hW
  by_cases h1 : s.size < 1
  · have q1 : (s.size : Int) < 1 := by omega
    rw [decide_eq_false (show ¬ 1 ≤ s.size by omega)] at hv
    have HV : Hid (v = false) := hv.symm
    clear hv h1
    go_enter Tryz.func27, Tryz.ntmps27
    go_wp2
    go_ret
    exact ⟨by rw [HV.out]; rfl, Below.refl _ _⟩
  · have q1 : ¬ (s.size : Int) < 1 := by omega
    rw [decide_eq_true (show 1 ≤ s.size by omega)] at hv
    by_cases h2 : 256 < s.size
    · have q2 : (256 : Int) < (s.size : Int) := by omega
      rw [decide_eq_false (show ¬ s.size ≤ 256 by omega)] at hv
      have HV : Hid (v = false) := hv.symm
      clear hv h1 h2
      go_enter Tryz.func27, Tryz.ntmps27
      go_wp2
      go_ret
      exact ⟨by rw [HV.out]; rfl, Below.refl _ _⟩
    · have q2 : ¬ (256 : Int) < (s.size : Int) := by omega
      rw [decide_eq_true (show s.size ≤ 256 by omega)] at hv
      cases hp : Te.plain s with
      | false =>
        rw [hp] at hv HP
        have HV : Hid (v = false) := hv.symm
        clear hv h1 h2 hp
        go_enter Tryz.func27, Tryz.ntmps27
        go_wp2_with (refine (HP.out _).mono ?_; rintro e w1 ⟨rfl, hb⟩)
        go_ret
        exact ⟨by rw [HV.out]; rfl, hb⟩
      | true =>
        rw [hp] at hv HP
        have HC : Hid (∀ W, Calls Tryz.prog 60 #[.string s, .string ⟨#[91, 93]⟩] W fun e w' => e = .returned (.bool (Lib.containsAny (tl s) Hv.sqs)) ∧ Below W.heap.size W w') := fun W => sqContains_all s (by omega) W
        cases hc : Lib.containsAny (tl s) Hv.sqs with
        | true =>
          rw [hc] at hv HC
          have HV : Hid (v = false) := hv.symm
          clear hv h1 h2 hp hc
          go_enter Tryz.func27, Tryz.ntmps27
          go_wp2_with (first | (go_at_call 59; refine (HP.out _).mono ?_; rintro e w1 ⟨rfl, hb⟩) | (go_at_call 60; refine (HC.out _).mono ?_; rintro e w2 ⟨rfl, hb2⟩))
          go_ret
          exact ⟨by rw [HV.out]; rfl, below_then hb hb2⟩
        | false =>
          rw [hc] at hv HC
          have HS := Lib.hid (fun W (hW : Wl W) => hvSplit s (by omega) W hW)
          have HV := Lib.hid hv
          have hpl := parts_len s (by omega)
          clear hv h1 h2 hp hc
          obtain ⟨l, hl⟩ : ∃ l, Hv.parts s = l := ⟨_, rfl⟩
          rw [hl] at HS HV hpl
          have HK : Hid (∀ W : World, Calls Tryz.prog 61 #[.slice (some ⟨W.heap.size, 0, none⟩) l.length l.length, .string ⟨#[]⟩] (W.alloc (.cells (l.map Value.string).toArray 9)) fun e w' => e = .returned (.bool (Lib.containsS l ⟨#[]⟩)) ∧ w' = W.alloc (.cells (l.map Value.string).toArray 9)) := by
            intro W
            have h := Tryz.slices_Contains_string W.heap.size 0 l.length l.length l ⟨#[]⟩ (W.alloc (.cells (l.map Value.string).toArray 9)) (Nat.le_refl _) hpl (fun j hj => cell_str W l 9 j hj)
            rw [List.take_length] at h
            exact h
          obtain ⟨q, hq⟩ : ∃ q, Lib.containsS l ⟨#[]⟩ = q := ⟨_, rfl⟩
          rw [hq] at HK HV
          clear hl hq
          go_enter Tryz.func27, Tryz.ntmps27
          go_wp2_with (first | (go_at_call 59; refine (HP.out _).mono ?_; rintro e w1 ⟨rfl, hb⟩) | (go_at_call 60; refine (HC.out _).mono ?_; rintro e w2 ⟨rfl, hb2⟩) | (go_at_call 47; refine (HS.out _ ((HW.out.below hb).below hb2)).mono ?_; rintro e w3 ⟨rfl, rfl⟩) | (go_at_call 61; refine (HK.out _).mono ?_; rintro e w4 ⟨rfl, rfl⟩))
          go_ret
          refine ⟨?_, (below_then hb hb2).alloc (below_then hb hb2).size _⟩
          rw [← HV.out]
          simp
end Go.Proofs.YthmhadgbhakdlaaGreatDoor

/- hive.checkKey and hive.Check: whether keys, and hives, are right. -/
namespace Go.Proofs.YthmhadgbhakdlaaGreatDoor
open Go.RowKit

namespace Hv
def names (l : List V) : List ByteArray := l.map V.name
def paths (l : List K) : List ByteArray := l.map K.path
/-- What a loop over a key's values finds, behind names that are there. -/
def valsB : List ByteArray → List V → Bool
  | _, [] => true
  | seen, v :: l => valB v && (!has seen v.name && valsB (seen ++ [v.name]) l)
def keyB (k : K) : Bool := path k.path && (decide (k.vals.length ≤ 512) && valsB [] k.vals)
def keysB : List ByteArray → List K → Bool
  | _, [] => true
  | seen, k :: l => keyB k && (!has seen k.path && keysB (seen ++ [k.path]) l)
def hiveB (l : List K) : Bool := decide (l.length ≤ 4096) && keysB [] l
theorem names_next {l : List V} {k : Nat} {v : V} (h : l[k]? = some v) : names (l.take (k + 1)) = names (l.take k) ++ [v.name] := by
  unfold names
  rw [take_next h, List.map_append]
  rfl
theorem paths_next {l : List K} {k : Nat} {v : K} (h : l[k]? = some v) : paths (l.take (k + 1)) = paths (l.take k) ++ [v.path] := by
  unfold paths
  rw [take_next h, List.map_append]
  rfl
theorem drop_next {α : Type} {l : List α} {k : Nat} {v : α} (h : l[k]? = some v) : l.drop k = v :: l.drop (k + 1) := by
  rw [List.drop_eq_getElem_cons (List.getElem?_eq_some_iff.1 h).1, (List.getElem?_eq_some_iff.1 h).2]
end Hv
set_option maxHeartbeats 4000000 in
set_option maxRecDepth 100000 in
theorem hvKey_any (p : ByteArray) (hp : p.size ≤ maxLen) (l : List Hv.V) (hl : ∀ v ∈ l, v.Ok) (A : Option Addr) (n c : Nat) (w : World) (hn : l.length = n) (hnm : n ≤ maxLen) (hr : Reads w w.heap.size 5 A n (l.flatMap Hv.V.cells)) (hW : Wl w) :
    Calls Tryz.prog 51 #[.agg #[.string p, .slice A n c]] w fun e w' => e = .returned (.bool (Hv.keyB ⟨p, l⟩)) ∧ Below w.heap.size w w' := by
  have hmk := Hv.make_set (n : Int)
  have HP : Hid (∀ W, Below w.heap.size w W → Calls Tryz.prog 27 #[.string p] W fun e w' => e = .returned (.bool (Hv.path p)) ∧ Below W.heap.size W w') := fun W hb => hvPath_any p hp W (hW.below hb)
  obtain ⟨X, hX⟩ : ∃ X, Hv.keyB ⟨p, l⟩ = X := ⟨_, rfl⟩
  rw [hX]
  unfold Hv.keyB at hX
  simp only at hX
  rw [hn] at hX
  obtain ⟨pb, hpb⟩ : ∃ b, Hv.path p = b := ⟨_, rfl⟩
  rw [hpb] at HP hX
  have HR := Lib.hid hr
  have HN := Lib.hid hn
  have HO := Lib.hid hl
  have HX := Lib.hid hX
  unfold maxLen at hnm
  obtain ⟨W0, hW0⟩ : ∃ W, w.alloc (.cells #[.string p, .slice A n c] 64) = W := ⟨_, rfl⟩
  have HB0 : Hid (Below w.heap.size w W0) := by show Below _ _ _; rw [← hW0]; exact Hv.bl1 _ _
  have HA0 : Hid (At W0 w.heap.size [.string p, .slice A n c]) := by show At _ _ _; rw [← hW0]; exact At.new _ _ _
  have HW0 := Lib.hid hW0
  have a0 := HA0.out.cell 0 _ rfl
  clear hW0 hX hpb hr hn hl hW hp
  go_enter Tryz.func51, Tryz.ntmps51
  go_wp2_with fail
  rw [HW0.out]
  go_wp2_with fail
  refine (HP.out _ HB0.out).mono ?_
  rintro e w1 ⟨rfl, hb⟩
  have HB1 := Lib.hid (below_then HB0.out hb)
  have a1 := (HA0.out.call hb).cell 1 _ rfl
  have hlt1 := (HA0.out.call hb).lt
  clear hb a0 HW0 HP
  cases pb with
  | false =>
    have HE : Hid (X = false) := HX.out.symm
    go_wp2
    go_ret
    exact ⟨by rw [HE.out]; rfl, HB1.out⟩
  | true =>
    have hx := HX.out
    rw [Bool.true_and] at hx
    clear HX
    by_cases hn5 : n ≤ 512
    case neg =>
      have p5 : (512 : Int) < (n : Int) := by omega
      rw [decide_eq_false hn5] at hx
      have HE : Hid (X = false) := hx.symm
      go_wp2
      go_ret
      exact ⟨by rw [HE.out]; rfl, HB1.out⟩
    have p5 : ¬ (512 : Int) < (n : Int) := by omega
    rw [decide_eq_true hn5, Bool.true_and] at hx
    have HX := Lib.hid hx
    obtain ⟨bm, hbm⟩ : ∃ b, w1.heap.size = b := ⟨_, rfl⟩
    obtain ⟨W2, hW2⟩ : ∃ W, w1.alloc (.map #[] 0) = W := ⟨_, rfl⟩
    have HB2 : Hid (Below w.heap.size w W2) := by show Below _ _ _; rw [← hW2]; exact Hv.bl HB1.out _
    have HM2 : Hid (MapF Tryz.prog 9 W2 bm 0 (Hv.sf [])) := by show MapF _ _ _ _ _ _; rw [← hW2, ← hbm]; exact MapF.made w1
    have HBm : Hid (w.heap.size ≤ bm) := by show _ ≤ _; rw [← hbm]; exact HB1.out.size
    have HW2 := Lib.hid hW2
    have HBq := Lib.hid hbm
    clear hW2 hbm hx
    go_wp2_with fail
    rw [HW2.out, HBq.out]
    clear hmk a1 hlt1
    go_loopw [25] (fun i wr => ∃ k : Nat, k ≤ n ∧ i = .int .i64 (k : Int) ∧ Hid (Below w.heap.size w wr) ∧ Hid (MapF Tryz.prog 9 wr bm k (Hv.sf (Hv.names (l.take k)))) ∧ Hid (Hv.valsB (Hv.names (l.take k)) (l.drop k) = X)) (fun i _ => n - (intOf i).toNat)
    case atStart => exact ⟨0, Nat.zero_le _, rfl, HB2.out, HM2.out, HX.out⟩
    case round =>
      obtain ⟨k, hk, rfl, HB, HM, HV⟩ := hrel
      by_cases hlt : k < n
      · have q1 : (0 : Int) ≤ (k : Int) := by omega
        have q2 : (k : Int) < (n : Int) := by omega
        obtain ⟨ad, x, rfl, hab, Hx, c0, c1, c2, c3, c4⟩ := Hv.val_at (HR.out.below HB.out) HN.out hlt
        have hxo := HO.out x (List.mem_of_getElem? Hx.out)
        have h1 := hxo.name
        have HCv := Lib.hid fun W => hvValue_any x hxo W
        have hv := HV.out
        rw [Hv.drop_next Hx.out] at hv
        unfold Hv.valsB at hv
        obtain ⟨nm, kd, tx, nu, bs⟩ := x
        simp only at c0 c1 c2 c3 c4 h1 hv
        obtain ⟨vb, hvb⟩ : ∃ b, Hv.valB ⟨nm, kd, tx, nu, bs⟩ = b := ⟨_, rfl⟩
        rw [hvb] at hv HCv
        have HT := Lib.hid (Hv.names_next Hx.out)
        obtain ⟨W3, hW3⟩ : ∃ W, wr.alloc (.cells #[.string nm, .int .u8 kd, .string tx, .int .u32 nu, .string bs] 55) = W := ⟨_, rfl⟩
        have HB3 : Hid (Below w.heap.size w W3) := by show Below _ _ _; rw [← hW3]; exact Hv.bl HB.out _
        have HM3 : Hid (MapF Tryz.prog 9 W3 bm k (Hv.sf (Hv.names (l.take k)))) := by show MapF _ _ _ _ _ _; rw [← hW3]; exact HM.out.alloc _
        have HA3 : Hid (At W3 wr.heap.size [.string nm, .int .u8 kd, .string tx, .int .u32 nu, .string bs]) := by show At _ _ _; rw [← hW3]; exact At.new _ _ _
        have HW3 := Lib.hid hW3
        have HCv : Hid (∀ W, Calls Tryz.prog 55 #[.agg #[.string nm, .int .u8 kd, .string tx, .int .u32 nu, .string bs]] W fun e w' => e = .returned (.int .i64 (if vb = true then 0 else 2)) ∧ Below W.heap.size W w') := HCv.out
        have hkm : k < maxLen := by unfold maxLen; omega
        clear hW3 hvb hxo
        go_wp2_with fail
        rw [HW3.out]
        go_wp2_with fail
        refine (HCv.out _).mono ?_
        rintro e w4 ⟨rfl, hb4⟩
        have HB4 := Lib.hid (below_then HB3.out hb4)
        have HM4 := Lib.hid (HM3.out.below hb4)
        have HA4 := Lib.hid (HA3.out.call hb4)
        have d0 := HA4.out.cell 0 _ rfl
        have hlt4 := HA4.out.lt
        clear hb4 c0 c1 c2 c3 c4 HCv HW3 HA3 HB3 HM3
        cases vb with
        | false =>
          have HE : Hid (X = false) := hv.symm
          go_wp2
          go_ret
          exact ⟨by rw [HE.out]; rfl, HB4.out⟩
        | true =>
          rw [Bool.true_and] at hv
          obtain ⟨N, hN⟩ : ∃ N, Hv.names (l.take k) = N := ⟨_, rfl⟩
          rw [hN] at hv HM4 HT
          by_cases hin : nm ∈ N
          · have hq := Hv.has_iff.2 hin
            rw [hq] at hv
            have HE : Hid (X = false) := hv.symm
            have HB5 := Lib.hid (Hv.bl HB4.out (.cells #[] 105))
            clear hin hN hv
            go_wp2_with (at_lookup; refine Hv.look_set _ rfl _ _ bm k _ nm h1 rfl rfl rfl HM4.out true hq ?_)
            go_ret
            exact ⟨by rw [HE.out]; rfl, HB5.out⟩
          · have hq := Hv.has_not hin
            rw [hq, Bool.not_false, Bool.true_and] at hv
            have HB5 := Lib.hid (Hv.bl HB4.out (.cells #[] 105))
            have HM5 := Lib.hid (HM4.out.alloc (.cells #[] 105))
            have HV2 := Lib.hid hv
            clear hin hN hv
            go_wp2_with (first | (at_lookup; refine Hv.look_set _ rfl _ _ bm k _ nm h1 rfl rfl rfl HM4.out false hq ?_) | (at_mapUpdate; refine Hv.store_set _ rfl _ _ _ bm k _ nm h1 hkm rfl rfl rfl rfl HM5.out ?_; intro w6 hM6 hg6; have HM6 := Lib.hid hM6; have HB6 := Lib.hid (HB5.out.grown hg6 HB5.out.size (fun j e => by cases e; exact HBm.out)); clear hM6 hg6))
            go_roundw
            case rel => exact ⟨k + 1, by omega, by go_num, HB6.out, by show MapF _ _ _ _ _ _; rw [HT.out]; exact HM6.out, by show Hv.valsB _ _ = X; rw [HT.out]; exact HV2.out⟩
            case measure => simp [intOf]; omega
      · have q2 : ¬ (k : Int) < (n : Int) := by omega
        have HE : Hid (X = true) := by
          show X = true
          rw [← HV.out, List.drop_eq_nil_of_le (by rw [HN.out]; omega)]
          rfl
        go_wp2
        go_ret
        exact ⟨by rw [HE.out]; rfl, HB.out⟩
end Go.Proofs.YthmhadgbhakdlaaGreatDoor

/- A hive's text, in plain words. -/
namespace Go.Proofs.YthmhadgbhakdlaaGreatDoor
open Go.RowKit

namespace Em
/-- What stands behind a value's name. -/
def rest (v : Hv.V) : Txt :=
  if v.kind = 1 then quote (tl v.text) else if v.kind = 2 then [110, 117, 109, 98, 101, 114, 58] ++ num v.num.toNat else if v.kind = 3 then [98, 121, 116, 101, 115, 58] ++ bytes (tl v.bytes) else []
def val (v : Hv.V) : Txt := quote (tl v.name) ++ 61 :: rest v
theorem val_len (v : Hv.V) : (val v).length ≤ 2 * v.name.size + 2 * v.text.size + 65 * v.bytes.size + 25 := by
  have h1 := quote_len (tl v.name)
  have h2 := quote_len (tl v.text)
  have h3 := bytes_len (tl v.bytes)
  have h4 := num_len v.num.toNat
  rw [tl_length] at h1 h2 h3
  unfold val rest
  rw [List.length_append, List.length_cons]
  split
  · omega
  · split
    · rw [List.length_append]; simp; omega
    · split
      · rw [List.length_append]; simp; omega
      · simp only [List.length_nil]; omega
def vals (l : List Hv.V) : Txt := l.flatMap fun v => val v ++ [10]
def head : Txt := [82, 69, 71, 73, 83, 84, 69, 82, 32, 49, 10]
def keyHead (k : Hv.K) : Txt := [10, 91] ++ tl k.path ++ [93, 10]
def key (k : Hv.K) : Txt := keyHead k ++ vals k.vals
def text (l : List Hv.K) : Txt := head ++ l.flatMap key
theorem vals_snoc (l : List Hv.V) (v : Hv.V) : vals (l ++ [v]) = vals l ++ (val v ++ [10]) := by unfold vals; rw [List.flatMap_append]; simp
theorem text_snoc (l : List Hv.K) (k : Hv.K) : text (l ++ [k]) = text l ++ key k := by unfold text; rw [List.flatMap_append]; simp [List.append_assoc]
theorem val_small {v : Hv.V} (h : Hv.valB v = true) : v.name.size ≤ 64 ∧ v.text.size ≤ 4096 ∧ v.bytes.size ≤ 4096 ∧ (v.kind = 1 ∨ v.kind = 2 ∨ v.kind = 3) ∧ Te.plain v.name = true := by
  unfold Hv.valB Hv.nameB Hv.kindB at h
  simp only [Bool.and_eq_true, decide_eq_true_eq] at h
  obtain ⟨⟨h1, h2, h3⟩, h4⟩ := h
  split at h4
  · rename_i hk
    simp only [Bool.and_eq_true, decide_eq_true_eq] at h4
    exact ⟨h2, h4.1, by omega, .inl hk, h3⟩
  · split at h4
    · rename_i hk
      simp only [Bool.and_eq_true, decide_eq_true_eq] at h4
      exact ⟨h2, by omega, by omega, .inr (.inl hk), h3⟩
    · split at h4
      · rename_i hk
        simp only [Bool.and_eq_true, decide_eq_true_eq] at h4
        exact ⟨h2, by omega, h4.1, .inr (.inr hk), h3⟩
      · cases h4
theorem val_len2 {v : Hv.V} (h : Hv.valB v = true) : (val v).length ≤ 300000 := by
  have h1 := val_small h
  have h2 := val_len v
  omega
theorem valsB_all : ∀ (l : List Hv.V) (seen : List ByteArray), Hv.valsB seen l = true → ∀ v ∈ l, Hv.valB v = true
  | [], _, _, v, h => by cases h
  | x :: l, seen, hb, v, h => by
    unfold Hv.valsB at hb
    simp only [Bool.and_eq_true] at hb
    rcases List.mem_cons.1 h with rfl | h
    · exact hb.1
    · exact valsB_all l _ hb.2.2 v h
theorem keysB_all : ∀ (l : List Hv.K) (seen : List ByteArray), Hv.keysB seen l = true → ∀ k ∈ l, Hv.keyB k = true
  | [], _, _, v, h => by cases h
  | x :: l, seen, hb, v, h => by
    unfold Hv.keysB at hb
    simp only [Bool.and_eq_true] at hb
    rcases List.mem_cons.1 h with rfl | h
    · exact hb.1
    · exact keysB_all l _ hb.2.2 v h
theorem key_parts {k : Hv.K} (h : Hv.keyB k = true) : k.path.size ≤ 256 ∧ k.vals.length ≤ 512 ∧ ∀ v ∈ k.vals, Hv.valB v = true := by
  unfold Hv.keyB at h
  simp only [Bool.and_eq_true, decide_eq_true_eq] at h
  exact ⟨Hv.path_size h.1, h.2.1, valsB_all _ _ h.2.2⟩
theorem vals_len (l : List Hv.V) (h : ∀ v ∈ l, Hv.valB v = true) : (vals l).length ≤ 300001 * l.length := by
  unfold vals
  induction l with
  | nil => simp
  | cons v r ih =>
    have h1 := val_len2 (h v (by simp))
    have h2 := ih fun x hx => h x (by simp [hx])
    rw [List.flatMap_cons, List.length_append, List.length_append, List.length_cons]
    simp only [List.length_cons, List.length_nil]
    omega
theorem key_len {k : Hv.K} (h : Hv.keyB k = true) : (key k).length ≤ 160000000 := by
  obtain ⟨h1, h2, h3⟩ := key_parts h
  have h4 := vals_len k.vals h3
  unfold key keyHead
  rw [List.length_append, List.length_append, List.length_append, tl_length]
  simp only [List.length_cons, List.length_nil]
  omega
theorem text_len (l : List Hv.K) (h : ∀ k ∈ l, Hv.keyB k = true) : (text l).length ≤ 11 + 160000000 * l.length := by
  unfold text
  rw [List.length_append]
  have h5 : head.length = 11 := rfl
  have : (l.flatMap key).length ≤ 160000000 * l.length := by
    induction l with
    | nil => simp
    | cons k r ih =>
      have h1 := key_len (h k (by simp))
      have h2 := ih fun x hx => h x (by simp [hx])
      rw [List.flatMap_cons, List.length_append, List.length_cons]
      omega
  omega
end Em
end Go.Proofs.YthmhadgbhakdlaaGreatDoor
