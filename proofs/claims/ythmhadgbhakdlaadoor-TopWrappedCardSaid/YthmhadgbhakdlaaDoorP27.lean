/- strings.IndexRune of a sign that is no letter of ASCII, in the four signs that a key has not; strings.ContainsAny of any text. -/
import Derived.Test.YthmhadgbhakdlaaDoorP03
import Derived.Laws.Runes
import Derived.Deep.QuietTactic
import Derived.BigQuiet
import Derived.Deep.DeepMust
import Derived.Test.YthmhadgbhakdlaaDoorP26
import Derived.Test.YthmhadgbhakdlaaDoorP25

namespace Go.Proofs.YthmhadgbhakdlaaDoor
open Go.RowKit

def sg : ByteArray := ⟨#[92, 91, 93, 34]⟩
theorem sg_size : sg.size = 4 := rfl
theorem sg_ascii : ∀ j (h : j < sg.size), (sg[j]'h).toNat < 128 := by
  intro j h
  have h' : j < 4 := h
  rcases (by omega : j = 0 ∨ j = 1 ∨ j = 2 ∨ j = 3) with rfl | rfl | rfl | rfl <;> decide +revert
theorem no_high (l : List UInt8) (c : UInt8) (h : ∀ b ∈ l, b ≠ c) : Lib.indexByte l c = -1 := by
  induction l with
  | nil => rfl
  | cons b l ih =>
    unfold Lib.indexByte
    have hb : (b == c) = false := by rw [beq_eq_false_iff_ne]; exact h b (List.mem_cons_self ..)
    rw [hb, ih (fun x hx => h x (List.mem_cons_of_mem _ hx))]
    rfl
set_option maxHeartbeats 2000000 in
set_option maxRecDepth 100000 in
theorem indexRune_wrong (w : World) :
    Calls Tryd.prog 71 #[.string sg, .int .i32 65533] w fun e w' => e = .returned (.int .i64 (-1)) ∧ Below w.heap.size w w' := by
  have HS := Lib.hid sg_size
  have HA := Lib.hid sg_ascii
  obtain ⟨s, hs⟩ : ∃ s, sg = s := ⟨_, rfl⟩
  rw [hs] at HS HA ⊢
  clear hs
  go_enter Tryd.func71, Tryd.ntmps71
  go_wp2
  go_loopw [176] (fun _ wr => ∃ (pos : Nat), wr = w.iter s pos) (fun _ wr => s.size - wr.iterPos w.heap.size)
  case atStart => exact ⟨0, rfl⟩
  case round =>
    obtain ⟨pos, rfl⟩ := hrel
    by_cases hp : pos < s.size
    · have hx := HA.out pos hp
      have hnx := fun ty => run_next_ascii (P := Tryd.prog) w s pos ty hp hx
      obtain ⟨x, hxx⟩ : ∃ x, (s[pos]'hp).toNat = x := ⟨_, rfl⟩
      rw [hxx] at hx hnx
      clear hxx
      have q1 : ((x : Int) == 65533) = false := by rw [beq_eq_false_iff_ne]; omega
      have q2 : ¬ (x : Int) = 65533 := by omega
      go_wp2
      go_roundw
      case rel => exact ⟨pos + 1, rfl⟩
      case measure => simp only [World.iterPos_iter]; omega
    · have hnx : ∀ ty, (Instr.next (.pointer (some ⟨w.heap.size, 0, none⟩)) true ty).run Tryd.prog (w.iter s pos) = _ := fun ty => run_next_end w s pos ty hp
      go_wp2
      go_ret
      exact ⟨rfl, iter_below s pos⟩
set_option maxHeartbeats 2000000 in
set_option maxRecDepth 100000 in
theorem indexRune_high (r : Int) (h1 : 128 ≤ r) (h2 : r ≤ 2147483647) (h3 : r ≠ 65533) (w : World) :
    Calls Tryd.prog 71 #[.string sg, .int .i32 r] w fun e w' => e = .returned (.int .i64 (-1)) ∧ Below w.heap.size w w' := by
  have q1 : ¬ r < 128 := by omega
  have q2 : (r == 65533) = false := by rw [beq_eq_false_iff_ne]; exact h3
  have q0 : 0 ≤ r := by omega
  have hV := fun W => Tryd.utf8_ValidRune r W
  cases hv : Lib.validRune r with
  | false =>
    rw [hv] at hV
    have HV := Lib.hid hV
    clear hv hV
    go_enter Tryd.func71, Tryd.ntmps71
    go_wp2_with (refine (HV.out _).mono ?_; rintro e w' ⟨rfl, rfl⟩)
    go_wp2
    go_ret
    exact ⟨rfl, Below.refl _ _⟩
  | true =>
    rw [hv] at hV
    have HV := Lib.hid hV
    have hvv : Utf8.valid r = true := by
      unfold Lib.validRune at hv
      have := of_decide_eq_true hv
      unfold Utf8.valid
      simp only [Bool.or_eq_true, Bool.and_eq_true, decide_eq_true_eq]
      omega
    obtain ⟨f1, f2, f3⟩ := encode_facts r hvv h1
    clear hv hV hvv h1 h2
    obtain ⟨x, hx⟩ : ∃ x, Utf8.encode r = x := ⟨_, rfl⟩
    have hcv : ∀ W, (convert 21 9 (.int .i32 r)).run Tryd.prog W = .ok (.string x) W := fun W => by
      rw [← hx]
      exact run_convert_int_string W _ _ _ _ (by rw [Tryd.underlying21]; rfl) Tryd.underlying9
    rw [hx] at f1 f2 f3
    clear hx
    obtain ⟨c, hc⟩ : ∃ c, x[x.size - 1]'(by omega) = c := ⟨_, rfl⟩
    have hc128 : 128 ≤ c.toNat := by rw [← hc]; exact f3 (by omega)
    have HI : Hid (∀ k W, Calls Tryd.prog 36 #[.string (sg.extract k sg.size), .int .u8 c.toNat] W fun e w' => e = .returned (.int .i64 (-1)) ∧ w' = W) := by
      intro k W
      have h := Tryd.strings_IndexByte (sg.extract k sg.size) c.toNat W
      rw [no_high] at h
      · exact h
      · intro b hb e
        rw [Lib.extract_data] at hb
        have hb2 := List.mem_of_mem_drop (List.mem_of_mem_take hb)
        have : ∀ b ∈ sg.data.toList, b.toNat < 128 := by decide
        have h5 := this b hb2
        rw [e] at h5
        simp at h5
        omega
    have HS := Lib.hid sg_size
    have HA := Lib.hid sg_ascii
    obtain ⟨s, hs⟩ : ∃ s, sg = s := ⟨_, rfl⟩
    rw [hs] at HS HA HI ⊢
    clear hs
    obtain ⟨m, hm⟩ : ∃ m, x.size - 1 = m := ⟨_, rfl⟩
    have hm1 : x.size = m + 1 := by omega
    have hm2 : 1 ≤ m ∧ m ≤ 3 := by omega
    simp only [hm] at hc
    have hmx : m < x.size := by omega
    have hc' : x[m]'hmx = c := hc
    clear hc
    have hms : m < s.size := by rw [HS.out]; omega
    obtain ⟨y, hy⟩ : ∃ y, s[m]'hms = y := ⟨_, rfl⟩
    have hy128 : y.toNat < 128 := by rw [← hy]; exact HA.out m hms
    have qy : ((y.toNat : Int) != (c.toNat : Int)) = true := by simp; omega
    have qy' : ¬ (y.toNat : Int) = (c.toNat : Int) := by omega
    have w1 : IntKind.i64.wrap ((m : Int) + 1 - 1) = m := by rw [IntKind.wrap_i64]; omega
    have w2 : IntKind.i64.wrap ((m : Int) + 1) = (m : Int) + 1 := by rw [IntKind.wrap_i64]; omega
    have w3 : wrap64 (m : Int) = m := by unfold wrap64; omega
    have l1 : (m : Int) < (s.size : Int) := by omega
    have l2 : (0 : Int) ≤ (m : Int) := by omega
    have l3 : (m : Int) < (m : Int) + 1 := by omega
    have l4 : (m : Int) + 1 ≤ (s.size : Int) := by omega
    have l5 : (0 : Int) ≤ (m : Int) + 1 := by omega
    clear hm f1 f2 f3 hc128 hm2 hy128
    go_enter Tryd.func71, Tryd.ntmps71
    go_wp2_with (refine (HV.out _).mono ?_; rintro e w' ⟨rfl, rfl⟩)
    go_wp2
    go_step3
    go_wp2
    go_loopw [9] (fun i wr => i = .int .i64 m ∧ Hid (Drew w' wr)) (fun _ _ => 0)
    case atStart => exact ⟨by rw [w3], Drew.refl _⟩
    case round =>
      obtain ⟨rfl, HD⟩ := hrel
      have HI1 := Lib.hid (fun W => HI.out (m + 1) W)
      have e1 : ((m + 1 : Nat) : Int) = (m : Int) + 1 := rfl
      go_wp2
      go_step3
      go_wp2
      go_quiet (fail)
      go_wp2
      go_quiet ((go_at_call 36; exact (HI1.out _).mono fun e w2 h => ⟨h.1, _, h.2⟩))
      go_wp2
      simp +zetaDelta only [Exit.inBlock, Exit.noGoto_ret, Exit.then]
      go_ret
      exact ⟨rfl, ((HD.out.drewN _).below _)⟩
theorem indexRune_any (r : Int) (h1 : 128 ≤ r) (h2 : r ≤ 2147483647) (w : World) :
    Calls Tryd.prog 71 #[.string sg, .int .i32 r] w fun e w' => e = .returned (.int .i64 (-1)) ∧ Below w.heap.size w w' := by
  by_cases h3 : r = 65533
  · subst h3
    exact indexRune_wrong w
  · exact indexRune_high r h1 h2 h3 w
end Go.Proofs.YthmhadgbhakdlaaDoor

/- strings.ContainsAny of any text and the four signs that a key has not. -/
namespace Go.Proofs.YthmhadgbhakdlaaDoor
open Go.RowKit

theorem sg_list : sg.data.toList = Te.signs := rfl
theorem signs_low : ∀ b ∈ Te.signs, b.toNat < 128 := by decide
theorem high_not (b : UInt8) (h : 128 ≤ b.toNat) : Te.signs.contains b = false := by
  cases hc : Te.signs.contains b with
  | false => rfl
  | true =>
    have := signs_low b (by simpa using hc)
    omega
/-- A sign of several letters has none of the four. -/
theorem noAny_high (s : ByteArray) (pos : Nat) (ha : 128 ≤ (s.get! pos).toNat) (h : Lib.NoAny (tl s) Te.signs pos) : Lib.NoAny (tl s) Te.signs (pos + (Utf8.decode s pos).2) := by
  intro j b hj hb
  by_cases h1 : j < pos
  · exact h j b h1 hb
  · have hjs : j < s.size := by
      have := (List.getElem?_eq_some_iff.1 hb).1
      rwa [tl_length] at this
    have hb2 := Te.get_tl s j hjs
    rw [hb] at hb2
    rw [Option.some.inj hb2]
    apply high_not
    by_cases h2 : j = pos
    · rw [h2]; exact ha
    · have := (Te.tail_high s pos (j - pos) (by omega) (by omega)).2
      rwa [show pos + (j - pos) = j from by omega] at this
set_option maxHeartbeats 4000000 in
set_option maxRecDepth 100000 in
theorem indexAny_short (s : ByteArray) (h8 : s.size ≤ 8) (w : World) :
    Calls Tryd.prog 61 #[.string s, .string sg] w fun e w' => e = .returned (.int .i64 (Lib.indexAny (tl s) Te.signs)) ∧ Below w.heap.size w w' := by
  have HR : Hid (∀ (r : Int) W, 128 ≤ r → r ≤ 2147483647 → Calls Tryd.prog 71 #[.string sg, .int .i32 r] W fun e w' => e = .returned (.int .i64 (-1)) ∧ Below W.heap.size W w') := fun r W h1 h2 => indexRune_any r h1 h2 W
  have HA : Hid (∀ (x : UInt8) W, x.toNat < 128 → Calls Tryd.prog 71 #[.string sg, .int .i32 x.toNat] W fun e w' => e = .returned (.int .i64 (Lib.indexByte Te.signs x)) ∧ w' = W) := by
    intro x W hx
    have h := Tryd.strings_IndexRune_ascii sg x.toNat W (by omega) (by omega)
    rw [sg_list, show ((x.toNat : Int)).toNat.toUInt8 = x from by simp] at h
    exact h
  have hemp : sg.toList.isEmpty = false := by rw [Lib.toList_data]; rfl
  have hn4 : (sg.size : Int) = 4 := rfl
  obtain ⟨q, hq⟩ : ∃ q, sg = q := ⟨_, rfl⟩
  rw [hq] at HR HA hemp hn4 ⊢
  clear hq
  have h8z : decide ((8 : Int) < (s.size : Int)) = false := decide_eq_false (by omega)
  have HU := Lib.hid (fun W => Tryd.strings_shouldUseASCIISet s.size W)
  rw [h8z] at HU
  obtain ⟨v, hv⟩ : ∃ v, Lib.indexAny (tl s) Te.signs = v := ⟨_, rfl⟩
  rw [hv]
  have HV := Lib.hid hv
  clear hv h8z
  go_enter Tryd.func61, Tryd.ntmps61
  go_wp2_with (refine (HU.out _).mono ?_; rintro e w' ⟨rfl, rfl⟩)
  go_loopw [46] (fun _ wr => ∃ (pos : Nat), wr.heap[w'.heap.size]? = some (.stringIter s pos) ∧ Hid (Below w'.heap.size w' wr) ∧ Hid (Lib.NoAny (tl s) Te.signs pos)) (fun _ wr => s.size - wr.iterPos w'.heap.size)
  case atStart => exact ⟨0, World.iter_heap _ s 0, iter_below s 0, Lib.NoAny.zero _ _⟩
  case round =>
    obtain ⟨pos, hit, HB, HN⟩ := hrel
    have hsz : w'.heap.size < wr.heap.size := (Array.getElem?_eq_some_iff.1 hit).1
    by_cases hp : pos < s.size
    · have hnx : ∀ ty, (Instr.next (.pointer (some ⟨w'.heap.size, 0, none⟩)) true ty).run Tryd.prog wr = _ := fun ty => Lib.run_next_any_at wr w'.heap.size s pos ty hit hp
      have hw := Te.width_pos s pos hp
      by_cases ha : (s.get! pos).toNat < 128
      · rw [Te.first_ascii s pos hp ha] at hnx
        have HX := Lib.hid (Te.get_tl s pos hp)
        obtain ⟨x, hx⟩ : ∃ x, s.get! pos = x := ⟨_, rfl⟩
        rw [hx] at hnx ha HX
        clear hx hw
        have hit2 := Lib.iterAt_heap wr w'.heap.size s pos (pos + 1) hit
        have HB2 := Lib.hid (Lib.below_iterAt HB.out (k := w'.heap.size) (Nat.le_refl _) s (pos + 1))
        have HC := Lib.hid (fun W => HA.out x W ha)
        have hcon := Lib.contains_iff_indexByte Te.signs x
        cases hin : Te.signs.contains x with
        | false =>
          rw [hin] at hcon
          have hlt : ¬ ((0 : Int) ≤ Lib.indexByte Te.signs x) := of_decide_eq_false hcon.symm
          have HN2 := Lib.hid (HN.out.succ HX.out hin)
          clear hcon hin HN HX HB
          go_wp2_with (refine (HC.out _).mono ?_; rintro e w2 ⟨rfl, rfl⟩)
          go_wp2
          go_roundw
          case rel => exact ⟨pos + 1, hit2, HB2, HN2⟩
          case measure => simp only [World.iterPos, hit2, hit]; omega
        | true =>
          rw [hin] at hcon
          have hge : (0 : Int) ≤ Lib.indexByte Te.signs x := of_decide_eq_true hcon.symm
          have HE : Hid (v = pos) := by
            show v = pos
            rw [← HV.out]
            exact Lib.indexAny_hit HN.out HX.out hin
          clear hcon hin HN HX HB
          go_wp2_with (refine (HC.out _).mono ?_; rintro e w2 ⟨rfl, rfl⟩)
          go_wp2
          go_ret
          exact ⟨by rw [HE.out]; rfl, HB2.out⟩
      · have hh := Te.first_high s pos hp (by omega)
        have hle := decode_le s pos
        have HN2 := Lib.hid (noAny_high s pos (by omega) HN.out)
        obtain ⟨c, hc⟩ : ∃ c, (Utf8.decode s pos).1 = c := ⟨_, rfl⟩
        obtain ⟨n, hn⟩ : ∃ n, (Utf8.decode s pos).2 = n := ⟨_, rfl⟩
        rw [hc, hn] at hnx
        rw [hc] at hh hle
        rw [hn] at hw HN2
        clear hc hn ha
        have hit2 := Lib.iterAt_heap wr w'.heap.size s pos (pos + n) hit
        have HB2 := Lib.hid (Lib.below_iterAt HB.out (k := w'.heap.size) (Nat.le_refl _) s (pos + n))
        have hsz2 : w'.heap.size < (wr.iterAt w'.heap.size s (pos + n)).heap.size := by rw [Lib.iterAt_size]; exact hsz
        have HC := Lib.hid (fun W => HR.out (c : Int) W (by omega) (by omega))
        clear HN HB
        go_wp2_with (refine (HC.out _).mono ?_; rintro e w2 ⟨rfl, hb⟩)
        have hit3 : w2.heap[w'.heap.size]? = some (.stringIter s (pos + n)) := (hb.block _ hsz2).trans hit2
        have HB3 := Lib.hid (HB2.out.trans (hb.mono (Nat.le_of_lt hsz2)))
        clear hb
        go_wp2
        go_roundw
        case rel => exact ⟨pos + n, hit3, HB3, HN2⟩
        case measure => simp only [World.iterPos, hit3, hit]; omega
    · have hnx : ∀ ty, (Instr.next (.pointer (some ⟨w'.heap.size, 0, none⟩)) true ty).run Tryd.prog wr = _ := fun ty => Lib.run_next_end_at wr w'.heap.size s pos ty hit hp
      have HE : Hid (v = -1) := by
        show v = -1
        rw [← HV.out]
        apply Lib.indexAny_none
        intro j b hj hb
        rw [tl_length] at hj
        exact HN.out j b (by omega) hb
      go_wp2
      go_ret
      exact ⟨by rw [HE.out]; rfl, HB.out⟩
theorem indexAny_all (s : ByteArray) (hs : s.size < 4294967281) (w : World) :
    Calls Tryd.prog 61 #[.string s, .string sg] w fun e w' => e = .returned (.int .i64 (Lib.indexAny (tl s) Te.signs)) ∧ Below w.heap.size w w' := by
  by_cases h8 : s.size ≤ 8
  · exact indexAny_short s h8 w
  · have h116 : (Tryd.prog.info? 118).map (fun i => (i.zero, i.size)) = some (some (.agg (Array.replicate 256 (.bool false))), 256) := by kernel_rfl
    refine (Tryd.strings_IndexAny_long (zero_of_info h116).1 s sg w (by decide) (by omega) hs (by decide) ?_).mono ?_
    · intro j b hb
      exact signs_low b (List.mem_of_getElem? hb)
    · rintro e w' ⟨rfl, rfl⟩
      exact ⟨rfl, ((Below.refl _ _).alloc (Nat.le_refl _) _).alloc (by simp) _⟩
set_option maxHeartbeats 1000000 in
theorem containsAny_all (s : ByteArray) (hs : s.size < 4294967281) (w : World) :
    Calls Tryd.prog 47 #[.string s, .string sg] w fun e w' => e = .returned (.bool (Lib.containsAny (tl s) Te.signs)) ∧ Below w.heap.size w w' := by
  have HC := Lib.hid (fun W => indexAny_all s hs W)
  obtain ⟨q, hq⟩ : ∃ q, sg = q := ⟨_, rfl⟩
  rw [hq] at HC ⊢
  clear hq
  go_enter Tryd.func47, Tryd.ntmps47
  go_wp2_with (refine (HC.out _).mono ?_; rintro e w' ⟨rfl, hb⟩)
  go_ret
  exact ⟨rfl, hb⟩
end Go.Proofs.YthmhadgbhakdlaaDoor

/- chart.Key: whether a text is a key. -/
namespace Go.Proofs.YthmhadgbhakdlaaDoor
open Go.RowKit

set_option maxHeartbeats 2000000 in
set_option maxRecDepth 100000 in
theorem chartKey_any (s : ByteArray) (hs : s.size ≤ maxLen) (w : World) :
    Calls Tryd.prog 33 #[.string s] w fun e w' => e = .returned (.bool (Te.key s)) ∧ Below w.heap.size w w' := by
  have HP := Lib.hid (fun W => utfPlain_any s hs W)
  unfold maxLen at hs
  obtain ⟨v, hv⟩ : ∃ v, Te.key s = v := ⟨_, rfl⟩
  rw [hv]
  unfold Te.key at hv
  by_cases h1 : s.size < 1
  · have q1 : (s.size : Int) < 1 := by omega
    rw [decide_eq_false (show ¬ 1 ≤ s.size by omega)] at hv
    have HV : Hid (v = false) := hv.symm
    clear hv h1
    go_enter Tryd.func33, Tryd.ntmps33
    go_wp2
    go_ret
    exact ⟨by rw [HV.out]; rfl, Below.refl _ _⟩
  · have q1 : ¬ (s.size : Int) < 1 := by omega
    rw [decide_eq_true (show 1 ≤ s.size by omega)] at hv
    by_cases h2 : 64 < s.size
    · have q2 : (64 : Int) < (s.size : Int) := by omega
      rw [decide_eq_false (show ¬ s.size ≤ 64 by omega)] at hv
      have HV : Hid (v = false) := hv.symm
      clear hv h1 h2
      go_enter Tryd.func33, Tryd.ntmps33
      go_wp2
      go_ret
      exact ⟨by rw [HV.out]; rfl, Below.refl _ _⟩
    · have q2 : ¬ (64 : Int) < (s.size : Int) := by omega
      rw [decide_eq_true (show s.size ≤ 64 by omega)] at hv
      cases hp : Te.plain s with
      | false =>
        rw [hp] at hv HP
        have HV : Hid (v = false) := hv.symm
        clear hv h1 h2 hp
        go_enter Tryd.func33, Tryd.ntmps33
        go_wp2_with (refine (HP.out _).mono ?_; rintro e w1 ⟨rfl, hb⟩)
        go_ret
        exact ⟨by rw [HV.out]; rfl, hb⟩
      | true =>
        rw [hp] at hv HP
        have HC : Hid (∀ W, Calls Tryd.prog 47 #[.string s, .string ⟨#[92, 91, 93, 34]⟩] W fun e w' => e = .returned (.bool (Lib.containsAny (tl s) Te.signs)) ∧ Below W.heap.size W w') := fun W => containsAny_all s (by omega) W
        cases hc : Lib.containsAny (tl s) Te.signs with
        | true =>
          rw [hc] at hv HC
          have HV : Hid (v = false) := hv.symm
          clear hv h1 h2 hp hc
          go_enter Tryd.func33, Tryd.ntmps33
          go_wp2_with (first | (go_at_call 46; refine (HP.out _).mono ?_; rintro e w1 ⟨rfl, hb⟩) | (go_at_call 47; refine (HC.out _).mono ?_; rintro e w2 ⟨rfl, hb2⟩))
          go_ret
          exact ⟨by rw [HV.out]; rfl, below_then hb hb2⟩
        | false =>
          rw [hc] at hv HC
          have hs0 : 0 < s.size := by omega
          have hsl : s.size - 1 < s.size := by omega
          have e1 : (tl s).head? = some (s[0]'hs0) := by
            rw [List.head?_eq_getElem?, Te.get_tl s 0 hs0]
            congr 1
            have := get_at s 0 hs0
            simpa using this
          have e2 : (tl s).getLast? = some (s[s.size - 1]'hsl) := by
            rw [List.getLast?_eq_getElem?, tl_length, Te.get_tl s (s.size - 1) hsl]
            congr 1
            have := get_at s (s.size - 1) hsl
            simpa using this
          rw [e1, e2] at hv
          obtain ⟨n, hn⟩ : ∃ n, s.size - 1 = n := ⟨_, rfl⟩
          have w1 : IntKind.i64.wrap ((s.size : Int) - 1) = n := by rw [IntKind.wrap_i64]; omega
          have w2 : wrap64 ((s.size : Int) - 1) = n := by unfold wrap64; omega
          simp only [hn] at hv
          have hsn : n < s.size := by omega
          obtain ⟨a, ha⟩ : ∃ a, s[0]'hs0 = a := ⟨_, rfl⟩
          obtain ⟨b, hb⟩ : ∃ b, s[n]'hsn = b := ⟨_, rfl⟩
          have HV : Hid (v = (decide (a.toNat ≠ 32) && decide (b.toNat ≠ 32))) := by
            show v = _
            rw [← hv, ha, hb]
            have f : ∀ c : UInt8, (some c != some (32 : UInt8)) = decide (c.toNat ≠ 32) := by
              intro c
              rw [Bool.eq_iff_iff]
              simp only [bne_iff_ne, ne_eq, Option.some.injEq, decide_eq_true_eq]
              exact ⟨fun h e => h (UInt8.toNat_inj.1 e), fun h e => h (by rw [e]; rfl)⟩
            rw [f, f]
            simp
          clear hv h1 h2 hp hc e1 e2 hn hsl
          have p0 : (0 : Int) < (s.size : Int) := by omega
          have p1 : (n : Int) < (s.size : Int) := by omega
          by_cases ha32 : a.toNat = 32
          · have HX : Hid (v = false) := by
              show v = false
              rw [HV.out, ha32]; rfl
            have qa : ((a.toNat : Int) != 32) = false := by rw [ha32]; rfl
            have qa' : (a.toNat : Int) = 32 := by omega
            clear HV
            go_enter Tryd.func33, Tryd.ntmps33
            go_wp2_with (first | (go_at_call 46; refine (HP.out _).mono ?_; rintro e w1 ⟨rfl, hb1⟩) | (go_at_call 47; refine (HC.out _).mono ?_; rintro e w2 ⟨rfl, hb2⟩))
            go_wp2
            go_ret
            exact ⟨by rw [HX.out]; rfl, below_then hb1 hb2⟩
          · have qa : ((a.toNat : Int) != 32) = true := by simp; omega
            have qa' : ¬ (a.toNat : Int) = 32 := by omega
            have HX : Hid (v = decide (b.toNat ≠ 32)) := by
              show v = _
              rw [HV.out, decide_eq_true ha32]; rfl
            clear HV
            go_enter Tryd.func33, Tryd.ntmps33
            go_wp2_with (first | (go_at_call 46; refine (HP.out _).mono ?_; rintro e w1 ⟨rfl, hb1⟩) | (go_at_call 47; refine (HC.out _).mono ?_; rintro e w2 ⟨rfl, hb2⟩))
            go_wp2
            go_ret
            refine ⟨?_, below_then hb1 hb2⟩
            have hbb : decide (b.toNat ≠ 32) = ((b.toNat : Int) != 32) := by
              rw [Bool.eq_iff_iff]
              simp only [decide_eq_true_eq, bne_iff_ne, ne_eq]
              omega
            rw [HX.out, hbb]
            rfl
end Go.Proofs.YthmhadgbhakdlaaDoor

/- chart.territory and chart.right. -/
namespace Go.Proofs.YthmhadgbhakdlaaDoor
open Go.RowKit

namespace Ca
theorem all_next {α : Type} {p : α → Bool} {l : List α} {k : Nat} {x : α} {X : Bool} (h : X = (l.drop k).all p) (hx : l[k]? = some x) : X = (p x && (l.drop (k + 1)).all p) := by
  rw [List.drop_eq_getElem_cons (List.getElem?_eq_some_iff.1 hx).1] at h
  rw [h, List.all_cons, (List.getElem?_eq_some_iff.1 hx).2]
theorem all_end {α : Type} {p : α → Bool} {l : List α} {k : Nat} {X : Bool} (h : X = (l.drop k).all p) (hk : l.length ≤ k) : X = true := by
  rw [h, List.drop_eq_nil_of_le hk]
  rfl
theorem sign_cases (c : UInt8) : (sign c = true ∧ 65 ≤ (c.toNat : Int) ∧ (c.toNat : Int) ≤ 90) ∨ (sign c = true ∧ ¬ 65 ≤ (c.toNat : Int) ∧ 48 ≤ (c.toNat : Int) ∧ (c.toNat : Int) ≤ 57) ∨ (sign c = false ∧ 65 ≤ (c.toNat : Int) ∧ ¬ (c.toNat : Int) ≤ 90 ∧ 48 ≤ (c.toNat : Int) ∧ ¬ (c.toNat : Int) ≤ 57) ∨
    (sign c = false ∧ ¬ 65 ≤ (c.toNat : Int) ∧ 48 ≤ (c.toNat : Int) ∧ ¬ (c.toNat : Int) ≤ 57) ∨ (sign c = false ∧ ¬ 65 ≤ (c.toNat : Int) ∧ ¬ 48 ≤ (c.toNat : Int)) := by
  unfold sign
  simp only [Bool.or_eq_true, Bool.and_eq_true, decide_eq_true_eq, Bool.or_eq_false_iff, Bool.and_eq_false_iff, decide_eq_false_iff_not]
  omega
end Ca
set_option maxHeartbeats 2000000 in
set_option maxRecDepth 100000 in
theorem caTerr_any (s : ByteArray) (hs : s.size ≤ maxLen) (w : World) :
    Calls Tryd.prog 34 #[.string s] w fun e w' => e = .returned (.bool (Ca.terrB (tl s))) ∧ Below w.heap.size w w' := by
  unfold maxLen at hs
  obtain ⟨X, hX⟩ : ∃ X, Ca.terrB (tl s) = X := ⟨_, rfl⟩
  rw [hX]
  unfold Ca.terrB at hX
  rw [tl_length] at hX
  by_cases h1 : 1 ≤ s.size
  · have q1 : ¬ (s.size : Int) < 1 := by omega
    by_cases h2 : s.size ≤ 8
    · have q2 : ¬ (8 : Int) < (s.size : Int) := by omega
      rw [decide_eq_true ⟨h1, h2⟩, Bool.true_and] at hX
      have H0 : Hid (X = ((tl s).drop 0).all Ca.sign) := hX.symm
      have HL : Hid ((tl s).length = s.size) := tl_length s
      clear hX
      go_enter Tryd.func34, Tryd.ntmps34
      go_wp2
      go_loop [3] (fun i => ∃ k : Nat, k ≤ s.size ∧ i = .int .i64 k ∧ Hid (X = ((tl s).drop k).all Ca.sign)) (fun i => s.size - (intOf i).toNat)
      case atStart => exact ⟨0, Nat.zero_le _, rfl, H0.out⟩
      case round =>
        obtain ⟨k, hk, rfl, HK⟩ := hrel
        by_cases hlt : k < s.size
        · have p1 : (0 : Int) ≤ (k : Int) := by omega
          have p2 : (k : Int) < (s.size : Int) := by omega
          have HN := Lib.hid (Ca.all_next HK.out (Dy.tl_get s k hlt))
          obtain ⟨c, hc⟩ : ∃ c, s[k] = c := ⟨_, rfl⟩
          rw [hc] at HN
          have hcs := Ca.sign_cases c
          rcases hcs with ⟨hq, i1, i2⟩ | ⟨hq, i1, i2, i3⟩ | ⟨hq, i1, i2, i3, i4⟩ | ⟨hq, i1, i2, i3⟩ | ⟨hq, i1, i2⟩
          · have HG : Hid (X = ((tl s).drop (k + 1)).all Ca.sign) := by
              have h := HN.out
              rw [hq, Bool.true_and] at h
              exact h
            clear hq
            go_wp2
            go_round
            case rel => exact ⟨k + 1, by omega, by go_num, HG.out⟩
            case measure => simp [intOf]; omega
          · have HG : Hid (X = ((tl s).drop (k + 1)).all Ca.sign) := by
              have h := HN.out
              rw [hq, Bool.true_and] at h
              exact h
            clear hq
            go_wp2
            go_round
            case rel => exact ⟨k + 1, by omega, by go_num, HG.out⟩
            case measure => simp [intOf]; omega
          · have HG : Hid (X = false) := by
              have h := HN.out
              rw [hq, Bool.false_and] at h
              exact h
            clear hq
            go_wp2
            go_ret
            exact ⟨ret_bool HG.out.symm, Below.refl _ _⟩
          · have HG : Hid (X = false) := by
              have h := HN.out
              rw [hq, Bool.false_and] at h
              exact h
            clear hq
            go_wp2
            go_ret
            exact ⟨ret_bool HG.out.symm, Below.refl _ _⟩
          · have HG : Hid (X = false) := by
              have h := HN.out
              rw [hq, Bool.false_and] at h
              exact h
            clear hq
            go_wp2
            go_ret
            exact ⟨ret_bool HG.out.symm, Below.refl _ _⟩
        · have HE := Lib.hid (Ca.all_end HK.out (by rw [HL.out]; omega))
          have p2 : ¬ (k : Int) < (s.size : Int) := by omega
          go_wp2
          go_ret
          exact ⟨ret_bool HE.out.symm, Below.refl _ _⟩
    · have q2 : (8 : Int) < (s.size : Int) := by omega
      rw [decide_eq_false (fun h => h2 h.2), Bool.false_and] at hX
      have HG := Lib.hid hX
      clear hX
      go_enter Tryd.func34, Tryd.ntmps34
      go_wp2
      go_ret
      exact ⟨ret_bool HG.out, Below.refl _ _⟩
  · have q1 : (s.size : Int) < 1 := by omega
    rw [decide_eq_false (fun h => h1 h.1), Bool.false_and] at hX
    have HG := Lib.hid hX
    clear hX
    go_enter Tryd.func34, Tryd.ntmps34
    go_wp2
    go_ret
    exact ⟨ret_bool HG.out, Below.refl _ _⟩
set_option maxHeartbeats 2000000 in
set_option maxRecDepth 100000 in
theorem caRight_any (x : Ca.E) (A : Option Addr) (c : Nat) (w : World) (hr : Reads w w.heap.size 1 A x.zones.length (x.zones.map Value.string)) (hc : x.zones.length ≤ c) (h1 : x.key.size ≤ maxLen) (h2 : x.terr.size ≤ maxLen) (h3 : ∀ z ∈ x.zones, z.size ≤ maxLen) :
    Calls Tryd.prog 19 #[.agg #[.string x.key, .string x.terr, .slice A x.zones.length c]] w fun e w' => e = .returned (.bool (Ca.right x)) ∧ Below w.heap.size w w' := by
  obtain ⟨ky, te, zs⟩ := x
  simp only at hr hc h1 h2 h3 ⊢
  obtain ⟨n, hn⟩ : ∃ n, zs.length = n := ⟨_, rfl⟩
  obtain ⟨X, hX⟩ : ∃ X, Ca.right ⟨ky, te, zs⟩ = X := ⟨_, rfl⟩
  rw [hX]
  unfold Ca.right at hX
  simp only at hX
  rw [hn] at hr hc hX ⊢
  obtain ⟨b1, hb1⟩ : ∃ b, Te.key ky = b := ⟨_, rfl⟩
  obtain ⟨b2, hb2⟩ : ∃ b, Ca.terrB (tl te) = b := ⟨_, rfl⟩
  have HK := Lib.hid fun W => chartKey_any ky h1 W
  have HT := Lib.hid fun W => caTerr_any te h2 W
  have HNm := Lib.hid fun (z : ByteArray) (hz : z ∈ zs) W => name_all z W (h3 z hz)
  rw [hb1] at HK hX
  rw [hb2] at HT hX
  obtain ⟨W0, hW0⟩ : ∃ W, w.alloc (.cells #[.string ky, .string te, .slice A n c] 49) = W := ⟨_, rfl⟩
  have hB0 : Below w.heap.size w W0 := by rw [← hW0]; exact (Below.refl _ _).alloc (Nat.le_refl _) _
  have hA0 : At W0 w.heap.size [.string ky, .string te, .slice A n c] := by rw [← hW0]; exact At.new _ _ _
  have HRw := Lib.hid hr
  have HB0 := Lib.hid hB0
  have HA0 := Lib.hid hA0
  have HW0 := Lib.hid hW0
  have HN := Lib.hid hn
  have HX := Lib.hid hX
  obtain ⟨c0, c1, c2, _⟩ := hA0.three
  clear hW0 hX hr hB0 hA0 hn h1 h2 h3 hb1 hb2
  go_enter Tryd.func19, Tryd.ntmps19
  go_wp2_with fail
  rw [HW0.out]
  refine (HK.out _).mono ?_
  rintro e w1 ⟨rfl, hb⟩
  have HB1 := Lib.hid (below_then HB0.out hb)
  have HA1 := Lib.hid (HA0.out.call hb)
  obtain ⟨d0, d1, d2, _⟩ := HA1.out.three
  clear hb c0 c1 c2
  cases b1 with
  | false =>
    have HE : Hid (X = false) := by
      have h := HX.out
      simp only [Bool.false_and] at h
      exact h.symm
    go_wp2
    go_ret
    exact ⟨ret_bool HE.out.symm, HB1.out⟩
  | true =>
    go_wp2_with fail
    refine (HT.out _).mono ?_
    rintro e w2 ⟨rfl, hb⟩
    have HB2 := Lib.hid (below_then HB1.out hb)
    have HA2 := Lib.hid (HA1.out.call hb)
    obtain ⟨e0, e1, e2, _⟩ := HA2.out.three
    have HR2 := Lib.hid (HRw.out.below HB2.out)
    clear hb d0 d1 d2
    cases b2 with
    | false =>
      have HE : Hid (X = false) := by
        have h := HX.out
        simp only [Bool.true_and, Bool.false_and] at h
        exact h.symm
      go_wp2
      go_ret
      exact ⟨ret_bool HE.out.symm, HB2.out⟩
    | true =>
      by_cases hn1 : 1 ≤ n
      · have q1 : ¬ (n : Int) < 1 := by omega
        by_cases hn2 : n ≤ 32
        · have q2 : ¬ (32 : Int) < (n : Int) := by omega
          have H0 : Hid (X = (zs.drop 0).all fun z => Ru.name (tl z)) := by
            have h := HX.out
            rw [decide_eq_true ⟨hn1, hn2⟩] at h
            show X = _
            simpa using h.symm
          clear HX
          go_wp2
          go_loopw [28] (fun i wr => ∃ k : Nat, k ≤ n ∧ i = .int .i64 k ∧ Hid (X = (zs.drop k).all fun z => Ru.name (tl z)) ∧ Hid (Below w2.heap.size w2 wr)) (fun i _ => n - (intOf i).toNat)
          case atStart => exact ⟨0, Nat.zero_le _, rfl, H0.out, Below.refl _ _⟩
          case round =>
            obtain ⟨k, hk, rfl, HKk, HBr⟩ := hrel
            by_cases hlt : k < n
            · have p1 : (0 : Int) ≤ (k : Int) := by omega
              have p2 : (k : Int) < (n : Int) := by omega
              obtain ⟨ad, x, rfl, Hx, hcell⟩ : ∃ ad nm, A = some ad ∧ Hid (zs[k]? = some nm) ∧ wr.cell? (ad.add k) = some (.string nm) := reads_str (HR2.out.below (HBr.out.mono HB2.out.size)) hlt
              have HNx := Lib.hid (HNm.out x (List.mem_of_getElem? Hx.out))
              have HNn := Lib.hid (Ca.all_next HKk.out Hx.out)
              obtain ⟨bx, hbx⟩ : ∃ b, Ru.name (tl x) = b := ⟨_, rfl⟩
              rw [hbx] at HNx HNn
              clear hbx
              go_wp2_with fail
              refine (HNx.out _).mono ?_
              rintro e w3 ⟨rfl, hb⟩
              have HB3 := Lib.hid (below_then HBr.out hb)
              clear hb hcell
              cases bx with
              | true =>
                have HG : Hid (X = (zs.drop (k + 1)).all fun z => Ru.name (tl z)) := by
                  have h := HNn.out
                  rw [Bool.true_and] at h
                  exact h
                go_wp2
                go_roundw
                case rel => exact ⟨k + 1, by omega, by go_num, HG.out, HB3.out⟩
                case measure => simp [intOf]; omega
              | false =>
                have HG : Hid (X = false) := by
                  have h := HNn.out
                  rw [Bool.false_and] at h
                  exact h
                go_wp2
                go_ret
                exact ⟨ret_bool HG.out.symm, below_then HB2.out HB3.out⟩
            · have p2 : ¬ (k : Int) < (n : Int) := by omega
              have HE := Lib.hid (Ca.all_end HKk.out (by rw [HN.out]; omega))
              go_wp2
              go_ret
              exact ⟨ret_bool HE.out.symm, below_then HB2.out HBr.out⟩
        · have q2 : (32 : Int) < (n : Int) := by omega
          have HE : Hid (X = false) := by
            have h := HX.out
            rw [decide_eq_false (fun h => hn2 h.2)] at h
            show X = _
            simpa using h.symm
          clear HX
          go_wp2
          go_ret
          exact ⟨ret_bool HE.out.symm, HB2.out⟩
      · have q1 : (n : Int) < 1 := by omega
        have HE : Hid (X = false) := by
          have h := HX.out
          rw [decide_eq_false (fun h => hn1 h.1)] at h
          show X = _
          simpa using h.symm
        clear HX
        go_wp2
        go_ret
        exact ⟨ret_bool HE.out.symm, HB2.out⟩
end Go.Proofs.YthmhadgbhakdlaaDoor

/- chart.twice and chart.alone. -/
namespace Go.Proofs.YthmhadgbhakdlaaDoor
open Go.RowKit

theorem bal {a w : World} (h : Below a.heap.size a w) (o : Obj) : Below a.heap.size a (w.alloc o) := h.alloc h.size o
theorem bal1 (w : World) (o : Obj) : Below w.heap.size w (w.alloc o) := bal (Below.refl _ _) o
namespace Ca
theorem dup_yes {l : List E} {k : Nat} {x : E} (h : l[k]? = some x) (hm : kb x ∈ (l.take k).map kb) : dup l = true := by
  unfold dup
  rw [Bool.not_eq_true', decide_eq_false_iff_not]
  intro hn
  obtain ⟨y, hy, e⟩ := List.mem_map.1 hm
  obtain ⟨j, hj⟩ := List.mem_iff_getElem?.1 hy
  have hjk : j < k := by
    have := (List.getElem?_eq_some_iff.1 hj).1
    rw [List.length_take] at this
    omega
  rw [List.getElem?_take, if_pos hjk] at hj
  have g1 : (l.map kb)[j]? = some (kb x) := by rw [List.getElem?_map, hj]; simp [e]
  have g2 : (l.map kb)[k]? = some (kb x) := by rw [List.getElem?_map, h]; rfl
  have := (List.getElem?_inj (List.getElem?_eq_some_iff.1 g1).1 hn).1 (g1.trans g2.symm)
  omega
theorem nodup_snoc {l : List ByteArray} {x : ByteArray} (h : l.Nodup) (hx : x ∉ l) : (l ++ [x]).Nodup := by
  rw [List.nodup_append]
  exact ⟨h, by simp, fun a ha b hb => by rw [List.mem_singleton.1 hb]; exact fun e => hx (e ▸ ha)⟩
theorem dup_no {l : List E} (h : (l.map kb).Nodup) : dup l = false := by
  unfold dup
  rw [decide_eq_true h]
  rfl
theorem kb_take {l : List E} {k : Nat} {x : E} (h : l[k]? = some x) : (l.take (k + 1)).map kb = (l.take k).map kb ++ [kb x] := by
  rw [List.take_add_one, h]
  simp
theorem has_not {a : List ByteArray} {k : ByteArray} (h : k ∉ a) : has a k = false := by
  cases e : has a k with
  | true => exact absurd (has_iff.1 e) h
  | false => rfl
end Ca
set_option maxHeartbeats 2000000 in
set_option maxRecDepth 100000 in
theorem caTwice_any (l : List Ca.E) (A : Option Addr) (n c : Nat) (evs : List Value) (w : World) (hR : Ca.EntR w w.heap.size l (.slice A n c) evs) (hl : l.length = n) (hW : Ca.Wd l) :
    Calls Tryd.prog 25 #[.slice A n c] w fun e w' => e = .returned (.bool (Ca.dup l)) ∧ Below w.heap.size w w' := by
  have hn : n ≤ 4096 := by rw [← hl]; exact hW.n
  obtain ⟨X, hX⟩ : ∃ X, Ca.dup l = X := ⟨_, rfl⟩
  rw [hX]
  obtain ⟨bm, hbm⟩ : ∃ b, w.heap.size = b := ⟨_, rfl⟩
  obtain ⟨W0, hW0⟩ : ∃ W, w.alloc (.map #[] 0) = W := ⟨_, rfl⟩
  have hB0 : Below w.heap.size w W0 := by rw [← hW0]; exact bal1 _ _
  have hM0 : MapF Tryd.prog 86 W0 bm 0 (Ca.sf []) := by
    rw [← hW0, ← hbm]
    exact MapF.made w
  have HR := Lib.hid hR
  have HL := Lib.hid hl
  have HW := Lib.hid hW
  have HX := Lib.hid hX
  have HB0 := Lib.hid hB0
  have HM0 := Lib.hid hM0
  have HBm := Lib.hid hbm
  have HW0 := Lib.hid hW0
  clear hR hl hW hX hB0 hM0 hbm hW0
  have hmk := make_row (n : Int)
  go_enter Tryd.func25, Tryd.ntmps25
  go_wp2_with fail
  rw [HW0.out, HBm.out]
  go_loopw [14] (fun i wr => ∃ k : Nat, k ≤ n ∧ i = .int .i64 (k : Int) ∧ Hid (Below w.heap.size w wr) ∧ Hid (MapF Tryd.prog 86 wr bm k (Ca.sf ((l.take k).map Ca.kb))) ∧ Hid (((l.take k).map Ca.kb).Nodup)) (fun i _ => n - (intOf i).toNat)
  case atStart => exact ⟨0, Nat.zero_le _, rfl, HB0.out, HM0.out, List.nodup_nil⟩
  case round =>
    clear hmk
    obtain ⟨k, hk, rfl, HB, HM, HD⟩ := hrel
    by_cases hlt : k < n
    · have q1 : (0 : Int) ≤ (k : Int) := by omega
      have q2 : (k : Int) < (n : Int) := by omega
      obtain ⟨ad, x, zA, m, zc, rfl, hab, Hx, c0, c1, c2, HZl, hz1, hz2, HZr, HEv⟩ := (HR.out.below HB.out).at_ HL.out hlt
      obtain ⟨h1, h2, h3⟩ := HW.out.all x (List.mem_of_getElem? Hx.out)
      have hkm : k < maxLen := by unfold maxLen; omega
      clear h3 HZl HZr HEv
      by_cases hin : Ca.kb x ∈ (l.take k).map Ca.kb
      · have hq := Ca.has_iff.2 hin
        have HE : Hid (X = true) := HX.out.symm.trans (Ca.dup_yes Hx.out hin)
        have HBe := Lib.hid (bal (bal (bal HB.out (.cells #[.string x.key, .string x.terr, .slice zA m zc] 49)) (.cells #[.string x.key, .string x.terr] 86)) (.cells #[] 87))
        clear hin
        go_wp2_with (at_lookup; refine look_row _ rfl _ _ bm k _ x h1 h2 rfl rfl rfl ((HM.out.alloc _).alloc _) true hq ?_)
        go_ret
        exact ⟨ret_bool HE.out.symm, HBe.out⟩
      · have hq := Ca.has_not hin
        have HBe := Lib.hid (bal (bal (bal HB.out (.cells #[.string x.key, .string x.terr, .slice zA m zc] 49)) (.cells #[.string x.key, .string x.terr] 86)) (.cells #[] 87))
        have HMe := Lib.hid (((HM.out.alloc (.cells #[.string x.key, .string x.terr, .slice zA m zc] 49)).alloc (.cells #[.string x.key, .string x.terr] 86)).alloc (.cells #[] 87))
        have HDn := Lib.hid (Ca.nodup_snoc HD.out hin)
        have HT := Lib.hid (Ca.kb_take Hx.out)
        clear hin
        go_wp2_with (first | (at_lookup; refine look_row _ rfl _ _ bm k _ x h1 h2 rfl rfl rfl ((HM.out.alloc _).alloc _) false hq ?_) | (at_mapUpdate; refine store_row _ rfl _ _ _ bm k _ x h1 h2 hkm rfl rfl rfl rfl HMe.out ?_; intro w3 hM3 hg3; have HM3 := Lib.hid hM3; have HG3 := Lib.hid hg3; clear hM3 hg3))
        go_roundw
        case rel => exact ⟨k + 1, by omega, by go_num, HBe.out.grown HG3.out HBe.out.size (fun j e => by cases e; exact Nat.le_of_eq HBm.out), by show MapF _ _ _ _ _ (Ca.sf ((l.take (k + 1)).map Ca.kb)); rw [HT.out]; exact HM3.out, by show ((l.take (k + 1)).map Ca.kb).Nodup; rw [HT.out]; exact HDn.out⟩
        case measure => simp [intOf]; omega
    · have p2 : ¬ (k : Int) < (n : Int) := by omega
      have HE : Hid (X = false) := by
        show X = false
        rw [← HX.out]
        have h := HD.out
        rw [List.take_of_length_le (by rw [HL.out]; omega)] at h
        exact Ca.dup_no h
      go_wp2
      go_ret
      exact ⟨ret_bool HE.out.symm, HB.out⟩
end Go.Proofs.YthmhadgbhakdlaaDoor
