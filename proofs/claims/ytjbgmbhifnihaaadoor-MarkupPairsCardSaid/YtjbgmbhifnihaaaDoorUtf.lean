/- utf.Check and utf.Plain: whether a text is right, and plain. -/
import Derived.Test.YtjbgmbhifnihaaaDoorTeMath
import Derived.Test.YtjbgmbhifnihaaaDoorShelf
import Derived.Lib.OthersKept
namespace Go.Proofs.YtjbgmbhifnihaaaDoor
open Go.RowKit

theorem iter_below {w : World} (s : ByteArray) (pos : Nat) : Below w.heap.size w (w.iter s pos) := (Below.refl _ _).alloc (Nat.le_refl _) _
set_option maxHeartbeats 2000000 in
set_option maxRecDepth 100000 in
theorem utfCheck_any (s : ByteArray) (hs : s.size ≤ maxLen) (w : World) :
    Calls Tryd.prog 9 #[.string s] w fun e w' => (∃ i : Int, e = .returned (.tuple #[.int .i64 i, .int .i64 (if Te.right s then 0 else 11)])) ∧ Below w.heap.size w w' := by
  unfold maxLen at hs
  have HP := Lib.hid (fun (pos : Nat) W => Tryd.strings_HasPrefix (s.extract pos s.size) ⟨#[239, 191, 189]⟩ W)
  have hmax : IntKind.i64.wrap (s.size : Int) = s.size := by rw [IntKind.wrap_i64]; omega
  obtain ⟨v, hv⟩ : ∃ v : Int, (if Te.right s then (0 : Int) else 11) = v := ⟨_, rfl⟩
  rw [hv]
  have HT : Hid (Te.right s = true → v = 0) := fun h => by rw [← hv, if_pos h]
  have HF : Hid (Te.right s = false → v = 11) := fun h => by rw [← hv, if_neg (by rw [h]; decide)]
  clear hv
  go_enter Tryd.func9, Tryd.ntmps9
  go_wp2
  go_loopw [8] (fun _ wr => ∃ (pos f : Nat), wr = w.iter s pos ∧ s.size ≤ pos + f ∧ Hid (Te.rightFrom s f pos = Te.right s)) (fun _ wr => s.size - wr.iterPos w.heap.size)
  case atStart => exact ⟨0, s.size, rfl, by omega, rfl⟩
  case round =>
    obtain ⟨pos, f, rfl, hf, HR⟩ := hrel
    by_cases hp : pos < s.size
    · have hnx : ∀ ty, (Instr.next (.pointer (some ⟨w.heap.size, 0, none⟩)) true ty).run Tryd.prog (w.iter s pos) = _ := fun ty => run_next_any w s pos ty hp
      have hw := Te.width_pos s pos hp
      obtain ⟨f, rfl⟩ : ∃ g, f = g + 1 := ⟨f - 1, by omega⟩
      have HB : Hid (Te.bad s pos = true → Te.right s = false) := fun hb => by
        rw [← HR.out, Te.rightFrom, if_pos hp, hb]; rfl
      have HG : Hid (Te.bad s pos = false → Te.rightFrom s f (pos + (Utf8.decode s pos).2) = Te.right s) := fun hb => by
        rw [← HR.out, Te.rightFrom, if_pos hp, hb]; rfl
      have HU : Hid (Te.bad s pos = (decide ((Utf8.decode s pos).1 = 65533) && !(Lib.hasPrefix (s.extract pos s.size).data.toList [239, 191, 189]))) := by
        show Te.bad s pos = _
        unfold Te.bad Te.wrongL tl
        rw [Lib.extract_data, List.take_of_length_le (by rw [List.length_drop]; rw [← Lib.size_eq]; exact Nat.le_refl _)]
        rfl
      clear HR
      obtain ⟨c, hc⟩ : ∃ c, (Utf8.decode s pos).1 = c := ⟨_, rfl⟩
      obtain ⟨n, hn⟩ : ∃ n, (Utf8.decode s pos).2 = n := ⟨_, rfl⟩
      rw [hc] at HU hnx
      rw [hn] at HG hnx hw
      clear hc hn
      have c1 : (0 : Int) ≤ (pos : Int) := by omega
      have c2 : (pos : Int) ≤ (s.size : Int) := by omega
      by_cases hce : c = 65533
      · subst hce
        obtain ⟨b, hb⟩ : ∃ b, Lib.hasPrefix (s.extract pos s.size).data.toList [239, 191, 189] = b := ⟨_, rfl⟩
        rw [hb] at HU
        have HP1 : Hid (∀ W, Calls Tryd.prog 22 #[.string (s.extract pos s.size), .string ⟨#[239, 191, 189]⟩] W fun e w' => e = .returned (.bool b) ∧ w' = W) := fun W => by
          have h := HP.out pos W
          rw [hb] at h
          exact h
        clear hb
        cases b with
        | false =>
          have HE := Lib.hid (HF.out (HB.out (by rw [HU.out]; rfl)))
          clear HU HB HG
          go_wp2_with (refine (HP1.out _).mono ?_; rintro e w' ⟨rfl, rfl⟩)
          go_ret2
          exact ⟨⟨_, by rw [HE.out]; rfl⟩, iter_below s _⟩
        | true =>
          have HE := Lib.hid (HG.out (by rw [HU.out]; rfl))
          clear HU HB HG
          go_wp2_with (refine (HP1.out _).mono ?_; rintro e w' ⟨rfl, rfl⟩)
          go_wp2
          go_roundw
          case rel => exact ⟨pos + n, f, rfl, by omega, HE⟩
          case measure => simp only [World.iterPos_iter]; omega
      · have qc : ((c : Int) == 65533) = false := by rw [beq_eq_false_iff_ne]; omega
        have qd : ¬ (c : Int) = 65533 := by omega
        have HE := Lib.hid (HG.out (by rw [HU.out, decide_eq_false hce]; rfl))
        clear HU HB HG
        go_wp2
        go_roundw
        case rel => exact ⟨pos + n, f, rfl, by omega, HE⟩
        case measure => simp only [World.iterPos_iter]; omega
    · have hnx : ∀ ty, (Instr.next (.pointer (some ⟨w.heap.size, 0, none⟩)) true ty).run Tryd.prog (w.iter s pos) = _ := fun ty => run_next_end w s pos ty hp
      have HE : Hid (v = 0) := HT.out (by
        rw [← HR.out]
        exact Te.rightFrom_end s f pos hp)
      go_wp2
      go_ret2
      exact ⟨⟨_, by rw [HE.out]; rfl⟩, iter_below s pos⟩
set_option maxHeartbeats 2000000 in
set_option maxRecDepth 100000 in
theorem utfPlain_any (s : ByteArray) (hs : s.size ≤ maxLen) (w : World) :
    Calls Tryd.prog 67 #[.string s] w fun e w' => e = .returned (.bool (Te.plain s)) ∧ Below w.heap.size w w' := by
  have hC := utfCheck_any s hs w
  obtain ⟨v, hv⟩ : ∃ v, Te.plain s = v := ⟨_, rfl⟩
  rw [hv]
  have HV := Lib.hid hv
  clear hv
  go_enter Tryd.func67, Tryd.ntmps67
  cases hr : Te.right s with
  | false =>
    rw [hr, if_neg (by decide)] at hC
    have HE : Hid (v = false) := by
      show v = false
      rw [← HV.out]; unfold Te.plain; rw [hr]; rfl
    have HC := Lib.hid hC
    clear hC hr
    go_wp2_with (refine HC.out.mono ?_; rintro e w1 ⟨⟨i, rfl⟩, hb⟩)
    go_ret
    exact ⟨by rw [HE.out]; rfl, hb⟩
  | true =>
    rw [hr, if_pos rfl] at hC
    have HE : Hid (v = Te.plainFrom s s.size 0) := by
      show v = _
      rw [← HV.out]; unfold Te.plain; rw [hr]; rfl
    have HC := Lib.hid hC
    clear hC hr HV
    go_wp2_with (refine HC.out.mono ?_; rintro e w1 ⟨⟨i, rfl⟩, hb⟩)
    have HB1 := Lib.hid hb
    clear hb HC
    go_loopw [16] (fun _ wr => ∃ (pos f : Nat), wr = w1.iter s pos ∧ s.size ≤ pos + f ∧ Hid (v = Te.plainFrom s f pos)) (fun _ wr => s.size - wr.iterPos w1.heap.size)
    case atStart => exact ⟨0, s.size, rfl, by omega, HE⟩
    case round =>
      obtain ⟨pos, f, rfl, hf, HR⟩ := hrel
      by_cases hp : pos < s.size
      · have hnx : ∀ ty, (Instr.next (.pointer (some ⟨w1.heap.size, 0, none⟩)) true ty).run Tryd.prog (w1.iter s pos) = _ := fun ty => run_next_any w1 s pos ty hp
        have hw := Te.width_pos s pos hp
        obtain ⟨f, rfl⟩ : ∃ g, f = g + 1 := ⟨f - 1, by omega⟩
        have HG : Hid (v = (!(Te.low (Utf8.decode s pos).1) && Te.plainFrom s f (pos + (Utf8.decode s pos).2))) := by
          show v = _
          rw [HR.out, Te.plainFrom, if_pos hp]
        clear HR
        obtain ⟨c, hc⟩ : ∃ c, (Utf8.decode s pos).1 = c := ⟨_, rfl⟩
        obtain ⟨n, hn⟩ : ∃ n, (Utf8.decode s pos).2 = n := ⟨_, rfl⟩
        rw [hc, hn] at HG hnx
        rw [hn] at hw
        clear hc hn
        by_cases h32 : c < 32
        · have q1 : (c : Int) < 32 := by omega
          have HX : Hid (v = false) := by
            show v = false
            rw [HG.out]; unfold Te.low; rw [decide_eq_true h32]; rfl
          clear HG
          go_wp2
          go_ret
          exact ⟨by rw [HX.out]; rfl, HB1.out.trans ((iter_below s _).mono HB1.out.size)⟩
        · have q1 : ¬ (c : Int) < 32 := by omega
          by_cases h127 : c = 127
          · subst h127
            have HX : Hid (v = false) := by
              show v = false
              rw [HG.out]; rfl
            clear HG
            go_wp2
            go_ret
            exact ⟨by rw [HX.out]; rfl, HB1.out.trans ((iter_below s _).mono HB1.out.size)⟩
          · have q2 : ¬ (c : Int) = 127 := by omega
            have HX : Hid (v = Te.plainFrom s f (pos + n)) := by
              show v = _
              rw [HG.out]; unfold Te.low; rw [decide_eq_false h32, show (c == 127) = false from by rw [beq_eq_false_iff_ne]; exact h127]; rfl
            clear HG
            go_wp2
            go_roundw
            case rel => exact ⟨pos + n, f, rfl, by omega, HX⟩
            case measure => simp only [World.iterPos_iter]; omega
      · have hnx : ∀ ty, (Instr.next (.pointer (some ⟨w1.heap.size, 0, none⟩)) true ty).run Tryd.prog (w1.iter s pos) = _ := fun ty => run_next_end w1 s pos ty hp
        have HX : Hid (v = true) := by
          show v = true
          rw [HR.out]
          exact Te.plainFrom_end s f pos hp
        go_wp2
        go_ret
        exact ⟨by rw [HX.out]; rfl, HB1.out.trans ((iter_below s _).mono HB1.out.size)⟩
end Go.Proofs.YtjbgmbhifnihaaaDoor
