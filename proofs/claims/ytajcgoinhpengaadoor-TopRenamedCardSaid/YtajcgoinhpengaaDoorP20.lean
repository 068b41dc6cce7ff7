/- slices.IndexFunc and slices.ContainsFunc at a chart's entries. -/
import Derived.Test.YtajcgoinhpengaaDoorP19
import Derived.Test.YtajcgoinhpengaaDoorP01
import Derived.Test.YtajcgoinhpengaaDoorP04
import Derived.Lib.OthersKept
import Derived.Laws.Runes
import Derived.Deep.QuietTactic
import Derived.BigQuiet
import Derived.Deep.DeepMust

namespace Go.Proofs.YtajcgoinhpengaaDoor
open Go.RowKit

set_option maxHeartbeats 2000000 in
set_option maxRecDepth 100000 in
theorem idx_entry (p : (Ca.E × Value) → Bool) (g : FuncId) (lb : Array Value) (eg : ∀ args w, (callFunc g args).run Tryd.prog w = .ok (.enter g args) w) (A : Option Addr) (n c : Nat) (xs : List (Ca.E × Value)) (w : World) (hn : n ≤ maxLen) (hl : xs.length = n)
    (hr : Reads w w.heap.size 3 A n (xs.flatMap Ca.ec)) (hz : ∀ x ∈ xs, ∃ A m c, x.2 = .slice A m c) (hp : Ix.Tells g lb Ca.ev p xs w) :
    Calls Tryd.prog 43 #[.slice A n c, .func (.func g) #[] lb] w fun e w' => e = .returned (.int .i64 (Ix.at_ p xs 0)) ∧ Below w.heap.size w w' := by
  unfold maxLen at hn
  obtain ⟨X, hX⟩ : ∃ X, Ix.at_ p xs 0 = X := ⟨_, rfl⟩
  rw [hX]
  have HX := Lib.hid hX
  have HR := Lib.hid hr
  have HP := Lib.hid hp
  have HL := Lib.hid hl
  have HZ := Lib.hid hz
  clear hX hr hp hl hz
  go_enter Tryd.func43, Tryd.ntmps43
  go_wp2
  go_loopw [5, 8] (fun _ i wr => ∃ k : Nat, k ≤ n ∧ i = .int .i64 k ∧ Hid (X = Ix.at_ p (xs.drop k) k) ∧ Hid (Below w.heap.size w wr)) (fun _ i _ => n - (intOf i).toNat)
  case atStart => exact ⟨0, Nat.zero_le _, rfl, HX.out.symm, Below.refl _ _⟩
  case round =>
    obtain ⟨k, hk, rfl, HK, HB⟩ := hrel
    by_cases hlt : k < n
    · have q2 : (k : Int) < (n : Int) := by omega
      have q1 : (0 : Int) ≤ (k : Int) := by omega
      obtain ⟨ad, x, rfl, hab, Hx, HL0⟩ := Ix.reads_cells (enc := Ca.ec) (m := 3) (fun _ => rfl) HL.out (HR.out.below HB.out) hlt
      obtain ⟨zA, m, zc, hx2⟩ := HZ.out x (List.mem_of_getElem? Hx.out)
      have hc0 : wr.cell? (ad.add (k * 3)) = some (.string x.1.key) := HL0.out 0 _ rfl
      have hc1 : wr.cell? ⟨(ad.add (k * 3)).block, (ad.add (k * 3)).off + 1, none⟩ = some (.string x.1.terr) := HL0.out 1 _ rfl
      have hc2 : wr.cell? ⟨(ad.add (k * 3)).block, (ad.add (k * 3)).off + 2, none⟩ = some (.slice zA m zc) := by
        have h := HL0.out 2 _ rfl
        rw [hx2] at h
        exact h
      have HC := HP.out wr x (List.mem_of_getElem? Hx.out) HB.out
      unfold Ca.ev at HC
      rw [hx2] at HC
      have HN := Ix.at_next HK.out Hx.out
      cases hq : p x with
      | true =>
        rw [hq] at HC HN
        replace HN := Lib.hid (HN.trans (if_pos rfl))
        replace HC := Lib.hid HC
        clear hq
        go_wp2_with (go_at_fn g; refine HC.out.mono ?_; rintro e w' ⟨rfl, hb⟩)
        go_ret
        exact ⟨ret_int HN.out.symm, hb⟩
      | false =>
        rw [hq] at HC HN
        replace HN := Lib.hid (HN.trans (if_neg (by decide)))
        replace HC := Lib.hid HC
        clear hq
        go_wp2_with (go_at_fn g; refine HC.out.mono ?_; rintro e w' ⟨rfl, hb⟩)
        go_roundw
        case rel => exact ⟨k + 1, by omega, by go_num, HN.out, hb⟩
        case measure => simp [intOf]; omega
    · have q2 : ¬ (k : Int) < (n : Int) := by omega
      have HE := Lib.hid (Ix.at_end HK.out (by rw [HL.out]; omega))
      go_wp2
      go_ret
      exact ⟨ret_int HE.out.symm, HB.out⟩
set_option maxHeartbeats 400000 in
theorem has_entry (p : (Ca.E × Value) → Bool) (g : FuncId) (lb : Array Value) (eg : ∀ args w, (callFunc g args).run Tryd.prog w = .ok (.enter g args) w) (A : Option Addr) (n c : Nat) (xs : List (Ca.E × Value)) (w : World) (hn : n ≤ maxLen) (hl : xs.length = n)
    (hr : Reads w w.heap.size 3 A n (xs.flatMap Ca.ec)) (hz : ∀ x ∈ xs, ∃ A m c, x.2 = .slice A m c) (hp : Ix.Tells g lb Ca.ev p xs w) :
    Calls Tryd.prog 20 #[.slice A n c, .func (.func g) #[] lb] w fun e w' => e = .returned (.bool (xs.any p)) ∧ Below w.heap.size w w' := by
  have h := idx_entry p g lb eg A n c xs w hn hl hr hz hp
  have hb := Ix.at_bd p xs 0
  rw [← Ix.at_any p xs 0 (by omega)]
  obtain ⟨X, hX⟩ : ∃ X, Ix.at_ p xs 0 = X := ⟨_, rfl⟩
  rw [hX] at h ⊢
  have H := Lib.hid h
  clear h hX hr hp hb hz
  go_enter Tryd.func20, Tryd.ntmps20
  go_wp2_with fail
  refine H.out.mono ?_
  rintro e w1 ⟨rfl, hb⟩
  have HB := Lib.hid hb
  clear hb
  go_wp2
  go_ret
  exact ⟨rfl, HB.out⟩
end Go.Proofs.YtajcgoinhpengaaDoor

/- utf.Check and utf.Plain: whether a text is right, and plain. -/
namespace Go.Proofs.YtajcgoinhpengaaDoor
open Go.RowKit

theorem iter_below {w : World} (s : ByteArray) (pos : Nat) : Below w.heap.size w (w.iter s pos) := (Below.refl _ _).alloc (Nat.le_refl _) _
set_option maxHeartbeats 2000000 in
set_option maxRecDepth 100000 in
theorem utfCheck_any (s : ByteArray) (hs : s.size ≤ maxLen) (w : World) :
    Calls Tryd.prog 79 #[.string s] w fun e w' => (∃ i : Int, e = .returned (.tuple #[.int .i64 i, .int .i64 (if Te.right s then 0 else 11)])) ∧ Below w.heap.size w w' := by
  unfold maxLen at hs
  have HP := Lib.hid (fun (pos : Nat) W => Tryd.strings_HasPrefix (s.extract pos s.size) ⟨#[239, 191, 189]⟩ W)
  have hmax : IntKind.i64.wrap (s.size : Int) = s.size := by rw [IntKind.wrap_i64]; omega
  obtain ⟨v, hv⟩ : ∃ v : Int, (if Te.right s then (0 : Int) else 11) = v := ⟨_, rfl⟩
  rw [hv]
  have HT : Hid (Te.right s = true → v = 0) := fun h => by rw [← hv, if_pos h]
  have HF : Hid (Te.right s = false → v = 11) := fun h => by rw [← hv, if_neg (by rw [h]; decide)]
  clear hv
  go_enter Tryd.func79, Tryd.ntmps79
  go_wp2
  go_loopw [8] (fun _ wr => ∃ (pos f : Nat), wr = w.iter s pos ∧ s.size ≤ pos + f ∧ Hid (Te.rightFrom s f pos = Te.right s)) (fun _ wr => s.size - wr.iterPos w.heap.size)
  case atStart => exact ⟨0, s.size, rfl, by omega, rfl⟩
  case round =>
    obtain ⟨pos, f, rfl, hf, HR⟩ := hrel
    by_cases hp : pos < s.size
    · have hnx : ∀ ty, (Instr.next (.pointer (some ⟨w.heap.size, 0, none⟩)) true ty).run Tryd.prog (w.iter s pos) = _ := fun ty => run_next_any w s pos ty hp
      have hw := Te.width_pos s pos hp
      obtain ⟨f, rfl⟩ : ∃ g, f = g + 1 := ⟨f - 1, by omega⟩
      have HB : Hid (Te.bad s pos = true → Te.right s = false) := fun hb => by
        rw [← HR.out, Te.rightFrom, if_pos hp, hb]; rfl
      have HG : Hid (Te.bad s pos = false → Te.rightFrom s f (pos + (Utf8.decode s pos).2) = Te.right s) := fun hb => by
        rw [← HR.out, Te.rightFrom, if_pos hp, hb]; rfl
      have HU : Hid (Te.bad s pos = (decide ((Utf8.decode s pos).1 = 65533) && !(Lib.hasPrefix (s.extract pos s.size).data.toList [239, 191, 189]))) := by
        show Te.bad s pos = _
        unfold Te.bad Te.wrongL tl
        rw [Lib.extract_data, List.take_of_length_le (by rw [List.length_drop]; rw [← Lib.size_eq]; exact Nat.le_refl _)]
        rfl
      clear HR
      obtain ⟨c, hc⟩ : ∃ c, (Utf8.decode s pos).1 = c := ⟨_, rfl⟩
      obtain ⟨n, hn⟩ : ∃ n, (Utf8.decode s pos).2 = n := ⟨_, rfl⟩
      rw [hc] at HU hnx
      rw [hn] at HG hnx hw
      clear hc hn
      have c1 : (0 : Int) ≤ (pos : Int) := by omega
      have c2 : (pos : Int) ≤ (s.size : Int) := by omega
      by_cases hce : c = 65533
      · subst hce
        obtain ⟨b, hb⟩ : ∃ b, Lib.hasPrefix (s.extract pos s.size).data.toList [239, 191, 189] = b := ⟨_, rfl⟩
        rw [hb] at HU
        have HP1 : Hid (∀ W, Calls Tryd.prog 87 #[.string (s.extract pos s.size), .string ⟨#[239, 191, 189]⟩] W fun e w' => e = .returned (.bool b) ∧ w' = W) := fun W => by
          have h := HP.out pos W
          rw [hb] at h
          exact h
        clear hb
        cases b with
        | false =>
          have HE := Lib.hid (HF.out (HB.out (by rw [HU.out]; rfl)))
          clear HU HB HG
          go_wp2_with (refine (HP1.out _).mono ?_; rintro e w' ⟨rfl, rfl⟩)
          go_ret2
          exact ⟨⟨_, by rw [HE.out]; rfl⟩, iter_below s _⟩
        | true =>
          have HE := Lib.hid (HG.out (by rw [HU.out]; rfl))
          clear HU HB HG
          go_wp2_with (refine (HP1.out _).mono ?_; rintro e w' ⟨rfl, rfl⟩)
          go_wp2
          go_roundw
          case rel => exact ⟨pos + n, f, rfl, by omega, HE⟩
          case measure => simp only [World.iterPos_iter]; omega
      · have qc : ((c : Int) == 65533) = false := by rw [beq_eq_false_iff_ne]; omega
        have qd : ¬ (c : Int) = 65533 := by omega
        have HE := Lib.hid (HG.out (by rw [HU.out, decide_eq_false hce]; rfl))
        clear HU HB HG
        go_wp2
        go_roundw
        case rel => exact ⟨pos + n, f, rfl, by omega, HE⟩
        case measure => simp only [World.iterPos_iter]; omega
    · have hnx : ∀ ty, (Instr.next (.pointer (some ⟨w.heap.size, 0, none⟩)) true ty).run Tryd.prog (w.iter s pos) = _ := fun ty => run_next_end w s pos ty hp
      have HE : Hid (v = 0) := HT.out (by
        rw [← HR.out]
        exact Te.rightFrom_end s f pos hp)
      go_wp2
      go_ret2
      exact ⟨⟨_, by rw [HE.out]; rfl⟩, iter_below s pos⟩
set_option maxHeartbeats 2000000 in
set_option maxRecDepth 100000 in
theorem utfPlain_any (s : ByteArray) (hs : s.size ≤ maxLen) (w : World) :
    Calls Tryd.prog 67 #[.string s] w fun e w' => e = .returned (.bool (Te.plain s)) ∧ Below w.heap.size w w' := by
  have hC := utfCheck_any s hs w
  obtain ⟨v, hv⟩ : ∃ v, Te.plain s = v := ⟨_, rfl⟩
  rw [hv]
  have HV := Lib.hid hv
  clear hv
  go_enter Tryd.func67, Tryd.ntmps67
  cases hr : Te.right s with
  | false =>
    rw [hr, if_neg (by decide)] at hC
    have HE : Hid (v = false) := by
      show v = false
      rw [← HV.out]; unfold Te.plain; rw [hr]; rfl
    have HC := Lib.hid hC
    clear hC hr
    go_wp2_with (refine HC.out.mono ?_; rintro e w1 ⟨⟨i, rfl⟩, hb⟩)
    go_ret
    exact ⟨by rw [HE.out]; rfl, hb⟩
  | true =>
    rw [hr, if_pos rfl] at hC
    have HE : Hid (v = Te.plainFrom s s.size 0) := by
      show v = _
      rw [← HV.out]; unfold Te.plain; rw [hr]; rfl
    have HC := Lib.hid hC
    clear hC hr HV
    go_wp2_with (refine HC.out.mono ?_; rintro e w1 ⟨⟨i, rfl⟩, hb⟩)
    have HB1 := Lib.hid hb
    clear hb HC
    go_loopw [16] (fun _ wr => ∃ (pos f : Nat), wr = w1.iter s pos ∧ s.size ≤ pos + f ∧ Hid (v = Te.plainFrom s f pos)) (fun _ wr => s.size - wr.iterPos w1.heap.size)
    case atStart => exact ⟨0, s.size, rfl, by omega, HE⟩
    case round =>
      obtain ⟨pos, f, rfl, hf, HR⟩ := hrel
      by_cases hp : pos < s.size
      · have hnx : ∀ ty, (Instr.next (.pointer (some ⟨w1.heap.size, 0, none⟩)) true ty).run Tryd.prog (w1.iter s pos) = _ := fun ty => run_next_any w1 s pos ty hp
        have hw := Te.width_pos s pos hp
        obtain ⟨f, rfl⟩ : ∃ g, f = g + 1 := ⟨f - 1, by omega⟩
        have HG : Hid (v = (!(Te.low (Utf8.decode s pos).1) && Te.plainFrom s f (pos + (Utf8.decode s pos).2))) := by
          show v = _
          rw [HR.out, Te.plainFrom, if_pos hp]
        clear HR
        obtain ⟨c, hc⟩ : ∃ c, (Utf8.decode s pos).1 = c := ⟨_, rfl⟩
        obtain ⟨n, hn⟩ : ∃ n, (Utf8.decode s pos).2 = n := ⟨_, rfl⟩
        rw [hc, hn] at HG hnx
        rw [hn] at hw
        clear hc hn
        by_cases h32 : c < 32
        · have q1 : (c : Int) < 32 := by omega
          have HX : Hid (v = false) := by
            show v = false
            rw [HG.out]; unfold Te.low; rw [decide_eq_true h32]; rfl
          clear HG
          go_wp2
          go_ret
          exact ⟨by rw [HX.out]; rfl, HB1.out.trans ((iter_below s _).mono HB1.out.size)⟩
        · have q1 : ¬ (c : Int) < 32 := by omega
          by_cases h127 : c = 127
          · subst h127
            have HX : Hid (v = false) := by
              show v = false
              rw [HG.out]; rfl
            clear HG
            go_wp2
            go_ret
            exact ⟨by rw [HX.out]; rfl, HB1.out.trans ((iter_below s _).mono HB1.out.size)⟩
          · have q2 : ¬ (c : Int) = 127 := by omega
            have HX : Hid (v = Te.plainFrom s f (pos + n)) := by
              show v = _
              rw [HG.out]; unfold Te.low; rw [decide_eq_false h32, show (c == 127) = false from by rw [beq_eq_false_iff_ne]; exact h127]; rfl
            clear HG
            go_wp2
            go_roundw
            case rel => exact ⟨pos + n, f, rfl, by omega, HX⟩
            case measure => simp only [World.iterPos_iter]; omega
      · have hnx : ∀ ty, (Instr.next (.pointer (some ⟨w1.heap.size, 0, none⟩)) true ty).run Tryd.prog (w1.iter s pos) = _ := fun ty => run_next_end w1 s pos ty hp
        have HX : Hid (v = true) := by
          show v = true
          rw [HR.out]
          exact Te.plainFrom_end s f pos hp
        go_wp2
        go_ret
        exact ⟨by rw [HX.out]; rfl, HB1.out.trans ((iter_below s _).mono HB1.out.size)⟩
end Go.Proofs.YtajcgoinhpengaaDoor

/- strings.IndexRune of a sign that is no letter of ASCII, in the four signs that a key has not; strings.ContainsAny of any text. -/
namespace Go.Proofs.YtajcgoinhpengaaDoor
open Go.RowKit

def sg : ByteArray := ⟨#[92, 91, 93, 34]⟩
theorem sg_size : sg.size = 4 := rfl
theorem sg_ascii : ∀ j (h : j < sg.size), (sg[j]'h).toNat < 128 := by
  intro j h
  have h' : j < 4 := h
  rcases (by omega : j = 0 ∨ j = 1 ∨ j = 2 ∨ j = 3) with rfl | rfl | rfl | rfl <;> decide +revert
theorem no_high (l : List UInt8) (c : UInt8) (h : ∀ b ∈ l, b ≠ c) : Lib.indexByte l c = -1 := by
  induction l with
  | nil => rfl
  | cons b l ih =>
    unfold Lib.indexByte
    have hb : (b == c) = false := by rw [beq_eq_false_iff_ne]; exact h b (List.mem_cons_self ..)
    rw [hb, ih (fun x hx => h x (List.mem_cons_of_mem _ hx))]
    rfl
set_option maxHeartbeats 2000000 in
set_option maxRecDepth 100000 in
theorem indexRune_wrong (w : World) :
    Calls Tryd.prog 88 #[.string sg, .int .i32 65533] w fun e w' => e = .returned (.int .i64 (-1)) ∧ Below w.heap.size w w' := by
  have HS := Lib.hid sg_size
  have HA := Lib.hid sg_ascii
  obtain ⟨s, hs⟩ : ∃ s, sg = s := ⟨_, rfl⟩
  rw [hs] at HS HA ⊢
  clear hs
  go_enter Tryd.func88, Tryd.ntmps88
  go_wp2
  go_loopw [176] (fun _ wr => ∃ (pos : Nat), wr = w.iter s pos) (fun _ wr => s.size - wr.iterPos w.heap.size)
  case atStart => exact ⟨0, rfl⟩
  case round =>
    obtain ⟨pos, rfl⟩ := hrel
    by_cases hp : pos < s.size
    · have hx := HA.out pos hp
      have hnx := fun ty => run_next_ascii (P := Tryd.prog) w s pos ty hp hx
      obtain ⟨x, hxx⟩ : ∃ x, (s[pos]'hp).toNat = x := ⟨_, rfl⟩
      rw [hxx] at hx hnx
      clear hxx
      have q1 : ((x : Int) == 65533) = false := by rw [beq_eq_false_iff_ne]; omega
      have q2 : ¬ (x : Int) = 65533 := by omega
      go_wp2
      go_roundw
      case rel => exact ⟨pos + 1, rfl⟩
      case measure => simp only [World.iterPos_iter]; omega
    · have hnx : ∀ ty, (Instr.next (.pointer (some ⟨w.heap.size, 0, none⟩)) true ty).run Tryd.prog (w.iter s pos) = _ := fun ty => run_next_end w s pos ty hp
      go_wp2
      go_ret
      exact ⟨rfl, iter_below s pos⟩
set_option maxHeartbeats 2000000 in
set_option maxRecDepth 100000 in
theorem indexRune_high (r : Int) (h1 : 128 ≤ r) (h2 : r ≤ 2147483647) (h3 : r ≠ 65533) (w : World) :
    Calls Tryd.prog 88 #[.string sg, .int .i32 r] w fun e w' => e = .returned (.int .i64 (-1)) ∧ Below w.heap.size w w' := by
  have q1 : ¬ r < 128 := by omega
  have q2 : (r == 65533) = false := by rw [beq_eq_false_iff_ne]; exact h3
  have q0 : 0 ≤ r := by omega
  have hV := fun W => Tryd.utf8_ValidRune r W
  cases hv : Lib.validRune r with
  | false =>
    rw [hv] at hV
    have HV := Lib.hid hV
    clear hv hV
    go_enter Tryd.func88, Tryd.ntmps88
    go_wp2_with (refine (HV.out _).mono ?_; rintro e w' ⟨rfl, rfl⟩)
    go_wp2
    go_ret
    exact ⟨rfl, Below.refl _ _⟩
  | true =>
    rw [hv] at hV
    have HV := Lib.hid hV
    have hvv : Utf8.valid r = true := by
      unfold Lib.validRune at hv
      have := of_decide_eq_true hv
      unfold Utf8.valid
      simp only [Bool.or_eq_true, Bool.and_eq_true, decide_eq_true_eq]
      omega
    obtain ⟨f1, f2, f3⟩ := encode_facts r hvv h1
    clear hv hV hvv h1 h2
    obtain ⟨x, hx⟩ : ∃ x, Utf8.encode r = x := ⟨_, rfl⟩
    have hcv : ∀ W, (convert 21 9 (.int .i32 r)).run Tryd.prog W = .ok (.string x) W := fun W => by
      rw [← hx]
      exact run_convert_int_string W _ _ _ _ (by rw [Tryd.underlying21]; rfl) Tryd.underlying9
    rw [hx] at f1 f2 f3
    clear hx
    obtain ⟨c, hc⟩ : ∃ c, x[x.size - 1]'(by omega) = c := ⟨_, rfl⟩
    have hc128 : 128 ≤ c.toNat := by rw [← hc]; exact f3 (by omega)
    have HI : Hid (∀ k W, Calls Tryd.prog 99 #[.string (sg.extract k sg.size), .int .u8 c.toNat] W fun e w' => e = .returned (.int .i64 (-1)) ∧ w' = W) := by
      intro k W
      have h := Tryd.strings_IndexByte (sg.extract k sg.size) c.toNat W
      rw [no_high] at h
      · exact h
      · intro b hb e
        rw [Lib.extract_data] at hb
        have hb2 := List.mem_of_mem_drop (List.mem_of_mem_take hb)
        have : ∀ b ∈ sg.data.toList, b.toNat < 128 := by decide
        have h5 := this b hb2
        rw [e] at h5
        simp at h5
        omega
    have HS := Lib.hid sg_size
    have HA := Lib.hid sg_ascii
    obtain ⟨s, hs⟩ : ∃ s, sg = s := ⟨_, rfl⟩
    rw [hs] at HS HA HI ⊢
    clear hs
    obtain ⟨m, hm⟩ : ∃ m, x.size - 1 = m := ⟨_, rfl⟩
    have hm1 : x.size = m + 1 := by omega
    have hm2 : 1 ≤ m ∧ m ≤ 3 := by omega
    simp only [hm] at hc
    have hmx : m < x.size := by omega
    have hc' : x[m]'hmx = c := hc
    clear hc
    have hms : m < s.size := by rw [HS.out]; omega
    obtain ⟨y, hy⟩ : ∃ y, s[m]'hms = y := ⟨_, rfl⟩
    have hy128 : y.toNat < 128 := by rw [← hy]; exact HA.out m hms
    have qy : ((y.toNat : Int) != (c.toNat : Int)) = true := by simp; omega
    have qy' : ¬ (y.toNat : Int) = (c.toNat : Int) := by omega
    have w1 : IntKind.i64.wrap ((m : Int) + 1 - 1) = m := by rw [IntKind.wrap_i64]; omega
    have w2 : IntKind.i64.wrap ((m : Int) + 1) = (m : Int) + 1 := by rw [IntKind.wrap_i64]; omega
    have w3 : wrap64 (m : Int) = m := by unfold wrap64; omega
    have l1 : (m : Int) < (s.size : Int) := by omega
    have l2 : (0 : Int) ≤ (m : Int) := by omega
    have l3 : (m : Int) < (m : Int) + 1 := by omega
    have l4 : (m : Int) + 1 ≤ (s.size : Int) := by omega
    have l5 : (0 : Int) ≤ (m : Int) + 1 := by omega
    clear hm f1 f2 f3 hc128 hm2 hy128
    go_enter Tryd.func88, Tryd.ntmps88
    go_wp2_with (refine (HV.out _).mono ?_; rintro e w' ⟨rfl, rfl⟩)
    go_wp2
    go_step3
    go_wp2
    go_loopw [9] (fun i wr => i = .int .i64 m ∧ Hid (Drew w' wr)) (fun _ _ => 0)
    case atStart => exact ⟨by rw [w3], Drew.refl _⟩
    case round =>
      obtain ⟨rfl, HD⟩ := hrel
      have HI1 := Lib.hid (fun W => HI.out (m + 1) W)
      have e1 : ((m + 1 : Nat) : Int) = (m : Int) + 1 := rfl
      go_wp2
      go_step3
      go_wp2
      go_quiet (fail)
      go_wp2
      go_quiet ((go_at_call 99; exact (HI1.out _).mono fun e w2 h => ⟨h.1, _, h.2⟩))
      go_wp2
      simp +zetaDelta only [Exit.inBlock, Exit.noGoto_ret, Exit.then]
      go_ret
      exact ⟨rfl, ((HD.out.drewN _).below _)⟩
theorem indexRune_any (r : Int) (h1 : 128 ≤ r) (h2 : r ≤ 2147483647) (w : World) :
    Calls Tryd.prog 88 #[.string sg, .int .i32 r] w fun e w' => e = .returned (.int .i64 (-1)) ∧ Below w.heap.size w w' := by
  by_cases h3 : r = 65533
  · subst h3
    exact indexRune_wrong w
  · exact indexRune_high r h1 h2 h3 w
end Go.Proofs.YtajcgoinhpengaaDoor

/- strings.ContainsAny of any text and the four signs that a key has not. -/
namespace Go.Proofs.YtajcgoinhpengaaDoor
open Go.RowKit

theorem sg_list : sg.data.toList = Te.signs := rfl
theorem signs_low : ∀ b ∈ Te.signs, b.toNat < 128 := by decide
theorem high_not (b : UInt8) (h : 128 ≤ b.toNat) : Te.signs.contains b = false := by
  cases hc : Te.signs.contains b with
  | false => rfl
  | true =>
    have := signs_low b (by simpa using hc)
    omega
/-- A sign of several letters has none of the four. -/
theorem noAny_high (s : ByteArray) (pos : Nat) (ha : 128 ≤ (s.get! pos).toNat) (h : Lib.NoAny (tl s) Te.signs pos) : Lib.NoAny (tl s) Te.signs (pos + (Utf8.decode s pos).2) := by
  intro j b hj hb
  by_cases h1 : j < pos
  · exact h j b h1 hb
  · have hjs : j < s.size := by
      have := (List.getElem?_eq_some_iff.1 hb).1
      rwa [tl_length] at this
    have hb2 := Te.get_tl s j hjs
    rw [hb] at hb2
    rw [Option.some.inj hb2]
    apply high_not
    by_cases h2 : j = pos
    · rw [h2]; exact ha
    · have := (Te.tail_high s pos (j - pos) (by omega) (by omega)).2
      rwa [show pos + (j - pos) = j from by omega] at this
set_option maxHeartbeats 4000000 in
set_option maxRecDepth 100000 in
theorem indexAny_short (s : ByteArray) (h8 : s.size ≤ 8) (w : World) :
    Calls Tryd.prog 80 #[.string s, .string sg] w fun e w' => e = .returned (.int .i64 (Lib.indexAny (tl s) Te.signs)) ∧ Below w.heap.size w w' := by
  have HR : Hid (∀ (r : Int) W, 128 ≤ r → r ≤ 2147483647 → Calls Tryd.prog 88 #[.string sg, .int .i32 r] W fun e w' => e = .returned (.int .i64 (-1)) ∧ Below W.heap.size W w') := fun r W h1 h2 => indexRune_any r h1 h2 W
  have HA : Hid (∀ (x : UInt8) W, x.toNat < 128 → Calls Tryd.prog 88 #[.string sg, .int .i32 x.toNat] W fun e w' => e = .returned (.int .i64 (Lib.indexByte Te.signs x)) ∧ w' = W) := by
    intro x W hx
    have h := Tryd.strings_IndexRune_ascii sg x.toNat W (by omega) (by omega)
    rw [sg_list, show ((x.toNat : Int)).toNat.toUInt8 = x from by simp] at h
    exact h
  have hemp : sg.toList.isEmpty = false := by rw [Lib.toList_data]; rfl
  have hn4 : (sg.size : Int) = 4 := rfl
  obtain ⟨q, hq⟩ : ∃ q, sg = q := ⟨_, rfl⟩
  rw [hq] at HR HA hemp hn4 ⊢
  clear hq
  have h8z : decide ((8 : Int) < (s.size : Int)) = false := decide_eq_false (by omega)
  have HU := Lib.hid (fun W => Tryd.strings_shouldUseASCIISet s.size W)
  rw [h8z] at HU
  obtain ⟨v, hv⟩ : ∃ v, Lib.indexAny (tl s) Te.signs = v := ⟨_, rfl⟩
  rw [hv]
  have HV := Lib.hid hv
  clear hv h8z
  go_enter Tryd.func80, Tryd.ntmps80
  go_wp2_with (refine (HU.out _).mono ?_; rintro e w' ⟨rfl, rfl⟩)
  go_loopw [46] (fun _ wr => ∃ (pos : Nat), wr.heap[w'.heap.size]? = some (.stringIter s pos) ∧ Hid (Below w'.heap.size w' wr) ∧ Hid (Lib.NoAny (tl s) Te.signs pos)) (fun _ wr => s.size - wr.iterPos w'.heap.size)
  case atStart => exact ⟨0, World.iter_heap _ s 0, iter_below s 0, Lib.NoAny.zero _ _⟩
  case round =>
    obtain ⟨pos, hit, HB, HN⟩ := hrel
    have hsz : w'.heap.size < wr.heap.size := (Array.getElem?_eq_some_iff.1 hit).1
    by_cases hp : pos < s.size
    · have hnx : ∀ ty, (Instr.next (.pointer (some ⟨w'.heap.size, 0, none⟩)) true ty).run Tryd.prog wr = _ := fun ty => Lib.run_next_any_at wr w'.heap.size s pos ty hit hp
      have hw := Te.width_pos s pos hp
      by_cases ha : (s.get! pos).toNat < 128
      · rw [Te.first_ascii s pos hp ha] at hnx
        have HX := Lib.hid (Te.get_tl s pos hp)
        obtain ⟨x, hx⟩ : ∃ x, s.get! pos = x := ⟨_, rfl⟩
        rw [hx] at hnx ha HX
        clear hx hw
        have hit2 := Lib.iterAt_heap wr w'.heap.size s pos (pos + 1) hit
        have HB2 := Lib.hid (Lib.below_iterAt HB.out (k := w'.heap.size) (Nat.le_refl _) s (pos + 1))
        have HC := Lib.hid (fun W => HA.out x W ha)
        have hcon := Lib.contains_iff_indexByte Te.signs x
        cases hin : Te.signs.contains x with
        | false =>
          rw [hin] at hcon
          have hlt : ¬ ((0 : Int) ≤ Lib.indexByte Te.signs x) := of_decide_eq_false hcon.symm
          have HN2 := Lib.hid (HN.out.succ HX.out hin)
          clear hcon hin HN HX HB
          go_wp2_with (refine (HC.out _).mono ?_; rintro e w2 ⟨rfl, rfl⟩)
          go_wp2
          go_roundw
          case rel => exact ⟨pos + 1, hit2, HB2, HN2⟩
          case measure => simp only [World.iterPos, hit2, hit]; omega
        | true =>
          rw [hin] at hcon
          have hge : (0 : Int) ≤ Lib.indexByte Te.signs x := of_decide_eq_true hcon.symm
          have HE : Hid (v = pos) := by
            show v = pos
            rw [← HV.out]
            exact Lib.indexAny_hit HN.out HX.out hin
          clear hcon hin HN HX HB
          go_wp2_with (refine (HC.out _).mono ?_; rintro e w2 ⟨rfl, rfl⟩)
          go_wp2
          go_ret
          exact ⟨by rw [HE.out]; rfl, HB2.out⟩
      · have hh := Te.first_high s pos hp (by omega)
        have hle := decode_le s pos
        have HN2 := Lib.hid (noAny_high s pos (by omega) HN.out)
        obtain ⟨c, hc⟩ : ∃ c, (Utf8.decode s pos).1 = c := ⟨_, rfl⟩
        obtain ⟨n, hn⟩ : ∃ n, (Utf8.decode s pos).2 = n := ⟨_, rfl⟩
        rw [hc, hn] at hnx
        rw [hc] at hh hle
        rw [hn] at hw HN2
        clear hc hn ha
        have hit2 := Lib.iterAt_heap wr w'.heap.size s pos (pos + n) hit
        have HB2 := Lib.hid (Lib.below_iterAt HB.out (k := w'.heap.size) (Nat.le_refl _) s (pos + n))
        have hsz2 : w'.heap.size < (wr.iterAt w'.heap.size s (pos + n)).heap.size := by rw [Lib.iterAt_size]; exact hsz
        have HC := Lib.hid (fun W => HR.out (c : Int) W (by omega) (by omega))
        clear HN HB
        go_wp2_with (refine (HC.out _).mono ?_; rintro e w2 ⟨rfl, hb⟩)
        have hit3 : w2.heap[w'.heap.size]? = some (.stringIter s (pos + n)) := (hb.block _ hsz2).trans hit2
        have HB3 := Lib.hid (HB2.out.trans (hb.mono (Nat.le_of_lt hsz2)))
        clear hb
        go_wp2
        go_roundw
        case rel => exact ⟨pos + n, hit3, HB3, HN2⟩
        case measure => simp only [World.iterPos, hit3, hit]; omega
    · have hnx : ∀ ty, (Instr.next (.pointer (some ⟨w'.heap.size, 0, none⟩)) true ty).run Tryd.prog wr = _ := fun ty => Lib.run_next_end_at wr w'.heap.size s pos ty hit hp
      have HE : Hid (v = -1) := by
        show v = -1
        rw [← HV.out]
        apply Lib.indexAny_none
        intro j b hj hb
        rw [tl_length] at hj
        exact HN.out j b (by omega) hb
      go_wp2
      go_ret
      exact ⟨by rw [HE.out]; rfl, HB.out⟩
theorem indexAny_all (s : ByteArray) (hs : s.size < 4294967281) (w : World) :
    Calls Tryd.prog 80 #[.string s, .string sg] w fun e w' => e = .returned (.int .i64 (Lib.indexAny (tl s) Te.signs)) ∧ Below w.heap.size w w' := by
  by_cases h8 : s.size ≤ 8
  · exact indexAny_short s h8 w
  · have h116 : (Tryd.prog.info? 151).map (fun i => (i.zero, i.size)) = some (some (.agg (Array.replicate 256 (.bool false))), 256) := by kernel_rfl
    refine (Tryd.strings_IndexAny_long (zero_of_info h116).1 s sg w (by decide) (by omega) hs (by decide) ?_).mono ?_
    · intro j b hb
      exact signs_low b (List.mem_of_getElem? hb)
    · rintro e w' ⟨rfl, rfl⟩
      exact ⟨rfl, ((Below.refl _ _).alloc (Nat.le_refl _) _).alloc (by simp) _⟩
set_option maxHeartbeats 1000000 in
theorem containsAny_all (s : ByteArray) (hs : s.size < 4294967281) (w : World) :
    Calls Tryd.prog 68 #[.string s, .string sg] w fun e w' => e = .returned (.bool (Lib.containsAny (tl s) Te.signs)) ∧ Below w.heap.size w w' := by
  have HC := Lib.hid (fun W => indexAny_all s hs W)
  obtain ⟨q, hq⟩ : ∃ q, sg = q := ⟨_, rfl⟩
  rw [hq] at HC ⊢
  clear hq
  go_enter Tryd.func68, Tryd.ntmps68
  go_wp2_with (refine (HC.out _).mono ?_; rintro e w' ⟨rfl, hb⟩)
  go_ret
  exact ⟨rfl, hb⟩
end Go.Proofs.YtajcgoinhpengaaDoor

/- chart.Key: whether a text is a key. -/
namespace Go.Proofs.YtajcgoinhpengaaDoor
open Go.RowKit

set_option maxHeartbeats 2000000 in
set_option maxRecDepth 100000 in
theorem chartKey_any (s : ByteArray) (hs : s.size ≤ maxLen) (w : World) :
    Calls Tryd.prog 44 #[.string s] w fun e w' => e = .returned (.bool (Te.key s)) ∧ Below w.heap.size w w' := by
  have HP := Lib.hid (fun W => utfPlain_any s hs W)
  unfold maxLen at hs
  obtain ⟨v, hv⟩ : ∃ v, Te.key s = v := ⟨_, rfl⟩
  rw [hv]
  unfold Te.key at hv
  by_cases h1 : s.size < 1
  · have q1 : (s.size : Int) < 1 := by omega
    rw [decide_eq_false (show ¬ 1 ≤ s.size by omega)] at hv
    have HV : Hid (v = false) := hv.symm
    clear hv h1
    go_enter Tryd.func44, Tryd.ntmps44
    go_wp2
    go_ret
    exact ⟨by rw [HV.out]; rfl, Below.refl _ _⟩
  · have q1 : ¬ (s.size : Int) < 1 := by omega
    rw [decide_eq_true (show 1 ≤ s.size by omega)] at hv
    by_cases h2 : 64 < s.size
    · have q2 : (64 : Int) < (s.size : Int) := by omega
      rw [decide_eq_false (show ¬ s.size ≤ 64 by omega)] at hv
      have HV : Hid (v = false) := hv.symm
      clear hv h1 h2
      go_enter Tryd.func44, Tryd.ntmps44
      go_wp2
      go_ret
      exact ⟨by rw [HV.out]; rfl, Below.refl _ _⟩
    · have q2 : ¬ (64 : Int) < (s.size : Int) := by omega
      rw [decide_eq_true (show s.size ≤ 64 by omega)] at hv
      cases hp : Te.plain s with
      | false =>
        rw [hp] at hv HP
        have HV : Hid (v = false) := hv.symm
        clear hv h1 h2 hp
        go_enter Tryd.func44, Tryd.ntmps44
        go_wp2_with (refine (HP.out _).mono ?_; rintro e w1 ⟨rfl, hb⟩)
        go_ret
        exact ⟨by rw [HV.out]; rfl, hb⟩
      | true =>
        rw [hp] at hv HP
        have HC : Hid (∀ W, Calls Tryd.prog 68 #[.string s, .string ⟨#[92, 91, 93, 34]⟩] W fun e w' => e = .returned (.bool (Lib.containsAny (tl s) Te.signs)) ∧ Below W.heap.size W w') := fun W => containsAny_all s (by omega) W
        cases hc : Lib.containsAny (tl s) Te.signs with
        | true =>
          rw [hc] at hv HC
          have HV : Hid (v = false) := hv.symm
          clear hv h1 h2 hp hc
          go_enter Tryd.func44, Tryd.ntmps44
          go_wp2_with (first | (go_at_call 67; refine (HP.out _).mono ?_; rintro e w1 ⟨rfl, hb⟩) | (go_at_call 68; refine (HC.out _).mono ?_; rintro e w2 ⟨rfl, hb2⟩))
          go_ret
          exact ⟨by rw [HV.out]; rfl, below_then hb hb2⟩
        | false =>
          rw [hc] at hv HC
          have hs0 : 0 < s.size := by omega
          have hsl : s.size - 1 < s.size := by omega
          have e1 : (tl s).head? = some (s[0]'hs0) := by
            rw [List.head?_eq_getElem?, Te.get_tl s 0 hs0]
            congr 1
            have := get_at s 0 hs0
            simpa using this
          have e2 : (tl s).getLast? = some (s[s.size - 1]'hsl) := by
            rw [List.getLast?_eq_getElem?, tl_length, Te.get_tl s (s.size - 1) hsl]
            congr 1
            have := get_at s (s.size - 1) hsl
            simpa using this
          rw [e1, e2] at hv
          obtain ⟨n, hn⟩ : ∃ n, s.size - 1 = n := ⟨_, rfl⟩
          have w1 : IntKind.i64.wrap ((s.size : Int) - 1) = n := by rw [IntKind.wrap_i64]; omega
          have w2 : wrap64 ((s.size : Int) - 1) = n := by unfold wrap64; omega
          simp only [hn] at hv
          have hsn : n < s.size := by omega
          obtain ⟨a, ha⟩ : ∃ a, s[0]'hs0 = a := ⟨_, rfl⟩
          obtain ⟨b, hb⟩ : ∃ b, s[n]'hsn = b := ⟨_, rfl⟩
          have HV : Hid (v = (decide (a.toNat ≠ 32) && decide (b.toNat ≠ 32))) := by
            show v = _
            rw [← hv, ha, hb]
            have f : ∀ c : UInt8, (some c != some (32 : UInt8)) = decide (c.toNat ≠ 32) := by
              intro c
              rw [Bool.eq_iff_iff]
              simp only [bne_iff_ne, ne_eq, Option.some.injEq, decide_eq_true_eq]
              exact ⟨fun h e => h (UInt8.toNat_inj.1 e), fun h e => h (by rw [e]; rfl)⟩
            rw [f, f]
            simp
          clear hv h1 h2 hp hc e1 e2 hn hsl
          have p0 : (0 : Int) < (s.size : Int) := by omega
          have p1 : (n : Int) < (s.size : Int) := by omega
          by_cases ha32 : a.toNat = 32
          · have HX : Hid (v = false) := by
              show v = false
              rw [HV.out, ha32]; rfl
            have qa : ((a.toNat : Int) != 32) = false := by rw [ha32]; rfl
            have qa' : (a.toNat : Int) = 32 := by omega
            clear HV
            go_enter Tryd.func44, Tryd.ntmps44
            go_wp2_with (first | (go_at_call 67; refine (HP.out _).mono ?_; rintro e w1 ⟨rfl, hb1⟩) | (go_at_call 68; refine (HC.out _).mono ?_; rintro e w2 ⟨rfl, hb2⟩))
            go_wp2
            go_ret
            exact ⟨by rw [HX.out]; rfl, below_then hb1 hb2⟩
          · have qa : ((a.toNat : Int) != 32) = true := by simp; omega
            have qa' : ¬ (a.toNat : Int) = 32 := by omega
            have HX : Hid (v = decide (b.toNat ≠ 32)) := by
              show v = _
              rw [HV.out, decide_eq_true ha32]; rfl
            clear HV
            go_enter Tryd.func44, Tryd.ntmps44
            go_wp2_with (first | (go_at_call 67; refine (HP.out _).mono ?_; rintro e w1 ⟨rfl, hb1⟩) | (go_at_call 68; refine (HC.out _).mono ?_; rintro e w2 ⟨rfl, hb2⟩))
            go_wp2
            go_ret
            refine ⟨?_, below_then hb1 hb2⟩
            have hbb : decide (b.toNat ≠ 32) = ((b.toNat : Int) != 32) := by
              rw [Bool.eq_iff_iff]
              simp only [decide_eq_true_eq, bne_iff_ne, ne_eq]
              omega
            rw [HX.out, hbb]
            rfl
end Go.Proofs.YtajcgoinhpengaaDoor
