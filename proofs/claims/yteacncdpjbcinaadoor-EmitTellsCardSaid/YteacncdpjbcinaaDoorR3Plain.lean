/- solsticeref30.Chars and Plain: a text's characters, and whether it is plain. -/
import Derived.Test.YteacncdpjbcinaaDoorR3First
import Derived.Test.YteacncdpjbcinaaDoorEmQuote
namespace Go.Proofs.YteacncdpjbcinaaDoor
open Go.RowKit

theorem int_info3 : (Tryd.prog.info? 3).map (fun i => (i.zero, i.size, i.bytes)) = some (some (.int .i64 0), 1, 8) := by kernel_rfl
namespace R3
def numsOf (l : List Nat) : List Value := l.map fun (c : Nat) => Value.int .i64 (c : Int)
/-- What solsticeref30.Chars hands back. -/
def ChRet (s : ByteArray) (w : World) (e : Ending) (w' : World) : Prop :=
  ((Te.right s = true ∧ ∃ A c, e = .returned (.tuple #[.slice A (runes s s.size 0).length c, .int .i64 0]) ∧ Reads w' w'.heap.size 1 A (runes s s.size 0).length (numsOf (runes s s.size 0))) ∨
    (Te.right s = false ∧ e = .returned (.tuple #[.slice none 0 0, .int .i64 11]))) ∧ Below w.heap.size w w'
/-- Where it stands. -/
def ChAt (s : ByteArray) (w : World) (x v : Value) (wr : World) : Prop :=
  ∃ (r : ByteArray) (pos f : Nat) (done : List Nat), x = .string r ∧ pos ≤ s.size ∧ r = s.extract pos s.size ∧ s.size ≤ pos + f ∧ done.length + f ≤ s.size ∧ done ++ runes s f pos = runes s s.size 0 ∧ Te.rightFrom s f pos = Te.right s ∧
    wr.ownsRow w.heap.size 3 1 v done.length (numsOf done) ∧ Below w.heap.size w wr
def strSize (v : Value) : Nat := match v with | .string s => s.size | _ => 0
theorem sub_sub (s : ByteArray) (pos n : Nat) : (s.extract pos s.size).extract n (s.extract pos s.size).size = s.extract (pos + n) s.size := by
  apply ByteArray.ext
  rw [ByteArray.data_extract, ByteArray.data_extract, ByteArray.data_extract, ByteArray.size_extract, Array.extract_extract]
  have hs : s.data.size = s.size := rfl
  congr 1
  omega
theorem bal' {a w : World} (h : Below a.heap.size a w) (o : Obj) : Below a.heap.size a (w.alloc o) := h.alloc h.size o
end R3
set_option maxHeartbeats 4000000 in
set_option maxRecDepth 100000 in
theorem chars_any (s : ByteArray) (hs : s.size ≤ 1000000) (w : World) : Calls Tryd.prog 36 #[.string s] w (R3.ChRet s w) := by
  obtain ⟨i0, hi0, hz0, hz1, hz2⟩ := info_parts int_info3
  have HI := Lib.hid (And.intro hi0 (And.intro hz0 (And.intro hz1 hz2)))
  clear hi0 hz0 hz1 hz2
  go_enter Tryd.func36, Tryd.ntmps36
  go_wp2
  go_loopw [0, 4] (fun x v wr => R3.ChAt s w x v wr) (fun x _ _ => R3.strSize x)
  case atStart => exact ⟨s, 0, s.size, [], rfl, Nat.zero_le _, by rw [ByteArray.extract_zero_size], by omega, by simp, rfl, rfl, World.ownsRow_nil _ _ _ _, Below.refl _ _⟩
  case round =>
    obtain ⟨r, pos, f, done, rfl, hp, hr, hf, hdf, hd, hR, hO, hB⟩ := hrel
    have hrs : r.size = s.size - pos := by rw [hr, ByteArray.size_extract]; omega
    by_cases hlt : pos < s.size
    · have hem : r.toList.isEmpty = false := by
        rw [ByteArray.toList_eq]
        cases e : r.data.toList with
        | nil =>
          exfalso
          have : r.size = 0 := by show r.data.size = 0; rw [← Array.length_toList, e]; rfl
          omega
        | cons _ _ => rfl
      obtain ⟨f, rfl⟩ : ∃ g, f = g + 1 := ⟨f - 1, by omega⟩
      have hF := fun W => first_any r (by unfold maxLen; omega) (by omega) W
      have hl := R3.frs_law r (by omega)
      rw [hr, R3.err_sub s pos hp, R3.decode_sub s pos hp, ← hr] at hl
      have hw1 := Te.width_pos s pos hlt
      have hw2 := R3.width_le s pos hlt
      rw [Te.rightFrom, if_pos hlt, R3.bad_err s pos hlt] at hR
      rw [R3.runes, if_pos hlt] at hd
      obtain ⟨c, n, hcn⟩ : ∃ c n, Utf8.decode s pos = (c, n) := ⟨_, _, rfl⟩
      rw [hcn] at hl hw1 hw2 hR hd
      simp only at hw1 hw2 hR hd
      cases hE : R3.err s pos with
      | true =>
        rw [hE, if_pos rfl] at hl
        rw [hE] at hR
        have hT : Te.right s = false := by rw [← hR]; rfl
        have hfr : R3.frR r = .tuple #[.int .i64 0, .int .i64 0] := by unfold R3.frR; rw [hl]; rfl
        rw [hfr] at hF
        have HF := Lib.hid hF
        have HT := Lib.hid hT
        have HB := Lib.hid hB
        clear hF hl hw1 hw2 hR hd hcn hE hT hfr hr hO hB hf hdf hrs
        go_wp2_with fail
        refine (HF.out _).mono ?_
        rintro e w2 ⟨rfl, hb⟩
        have HB2 := Lib.hid (below_then HB.out hb)
        clear hb
        go_wp2
        go_ret2
        exact ⟨.inr ⟨HT.out, rfl⟩, HB2.out⟩
      | false =>
        rw [hE, if_neg (by decide)] at hl
        rw [hE, Bool.not_false, Bool.true_and] at hR
        have hfr : R3.frR r = .tuple #[.int .i64 (c : Int), .int .i64 (n : Int)] := by unfold R3.frR; rw [hl]
        rw [hfr] at hF
        have hsub := R3.sub_sub s pos n
        rw [← hr] at hsub
        obtain ⟨A, cp, rfl, hcm⟩ := own_slice hO
        have q0 : ¬ (n : Int) = 0 := by omega
        have q1 : ((n : Int) == 0) = false := by rw [beq_eq_false_iff_ne]; omega
        have q2 : (n : Int) ≤ (r.size : Int) := by omega
        have HF := Lib.hid hF
        have HR := Lib.hid hR
        have HD := Lib.hid hd
        have HS := Lib.hid hsub
        have HO := Lib.hid hO
        have HB := Lib.hid hB
        have hnz : r.size - n < r.size := by omega
        have hdl : done.length ≤ 1000000 := by omega
        clear hF hl hR hd hcn hE hfr hr hO hB hsub hrs
        go_wp2_with fail
        refine (HF.out _).mono ?_
        rintro e w2 ⟨rfl, hb⟩
        have HB2 := Lib.hid (below_then HB.out hb)
        have HO2 := Lib.hid (Em.own_below HO.out hb)
        have HBa := Lib.hid (R3.bal' HB2.out (.cells #[.int .i64 (c : Int)] 3))
        clear hb
        go_wp2_with (at_builtin; refine wpList_append_any _ rfl (.tmp 16) (.tmp 18) 71 rfl w.heap.size 3 i0 _ 1 8 Tryd.underlying71 HI.out.1 HI.out.2.1 HI.out.2.2.1 HI.out.2.2.2 rfl (by decide) _ _ _ rfl (HO2.out.alloc _) _ _ _ _ _ rfl (reads_lit w2 #[.int .i64 (c : Int)] 3) (by intro u hu; cases hu with | head => rfl | tail _ h => cases h) (by show done.length + 1 ≤ _; unfold maxLen; omega) (by show (done.length + 1) * 8 ≤ _; omega) HBa.out.size ?_; intro v9 w9 hown9 hg9 _; have HO9 := Lib.hid hown9; have HG9 := Lib.hid hg9; clear hown9 hg9)
        go_roundw
        case rel =>
          refine ⟨_, pos + n, f, done ++ [c], rfl, hw2, HS.out, by omega, by simp; omega, by rw [List.append_assoc]; exact HD.out, HR.out, ?_, HBa.out.grown HG9.out HBa.out.size (fun j e => by have := (HO2.out.lt j e).1; omega)⟩
          have h := HO9.out
          unfold R3.numsOf
          rw [List.length_append, List.map_append]
          exact h
        case measure => unfold R3.strSize; simp only; rw [ByteArray.size_extract]; omega
    · have hpe : pos = s.size := by omega
      have hem : r.toList = [] := by
        rw [ByteArray.toList_eq]
        apply List.eq_nil_of_length_eq_zero
        rw [Array.length_toList]
        show r.size = 0
        omega
      have hem2 : (!r.toList.isEmpty) = false := by rw [hem]; rfl
      have hru : R3.runes s f pos = [] := by
        cases f with
        | zero => rfl
        | succ f => rw [R3.runes, if_neg hlt]
      have hT : Te.right s = true := by rw [← hR]; exact Te.rightFrom_end s f pos hlt
      rw [hru, List.append_nil] at hd
      obtain ⟨A, cp, rfl, hcm⟩ := own_slice hO
      have HT := Lib.hid hT
      have HD := Lib.hid hd
      have HB := Lib.hid hB
      have HRd := Lib.hid (Reads.of_own hO)
      clear hem hpe hr hru hT hd hR hO hB hf hdf hrs hlt hp
      go_wp2
      go_ret2
      refine ⟨.inl ⟨HT.out, A, cp, ?_, ?_⟩, HB.out⟩
      · rw [← HD.out]; rfl
      · rw [← HD.out]; exact HRd.out
set_option maxHeartbeats 4000000 in
set_option maxRecDepth 100000 in
theorem plain3_any (s : ByteArray) (hs : s.size ≤ 1000000) (w : World) : Calls Tryd.prog 30 #[.string s] w fun e w' => e = .returned (.bool (Te.plain s)) ∧ Below w.heap.size w w' := by
  have HC := Lib.hid (chars_any s hs w)
  obtain ⟨X, hX⟩ : ∃ X, Te.plain s = X := ⟨_, rfl⟩
  rw [hX]
  unfold Te.plain at hX
  rw [R3.plain_all] at hX
  have hln := R3.runes_len s s.size 0
  obtain ⟨L, hL⟩ : ∃ L, R3.runes s s.size 0 = L := ⟨_, rfl⟩
  rw [hL] at hX hln
  unfold R3.ChRet at HC
  rw [hL] at HC
  have HX := Lib.hid hX
  clear hL hX
  go_enter Tryd.func30, Tryd.ntmps30
  go_wp2_with fail
  refine HC.out.mono ?_
  rintro e w1 ⟨⟨hT, A, c, rfl, hr⟩ | ⟨hT, rfl⟩, hb⟩
  · have hx := HX.out
    rw [hT, Bool.true_and] at hx
    have HR := Lib.hid hr
    have HB := Lib.hid hb
    have HX2 := Lib.hid hx
    obtain ⟨n, hn⟩ : ∃ n, L.length = n := ⟨_, rfl⟩
    rw [hn] at hln HR
    rw [hn]
    have HN := Lib.hid hn
    clear hT hr hb hx HX HC hn
    go_wp2_with fail
    go_loop [14] (fun i => ∃ k : Nat, k ≤ n ∧ i = .int .i64 (k : Int) ∧ Hid ((L.drop k).all (fun c => !(Te.low c)) = X)) (fun i => n - (intOf i).toNat)
    case atStart => exact ⟨0, Nat.zero_le _, rfl, HX2.out⟩
    case round =>
      obtain ⟨k, hk, rfl, HK⟩ := hrel
      by_cases hlt : k < n
      · have q1 : (0 : Int) ≤ (k : Int) := by omega
        have q2 : (k : Int) < (n : Int) := by omega
        have hkl : k < L.length := by rw [HN.out]; exact hlt
        obtain ⟨ad, rfl, hab, hcs⟩ := HR.out.2 (by omega)
        have hc := hcs k (.int .i64 (L[k] : Int)) (by unfold R3.numsOf; rw [List.getElem?_map, List.getElem?_eq_getElem hkl]; rfl)
        have hkk := HK.out
        rw [List.drop_eq_getElem_cons hkl, List.all_cons] at hkk
        obtain ⟨x, hx⟩ : ∃ x, L[k] = x := ⟨_, rfl⟩
        rw [hx] at hc hkk
        have HKK := Lib.hid hkk
        clear hx hkk hcs
        by_cases h32 : x < 32
        · have p1 : (x : Int) < 32 := by omega
          have HE : Hid (X = false) := by show X = false; rw [← HKK.out]; unfold Te.low; rw [decide_eq_true h32]; rfl
          go_wp2
          go_ret
          exact ⟨by rw [HE.out]; rfl, HB.out⟩
        · by_cases h127 : x = 127
          · subst h127
            have HE : Hid (X = false) := by show X = false; rw [← HKK.out]; rfl
            go_wp2
            go_ret
            exact ⟨by rw [HE.out]; rfl, HB.out⟩
          · have p1 : ¬ (x : Int) < 32 := by omega
            have p2 : ((x : Int) == 127) = false := by rw [beq_eq_false_iff_ne]; omega
            have HE : Hid ((L.drop (k + 1)).all (fun c => !(Te.low c)) = X) := by
              show _ = X
              have hlow : Te.low x = false := by unfold Te.low; rw [decide_eq_false h32, Bool.false_or, beq_eq_false_iff_ne]; exact h127
              rw [← HKK.out, hlow]; rfl
            go_wp2
            go_round
            case rel => exact ⟨k + 1, by omega, by go_num, HE.out⟩
            case measure => simp [intOf]; omega
      · have q2 : ¬ (k : Int) < (n : Int) := by omega
        have HE : Hid (X = true) := by show X = true; rw [← HK.out, List.drop_eq_nil_of_le (by rw [HN.out]; omega)]; rfl
        go_wp2
        go_ret
        exact ⟨by rw [HE.out]; rfl, HB.out⟩
  · have hx := HX.out
    rw [hT, Bool.false_and] at hx
    have HB := Lib.hid hb
    have HE := Lib.hid hx
    clear hT hb hx HX HC
    go_wp2_with fail
    go_loop [14] (fun i => i = .int .i64 0) (fun i => 0)
    case atStart => rfl
    case round =>
      obtain rfl := hrel
      go_wp2
      go_ret
      exact ⟨by rw [← HE.out]; rfl, HB.out⟩
end Go.Proofs.YteacncdpjbcinaaDoor
