/- The walk of the law WordBack. -/
import Derived.Test.YtliedeiimogljaaWordBackWalk
namespace Go.Proofs.Ytliedeiimogljaa
open Go.RowKit

theorem month_text (n : Int) : (textOf Months (n - 1)).toList.isEmpty = !(decide (1 ≤ n) && decide (n ≤ 12)) ∧ (textOf Months (n - 1)).size ≤ maxLen ∧ (1 ≤ n ∧ n ≤ 12 → Wd.pick (tl (textOf Months (n - 1))) (Months.map tl) + 1 = n) := by
  by_cases h : 1 ≤ n ∧ n ≤ 12
  · have : n = 1 ∨ n = 2 ∨ n = 3 ∨ n = 4 ∨ n = 5 ∨ n = 6 ∨ n = 7 ∨ n = 8 ∨ n = 9 ∨ n = 10 ∨ n = 11 ∨ n = 12 := by omega
    rcases this with rfl | rfl | rfl | rfl | rfl | rfl | rfl | rfl | rfl | rfl | rfl | rfl <;> exact ⟨by rw [ByteArray.toList_eq]; decide, by decide, fun _ => by decide⟩
  · rw [textOf_out Months (n - 1) (by simp [Months]; omega)]
    refine ⟨?_, by decide, fun h' => absurd h' h⟩
    have : (decide (1 ≤ n) && decide (n ≤ 12)) = false := by simpa using h
    rw [this, ByteArray.toList_eq]; rfl
theorem day_text (n : Int) : (textOf Days n).toList.isEmpty = !(decide (0 ≤ n) && decide (n ≤ 6)) ∧ (textOf Days n).size ≤ maxLen ∧ (0 ≤ n ∧ n ≤ 6 → Wd.pick (tl (textOf Days n)) (Days.map tl) = n) := by
  by_cases h : 0 ≤ n ∧ n ≤ 6
  · have : n = 0 ∨ n = 1 ∨ n = 2 ∨ n = 3 ∨ n = 4 ∨ n = 5 ∨ n = 6 := by omega
    rcases this with rfl | rfl | rfl | rfl | rfl | rfl | rfl <;> exact ⟨by rw [ByteArray.toList_eq]; decide, by decide, fun _ => by decide⟩
  · rw [textOf_out Days n (by simp [Days]; omega)]
    refine ⟨?_, by decide, fun h' => absurd h' h⟩
    have : (decide (0 ≤ n) && decide (n ≤ 6)) = false := by simpa using h
    rw [this, ByteArray.toList_eq]; rfl

theorem back_facts (s : ByteArray) (A : Option Addr) (nn : Nat) (ss : List ByteArray) (k : Nat) (nl : List UInt8) (w : World) (hr : Reads w w.heap.size 1 A nn (ss.map Value.string)) (hk : (ss.map tl)[k]? = some nl) (hb : Wd.begins nl (tl s) = true) :
    ∃ nm, Hid (ss[k]? = some nm) ∧ k < nn ∧ s.size ≤ nm.size ∧ Hid (Wd.same (nm.extract 0 s.size).data.toList s.data.toList = true) ∧ Hid (nl = tl nm) := by
  rw [List.getElem?_map] at hk
  match hs : ss[k]? with
  | none => rw [hs] at hk; simp at hk
  | some nm =>
    rw [hs] at hk
    obtain rfl : tl nm = nl := by simpa using hk
    have hlt := (List.getElem?_eq_some_iff.1 hs).1
    have hlen := hr.1
    simp only [List.length_map] at hlen
    have h1 := (Wd.begins_iff _ _).1 hb
    have h2 : s.size ≤ nm.size := by have := h1.1; rw [tl_length, tl_length] at this; exact this
    refine ⟨nm, rfl, by omega, h2, ?_, rfl⟩
    have h3 := begins_of s nm (by omega)
    rw [hb] at h3
    exact h3.symm
theorem str_info : (Try.prog.info? 9).map (fun i => (i.zero, i.size, i.bytes)) = some (some (.string ⟨#[]⟩), 1, 16) := by kernel_rfl
theorem small_len (ss : List ByteArray) (nn : Nat) (h : smallB ss = true) (hl : (ss.map Value.string).length = nn * 1) : nn ≤ 40 := by
  unfold smallB at h
  rw [Bool.and_eq_true, decide_eq_true_eq] at h
  simp only [List.length_map] at hl
  omega
theorem tl_extract (s : ByteArray) (k : Nat) : tl (s.extract 0 k) = (tl s).take k := by simp [tl]
theorem back_more (s nm : ByteArray) (ss : List ByteArray) (k : Nat) (hp : Wd.pick (tl s) (ss.map tl) = (k : Int)) (hn : ss[k]? = some nm) (hl : s.size < nm.size) : Wd.pick (tl (nm.extract 0 (s.size + 1))) (ss.map tl) = (k : Int) := by
  have := Wd.pick_more (tl s) (tl nm) (ss.map tl) k hp (by simp [hn]) (by rw [tl_length, tl_length]; exact hl)
  rw [tl_extract]
  rw [tl_length] at this
  exact this

theorem begins_short (s more : ByteArray) (h : more.size < s.size) : Wd.begins (tl more) (tl s) = false := by
  unfold Wd.begins
  have : ¬ (tl s).length ≤ (tl more).length := by rw [tl_length, tl_length]; omega
  simp [this]
theorem back_all (s more : ByteArray) (ss : List ByteArray) (k : Nat) (hp : Wd.pick (tl s) (ss.map tl) = (k : Int)) (h : Wd.begins (tl more) (tl s) = false) : Wd.pick (tl s) ((ss ++ [more]).map tl) = (k : Int) := by
  rw [List.map_append, List.map_cons, List.map_nil, Wd.pick_append _ _ _ h, hp]
theorem back_reads (ss : List ByteArray) (more : ByteArray) {w : World} {base : Nat} {e : TypeId} {A : Option Addr} {n c : Nat} (h : w.ownsRow base e 1 (.slice A n c) n (ss.map Value.string ++ [.string more])) :
    Reads w w.heap.size 1 A n ((ss ++ [more]).map Value.string) := by
  rw [List.map_append]
  exact Reads.of_own h
theorem back_below {w wc w8 w9 : World} {o1 o2 : Obj} {v1 : Value} {cap n : Nat} {xs : List Value} {e : TypeId} (hb : Below w.heap.size w wc) (hown1 : w8.ownsRow wc.heap.size e 1 v1 n xs)
    (hg1 : (wc.alloc o1).grownBy w8 (Value.slice (some ⟨wc.heap.size, 0, none⟩) 0 cap).ownBlock) (hg2 : (w8.alloc o2).grownBy w9 v1.ownBlock) : Below w.heap.size w w9 := by
  have h1 := (hb.alloc hb.size o1).grown hg1 (Nat.le_trans hb.size (by simp)) (fun k hk => by
    simp [Value.ownBlock] at hk
    have := hb.size
    omega)
  exact (h1.alloc h1.size o2).grown hg2 (Nat.le_trans h1.size (by simp)) (fun k hk => by
    have := (hown1.lt k hk).1
    have := hb.size
    omega)

set_option maxHeartbeats 2000000 in
set_option maxRecDepth 100000 in
theorem wordBack_any (n : Int) (s more : ByteArray) (A : Option Addr) (nn c : Nat) (ss : List ByteArray) (w : World) (hs : s.size ≤ maxLen) (hm : more.size ≤ maxLen) (hn : nn ≤ maxLen) (hr : Reads w w.heap.size 1 A nn (ss.map Value.string)) :
    Calls Try.prog 3 #[.int .i64 n, .string s, .slice A nn c, .string more] w fun e w' => e = .returned (.bool true) ∧ Below w.heap.size w w' := by
  have HR := Lib.hid hr
  clear hr
  unfold maxLen at hs hm
  by_cases h1 : 1000 < s.size
  · go_enter Try.func3, Try.ntmps3
    go_wp2_with (go_at_call 4; refine (lives05 _).mono ?_; rintro e w1 ⟨rfl, hb⟩)
    go_ret
    exact ⟨rfl, hb⟩
  by_cases h2 : 1000 < more.size
  · go_enter Try.func3, Try.ntmps3
    go_wp2_with (go_at_call 4; refine (lives05 _).mono ?_; rintro e w1 ⟨rfl, hb⟩)
    go_ret
    exact ⟨rfl, hb⟩
  cases h3 : smallB ss
  · have H3 := Lib.hid h3
    clear h3
    go_enter Try.func3, Try.ntmps3
    go_wp2_with (first | (go_at_call 4; refine (lives05 _).mono ?_; rintro e w1 ⟨rfl, hb⟩) | (go_at_call 5; refine (smallLaw_any A nn c ss _ hn ((HR.out.below hb).more hb.size)).mono ?_; rw [H3.out]; rintro e w2 ⟨rfl, hb2⟩))
    go_ret
    exact ⟨rfl, below_drew hb hb2⟩
  have H3 := Lib.hid h3
  clear h3
  go_enter Try.func3, Try.ntmps3
  go_upto_region 5 with (first | (go_at_call 4; refine (lives05 _).mono ?_; rintro e w1 ⟨rfl, hb⟩) | (go_at_call 5; refine (smallLaw_any A nn c ss _ hn ((HR.out.below hb).more hb.size)).mono ?_; rw [H3.out]; rintro e w2 ⟨rfl, hb2⟩))
  replace hb := below_drew hb hb2
  clear hb2
  go_upto_region 6 with (go_at_call 6; refine (monthText_any _ _).mono ?_; rintro e w3 ⟨rfl, hb3⟩)
  replace hb := below_then hb hb3
  clear hb3
  obtain ⟨m1, m2, m3⟩ := month_text n
  obtain ⟨T, hT⟩ : ∃ T, textOf Months (n - 1) = T := ⟨_, rfl⟩
  rw [hT] at m1 m2 m3 ⊢
  clear hT
  have M1 := Lib.hid m1
  have M3 := Lib.hid m3
  clear m1 m3
  go_cut [49] (fun t wx => t = .bool false ∧ Below w.heap.size w wx)
  case first =>
    by_cases hin : 1 ≤ n ∧ n ≤ 12
    · have e1 : T.toList.isEmpty = false := by rw [M1.out]; simp [hin]
      have e2 := calls_int (month_any T w3 m2) (M3.out hin)
      obtain ⟨i1, i2⟩ := hin
      have E2 := Lib.hid e2
      clear e2
      go_wp2_with (go_at_call 7; refine E2.out.mono ?_; rintro e w4 ⟨rfl, hb4⟩)
      go_meet
      exact ⟨rfl, below_then hb hb4⟩
    · have e1 : T.toList.isEmpty = true := by
        rw [M1.out]
        have : (decide (1 ≤ n) && decide (n ≤ 12)) = false := by simpa using hin
        rw [this]; rfl
      by_cases i1 : 1 ≤ n
      · have i2 : ¬ n ≤ 12 := fun h => hin ⟨i1, h⟩
        clear hin
        go_wp2_with fail
        go_meet
        exact ⟨rfl, hb⟩
      · clear hin
        go_wp2_with fail
        go_meet
        exact ⟨rfl, hb⟩
  case rest =>
    obtain ⟨rfl, hb⟩ := hcut
    go_wp2_with fail
    refine (weekdayText_any _ _).mono ?_
    rintro e w5 ⟨rfl, hb5⟩
    replace hb := below_then hb hb5
    clear hb5
    go_upto_region 9 with fail
    obtain ⟨m1, m2, m3⟩ := day_text n
    obtain ⟨T, hT⟩ : ∃ T, textOf Days n = T := ⟨_, rfl⟩
    rw [hT] at m1 m2 m3 ⊢
    clear hT
    have M1 := Lib.hid m1
    have M3 := Lib.hid m3
    clear m1 m3
    go_cut [70] (fun t wx => t = .bool false ∧ Below w.heap.size w wx)
    case first =>
      by_cases hin : 0 ≤ n ∧ n ≤ 6
      · have e1 : T.toList.isEmpty = false := by rw [M1.out]; simp [hin]
        have e2 := calls_int (weekday_any T w5 m2) (M3.out hin)
        obtain ⟨i1, i2⟩ := hin
        have E2 := Lib.hid e2
        clear e2
        go_wp2_with (go_at_call 9; refine E2.out.mono ?_; rintro e w4 ⟨rfl, hb4⟩)
        go_meet
        exact ⟨rfl, below_then hb hb4⟩
      · have e1 : T.toList.isEmpty = true := by
          rw [M1.out]
          have : (decide (0 ≤ n) && decide (n ≤ 6)) = false := by simpa using hin
          rw [this]; rfl
        by_cases i1 : 0 ≤ n
        · have i2 : ¬ n ≤ 6 := fun h => hin ⟨i1, h⟩
          clear hin
          go_wp2_with fail
          go_meet
          exact ⟨rfl, hb⟩
        · clear hin
          go_wp2_with fail
          go_meet
          exact ⟨rfl, hb⟩
    case rest =>
      obtain ⟨rfl, hb⟩ := hcut
      go_wp2_with fail
      have hs' : s.size ≤ maxLen := by unfold maxLen; omega
      have hm' : more.size ≤ maxLen := by unfold maxLen; omega
      rcases Wd.pick_form (tl s) (ss.map tl) with hp | ⟨k, nl, hp, hk, hbg⟩
      · have HP := Lib.hid hp
        clear hp
        refine (calls_int (pick_any s A nn c ss _ hs' hn ((HR.out.below hb).more hb.size)) HP.out).mono ?_
        rintro e w6 ⟨rfl, hb6⟩
        go_wp2
        go_ret
        exact ⟨rfl, below_drew hb hb6⟩
      · refine (calls_int (pick_any s A nn c ss _ hs' hn ((HR.out.below hb).more hb.size)) hp).mono ?_
        have HP := Lib.hid hp
        clear hp
        rintro e w6 ⟨rfl, hb6⟩
        replace hb := below_drew hb hb6
        clear hb6
        obtain ⟨nm, hnm, hkn, h5, h6, h7⟩ := back_facts s A nn ss k nl w HR.out hk hbg
        obtain ⟨ad, nm', rfl, hnm', hcell⟩ := reads_str (HR.out.below hb) hkn
        obtain rfl : nm = nm' := Option.some.inj (hnm.out.symm.trans hnm'.out)
        have q1 : (0 : Int) ≤ (k : Int) := by omega
        have q2 : (k : Int) < (nn : Int) := by omega
        have q3 : (s.size : Int) ≤ (nm.size : Int) := by omega
        have q4 : (nm.extract 0 s.size).size ≤ maxLen := by simp only [ByteArray.size_extract, maxLen]; omega
        go_upto_region 16 with (go_at_call 11; refine (calls_bool (same_any _ _ _ q4) h6.out).mono ?_; rintro e w7 ⟨rfl, hb7⟩)
        replace hb := below_drew hb hb7
        have hcell2 := (hb7.cell (ad.add k)).trans hcell
        clear hb7 hcell
        go_cut [125] (fun t wx => t = .bool false ∧ Below w.heap.size w wx)
        case first =>
          by_cases hl : s.size < nm.size
          · have q5 : (nm.extract 0 (s.size + 1)).size ≤ maxLen := by simp only [ByteArray.size_extract, maxLen]; omega
            have q6 : (s.size : Int) < (nm.size : Int) := by omega
            have e2 := calls_int (pick_any (nm.extract 0 (s.size + 1)) (some ad) nn c ss w7 q5 hn ((HR.out.below hb).more hb.size)) (back_more s nm ss k HP.out hnm.out hl)
            have E2 := Lib.hid e2
            clear e2
            have t1 : ((k : Int) != (k : Int)) = false := by simp
            go_wp2_with (go_at_call 10; refine E2.out.mono ?_; rintro e w8 ⟨rfl, hb8⟩)
            go_meet
            exact ⟨rfl, below_drew hb hb8⟩
          · go_wp2_with fail
            go_meet
            exact ⟨rfl, hb⟩
        case rest =>
          obtain ⟨rfl, hb⟩ := hcut
          clear hcell2
          have hn40 : nn ≤ 40 := small_len ss nn H3.out HR.out.1
          have hown0 := World.ownsRow_lit (base := wc.heap.size) (e := 9) (size := 1) wc #[] 0 (Nat.le_refl _) (by decide) rfl
          have HR0 := Lib.hid (((HR.out.below hb).more hb.size).alloc (Nat.le_refl _) (.cells #[] 9))
          obtain ⟨i0, hi0, hz0, hz1, hz2⟩ := info_parts str_info
          by_cases hlen : more.size < s.size
          · have HPA := Lib.hid (back_all s more ss k HP.out (begins_short s more hlen))
            have q8 : (more.size : Int) < (s.size : Int) := by omega
            have t1 : ((k : Int) == (k : Int)) = true := by simp
            go_wp2_with (first
              | (at_builtin
                 refine wpList_append_any _ rfl (.tmp 126) (.tmp 127) _ rfl wc.heap.size 9 i0 _ 1 16 Try.underlying22 hi0 hz0 hz1 hz2 rfl (by omega) _ 0 [] rfl hown0 wc.heap.size (some ad) nn c (ss.map Value.string) rfl HR0.out (by simp [Value.oneCell']) (by simp only [maxLen]; omega) (by omega) (by simp) ?_
                 intro v1 w8 hown1 hg1 hat1
                 simp only [Nat.zero_add, List.nil_append] at hown1
                 have hz8 : wc.heap.size ≤ w8.heap.size := Nat.le_trans (by simp) hg1.size)
              | (at_builtin
                 refine wpList_append_any _ rfl (.tmp 128) (.tmp 130) _ rfl wc.heap.size 9 i0 _ 1 16 Try.underlying22 hi0 hz0 hz1 hz2 rfl (by omega) v1 nn (ss.map Value.string) rfl (hown1.alloc _) _ (some ⟨w8.heap.size, 0, none⟩) 1 1 [.string more] rfl (reads_new w8 [more] 9) (by simp [Value.oneCell']) (by simp only [maxLen]; omega) (by omega) (by simp; omega) ?_
                 intro v2 w9 hown2 hg2 hat2
                 obtain ⟨A2, c2, rfl, hmax⟩ := own_slice hown2
                 have hbf := Lib.hid (back_below hb hown1 hg1 hg2)
                 have HRA := Lib.hid (back_reads ss more hown2))
              | (go_at_call 10; refine (calls_int (pick_any s A2 (nn + 1) c2 (ss ++ [more]) _ hs' (by unfold maxLen; omega) (HRA.out)) HPA.out).mono ?_; rintro e w11 ⟨rfl, hb11⟩))
            go_ret
            exact ⟨rfl, below_drew hbf.out hb11⟩
          · have q7 : (more.extract 0 s.size).size ≤ maxLen := by simp only [ByteArray.size_extract, maxLen]; omega
            have q8 : (s.size : Int) ≤ (more.size : Int) := by omega
            have t1 : ((k : Int) == (k : Int)) = true := by simp
            cases hsm : Wd.same (more.extract 0 s.size).data.toList s.data.toList
            · have HPA := Lib.hid (back_all s more ss k HP.out ((begins_of s more hlen).trans hsm))
              have HSM := Lib.hid hsm
              clear hsm
              go_wp2_with (first
                | (at_builtin
                   refine wpList_append_any _ rfl (.tmp 126) (.tmp 127) _ rfl wc.heap.size 9 i0 _ 1 16 Try.underlying22 hi0 hz0 hz1 hz2 rfl (by omega) _ 0 [] rfl hown0 wc.heap.size (some ad) nn c (ss.map Value.string) rfl HR0.out (by simp [Value.oneCell']) (by simp only [maxLen]; omega) (by omega) (by simp) ?_
                   intro v1 w8 hown1 hg1 hat1
                   simp only [Nat.zero_add, List.nil_append] at hown1
                   have hz8 : wc.heap.size ≤ w8.heap.size := Nat.le_trans (by simp) hg1.size)
                | (at_builtin
                   refine wpList_append_any _ rfl (.tmp 128) (.tmp 130) _ rfl wc.heap.size 9 i0 _ 1 16 Try.underlying22 hi0 hz0 hz1 hz2 rfl (by omega) v1 nn (ss.map Value.string) rfl (hown1.alloc _) _ (some ⟨w8.heap.size, 0, none⟩) 1 1 [.string more] rfl (reads_new w8 [more] 9) (by simp [Value.oneCell']) (by simp only [maxLen]; omega) (by omega) (by simp; omega) ?_
                   intro v2 w9 hown2 hg2 hat2
                   obtain ⟨A2, c2, rfl, hmax⟩ := own_slice hown2
                   have hbf := Lib.hid (back_below hb hown1 hg1 hg2)
                   have HRA := Lib.hid (back_reads ss more hown2))
                | (go_at_call 11; refine (calls_bool (same_any _ _ _ q7) HSM.out).mono ?_; rintro e w10 ⟨rfl, hb10⟩)
                | (go_at_call 10; refine (calls_int (pick_any s A2 (nn + 1) c2 (ss ++ [more]) _ hs' (by unfold maxLen; omega) (((HRA.out.of_drew hb10).more (by rw [hb10.heap]; exact Nat.le_refl _)))) HPA.out).mono ?_; rintro e w11 ⟨rfl, hb11⟩))
              go_ret
              exact ⟨rfl, below_drew (below_drew hbf.out hb10) hb11⟩
            · have HSM := Lib.hid hsm
              clear hsm
              go_wp2_with (first
                | (at_builtin
                   refine wpList_append_any _ rfl (.tmp 126) (.tmp 127) _ rfl wc.heap.size 9 i0 _ 1 16 Try.underlying22 hi0 hz0 hz1 hz2 rfl (by omega) _ 0 [] rfl hown0 wc.heap.size (some ad) nn c (ss.map Value.string) rfl HR0.out (by simp [Value.oneCell']) (by simp only [maxLen]; omega) (by omega) (by simp) ?_
                   intro v1 w8 hown1 hg1 hat1
                   simp only [Nat.zero_add, List.nil_append] at hown1
                   have hz8 : wc.heap.size ≤ w8.heap.size := Nat.le_trans (by simp) hg1.size)
                | (at_builtin
                   refine wpList_append_any _ rfl (.tmp 128) (.tmp 130) _ rfl wc.heap.size 9 i0 _ 1 16 Try.underlying22 hi0 hz0 hz1 hz2 rfl (by omega) v1 nn (ss.map Value.string) rfl (hown1.alloc _) _ (some ⟨w8.heap.size, 0, none⟩) 1 1 [.string more] rfl (reads_new w8 [more] 9) (by simp [Value.oneCell']) (by simp only [maxLen]; omega) (by omega) (by simp; omega) ?_
                   intro v2 w9 hown2 hg2 hat2
                   obtain ⟨A2, c2, rfl, hmax⟩ := own_slice hown2
                   have hbf := Lib.hid (back_below hb hown1 hg1 hg2)
                   have HRA := Lib.hid (back_reads ss more hown2))
                | (go_at_call 11; refine (calls_bool (same_any _ _ _ q7) HSM.out).mono ?_; rintro e w10 ⟨rfl, hb10⟩))
              go_ret
              exact ⟨rfl, below_drew hbf.out hb10⟩
end Go.Proofs.Ytliedeiimogljaa
