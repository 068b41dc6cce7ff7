/- markup: one piece is read: (*walk).piece. -/
import Derived.Test.YthmhadgbhakdlaaDoorP13
import Derived.Test.YthmhadgbhakdlaaDoorP01
import Derived.ScopeJumps
import Derived.WalkMore

namespace Go.Proofs.YthmhadgbhakdlaaDoor
open Go.RowKit

namespace Mk
theorem ra_bd {l r : Txt} {a : Txt × Txt} (h : readAttr l = some (a, r)) : a.1.length ≤ l.length ∧ a.2.length ≤ l.length := by
  have h0 : (cutN l).1.length ≤ l.length := by
    unfold cutN
    split
    · exact (List.takeWhile_sublist _).length_le
    · exact Nat.zero_le _
  have h1 := cut_len l
  have h2 := skip_len (cutN l).2
  unfold readAttr at h
  split at h
  · cases h
  split at h
  · rename_i r1 e1
    rw [e1, List.length_cons] at h2
    have h3 := skip_len r1
    split at h
    · rename_i q r2 e2
      rw [e2, List.length_cons] at h3
      split at h
      · split at h
        · cases h
        · split at h
          · injection h with h
            injection h with h _
            rw [← h]
            have h4 : (bef q r2).length ≤ r2.length := (List.takeWhile_sublist _).length_le
            exact ⟨h0, by show (bef q r2).length ≤ _; omega⟩
          · cases h
      · cases h
    · cases h
  · cases h
theorem tg_bd (N : Nat) : ∀ (f : Nat) (nm rest : Txt) (ats : List (Txt × Txt)) (t : Tag), tagGo f nm rest ats = some t → rest.length ≤ N → (∀ a ∈ ats, a.1.length ≤ N ∧ a.2.length ≤ N) → ∀ a ∈ t.attrs, a.1.length ≤ N ∧ a.2.length ≤ N
  | 0, _, _, _, _, h, _, _ => by cases h
  | f + 1, nm, rest, ats, t, h, hr, ha => by
    have hs := skip_len rest
    unfold tagGo at h
    split at h
    · injection h with h
      rw [← h]
      exact ha
    · split at h
      · cases h
      · split at h
        · cases h
        · rename_i a b e
          have h1 := ra_bd e
          have h2 := ra_len e
          refine tg_bd N f nm b (ats ++ [a]) t h (by omega) ?_
          intro x hx
          rcases List.mem_append.1 hx with hx | hx
          · exact ha x hx
          · rw [List.mem_singleton.1 hx]
            exact ⟨by omega, by omega⟩
theorem rtag_bd {l : Txt} {t : Tag} (h : readTag l = some t) : ∀ a ∈ t.attrs, a.1.length ≤ l.length ∧ a.2.length ≤ l.length := by
  unfold readTag at h
  split at h
  · split at h
    · injection h with h
      rw [← h]
      intro a ha
      cases ha
    · cases h
  · split at h
    · cases h
    · exact tg_bd l.length _ _ _ _ t h (cut_len l) (fun a ha => by cases ha)
theorem pc_comm {s : Txt} {p : Nat} {st : S} (h : comm.isPrefixOf s = true) : piece s p st = if idxOf ((s.drop 4).take (s.length - 7)) [45, 45] = none then .inr st else .inl 4 := by unfold piece; rw [if_pos h]
theorem pc_note {s : Txt} {p : Nat} {st : S} (h : comm.isPrefixOf s = false) (h2 : note.isPrefixOf s = true) : piece s p st = if 0 < p then .inl 4 else .inr st := by unfold piece; rw [if_neg (by rw [h]; decide), if_pos h2]
theorem pc_none {s : Txt} {p : Nat} {st : S} (h : comm.isPrefixOf s = false) (h2 : note.isPrefixOf s = false) (h3 : readTag ((s.drop 1).take (s.length - 2)) = none) : piece s p st = .inl 4 := by
  unfold piece
  rw [if_neg (by rw [h]; decide), if_neg (by rw [h2]; decide), h3]
theorem pc_tag {s : Txt} {p : Nat} {st : S} {t : Tag} (h : comm.isPrefixOf s = false) (h2 : note.isPrefixOf s = false) (h3 : readTag ((s.drop 1).take (s.length - 2)) = some t) : piece s p st =
    match (if t.opens = true then begin_ t p st else .inr st) with
    | .inl e => .inl e
    | .inr st2 => if t.closes = true then finish t p st2 else .inr st2 := by
  unfold piece
  rw [if_neg (by rw [h]; decide), if_neg (by rw [h2]; decide), h3]
  rfl
theorem Mv.mono {w w1 : World} {v v' : Value} (h : Mv w1 v v') (hs : w.heap.size ≤ w1.heap.size) : Mv w v v' := by
  rcases h with h | ⟨k, h1, h2⟩
  · exact .inl h
  · exact .inr ⟨k, h1, by omega⟩
theorem Mv.own {w : World} {v v' : Value} {j : Nat} (h : Mv w v v') (hj : j < w.heap.size) (hv : v'.ownBlock = some j) : v.ownBlock = some j := by
  rcases h with h | ⟨k, h1, h2⟩
  · rw [← h]; exact hv
  · rw [hv] at h1
    have : j = k := Option.some.inj h1
    omega
/-- What a later method answers, seen from an earlier world. -/
theorem WRet.after {w w3 w4 : World} {g : Nat} {s : ByteArray} {tv ov tv2 ov2 : Value} {o : Nat ⊕ S} {e : Ending} (hk : Kp (fun k => Sg g tv ov k ∨ False) w w3) (h1 : Mv w tv tv2) (h2 : Mv w ov ov2) (h : WRet w3 g s tv2 ov2 (fun _ => False) o e w4) :
    WRet w g s tv ov (fun _ => False) o e w4 := by
  refine ⟨hk.trans h.1 (fun j hj x => ?_), ?_⟩
  · rcases x with x | x
    · rcases x with x | x | x
      · exact .inl (.inl x)
      · exact .inl (.inr (.inl (h1.own hj x)))
      · exact .inl (.inr (.inr (h2.own hj x)))
    · exact x.elim
  · have h3 := h.2
    cases o with
    | inl k => exact h3
    | inr st' =>
      obtain ⟨e, tv', ov', avs', hw, m1, m2⟩ := h3
      exact ⟨e, tv', ov', avs', hw, h1.trans m1 hk.size, h2.trans m2 hk.size⟩
theorem Wk.drop1 {w : World} {g : Nat} {s : ByteArray} {st : S} {tv ov : Value} {avs : List Value} {r : Row} (h : Wk w g s st tv ov avs [r]) : Wk w g s st tv ov avs [] :=
  ⟨h.at_, h.len, ⟨fun x hx => h.many.own x (by
    rcases List.mem_cons.1 hx with rfl | hx
    · exact List.mem_cons_self
    · rcases List.mem_cons.1 hx with rfl | hx
      · exact List.mem_cons_of_mem _ List.mem_cons_self
      · exact List.mem_cons_of_mem _ (List.mem_cons_of_mem _ (List.mem_append_right _ (by simpa using hx)))), by
    have ha := h.many.apart
    refine ha.sublist ?_
    exact List.Sublist.cons_cons _ (List.Sublist.cons_cons _ (List.sublist_append_right _ _))⟩⟩
theorem begin_size {t : Tag} {p : Nat} {st st2 : S} (h : begin_ t p st = .inr st2) (ho : st.opened.length ≤ 32) : st2.toks.length = st.toks.length + 1 ∧ st2.opened.length ≤ 32 := by
  unfold begin_ at h
  split at h
  · cases h
  split at h
  · cases h
  rename_i hlt
  split at h
  · cases h
  split at h
  · cases h
  · injection h with h
    rw [← h]
    simp
    omega
theorem has_idx (l t : Txt) : Lib.contains l t = true ↔ idxOf l t ≠ none := by
  have := index_ge l t
  unfold Lib.contains idxOf
  by_cases e : Lib.index l t = -1
  · rw [if_pos e, e]; simp
  · rw [if_neg e]; simp; omega
end Mk
set_option maxHeartbeats 4000000 in
set_option maxRecDepth 100000 in
theorem piece_any (w : World) (g : Nat) (s : ByteArray) (st : Mk.S) (tv ov : Value) (avs : List Value) (a b : Nat) (hab : a ≤ b) (hbs : b ≤ s.size) (hs : s.size ≤ 100000000) (H : Mk.Wk w g s st tv ov avs []) (hm : st.toks.length + 2 ≤ 100000000) (ho : st.opened.length ≤ 32)
    (hW : Wl w) (h2 : 2 ≤ b - a) (h7 : Mk.comm.isPrefixOf (tl (s.extract a b)) = true → 7 ≤ b - a) :
    Calls Tryd.prog 39 #[.pointer (some ⟨g, 0, none⟩), .int .i64 (a : Int), .int .i64 (b : Int)] w (Mk.WRet w g s tv ov (fun _ => False) (Mk.piece (tl (s.extract a b)) a st)) := by
  have hg : g < w.heap.size := H.at_.lt
  have hb0 : w.cell? ⟨g, 0, none⟩ = some (.string s) := H.at_.cell 0 _ rfl
  have a0 : (0 : Int) ≤ (a : Int) := by omega
  have a1 : (a : Int) ≤ (b : Int) := by omega
  have a2 : (b : Int) ≤ (s.size : Int) := by omega
  obtain ⟨P, hP⟩ : ∃ P, s.extract a b = P := ⟨_, rfl⟩
  have hPs : P.size = b - a := by rw [← hP, ByteArray.size_extract]; omega
  have HPx : Hid (s.extract a b = P) := hP
  rw [hP] at h7 ⊢
  obtain ⟨R, hR⟩ : ∃ R, Mk.piece (tl P) a st = R := ⟨_, rfl⟩
  rw [hR]
  have hPl := tl_length P
  obtain ⟨bc, hbc⟩ : ∃ b, Mk.comm.isPrefixOf (tl P) = b := ⟨_, rfl⟩
  obtain ⟨bn, hbn⟩ : ∃ b, Mk.note.isPrefixOf (tl P) = b := ⟨_, rfl⟩
  have HC : Hid (∀ W, Calls Tryd.prog 30 #[.string P, .string ⟨#[60, 33, 45, 45]⟩] W fun e w' => e = .returned (.bool bc) ∧ w' = W) := fun W => by
    have h := Tryd.strings_HasPrefix P ⟨#[60, 33, 45, 45]⟩ W
    rw [show P.data.toList = tl P from rfl, show (⟨#[60, 33, 45, 45]⟩ : ByteArray).data.toList = Mk.comm from rfl, Mk.has_eq, hbc] at h
    exact h
  have HN : Hid (∀ W, Calls Tryd.prog 30 #[.string P, .string ⟨#[60, 63]⟩] W fun e w' => e = .returned (.bool bn) ∧ w' = W) := fun W => by
    have h := Tryd.strings_HasPrefix P ⟨#[60, 63]⟩ W
    rw [show P.data.toList = tl P from rfl, show (⟨#[60, 63]⟩ : ByteArray).data.toList = Mk.note from rfl, Mk.has_eq, hbn] at h
    exact h
  have HH := Lib.hid H
  have HSt : Hid (Mk.WRet w g s tv ov (fun _ => False) (.inr st) (.returned (.int .i64 0)) w) := ⟨Mk.Kp.refl _ _, rfl, _, _, _, H, Mk.Mv.refl _ _, Mk.Mv.refl _ _⟩
  have HBd : Hid (∀ k : Nat, Mk.WRet w g s tv ov (fun _ => False) (.inl k) (.returned (.int .i64 (k : Int))) w) := fun k => ⟨Mk.Kp.refl _ _, rfl⟩
  cases bc with
  | true =>
    have h7' := h7 hbc
    obtain ⟨u, hu⟩ : ∃ u : Nat, P.size - 3 = u := ⟨_, rfl⟩
    have hwu : IntKind.i64.wrap ((P.size : Int) - 3) = (u : Int) := by rw [IntKind.wrap_i64]; omega
    have u4 : (4 : Int) ≤ (u : Int) := by omega
    have uP : (u : Int) ≤ (P.size : Int) := by omega
    have z4 : (0 : Int) ≤ 4 := by omega
    obtain ⟨m, hmx⟩ := hW.maxl
    have hmid : tl (P.extract 4 u) = ((tl P).drop 4).take ((tl P).length - 7) := by rw [Mk.tl_mid, hPl]; congr 1; omega
    have hc := Tryd.strings_Contains (P.extract 4 u) ⟨#[45, 45]⟩ m w (by simp only [ByteArray.size_extract]; omega) hmx
    have hR2 := hR.symm.trans (Mk.pc_comm hbc)
    rw [← hmid] at hR2
    rw [show (P.extract 4 u).data.toList = tl (P.extract 4 u) from rfl, show (⟨#[45, 45]⟩ : ByteArray).data.toList = [45, 45] from rfl] at hc
    obtain ⟨bx, hbx⟩ : ∃ x, Lib.contains (tl (P.extract 4 u)) [45, 45] = x := ⟨_, rfl⟩
    rw [hbx] at hc
    have HCt := Lib.hid hc
    cases bx with
    | true =>
      have HE : Hid (R = .inl 4) := by show _ = _; rw [hR2, if_neg ((Mk.has_idx _ _).1 hbx)]
      clear hc hR2 hbx hmid hmx hu h7' h7 hbc hbn hR hPl hPs hP H HN ho hm hW
      go_enter Tryd.func39, Tryd.ntmps39
      go_upto_region 1 with fail
      go_cut [7] (fun v wx => v = .string P ∧ w = wx)
      case first =>
        go_wp2
        go_meet
        exact ⟨by rw [HPx.out], rfl⟩
      case rest =>
      obtain ⟨rfl, rfl⟩ := hcut
      go_wp2_with (refine (HC.out _).mono ?_; rintro e w' ⟨rfl, rfl⟩)
      go_wp2_with (refine HCt.out.mono ?_; rintro e w' ⟨rfl, rfl⟩)
      refine bodyPost_ret (v := .int .i64 4) (by simp [results, Tryd.results39, go_sem, *]) rfl (by rw [HE.out]; exact HBd.out 4)
    | false =>
      have HE : Hid (R = .inr st) := by
        show _ = _
        rw [hR2, if_pos]
        by_cases e : Mk.idxOf (tl (P.extract 4 u)) [45, 45] = none
        · exact e
        · have := (Mk.has_idx _ _).2 e
          rw [hbx] at this
          cases this
      clear hc hR2 hbx hmid hmx hu h7' h7 hbc hbn hR hPl hPs hP H HN ho hm hW
      go_enter Tryd.func39, Tryd.ntmps39
      go_upto_region 1 with fail
      go_cut [7] (fun v wx => v = .string P ∧ w = wx)
      case first =>
        go_wp2
        go_meet
        exact ⟨by rw [HPx.out], rfl⟩
      case rest =>
      obtain ⟨rfl, rfl⟩ := hcut
      go_wp2_with (refine (HC.out _).mono ?_; rintro e w' ⟨rfl, rfl⟩)
      go_wp2_with (refine HCt.out.mono ?_; rintro e w' ⟨rfl, rfl⟩)
      refine bodyPost_ret (v := .int .i64 0) (by simp [results, Tryd.results39, go_sem, *]) rfl (by rw [HE.out]; exact HSt.out)
  | false =>
    cases bn with
    | true =>
      have hR2 := hR.symm.trans (Mk.pc_note hbc hbn)
      by_cases ha0 : 0 < a
      · have HE : Hid (R = .inl 4) := by show _ = _; rw [hR2, if_pos ha0]
        have q1 : (0 : Int) < (a : Int) := by omega
        clear hR2 h7 hbc hbn hR hPl hPs hP H ho hm hW
        go_enter Tryd.func39, Tryd.ntmps39
        go_upto_region 1 with fail
        go_cut [7] (fun v wx => v = .string P ∧ w = wx)
        case first =>
          go_wp2
          go_meet
          exact ⟨by rw [HPx.out], rfl⟩
        case rest =>
        obtain ⟨rfl, rfl⟩ := hcut
        go_wp2_with (refine (HC.out _).mono ?_; rintro e w' ⟨rfl, rfl⟩)
        go_wp2_with (refine (HN.out _).mono ?_; rintro e w' ⟨rfl, rfl⟩)
        refine bodyPost_ret (v := .int .i64 4) (by simp [results, Tryd.results39, go_sem, *]) rfl (by rw [HE.out]; exact HBd.out 4)
      · have HE : Hid (R = .inr st) := by show _ = _; rw [hR2, if_neg ha0]
        have q1 : ¬ (0 : Int) < (a : Int) := by omega
        clear hR2 h7 hbc hbn hR hPl hPs hP H ho hm hW
        go_enter Tryd.func39, Tryd.ntmps39
        go_upto_region 1 with fail
        go_cut [7] (fun v wx => v = .string P ∧ w = wx)
        case first =>
          go_wp2
          go_meet
          exact ⟨by rw [HPx.out], rfl⟩
        case rest =>
        obtain ⟨rfl, rfl⟩ := hcut
        go_wp2_with (refine (HC.out _).mono ?_; rintro e w' ⟨rfl, rfl⟩)
        go_wp2_with (refine (HN.out _).mono ?_; rintro e w' ⟨rfl, rfl⟩)
        refine bodyPost_ret (v := .int .i64 0) (by simp [results, Tryd.results39, go_sem, *]) rfl (by rw [HE.out]; exact HSt.out)
    | false =>
      obtain ⟨u, hu⟩ : ∃ u : Nat, P.size - 1 = u := ⟨_, rfl⟩
      have hwu : IntKind.i64.wrap ((P.size : Int) - 1) = (u : Int) := by rw [IntKind.wrap_i64]; omega
      have u1 : (1 : Int) ≤ (u : Int) := by omega
      have uP : (u : Int) ≤ (P.size : Int) := by omega
      have z1 : (0 : Int) ≤ 1 := by omega
      have hmid : tl (P.extract 1 u) = ((tl P).drop 1).take ((tl P).length - 2) := by rw [Mk.tl_mid, hPl]; congr 1; omega
      have HRT := Lib.hid (readTag_any (P.extract 1 u) (by simp only [ByteArray.size_extract]; omega) w)
      have hql : (tl (P.extract 1 u)).length ≤ 100000000 := by rw [tl_length]; simp only [ByteArray.size_extract]; omega
      cases hrt : Mk.readTag (tl (P.extract 1 u)) with
      | none =>
        have HE : Hid (R = .inl 4) := by show _ = _; rw [← hR]; exact Mk.pc_none hbc hbn (by rw [← hmid]; exact hrt)
        rw [hrt] at HRT
        clear hrt hmid hu h7 hbc hbn hR hPl hPs hP H ho hm hW hql
        go_enter Tryd.func39, Tryd.ntmps39
        go_upto_region 1 with fail
        go_cut [7] (fun v wx => v = .string P ∧ w = wx)
        case first =>
          go_wp2
          go_meet
          exact ⟨by rw [HPx.out], rfl⟩
        case rest =>
        obtain ⟨rfl, rfl⟩ := hcut
        go_wp2_with (refine (HC.out _).mono ?_; rintro e w' ⟨rfl, rfl⟩)
        go_wp2_with (refine (HN.out _).mono ?_; rintro e w' ⟨rfl, rfl⟩)
        go_wp2_with fail
        refine HRT.out.mono ?_
        rintro e w1 ⟨hb, nm, x, y, rfl⟩
        have HK := Lib.hid ((Mk.Kp.of_below (S := fun k => Mk.Sg g tv ov k ∨ False) hb).alloc (.cells #[.string nm, .slice none 0 0, .bool x, .bool y] 100))
        clear hb
        go_wp2
        refine bodyPost_ret (v := .int .i64 4) (by simp [results, Tryd.results39, go_sem, *]) rfl (by rw [HE.out]; exact ⟨HK.out, rfl⟩)
      | some t =>
        have HRt : Hid (R = match (if t.opens = true then Mk.begin_ t a st else .inr st) with
            | .inl e => .inl e
            | .inr st2 => if t.closes = true then Mk.finish t a st2 else .inr st2) := by show _ = _; rw [← hR]; exact Mk.pc_tag hbc hbn (by rw [← hmid]; exact hrt)
        have HBs : Hid (∀ x ∈ t.attrs, x.1.length ≤ 100000000 ∧ x.2.length ≤ 100000000) := fun x hx => by
          have h := Mk.rtag_bd hrt x hx
          exact ⟨by omega, by omega⟩
        rw [hrt] at HRT
        clear hrt hmid hu h7 hbc hbn hR hPl hPs hP H hW hql HSt HBd
        have HNm := Lib.hid hm
        have HOp := Lib.hid ho
        clear hm ho
        go_enter Tryd.func39, Tryd.ntmps39
        go_upto_region 1 with fail
        go_cut [7] (fun v wx => v = .string P ∧ w = wx)
        case first =>
          go_wp2
          go_meet
          exact ⟨by rw [HPx.out], rfl⟩
        case rest =>
        obtain ⟨rfl, rfl⟩ := hcut
        go_wp2_with (refine (HC.out _).mono ?_; rintro e w' ⟨rfl, rfl⟩)
        go_wp2_with (refine (HN.out _).mono ?_; rintro e w' ⟨rfl, rfl⟩)
        go_wp2_with fail
        refine HRT.out.mono ?_
        rintro e w1 ⟨hb, A, c, rfl, hrow⟩
        obtain ⟨nm, ats, op, cl⟩ := t
        obtain ⟨n, hn⟩ : ∃ n, ats.length = n := ⟨_, rfl⟩
        obtain ⟨nb, hnb⟩ : ∃ x, Mk.bts nm = x := ⟨_, rfl⟩
        simp only [hn, hnb] at hrow ⊢
        have hwx := Mk.Wk.addNew (r := Mk.axRow (.slice A n c) n ats) HH.out hb hrow
        have HA := Lib.hid (fun k (hk : (Value.slice A n c).ownBlock = some k) => (hrow.lt k hk).1)
        have HW1 := Lib.hid (hwx.alloc (.cells #[.string nb, .slice A n c, .bool op, .bool cl] 100))
        have HK1 := Lib.hid ((Mk.Kp.of_below (S := fun k => Mk.Sg g tv ov k ∨ False) hb).alloc (.cells #[.string nb, .slice A n c, .bool op, .bool cl] 100))
        have HT1 := Lib.hid (At.new w1 #[.string nb, .slice A n c, .bool op, .bool cl] 100)
        have HNn := Lib.hid hn
        have HNB := Lib.hid hnb
        have HNg := Lib.hid (show g < w1.heap.size from Nat.lt_of_lt_of_le hg hb.size)
        have HWz := Lib.hid (show w'.heap.size ≤ (w1.alloc (.cells #[.string nb, .slice A n c, .bool op, .bool cl] 100)).heap.size by rw [World.size_alloc]; have := hb.size; omega)
        have HTv : Hid (∀ k, tv.ownBlock = some k → k < w1.heap.size) := fun k hk => Nat.lt_of_lt_of_le (HH.out.tk.lt k hk).2 hb.size
        have HOv : Hid (∀ k, ov.ownBlock = some k → k < w1.heap.size) := fun k hk => Nat.lt_of_lt_of_le (HH.out.op.lt k hk).2 hb.size
        have HAl : Hid (∀ k, (Value.slice A n c).ownBlock = some k → k < w1.heap.size) := fun k hk => (hrow.lt k hk).2
        clear hb hrow hwx hn hnb
        have hgw : g < w'.heap.size := hg
        cases op with
        | false =>
          have c2 := HT1.out.cell 2 _ rfl
          have c3 := HT1.out.cell 3 _ rfl
          cases cl with
          | false =>
            have HE : Hid (R = .inr st) := HRt.out
            go_wp2
            refine bodyPost_ret (v := .int .i64 0) (by simp [results, Tryd.results39, go_sem, *]) rfl (by rw [HE.out]; exact ⟨HK1.out, rfl, _, _, _, HW1.out.drop1, Mk.Mv.refl _ _, Mk.Mv.refl _ _⟩)
          | true =>
            have HE : Hid (R = Mk.finish ⟨nm, ats, false, true⟩ a st) := HRt.out
            have hf := finish_any (w1.alloc (.cells #[.string nb, .slice A n c, .bool false, .bool true] 100)) g s st tv ov (.slice A n c) avs ⟨nm, ats, false, true⟩ false true a HW1.out.drop1 ⟨by have := HNm.out; omega, HOp.out⟩
            simp only [HNB.out] at hf
            have HF := Lib.hid hf
            clear hf
            obtain ⟨e0, e1, e2, e3, _⟩ := Mk.four HT1.out
            go_wp2_with fail
            refine HF.out.mono ?_
            intro e w4 hret
            have HRe := Lib.hid (hret.after HK1.out (Mk.Mv.refl _ _) (Mk.Mv.refl _ _))
            clear hret
            rw [← HE.out] at HRe
            cases R with
            | inl k =>
              obtain rfl := HRe.out.2
              go_wp2
              refine bodyPost_ret (v := .int .i64 (k : Int)) (by simp [results, Tryd.results39, go_sem, *]) rfl HRe.out
            | inr st' =>
              obtain ⟨rfl, _⟩ := HRe.out.2
              go_wp2
              refine bodyPost_ret (v := .int .i64 0) (by simp [results, Tryd.results39, go_sem, *]) rfl HRe.out
        | true =>
          have hbg := begin_any (w1.alloc (.cells #[.string nb, .slice A n c, .bool true, .bool cl] 100)) g s st tv ov (.slice A n c) avs ⟨nm, ats, true, cl⟩ cl a (by
            have h := HW1.out
            rw [show (⟨nm, ats, true, cl⟩ : Mk.Tag).attrs = ats from rfl, HNn.out]
            exact h) ⟨by have := HNm.out; omega, HOp.out⟩ HBs.out
          simp only [HNB.out] at hbg
          have HBg := Lib.hid hbg
          clear hbg
          obtain ⟨e0, e1, e2, e3, _⟩ := Mk.four HT1.out
          go_wp2_with fail
          refine HBg.out.mono ?_
          intro e w3 hret
          have hk3 : Mk.Kp (fun k => Mk.Sg g tv ov k ∨ False) w' w3 := HK1.out.trans hret.1 (fun j hj x => by
            rcases x with x | x
            · exact .inl x
            · have := HA.out j x
              omega)
          have ht3 := hret.1.at_ HT1.out (by
            have hwz := HK1.out.size
            have hz1 := HT1.out.lt
            rintro ((h | h | h) | h)
            · have := HNg.out; omega
            · have := HTv.out _ h; have := HWz.out; omega
            · have := HOv.out _ h; have := HWz.out; omega
            · have := HAl.out _ h; omega)
          have h32 := hret.2
          have HK3 := Lib.hid hk3
          have HT3 := Lib.hid ht3
          clear hk3 ht3 hret e0 e1 e2 e3
          cases hbg : Mk.begin_ ⟨nm, ats, true, cl⟩ a st with
          | inl k =>
            rw [hbg] at h32
            obtain rfl := h32
            have hk0 := Mk.begin_why hbg
            have q6 : ((k : Int) == 0) = false := by rw [beq_eq_false_iff_ne]; omega
            have HE : Hid (R = .inl k) := by
              show _ = _
              rw [HRt.out]
              simp only [if_true]
              rw [hbg]
            clear hbg hk0
            go_wp2
            refine bodyPost_ret (v := .int .i64 (k : Int)) (by simp [results, Tryd.results39, go_sem, *]) rfl (by rw [HE.out]; exact ⟨HK3.out, rfl⟩)
          | inr st2 =>
            rw [hbg] at h32
            obtain ⟨rfl, tv2, ov2, avs2, hw2, hm1, hm2⟩ := h32
            have hsz2 : st2.toks.length ≤ 100000000 ∧ st2.opened.length ≤ 32 := by
              have h := Mk.begin_size hbg HOp.out
              have := HNm.out
              omega
            have HM1 := Lib.hid (hm1.mono HWz.out)
            have HM2 := Lib.hid (hm2.mono HWz.out)
            have HW2 := Lib.hid hw2
            have HS2 := Lib.hid hsz2
            have HBe := Lib.hid hbg
            clear hbg hw2 hm1 hm2 hsz2
            obtain ⟨e0, e1, e2, e3, _⟩ := Mk.four HT3.out
            have z3 := HT3.out.lt
            cases cl with
            | false =>
              have HE : Hid (R = .inr st2) := by
                show _ = _
                rw [HRt.out]
                simp only [if_true]
                rw [HBe.out]
                rfl
              go_wp2
              refine bodyPost_ret (v := .int .i64 0) (by simp [results, Tryd.results39, go_sem, *]) rfl (by rw [HE.out]; exact ⟨HK3.out, rfl, _, _, _, HW2.out, HM1.out, HM2.out⟩)
            | true =>
              have HE : Hid (R = Mk.finish ⟨nm, ats, true, true⟩ a st2) := by
                show _ = _
                rw [HRt.out]
                simp only [if_true]
                rw [HBe.out]
              have hf := finish_any w3 g s st2 tv2 ov2 (.slice A n c) avs2 ⟨nm, ats, true, true⟩ true true a HW2.out ⟨HS2.out.1, HS2.out.2⟩
              simp only [HNB.out] at hf
              have HF := Lib.hid hf
              clear hf
              go_wp2_with fail
              refine HF.out.mono ?_
              intro e w4 hret
              have HRe := Lib.hid (hret.after HK3.out HM1.out HM2.out)
              clear hret
              rw [← HE.out] at HRe
              cases R with
              | inl k =>
                obtain rfl := HRe.out.2
                go_wp2
                refine bodyPost_ret (v := .int .i64 (k : Int)) (by simp [results, Tryd.results39, go_sem, *]) rfl HRe.out
              | inr st' =>
                obtain ⟨rfl, _⟩ := HRe.out.2
                go_wp2
                refine bodyPost_ret (v := .int .i64 0) (by simp [results, Tryd.results39, go_sem, *]) rfl HRe.out
end Go.Proofs.YthmhadgbhakdlaaDoor

/- A scope in which the run jumps back to several labels: what holds at every jump to each, and a measure that every pass lowers. -/
namespace Go.Proofs.YthmhadgbhakdlaaDoor
open Go Go.RowKit

/-- As Q; by a goto to label l: J l. -/
def Exit.jumps (J : Nat → Act → World → Prop) (Q : Exit → Act → World → Prop) : Exit → Act → World → Prop
  | .goto l, a, w => J l a w
  | e, a, w => Q e a w
theorem wp_scope_labels {P : Program} {a : Act} {w : World} {Q : Exit → Act → World → Prop} {c : Code} (J : Nat → Act → World → Prop) (μ : Nat → Act → World → Nat)
    (first : c.wp P (Exit.jumps J Q) a w)
    (pass : ∀ l a w, J l a w → ∃ rest, findLabel c l = some rest ∧ rest.wp P (Exit.jumps (fun l' a' w' => J l' a' w' ∧ μ l' a' w' < μ l a w) Q) a w) : (Code.scope c).wp P Q a w := by
  intro b k cs
  have key : ∀ n l a w, μ l a w = n → J l a w → ∃ rest, findLabel c l = some rest ∧ ∃ e a' w', Q e a' w' ∧ Arrives P (lone (b.at a (.code rest :: .inScope c :: k)) cs w) b k cs e a' w' := by
    intro n
    induction n using Nat.strongRecOn with
    | _ n ih =>
      intro l a w hn hJ
      obtain ⟨rest, hf, hp⟩ := pass l a w hJ
      refine ⟨rest, hf, ?_⟩
      obtain ⟨e, a₁, w₁, hq, harr⟩ := hp b (.inScope c :: k) cs
      cases e with
      | normal => exact ⟨.normal, a₁, w₁, hq, Steps.trans harr (.one step_inScope)⟩
      | exit id => exact ⟨.exit id, a₁, w₁, hq, fun k' hk => harr k' (by simp [exitTo, hk])⟩
      | goto l' =>
        obtain ⟨hJ', hlt⟩ := hq
        obtain ⟨rest2, hf2, e₂, a₂, w₂, hq₂, harr₂⟩ := ih _ (by omega) l' a₁ w₁ rfl hJ'
        have hg : gotoIn l' (.inScope c :: k) = some (.code rest2 :: .inScope c :: k) := by simp [gotoIn, hf2]
        exact ⟨e₂, a₂, w₂, hq₂, .of_steps (harr _ hg) harr₂⟩
      | ret => exact ⟨_, a₁, w₁, hq, harr⟩
      | panic ch => exact ⟨_, a₁, w₁, hq, harr⟩
      | outgrown => exact ⟨_, a₁, w₁, hq, harr⟩
  obtain ⟨e, a₁, w₁, hq, harr⟩ := first b (.inScope c :: k) cs
  cases e with
  | normal => exact ⟨.normal, a₁, w₁, hq, .head step_scope (Steps.trans harr (.one step_inScope))⟩
  | exit id => exact ⟨.exit id, a₁, w₁, hq, fun k' hk => .head step_scope (harr k' (by simp [exitTo, hk]))⟩
  | goto l' =>
    obtain ⟨rest2, hf2, e₂, a₂, w₂, hq₂, harr₂⟩ := key _ l' a₁ w₁ rfl hq
    have hg : gotoIn l' (.inScope c :: k) = some (.code rest2 :: .inScope c :: k) := by simp [gotoIn, hf2]
    exact ⟨e₂, a₂, w₂, hq₂, .of_steps (.head step_scope (harr _ hg)) harr₂⟩
  | ret => exact ⟨_, a₁, w₁, hq, .of_steps (.one step_scope) harr⟩
  | panic ch => exact ⟨_, a₁, w₁, hq, .of_steps (.one step_scope) harr⟩
  | outgrown => exact ⟨_, a₁, w₁, hq, .of_steps (.one step_scope) harr⟩
/-- The same; where the scope's own beginning comes to a label, what holds there serves. -/
theorem wp_scope_labels2 {P : Program} {a : Act} {w : World} {Q : Exit → Act → World → Prop} {c : Code} (J : Nat → Act → World → Prop) (μ : Nat → Act → World → Nat)
    (pass : ∀ l a w, J l a w → ∃ rest, findLabel c l = some rest ∧ rest.wp P (Exit.jumps (fun l' a' w' => J l' a' w' ∧ μ l' a' w' < μ l a w) Q) a w)
    (first : (∀ l rest a w, findLabel c l = some rest → J l a w → rest.wp P (Exit.jumps J Q) a w) → c.wp P (Exit.jumps J Q) a w) : (Code.scope c).wp P Q a w := by
  refine wp_scope_labels J μ (first fun l rest a w hf hJ => ?_) pass
  obtain ⟨rest', hf', hp⟩ := pass l a w hJ
  obtain rfl : rest' = rest := Option.some.inj (hf'.symm.trans hf)
  refine wp_mono hp fun e a' w' h => ?_
  cases e with
  | goto l' => exact h.1
  | normal => exact h
  | exit id => exact h
  | ret => exact h
  | panic ch => exact h
  | outgrown => exact h
/-- The same, at labels that stand as statements of the scope's own sequence. -/
theorem wp_scope_labels3 {P : Program} {a : Act} {w : World} {Q : Exit → Act → World → Prop} {c : Code} (J : Nat → Act → World → Prop) (μ : Nat → Act → World → Nat)
    (pass : ∀ l a w, J l a w → ∃ rest, findLabel c l = some (.seq .skip rest) ∧ rest.wp P (Exit.jumps (fun l' a' w' => J l' a' w' ∧ μ l' a' w' < μ l a w) Q) a w)
    (first : (∀ l rest a w, findLabel c l = some (.seq .skip rest) → J l a w → rest.wp P (Exit.jumps J Q) a w) → c.wp P (Exit.jumps J Q) a w) : (Code.scope c).wp P Q a w := by
  refine wp_scope_labels J μ (first fun l rest a w hf hJ => ?_) fun l a w hJ => ?_
  · obtain ⟨rest', hf', hp⟩ := pass l a w hJ
    have e := Option.some.inj (hf'.symm.trans hf)
    injection e with _ e
    subst e
    refine wp_mono hp fun e a' w' h => ?_
    cases e with
    | goto l' => exact h.1
    | normal => exact h
    | exit id => exact h
    | ret => exact h
    | panic ch => exact h
    | outgrown => exact h
  · obtain ⟨rest, hf, hp⟩ := pass l a w hJ
    exact ⟨_, hf, wp_seq (wp_skip hp)⟩
end Go.Proofs.YthmhadgbhakdlaaDoor
