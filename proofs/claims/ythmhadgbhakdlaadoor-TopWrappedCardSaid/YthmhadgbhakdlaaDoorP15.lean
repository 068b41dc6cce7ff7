/- markup: from piece to piece: (*walk).through. -/
import Derived.Test.YthmhadgbhakdlaaDoorP14
import Derived.Test.YthmhadgbhakdlaaDoorP03

namespace Go.Proofs.YthmhadgbhakdlaaDoor
open Go.RowKit

namespace Mk
theorem flt_zero (w : World) : (Op.equalIn 10000 30 (.agg #[.int .i64 0, .int .i64 0, .int .i64 0]) (.agg #[.int .i64 0, .int .i64 0, .int .i64 0])).run Tryd.prog w = .ok true w := by go_simp
theorem flt_some (c y : Int) (h : y ≠ 0) (w : World) : (Op.equalIn 10000 30 (.agg #[.int .i64 0, .int .i64 c, .int .i64 y]) (.agg #[.int .i64 0, .int .i64 0, .int .i64 0])).run Tryd.prog w = .ok false w := by
  go_simp
/-- What lies beside a walk. -/
structure Loc (w : World) (g : Nat) (tv0 ov0 : Value) (wx : World) : Prop where
  f0 : At wx w.heap.size [.int .i64 0, .int .i64 0, .int .i64 0]
  t0 : Ty wx w.heap.size
  f1 : ∃ x y z, At wx (w.heap.size + 1) [x, y, z]
  t1 : Ty wx (w.heap.size + 1)
  kp : Kp (fun k => Sg g tv0 ov0 k ∨ False) w wx
  wl : Wl wx
structure At_ (w : World) (g : Nat) (s : ByteArray) (tv0 ov0 : Value) (k : Nat) (st : S) (wx : World) : Prop where
  wk : ∃ tv ov avs, Wk wx g s st tv ov avs [] ∧ Mv w tv0 tv ∧ Mv w ov0 ov
  loc : Loc w g tv0 ov0 wx
  nt : st.toks.length ≤ 2 * k
  no : st.opened.length ≤ 32
theorem Wl.kp {g : Nat} {s : ByteArray} {st : S} {tv ov : Value} {avs : List Value} {wx w2 : World} (h : Wl wx) (hwk : Wk wx g s st tv ov avs []) (hk : Kp (fun k => Sg g tv ov k ∨ False) wx w2) : Wl w2 := by
  obtain ⟨m, hm⟩ := h.maxl
  have h0 : (0 : Nat) < wx.heap.size := World.block_lt_of_cell? wx _ hm
  have e := hk.block 0 h0 (by
    rintro ((h | h | h) | h)
    · subst h
      have := hwk.at_.cell 0 _ rfl
      rw [hm] at this
      cases this
    · have := (hwk.tk.lt _ h).1; omega
    · have := (hwk.op.lt _ h).1; omega
    · exact h)
  exact ⟨⟨m, (World.cell?_of_block (a := ⟨0, 0, none⟩) e).trans hm⟩⟩
theorem Loc.call {w wx w2 : World} {g : Nat} {s : ByteArray} {st : S} {tv0 ov0 tv ov : Value} {avs : List Value} (hg : g < w.heap.size) (h : Loc w g tv0 ov0 wx) (hwk : Wk wx g s st tv ov avs []) (hm1 : Mv w tv0 tv) (hm2 : Mv w ov0 ov)
    (hk : Kp (fun k => Sg g tv ov k ∨ False) wx w2) : Loc w g tv0 ov0 w2 := by
  have n0 : ¬ (Sg g tv ov w.heap.size ∨ False) := by
    rintro ((h' | h' | h') | h')
    · omega
    · exact h.t0.row hwk.tk (by decide) h'
    · exact h.t0.row hwk.op (by decide) h'
    · exact h'
  have n1 : ¬ (Sg g tv ov (w.heap.size + 1) ∨ False) := by
    rintro ((h' | h' | h') | h')
    · omega
    · exact h.t1.row hwk.tk (by decide) h'
    · exact h.t1.row hwk.op (by decide) h'
    · exact h'
  obtain ⟨x, y, z, f1⟩ := h.f1
  refine ⟨hk.at_ h.f0 n0, h.t0.kp hk n0, ⟨x, y, z, hk.at_ f1 n1⟩, h.t1.kp hk n1, h.kp.trans hk (fun j hj x => ?_), Wl.kp h.wl hwk hk⟩
  rcases x with x | x
  · rcases x with x | x | x
    · exact .inl (.inl x)
    · exact .inl (.inr (.inl (hm1.own hj x)))
    · exact .inl (.inr (.inr (hm2.own hj x)))
  · exact x.elim
theorem Wl.set {w : World} (h : Wl w) {b i : Nat} (hb : 0 < b) (v : Value) : Wl (w.setCell ⟨b, i, none⟩ v) := by
  obtain ⟨m, hm⟩ := h.maxl
  exact ⟨⟨m, by rw [World.cell?_setCell_other _ _ _ _ (by intro x; injection x with x _ _; omega)]; exact hm⟩⟩
/-- A store into the second fault. -/
theorem Loc.set3 {w wx : World} {g : Nat} {tv0 ov0 : Value} (h : Loc w g tv0 ov0 wx) (x y z : Value) : Loc w g tv0 ov0 (((wx.setCell ⟨w.heap.size + 1, 0, none⟩ x).setCell ⟨w.heap.size + 1, 1, none⟩ y).setCell ⟨w.heap.size + 1, 2, none⟩ z) := by
  obtain ⟨a, b, c, f1⟩ := h.f1
  exact ⟨((h.f0.set_other _ _ (Nat.succ_ne_self _)).set_other _ _ (Nat.succ_ne_self _)).set_other _ _ (Nat.succ_ne_self _), ((h.t0.set _ _).set _ _).set _ _, ⟨x, y, z, ((f1.set 0 x).set 1 y).set 2 z⟩, ((h.t1.set _ _).set _ _).set _ _,
    h.kp.set3 (Nat.le_succ _) _ _ _, Wl.set (Wl.set (Wl.set h.wl (Nat.succ_pos _) _) (Nat.succ_pos _) _) (Nat.succ_pos _) _⟩
/-- What a piece at k comes to. -/
def pcs (f : Nat) (l : Txt) (k : Nat) (st : S) : (Nat × Nat) ⊕ S :=
  match pieceEnd l with
  | none => .inl (k, 5)
  | some n => match piece (l.take n) k st with
    | .inl e => .inl (k, e)
    | .inr st2 => thr f (l.drop n) (k + n) st2
theorem between_size {pre : Txt} {p : Nat} {st st1 : S} (h : between pre p st = .inr st1) : (st1.toks = st.toks ∧ st1.opened = st.opened) ∨ (st1.toks.length = st.toks.length + 1 ∧ st1.opened = st.opened ∧ 0 < pre.length) := by
  unfold between at h
  split at h
  · split at h
    · injection h with h; rw [← h]; exact .inl ⟨rfl, rfl⟩
    · cases h
  · split at h
    · injection h with h; rw [← h]; exact .inl ⟨rfl, rfl⟩
    · rename_i hp
      split at h
      · cases h
      · injection h with h
        rw [← h]
        exact .inr ⟨by simp, rfl, List.length_pos_iff.2 hp⟩
theorem finish_size {t : Tag} {p : Nat} {st st2 : S} (h : finish t p st = .inr st2) : st2.toks.length = st.toks.length + 1 ∧ st2.opened.length ≤ st.opened.length := by
  unfold finish at h
  split at h
  · injection h with h
    rw [← h]
    simp
  · cases h
theorem piece_size {s : Txt} {p : Nat} {st st2 : S} (h : piece s p st = .inr st2) (ho : st.opened.length ≤ 32) : st2.toks.length ≤ st.toks.length + 2 ∧ st2.opened.length ≤ 32 := by
  unfold piece at h
  split at h
  · split at h
    · injection h with h; rw [← h]; exact ⟨by omega, ho⟩
    · cases h
  · split at h
    · split at h
      · cases h
      · injection h with h; rw [← h]; exact ⟨by omega, ho⟩
    · split at h
      · cases h
      · rename_i t _
        have key : ∀ st1 : S, (if t.opens = true then begin_ t p st else .inr st) = .inr st1 → st1.toks.length ≤ st.toks.length + 1 ∧ st1.opened.length ≤ 32 := by
          intro st1 h1
          split at h1
          · have := begin_size h1 ho
            exact ⟨by omega, this.2⟩
          · injection h1 with h1; rw [← h1]; exact ⟨by omega, ho⟩
        split at h
        · cases h
        · rename_i st1 h1
          obtain ⟨k1, k2⟩ := key st1 h1
          split at h
          · have := finish_size h
            exact ⟨by omega, by omega⟩
          · injection h with h; rw [← h]; exact ⟨by omega, k2⟩
theorem pieceEnd_two {l : Txt} {n : Nat} (h : pieceEnd l = some n) : 2 ≤ n ∧ (comm.isPrefixOf (l.take n) = true → 7 ≤ n) := by
  unfold pieceEnd at h
  split at h
  · cases e : idxOf (l.drop 4) commEnd with
    | none => rw [e] at h; cases h
    | some k => rw [e] at h; have h2 : 4 + k + 3 = n := Option.some.inj h; exact ⟨by omega, fun _ => by omega⟩
  · rename_i hc
    have hno : comm.isPrefixOf (l.take n) = true → 7 ≤ n := fun h => by
      exfalso
      exact hc (List.isPrefixOf_iff_prefix.2 ((List.isPrefixOf_iff_prefix.1 h).trans (List.take_prefix n l)))
    split at h
    · cases e : idxOf (l.drop 2) noteEnd with
      | none => rw [e] at h; cases h
      | some k => rw [e] at h; have h2 : 2 + k + 2 = n := Option.some.inj h; exact ⟨by omega, hno⟩
    · have := scan_le _ _ _ _ h
      exact ⟨by omega, hno⟩
theorem thr_step (f : Nat) (l : Txt) (k : Nat) (st : S) : thr (f + 1) l k st = match between (bef 60 l) k st with
    | .inl e => .inl e
    | .inr st1 => if aft 60 l = [] then (if st1.opened ≠ [] ∨ st1.rooted = false then .inl (k + (bef 60 l).length, 5) else .inr st1) else pcs f (aft 60 l) (k + (bef 60 l).length) st1 := by
  rw [thr]
  rfl
def J (w : World) (g : Nat) (s : ByteArray) (tv0 ov0 : Value) (X : (Nat × Nat) ⊕ S) (l : Nat) (a : Act) (wx : World) : Prop :=
  (a.defers = [] ∧ a.tmps.size = 76 ∧ a.tmps.getD 0 undef = .pointer (some ⟨g, 0, none⟩) ∧ a.tmps.getD 2 undef = .pointer (some ⟨w.heap.size, 0, none⟩) ∧ a.tmps.getD 3 undef = .pointer (some ⟨w.heap.size + 1, 0, none⟩)) ∧
  ∃ (at_ : Nat) (st : S) (f : Nat), at_ ≤ s.size ∧ a.tmps.getD 4 undef = .int .i64 (at_ : Int) ∧ Hid (At_ w g s tv0 ov0 at_ st wx) ∧
    ((l = 0 ∧ s.size - at_ < f ∧ Hid (thr f ((tl s).drop at_) at_ st = X)) ∨ (l = 1 ∧ at_ < s.size ∧ s.size - at_ ≤ f ∧ Hid (pcs f ((tl s).drop at_) at_ st = X)))
theorem frame_of (n : Nat) (a : Act) (hs : a.tmps.size = n) (hd : a.defers = []) : a = { tmps := ((List.range n).map fun i => a.tmps.getD i undef).toArray, defers := [] } := by
  obtain ⟨t, d⟩ := a
  simp only at hs hd
  subst hd
  congr 1
  apply Array.ext
  · simp [hs]
  · intro i h1 h2
    simp [h1]
set_option maxRecDepth 100000 in
theorem J_open {w : World} {g : Nat} {s : ByteArray} {tv0 ov0 : Value} {X : (Nat × Nat) ⊕ S} {l : Nat} {a : Act} {wx : World} (h : J w g s tv0 ov0 X l a wx) : ∃ (at_ : Nat) (st : S) (f : Nat) (u : Nat → Value), a = { tmps := #[.pointer (some ⟨g, 0, none⟩), u 1, .pointer (some ⟨w.heap.size, 0, none⟩), .pointer (some ⟨w.heap.size + 1, 0, none⟩), .int .i64 (at_ : Int), u 5, u 6, u 7, u 8, u 9, u 10, u 11, u 12, u 13, u 14, u 15, u 16, u 17, u 18, u 19, u 20, u 21, u 22, u 23, u 24, u 25, u 26, u 27, u 28, u 29, u 30, u 31, u 32, u 33, u 34, u 35, u 36, u 37, u 38, u 39, u 40, u 41, u 42, u 43, u 44, u 45, u 46, u 47, u 48, u 49, u 50, u 51, u 52, u 53, u 54, u 55, u 56, u 57, u 58, u 59, u 60, u 61, u 62, u 63, u 64, u 65, u 66, u 67, u 68, u 69, u 70, u 71, u 72, u 73, u 74, u 75], defers := [] } ∧ at_ ≤ s.size ∧ Hid (At_ w g s tv0 ov0 at_ st wx) ∧
    ((l = 0 ∧ s.size - at_ < f ∧ Hid (thr f ((tl s).drop at_) at_ st = X)) ∨ (l = 1 ∧ at_ < s.size ∧ s.size - at_ ≤ f ∧ Hid (pcs f ((tl s).drop at_) at_ st = X))) := by
  obtain ⟨⟨hd, hs, g0, g2, g3⟩, at_, st, f, hat, g4, hA, hc⟩ := h
  refine ⟨at_, st, f, fun i => a.tmps.getD i undef, ?_, hat, hA, hc⟩
  have e : a = { tmps := ([a.tmps.getD 0 undef, a.tmps.getD 1 undef, a.tmps.getD 2 undef, a.tmps.getD 3 undef, a.tmps.getD 4 undef, a.tmps.getD 5 undef, a.tmps.getD 6 undef, a.tmps.getD 7 undef, a.tmps.getD 8 undef, a.tmps.getD 9 undef, a.tmps.getD 10 undef, a.tmps.getD 11 undef, a.tmps.getD 12 undef, a.tmps.getD 13 undef, a.tmps.getD 14 undef, a.tmps.getD 15 undef, a.tmps.getD 16 undef, a.tmps.getD 17 undef, a.tmps.getD 18 undef, a.tmps.getD 19 undef, a.tmps.getD 20 undef, a.tmps.getD 21 undef, a.tmps.getD 22 undef, a.tmps.getD 23 undef, a.tmps.getD 24 undef, a.tmps.getD 25 undef, a.tmps.getD 26 undef, a.tmps.getD 27 undef, a.tmps.getD 28 undef, a.tmps.getD 29 undef, a.tmps.getD 30 undef, a.tmps.getD 31 undef, a.tmps.getD 32 undef, a.tmps.getD 33 undef, a.tmps.getD 34 undef, a.tmps.getD 35 undef, a.tmps.getD 36 undef, a.tmps.getD 37 undef, a.tmps.getD 38 undef, a.tmps.getD 39 undef, a.tmps.getD 40 undef, a.tmps.getD 41 undef, a.tmps.getD 42 undef, a.tmps.getD 43 undef, a.tmps.getD 44 undef, a.tmps.getD 45 undef, a.tmps.getD 46 undef, a.tmps.getD 47 undef, a.tmps.getD 48 undef, a.tmps.getD 49 undef, a.tmps.getD 50 undef, a.tmps.getD 51 undef, a.tmps.getD 52 undef, a.tmps.getD 53 undef, a.tmps.getD 54 undef, a.tmps.getD 55 undef, a.tmps.getD 56 undef, a.tmps.getD 57 undef, a.tmps.getD 58 undef, a.tmps.getD 59 undef, a.tmps.getD 60 undef, a.tmps.getD 61 undef, a.tmps.getD 62 undef, a.tmps.getD 63 undef, a.tmps.getD 64 undef, a.tmps.getD 65 undef, a.tmps.getD 66 undef, a.tmps.getD 67 undef, a.tmps.getD 68 undef, a.tmps.getD 69 undef, a.tmps.getD 70 undef, a.tmps.getD 71 undef, a.tmps.getD 72 undef, a.tmps.getD 73 undef, a.tmps.getD 74 undef, a.tmps.getD 75 undef]).toArray, defers := [] } := frame_of 76 a hs hd
  rw [g0, g2, g3, g4] at e
  exact e
def mu (s : ByteArray) (l : Nat) (a : Act) : Nat := 2 * (s.size - (intOf (a.tmps.getD 4 undef)).toNat) + (if l = 0 then 1 else 0)
end Mk
set_option maxHeartbeats 8000000 in
set_option maxRecDepth 1000000 in
theorem through_any (w : World) (g : Nat) (s : ByteArray) (tv ov : Value) (hs : s.size ≤ 10000000) (H : Mk.Wk w g s Mk.start tv ov [] []) (hW : Wl w) :
    Calls Tryd.prog 22 #[.pointer (some ⟨g, 0, none⟩)] w (Mk.FRet w g s tv ov (Mk.tokens (tl s))) := by
  obtain ⟨X, hX⟩ : ∃ X, Mk.tokens (tl s) = X := ⟨_, rfl⟩
  have HX0 : Hid (Mk.thr (s.size + 1) ((tl s).drop 0) 0 Mk.start = X) := by show _ = _; rw [← hX, ← tl_length]; rfl
  rw [hX]
  clear hX
  have hg : g < w.heap.size := H.at_.lt
  have HA0 : Hid (Mk.At_ w g s tv ov 0 Mk.start ((w.alloc (.cells #[.int .i64 0, .int .i64 0, .int .i64 0] 30)).alloc (.cells #[.int .i64 0, .int .i64 0, .int .i64 0] 30))) := by
    refine ⟨⟨tv, ov, [], (H.alloc _).alloc _, Mk.Mv.refl _ _, Mk.Mv.refl _ _⟩, ⟨(At.new w _ _).allocO _, (Mk.Ty.new w _).call (Mk.below_new _ _), ⟨.int .i64 0, .int .i64 0, .int .i64 0, ?_⟩, ?_, (Mk.kp_box _ _).alloc _, (hW.below (Mk.below_new _ _)).below (Mk.below_new _ _)⟩, Nat.zero_le _, Nat.zero_le _⟩
    · have h := At.new (w.alloc (.cells #[.int .i64 0, .int .i64 0, .int .i64 0] 30)) #[.int .i64 0, .int .i64 0, .int .i64 0] 30
      rw [World.size_alloc] at h
      exact h
    · have h := Mk.Ty.new (w.alloc (.cells #[.int .i64 0, .int .i64 0, .int .i64 0] 30)) #[.int .i64 0, .int .i64 0, .int .i64 0]
      rw [World.size_alloc] at h
      exact h
  clear H hW
  go_enter Tryd.func22, Tryd.ntmps22
  go_wp2
  refine wp_scope_labels3 (Mk.J w g s tv ov X) (fun l a _ => Mk.mu s l a) ?pass ?first
  case first =>
    intro hp
    go_wp2
    go_step3
    rename_i K hK
    refine hK _ _ ?_
    refine hp 0 _ _ _ rfl ⟨⟨rfl, rfl, rfl, rfl, rfl⟩, 0, Mk.start, s.size + 1, Nat.zero_le _, rfl, HA0.out, .inl ⟨rfl, by omega, HX0.out⟩⟩
  case pass =>
    clear HA0 HX0
    have HFt := Lib.hid (fun (c y : Int) W => fault_any c y W)
    intro l a wx hJ
    obtain ⟨at_, st, f, u, rfl, hat, HA, hc⟩ := Mk.J_open hJ
    clear hJ
    obtain ⟨tv1, ov1, avs, hwk, hm1, hm2⟩ := HA.out.wk
    have b0 := hwk.at_.cell 0 _ rfl
    have zg := hwk.at_.lt
    have p0 : (0 : Int) ≤ (at_ : Int) := by omega
    have p1 : (at_ : Int) ≤ (s.size : Int) := by omega
    have HLo := Lib.hid HA.out.loc
    have HNt := Lib.hid HA.out.nt
    have HNo := Lib.hid HA.out.no
    have HWk := Lib.hid hwk
    have HM1 := Lib.hid hm1
    have HM2 := Lib.hid hm2
    clear HA hwk hm1 hm2
    have hne : w.heap.size ≠ w.heap.size + 1 := by omega
    rcases hc with ⟨rfl, hf, HX⟩ | ⟨rfl, hlt, hf, HX⟩
    · obtain ⟨f, rfl⟩ : ∃ k, f = k + 1 := ⟨f - 1, by omega⟩
      have hX := HX.out
      rw [Mk.thr_step] at hX
      clear HX
      have hli : ((tl s).drop at_).length = s.size - at_ := by rw [List.length_drop, tl_length]
      have hbl := Mk.bef_len 60 ((tl s).drop at_)
      rw [hli] at hbl
      obtain ⟨e, he⟩ : ∃ e : Nat, at_ + (Mk.bef 60 ((tl s).drop at_)).length = e := ⟨_, rfl⟩
      have hae : at_ ≤ e := by omega
      have hes : e ≤ s.size := by omega
      have hpre : tl (s.extract at_ e) = Mk.bef 60 ((tl s).drop at_) := by rw [Mk.tl_mid, Mk.bef_take 60 ((tl s).drop at_)]; congr 1; omega
      have hB := between_any wx g s st tv1 ov1 avs at_ e hae hes (by omega) HWk.out ⟨by have := HNt.out; omega, HNo.out⟩
      rw [hpre] at hB
      have HB := Lib.hid hB
      have HI := Lib.hid (fun W => Mk.idx_any (s.extract at_ s.size) 60 W)
      rw [Mk.tl_from] at HI
      have HWhy : Hid (∀ x, Mk.between (Mk.bef 60 ((tl s).drop at_)) at_ st = .inl x → x.2 ≠ 0) := fun x hx => (Mk.between_why hx).1
      have HSz : Hid (∀ st1, Mk.between (Mk.bef 60 ((tl s).drop at_)) at_ st = .inr st1 → st1.toks.length ≤ 2 * e ∧ st1.opened.length ≤ 32) := fun st1 h1 => by
        have := Mk.between_size h1
        have h3 := HNt.out
        have h4 := HNo.out
        rcases this with ⟨h5, h6⟩ | ⟨h5, h6, h7⟩
        · rw [h5, h6]; exact ⟨by omega, h4⟩
        · rw [h6]; exact ⟨by omega, h4⟩
      by_cases ha : Mk.aft 60 ((tl s).drop at_) = []
      · have hes2 : e = s.size := by rw [ha, List.length_nil] at hbl; omega
        have HI2 : Hid (∀ W, Calls Tryd.prog 36 #[.string (s.extract at_ s.size), .int .u8 60] W fun e w' => e = .returned (.int .i64 (-1)) ∧ w' = W) := fun W => by
          have h := HI.out W
          rw [Mk.ib, if_pos ha] at h
          exact h
        rw [ha] at hX
        subst hes2
        have HXs := Lib.hid hX
        have HHe := Lib.hid he
        clear HI ha hX hbl hli hpre hB he
        refine ⟨_, rfl, ?_⟩
        go_wp2_with fail
        refine (HI2.out _).mono ?_
        rintro e1 w1 ⟨rfl, rfl⟩
        go_wp2_with fail
        refine HB.out.mono ?_
        intro e2 w2 hret
        cases hbt : Mk.between (Mk.bef 60 ((tl s).drop at_)) at_ st with
        | inl x =>
          obtain ⟨c, y⟩ := x
          rw [hbt] at hret
          obtain ⟨hK, rfl⟩ := hret
          have HL2 := Lib.hid (HLo.out.call hg HWk.out HM1.out HM2.out hK)
          have hy := HWhy.out _ hbt
          have hE := Mk.flt_some (c : Int) (y : Int) (by simpa using hy)
          have HE : Hid (X = .inl (c, y)) := by
            have h := HXs.out
            rw [hbt] at h
            exact h.symm
          clear hK hbt hy
          obtain ⟨x1, y1, z1, hf1⟩ := HL2.out.f1
          have zf1 := hf1.lt
          obtain ⟨k0, k1, k2, k3, k4, k5⟩ := hf1.three
          have zf0 := HL2.out.f0.lt
          obtain ⟨h0, h1, h2, h3, h4, h5⟩ := HL2.out.f0.three
          clear hf1
          go_wp2
          show bodyPost _ _ _ Exit.ret _ _
          refine bodyPost_ret (v := .agg #[.int .i64 0, .int .i64 (c : Int), .int .i64 (y : Int)]) (by simp [results, Tryd.results22, go_sem, *]) rfl ⟨(HL2.out.kp.set3 (Nat.le_succ _) _ _ _).set3 (Nat.le_refl _) _ _ _, by rw [HE.out]⟩
        | inr st1 =>
          rw [hbt] at hret
          obtain ⟨hK, rfl, tv2, ov2, avs2, hwk2, hm3, hm4⟩ := hret
          have HL2 := Lib.hid (HLo.out.call hg HWk.out HM1.out HM2.out hK)
          have hE := Mk.flt_zero
          have hsz := HSz.out _ hbt
          have hX2 := HXs.out
          rw [hbt] at hX2
          have HM3 := Lib.hid (HM1.out.trans hm3 HLo.out.kp.size)
          have HM4 := Lib.hid (HM2.out.trans hm4 HLo.out.kp.size)
          have HWk2 := Lib.hid hwk2
          have c0 := hwk2.at_.cell 0 _ rfl
          have c2 := hwk2.at_.cell 2 _ rfl
          have c3 := hwk2.at_.cell 3 _ rfl
          have zg2 := hwk2.at_.lt
          have hn1 : g ≠ w.heap.size + 1 := by omega
          have hn2 : g ≠ w.heap.size := by omega
          obtain ⟨oA, oc, rfl, _⟩ := own_slice hwk2.op
          have HSz2 := Lib.hid hsz
          clear hK hbt hm3 hm4 hwk2 hsz
          obtain ⟨x1, y1, z1, hf1⟩ := HL2.out.f1
          have zf1 := hf1.lt
          obtain ⟨k0, k1, k2, k3, k4, k5⟩ := hf1.three
          have zf0 := HL2.out.f0.lt
          obtain ⟨h0, h1, h2, h3, h4, h5⟩ := HL2.out.f0.three
          clear hf1
          have q9 : ¬ (s.size : Int) < (s.size : Int) := by omega
          obtain ⟨no, hno⟩ : ∃ n, st1.opened.length = n := ⟨_, rfl⟩
          have hop : st1.opened = [] ↔ no = 0 := by rw [← hno, List.length_eq_zero_iff]
          rw [hno] at c2
          obtain ⟨ro, hro⟩ : ∃ b, st1.rooted = b := ⟨_, rfl⟩
          rw [hro] at c3
          have hX3 : (if st1.opened ≠ [] ∨ st1.rooted = false then Sum.inl (s.size, 5) else Sum.inr st1) = X := by
            have h := hX2
            simp only [if_true] at h
            rw [HHe.out] at h
            exact h
          clear hX2
          by_cases hbad : st1.opened ≠ [] ∨ st1.rooted = false
          · have HE : Hid (X = .inl (s.size, 5)) := by show _ = _; rw [← hX3, if_pos hbad]
            rw [hro] at hbad
            have hway : ((0 : Int) < (no : Int)) ∨ (no = 0 ∧ ro = false) := by
              by_cases hz : no = 0
              · exact .inr ⟨hz, by rcases hbad with h | h; exact absurd (hop.2 hz) h; exact h⟩
              · exact .inl (by omega)
            clear hbad hX3 hop hno hro
            have HKe : Hid (Mk.Kp (fun k => Mk.Sg g tv ov k ∨ False) w (((w2.setCell ⟨w.heap.size + 1, 0, none⟩ (.int .i64 0)).setCell ⟨w.heap.size + 1, 1, none⟩ (.int .i64 0)).setCell ⟨w.heap.size + 1, 2, none⟩ (.int .i64 0))) := HL2.out.kp.set3 (Nat.le_succ _) _ _ _
            have HAe : Hid (At (((w2.setCell ⟨w.heap.size + 1, 0, none⟩ (.int .i64 0)).setCell ⟨w.heap.size + 1, 1, none⟩ (.int .i64 0)).setCell ⟨w.heap.size + 1, 2, none⟩ (.int .i64 0)) w.heap.size [.int .i64 0, .int .i64 0, .int .i64 0]) := (HL2.out.set3 _ _ _).f0
            rcases hway with q7 | ⟨rfl, rfl⟩
            all_goals
              go_wp2_with fail
              refine (HFt.out _ _ _).mono ?_
              rintro e3 w3 ⟨rfl, hb⟩
              have HK3 := Lib.hid (HKe.out.then_ hb)
              have HA3 := Lib.hid (HAe.out.call hb)
              clear hb
              have zf3 := HA3.out.lt
              obtain ⟨r0, r1, r2, r3, r4, r5⟩ := HA3.out.three
              go_wp2
              show bodyPost _ _ _ Exit.ret _ _
              refine bodyPost_ret (v := .agg #[.int .i64 0, .int .i64 (s.size : Int), .int .i64 5]) (by simp [results, Tryd.results22, go_sem, *]) rfl ⟨HK3.out.set3 (Nat.le_refl _) _ _ _, by rw [HE.out]; rfl⟩
          · have HE : Hid (X = .inr st1) := by show _ = _; rw [← hX3, if_neg hbad]
            have hz : no = 0 := by
              by_cases h : no = 0
              · exact h
              · exact absurd (.inl (fun e => h (hop.1 e))) hbad
            have hr : ro = true := by
              cases ro with
              | true => rfl
              | false => exact absurd (.inr hro) hbad
            subst hz hr
            clear hbad hX3 hop hno hro
            go_wp2
            show bodyPost _ _ _ Exit.ret _ _
            refine bodyPost_ret (v := .agg #[.int .i64 0, .int .i64 0, .int .i64 0]) (by simp [results, Tryd.results22, go_sem, *]) rfl ⟨(HL2.out.kp.set3 (Nat.le_succ _) _ _ _).set3 (Nat.le_refl _) _ _ _, by
              rw [HE.out]
              exact ⟨rfl, _, _, _, (HWk2.out.setF3 HL2.out.t1 (by omega) _ _ _).setF3 (((HL2.out.t0.set _ _).set _ _).set _ _) (by omega) _ _ _, HM3.out, HM4.out⟩⟩
      · have haf : Mk.aft 60 ((tl s).drop at_) = (tl s).drop e := by rw [Mk.aft_drop, List.drop_drop, he]
        have hal := List.length_pos_iff.2 ha
        have hlt : e < s.size := by omega
        obtain ⟨b, hb⟩ : ∃ b, (Mk.bef 60 ((tl s).drop at_)).length = b := ⟨_, rfl⟩
        rw [hb] at he
        have hw : IntKind.i64.wrap ((b : Int) + (at_ : Int)) = (e : Int) := by rw [IntKind.wrap_i64]; omega
        have n1 : ¬ (b : Int) < 0 := by omega
        have q9 : (e : Int) < (s.size : Int) := by omega
        have HI2 : Hid (∀ W, Calls Tryd.prog 36 #[.string (s.extract at_ s.size), .int .u8 60] W fun e w' => e = .returned (.int .i64 (b : Int)) ∧ w' = W) := fun W => by
          have h := HI.out W
          rw [Mk.ib, if_neg ha, hb] at h
          exact h
        have hX2 : (match Mk.between (Mk.bef 60 ((tl s).drop at_)) at_ st with
            | .inl e => .inl e
            | .inr st1 => Mk.pcs f ((tl s).drop e) e st1) = X := by
          rw [← hX]
          cases Mk.between (Mk.bef 60 ((tl s).drop at_)) at_ st with
          | inl x => rfl
          | inr st1 =>
            show Mk.pcs f ((tl s).drop e) e st1 = if Mk.aft 60 ((tl s).drop at_) = [] then _ else Mk.pcs f (Mk.aft 60 ((tl s).drop at_)) (at_ + (Mk.bef 60 ((tl s).drop at_)).length) st1
            rw [if_neg ha, haf, hb, he]
        have HXs := Lib.hid hX2
        have HMu : Hid (s.size - e ≤ f ∧ at_ ≤ e) := ⟨by omega, hae⟩
        clear HI ha hX hbl hli hpre hB hX2 haf hal hb he
        refine ⟨_, rfl, ?_⟩
        go_wp2_with fail
        refine (HI2.out _).mono ?_
        rintro e1 w1 ⟨rfl, rfl⟩
        go_wp2_with fail
        refine HB.out.mono ?_
        intro e2 w2 hret
        cases hbt : Mk.between (Mk.bef 60 ((tl s).drop at_)) at_ st with
        | inl x =>
          obtain ⟨c, y⟩ := x
          rw [hbt] at hret
          obtain ⟨hK, rfl⟩ := hret
          have HL2 := Lib.hid (HLo.out.call hg HWk.out HM1.out HM2.out hK)
          have hy := HWhy.out _ hbt
          have hE := Mk.flt_some (c : Int) (y : Int) (by simpa using hy)
          have HE : Hid (X = .inl (c, y)) := by
            have h := HXs.out
            rw [hbt] at h
            exact h.symm
          clear hK hbt hy
          obtain ⟨x1, y1, z1, hf1⟩ := HL2.out.f1
          have zf1 := hf1.lt
          obtain ⟨k0, k1, k2, k3, k4, k5⟩ := hf1.three
          have zf0 := HL2.out.f0.lt
          obtain ⟨h0, h1, h2, h3, h4, h5⟩ := HL2.out.f0.three
          clear hf1
          go_wp2
          show bodyPost _ _ _ Exit.ret _ _
          refine bodyPost_ret (v := .agg #[.int .i64 0, .int .i64 (c : Int), .int .i64 (y : Int)]) (by simp [results, Tryd.results22, go_sem, *]) rfl ⟨(HL2.out.kp.set3 (Nat.le_succ _) _ _ _).set3 (Nat.le_refl _) _ _ _, by rw [HE.out]⟩
        | inr st1 =>
          rw [hbt] at hret
          obtain ⟨hK, rfl, tv2, ov2, avs2, hwk2, hm3, hm4⟩ := hret
          have HL2 := Lib.hid (HLo.out.call hg HWk.out HM1.out HM2.out hK)
          have hE := Mk.flt_zero
          have hsz := HSz.out _ hbt
          have hX2 := HXs.out
          rw [hbt] at hX2
          have HM3 := Lib.hid (HM1.out.trans hm3 HLo.out.kp.size)
          have HM4 := Lib.hid (HM2.out.trans hm4 HLo.out.kp.size)
          have HWk2 := Lib.hid hwk2
          have c0 := hwk2.at_.cell 0 _ rfl
          have c2 := hwk2.at_.cell 2 _ rfl
          have c3 := hwk2.at_.cell 3 _ rfl
          have zg2 := hwk2.at_.lt
          have hn1 : g ≠ w.heap.size + 1 := by omega
          have hn2 : g ≠ w.heap.size := by omega
          obtain ⟨oA, oc, rfl, _⟩ := own_slice hwk2.op
          have HSz2 := Lib.hid hsz
          clear hK hbt hm3 hm4 hwk2 hsz
          obtain ⟨x1, y1, z1, hf1⟩ := HL2.out.f1
          have zf1 := hf1.lt
          obtain ⟨k0, k1, k2, k3, k4, k5⟩ := hf1.three
          have zf0 := HL2.out.f0.lt
          obtain ⟨h0, h1, h2, h3, h4, h5⟩ := HL2.out.f0.three
          clear hf1
          have HS : Hid (Mk.At_ w g s tv ov e st1 (((w2.setCell ⟨w.heap.size + 1, 0, none⟩ (.int .i64 0)).setCell ⟨w.heap.size + 1, 1, none⟩ (.int .i64 0)).setCell ⟨w.heap.size + 1, 2, none⟩ (.int .i64 0))) :=
            ⟨⟨_, _, _, HWk2.out.setF3 HL2.out.t1 (by omega) _ _ _, HM3.out, HM4.out⟩, HL2.out.set3 _ _ _, HSz2.out.1, HSz2.out.2⟩
          have HX3 := Lib.hid hX2
          clear hX2
          go_wp2
          go_step3
          refine ⟨⟨⟨rfl, rfl, rfl, rfl, rfl⟩, e, st1, f, hes, rfl, HS.out, .inr ⟨rfl, hlt, HMu.out.1, HX3.out⟩⟩, ?_⟩
          have := HMu.out.2
          first | (simp [Mk.mu, intOf]; done) | (simp [Mk.mu, intOf]; omega)
    · have hX := HX.out
      clear HX
      have HPE := Lib.hid (fun W hw => pieceEnd_any s at_ hlt (by omega) W hw)
      have n5 : ((5 : Int) == 0) = false := by decide
      cases hpe : Mk.pieceEnd ((tl s).drop at_) with
      | none =>
        rw [hpe] at HPE
        have HE : Hid (X = .inl (at_, 5)) := by show _ = _; rw [← hX]; unfold Mk.pcs; rw [hpe]
        have HPE2 : Hid (∀ W, Wl W → Calls Tryd.prog 38 #[.string s, .int .i64 (at_ : Int)] W fun e w' => e = .returned (.int .i64 (-1)) ∧ w' = W) := fun W hw => HPE.out W hw
        clear hX hpe HPE
        refine ⟨_, rfl, ?_⟩
        go_wp2_with fail
        refine (HPE2.out _ HLo.out.wl).mono ?_
        rintro e1 w1 ⟨rfl, rfl⟩
        go_wp2_with fail
        refine (HFt.out _ _ _).mono ?_
        rintro e3 w3 ⟨rfl, hb⟩
        have HK3 := Lib.hid (HLo.out.kp.then_ hb)
        have HA3 := Lib.hid (HLo.out.f0.call hb)
        clear hb
        have zf3 := HA3.out.lt
        obtain ⟨r0, r1, r2, r3, r4, r5⟩ := HA3.out.three
        go_wp2
        show bodyPost _ _ _ Exit.ret _ _
        refine bodyPost_ret (v := .agg #[.int .i64 0, .int .i64 (at_ : Int), .int .i64 5]) (by simp [results, Tryd.results22, go_sem, *]) rfl ⟨HK3.out.set3 (Nat.le_refl _) _ _ _, by rw [HE.out]; rfl⟩
      | some n =>
        rw [hpe] at HPE
        have hle := Mk.pieceEnd_le hpe (by
          intro e
          have h := congrArg List.length e
          rw [List.length_drop, tl_length, List.length_nil] at h
          omega)
        rw [List.length_drop, tl_length] at hle
        have htw := Mk.pieceEnd_two hpe
        obtain ⟨e, he⟩ : ∃ e, at_ + n = e := ⟨_, rfl⟩
        have hes : e ≤ s.size := by omega
        have hae : at_ < e := by omega
        have hpre : tl (s.extract at_ e) = ((tl s).drop at_).take n := by rw [Mk.tl_mid]; congr 1; omega
        have n1 : ¬ (e : Int) < 0 := by omega
        have HPE2 : Hid (∀ W, Wl W → Calls Tryd.prog 38 #[.string s, .int .i64 (at_ : Int)] W fun e' w' => e' = .returned (.int .i64 (e : Int)) ∧ w' = W) := fun W hw => by
          rw [← he]
          exact HPE.out W hw
        have hP := piece_any wx g s st tv1 ov1 avs at_ e (by omega) hes (by omega) HWk.out (by have := HNt.out; omega) HNo.out HLo.out.wl (by omega) (fun h => by rw [hpre] at h; have := htw.2 h; omega)
        rw [hpre] at hP
        have HP := Lib.hid hP
        have hX2 : (match Mk.piece (((tl s).drop at_).take n) at_ st with
            | .inl k => .inl (at_, k)
            | .inr st2 => Mk.thr f ((tl s).drop e) e st2) = X := by
          rw [← hX]
          unfold Mk.pcs
          rw [hpe]
          show _ = (match Mk.piece (((tl s).drop at_).take n) at_ st with
            | .inl k => Sum.inl (at_, k)
            | .inr st2 => Mk.thr f (((tl s).drop at_).drop n) (at_ + n) st2)
          rw [List.drop_drop, he]
        have HWhy : Hid (∀ k, Mk.piece (((tl s).drop at_).take n) at_ st = .inl k → k ≠ 0) := fun k hk => Mk.piece_why hk
        have HSz : Hid (∀ st1, Mk.piece (((tl s).drop at_).take n) at_ st = .inr st1 → st1.toks.length ≤ 2 * e ∧ st1.opened.length ≤ 32) := fun st1 h1 => by
          have := Mk.piece_size h1 HNo.out
          have h3 := HNt.out
          exact ⟨by omega, this.2⟩
        have HXs := Lib.hid hX2
        have HMu : Hid (s.size - e < f ∧ at_ < e) := ⟨by omega, hae⟩
        clear HPE hX hle htw hpre hP hX2 he hpe
        refine ⟨_, rfl, ?_⟩
        go_wp2_with fail
        refine (HPE2.out _ HLo.out.wl).mono ?_
        rintro e1 w1 ⟨rfl, rfl⟩
        go_wp2_with fail
        refine HP.out.mono ?_
        intro e2 w2 hret
        cases hbt : Mk.piece (((tl s).drop at_).take n) at_ st with
        | inl k =>
          rw [hbt] at hret
          obtain ⟨hK, rfl⟩ := hret
          have HL2 := Lib.hid (HLo.out.call hg HWk.out HM1.out HM2.out hK)
          have hk0 := HWhy.out _ hbt
          have q6 : ((k : Int) == 0) = false := by rw [beq_eq_false_iff_ne]; omega
          have HE : Hid (X = .inl (at_, k)) := by
            have h := HXs.out
            rw [hbt] at h
            exact h.symm
          clear hK hbt hk0
          go_wp2_with fail
          refine (HFt.out _ _ _).mono ?_
          rintro e3 w3 ⟨rfl, hb⟩
          have HK3 := Lib.hid (HL2.out.kp.then_ hb)
          have HA3 := Lib.hid (HL2.out.f0.call hb)
          clear hb
          have zf3 := HA3.out.lt
          obtain ⟨r0, r1, r2, r3, r4, r5⟩ := HA3.out.three
          go_wp2
          show bodyPost _ _ _ Exit.ret _ _
          refine bodyPost_ret (v := .agg #[.int .i64 0, .int .i64 (at_ : Int), .int .i64 (k : Int)]) (by simp [results, Tryd.results22, go_sem, *]) rfl ⟨HK3.out.set3 (Nat.le_refl _) _ _ _, by rw [HE.out]⟩
        | inr st1 =>
          rw [hbt] at hret
          obtain ⟨hK, rfl, tv2, ov2, avs2, hwk2, hm3, hm4⟩ := hret
          have hsz := HSz.out _ hbt
          have HS : Hid (Mk.At_ w g s tv ov e st1 w2) :=
            ⟨⟨_, _, _, hwk2, HM1.out.trans hm3 HLo.out.kp.size, HM2.out.trans hm4 HLo.out.kp.size⟩, HLo.out.call hg HWk.out HM1.out HM2.out hK, hsz.1, hsz.2⟩
          have hX3 := HXs.out
          rw [hbt] at hX3
          have HX3 := Lib.hid hX3
          clear hK hbt hm3 hm4 hwk2 hsz hX3
          go_wp2
          go_step3
          refine ⟨⟨⟨rfl, rfl, rfl, rfl, rfl⟩, e, st1, f, hes, rfl, HS.out, .inl ⟨rfl, HMu.out.1, HX3.out⟩⟩, ?_⟩
          have := HMu.out.2
          first | (simp [Mk.mu, intOf]; done) | (simp [Mk.mu, intOf]; omega)
end Go.Proofs.YthmhadgbhakdlaaDoor

/- utf.Check, with the place that it tells. -/
namespace Go.Proofs.YthmhadgbhakdlaaDoor
open Go.RowKit

set_option maxHeartbeats 2000000 in
set_option maxRecDepth 100000 in
theorem utfPlace_any (s : ByteArray) (hs : s.size ≤ maxLen) (w : World) :
    Calls Tryd.prog 15 #[.string s] w fun e w' => (∃ i : Nat, i ≤ s.size ∧ e = .returned (.tuple #[.int .i64 (i : Int), .int .i64 (if Te.right s then 0 else 11)])) ∧ Below w.heap.size w w' := by
  unfold maxLen at hs
  have HP := Lib.hid (fun (pos : Nat) W => Tryd.strings_HasPrefix (s.extract pos s.size) ⟨#[239, 191, 189]⟩ W)
  have hmax : IntKind.i64.wrap (s.size : Int) = s.size := by rw [IntKind.wrap_i64]; omega
  obtain ⟨v, hv⟩ : ∃ v : Int, (if Te.right s then (0 : Int) else 11) = v := ⟨_, rfl⟩
  rw [hv]
  have HT : Hid (Te.right s = true → v = 0) := fun h => by rw [← hv, if_pos h]
  have HF : Hid (Te.right s = false → v = 11) := fun h => by rw [← hv, if_neg (by rw [h]; decide)]
  clear hv
  go_enter Tryd.func15, Tryd.ntmps15
  go_wp2
  go_loopw [8] (fun _ wr => ∃ (pos f : Nat), wr = w.iter s pos ∧ s.size ≤ pos + f ∧ Hid (Te.rightFrom s f pos = Te.right s)) (fun _ wr => s.size - wr.iterPos w.heap.size)
  case atStart => exact ⟨0, s.size, rfl, by omega, rfl⟩
  case round =>
    obtain ⟨pos, f, rfl, hf, HR⟩ := hrel
    by_cases hp : pos < s.size
    · have hnx : ∀ ty, (Instr.next (.pointer (some ⟨w.heap.size, 0, none⟩)) true ty).run Tryd.prog (w.iter s pos) = _ := fun ty => run_next_any w s pos ty hp
      have hw := Te.width_pos s pos hp
      obtain ⟨f, rfl⟩ : ∃ g, f = g + 1 := ⟨f - 1, by omega⟩
      have HB : Hid (Te.bad s pos = true → Te.right s = false) := fun hb => by
        rw [← HR.out, Te.rightFrom, if_pos hp, hb]; rfl
      have HG : Hid (Te.bad s pos = false → Te.rightFrom s f (pos + (Utf8.decode s pos).2) = Te.right s) := fun hb => by
        rw [← HR.out, Te.rightFrom, if_pos hp, hb]; rfl
      have HU : Hid (Te.bad s pos = (decide ((Utf8.decode s pos).1 = 65533) && !(Lib.hasPrefix (s.extract pos s.size).data.toList [239, 191, 189]))) := by
        show Te.bad s pos = _
        unfold Te.bad Te.wrongL tl
        rw [Lib.extract_data, List.take_of_length_le (by rw [List.length_drop]; rw [← Lib.size_eq]; exact Nat.le_refl _)]
        rfl
      clear HR
      obtain ⟨c, hc⟩ : ∃ c, (Utf8.decode s pos).1 = c := ⟨_, rfl⟩
      obtain ⟨n, hn⟩ : ∃ n, (Utf8.decode s pos).2 = n := ⟨_, rfl⟩
      rw [hc] at HU hnx
      rw [hn] at HG hnx hw
      clear hc hn
      have c1 : (0 : Int) ≤ (pos : Int) := by omega
      have c2 : (pos : Int) ≤ (s.size : Int) := by omega
      by_cases hce : c = 65533
      · subst hce
        obtain ⟨b, hb⟩ : ∃ b, Lib.hasPrefix (s.extract pos s.size).data.toList [239, 191, 189] = b := ⟨_, rfl⟩
        rw [hb] at HU
        have HP1 : Hid (∀ W, Calls Tryd.prog 30 #[.string (s.extract pos s.size), .string ⟨#[239, 191, 189]⟩] W fun e w' => e = .returned (.bool b) ∧ w' = W) := fun W => by
          have h := HP.out pos W
          rw [hb] at h
          exact h
        clear hb
        cases b with
        | false =>
          have HE := Lib.hid (HF.out (HB.out (by rw [HU.out]; rfl)))
          clear HU HB HG
          go_wp2_with (refine (HP1.out _).mono ?_; rintro e w' ⟨rfl, rfl⟩)
          go_ret2
          exact ⟨⟨pos, by omega, by rw [HE.out]; rfl⟩, iter_below s _⟩
        | true =>
          have HE := Lib.hid (HG.out (by rw [HU.out]; rfl))
          clear HU HB HG
          go_wp2_with (refine (HP1.out _).mono ?_; rintro e w' ⟨rfl, rfl⟩)
          go_wp2
          go_roundw
          case rel => exact ⟨pos + n, f, rfl, by omega, HE⟩
          case measure => simp only [World.iterPos_iter]; omega
      · have qc : ((c : Int) == 65533) = false := by rw [beq_eq_false_iff_ne]; omega
        have qd : ¬ (c : Int) = 65533 := by omega
        have HE := Lib.hid (HG.out (by rw [HU.out, decide_eq_false hce]; rfl))
        clear HU HB HG
        go_wp2
        go_roundw
        case rel => exact ⟨pos + n, f, rfl, by omega, HE⟩
        case measure => simp only [World.iterPos_iter]; omega
    · have hnx : ∀ ty, (Instr.next (.pointer (some ⟨w.heap.size, 0, none⟩)) true ty).run Tryd.prog (w.iter s pos) = _ := fun ty => run_next_end w s pos ty hp
      have HE : Hid (v = 0) := HT.out (by
        rw [← HR.out]
        exact Te.rightFrom_end s f pos hp)
      go_wp2
      go_ret2
      exact ⟨⟨0, Nat.zero_le _, by rw [HE.out]; rfl⟩, iter_below s pos⟩
end Go.Proofs.YthmhadgbhakdlaaDoor
