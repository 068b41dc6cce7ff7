/- intake: (*reader).take of each part's line; whole of each part's lines. -/
import Derived.Test.YthmhadgbhakdlaaGreatDoorK11
import Derived.Test.YthmhadgbhakdlaaGreatDoorK12
import Derived.Test.YthmhadgbhakdlaaGreatDoorK06
import Derived.Lib.SplitLaws
import Derived.Lib.Join

namespace Go.Proofs.YthmhadgbhakdlaaGreatDoor
open Go.RowKit

namespace Ink
open Em
theorem mem_drop {p : UInt8 → Bool} : ∀ (l : Txt) {c : UInt8}, c ∈ l → p c = false → c ∈ l.dropWhile p
  | a :: l, c, h, hc => by
    rw [List.dropWhile_cons]
    split
    · rename_i ha
      rcases List.mem_cons.1 h with rfl | h
      · rw [hc] at ha; cases ha
      · exact mem_drop l h hc
    · exact h
theorem trim_some {l cs : Txt} {c : UInt8} (h : c ∈ l) (hc : cs.contains c = false) : Lib.trimS l cs ≠ [] := by
  have h1 : c ∈ Lib.trimRightS l cs := by
    unfold Lib.trimRightS
    exact List.mem_reverse.2 (mem_drop _ (List.mem_reverse.2 h) hc)
  have h2 : c ∈ Lib.trimS l cs := mem_drop _ h1 hc
  intro e
  rw [e] at h2
  cases h2
/-- The line of a part, put together to one. -/
def wl : It → ByteArray
  | .blank => ⟨#[]⟩
  | .path p => pline p
  | .val v => bts (vlineM false v)
/-- What a reader holds behind some parts. -/
def St (w : World) (b pm : Nat) (st : List Hv.K) : Prop :=
  ∃ np nmv kv evs, Rd w b pm np (Hv.paths st) nmv st kv evs ∧ np ≤ st.length ∧
    ∀ st0 k, st = st0 ++ [k] → ∃ nm nn, nmv = .map (some nm) ∧ nm ≠ pm ∧ b < nm ∧ nn ≤ k.vals.length ∧ MapF Tryz.prog 9 w nm nn (Hv.sf (Hv.names k.vals))
theorem St.call {w w' : World} {b pm : Nat} {st : List Hv.K} (h : St w b pm st) (hb : Below w.heap.size w w') : St w' b pm st := by
  obtain ⟨np, nmv, kv, evs, h1, h2, h3⟩ := h
  refine ⟨np, nmv, kv, evs, h1.call hb, h2, fun st0 k e => ?_⟩
  obtain ⟨nm, nn, e1, e2, e3, e4, e5⟩ := h3 st0 k e
  exact ⟨nm, nn, e1, e2, e3, e4, e5.below hb⟩
def TRet (b pm : Nat) (st : List Hv.K) (it : It) (w : World) (e : Ending) (w' : World) : Prop :=
  match step st it with
  | .inl c => e = .returned (.tuple #[.int .i64 0, .int .i64 c]) ∧ Below (b - 1) w w'
  | .inr st' => e = .returned (.tuple #[.int .i64 0, .int .i64 0]) ∧ St w' b pm st' ∧ Below (b - 1) w w'
def Gd1 (st : List Hv.K) : It → Prop
  | .blank => True
  | .path p => p.size ≤ 100000 ∧ st.length < 4096
  | .val v => Hv.valB v = true ∧ v.Ok ∧ ∃ st', step st (.val v) = .inr st'
theorem snoc_of {α : Type} {l : List α} {n : Nat} (h : l.length = n + 1) : ∃ l0 x, l = l0 ++ [x] ∧ l0.length = n := by
  have hne : l ≠ [] := by intro e; rw [e] at h; simp at h
  refine ⟨l.dropLast, l.getLast hne, (List.dropLast_concat_getLast hne).symm, ?_⟩
  rw [List.length_dropLast, h]
  rfl
theorem step_val {st st' : List Hv.K} {v : Hv.V} (h : step st (.val v) = .inr st') : ∃ st0 k, st = st0 ++ [k] ∧ Hv.has (Hv.names k.vals) v.name = false ∧ k.vals.length < 512 ∧ st' = st0 ++ [⟨k.path, k.vals ++ [v]⟩] := by
  unfold step at h
  cases hl : st.getLast? with
  | none => rw [hl] at h; cases h
  | some k =>
    rw [hl] at h
    simp only at h
    split at h
    · cases h
    · rename_i h1
      split at h
      · cases h
      · rename_i h2
        have hst : st = st.dropLast ++ [k] := by
          have hne : st ≠ [] := by intro e; rw [e] at hl; cases hl
          have : st.getLast hne = k := by rw [List.getLast?_eq_some_getLast hne] at hl; exact Option.some.inj hl
          rw [← this, List.dropLast_concat_getLast]
        exact ⟨st.dropLast, k, hst, by simpa using h1, by omega, (Sum.inr.inj h).symm⟩
end Ink
theorem trim_any (s : ByteArray) (hs : s.size ≤ 1000000000) (w : World) :
    Calls Tryz.prog 100 #[.string s, .string ⟨#[32, 9]⟩] w fun e w' => e = .returned (.string (Em.bts (Lib.trimS (tl s) [32, 9]))) ∧ Below w.heap.size w w' :=
  Any.strings_Trim_laid Tryz.lays160 (by kernel_rfl) s ⟨#[32, 9]⟩ w (by omega) (by decide) (fun j b hb => by
    have : b = 32 ∨ b = 9 := by
      have := List.mem_of_getElem? hb
      simpa using this
    rcases this with rfl | rfl <;> decide)
set_option maxHeartbeats 4000000 in
set_option maxRecDepth 100000 in
theorem take_blank (b : Nat) (w : World) : Calls Tryz.prog 50 #[.pointer (some ⟨b, 0, none⟩), .string ⟨#[]⟩] w fun e w' => e = .returned (.tuple #[.int .i64 0, .int .i64 0]) ∧ Below w.heap.size w w' := by
  have HT : Hid (Calls Tryz.prog 100 #[.string ⟨#[]⟩, .string ⟨#[32, 9]⟩] w fun e w' => e = .returned (.string ⟨#[]⟩) ∧ Below w.heap.size w w') := trim_any ⟨#[]⟩ (by decide) w
  go_enter Tryz.func50, Tryz.ntmps50
  go_wp2_with fail
  refine HT.out.mono ?_
  rintro e w1 ⟨rfl, hb⟩
  have HB := Lib.hid hb
  clear hb
  go_wp2
  go_ret2
  exact ⟨rfl, HB.out⟩
set_option maxHeartbeats 4000000 in
set_option maxRecDepth 100000 in
theorem take_path (b : Nat) (p : ByteArray) (hp : p.size ≤ 100000) (w : World) (Q : Int → World → World → Prop) (hQ : ∀ W, Below w.heap.size w W → Calls Tryz.prog 101 #[.pointer (some ⟨b, 0, none⟩), .string (Ink.pline p)] W fun e w' => ∃ c : Int, e = .returned (.int .i64 c) ∧ Q c W w') :
    Calls Tryz.prog 50 #[.pointer (some ⟨b, 0, none⟩), .string (Ink.pline p)] w fun e w' => ∃ (c : Int) (W : World), e = .returned (.tuple #[.int .i64 0, .int .i64 c]) ∧ Below w.heap.size w W ∧ Q c W w' := by
  obtain ⟨S, hS⟩ : ∃ S, Ink.pline p = S := ⟨_, rfl⟩
  have hsz : S.size = p.size + 2 := by rw [← hS]; exact Ink.pline_size p
  have h0 : 0 < S.size := by omega
  have hts : tl S = 91 :: (tl p ++ [93]) := by
    rw [← hS]
    unfold Ink.pline
    rw [Em.tl_bts]
  have hfst : S[0] = 91 := by
    have h1 := Em.byte_at S 0 h0 _ rfl
    rw [hts] at h1
    exact (Option.some.inj h1).symm
  have hne : Lib.trimS (tl S) [32, 9] ≠ [] := by
    refine Ink.trim_some (c := 91) ?_ (by decide)
    rw [← hS]
    unfold Ink.pline
    rw [Em.tl_bts]
    exact List.mem_cons_self
  obtain ⟨T, hT⟩ : ∃ T, Em.bts (Lib.trimS (tl S) [32, 9]) = T := ⟨_, rfl⟩
  have hemp : T.toList.isEmpty = false := Hv.emp_no (by rw [← hT, Em.bts_size]; intro e; exact hne (List.eq_nil_of_length_eq_zero e))
  have HT := Lib.hid (trim_any S (by omega) w)
  rw [hT] at HT
  rw [hS] at hQ ⊢
  have HQ := Lib.hid hQ
  have q1 : (0 : Int) < (S.size : Int) := by omega
  clear hS hsz hne hT hQ hts
  go_enter Tryz.func50, Tryz.ntmps50
  go_wp2_with fail
  refine HT.out.mono ?_
  rintro e w1 ⟨rfl, hb⟩
  have HB := Lib.hid hb
  clear hb
  go_wp2_with fail
  refine (HQ.out _ HB.out).mono ?_
  rintro e w2 ⟨c, rfl, hq⟩
  have HX := Lib.hid hq
  clear hq
  go_wp2
  go_ret2
  exact ⟨c, w1, rfl, HB.out, HX.out⟩
set_option maxHeartbeats 4000000 in
set_option maxRecDepth 100000 in
theorem take_val (b : Nat) (v : Hv.V) (hv : Hv.valB v = true) (w : World) (Q : World → World → Prop) (hQ : ∀ W, Below w.heap.size w W → Calls Tryz.prog 102 #[.pointer (some ⟨b, 0, none⟩), .string (Em.bts (Ink.vlineM false v))] W fun e w' => e = .returned (.tuple #[.int .i64 0, .int .i64 0]) ∧ Q W w') :
    Calls Tryz.prog 50 #[.pointer (some ⟨b, 0, none⟩), .string (Em.bts (Ink.vlineM false v))] w fun e w' => ∃ W : World, e = .returned (.tuple #[.int .i64 0, .int .i64 0]) ∧ Below w.heap.size w W ∧ Q W w' := by
  have hrest := Ink.restM_len false hv
  have hnl := (Em.val_small hv).1
  have hql := Em.quote_len (tl v.name)
  rw [tl_length] at hql
  have hcons : ∃ r, Ink.vlineM false v = 34 :: r := ⟨_, by rw [Ink.vlineM_rest]; rfl⟩
  have hlen : (Ink.vlineM false v).length ≤ 200000 := by
    rw [Ink.vlineM_rest, List.length_append, List.length_cons]
    omega
  obtain ⟨r, hr⟩ := hcons
  obtain ⟨S, hS⟩ : ∃ S, Em.bts (Ink.vlineM false v) = S := ⟨_, rfl⟩
  have hts : tl S = 34 :: r := by rw [← hS, Em.tl_bts, hr]
  have hsz : S.size ≤ 200000 := by rw [← hS, Em.bts_size]; exact hlen
  have h0 : 0 < S.size := by rw [← tl_length, hts]; exact Nat.succ_pos _
  have hfst : S[0] = 34 := by
    have h1 := Em.byte_at S 0 h0 _ rfl
    rw [hts] at h1
    exact (Option.some.inj h1).symm
  have hne : Lib.trimS (tl S) [32, 9] ≠ [] := by
    refine Ink.trim_some (c := 34) ?_ (by decide)
    rw [hts]
    exact List.mem_cons_self
  obtain ⟨T, hT⟩ : ∃ T, Em.bts (Lib.trimS (tl S) [32, 9]) = T := ⟨_, rfl⟩
  have hemp : T.toList.isEmpty = false := Hv.emp_no (by rw [← hT, Em.bts_size]; intro e; exact hne (List.eq_nil_of_length_eq_zero e))
  have HT := Lib.hid (trim_any S (by omega) w)
  rw [hT] at HT
  rw [hS] at hQ ⊢
  have HQ := Lib.hid hQ
  have q1 : (0 : Int) < (S.size : Int) := by omega
  clear hS hsz hne hT hQ hts hr hlen hql hnl hrest
  go_enter Tryz.func50, Tryz.ntmps50
  go_wp2_with fail
  refine HT.out.mono ?_
  rintro e w1 ⟨rfl, hb⟩
  have HB := Lib.hid hb
  clear hb
  go_wp2_with fail
  refine (HQ.out _ HB.out).mono ?_
  rintro e w2 ⟨rfl, hq⟩
  have HX := Lib.hid hq
  clear hq
  go_wp2
  go_ret2
  exact ⟨w1, rfl, HB.out, HX.out⟩
end Go.Proofs.YthmhadgbhakdlaaGreatDoor

/- intake: each part's lines are put together, and taken. -/
namespace Go.Proofs.YthmhadgbhakdlaaGreatDoor
open Go.RowKit

namespace Ink
open Em
theorem vlineM_false (v : Hv.V) : vlineM false v = vline v := by
  unfold vlineM vline
  rw [hexsM_false]
theorem sizes_of {st : List Hv.K} {kv : Value} {xs : List Value} {w : World} {B : Nat} {st0 : List Hv.K} {k : Hv.K} (h : w.ownsRow B 64 2 kv st.length xs) (he : st = st0 ++ [k]) : ∃ gk ck, kv = .slice (some ⟨gk, 0, none⟩) (st0.length + 1) ck := by
  subst he
  rw [List.length_append, List.length_singleton] at h
  obtain ⟨g, cap, e, _⟩ := h.form (Nat.succ_pos _)
  exact ⟨g, cap, e⟩
end Ink
theorem take_any (w : World) (b pm : Nat) (st : List Hv.K) (it : Ink.It) (hg : Ink.Gd1 st it) (hS : Ink.St w b pm st) (hst : st.length ≤ 4096) (hW : Wl w) :
    Calls Tryz.prog 50 #[.pointer (some ⟨b, 0, none⟩), .string (Ink.wl it)] w (Ink.TRet b pm st it w) := by
  have hbl : b < w.heap.size := by
    obtain ⟨_, _, _, _, h, _⟩ := hS
    exact h.lt
  cases it with
  | blank =>
    refine (take_blank b w).mono ?_
    rintro e w' ⟨rfl, hb⟩
    exact ⟨rfl, hS.call hb, hb.mono (by omega)⟩
  | path p =>
    obtain ⟨hp, hn⟩ := hg
    by_cases h1 : Hv.path p = true
    · by_cases h2 : Hv.has (Hv.paths st) p = true
      · have hs : Ink.step st (.path p) = .inl 8 := by unfold Ink.step; simp only; rw [if_pos h1, if_pos h2]
        refine (take_path b p hp w (fun c W w' => c = 8 ∧ Below W.heap.size W w') fun W hW2 => ?_).mono ?_
        · obtain ⟨np, nmv, kv, evs, hR, _⟩ := hS.call hW2
          exact (inPath_twice p hp h1 h2 hR (hW.below hW2)).mono fun e w' h => ⟨8, h.1, rfl, h.2⟩
        · rintro e w' ⟨c, W, rfl, hb, rfl, hb2⟩
          unfold Ink.TRet
          rw [hs]
          exact ⟨rfl, (below_then hb hb2).mono (by omega)⟩
      · have h2' : Hv.has (Hv.paths st) p = false := by simpa using h2
        have hs : Ink.step st (.path p) = .inr (st ++ [⟨p, []⟩]) := by unfold Ink.step; simp only; rw [if_pos h1, if_neg h2, if_neg (by omega)]
        refine (take_path b p hp w (fun c W w' => c = 0 ∧ Ink.St w' b pm (st ++ [⟨p, []⟩]) ∧ Below (b - 1) W w') fun W hW2 => ?_).mono ?_
        · obtain ⟨np, nmv, kv, evs, hR, hnp, _⟩ := hS.call hW2
          refine (inPath_ok p hp h1 h2' hR hn (by omega) (hW.below hW2)).mono ?_
          rintro e w' ⟨rfl, ⟨kv', nm, hR', hM', hne, hbn⟩, hb⟩
          refine ⟨0, rfl, rfl, ⟨np + 1, .map (some nm), kv', evs ++ [.slice none 0 0], ?_, ?_, fun st0 k e => ?_⟩, hb⟩
          · rw [Ink.paths_app]
            exact hR'
          · rw [List.length_append]
            exact Nat.succ_le_succ hnp
          · obtain ⟨rfl, e2⟩ := List.append_inj' e rfl
            have e3 : (⟨p, []⟩ : Hv.K) = k := by injection e2
            subst e3
            exact ⟨nm, 0, rfl, hne, hbn, Nat.le_refl _, hM'⟩
        · rintro e w' ⟨c, W, rfl, hb, rfl, hS2, hb2⟩
          unfold Ink.TRet
          rw [hs]
          exact ⟨rfl, hS2, (hb.mono (by omega)).trans hb2⟩
    · have hs : Ink.step st (.path p) = .inl 2 := by unfold Ink.step; simp only; rw [if_neg h1]
      refine (take_path b p hp w (fun c W w' => c = 2 ∧ Below W.heap.size W w') fun W hW2 => ?_).mono ?_
      · exact (inPath_form p hp (by simpa using h1) (hW.below hW2)).mono fun e w' h => ⟨2, h.1, rfl, h.2⟩
      · rintro e w' ⟨c, W, rfl, hb, rfl, hb2⟩
        unfold Ink.TRet
        rw [hs]
        exact ⟨rfl, (below_then hb hb2).mono (by omega)⟩
  | val v =>
    obtain ⟨hv, ho, st', hs⟩ := hg
    obtain ⟨st0, k, rfl, hh, hk, rfl⟩ := Ink.step_val hs
    rw [List.length_append] at hst
    refine (take_val b v hv w (fun W w' => Ink.St w' b pm (st0 ++ [⟨k.path, k.vals ++ [v]⟩]) ∧ Below (b - 1) W w') fun W hW2 => ?_).mono ?_
    · obtain ⟨np, nmv, kv, evs, hR, hnp, hN⟩ := hS.call hW2
      obtain ⟨nm, nn, rfl, hne, hbn, hnn, hM⟩ := hN st0 k rfl
      obtain ⟨gk, ck, rfl⟩ := Ink.sizes_of hR.keys rfl
      obtain ⟨evs0, ev, rfl, hel⟩ := Ink.snoc_of (l := evs) (n := st0.length) (by rw [hR.len, List.length_append]; rfl)
      obtain ⟨vn, kd, tx, nu, by_⟩ := v
      refine (inValue_ok false vn kd tx nu by_ hv ho W b pm np nm nn gk ck _ st0 k evs0 ev hR hM hne hbn (by omega) hh hk (by omega)).mono ?_
      rintro e w' ⟨rfl, hr⟩
      unfold Ink.VRet at hr
      obtain ⟨⟨ev', hR', hM'⟩, hb⟩ := hr
      refine ⟨rfl, ⟨np, .map (some nm), .slice (some ⟨gk, 0, none⟩) (st0.length + 1) ck, evs0 ++ [ev'], ?_, ?_, fun s1 k1 e => ?_⟩, hb⟩
      · have : Hv.paths (st0 ++ [⟨k.path, k.vals ++ [⟨vn, kd, tx, nu, by_⟩]⟩]) = Hv.paths (st0 ++ [k]) := by rw [Ink.paths_app, Ink.paths_app]; rfl
        rw [this]
        exact hR'
      · rw [List.length_append] at hnp ⊢
        exact hnp
      · obtain ⟨rfl, e2⟩ := List.append_inj' e rfl
        have e3 : (⟨k.path, k.vals ++ [⟨vn, kd, tx, nu, by_⟩]⟩ : Hv.K) = k1 := by injection e2
        subst e3
        refine ⟨nm, nn + 1, rfl, hne, hbn, ?_, hM'⟩
        rw [List.length_append]
        exact Nat.succ_le_succ hnn
    · rintro e w' ⟨W, rfl, hb, hS2, hb2⟩
      unfold Ink.TRet
      rw [hs]
      exact ⟨rfl, hS2, (hb.mono (by omega)).trans hb2⟩
namespace Ink
open Em
/-- A part may stand in a text. -/
def Ok1 : It → Prop
  | .blank => True
  | .path p => p.size ≤ 100000
  | .val v => Hv.valB v = true ∧ v.Ok
theorem parts_one {l : Txt} (h : (parts l.length l).length ≤ 1) : bl (parts l.length l) = [hexs l] := by
  have hf := parts_flat l.length l (Nat.le_refl _)
  cases e : parts l.length l with
  | nil =>
    rw [e] at hf
    rw [← hf]
    rfl
  | cons p r =>
    rw [e] at h hf
    cases r with
    | nil =>
      have : p = l := by simpa using hf
      rw [this]
      rfl
    | cons q r => simp at h
def vl (v : Hv.V) (ps : List Txt) : List Txt := match bl ps with
  | [] => []
  | h :: t => (bpre v ++ h) :: t.map (two ++ ·)
theorem bl_map (ps : List Txt) (v : Hv.V) : ∀ q, q < ps.length → (vl v ps)[q]? = some (wline v ps q) := by
  intro q hq
  unfold vl
  obtain ⟨h, t, e⟩ := bl_cons ps
  have hg := bl_get ps q hq
  rw [e] at hg ⊢
  unfold wline
  cases q with
  | zero =>
    have h0 : h = bline ps 0 := Option.some.inj hg
    rw [if_pos rfl, ← h0]
    rfl
  | succ q =>
    rw [if_neg (Nat.succ_ne_zero q)]
    have h1 : t[q]? = some (bline ps (q + 1)) := hg
    show (t.map (two ++ ·))[q]? = _
    rw [List.getElem?_map, h1]
    rfl
end Ink
set_option maxHeartbeats 1000000 in
theorem whole_it (it : Ink.It) (hok : Ink.Ok1 it) (ad : Addr) (n c : Nat) (w : World) (hn : it.ls.length ≤ n) (hn8 : n ≤ 100000000) (hb : ad.block < w.heap.size) (hc : ∀ q x, it.ls[q]? = some x → w.cell? (ad.add q) = some (.string (Em.bts x))) :
    Calls Tryz.prog 49 #[.slice (some ad) n c] w fun e w' => e = .returned (.tuple #[.string (Ink.wl it), .int .i64 (it.ls.length : Int)]) ∧ Below w.heap.size w w' := by
  have hz : ad.add 0 = ad := by unfold Addr.add; rw [if_pos rfl]
  have one : ∀ x : Em.Txt, it.ls = [x] → Em.bts x = Ink.wl it → x.length ≤ 1000000 → x.getLast? ≠ some 92 → Calls Tryz.prog 49 #[.slice (some ad) n c] w fun e w' => e = .returned (.tuple #[.string (Ink.wl it), .int .i64 (it.ls.length : Int)]) ∧ Below w.heap.size w w' := by
    intro x e1 e2 e3 e4
    have h0 := hc 0 x (by rw [e1]; rfl)
    rw [hz] at h0
    rw [e1] at hn
    refine (whole_one ad n c (Em.bts x) w hn (by rw [Em.bts_size]; omega) hb h0 (by rw [Em.tl_bts]; exact e4)).mono ?_
    rintro e w' ⟨rfl, rfl⟩
    rw [e1, e2]
    exact ⟨rfl, Below.refl _ _⟩
  cases it with
  | blank => exact one [] rfl rfl (by simp) (by simp)
  | path p =>
    refine one (91 :: (tl p ++ [93])) rfl rfl ?_ ?_
    · have h : p.size ≤ 100000 := hok
      rw [List.length_cons, List.length_append, tl_length]
      simp only [List.length_cons, List.length_nil]
      omega
    · rw [List.getLast?_cons, List.getLast?_append]
      simp
  | val v =>
    obtain ⟨hv, ho⟩ := hok
    have hl2 := Em.val_len2 hv
    by_cases hk : v.kind = 3
    · obtain ⟨ps, hps⟩ : ∃ ps, Em.parts (tl v.bytes).length (tl v.bytes) = ps := ⟨_, rfl⟩
      have hfl : ps.flatten = tl v.bytes := by rw [← hps]; exact Ink.parts_flat _ _ (Nat.le_refl _)
      have hbs := (Em.val_small hv).2.2.1
      have hwl : Ink.wl (.val v) = Em.bts (Ink.bpre v ++ Em.hexs (tl v.bytes)) := by
        show Em.bts (Ink.vlineM false v) = _
        rw [Ink.vlineM_false]
        unfold Ink.vline
        rw [if_pos hk]
      by_cases h1 : ps.length ≤ 1
      · have hls : (Ink.It.val v).ls = [Ink.bpre v ++ Em.hexs (tl v.bytes)] := by
          show Ink.vlines v = _
          unfold Ink.vlines
          rw [if_pos hk]
          have := Ink.parts_one (l := tl v.bytes) (by rw [hps]; exact h1)
          rw [this]
          rfl
        refine one _ hls hwl.symm ?_ (Ink.last_hexs (Ink.bpre_last v)).1
        have hx := Em.hexs_len (tl v.bytes)
        have hp := Ink.bpre_len v
        have hnl := (Em.val_small hv).1
        rw [tl_length] at hx
        rw [List.length_append]
        omega
      · have hls : (Ink.It.val v).ls = Ink.vl v ps := by
          show Ink.vlines v = _
          obtain ⟨x, t, e⟩ := Ink.bl_cons ps
          unfold Ink.vlines Ink.vl
          rw [if_pos hk, hps, e]
        have hlen : (Ink.It.val v).ls.length = ps.length := by
          rw [hls]
          have hbll := Ink.bl_len ps
          rw [if_neg (by intro e; rw [e] at h1; simp at h1)] at hbll
          obtain ⟨x, t, e⟩ := Ink.bl_cons ps
          unfold Ink.vl
          rw [e] at hbll ⊢
          rw [List.length_cons, List.length_map]
          exact hbll
        rw [hlen] at hn
        have hnl := (Em.val_small hv).1
        have hcell : ∀ j, j < ps.length → w.cell? (ad.add j) = some (.string (Em.bts (Ink.wline v ps j))) := fun j hj => hc j _ (by rw [hls]; exact Ink.bl_map ps v j hj)
        refine (whole_more v.name v rfl ps ad n c ps.length w rfl (by omega) hn hn8 (by omega) (by rw [hfl, tl_length]; omega) (by rw [← hps]; exact Ink.parts_ne _ _) hb hcell).mono ?_
        rintro e w' ⟨rfl, hbl⟩
        rw [hlen, hwl, hfl]
        exact ⟨rfl, hbl⟩
    · have hls : (Ink.It.val v).ls = [Em.val v] := by
        show Ink.vlines v = _
        unfold Ink.vlines
        rw [if_neg hk]
      have hwl : Ink.wl (.val v) = Em.bts (Em.val v) := by
        show Em.bts (Ink.vlineM false v) = _
        unfold Ink.vlineM
        rw [if_neg hk]
      refine one _ hls hwl.symm (by omega) ?_
      rcases Ink.val_parts hv with ⟨h1, _⟩ | h1 | h1
      · unfold Em.val Em.rest
        rw [if_pos h1, List.getLast?_append, List.getLast?_cons, Ink.quote_last]
        simp
      · have hnum := Ink.num_dig v.num.toNat (by have h1 := ho.n0; have h2 := ho.n1; omega)
        have hl8 := Em.num_len v.num.toNat
        unfold Em.val Em.rest
        rw [if_neg (by omega), if_pos h1, List.getLast?_append, List.getLast?_cons, List.getLast?_append]
        cases e : (Em.num v.num.toNat).getLast? with
        | none => rw [List.getLast?_eq_none_iff] at e; rw [e] at hl8; cases hl8
        | some x =>
          have := (hnum x (List.mem_of_getLast? e)).2.2
          intro q
          exact this (by simpa using q)
      · exact absurd h1 hk
end Go.Proofs.YthmhadgbhakdlaaGreatDoor

/- intake: the lines of a text that was put together of lines. -/
namespace Go.Proofs.YthmhadgbhakdlaaGreatDoor
open Go.RowKit

namespace Ink
open Em
theorem idx10 : ∀ (p q : Txt), (∀ c ∈ p, c ≠ 10) → Lib.index (p ++ 10 :: q) [10] = p.length := by
  intro p q h
  rw [Lib.index_one]
  induction p with
  | nil => simp [Lib.indexByte]
  | cons c p ih =>
    have hc : (c == 10) = false := by simp [h c]
    have hi := ih fun d hd => h d (by simp [hd])
    simp only [List.cons_append, Lib.indexByte, hc, hi]
    have : (((p.length : Nat) : Int) == -1) = false := by rw [beq_eq_false_iff_ne]; omega
    simp [this]
theorem idx10_none : ∀ (p : Txt), (∀ c ∈ p, c ≠ 10) → Lib.index p [10] = -1 := by
  intro p h
  rw [Lib.index_one]
  induction p with
  | nil => rfl
  | cons c p ih =>
    have hc : (c == 10) = false := by simp [h c]
    have hi := ih fun d hd => h d (by simp [hd])
    simp [Lib.indexByte, hc, hi]
theorem sp_next (p q : Txt) (k : Nat) (h : ∀ c ∈ p, c ≠ 10) : Lib.splitK [10] 0 (k + 1) (p ++ 10 :: q) = p :: Lib.splitK [10] 0 k q := by
  have e : (((p.length : Nat) : Int) == -1) = false := by rw [beq_eq_false_iff_ne]; omega
  have hd : (p ++ 10 :: q).drop (p.length + 1) = q := by
    rw [List.drop_append]
    simp
  have ht : (p ++ 10 :: q).take p.length = p := by simp
  show (if Lib.index (p ++ 10 :: q) [10] == -1 then [p ++ 10 :: q] else (p ++ 10 :: q).take ((Lib.index (p ++ 10 :: q) [10]).toNat + 0) :: Lib.splitK [10] 0 k ((p ++ 10 :: q).drop ((Lib.index (p ++ 10 :: q) [10]).toNat + ([10] : List UInt8).length))) = _
  rw [idx10 p q h, e, Int.toNat_natCast]
  simp only [List.length_cons, List.length_nil, Nat.zero_add, Nat.add_zero, hd, ht]
  rfl
theorem sp_last (p : Txt) (k : Nat) (h : ∀ c ∈ p, c ≠ 10) : Lib.splitK [10] 0 k p = [p] := by
  cases k with
  | zero => rfl
  | succ k =>
    show (if Lib.index p [10] == -1 then [p] else p.take ((Lib.index p [10]).toNat + 0) :: Lib.splitK [10] 0 k (p.drop ((Lib.index p [10]).toNat + ([10] : List UInt8).length))) = _
    rw [idx10_none p h]
    rfl
theorem cnt_free {p : Txt} (h : ∀ c ∈ p, c ≠ 10) : p.count 10 = 0 := List.count_eq_zero.2 fun x => h 10 x rfl
/-- Names put together, and parted again. -/
theorem split_join : ∀ (ss : List Txt), ss ≠ [] → (∀ z ∈ ss, ∀ c ∈ z, c ≠ 10) → (Lib.join ss [10]).count 10 + 1 = ss.length ∧ Lib.splitK [10] 0 ((Lib.join ss [10]).count 10) (Lib.join ss [10]) = ss
  | [], h, _ => absurd rfl h
  | [z], _, h => by
    have e : Lib.join [z] [10] = z := by simp [Lib.join, List.intercalate]
    have hz := h z List.mem_cons_self
    rw [e, cnt_free hz]
    exact ⟨rfl, rfl⟩
  | z :: y :: r, _, h => by
    have e : Lib.join (z :: y :: r) [10] = z ++ 10 :: Lib.join (y :: r) [10] := by simp [Lib.join, List.intercalate]
    obtain ⟨h1, h2⟩ := split_join (y :: r) (by simp) fun x hx => h x (List.mem_cons_of_mem _ hx)
    have hz := h z List.mem_cons_self
    have hc : (z ++ 10 :: Lib.join (y :: r) [10]).count 10 = (Lib.join (y :: r) [10]).count 10 + 1 := by
      rw [List.count_append, cnt_free hz, List.count_cons_self]
      omega
    rw [e, hc]
    refine ⟨by rw [h1]; rfl, ?_⟩
    rw [sp_next z _ _ hz, h2]
/-- The same over texts: what strings.Split hands back. -/
theorem splitB_join {zs : List ByteArray} (hn : zs ≠ []) (h : ∀ z ∈ zs, ∀ c ∈ tl z, c ≠ 10) : Lib.splitB ⟨#[10]⟩ 0 (Lib.countB (bts (Lib.join (zs.map tl) [10])) ⟨#[10]⟩) (bts (Lib.join (zs.map tl) [10])) = zs ∧ Lib.countB (bts (Lib.join (zs.map tl) [10])) ⟨#[10]⟩ + 1 = zs.length := by
  have hcnt : Lib.countB (bts (Lib.join (zs.map tl) [10])) ⟨#[10]⟩ = (Lib.join (zs.map tl) [10]).count 10 := Lib.count_one 10 _
  obtain ⟨h1, h2⟩ := split_join (zs.map tl) (by simpa using hn) (fun z hz => by
    obtain ⟨y, hy, rfl⟩ := List.mem_map.1 hz
    exact h y hy)
  rw [hcnt]
  rw [List.length_map] at h1
  refine ⟨?_, h1⟩
  have h3 := Lib.splitB_data ⟨#[10]⟩ 0 ((Lib.join (zs.map tl) [10]).count 10) (bts (Lib.join (zs.map tl) [10]))
  have h4 : (Lib.splitB ⟨#[10]⟩ 0 ((Lib.join (zs.map tl) [10]).count 10) (bts (Lib.join (zs.map tl) [10]))).map tl = zs.map tl := h3.trans h2
  have h5 := congrArg (List.map bts) h4
  rw [List.map_map, List.map_map] at h5
  have hid : (bts ∘ tl) = id := funext fun s => bts_tl s
  rw [hid, List.map_id, List.map_id] at h5
  exact h5
end Ink
end Go.Proofs.YthmhadgbhakdlaaGreatDoor
