/- intake: each part's lines are put together, and taken. -/
import Derived.Test.YtmnolcjmnddbnaaGreatDoorP08
import Derived.Test.YtmnolcjmnddbnaaGreatDoorP04
import Derived.Lib.SplitLaws
import Derived.Lib.Join
import Derived.Test.YtmnolcjmnddbnaaGreatDoorP02
import Derived.Shelf.Strings.BuilderF
import Derived.Shelf.Strings.BuilderK
import Derived.Test.YtmnolcjmnddbnaaGreatDoorP01

namespace Go.Proofs.YtmnolcjmnddbnaaGreatDoor
open Go.RowKit

namespace Ink
open Em
theorem vlineM_false (v : Hv.V) : vlineM false v = vline v := by
  unfold vlineM vline
  rw [hexsM_false]
theorem sizes_of {st : List Hv.K} {kv : Value} {xs : List Value} {w : World} {B : Nat} {st0 : List Hv.K} {k : Hv.K} (h : w.ownsRow B 44 2 kv st.length xs) (he : st = st0 ++ [k]) : ∃ gk ck, kv = .slice (some ⟨gk, 0, none⟩) (st0.length + 1) ck := by
  subst he
  rw [List.length_append, List.length_singleton] at h
  obtain ⟨g, cap, e, _⟩ := h.form (Nat.succ_pos _)
  exact ⟨g, cap, e⟩
end Ink
theorem take_any (w : World) (b pm : Nat) (st : List Hv.K) (it : Ink.It) (hg : Ink.Gd1 st it) (hS : Ink.St w b pm st) (hst : st.length ≤ 4096) (hW : Wl w) :
    Calls Tryz.prog 24 #[.pointer (some ⟨b, 0, none⟩), .string (Ink.wl it)] w (Ink.TRet b pm st it w) := by
  have hbl : b < w.heap.size := by
    obtain ⟨_, _, _, _, h, _⟩ := hS
    exact h.lt
  cases it with
  | blank =>
    refine (take_blank b w).mono ?_
    rintro e w' ⟨rfl, hb⟩
    exact ⟨rfl, hS.call hb, hb.mono (by omega)⟩
  | path p =>
    obtain ⟨hp, hn⟩ := hg
    by_cases h1 : Hv.path p = true
    · by_cases h2 : Hv.has (Hv.paths st) p = true
      · have hs : Ink.step st (.path p) = .inl 8 := by unfold Ink.step; simp only; rw [if_pos h1, if_pos h2]
        refine (take_path b p hp w (fun c W w' => c = 8 ∧ Below W.heap.size W w') fun W hW2 => ?_).mono ?_
        · obtain ⟨np, nmv, kv, evs, hR, _⟩ := hS.call hW2
          exact (inPath_twice p hp h1 h2 hR (hW.below hW2)).mono fun e w' h => ⟨8, h.1, rfl, h.2⟩
        · rintro e w' ⟨c, W, rfl, hb, rfl, hb2⟩
          unfold Ink.TRet
          rw [hs]
          exact ⟨rfl, (below_then hb hb2).mono (by omega)⟩
      · have h2' : Hv.has (Hv.paths st) p = false := by simpa using h2
        have hs : Ink.step st (.path p) = .inr (st ++ [⟨p, []⟩]) := by unfold Ink.step; simp only; rw [if_pos h1, if_neg h2, if_neg (by omega)]
        refine (take_path b p hp w (fun c W w' => c = 0 ∧ Ink.St w' b pm (st ++ [⟨p, []⟩]) ∧ Below (b - 1) W w') fun W hW2 => ?_).mono ?_
        · obtain ⟨np, nmv, kv, evs, hR, hnp, _⟩ := hS.call hW2
          refine (inPath_ok p hp h1 h2' hR hn (by omega) (hW.below hW2)).mono ?_
          rintro e w' ⟨rfl, ⟨kv', nm, hR', hM', hne, hbn⟩, hb⟩
          refine ⟨0, rfl, rfl, ⟨np + 1, .map (some nm), kv', evs ++ [.slice none 0 0], ?_, ?_, fun st0 k e => ?_⟩, hb⟩
          · rw [Ink.paths_app]
            exact hR'
          · rw [List.length_append]
            exact Nat.succ_le_succ hnp
          · obtain ⟨rfl, e2⟩ := List.append_inj' e rfl
            have e3 : (⟨p, []⟩ : Hv.K) = k := by injection e2
            subst e3
            exact ⟨nm, 0, rfl, hne, hbn, Nat.le_refl _, hM'⟩
        · rintro e w' ⟨c, W, rfl, hb, rfl, hS2, hb2⟩
          unfold Ink.TRet
          rw [hs]
          exact ⟨rfl, hS2, (hb.mono (by omega)).trans hb2⟩
    · have hs : Ink.step st (.path p) = .inl 2 := by unfold Ink.step; simp only; rw [if_neg h1]
      refine (take_path b p hp w (fun c W w' => c = 2 ∧ Below W.heap.size W w') fun W hW2 => ?_).mono ?_
      · exact (inPath_form p hp (by simpa using h1) (hW.below hW2)).mono fun e w' h => ⟨2, h.1, rfl, h.2⟩
      · rintro e w' ⟨c, W, rfl, hb, rfl, hb2⟩
        unfold Ink.TRet
        rw [hs]
        exact ⟨rfl, (below_then hb hb2).mono (by omega)⟩
  | val v =>
    obtain ⟨hv, ho, st', hs⟩ := hg
    obtain ⟨st0, k, rfl, hh, hk, rfl⟩ := Ink.step_val hs
    rw [List.length_append] at hst
    refine (take_val b v hv w (fun W w' => Ink.St w' b pm (st0 ++ [⟨k.path, k.vals ++ [v]⟩]) ∧ Below (b - 1) W w') fun W hW2 => ?_).mono ?_
    · obtain ⟨np, nmv, kv, evs, hR, hnp, hN⟩ := hS.call hW2
      obtain ⟨nm, nn, rfl, hne, hbn, hnn, hM⟩ := hN st0 k rfl
      obtain ⟨gk, ck, rfl⟩ := Ink.sizes_of hR.keys rfl
      obtain ⟨evs0, ev, rfl, hel⟩ := Ink.snoc_of (l := evs) (n := st0.length) (by rw [hR.len, List.length_append]; rfl)
      obtain ⟨vn, kd, tx, nu, by_⟩ := v
      refine (inValue_ok false vn kd tx nu by_ hv ho W b pm np nm nn gk ck _ st0 k evs0 ev hR hM hne hbn (by omega) hh hk (by omega)).mono ?_
      rintro e w' ⟨rfl, hr⟩
      unfold Ink.VRet at hr
      obtain ⟨⟨ev', hR', hM'⟩, hb⟩ := hr
      refine ⟨rfl, ⟨np, .map (some nm), .slice (some ⟨gk, 0, none⟩) (st0.length + 1) ck, evs0 ++ [ev'], ?_, ?_, fun s1 k1 e => ?_⟩, hb⟩
      · have : Hv.paths (st0 ++ [⟨k.path, k.vals ++ [⟨vn, kd, tx, nu, by_⟩]⟩]) = Hv.paths (st0 ++ [k]) := by rw [Ink.paths_app, Ink.paths_app]; rfl
        rw [this]
        exact hR'
      · rw [List.length_append] at hnp ⊢
        exact hnp
      · obtain ⟨rfl, e2⟩ := List.append_inj' e rfl
        have e3 : (⟨k.path, k.vals ++ [⟨vn, kd, tx, nu, by_⟩]⟩ : Hv.K) = k1 := by injection e2
        subst e3
        refine ⟨nm, nn + 1, rfl, hne, hbn, ?_, hM'⟩
        rw [List.length_append]
        exact Nat.succ_le_succ hnn
    · rintro e w' ⟨W, rfl, hb, hS2, hb2⟩
      unfold Ink.TRet
      rw [hs]
      exact ⟨rfl, hS2, (hb.mono (by omega)).trans hb2⟩
namespace Ink
open Em
/-- A part may stand in a text. -/
def Ok1 : It → Prop
  | .blank => True
  | .path p => p.size ≤ 100000
  | .val v => Hv.valB v = true ∧ v.Ok
theorem parts_one {l : Txt} (h : (parts l.length l).length ≤ 1) : bl (parts l.length l) = [hexs l] := by
  have hf := parts_flat l.length l (Nat.le_refl _)
  cases e : parts l.length l with
  | nil =>
    rw [e] at hf
    rw [← hf]
    rfl
  | cons p r =>
    rw [e] at h hf
    cases r with
    | nil =>
      have : p = l := by simpa using hf
      rw [this]
      rfl
    | cons q r => simp at h
def vl (v : Hv.V) (ps : List Txt) : List Txt := match bl ps with
  | [] => []
  | h :: t => (bpre v ++ h) :: t.map (two ++ ·)
theorem bl_map (ps : List Txt) (v : Hv.V) : ∀ q, q < ps.length → (vl v ps)[q]? = some (wline v ps q) := by
  intro q hq
  unfold vl
  obtain ⟨h, t, e⟩ := bl_cons ps
  have hg := bl_get ps q hq
  rw [e] at hg ⊢
  unfold wline
  cases q with
  | zero =>
    have h0 : h = bline ps 0 := Option.some.inj hg
    rw [if_pos rfl, ← h0]
    rfl
  | succ q =>
    rw [if_neg (Nat.succ_ne_zero q)]
    have h1 : t[q]? = some (bline ps (q + 1)) := hg
    show (t.map (two ++ ·))[q]? = _
    rw [List.getElem?_map, h1]
    rfl
end Ink
set_option maxHeartbeats 1000000 in
theorem whole_it (it : Ink.It) (hok : Ink.Ok1 it) (ad : Addr) (n c : Nat) (w : World) (hn : it.ls.length ≤ n) (hn8 : n ≤ 100000000) (hb : ad.block < w.heap.size) (hc : ∀ q x, it.ls[q]? = some x → w.cell? (ad.add q) = some (.string (Em.bts x))) :
    Calls Tryz.prog 23 #[.slice (some ad) n c] w fun e w' => e = .returned (.tuple #[.string (Ink.wl it), .int .i64 (it.ls.length : Int)]) ∧ Below w.heap.size w w' := by
  have hz : ad.add 0 = ad := by unfold Addr.add; rw [if_pos rfl]
  have one : ∀ x : Em.Txt, it.ls = [x] → Em.bts x = Ink.wl it → x.length ≤ 1000000 → x.getLast? ≠ some 92 → Calls Tryz.prog 23 #[.slice (some ad) n c] w fun e w' => e = .returned (.tuple #[.string (Ink.wl it), .int .i64 (it.ls.length : Int)]) ∧ Below w.heap.size w w' := by
    intro x e1 e2 e3 e4
    have h0 := hc 0 x (by rw [e1]; rfl)
    rw [hz] at h0
    rw [e1] at hn
    refine (whole_one ad n c (Em.bts x) w hn (by rw [Em.bts_size]; omega) hb h0 (by rw [Em.tl_bts]; exact e4)).mono ?_
    rintro e w' ⟨rfl, rfl⟩
    rw [e1, e2]
    exact ⟨rfl, Below.refl _ _⟩
  cases it with
  | blank => exact one [] rfl rfl (by simp) (by simp)
  | path p =>
    refine one (91 :: (tl p ++ [93])) rfl rfl ?_ ?_
    · have h : p.size ≤ 100000 := hok
      rw [List.length_cons, List.length_append, tl_length]
      simp only [List.length_cons, List.length_nil]
      omega
    · rw [List.getLast?_cons, List.getLast?_append]
      simp
  | val v =>
    obtain ⟨hv, ho⟩ := hok
    have hl2 := Em.val_len2 hv
    by_cases hk : v.kind = 3
    · obtain ⟨ps, hps⟩ : ∃ ps, Em.parts (tl v.bytes).length (tl v.bytes) = ps := ⟨_, rfl⟩
      have hfl : ps.flatten = tl v.bytes := by rw [← hps]; exact Ink.parts_flat _ _ (Nat.le_refl _)
      have hbs := (Em.val_small hv).2.2.1
      have hwl : Ink.wl (.val v) = Em.bts (Ink.bpre v ++ Em.hexs (tl v.bytes)) := by
        show Em.bts (Ink.vlineM false v) = _
        rw [Ink.vlineM_false]
        unfold Ink.vline
        rw [if_pos hk]
      by_cases h1 : ps.length ≤ 1
      · have hls : (Ink.It.val v).ls = [Ink.bpre v ++ Em.hexs (tl v.bytes)] := by
          show Ink.vlines v = _
          unfold Ink.vlines
          rw [if_pos hk]
          have := Ink.parts_one (l := tl v.bytes) (by rw [hps]; exact h1)
          rw [this]
          rfl
        refine one _ hls hwl.symm ?_ (Ink.last_hexs (Ink.bpre_last v)).1
        have hx := Em.hexs_len (tl v.bytes)
        have hp := Ink.bpre_len v
        have hnl := (Em.val_small hv).1
        rw [tl_length] at hx
        rw [List.length_append]
        omega
      · have hls : (Ink.It.val v).ls = Ink.vl v ps := by
          show Ink.vlines v = _
          obtain ⟨x, t, e⟩ := Ink.bl_cons ps
          unfold Ink.vlines Ink.vl
          rw [if_pos hk, hps, e]
        have hlen : (Ink.It.val v).ls.length = ps.length := by
          rw [hls]
          have hbll := Ink.bl_len ps
          rw [if_neg (by intro e; rw [e] at h1; simp at h1)] at hbll
          obtain ⟨x, t, e⟩ := Ink.bl_cons ps
          unfold Ink.vl
          rw [e] at hbll ⊢
          rw [List.length_cons, List.length_map]
          exact hbll
        rw [hlen] at hn
        have hnl := (Em.val_small hv).1
        have hcell : ∀ j, j < ps.length → w.cell? (ad.add j) = some (.string (Em.bts (Ink.wline v ps j))) := fun j hj => hc j _ (by rw [hls]; exact Ink.bl_map ps v j hj)
        refine (whole_more v.name v rfl ps ad n c ps.length w rfl (by omega) hn hn8 (by omega) (by rw [hfl, tl_length]; omega) (by rw [← hps]; exact Ink.parts_ne _ _) hb hcell).mono ?_
        rintro e w' ⟨rfl, hbl⟩
        rw [hlen, hwl, hfl]
        exact ⟨rfl, hbl⟩
    · have hls : (Ink.It.val v).ls = [Em.val v] := by
        show Ink.vlines v = _
        unfold Ink.vlines
        rw [if_neg hk]
      have hwl : Ink.wl (.val v) = Em.bts (Em.val v) := by
        show Em.bts (Ink.vlineM false v) = _
        unfold Ink.vlineM
        rw [if_neg hk]
      refine one _ hls hwl.symm (by omega) ?_
      rcases Ink.val_parts hv with ⟨h1, _⟩ | h1 | h1
      · unfold Em.val Em.rest
        rw [if_pos h1, List.getLast?_append, List.getLast?_cons, Ink.quote_last]
        simp
      · have hnum := Ink.num_dig v.num.toNat (by have h1 := ho.n0; have h2 := ho.n1; omega)
        have hl8 := Em.num_len v.num.toNat
        unfold Em.val Em.rest
        rw [if_neg (by omega), if_pos h1, List.getLast?_append, List.getLast?_cons, List.getLast?_append]
        cases e : (Em.num v.num.toNat).getLast? with
        | none => rw [List.getLast?_eq_none_iff] at e; rw [e] at hl8; cases hl8
        | some x =>
          have := (hnum x (List.mem_of_getLast? e)).2.2
          intro q
          exact this (by simpa using q)
      · exact absurd h1 hk
end Go.Proofs.YtmnolcjmnddbnaaGreatDoor

/- intake: the lines of a text that was put together of lines. -/
namespace Go.Proofs.YtmnolcjmnddbnaaGreatDoor
open Go.RowKit

namespace Ink
open Em
theorem idx10 : ∀ (p q : Txt), (∀ c ∈ p, c ≠ 10) → Lib.index (p ++ 10 :: q) [10] = p.length := by
  intro p q h
  rw [Lib.index_one]
  induction p with
  | nil => simp [Lib.indexByte]
  | cons c p ih =>
    have hc : (c == 10) = false := by simp [h c]
    have hi := ih fun d hd => h d (by simp [hd])
    simp only [List.cons_append, Lib.indexByte, hc, hi]
    have : (((p.length : Nat) : Int) == -1) = false := by rw [beq_eq_false_iff_ne]; omega
    simp [this]
theorem idx10_none : ∀ (p : Txt), (∀ c ∈ p, c ≠ 10) → Lib.index p [10] = -1 := by
  intro p h
  rw [Lib.index_one]
  induction p with
  | nil => rfl
  | cons c p ih =>
    have hc : (c == 10) = false := by simp [h c]
    have hi := ih fun d hd => h d (by simp [hd])
    simp [Lib.indexByte, hc, hi]
theorem sp_next (p q : Txt) (k : Nat) (h : ∀ c ∈ p, c ≠ 10) : Lib.splitK [10] 0 (k + 1) (p ++ 10 :: q) = p :: Lib.splitK [10] 0 k q := by
  have e : (((p.length : Nat) : Int) == -1) = false := by rw [beq_eq_false_iff_ne]; omega
  have hd : (p ++ 10 :: q).drop (p.length + 1) = q := by
    rw [List.drop_append]
    simp
  have ht : (p ++ 10 :: q).take p.length = p := by simp
  show (if Lib.index (p ++ 10 :: q) [10] == -1 then [p ++ 10 :: q] else (p ++ 10 :: q).take ((Lib.index (p ++ 10 :: q) [10]).toNat + 0) :: Lib.splitK [10] 0 k ((p ++ 10 :: q).drop ((Lib.index (p ++ 10 :: q) [10]).toNat + ([10] : List UInt8).length))) = _
  rw [idx10 p q h, e, Int.toNat_natCast]
  simp only [List.length_cons, List.length_nil, Nat.zero_add, Nat.add_zero, hd, ht]
  rfl
theorem sp_last (p : Txt) (k : Nat) (h : ∀ c ∈ p, c ≠ 10) : Lib.splitK [10] 0 k p = [p] := by
  cases k with
  | zero => rfl
  | succ k =>
    show (if Lib.index p [10] == -1 then [p] else p.take ((Lib.index p [10]).toNat + 0) :: Lib.splitK [10] 0 k (p.drop ((Lib.index p [10]).toNat + ([10] : List UInt8).length))) = _
    rw [idx10_none p h]
    rfl
theorem cnt_free {p : Txt} (h : ∀ c ∈ p, c ≠ 10) : p.count 10 = 0 := List.count_eq_zero.2 fun x => h 10 x rfl
/-- Names put together, and parted again. -/
theorem split_join : ∀ (ss : List Txt), ss ≠ [] → (∀ z ∈ ss, ∀ c ∈ z, c ≠ 10) → (Lib.join ss [10]).count 10 + 1 = ss.length ∧ Lib.splitK [10] 0 ((Lib.join ss [10]).count 10) (Lib.join ss [10]) = ss
  | [], h, _ => absurd rfl h
  | [z], _, h => by
    have e : Lib.join [z] [10] = z := by simp [Lib.join, List.intercalate]
    have hz := h z List.mem_cons_self
    rw [e, cnt_free hz]
    exact ⟨rfl, rfl⟩
  | z :: y :: r, _, h => by
    have e : Lib.join (z :: y :: r) [10] = z ++ 10 :: Lib.join (y :: r) [10] := by simp [Lib.join, List.intercalate]
    obtain ⟨h1, h2⟩ := split_join (y :: r) (by simp) fun x hx => h x (List.mem_cons_of_mem _ hx)
    have hz := h z List.mem_cons_self
    have hc : (z ++ 10 :: Lib.join (y :: r) [10]).count 10 = (Lib.join (y :: r) [10]).count 10 + 1 := by
      rw [List.count_append, cnt_free hz, List.count_cons_self]
      omega
    rw [e, hc]
    refine ⟨by rw [h1]; rfl, ?_⟩
    rw [sp_next z _ _ hz, h2]
/-- The same over texts: what strings.Split hands back. -/
theorem splitB_join {zs : List ByteArray} (hn : zs ≠ []) (h : ∀ z ∈ zs, ∀ c ∈ tl z, c ≠ 10) : Lib.splitB ⟨#[10]⟩ 0 (Lib.countB (bts (Lib.join (zs.map tl) [10])) ⟨#[10]⟩) (bts (Lib.join (zs.map tl) [10])) = zs ∧ Lib.countB (bts (Lib.join (zs.map tl) [10])) ⟨#[10]⟩ + 1 = zs.length := by
  have hcnt : Lib.countB (bts (Lib.join (zs.map tl) [10])) ⟨#[10]⟩ = (Lib.join (zs.map tl) [10]).count 10 := Lib.count_one 10 _
  obtain ⟨h1, h2⟩ := split_join (zs.map tl) (by simpa using hn) (fun z hz => by
    obtain ⟨y, hy, rfl⟩ := List.mem_map.1 hz
    exact h y hy)
  rw [hcnt]
  rw [List.length_map] at h1
  refine ⟨?_, h1⟩
  have h3 := Lib.splitB_data ⟨#[10]⟩ 0 ((Lib.join (zs.map tl) [10]).count 10) (bts (Lib.join (zs.map tl) [10]))
  have h4 : (Lib.splitB ⟨#[10]⟩ 0 ((Lib.join (zs.map tl) [10]).count 10) (bts (Lib.join (zs.map tl) [10]))).map tl = zs.map tl := h3.trans h2
  have h5 := congrArg (List.map bts) h4
  rw [List.map_map, List.map_map] at h5
  have hid : (bts ∘ tl) = id := funext fun s => bts_tl s
  rw [hid, List.map_id, List.map_id] at h5
  exact h5
end Ink
end Go.Proofs.YtmnolcjmnddbnaaGreatDoor

/- intake.Parse of a text that was put together of parts. -/
namespace Go.Proofs.YtmnolcjmnddbnaaGreatDoor
open Go.RowKit

namespace Ink
open Em
/-- Parts that can be read in turn. -/
def Gr : List Hv.K → List It → Prop
  | _, [] => True
  | st, it :: l => Gd1 st it ∧ st.length ≤ 4096 ∧ ∀ st', step st it = .inr st' → Gr st' l
/-- What Parse answers. -/
def PRet (X : Int ⊕ List Hv.K) (w : World) (e : Ending) (w' : World) : Prop :=
  Below w.heap.size w w' ∧ match X with
    | .inl c => ∃ x y : Int, e = .returned (.tuple #[.agg #[.slice none 0 0], .agg #[.int .i64 x, .int .i64 y, .int .i64 c]])
    | .inr st => ∃ kv evs, e = .returned (.tuple #[.agg #[kv], .agg #[.int .i64 0, .int .i64 0, .int .i64 0]]) ∧ Hv.HR w' w'.heap.size st kv evs
def LS (l : List It) : List ByteArray := (headL :: lns l).map bts
theorem LS_tl (l : List It) : (LS l).map tl = headL :: lns l := by
  unfold LS
  rw [List.map_map]
  conv => rhs; rw [← List.map_id (headL :: lns l)]
  exact List.map_congr_left fun x _ => tl_bts x
theorem LS_len (l : List It) : (LS l).length = (lns l).length + 1 := by unfold LS; rw [List.length_map, List.length_cons]
def pos (l : List It) (j : Nat) : Nat := (lns (l.take j)).length + 1
theorem lns_cons (i : It) (l : List It) : lns (i :: l) = i.ls ++ lns l := by simp [lns]
theorem lns_split {l : List It} {j : Nat} {i : It} (h : l[j]? = some i) : lns l = lns (l.take j) ++ i.ls ++ lns (l.drop (j + 1)) := by
  have e : l = l.take j ++ i :: l.drop (j + 1) := by
    have h1 := (List.getElem?_eq_some_iff.1 h).1
    have h2 : l[j] = i := (List.getElem?_eq_some_iff.1 h).2
    rw [← h2, ← List.drop_eq_getElem_cons h1, List.take_append_drop]
  conv => lhs; rw [e]
  rw [lns_app, lns_cons, List.append_assoc]
theorem pos_next {l : List It} {j : Nat} {i : It} (h : l[j]? = some i) : pos l (j + 1) = pos l j + i.ls.length := by
  unfold pos
  rw [List.take_add_one, h]
  show (lns (l.take j ++ [i])).length + 1 = _
  rw [lns_app, List.length_append, lns_cons]
  simp [lns]
  omega
theorem pos_le {l : List It} {j : Nat} {i : It} (h : l[j]? = some i) : pos l j + i.ls.length ≤ (lns l).length + 1 := by
  rw [lns_split h]
  unfold pos
  simp only [List.length_append]
  omega
theorem pos_end (l : List It) : pos l l.length = (lns l).length + 1 := by unfold pos; rw [List.take_length]
theorem LS_at {l : List It} {j q : Nat} {i : It} {x : Txt} (h : l[j]? = some i) (hq : i.ls[q]? = some x) : (LS l)[pos l j + q]? = some (bts x) := by
  unfold LS pos
  rw [List.getElem?_map, show (lns (l.take j)).length + 1 + q = (lns (l.take j)).length + q + 1 by omega, List.getElem?_cons_succ, lns_split h, List.append_assoc, List.getElem?_append_right (by omega), Nat.add_sub_cancel_left, List.getElem?_append_left (List.getElem?_eq_some_iff.1 hq).1, hq]
  rfl
theorem ls_pos (i : It) : 0 < i.ls.length := by
  cases i with
  | blank => exact Nat.succ_pos _
  | path p => exact Nat.succ_pos _
  | val v =>
    show 0 < (vlines v).length
    unfold vlines
    split
    · obtain ⟨x, t, e⟩ := bl_cons (parts (tl v.bytes).length (tl v.bytes))
      rw [e]
      exact Nat.succ_pos _
    · exact Nat.succ_pos _
theorem suffix_no {x : Txt} (h : x.getLast? ≠ some 13) : Lib.trimSuffix x [13] = x := by
  unfold Lib.trimSuffix
  have h2 : Lib.hasSuffix x [13] = false := by
    cases e : Lib.hasSuffix x [13] with
    | false => rfl
    | true =>
      exfalso
      obtain ⟨t, rfl⟩ := List.isSuffixOf_iff_suffix.1 e
      apply h
      rw [List.getLast?_append]
      rfl
  rw [h2]
  rfl
theorem head_fl : Fl headL := ⟨by decide, by decide⟩
theorem join_cons2 (z y : Txt) (r : List Txt) : Lib.join (z :: y :: r) [10] = z ++ 10 :: Lib.join (y :: r) [10] := by simp [Lib.join, List.intercalate]
theorem join_mem : ∀ (zs : List Txt) {z : Txt}, z ∈ zs → z.length ≤ (Lib.join zs [10]).length
  | [], _, h => by cases h
  | [x], z, h => by
    obtain rfl := List.mem_singleton.1 h
    have e : Lib.join [z] [10] = z := by simp [Lib.join, List.intercalate]
    rw [e]
    exact Nat.le_refl _
  | x :: y :: r, z, h => by
    rw [join_cons2, List.length_append, List.length_cons]
    rcases List.mem_cons.1 h with rfl | h
    · omega
    · have := join_mem (y :: r) h
      omega
theorem join_num : ∀ (zs : List Txt), zs.length ≤ (Lib.join zs [10]).length + 1
  | [] => Nat.zero_le _
  | [x] => by simp
  | x :: y :: r => by
    have := join_num (y :: r)
    rw [join_cons2, List.length_append, List.length_cons, List.length_cons] at *
    rw [List.length_cons]
    omega
theorem set_same {α : Type} {l : List α} {k : Nat} {v : α} (h : l[k]? = some v) : l.set k v = l := by
  obtain ⟨hk, e⟩ := List.getElem?_eq_some_iff.1 h
  subst e
  exact List.set_getElem_self hk
theorem gr_drop {st : List Hv.K} {l : List It} {j : Nat} {i : It} (h : Gr st (l.drop j)) (hi : l[j]? = some i) : Gd1 st i ∧ st.length ≤ 4096 ∧ ∀ st', step st i = .inr st' → Gr st' (l.drop (j + 1)) := by
  obtain ⟨h1, h2⟩ := List.getElem?_eq_some_iff.1 hi
  rw [List.drop_eq_getElem_cons h1, h2] at h
  exact h
theorem run_drop {st : List Hv.K} {l : List It} {j : Nat} {i : It} (hi : l[j]? = some i) : run st (l.drop j) = match step st i with
    | .inl e => .inl e
    | .inr st' => run st' (l.drop (j + 1)) := by
  obtain ⟨h1, h2⟩ := List.getElem?_eq_some_iff.1 hi
  rw [List.drop_eq_getElem_cons h1, h2]
  rfl
theorem step_bad {st : List Hv.K} {it : It} {c : Int} (h : step st it = .inl c) : c ≠ 0 := by
  unfold step at h
  cases it with
  | blank => cases h
  | path p =>
    simp only at h
    split at h
    · split at h
      · injection h with h; omega
      · split at h
        · injection h with h; omega
        · cases h
    · injection h with h; omega
  | val v =>
    simp only at h
    split at h
    · injection h with h; omega
    · split at h
      · injection h with h; omega
      · split at h
        · injection h with h; omega
        · cases h
theorem add_none (g p q : Nat) : (⟨g, p, none⟩ : Addr).add q = ⟨g, p + q, none⟩ := by
  unfold Addr.add
  split
  · rename_i h; subst h; rfl
  · rfl
theorem Rd.other {w : World} {b pm np : Nat} {Ps : List ByteArray} {nmv kv : Value} {st : List Hv.K} {evs : List Value} (h : Rd w b pm np Ps nmv st kv evs) (p : Addr) (u : Value) (hp : p.block + 1 < b) : Rd (w.setCell p u) b pm np Ps nmv st kv evs :=
  ⟨h.at_.set_other p u (by omega), ownsRow_setCell_below h.keys (by omega) u, h.len, fun q hq => ownsRow_setCell_below (h.vals q hq) (by omega) u, h.apart, h.pair, h.map.setCell (by have := h.pmb; omega) u, h.pmb⟩
theorem boxes {w : World} {a : Nat} {z0 f0 f1 f2 : Value} (hz : At w a [z0]) (hf : At w (a + 1) [f0, f1, f2]) (v x y c : Value) :
    At ((((w.setCell ⟨a, 0, none⟩ v).setCell ⟨a + 1, 0, none⟩ x).setCell ⟨a + 1, 1, none⟩ y).setCell ⟨a + 1, 2, none⟩ c) a [v] ∧ At ((((w.setCell ⟨a, 0, none⟩ v).setCell ⟨a + 1, 0, none⟩ x).setCell ⟨a + 1, 1, none⟩ y).setCell ⟨a + 1, 2, none⟩ c) (a + 1) [x, y, c] :=
  ⟨(((hz.set 0 v).set_other _ _ (by show a + 1 ≠ a; omega)).set_other _ _ (by show a + 1 ≠ a; omega)).set_other _ _ (by show a + 1 ≠ a; omega), (((hf.set_other ⟨a, 0, none⟩ v (by show a ≠ a + 1; omega)).set 0 x).set 1 y).set 2 c⟩
theorem boxes_rd {w : World} {b pm np : Nat} {Ps : List ByteArray} {nmv kv : Value} {st : List Hv.K} {evs : List Value} (h : Rd w b pm np Ps nmv st kv evs) {a : Nat} (ha : a + 2 < b) (v x y c : Value) : Rd ((((w.setCell ⟨a, 0, none⟩ v).setCell ⟨a + 1, 0, none⟩ x).setCell ⟨a + 1, 1, none⟩ y).setCell ⟨a + 1, 2, none⟩ c) b pm np Ps nmv st kv evs :=
  (((h.other ⟨a, 0, none⟩ v (by show a + 1 < b; omega)).other ⟨a + 1, 0, none⟩ x (by show a + 1 + 1 < b; omega)).other ⟨a + 1, 1, none⟩ y (by show a + 1 + 1 < b; omega)).other ⟨a + 1, 2, none⟩ c (by show a + 1 + 1 < b; omega)
theorem boxes_below {w0 w : World} {a : Nat} (h : Below a w0 w) (v x y c : Value) : Below a w0 ((((w.setCell ⟨a, 0, none⟩ v).setCell ⟨a + 1, 0, none⟩ x).setCell ⟨a + 1, 1, none⟩ y).setCell ⟨a + 1, 2, none⟩ c) :=
  (((h.setCell (p := ⟨a, 0, none⟩) (Nat.le_refl _) v).setCell (p := ⟨a + 1, 0, none⟩) (Nat.le_succ _) x).setCell (p := ⟨a + 1, 1, none⟩) (Nat.le_succ _) y).setCell (p := ⟨a + 1, 2, none⟩) (Nat.le_succ _) c
theorem parse_results {tmps : Array Value} {w : World} {a b : Nat} {kv x y c : Value} (h2 : tmps[2]?.getD undef = .pointer (some ⟨a, 0, none⟩)) (h3 : tmps[3]?.getD undef = .pointer (some ⟨b, 0, none⟩)) (hA : At w a [kv]) (hB : At w b [x, y, c]) :
    (results Tryz.f8 tmps).run Tryz.prog w = .ok (.tuple #[.agg #[kv], .agg #[x, y, c]]) w := by
  have c0 := hA.cell 0 _ rfl
  have d0 := hB.cell 0 _ rfl
  have d1 := hB.cell 1 _ rfl
  have d2 := hB.cell 2 _ rfl
  simp [results, Tryz.results8, go_sem, h2, h3, c0, d0, d1, d2]
theorem St.first (W : World) (T : TypeId) : St ((W.alloc (.map #[] 0)).alloc (.cells #[.slice none 0 0, .map (some W.heap.size), .map none] T)) (W.heap.size + 1) W.heap.size [] := by
  refine ⟨0, .map none, .slice none 0 0, [], ⟨?_, World.ownsRow_nil _ _ _ _, rfl, (fun p hp => by cases hp), (fun v hv => by cases hv), List.Pairwise.nil, ?_, by omega, by omega⟩, Nat.le_refl _, fun st0 k e => by simp at e⟩
  · have h := At.new (W.alloc (.map #[] 0)) #[.slice none 0 0, .map (some W.heap.size), .map none] T
    rw [World.size_alloc] at h
    exact h
  · have h : MapF Tryz.prog 9 (W.alloc (.map #[] 0)) W.heap.size 0 (Hv.sf []) := by show MapF _ _ _ _ _ _; exact MapF.made W
    exact h.alloc _
end Ink
set_option maxHeartbeats 16000000 in
set_option maxRecDepth 200000 in
theorem inParse_any (its : List Ink.It) (s : ByteArray) (hs : tl s = Lib.join (Ink.headL :: Ink.lns its) [10]) (hsz : s.size ≤ 1048576) (hok : ∀ i ∈ its, Ink.Ok1 i) (hfl : ∀ x ∈ Ink.lns its, Ink.Fl x) (hg : Ink.Gr [] its) (w : World) (hW : Wl w) :
    Calls Tryz.prog 8 #[.string s] w (Ink.PRet (Ink.run [] its) w) := by
  obtain ⟨X, hX⟩ : ∃ X, Ink.run [] its = X := ⟨_, rfl⟩
  rw [hX]
  have HFl : Hid (∀ x ∈ Ink.headL :: Ink.lns its, Ink.Fl x) := by
    intro x hx
    rcases List.mem_cons.1 hx with rfl | hx
    · exact Ink.head_fl
    · exact hfl x hx
  obtain ⟨L, hL⟩ : ∃ L, Ink.LS its = L := ⟨_, rfl⟩
  have hLt : L.map tl = Ink.headL :: Ink.lns its := by rw [← hL]; exact Ink.LS_tl its
  obtain ⟨N, hN⟩ : ∃ N, L.length = N := ⟨_, rfl⟩
  have hNl : (Ink.lns its).length + 1 = N := by rw [← hN, ← hL]; exact (Ink.LS_len its).symm
  have HS0 := Lib.hid hs
  have hsp := Ink.splitB_join (zs := L) (by rw [← hL]; simp [Ink.LS]) (fun z hz => (HFl.out (tl z) (by rw [← hLt]; exact List.mem_map_of_mem hz)).no)
  rw [hLt, ← hs, Em.bts_tl, hN] at hsp
  have HSp : Hid (∀ W, Wl W → Calls Tryz.prog 21 #[.string s, .string ⟨#[10]⟩] W fun e w' => e = .returned (.slice (some ⟨W.heap.size, 0, none⟩) N N) ∧ w' = W.alloc (.cells (L.map Value.string).toArray 9)) := fun W hW => by
    obtain ⟨m, hm⟩ := hW.maxl
    have h := Tryz.strings_Split s ⟨#[10]⟩ m W (by omega) hm (by decide)
    rw [hsp.1, hsp.2] at h
    exact h
  have HTs : Hid (∀ x, x ∈ L → ∀ W, Calls Tryz.prog 22 #[.string x, .string ⟨#[13]⟩] W fun e w' => e = .returned (.string x) ∧ W = w') := fun x hx W => by
    have hf := HFl.out (tl x) (by rw [← hLt]; exact List.mem_map_of_mem hx)
    have hxs : x.size ≤ 1048577 := by
      have h := Ink.join_mem (Ink.headL :: Ink.lns its) (z := tl x) (by rw [← hLt]; exact List.mem_map_of_mem hx)
      rw [← hs, tl_length, tl_length] at h
      omega
    have h := Tryz.strings_TrimSuffix x ⟨#[13]⟩ W (by omega)
    have e : Lib.trimSuffix x.data.toList (⟨#[13]⟩ : ByteArray).data.toList = tl x := Ink.suffix_no hf.cr
    rw [e] at h
    exact h.mono fun _ _ h => ⟨h.1, h.2.symm⟩
  have hN1 : 1 ≤ N := by omega
  have hNs : N ≤ 1048577 := by
    have h := Ink.join_num (Ink.headL :: Ink.lns its)
    rw [← hs, tl_length, List.length_cons] at h
    omega
  have HW := Lib.hid hW
  have HL := Lib.hid hL
  have HN := Lib.hid hN
  have HNl := Lib.hid hNl
  have HX := Lib.hid hX
  have HOk := Lib.hid hok
  have HGr := Lib.hid hg
  have q0 : ¬ (1048576 : Int) < (s.size : Int) := by omega
  have HZ0 : Hid (At ((w.alloc (.cells #[.slice none 0 0] 36)).alloc (.cells #[.int .i64 0, .int .i64 0, .int .i64 0] 38)) w.heap.size [.slice none 0 0]) := (At.new w _ _).allocO _
  have HF0 : Hid (At ((w.alloc (.cells #[.slice none 0 0] 36)).alloc (.cells #[.int .i64 0, .int .i64 0, .int .i64 0] 38)) (w.heap.size + 1) [.int .i64 0, .int .i64 0, .int .i64 0]) := by
    have h := At.new (w.alloc (.cells #[.slice none 0 0] 36)) #[.int .i64 0, .int .i64 0, .int .i64 0] 38
    rw [World.size_alloc] at h
    exact h
  have HB0 : Hid (Below w.heap.size w ((w.alloc (.cells #[.slice none 0 0] 36)).alloc (.cells #[.int .i64 0, .int .i64 0, .int .i64 0] 38))) := Hv.bl (Hv.bl1 w _) _
  clear hs hsz hok hfl hg hW hX hL hLt hN hNl hsp
  go_enter Tryz.func8, Tryz.ntmps8
  go_wp2_with fail
  refine (HSp.out _ (HW.out.below HB0.out)).mono ?_
  rintro e w2 ⟨rfl, rfl⟩
  obtain ⟨W1, hW1⟩ : ∃ W, (w.alloc (.cells #[.slice none 0 0] 36)).alloc (.cells #[.int .i64 0, .int .i64 0, .int .i64 0] 38) = W := ⟨_, rfl⟩
  have hs1 : W1.heap.size = w.heap.size + 1 + 1 := by rw [← hW1, World.size_alloc, World.size_alloc]
  rw [hW1] at HZ0 HF0 HB0 ⊢
  obtain ⟨bl, hbl⟩ : ∃ g, W1.heap.size = g := ⟨_, rfl⟩
  have HA2 : Hid (At (W1.alloc (.cells (L.map Value.string).toArray 9)) bl (L.map Value.string)) := by rw [← hbl]; exact At.new W1 _ _
  have HZ2 := Lib.hid (HZ0.out.allocO (.cells (L.map Value.string).toArray 9))
  have HF2 := Lib.hid (HF0.out.allocO (.cells (L.map Value.string).toArray 9))
  have HB2 := Lib.hid (Hv.bl HB0.out (.cells (L.map Value.string).toArray 9))
  obtain ⟨W2, hW2⟩ : ∃ W, W1.alloc (.cells (L.map Value.string).toArray 9) = W := ⟨_, rfl⟩
  have hs2 : W2.heap.size = bl + 1 := by rw [← hW2, World.size_alloc, hbl]
  rw [hW2] at HA2 HZ2 HF2 HB2 ⊢
  rw [hbl] at hs1 ⊢
  have HS1 := Lib.hid hs1
  clear hW1 hW2 hbl hs1 hs2 HZ0 HF0 HB0
  have hnw : IntKind.i64.wrap (N : Int) = (N : Int) := by rw [IntKind.wrap_i64]; omega
  go_wp2_with fail
  go_loopw [22] (fun i wr => ∃ k : Nat, k ≤ N ∧ i = .int .i64 (k : Int) ∧ Hid (At wr bl (L.map Value.string)) ∧ Hid (At wr w.heap.size [.slice none 0 0]) ∧ Hid (At wr (w.heap.size + 1) [.int .i64 0, .int .i64 0, .int .i64 0]) ∧ Hid (Below w.heap.size w wr)) (fun i _ => N - (intOf i).toNat)
  case atStart => exact ⟨0, Nat.zero_le _, rfl, HA2.out, HZ2.out, HF2.out, HB2.out⟩
  case round =>
    obtain ⟨k, hk, rfl, HA, HZ, HF, HB⟩ := hrel
    by_cases hlt : k < N
    · obtain ⟨x, hx⟩ : ∃ x, L[k]? = some x := ⟨_, List.getElem?_eq_getElem (by rw [HN.out]; exact hlt)⟩
      have hxc : (L.map Value.string)[k]? = some (.string x) := by rw [List.getElem?_map, hx]; rfl
      have p1 := HA.out.cell k _ hxc
      have p2 := HA.out.free k _ hxc
      have p1' : wr.cell? ⟨bl, 0 + k, none⟩ = some (.string x) := by rw [Nat.zero_add]; exact p1
      have p2' : wr.frozen? ⟨bl, 0 + k, none⟩ = false := by rw [Nat.zero_add]; exact p2
      have p3 := HA.out.lt
      have q1 : (0 : Int) ≤ (k : Int) := by omega
      have q2 : (k : Int) < (N : Int) := by omega
      have HT := Lib.hid (HTs.out x (List.mem_of_getElem? hx) wr)
      have HX1 := Lib.hid hxc
      clear hx hxc
      go_wp2_with fail
      refine HT.out.mono ?_
      rintro e w3 ⟨rfl, rfl⟩
      go_wp2
      have HA3 := Lib.hid (HA.out.set k (.string x))
      rw [Ink.set_same HX1.out] at HA3
      have HS3 := HS1.out
      have HZ3 := Lib.hid (HZ.out.set_other ⟨bl, k, none⟩ (.string x) (by show bl ≠ _; omega))
      have HF3 := Lib.hid (HF.out.set_other ⟨bl, k, none⟩ (.string x) (by show bl ≠ _; omega))
      have HB3 := Lib.hid (HB.out.setCell (p := ⟨bl, k, none⟩) (by show _ ≤ bl; omega) (.string x))
      go_roundw
      case rel => exact ⟨k + 1, by omega, by go_num, HA3.out, HZ3.out, HF3.out, HB3.out⟩
      case measure => simp [intOf]; omega
    · obtain rfl : k = N := by omega
      have q2 : ¬ (k : Int) < (k : Int) := by omega
      have hx0 : (L.map Value.string)[0]? = some (.string ⟨#[82, 69, 71, 73, 83, 84, 69, 82, 32, 49]⟩) := by
        rw [← HL.out]
        rfl
      have p1 := HA.out.cell 0 _ hx0
      have p3 := HA.out.lt
      have q3 : (0 : Int) < (k : Int) := by omega
      have hmk := make_none wr
      clear hx0
      go_wp2_with fail
      have hgs := HA.out.lt
      have HA4 := Lib.hid ((HA.out.allocO (.map #[] 0)).allocO (.cells #[.slice none 0 0, .map (some wr.heap.size), .map none] 69))
      have HZ4 := Lib.hid ((HZ.out.allocO (.map #[] 0)).allocO (.cells #[.slice none 0 0, .map (some wr.heap.size), .map none] 69))
      have HF4 := Lib.hid ((HF.out.allocO (.map #[] 0)).allocO (.cells #[.slice none 0 0, .map (some wr.heap.size), .map none] 69))
      have HB4 := Lib.hid (Hv.bl (Hv.bl HB.out (.map #[] 0)) (.cells #[.slice none 0 0, .map (some wr.heap.size), .map none] 69))
      have HSt4 := Lib.hid (Ink.St.first wr 69)
      obtain ⟨W4, hW4⟩ : ∃ W, ((wr.alloc (.map #[] 0)).alloc (.cells #[.slice none 0 0, .map (some wr.heap.size), .map none] 69)) = W := ⟨_, rfl⟩
      obtain ⟨g, hg⟩ : ∃ g, wr.heap.size = g := ⟨_, rfl⟩
      rw [hW4] at HA4 HZ4 HF4 HB4 HSt4 ⊢
      rw [hg] at HSt4 hgs ⊢
      have HG : Hid (bl < g ∧ bl = w.heap.size + 1 + 1) := ⟨hgs, HS1.out⟩
      clear hW4 hg hgs HA HZ HF HB p1 p3 q2 q3 hmk
      have HS1 := Lib.hid HG.out.2
      go_loopw [8] (fun i wr => ∃ p : Nat, i = .int .i64 (p : Int) ∧ p ≤ k ∧ ∃ j st, Hid (p = Ink.pos its j) ∧ j ≤ its.length ∧ Hid (Ink.St wr (g + 1) g st) ∧ Hid (Ink.Gr st (its.drop j)) ∧ Hid (Ink.run st (its.drop j) = X) ∧ Hid (At wr bl (L.map Value.string)) ∧ Hid (At wr w.heap.size [.slice none 0 0]) ∧ Hid (At wr (w.heap.size + 1) [.int .i64 0, .int .i64 0, .int .i64 0]) ∧ Hid (Below w.heap.size w wr)) (fun i _ => k - (intOf i).toNat)
      case atStart => exact ⟨1, rfl, by omega, 0, [], Lib.hid rfl, Nat.zero_le _, HSt4.out, by rw [List.drop_zero]; exact HGr.out, by rw [List.drop_zero]; exact HX.out, HA4.out, HZ4.out, HF4.out, HB4.out⟩
      case round =>
        obtain ⟨p, rfl, hp, j, st, hpj, hj, HSt, HGr2, HX2, HA, HZ, HF, HB⟩ := hrel
        by_cases hlt : p < k
        · have q1 : (p : Int) < (k : Int) := by omega
          have hjl : j < its.length := by
            rcases Nat.lt_or_ge j its.length with h | h
            · exact h
            · exfalso
              have e : j = its.length := by omega
              have h2 := Ink.pos_end its
              rw [← e, ← hpj.out, HNl.out] at h2
              omega
          obtain ⟨it, hit⟩ : ∃ it, its[j]? = some it := ⟨_, List.getElem?_eq_getElem hjl⟩
          have hgr := Ink.gr_drop HGr2.out hit
          have hrun := Ink.run_drop (st := st) hit
          rw [HX2.out] at hrun
          have hne := Ink.pos_next hit
          have hle := Ink.pos_le hit
          have h0 := Ink.ls_pos it
          rw [← hpj.out] at hne
          rw [← hpj.out, HNl.out] at hle
          have HIt := Lib.hid (whole_it it (HOk.out it (List.mem_of_getElem? hit)) ⟨bl, p, none⟩ (k - p) (k - p) wr (by omega) (by omega) HA.out.lt (fun q x hq => by
            rw [Ink.add_none]
            refine HA.out.cell (p + q) _ ?_
            rw [List.getElem?_map, hpj.out, ← HL.out, Ink.LS_at hit hq]
            rfl))
          obtain ⟨m, hm⟩ : ∃ m, it.ls.length = m := ⟨_, rfl⟩
          rw [hm] at HIt hne hle h0
          have hit' := Lib.hid hit
          have HNe := Lib.hid hne
          clear hit hm hne
          go_wp2_with fail
          refine HIt.out.mono ?_
          rintro e w5 ⟨rfl, hb⟩
          have HA5 := Lib.hid (HA.out.call hb)
          have HZ5 := Lib.hid (HZ.out.call hb)
          have HF5 := Lib.hid (HF.out.call hb)
          have HB5 := Lib.hid (below_then HB.out hb)
          have ht := take_any w5 (g + 1) g st it hgr.1 (HSt.out.call hb) hgr.2.1 (HW.out.below HB5.out)
          unfold Ink.TRet at ht
          cases hs : Ink.step st it with
          | inl c =>
            rw [hs] at ht hrun
            have hc := Ink.step_bad hs
            have HT := Lib.hid ht
            have HRun := Lib.hid hrun
            clear ht hgr hb hs hrun
            go_wp2_with fail
            refine HT.out.mono ?_
            rintro e w6 ⟨rfl, hb⟩
            have HA6 := Lib.hid (HA5.out.below hb (by show bl < g; exact HG.out.1))
            have HZ6 := Lib.hid (HZ5.out.below hb (by have := HG.out; show w.heap.size < g; omega))
            have HF6 := Lib.hid (HF5.out.below hb (by have := HG.out; show w.heap.size + 1 < g; omega))
            have HB6 := Lib.hid (HB5.out.trans (hb.mono (by have := HG.out; show w.heap.size ≤ g; omega)))
            clear hb
            have z1 := HZ6.out.free 0 _ rfl
            have z2 := HF6.out.free 0 _ rfl
            have z3 := HF6.out.free 1 _ rfl
            have z4 := HF6.out.free 2 _ rfl
            have z5 := HZ6.out.lt
            have y1 := HZ6.out.cell 0 _ rfl
            have y2 := HF6.out.cell 0 _ rfl
            have y3 := HF6.out.cell 1 _ rfl
            have y4 := HF6.out.cell 2 _ rfl
            have z6 := HF6.out.lt
            go_wp2_with fail
            have HQ := Lib.hid (Ink.boxes HZ6.out HF6.out (.slice none 0 0) (.int .i64 ((p : Int) + 1)) (.int .i64 1) (.int .i64 c))
            have HQB := Lib.hid (Ink.boxes_below HB6.out (.slice none 0 0) (.int .i64 ((p : Int) + 1)) (.int .i64 1) (.int .i64 c))
            refine bodyPost_ret (Ink.parse_results rfl rfl HQ.out.1 HQ.out.2) rfl ⟨HQB.out, ?_⟩
            rw [HRun.out]
            exact ⟨_, _, rfl⟩
          | inr st' =>
            rw [hs] at ht hrun
            have HT := Lib.hid ht
            have HRun := Lib.hid hrun
            have HGn := Lib.hid (hgr.2.2 st' hs)
            clear ht hgr hb hs hrun
            go_wp2_with fail
            refine HT.out.mono ?_
            rintro e w6 ⟨rfl, hS, hb⟩
            have HA6 := Lib.hid (HA5.out.below hb (by show bl < g; exact HG.out.1))
            have HZ6 := Lib.hid (HZ5.out.below hb (by have := HG.out; show w.heap.size < g; omega))
            have HF6 := Lib.hid (HF5.out.below hb (by have := HG.out; show w.heap.size + 1 < g; omega))
            have HB6 := Lib.hid (HB5.out.trans (hb.mono (by have := HG.out; show w.heap.size ≤ g; omega)))
            have HS6 := Lib.hid hS
            clear hb hS
            have q5 : IntKind.i64.wrap ((p : Int) + (m : Int)) = ((p + m : Nat) : Int) := by rw [IntKind.wrap_i64]; omega
            go_wp2
            go_roundw
            case rel => exact ⟨p + m, by go_num, hle, j + 1, st', Lib.hid HNe.out.symm, (by omega), HS6.out, HGn.out, HRun.out.symm, HA6.out, HZ6.out, HF6.out, HB6.out⟩
            case measure => simp [intOf]; omega
        · obtain rfl : p = k := by omega
          have q1 : ¬ (p : Int) < (p : Int) := by omega
          have hje : j = its.length := by
            rcases Nat.lt_or_ge j its.length with h | h
            · exfalso
              have h1 := Ink.pos_le (List.getElem?_eq_getElem h)
              have h2 := Ink.ls_pos its[j]
              rw [← hpj.out, HNl.out] at h1
              omega
            · omega
          have hX3 := HX2.out
          rw [hje, List.drop_length] at hX3
          have HX3 : Hid (Sum.inr st = X) := hX3
          obtain ⟨np, nmv, kv, evs, hR, _⟩ := HSt.out
          obtain ⟨vA, vc, rfl, _⟩ := own_slice hR.keys
          obtain ⟨sl, hsl⟩ : ∃ n, st.length = n := ⟨_, rfl⟩
          rw [hsl] at hR
          have HR := Lib.hid hR
          have r1 := hR.at_.cell 0 _ rfl
          have r2 := hR.at_.lt
          have z1 := HZ.out.free 0 _ rfl
          have z2 := HF.out.free 0 _ rfl
          have z3 := HF.out.free 1 _ rfl
          have z4 := HF.out.free 2 _ rfl
          have z5 := HZ.out.lt
          have y1 := HZ.out.cell 0 _ rfl
          have y2 := HF.out.cell 0 _ rfl
          have y3 := HF.out.cell 1 _ rfl
          have y4 := HF.out.cell 2 _ rfl
          have z6 := HF.out.lt
          clear hX3 hR
          go_wp2_with fail
          have HQ := Lib.hid (Ink.boxes HZ.out HF.out (.slice vA sl vc) (.int .i64 0) (.int .i64 0) (.int .i64 0))
          have HQB := Lib.hid (Ink.boxes_below HB.out (.slice vA sl vc) (.int .i64 0) (.int .i64 0) (.int .i64 0))
          have HQR := Lib.hid (Ink.boxes_rd HR.out (a := w.heap.size) (by have := HG.out; omega) (.slice vA sl vc) (.int .i64 0) (.int .i64 0) (.int .i64 0))
          refine bodyPost_ret (Ink.parse_results rfl rfl HQ.out.1 HQ.out.2) rfl ⟨HQB.out, ?_⟩
          rw [← HX3.out]
          exact ⟨_, evs, rfl, HQR.out.hive⟩
end Go.Proofs.YtmnolcjmnddbnaaGreatDoor

/- The shelf's contracts of strings.Builder's writers at a dump where the shelf lays no strings.Join: the tables of numbers written by hand. -/
namespace Go.Proofs
open Go.Shelf Go.RowKit

def Tryz.pr_ren : Go.Shelf.Ren := ⟨fun | 166 => 31 | 167 => 17 | 240 => 34 | 276 => 55 | n => n, (fun | 0 => 0 | 3 => 3 | 4 => 4 | 5 => 5 | 9 => 9 | 20 => 20 | 37 => 31 | 70 => 52 | 72 => 54 | 75 => 58 | 76 => 78 | 80 => 56 | 127 => 85 | 164 => 103 | n => n), fun | n => n⟩
theorem Tryz.pr166 : Lays.n166 Tryz.prog Tryz.pr_ren := {
  mixed := by kernel_rfl
  t0 := Tryz.underlying0
  a0 := Tryz.isAgg0
  z0 := Tryz.sizeOf0
  v0 := Tryz.zeroValue0
  t3 := Tryz.underlying3
  a3 := Tryz.isAgg3
  z3 := Tryz.sizeOf3
  v3 := Tryz.zeroValue3
  t4 := Tryz.underlying4
  a4 := Tryz.isAgg4
  z4 := Tryz.sizeOf4
  v4 := Tryz.zeroValue4
  t9 := Tryz.underlying9
  a9 := Tryz.isAgg9
  z9 := Tryz.sizeOf9
  v9 := Tryz.zeroValue9
  t20 := Tryz.underlying20
  a20 := Tryz.isAgg20
  z20 := Tryz.sizeOf20
  v20 := Tryz.zeroValue20
  t37 := Tryz.underlying31
  a37 := Tryz.isAgg31
  z37 := Tryz.sizeOf31
  v37 := Tryz.zeroValue31
  t70 := Tryz.underlying52
  a70 := Tryz.isAgg52
  z70 := Tryz.sizeOf52
  v70 := Tryz.zeroValue52
  t72 := Tryz.underlying54
  a72 := Tryz.isAgg54
  z72 := Tryz.sizeOf54
  v72 := Tryz.zeroValue54
  t75 := Tryz.underlying58
  a75 := Tryz.isAgg58
  z75 := Tryz.sizeOf58
  v75 := Tryz.zeroValue58
  t164 := Tryz.underlying103
  a164 := Tryz.isAgg103
  z164 := Tryz.sizeOf103
  v164 := Tryz.zeroValue103
  f166 := Tryz.func31.trans (congrArg some (by kernel_rfl))
  f240 := Tryz.func34.trans (congrArg some (by kernel_rfl))
  f276 := Tryz.func55.trans (congrArg some (by kernel_rfl)) }
theorem Tryz.pr167 : Lays.n167 Tryz.prog Tryz.pr_ren := {
  mixed := by kernel_rfl
  t0 := Tryz.underlying0
  a0 := Tryz.isAgg0
  z0 := Tryz.sizeOf0
  v0 := Tryz.zeroValue0
  t4 := Tryz.underlying4
  a4 := Tryz.isAgg4
  z4 := Tryz.sizeOf4
  v4 := Tryz.zeroValue4
  t5 := Tryz.underlying5
  a5 := Tryz.isAgg5
  z5 := Tryz.sizeOf5
  v5 := Tryz.zeroValue5
  t9 := Tryz.underlying9
  a9 := Tryz.isAgg9
  z9 := Tryz.sizeOf9
  v9 := Tryz.zeroValue9
  t20 := Tryz.underlying20
  a20 := Tryz.isAgg20
  z20 := Tryz.sizeOf20
  v20 := Tryz.zeroValue20
  t37 := Tryz.underlying31
  a37 := Tryz.isAgg31
  z37 := Tryz.sizeOf31
  v37 := Tryz.zeroValue31
  t70 := Tryz.underlying52
  a70 := Tryz.isAgg52
  z70 := Tryz.sizeOf52
  v70 := Tryz.zeroValue52
  t72 := Tryz.underlying54
  a72 := Tryz.isAgg54
  z72 := Tryz.sizeOf54
  v72 := Tryz.zeroValue54
  t75 := Tryz.underlying58
  a75 := Tryz.isAgg58
  z75 := Tryz.sizeOf58
  v75 := Tryz.zeroValue58
  t164 := Tryz.underlying103
  a164 := Tryz.isAgg103
  z164 := Tryz.sizeOf103
  v164 := Tryz.zeroValue103
  f167 := Tryz.func17.trans (congrArg some (by kernel_rfl))
  f240 := Tryz.func34.trans (congrArg some (by kernel_rfl))
  f276 := Tryz.func55.trans (congrArg some (by kernel_rfl)) }
theorem Tryz.prX : Builder.Extra Tryz.prog Tryz.pr_ren := {
  sizeBuilder := by kernel_rfl
  liesBuilder := by kernel_rfl
  t5 := Tryz.underlying5
  a5 := Tryz.isAgg5
  z5 := Tryz.sizeOf5
  v5 := Tryz.zeroValue5
  infoByte := by kernel_rfl
  cellsByte := by kernel_rfl
  sizeByte := by kernel_rfl
  neB5 := by decide }
theorem Tryz.prWriteByte (B b : Nat) (bs : List Value) (c : Int) (w : World) (h : Lib.IsBuilderF 54 5 B b bs w) (hlen : bs.length + 1 ≤ 140737488355328) (hBw : B ≤ w.heap.size) :
    Calls Tryz.prog 17 #[.pointer (some ⟨b, 0, none⟩), .int .u8 c] w fun e w' => e = .returned .nilIface ∧ (Lib.BuilderAtF 54 5 B b (.pointer (some ⟨b, 0, none⟩)) (bs ++ [.int .u8 c]) w' ∧ Below B w w' ∧ Lib.OthersKept 5 (some b) w w') :=
  Any.Builder_WriteByte_k Tryz.pr167 Tryz.prX B b bs c w h hlen hBw
theorem Tryz.prWriteString (B b : Nat) (bs : List Value) (s : ByteArray) (w : World) (h : Lib.IsBuilderF 54 5 B b bs w) (hlen : bs.length + s.size ≤ 140737488355328) (hBw : B ≤ w.heap.size) :
    Calls Tryz.prog 31 #[.pointer (some ⟨b, 0, none⟩), .string s] w fun e w' => e = .returned (.tuple #[.int .i64 s.size, .nilIface]) ∧ (Lib.BuilderAtF 54 5 B b (.pointer (some ⟨b, 0, none⟩)) (bs ++ Lib.strCells s) w' ∧ Below B w w' ∧ Lib.OthersKept 5 (some b) w w') :=
  Any.Builder_WriteString_k Tryz.pr166 Tryz.prX B b bs s w h hlen hBw
end Go.Proofs

/- emit.Quote: a quoted text. -/
namespace Go.Proofs.YtmnolcjmnddbnaaGreatDoor
open Go.RowKit

namespace Em
/-- A builder in block b, that holds these bytes. -/
abbrev IsB (w : World) (b : Nat) (l : Txt) : Prop := Lib.IsBuilderF 54 5 b b (Lib.byteCells l) w
theorem atF_call {w w' : World} {B b : Nat} {T e : TypeId} {p : Value} {bs : List Value} (h : Lib.BuilderAtF T e B b p bs w) (hb : Below w.heap.size w w') : Lib.BuilderAtF T e B b p bs w' := by
  have hlt := h.lt
  obtain ⟨hB, v, hbk, hown, hne⟩ := h
  refine ⟨hB, v, (hb.block b hlt).trans hbk, ?_, hne⟩
  refine hown.kept (row := none) ⟨hb.os, hb.tape, hb.output, hb.size, fun k hk _ => hb.block k hk⟩ ?_
  cases v.ownBlock <;> simp
theorem IsB.call {w w' : World} {b : Nat} {l : Txt} (h : IsB w b l) (hb : Below w.heap.size w w') : IsB w' b l := h.elim (fun x => .inl (atF_call x hb)) (fun x => .inr (atF_call x hb))
theorem IsB.lt {w : World} {b : Nat} {l : Txt} (h : IsB w b l) : b < w.heap.size := h.elim (fun x => x.lt) (fun x => x.lt)
theorem bytes_app (a b : Txt) : Lib.byteCells (a ++ b) = Lib.byteCells a ++ Lib.byteCells b := by unfold Lib.byteCells; rw [List.map_append]
theorem bytes_one (l : Txt) (c : UInt8) : Lib.byteCells l ++ [.int .u8 (c.toNat : Int)] = Lib.byteCells (l ++ [c]) := by rw [bytes_app]; rfl
theorem bytes_str (l t : Txt) : Lib.byteCells l ++ Lib.strCells (bts t) = Lib.byteCells (l ++ t) := by rw [bytes_app]; rfl
theorem cells_len (l : Txt) : (Lib.byteCells l).length = l.length := by unfold Lib.byteCells; rw [List.length_map]
/-- A byte more. -/
theorem putB {g : Nat} {l : Txt} {w : World} (c : UInt8) (h : IsB w g l) (hl : l.length ≤ 100000000000000) :
    Calls Tryz.prog 17 #[.pointer (some ⟨g, 0, none⟩), .int .u8 (c.toNat : Int)] w fun e w' => e = .returned .nilIface ∧ IsB w' g (l ++ [c]) ∧ Below g w w' ∧ Lib.OthersKept 5 (some g) w w' :=
  (Tryz.prWriteByte g g _ (c.toNat : Int) w h (by rw [cells_len]; omega) (Nat.le_of_lt h.lt)).mono fun _ _ h2 => ⟨h2.1, by show Lib.IsBuilderF _ _ _ _ _ _; rw [← bytes_one]; exact .inr h2.2.1, h2.2.2.1, h2.2.2.2⟩
/-- A text more. -/
theorem putS {g : Nat} {l : Txt} {w : World} (t : ByteArray) (h : IsB w g l) (hl : l.length ≤ 100000000000000) (ht : t.size ≤ 100000000) :
    Calls Tryz.prog 31 #[.pointer (some ⟨g, 0, none⟩), .string t] w fun e w' => e = .returned (.tuple #[.int .i64 t.size, .nilIface]) ∧ IsB w' g (l ++ tl t) ∧ Below g w w' ∧ Lib.OthersKept 5 (some g) w w' :=
  (Tryz.prWriteString g g _ t w h (by rw [cells_len]; omega) (Nat.le_of_lt h.lt)).mono fun _ _ h2 => ⟨h2.1, by show Lib.IsBuilderF _ _ _ _ _ _; rw [← bytes_str]; exact .inr h2.2.1, h2.2.2.1, h2.2.2.2⟩
theorem tl_bts_ (l : Txt) : tl (bts l) = l := rfl
theorem tl_take_next (s : ByteArray) (k : Nat) (h : k < s.size) : (tl s).take (k + 1) = (tl s).take k ++ [s[k]] := by
  unfold tl
  rw [List.take_succ_eq_append_getElem (by simpa using h)]
  rfl
theorem esc_cases (b : UInt8) : (esc1 b = [92] ++ [b] ∧ ((b.toNat : Int) == 92) = true) ∨ (esc1 b = [92] ++ [b] ∧ ((b.toNat : Int) == 92) = false ∧ ((b.toNat : Int) == 34) = true) ∨ (esc1 b = [b] ∧ ((b.toNat : Int) == 92) = false ∧ ((b.toNat : Int) == 34) = false) := by
  have : ∀ b : UInt8, (esc1 b = [92] ++ [b] ∧ ((b.toNat : Int) == 92) = true) ∨ (esc1 b = [92] ++ [b] ∧ ((b.toNat : Int) == 92) = false ∧ ((b.toNat : Int) == 34) = true) ∨ (esc1 b = [b] ∧ ((b.toNat : Int) == 92) = false ∧ ((b.toNat : Int) == 34) = false) := by
    intro b
    have h : ∀ n : Fin 256, (esc1 (UInt8.ofNat n) = [92] ++ [UInt8.ofNat n] ∧ (((UInt8.ofNat n).toNat : Int) == 92) = true) ∨ (esc1 (UInt8.ofNat n) = [92] ++ [UInt8.ofNat n] ∧ (((UInt8.ofNat n).toNat : Int) == 92) = false ∧ (((UInt8.ofNat n).toNat : Int) == 34) = true) ∨ (esc1 (UInt8.ofNat n) = [UInt8.ofNat n] ∧ (((UInt8.ofNat n).toNat : Int) == 92) = false ∧ (((UInt8.ofNat n).toNat : Int) == 34) = false) := by decide +kernel
    have h2 := h ⟨b.toNat, b.toNat_lt⟩
    simpa using h2
  exact this b
def QAt (w : World) (s : ByteArray) (i : Value) (wr : World) : Prop :=
  ∃ k : Nat, k ≤ s.size ∧ i = .int .i64 (k : Int) ∧ Hid (IsB wr w.heap.size (34 :: esc ((tl s).take k))) ∧ Hid (Below w.heap.size w wr)
theorem q_len {s : ByteArray} (k : Nat) (h : s.size ≤ 100000000) : (34 :: esc ((tl s).take k)).length ≤ 200000001 := by
  have := esc_len ((tl s).take k)
  rw [List.length_take, tl_length] at this
  rw [List.length_cons]
  omega
theorem q_next (s : ByteArray) (k : Nat) (h : k < s.size) (b : UInt8) (hb : s[k] = b) : (34 :: esc ((tl s).take (k + 1))) = (34 :: esc ((tl s).take k)) ++ esc1 b := by
  rw [tl_take_next s k h, esc_snoc, hb]; rfl
end Em
set_option maxHeartbeats 4000000 in
set_option maxRecDepth 100000 in
theorem quote_any (s : ByteArray) (hs : s.size ≤ 100000000) (w : World) :
    Calls Tryz.prog 6 #[.string s] w fun e w' => e = .returned (.string (Em.bts (Em.quote (tl s)))) ∧ Below w.heap.size w w' := by
  go_enter Tryz.func6, Tryz.ntmps6
  go_wp2_with fail
  refine (Em.putB (g := w.heap.size) (l := []) 34 (Lib.IsBuilderF.of (Lib.fresh_isBuilder _ _ w)) (by simp)).mono ?_
  rintro e w1 ⟨rfl, hI, hb, _⟩
  have HI1 := Lib.hid hI
  have HB1 := Lib.hid ((Hv.bl1 w (.cells #[.pointer none, .slice none 0 0] 54)).trans hb)
  clear hI hb
  go_wp2_with fail
  go_loopw [4] (fun i wr => Em.QAt w s i wr) (fun i _ => s.size - (intOf i).toNat)
  case atStart => exact ⟨0, Nat.zero_le _, rfl, HI1.out, HB1.out⟩
  case round =>
    obtain ⟨k, hk, rfl, HI, HB⟩ := hrel
    by_cases hlt : k < s.size
    · have q1 : (0 : Int) ≤ (k : Int) := by omega
      have q2 : (k : Int) < (s.size : Int) := by omega
      obtain ⟨b, hb⟩ : ∃ b, s[k]'hlt = b := ⟨_, rfl⟩
      have HN := Lib.hid (Em.q_next s k hlt b hb)
      have HL := Lib.hid (Em.q_len (s := s) k hs)
      rcases Em.esc_cases b with ⟨hE, p1⟩ | ⟨hE, p1, p2⟩ | ⟨hE, p1, p2⟩
      · have HE := Lib.hid hE
        clear hE
        have hbk := hb
        go_wp2_with fail
        refine (Em.putB 92 HI.out (by have := HL.out; omega)).mono ?_
        rintro e w2 ⟨rfl, hI, hb2, _⟩
        have HI2 := Lib.hid hI
        have HB2 := Lib.hid (HB.out.trans hb2)
        clear hI hb2
        go_wp2_with fail
        refine (Em.putB b HI2.out (by have := HL.out; rw [List.length_append]; simp; simp at this; omega)).mono ?_
        rintro e w9 ⟨rfl, hI, hb9, _⟩
        have HI9 : Hid (Em.IsB w9 w.heap.size (34 :: Em.esc ((tl s).take (k + 1)))) := by
          show Em.IsB _ _ _
          rw [HN.out, HE.out]
          first | exact hI | (rw [List.append_assoc] at hI; exact hI)
        have HB9 := Lib.hid (HB2.out.trans hb9)
        clear hI hb9
        go_wp2
        go_roundw
        case rel => exact ⟨k + 1, by omega, by go_num, HI9.out, HB9.out⟩
        case measure => simp [intOf]; omega
      · have HE := Lib.hid hE
        clear hE
        go_wp2_with fail
        refine (Em.putB 92 HI.out (by have := HL.out; omega)).mono ?_
        rintro e w2 ⟨rfl, hI, hb2, _⟩
        have HI2 := Lib.hid hI
        have HB2 := Lib.hid (HB.out.trans hb2)
        clear hI hb2
        go_wp2_with fail
        refine (Em.putB b HI2.out (by have := HL.out; rw [List.length_append]; simp; simp at this; omega)).mono ?_
        rintro e w9 ⟨rfl, hI, hb9, _⟩
        have HI9 : Hid (Em.IsB w9 w.heap.size (34 :: Em.esc ((tl s).take (k + 1)))) := by
          show Em.IsB _ _ _
          rw [HN.out, HE.out]
          first | exact hI | (rw [List.append_assoc] at hI; exact hI)
        have HB9 := Lib.hid (HB2.out.trans hb9)
        clear hI hb9
        go_wp2
        go_roundw
        case rel => exact ⟨k + 1, by omega, by go_num, HI9.out, HB9.out⟩
        case measure => simp [intOf]; omega
      · have HE := Lib.hid hE
        clear hE
        go_wp2_with fail
        refine (Em.putB b HI.out (by have := HL.out; omega)).mono ?_
        rintro e w9 ⟨rfl, hI, hb9, _⟩
        have HI9 : Hid (Em.IsB w9 w.heap.size (34 :: Em.esc ((tl s).take (k + 1)))) := by
          show Em.IsB _ _ _
          rw [HN.out, HE.out]
          first | exact hI | (rw [List.append_assoc] at hI; exact hI)
        have HB9 := Lib.hid (HB.out.trans hb9)
        clear hI hb9
        go_wp2
        go_roundw
        case rel => exact ⟨k + 1, by omega, by go_num, HI9.out, HB9.out⟩
        case measure => simp [intOf]; omega
    · have q2 : ¬ (k : Int) < (s.size : Int) := by omega
      have hI := HI.out
      rw [List.take_of_length_le (by rw [tl_length]; omega)] at hI
      have HI2 := Lib.hid hI
      have HQ := Lib.hid (Em.quote_len (tl s))
      have HL : Hid ((34 :: Em.esc (tl s)).length ≤ 200000001) := by
        show _ ≤ _
        have := Em.esc_len (tl s)
        rw [tl_length] at this
        rw [List.length_cons]
        omega
      clear hI
      go_wp2_with fail
      refine (Em.putB 34 HI2.out (by have := HL.out; omega)).mono ?_
      rintro e w2 ⟨rfl, hI, hb, _⟩
      have HI3 := Lib.hid hI
      have HB2 := Lib.hid (HB.out.trans hb)
      clear hI hb
      go_wp2_with fail
      refine (Tryz.Builder_String_any_k w.heap.size w.heap.size _ w2 HI3.out (Nat.le_of_lt HI3.out.lt)).mono ?_
      rintro e w3 ⟨rfl, _, hb, _⟩
      have HB3 := Lib.hid (HB2.out.trans hb)
      clear hb
      go_wp2
      go_ret
      exact ⟨rfl, HB3.out⟩
end Go.Proofs.YtmnolcjmnddbnaaGreatDoor
