/- print.put, and print.Text of a right source. -/
import Derived.Test.YtlhoggalhjadgaaGreatDoorK34

namespace Go.Proofs.YtlhoggalhjadgaaGreatDoor
open Go.RowKit

namespace Pr
open Go.Proofs.YtlhoggalhjadgaaGreatDoor.Src
/-- A builder in block b, that holds these bytes. -/
abbrev IsB (w : World) (b : Nat) (l : Txt) : Prop := Lib.IsBuilderF 66 5 b b (Lib.byteCells l) w
theorem atF_call {w w' : World} {B b : Nat} {T e : TypeId} {p : Value} {bs : List Value} (h : Lib.BuilderAtF T e B b p bs w) (hb : Below w.heap.size w w') : Lib.BuilderAtF T e B b p bs w' := by
  have hlt := h.lt
  obtain ⟨hB, v, hbk, hown, hne⟩ := h
  refine ⟨hB, v, (hb.block b hlt).trans hbk, ?_, hne⟩
  refine hown.kept (row := none) ⟨hb.os, hb.tape, hb.output, hb.size, fun k hk _ => hb.block k hk⟩ ?_
  cases v.ownBlock <;> simp
theorem IsB.call {w w' : World} {b : Nat} {l : Txt} (h : IsB w b l) (hb : Below w.heap.size w w') : IsB w' b l := h.elim (fun x => .inl (atF_call x hb)) (fun x => .inr (atF_call x hb))
theorem IsB.lt {w : World} {b : Nat} {l : Txt} (h : IsB w b l) : b < w.heap.size := h.elim (fun x => x.lt) (fun x => x.lt)
theorem IsB.block {w : World} {b : Nat} {l : Txt} (h : IsB w b l) : ∃ cs, w.heap[b]? = some (.cells cs 66 (0, 0)) := by
  rcases h with ⟨_, v, hb, _⟩ | ⟨_, v, hb, _⟩
  · exact ⟨_, hb⟩
  · exact ⟨_, hb⟩
def flat (ls : List ByteArray) : Txt := ls.flatMap fun s => tl s ++ [10]
theorem flat_app (a b : List ByteArray) : flat (a ++ b) = flat a ++ flat b := by unfold flat; rw [List.flatMap_append]
theorem flat_one (s : ByteArray) : flat [s] = tl s ++ [10] := by unfold flat; simp
theorem flat_take (ls : List ByteArray) (k : Nat) : (flat (ls.take k)).length ≤ (flat ls).length := by
  have h := flat_app (ls.take k) (ls.drop k)
  rw [List.take_append_drop] at h
  rw [h, List.length_append]
  omega
theorem flat_lns (ls : List Line) : flat (ls.map ltb) = ls.flatMap ltn := by
  unfold flat
  rw [List.flatMap_map]
  have : (fun a => tl (ltb a) ++ [10]) = ltn := by funext a; rw [ltb_tl]; rfl
  rw [this]
theorem bytes_app (a b : Txt) : Lib.byteCells (a ++ b) = Lib.byteCells a ++ Lib.byteCells b := by unfold Lib.byteCells; rw [List.map_append]
theorem bytes_str (l : Txt) (s : ByteArray) : Lib.byteCells l ++ Lib.strCells s ++ [.int .u8 10] = Lib.byteCells (l ++ flat [s]) := by
  rw [flat_one, bytes_app, bytes_app, List.append_assoc]
  rfl
theorem LinesAt.kept {w w' : World} {g b : Nat} {ls : List ByteArray} {l : Txt} (h : LinesAt w g ls) (hb : IsB w b l) (hk : Lib.OthersKept 5 (some b) w w') : LinesAt w' g ls := by
  obtain ⟨cur, fz, hg, hc⟩ := h
  refine ⟨cur, fz, hk g _ hg ?_ ?_, hc⟩
  · intro e
    injection e with e
    subst e
    obtain ⟨cs, h2⟩ := hb.block
    rw [hg] at h2
    simp at h2
  · intro c fz' e
    simp at e
end Pr
def PRel (b g n : Nat) (w : World) (l : Src.Txt) (ls : List ByteArray) (i : Value) (wr : World) : Prop :=
  ∃ k : Nat, k ≤ n ∧ i = .int .i64 k ∧ Hid (Pr.IsB wr b (l ++ Pr.flat (ls.take k))) ∧ Hid (Pr.LinesAt wr g ls) ∧ Hid (Below b w wr)
set_option maxHeartbeats 2000000 in
set_option maxRecDepth 100000 in
/-- print.put: each line, and a line's end. -/
theorem put_any (b g n c : Nat) (l : Src.Txt) (ls : List ByteArray) (w : World) (hn : ls.length = n) (hn6 : n ≤ 1000000) (h : Pr.IsB w b l) (hg : Pr.LinesAt w g ls) (hz : l.length + (Pr.flat ls).length ≤ 140737488355327) :
    Calls Tryz.prog 17 #[.pointer (some ⟨b, 0, none⟩), .slice (some ⟨g, 0, none⟩) n c] w fun e w' => e = .returned (.tuple #[]) ∧ Pr.IsB w' b (l ++ Pr.flat ls) ∧ Below b w w' := by
  obtain ⟨ad, had⟩ : ∃ a, (⟨g, 0, none⟩ : Addr) = a := ⟨_, rfl⟩
  have hcell : ∀ W : World, Pr.LinesAt W g ls → ∀ j s, ls[j]? = some s → W.cell? (ad.add j) = some (.string s) := fun W ⟨cur, fz, h1, h2⟩ j s hs => by
    have e : ad.add j = ⟨g, j, none⟩ := by
      rw [← had]
      unfold Addr.add
      rcases Nat.eq_zero_or_pos j with h0 | h0
      · subst h0; rfl
      · simp [show ¬ j = 0 by omega]
    rw [e, Lib.cell_of_heap h1]
    exact h2 j s hs
  rw [had]
  have HCell := Lib.hid hcell
  have HN := Lib.hid hn
  have HI := Lib.hid h
  have HG := Lib.hid hg
  have HZ := Lib.hid hz
  have hft := Lib.hid (Pr.flat_take ls)
  clear hcell had hn h hg hz
  go_enter Tryz.func17, Tryz.ntmps17
  go_wp2
  go_loopw [8] (fun i wr => PRel b g n w l ls i wr) (fun i _ => n - (intOf i).toNat)
  case atStart => exact ⟨0, Nat.zero_le _, rfl, (by rw [List.take_zero, show Pr.flat [] = [] from rfl, List.append_nil]; exact HI.out), HG.out, Below.refl _ _⟩
  case round =>
    obtain ⟨k, hk, rfl, HK, HL, HB⟩ := hrel
    by_cases hlt : k < n
    · have q3 : (0 : Int) ≤ (k : Int) := by omega
      have q4 : (k : Int) < (n : Int) := by omega
      obtain ⟨x, hx⟩ : ∃ x, ls[k]? = some x := ⟨_, List.getElem?_eq_getElem (by rw [HN.out]; exact hlt)⟩
      have c0 := HCell.out wr HL.out k x hx
      have hnx : ls.take (k + 1) = ls.take k ++ [x] := Pr.take_next hx
      have hz1 : (l ++ Pr.flat (ls.take k)).length + (tl x).length + 1 ≤ 140737488355327 := by
        have h1 := hft.out (k + 1)
        have h2 := HZ.out
        rw [hnx, Pr.flat_app, List.length_append, Pr.flat_one, List.length_append] at h1
        rw [List.length_append]
        simp at h1
        omega
      rw [tl_length] at hz1
      have HNx := Lib.hid hnx
      have HZ1 := Lib.hid hz1
      clear hx hnx hz1
      go_wp2_with fail
      refine (Tryz.prWriteString b b _ x wr HK.out (by rw [Lib.byteCells_length]; have := HZ1.out; omega) (Nat.le_of_lt HK.out.lt)).mono ?_
      rintro e w1 ⟨rfl, hbu, hbe, hok⟩
      have HL1 := Lib.hid (HL.out.kept HK.out hok)
      have HBu := Lib.hid hbu
      have HBe := Lib.hid hbe
      clear hbu hbe hok c0
      go_wp2_with fail
      refine (Tryz.prWriteByte b b _ 10 w1 (.inr HBu.out) (by rw [List.length_append, Lib.byteCells_length, Lib.strCells_length]; have := HZ1.out; omega) (Nat.le_of_lt HBu.out.lt)).mono ?_
      rintro e w2 ⟨rfl, hbu, hbe, hok⟩
      have HI1 := Lib.hid (show Pr.IsB w2 b (l ++ Pr.flat (ls.take (k + 1))) by
        rw [Pr.bytes_str] at hbu
        rw [HNx.out, Pr.flat_app, ← List.append_assoc]
        exact .inr hbu)
      have HL2 := Lib.hid (show Pr.LinesAt w2 g ls from by
        have hB1 := HBu.out
        rw [show Lib.byteCells (l ++ Pr.flat (ls.take k)) ++ Lib.strCells x = Lib.byteCells (l ++ Pr.flat (ls.take k) ++ tl x) from (Pr.bytes_app _ _).symm] at hB1
        exact HL1.out.kept (.inr hB1) hok)
      have HB2 := Lib.hid ((HB.out.trans HBe.out).trans hbe)
      clear hbu hbe hok
      go_wp2
      go_roundw
      case rel => exact ⟨k + 1, by omega, by go_num, HI1.out, HL2.out, HB2.out⟩
      case measure => simp [intOf]; omega
    · have q4 : ¬ (k : Int) < (n : Int) := by omega
      have hkn : k = n := by omega
      subst hkn
      have hI := HK.out
      rw [List.take_of_length_le (by rw [HN.out]; exact Nat.le_refl _)] at hI
      have HI' := Lib.hid hI
      clear hI
      go_wp2
      go_end0
      exact ⟨rfl, HI'.out, HB.out⟩

namespace Pr
open Go.Proofs.YtlhoggalhjadgaaGreatDoor.Src
theorem rk_rt {s : S} (h : Rk s) (ho : s.op = false) : Rt s := by
  have hz := h.zones.2
  rw [ho] at hz
  refine ⟨⟨h.rules.1, fun r hr => (h.rules.2 r hr).1⟩, ⟨h.zones.1, ?_⟩, h.links⟩
  rw [ho]
  have mono : ∀ zs : List (Txt × List Er.E), ZonesOk own RkE false zs → ZonesOk own Er.E.Ok false zs := by
    intro zs
    induction zs with
    | nil => intro h; exact h
    | cons z l ih =>
      intro h
      cases l with
      | nil => exact ⟨⟨h.1.1, h.1.2.1, fun e he => (h.1.2.2 e he).1⟩, h.2⟩
      | cons y l => exact ⟨⟨h.1.1, h.1.2.1, fun e he => (h.1.2.2 e he).1⟩, h.2.1, ih h.2.2⟩
  exact mono _ hz
def rulesT (s : S) (k : Nat) : Txt := ((s.rules.take k).map ofRule).flatMap ltn
def zonesT (s : S) (k : Nat) : Txt := ((s.zones.take k).flatMap ofZone).flatMap ltn
def linksT (s : S) (k : Nat) : Txt := ((s.links.take k).map ofLink).flatMap ltn
theorem ltb_false (ws : List ByteArray) : ltb (false, ws) = Sc.line ws := by
  unfold ltb
  rw [if_neg (show ¬ (false = true) by decide)]
  exact ByteArray.empty_append
theorem rulesT_next {s : S} {k : Nat} {r : Ru.R} (h : s.rules[k]? = some r) : rulesT s (k + 1) = rulesT s k ++ flat [Sc.line (ofRule r).2] := by
  unfold rulesT
  rw [take_next h, List.map_append, List.flatMap_append, flat_one]
  show _ ++ List.flatMap ltn [ofRule r] = _
  rw [← ltb_false, ltb_tl]
  simp [ltn]
  rfl
theorem linksT_next {s : S} {k : Nat} {r : Txt × Txt} (h : s.links[k]? = some r) : linksT s (k + 1) = linksT s k ++ flat [Sc.line (ofLink r).2] := by
  unfold linksT
  rw [take_next h, List.map_append, List.flatMap_append, flat_one]
  show _ ++ List.flatMap ltn [ofLink r] = _
  rw [← ltb_false, ltb_tl]
  simp [ltn]
  rfl
theorem zonesT_next {s : S} {k : Nat} {z : Txt × List Er.E} (h : s.zones[k]? = some z) : zonesT s (k + 1) = zonesT s k ++ flat (zl z) := by
  unfold zonesT zl
  rw [take_next h, List.flatMap_append, List.flatMap_append, flat_lns]
  simp
theorem text_parts (s : S) : text s = rulesT s s.rules.length ++ zonesT s s.zones.length ++ linksT s s.links.length := by
  unfold text lns rulesT zonesT linksT
  rw [List.flatMap_append, List.flatMap_append, List.take_length, List.take_length, List.take_length, List.append_assoc]
theorem rulesT_le (s : S) (k : Nat) : (rulesT s k).length ≤ (rulesT s s.rules.length).length := by
  unfold rulesT
  rw [List.take_length]
  have h : ((s.rules.take k ++ s.rules.drop k).map ofRule).flatMap ltn = ((s.rules.take k).map ofRule).flatMap ltn ++ ((s.rules.drop k).map ofRule).flatMap ltn := by rw [List.map_append, List.flatMap_append]
  rw [List.take_append_drop] at h
  rw [h, List.length_append]
  omega
theorem linksT_le (s : S) (k : Nat) : (linksT s k).length ≤ (linksT s s.links.length).length := by
  unfold linksT
  rw [List.take_length]
  have h : ((s.links.take k ++ s.links.drop k).map ofLink).flatMap ltn = ((s.links.take k).map ofLink).flatMap ltn ++ ((s.links.drop k).map ofLink).flatMap ltn := by rw [List.map_append, List.flatMap_append]
  rw [List.take_append_drop] at h
  rw [h, List.length_append]
  omega
theorem zonesT_le (s : S) (k : Nat) : (zonesT s k).length ≤ (zonesT s s.zones.length).length := by
  unfold zonesT
  rw [List.take_length]
  have h : ((s.zones.take k ++ s.zones.drop k).flatMap ofZone).flatMap ltn = ((s.zones.take k).flatMap ofZone).flatMap ltn ++ ((s.zones.drop k).flatMap ofZone).flatMap ltn := by rw [List.flatMap_append, List.flatMap_append]
  rw [List.take_append_drop] at h
  rw [h, List.length_append]
  omega
theorem lines_new (w : World) (s : ByteArray) : LinesAt (w.alloc (.cells #[.string s] 9)) w.heap.size [s] := ⟨#[.string s], (0, 0), heap_alloc_new w _, fun j x h => by
  cases j with
  | zero => simp at h; subst h; rfl
  | succ j => simp at h⟩
end Pr
end Go.Proofs.YtlhoggalhjadgaaGreatDoor

/- print.Text of a right source. -/
namespace Go.Proofs.YtlhoggalhjadgaaGreatDoor
open Go.RowKit

def TRel (b n : Nat) (T : Nat → Src.Txt) (w2 : World) (i : Value) (wr : World) : Prop :=
  ∃ k : Nat, k ≤ n ∧ i = .int .i64 k ∧ Hid (Pr.IsB wr b (T k)) ∧ Hid (Below b w2 wr)
theorem own_lt {w : World} {b : Nat} {l : Src.Txt} (h : Pr.IsB w b l) : b ≤ w.heap.size := Nat.le_of_lt h.lt
set_option maxHeartbeats 8000000 in
set_option maxRecDepth 100000 in
theorem prText_ok (s : Src.S) (rv zv lv : Value) (evs : List Value) (w : World) (hW : We w) (hR : Src.SrcR w w.heap.size s rv zv lv evs) (hs : Pr.Rk s) (ho : s.op = false) (hz : (Pr.text s).length ≤ 1048576) :
    Calls Tryz.prog 8 #[.agg #[rv, zv, lv]] w fun e w' => e = .returned (.tuple #[.string (Src.bts (Pr.text s)), .int .i64 0]) ∧ Below w.heap.size w w' := by
  have hrt := Pr.rk_rt hs ho
  have hC := fun W hw hr => srcCheck_any s rv zv lv evs W hw hr (Src.right_lims hrt) (Src.right_sm hrt ho)
  rw [Src.right_srcB hrt ho, if_pos rfl] at hC
  have hRo : ∀ r ∈ s.rules, Pr.RkR r := hs.rules.2
  have hZo : ∀ z ∈ s.zones, Src.Base Src.own Pr.RkE z ∧ Src.Done Src.own z := by have := hs.zones.2; rw [ho] at this; exact Pr.zones_done _ this
  have hLo : ∀ k ∈ s.links, Ru.name k.1 = true ∧ Ru.name k.2 = true := hs.links.2
  have hpt := Pr.text_parts s
  have hrn := fun k r h => Pr.rulesT_next (s := s) (k := k) (r := r) h
  have hzn := fun k r h => Pr.zonesT_next (s := s) (k := k) (z := r) h
  have hln := fun k r h => Pr.linksT_next (s := s) (k := k) (r := r) h
  have hrl := Pr.rulesT_le s
  have hzl := Pr.zonesT_le s
  have hll := Pr.linksT_le s
  have hr0 : Pr.rulesT s 0 = [] := by unfold Pr.rulesT; rw [List.take_zero]; rfl
  have hz0 : Pr.zonesT s 0 = [] := by unfold Pr.zonesT; rw [List.take_zero]; rfl
  have hl0 : Pr.linksT s 0 = [] := by unfold Pr.linksT; rw [List.take_zero]; rfl
  have hRR := hR
  obtain ⟨⟨rA, rc, hrv, hr1, hr2, hr3⟩, ⟨zA, zc, hzv, hz1, hz2, hz3⟩, ⟨lA, lc, hlv, hl1, hl2, hl3⟩, hlen, hers⟩ := hR
  obtain ⟨nr, hnr⟩ : ∃ n, s.rules.length = n := ⟨_, rfl⟩
  obtain ⟨nz, hnz⟩ : ∃ n, s.zones.length = n := ⟨_, rfl⟩
  obtain ⟨nl, hnl⟩ : ∃ n, s.links.length = n := ⟨_, rfl⟩
  have hzp : (s.zones.zip evs).length = nz := by rw [List.length_zip, hlen, hnz]; omega
  rw [hnr] at hr1 hr3 hrv hpt hrl
  rw [hnz] at hz1 hz3 hzv hpt hzl
  rw [hnl] at hl1 hl3 hlv hpt hll
  subst hrv hzv hlv
  obtain ⟨TX, hTX⟩ : ∃ t, Pr.text s = t := ⟨_, rfl⟩
  rw [hTX] at hpt hz ⊢
  unfold maxLen at hr2 hz2 hl2
  have HNr := Lib.hid hnr
  have HNz := Lib.hid hzp
  have HNl := Lib.hid hnl
  have HRr := Lib.hid hr3
  have HRz := Lib.hid hz3
  have HRl := Lib.hid hl3
  have HEr := Lib.hid hers
  have HRo := Lib.hid hRo
  have HZo := Lib.hid hZo
  have HLo := Lib.hid hLo
  have HPt := Lib.hid hpt
  have HRn := Lib.hid hrn
  have HZn := Lib.hid hzn
  have HLn := Lib.hid hln
  have HRle := Lib.hid hrl
  have HZle := Lib.hid hzl
  have HLle := Lib.hid hll
  have HZ := Lib.hid hz
  have hpl : (Pr.rulesT s nr).length + (Pr.zonesT s nz).length + (Pr.linksT s nl).length ≤ 1048576 := by
    have := congrArg List.length hpt
    rw [List.length_append, List.length_append] at this
    omega
  have HPl := Lib.hid hpl
  have HR0 := Lib.hid hr0
  have HZ0 := Lib.hid hz0
  have HL0 := Lib.hid hl0
  have HW := Lib.hid hW
  obtain ⟨RT, hRT⟩ : ∃ f, Pr.rulesT s = f := ⟨_, rfl⟩
  obtain ⟨ZT, hZT⟩ : ∃ f, Pr.zonesT s = f := ⟨_, rfl⟩
  obtain ⟨LT, hLT⟩ : ∃ f, Pr.linksT s = f := ⟨_, rfl⟩
  rw [hRT] at HPt HRn HRle HPl HR0
  rw [hZT] at HPt HZn HZle HPl HZ0
  rw [hLT] at HPt HLn HLle HPl HL0
  have HB0 := Lib.hid ((Below.refl w.heap.size w).alloc (Nat.le_refl _) (.cells #[.slice rA nr rc, .slice zA nz zc, .slice lA nl lc] 26))
  have HA0 := Lib.hid (At.new w #[.slice rA nr rc, .slice zA nz zc, .slice lA nl lc] 26)
  have HC := Lib.hid (hC _ (hW.a.below HB0.out) ((hRR.below HB0.out).more HB0.out.size))
  clear hC hRo hZo hLo hpt hrn hzn hln hrl hzl hll hnr hnz hnl hzp hr3 hz3 hl3 hers hRR hs ho hz hpl hrt hlen hW hr0 hz0 hl0 hTX hRT hZT hLT
  obtain ⟨h, hh⟩ : ∃ h, w.heap.size = h := ⟨_, rfl⟩
  go_enter Tryz.func8, Tryz.ntmps8
  go_wp2_with fail
  refine HC.out.mono ?_
  rintro e w1 ⟨rfl, hb⟩
  have HA1 := Lib.hid (HA0.out.call hb)
  have HB1 := Lib.hid (below_then HB0.out hb)
  clear hb HA0 HB0 HC
  rw [hh] at HA1
  have HH := Lib.hid hh
  clear hh
  obtain ⟨b, hbb⟩ : ∃ b, w1.heap.size = b := ⟨_, rfl⟩
  obtain ⟨w2, hw2⟩ : ∃ x, w1.alloc (.cells #[.pointer none, .slice none 0 0] 66) = x := ⟨_, rfl⟩
  have HI0 := Lib.hid (show Pr.IsB w2 b [] by rw [← hw2, ← hbb]; exact Lib.IsBuilderF.of (Lib.fresh_isBuilder _ _ w1))
  have HB2 := Lib.hid (show Below w.heap.size w w2 by rw [← hw2]; exact HB1.out.alloc HB1.out.size _)
  have HA2 := Lib.hid (show At w2 h [.slice rA nr rc, .slice zA nz zc, .slice lA nl lc] by rw [← hw2]; exact HA1.out.alloc _ _)
  have hhb : h < b := by rw [← hbb]; exact HA1.out.lt
  have HwB := Lib.hid (show w.heap.size ≤ b by rw [← hbb]; exact HB1.out.size)
  obtain ⟨a0, a1, a2, _⟩ := HA2.out.three
  go_wp2
  clear a0 a1 a2
  go_loopw [23] (fun i wr => TRel b nr RT w2 i wr) (fun i _ => nr - (intOf i).toNat)
  case atStart => exact ⟨0, Nat.zero_le _, rfl, (by rw [HR0.out]; exact HI0.out), Below.refl _ _⟩
  case round =>
    obtain ⟨k, hk, rfl, HI, HB⟩ := hrel
    have HBw := Lib.hid (HB2.out.trans (HB.out.mono HwB.out))
    by_cases hlt : k < nr
    · have q3 : (0 : Int) ≤ (k : Int) := by omega
      have q4 : (k : Int) < (nr : Int) := by omega
      obtain ⟨ad, x, rfl, hab, Hx, HL0⟩ := Ix.reads_cells (enc := Ru.R.cells) (m := 11) (fun _ => rfl) HNr.out (HRr.out.below HBw.out) hlt
      have hro := HRo.out x (List.mem_of_getElem? Hx.out)
      have HRu := Lib.hid fun W hw => prRule_ok x W hw hro.1 hro.2
      have HNx := Lib.hid (HRn.out k x Hx.out)
      obtain ⟨Y, hY⟩ : ∃ Y, Sc.line (Pr.ofRule x).2 = Y := ⟨_, rfl⟩
      rw [hY] at HRu HNx
      obtain ⟨nm, fr, tt, mo, rk, rn, rd, rs, rc0, sv, lt⟩ := x
      unfold Ru.R.v at HRu
      simp only at HRu
      have x0 : wr.cell? (ad.add (k * 11)) = some (.string nm) := HL0.out 0 _ rfl
      have x1 : wr.cell? ⟨(ad.add (k * 11)).block, (ad.add (k * 11)).off + 1, none⟩ = some (.int .i64 fr) := HL0.out 1 _ rfl
      have x2 : wr.cell? ⟨(ad.add (k * 11)).block, (ad.add (k * 11)).off + 2, none⟩ = some (.int .i64 tt) := HL0.out 2 _ rfl
      have x3 : wr.cell? ⟨(ad.add (k * 11)).block, (ad.add (k * 11)).off + 3, none⟩ = some (.int .i64 mo) := HL0.out 3 _ rfl
      have x4 : wr.cell? ⟨(ad.add (k * 11)).block, (ad.add (k * 11)).off + 4, none⟩ = some (.int .u8 rk) := HL0.out 4 _ rfl
      have x5 : wr.cell? ⟨(ad.add (k * 11)).block, (ad.add (k * 11)).off + 5, none⟩ = some (.int .i64 rn) := HL0.out 5 _ rfl
      have x6 : wr.cell? ⟨(ad.add (k * 11)).block, (ad.add (k * 11)).off + 6, none⟩ = some (.int .i64 rd) := HL0.out 6 _ rfl
      have x7 : wr.cell? ⟨(ad.add (k * 11)).block, (ad.add (k * 11)).off + 7, none⟩ = some (.int .i64 rs) := HL0.out 7 _ rfl
      have x8 : wr.cell? ⟨(ad.add (k * 11)).block, (ad.add (k * 11)).off + 8, none⟩ = some (.int .u8 rc0) := HL0.out 8 _ rfl
      have x9 : wr.cell? ⟨(ad.add (k * 11)).block, (ad.add (k * 11)).off + 9, none⟩ = some (.int .i64 sv) := HL0.out 9 _ rfl
      have x10 : wr.cell? ⟨(ad.add (k * 11)).block, (ad.add (k * 11)).off + 10, none⟩ = some (.string lt) := HL0.out 10 _ rfl
      clear hro hY
      go_wp2_with fail
      refine (HRu.out _ (HW.out.below (HBw.out.alloc HBw.out.size _)).c).mono ?_
      rintro e w3 ⟨rfl, hb⟩
      have HI3 := Lib.hid ((HI.out.call ((Below.refl wr.heap.size wr).alloc (Nat.le_refl _) (.cells #[.string nm, .int .i64 fr, .int .i64 tt, .int .i64 mo, .int .u8 rk, .int .i64 rn, .int .i64 rd, .int .i64 rs, .int .u8 rc0, .int .i64 sv, .string lt] 47))).call hb)
      have HB3 := Lib.hid ((HB.out.alloc (own_lt HI.out) (.cells #[.string nm, .int .i64 fr, .int .i64 tt, .int .i64 mo, .int .u8 rk, .int .i64 rn, .int .i64 rd, .int .i64 rs, .int .u8 rc0, .int .i64 sv, .string lt] 47)).trans (hb.mono (by have := HI.out.lt; simp; omega)))
      clear hb x0 x1 x2 x3 x4 x5 x6 x7 x8 x9 x10
      have hle : (RT k).length + (Pr.flat [Y]).length ≤ 140737488355327 := by
        have h1 := HRle.out (k + 1)
        rw [HNx.out, List.length_append] at h1
        have h2 := HPl.out
        omega
      have HLe := Lib.hid hle
      clear hle
      go_wp2_with fail
      refine (put_any b w3.heap.size 1 1 (RT k) [Y] _ rfl (by decide) (HI3.out.call ((Below.refl w3.heap.size w3).alloc (Nat.le_refl _) _)) (Pr.lines_new w3 Y) HLe.out).mono ?_
      rintro e w4 ⟨rfl, hi, hb⟩
      rw [← HNx.out] at hi
      have HI4 := Lib.hid hi
      have HB4 := Lib.hid ((HB3.out.alloc (own_lt HI3.out) (.cells #[.string Y] 9)).trans hb)
      clear hi hb
      go_wp2
      go_roundw
      case rel => exact ⟨k + 1, by omega, by go_num, HI4.out, HB4.out⟩
      case measure => simp [intOf]; omega
    · have q4 : ¬ (k : Int) < (nr : Int) := by omega
      have hkn : nr = k := by omega
      subst hkn
      obtain ⟨a0, a1, a2, _⟩ := (HA2.out.below HB.out hhb).three
      go_wp2
      clear a0 a1 a2
      go_loopw [42] (fun i wr => TRel b nz (fun k => RT nr ++ ZT k) w2 i wr) (fun i _ => nz - (intOf i).toNat)
      case atStart => exact ⟨0, Nat.zero_le _, rfl, (by show Pr.IsB wr b (RT nr ++ ZT 0); rw [HZ0.out, List.append_nil]; exact HI.out), HB.out⟩
      case round =>
        obtain ⟨k, hk, rfl, HI, HB⟩ := hrel
        have HBw := Lib.hid (HB2.out.trans (HB.out.mono HwB.out))
        by_cases hlt : k < nz
        · have q3 : (0 : Int) ≤ (k : Int) := by omega
          have q4 : (k : Int) < (nz : Int) := by omega
          obtain ⟨ad, x, rfl, hab, Hx, HL0⟩ := Ix.reads_cells (enc := Src.zc) (m := 2) (fun _ => rfl) HNz.out (HRz.out.below HBw.out) hlt
          obtain ⟨z, ev⟩ := x
          have hxz : s.zones[k]? = some z := (List.getElem?_zip_eq_some.1 Hx.out).1
          have hzo := HZo.out z (List.mem_of_getElem? hxz)
          have hrow := (HEr.out (z, ev) (List.mem_of_getElem? Hx.out)).below HBw.out
          have hwrs := HBw.out.size
          obtain ⟨eA, ec, he, hen⟩ : ∃ A c, ev = .slice A z.2.length c ∧ z.2.length = z.2.length := by obtain ⟨A, c, e, _⟩ := hrow; exact ⟨A, c, e, rfl⟩
          have HZe := Lib.hid fun W hw hr => prZone_ok z ev W hw hzo.1 hzo.2 hr
          have HNx := Lib.hid (HZn.out k z hxz)
          have hzl : (Pr.zl z).length = z.2.length := by unfold Pr.zl; rw [List.length_map]; exact Pr.ofZone_len z
          obtain ⟨Y, hY⟩ : ∃ Y, Pr.zl z = Y := ⟨_, rfl⟩
          obtain ⟨en, hen⟩ : ∃ n, z.2.length = n := ⟨_, rfl⟩
          obtain ⟨xn, hxn⟩ : ∃ y, Src.bts z.1 = y := ⟨_, rfl⟩
          simp only at hrow
          rw [hY] at HNx hzl
          rw [hen] at hzl hrow he
          have HZl := Lib.hid hzl
          have HEn := Lib.hid (show en ≤ 1000000 by have := hzo.1.2.1; rw [← hen]; omega)
          have x0 : wr.cell? (ad.add (k * 2)) = some (.string xn) := by rw [← hxn]; exact HL0.out 0 _ rfl
          have x1 : wr.cell? ⟨(ad.add (k * 2)).block, (ad.add (k * 2)).off + 1, none⟩ = some (.slice eA en ec) := by rw [← he]; exact HL0.out 1 _ rfl
          simp only [hY, hen, hxn] at HZe
          subst he
          have HRow := Lib.hid hrow
          clear hzo hY hxn hxz hrow hzl hen
          go_wp2_with fail
          refine (HZe.out _ (HW.out.below (HBw.out.alloc HBw.out.size _)) ((HRow.out.below ((Below.refl w.heap.size wr).alloc hwrs _)).more (by simp; omega))).mono ?_
          rintro e w3 ⟨g, c, rfl, hln, hb⟩
          have HI3 := Lib.hid ((HI.out.call ((Below.refl wr.heap.size wr).alloc (Nat.le_refl _) (.cells #[.string xn, .slice eA en ec] 53))).call hb)
          have HB3 := Lib.hid ((HB.out.alloc (own_lt HI.out) (.cells #[.string xn, .slice eA en ec] 53)).trans (hb.mono (by have := HI.out.lt; simp; omega)))
          have HLn := Lib.hid hln
          clear hb hln x0 x1
          have hle : (RT nr ++ ZT k).length + (Pr.flat Y).length ≤ 140737488355327 := by
            have h1 := HZle.out (k + 1)
            rw [HNx.out, List.length_append] at h1
            have h2 := HPl.out
            rw [List.length_append]
            omega
          have HLe := Lib.hid hle
          clear hle
          go_wp2_with fail
          refine (put_any b g en c (RT nr ++ ZT k) Y w3 HZl.out HEn.out HI3.out HLn.out HLe.out).mono ?_
          rintro e w4 ⟨rfl, hi, hb⟩
          rw [List.append_assoc, ← HNx.out] at hi
          have HI4 := Lib.hid hi
          have HB4 := Lib.hid (HB3.out.trans hb)
          clear hi hb
          go_wp2
          go_roundw
          case rel => exact ⟨k + 1, by omega, by go_num, HI4.out, HB4.out⟩
          case measure => simp [intOf]; omega
        · have q4 : ¬ (k : Int) < (nz : Int) := by omega
          have hkn : nz = k := by omega
          subst hkn
          obtain ⟨a0, a1, a2, _⟩ := (HA2.out.below HB.out hhb).three
          go_wp2
          clear a0 a1 a2
          go_loopw [60] (fun i wr => TRel b nl (fun k => RT nr ++ ZT nz ++ LT k) w2 i wr) (fun i _ => nl - (intOf i).toNat)
          case atStart => exact ⟨0, Nat.zero_le _, rfl, (by show Pr.IsB wr b (RT nr ++ ZT nz ++ LT 0); rw [HL0.out, List.append_nil]; exact HI.out), HB.out⟩
          case round =>
            obtain ⟨k, hk, rfl, HI, HB⟩ := hrel
            have HBw := Lib.hid (HB2.out.trans (HB.out.mono HwB.out))
            by_cases hlt : k < nl
            · have q3 : (0 : Int) ≤ (k : Int) := by omega
              have q4 : (k : Int) < (nl : Int) := by omega
              obtain ⟨ad, x, rfl, hab, Hx, HL0⟩ := Ix.reads_cells (enc := Src.lc) (m := 2) (fun _ => rfl) HNl.out (HRl.out.below HBw.out) hlt
              have hlo := HLo.out x (List.mem_of_getElem? Hx.out)
              have HRu := Lib.hid fun W hw => prLink_ok x W hw hlo.1 hlo.2
              have HNx := Lib.hid (HLn.out k x Hx.out)
              obtain ⟨Y, hY⟩ : ∃ Y, Sc.line (Pr.ofLink x).2 = Y := ⟨_, rfl⟩
              rw [hY] at HRu HNx
              unfold Src.lv at HRu
              obtain ⟨xa, hxa⟩ : ∃ y, Src.bts x.1 = y := ⟨_, rfl⟩
              obtain ⟨xb, hxb⟩ : ∃ y, Src.bts x.2 = y := ⟨_, rfl⟩
              have x0 : wr.cell? (ad.add (k * 2)) = some (.string xa) := by rw [← hxa]; exact HL0.out 0 _ rfl
              have x1 : wr.cell? ⟨(ad.add (k * 2)).block, (ad.add (k * 2)).off + 1, none⟩ = some (.string xb) := by rw [← hxb]; exact HL0.out 1 _ rfl
              rw [hxa, hxb] at HRu
              clear hlo hY hxa hxb
              go_wp2_with fail
              refine (HRu.out _ (HW.out.below (HBw.out.alloc HBw.out.size _)).a).mono ?_
              rintro e w3 ⟨rfl, hb⟩
              have HI3 := Lib.hid ((HI.out.call ((Below.refl wr.heap.size wr).alloc (Nat.le_refl _) (.cells #[.string xa, .string xb] 56))).call hb)
              have HB3 := Lib.hid ((HB.out.alloc (own_lt HI.out) (.cells #[.string xa, .string xb] 56)).trans (hb.mono (by have := HI.out.lt; simp; omega)))
              clear hb x0 x1
              have hle : (RT nr ++ ZT nz ++ LT k).length + (Pr.flat [Y]).length ≤ 140737488355327 := by
                have h1 := HLle.out (k + 1)
                rw [HNx.out, List.length_append] at h1
                have h2 := HPl.out
                rw [List.length_append, List.length_append]
                omega
              have HLe := Lib.hid hle
              clear hle
              go_wp2_with fail
              refine (put_any b w3.heap.size 1 1 (RT nr ++ ZT nz ++ LT k) [Y] _ rfl (by decide) (HI3.out.call ((Below.refl w3.heap.size w3).alloc (Nat.le_refl _) _)) (Pr.lines_new w3 Y) HLe.out).mono ?_
              rintro e w4 ⟨rfl, hi, hb⟩
              rw [List.append_assoc, ← HNx.out] at hi
              have HI4 := Lib.hid hi
              have HB4 := Lib.hid ((HB3.out.alloc (own_lt HI3.out) (.cells #[.string Y] 9)).trans hb)
              clear hi hb
              go_wp2
              go_roundw
              case rel => exact ⟨k + 1, by omega, by go_num, HI4.out, HB4.out⟩
              case measure => simp [intOf]; omega
            · have q4 : ¬ (k : Int) < (nl : Int) := by omega
              have hkn : nl = k := by omega
              subst hkn
              have HIe := Lib.hid HI.out
              have hln : (Lib.byteCells (RT nr ++ ZT nz ++ LT nl)).length = TX.length := by rw [Lib.byteCells_length, ← HPt.out]
              have q5 : ¬ (1048576 : Int) < (TX.length : Int) := by have := HZ.out; omega
              have HLen := Lib.hid fun W h => Tryz.Builder_Len_f b b (Lib.byteCells (RT nr ++ ZT nz ++ LT nl)) W h
              rw [hln] at HLen
              have HStr := Lib.hid fun W h => Tryz.Builder_String_any_k b b (RT nr ++ ZT nz ++ LT nl) W h
              rw [← HPt.out] at HStr
              have HBe := Lib.hid HBw.out
              clear hln
              go_wp2_with fail
              refine (HLen.out wr HIe.out).mono ?_
              rintro e w5 ⟨rfl, rfl⟩
              go_wp2_with fail
              refine (HStr.out _ (by rw [HPt.out]; exact HIe.out) (own_lt HIe.out)).mono ?_
              rintro e w6 ⟨rfl, _, hb, _⟩
              have HB6 := Lib.hid (HBe.out.trans (hb.mono HwB.out))
              clear hb
              go_wp2
              go_ret2
              exact ⟨rfl, HB6.out⟩
end Go.Proofs.YtlhoggalhjadgaaGreatDoor

/- print.Link, print.Zone and print.Text of what is not right; print.Text in one law. -/
namespace Go.Proofs.YtlhoggalhjadgaaGreatDoor
open Go.RowKit

set_option maxHeartbeats 2000000 in
set_option maxRecDepth 100000 in
theorem prLink_bad (k : Src.Txt × Src.Txt) (w : World) (hW : Wa w) (h1 : k.1.length ≤ 1000000) (h2 : k.2.length ≤ 1000000) (hbad : Src.linkB k = false) :
    Calls Tryz.prog 15 #[Src.lv k] w fun e w' => e = .returned (.tuple #[.string ⟨#[]⟩, .int .i64 2]) ∧ Below w.heap.size w w' := by
  have hC := fun W hw hr => srcCheck_any ⟨[], [], [k], false⟩ (.slice none 0 0) (.slice none 0 0) (.slice (some ⟨w.heap.size + 1, 0, none⟩) 1 1) [] W hw hr ⟨Nat.zero_le _, Nat.zero_le _, by show 1 ≤ 4096; omega⟩
    ⟨fun r hr => (by cases hr), fun z hz => (by cases hz), fun q hq => by
      rw [List.mem_singleton] at hq
      subst hq
      exact ⟨h1, h2⟩⟩
  have hb : Src.srcB ⟨[], [], [k], false⟩ = false := by
    unfold Src.srcB
    simp [hbad]
  rw [hb, if_neg (by decide)] at hC
  have hS := prLink_src k
  unfold Src.lv
  obtain ⟨xa, hxa⟩ : ∃ x, Src.bts k.1 = x := ⟨_, rfl⟩
  obtain ⟨xb, hxb⟩ : ∃ x, Src.bts k.2 = x := ⟨_, rfl⟩
  rw [hxa, hxb] at hS ⊢
  have HB0 := Lib.hid ((Below.refl w.heap.size w).alloc (Nat.le_refl _) (.cells #[.string xa, .string xb] 56))
  have HC := Lib.hid (hC _ (hW.below (((Below.refl w.heap.size w).alloc (Nat.le_refl _) (.cells #[.string xa, .string xb] 56)).alloc (by simp) (.cells #[.string xa, .string xb] 56))) (by have := hS (w.alloc (.cells #[.string xa, .string xb] 56)); simpa using this))
  clear hC hb hS hW hxa hxb h1 h2
  go_enter Tryz.func15, Tryz.ntmps15
  go_wp2_with fail
  refine HC.out.mono ?_
  rintro e w1 ⟨rfl, hb⟩
  have HB1 := Lib.hid (below_then (HB0.out.alloc HB0.out.size _) hb)
  clear hb HB0 HC
  go_wp2
  go_ret2
  exact ⟨rfl, HB1.out⟩
set_option maxHeartbeats 2000000 in
set_option maxRecDepth 100000 in
theorem prZone_bad (z : Src.Txt × List Er.E) (ev : Value) (w : World) (hW : Wa w) (h1 : z.1.length ≤ 1000000) (h2 : ∀ e ∈ z.2, e.fm.size ≤ maxLen ∧ e.ru.size ≤ maxLen) (hbad : Src.zoneB z = false) (hR : Src.RowR w w.heap.size 13 z.2.length ev (z.2.flatMap Er.E.cells)) :
    Calls Tryz.prog 14 #[.agg #[.string (Src.bts z.1), ev]] w fun e w' => e = .returned (.tuple #[.slice none 0 0, .int .i64 2]) ∧ Below w.heap.size w w' := by
  have hC := fun W hw hr => srcCheck_any ⟨[], [z], [], false⟩ (.slice none 0 0) (.slice (some ⟨w.heap.size + 1, 0, none⟩) 1 1) (.slice none 0 0) [ev] W hw hr ⟨Nat.zero_le _, by show 1 ≤ 1024; omega, Nat.zero_le _⟩
    ⟨fun r hr => (by cases hr), fun q hq => by
      rw [List.mem_singleton] at hq
      subst hq
      exact ⟨h1, h2⟩, fun q hq => (by cases hq)⟩
  have hsb : Src.srcB ⟨[], [z], [], false⟩ = false := by
    unfold Src.srcB
    simp [hbad]
  rw [hsb, if_neg (by decide)] at hC
  have hS := prZone_src z ev
  obtain ⟨xn, hxn⟩ : ∃ x, Src.bts z.1 = x := ⟨_, rfl⟩
  rw [hxn] at hS ⊢
  obtain ⟨A, c, e, hnc, hcm, hrr⟩ := hR
  obtain ⟨n, hn⟩ : ∃ n, z.2.length = n := ⟨_, rfl⟩
  rw [hn] at hrr hnc e
  have HB0 := Lib.hid ((Below.refl w.heap.size w).alloc (Nat.le_refl _) (.cells #[.string xn, ev] 53))
  have HC := Lib.hid (hC _ (hW.below (((Below.refl w.heap.size w).alloc (Nat.le_refl _) (.cells #[.string xn, ev] 53)).alloc (by simp) (.cells #[.string xn, ev] 53)))
    (by
      have h1 := hS (w.alloc (.cells #[.string xn, ev] 53)) ⟨A, c, by rw [hn]; exact e, by rw [hn]; exact hnc, hcm, by rw [hn]; exact (hrr.below ((Below.refl w.heap.size w).alloc (Nat.le_refl _) _)).more (by simp)⟩
      simpa using h1))
  clear hC hsb hS hW hxn h1 h2 hrr hnc hn
  subst e
  go_enter Tryz.func14, Tryz.ntmps14
  go_wp2_with fail
  refine HC.out.mono ?_
  rintro e w1 ⟨rfl, hb⟩
  have HB1 := Lib.hid (below_then (HB0.out.alloc HB0.out.size _) hb)
  clear hb HB0 HC
  go_wp2
  go_ret2
  exact ⟨rfl, HB1.out⟩
set_option maxHeartbeats 2000000 in
set_option maxRecDepth 100000 in
theorem prText_bad (s : Src.S) (rv zv lv : Value) (evs : List Value) (w : World) (hW : Wa w) (hR : Src.SrcR w w.heap.size s rv zv lv evs) (hL : Src.Lims s) (hS : Src.Sm s) (hbad : Src.srcB s = false) :
    Calls Tryz.prog 8 #[.agg #[rv, zv, lv]] w fun e w' => e = .returned (.tuple #[.string ⟨#[]⟩, .int .i64 2]) ∧ Below w.heap.size w w' := by
  have HB0 := Lib.hid ((Below.refl w.heap.size w).alloc (Nat.le_refl _) (.cells #[rv, zv, lv] 26))
  have hC := srcCheck_any s rv zv lv evs _ (hW.below HB0.out) ((hR.below HB0.out).more HB0.out.size) hL hS
  rw [hbad, if_neg (by decide)] at hC
  have HC := Lib.hid hC
  obtain ⟨⟨rA, rc, rfl, _⟩, ⟨zA, zc, rfl, _⟩, ⟨lA, lc, rfl, _⟩, _, _⟩ := hR
  clear hC hW hL hS hbad
  go_enter Tryz.func8, Tryz.ntmps8
  go_wp2_with fail
  refine HC.out.mono ?_
  rintro e w1 ⟨rfl, hb⟩
  have HB1 := Lib.hid (below_then HB0.out hb)
  clear hb HB0 HC
  go_wp2
  go_ret2
  exact ⟨rfl, HB1.out⟩
/-- print.Text of a source that is right, or not. -/
theorem prText_both (s : Src.S) (rv zv lv : Value) (evs : List Value) (w : World) (hW : We w) (hR : Src.SrcR w w.heap.size s rv zv lv evs) (hL : Src.Lims s) (hS : Src.Sm s) (ho : s.op = false) (hk : Src.srcB s = true → Pr.Rk s ∧ (Pr.text s).length ≤ 1048576) :
    Calls Tryz.prog 8 #[.agg #[rv, zv, lv]] w fun e w' => ∃ T Y, e = .returned (.tuple #[.string T, .int .i64 Y]) ∧ Below w.heap.size w w' ∧ ((Y = 0 ∧ Src.srcB s = true ∧ T = Src.bts (Pr.text s)) ∨ (Y = 2 ∧ Src.srcB s = false)) := by
  cases hb : Src.srcB s with
  | true =>
    have := hk hb
    exact (prText_ok s rv zv lv evs w hW hR this.1 ho this.2).mono fun e w' ⟨he, h⟩ => ⟨_, 0, he, h, .inl ⟨rfl, rfl, rfl⟩⟩
  | false => exact (prText_bad s rv zv lv evs w hW.a hR hL hS hb).mono fun e w' ⟨he, h⟩ => ⟨_, 2, he, h, .inr ⟨rfl, rfl⟩⟩
end Go.Proofs.YtlhoggalhjadgaaGreatDoor
