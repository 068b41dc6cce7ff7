/- markup: what stands between a < and a >: readTag. -/
import Derived.Test.YthmhadgbhakdlaaDoorP08
import Derived.Deep.AppendLies
import Derived.WalkSmall

namespace Go.Proofs.YthmhadgbhakdlaaDoor
open Go.RowKit

namespace Mk
theorem own_below {w w' : World} {base : Nat} {e : TypeId} {size : Nat} {v : Value} {n : Nat} {xs : List Value} (h : w.ownsRow base e size v n xs) (hb : Below w.heap.size w w') : w'.ownsRow base e size v n xs := by
  refine ⟨h.1, ?_⟩
  rcases h.2 with hn | ⟨g, cap, cur, hv, hbase, hg, rest⟩
  · exact .inl hn
  · have hl : g < w.heap.size := (Array.getElem?_eq_some_iff.1 hg).1
    exact .inr ⟨g, cap, cur, hv, hbase, (hb.block g hl).trans hg, rest⟩
theorem own_mono {w : World} {base base' : Nat} {e : TypeId} {size : Nat} {v : Value} {n : Nat} {xs : List Value} (h : w.ownsRow base e size v n xs) (hb : base' ≤ base) : w.ownsRow base' e size v n xs := by
  refine ⟨h.1, ?_⟩
  rcases h.2 with hn | ⟨g, cap, cur, hv, h1, rest⟩
  · exact .inl hn
  · exact .inr ⟨g, cap, cur, hv, Nat.le_trans hb h1, rest⟩
theorem rt_slash {l r : Txt} (h : l = 47 :: r) : readTag l = if (cutN r).1 ≠ [] ∧ skip (cutN r).2 = [] then some ⟨(cutN r).1, [], false, true⟩ else none := by rw [h]; rfl
theorem rt_none {l : Txt} (h : ∀ r, l ≠ 47 :: r) (h2 : (cutN l).1 = []) : readTag l = none := by
  unfold readTag
  split
  · rename_i r; exact absurd rfl (h r)
  · rw [if_pos h2]
theorem rt_go {l : Txt} (h : ∀ r, l ≠ 47 :: r) (h2 : (cutN l).1 ≠ []) : readTag l = tagGo (l.length + 1) (cutN l).1 (cutN l).2 [] := by
  unfold readTag
  split
  · rename_i r; exact absurd rfl (h r)
  · rw [if_neg h2]
section
variable {f : Nat} {nm rest : Txt} {ats : List (Txt × Txt)}
theorem tg_end (h : skip rest = []) : tagGo (f + 1) nm rest ats = some ⟨nm, ats, true, false⟩ := by
  unfold tagGo
  rw [if_pos (.inl h), h]
  rfl
theorem tg_close (h : skip rest = [47]) : tagGo (f + 1) nm rest ats = some ⟨nm, ats, true, true⟩ := by
  unfold tagGo
  rw [if_pos (.inr h), h]
  rfl
theorem tg_len (h1 : skip rest ≠ []) (h2 : skip rest ≠ [47]) (h3 : (skip rest).length = rest.length) : tagGo (f + 1) nm rest ats = none := by
  unfold tagGo
  rw [if_neg (by rintro (e | e); exact h1 e; exact h2 e), if_pos h3]
theorem tg_bad (h1 : skip rest ≠ []) (h2 : skip rest ≠ [47]) (h4 : readAttr (skip rest) = none) : tagGo (f + 1) nm rest ats = none := by
  unfold tagGo
  rw [if_neg (by rintro (e | e); exact h1 e; exact h2 e)]
  split
  · rfl
  · rw [h4]
theorem tg_on {a : Txt × Txt} {b : Txt} (h1 : skip rest ≠ []) (h2 : skip rest ≠ [47]) (h3 : (skip rest).length ≠ rest.length) (h4 : readAttr (skip rest) = some (a, b)) : tagGo (f + 1) nm rest ats = tagGo f nm b (ats ++ [a]) := by
  rw [tagGo, if_neg (by rintro (e | e); exact h1 e; exact h2 e), if_neg h3, h4]
end
theorem cut_len (l : Txt) : (cutN l).2.length ≤ l.length := by
  unfold cutN
  split
  · exact (List.dropWhile_sublist _).length_le
  · exact Nat.le_refl _
theorem ra_len {l r : Txt} {a : Txt × Txt} (h : readAttr l = some (a, r)) : r.length < l.length := by
  have h1 := cut_len l
  have h2 := skip_len (cutN l).2
  unfold readAttr at h
  split at h
  · cases h
  split at h
  · rename_i r1 e1
    rw [e1, List.length_cons] at h2
    have h3 := skip_len r1
    split at h
    · rename_i q r2 e2
      rw [e2, List.length_cons] at h3
      split at h
      · split at h
        · cases h
        · split at h
          · injection h with h
            injection h with _ h
            rw [← h, List.length_drop]
            have h4 : (aft q r2).length ≤ r2.length := (List.dropWhile_sublist _).length_le
            omega
          · cases h
      · cases h
    · cases h
  · cases h
/-- The cells of attributes. -/
def atCells (l : List (Txt × Txt)) : List Value := l.flatMap fun a => [.string (bts a.1), .string (bts a.2)]
theorem atCells_app (l : List (Txt × Txt)) (a : Txt × Txt) : atCells (l ++ [a]) = atCells l ++ [.string (bts a.1), .string (bts a.2)] := by unfold atCells; rw [List.flatMap_append]; rfl
/-- What readTag answers: a tag, its attributes in a row of their own; or none. -/
def TagRet (w : World) (o : Option Tag) (e : Ending) (w' : World) : Prop :=
  Below w.heap.size w w' ∧ match o with
  | none => ∃ nm p q, e = .returned (.tuple #[.agg #[.string nm, .slice none 0 0, .bool p, .bool q], .bool false])
  | some t => ∃ A c, e = .returned (.tuple #[.agg #[.string (bts t.name), .slice A t.attrs.length c, .bool t.opens, .bool t.closes], .bool true]) ∧
      w'.ownsRow w.heap.size 75 2 (.slice A t.attrs.length c) t.attrs.length (atCells t.attrs)
/-- What holds while a tag's attributes are read. -/
structure TgI (w : World) (g : Nat) (nb : ByteArray) (ats : List (Txt × Txt)) (A : Option Addr) (c : Nat) (W : World) : Prop where
  a2 : At W w.heap.size [.string ⟨#[]⟩, .slice none 0 0, .bool false, .bool false]
  a8 : At W g [.string nb, .slice A ats.length c, .bool true, .bool false]
  own : W.ownsRow (g + 1) 75 2 (.slice A ats.length c) ats.length (atCells ats)
  bl : Below w.heap.size w W
  lt : w.heap.size < g
theorem TgI.call {w W W' : World} {g : Nat} {nb : ByteArray} {ats : List (Txt × Txt)} {A : Option Addr} {c : Nat} (h : TgI w g nb ats A c W) (hb : Below W.heap.size W W') : TgI w g nb ats A c W' :=
  ⟨h.a2.call hb, h.a8.call hb, own_below h.own hb, h.bl.trans (hb.mono h.bl.size), h.lt⟩
theorem grown_at {w w' : World} {h : Nat} {row : Option Nat} {xs : List Value} (a : At w h xs) (hg : w.grownBy w' row) (hne : row ≠ some h) : At w' h xs := by
  have e := hg.block h a.lt (fun x => hne x.symm)
  exact ⟨Nat.lt_of_lt_of_le a.1 hg.size, fun i v hi => ⟨(World.cell?_of_block (a := ⟨h, i, none⟩) e).trans (a.2 i v hi).1, (World.frozen?_of_block (a := ⟨h, i, none⟩) e).trans (a.2 i v hi).2⟩⟩
/-- One attribute more. -/
theorem TgI.push {w W W' : World} {g n' : Nat} {nb : ByteArray} {ats : List (Txt × Txt)} {A A' : Option Addr} {c c' : Nat} {a : Txt × Txt} (h : TgI w g nb ats A c W) (hn : ats.length + 1 = n')
    (hown : W'.ownsRow (g + 1) 75 2 (.slice A' n' c') n' (atCells ats ++ [.string (bts a.1), .string (bts a.2)])) (hg : W.grownBy W' (Value.slice A ats.length c).ownBlock) :
    TgI w g nb (ats ++ [a]) A' c' (W'.setCell ⟨g, 1, none⟩ (.slice A' n' c')) := by
  subst hn
  have hlt : ∀ k, (Value.slice A ats.length c).ownBlock = some k → g + 1 ≤ k := fun k hk => (h.own.lt k hk).1
  have hl := h.lt
  have e : (ats ++ [a]).length = ats.length + 1 := by simp
  refine ⟨?_, ?_, ?_, ?_, hl⟩
  · exact At.set_other (grown_at h.a2 hg (fun e => by have := hlt _ e; omega)) _ _ (by show g ≠ w.heap.size; omega)
  · have := (grown_at h.a8 hg (fun e => by have := hlt _ e; omega)).set 1 (.slice A' (ats.length + 1) c')
    rw [e]
    exact this
  · rw [e, atCells_app]
    exact ownsRow_setCell_below hown (by show g < g + 1; omega) _
  · exact (h.bl.grown hg h.bl.size (fun k hk => by have := hlt k hk; omega)).setCell (by show w.heap.size ≤ g; omega) _
def sz : Value → Nat
  | .string s => s.size
  | _ => 0
theorem attr_info : (Tryd.prog.info? 75).map (fun i => (i.zero, i.size, i.bytes)) = some (some (.agg #[.string ⟨#[]⟩, .string ⟨#[]⟩]), 2, 32) := by kernel_rfl
theorem four {w : World} {g : Nat} {a b c d : Value} (h : At w g [a, b, c, d]) : w.cell? ⟨g, 0, none⟩ = some a ∧ w.cell? ⟨g, 1, none⟩ = some b ∧ w.cell? ⟨g, 2, none⟩ = some c ∧ w.cell? ⟨g, 3, none⟩ = some d ∧
    w.frozen? ⟨g, 0, none⟩ = false ∧ w.frozen? ⟨g, 1, none⟩ = false ∧ w.frozen? ⟨g, 2, none⟩ = false ∧ w.frozen? ⟨g, 3, none⟩ = false :=
  ⟨h.cell 0 a rfl, h.cell 1 b rfl, h.cell 2 c rfl, h.cell 3 d rfl, h.free 0 a rfl, h.free 1 b rfl, h.free 2 c rfl, h.free 3 d rfl⟩
end Mk
set_option maxHeartbeats 2000000 in
set_option maxRecDepth 100000 in
theorem readTag_any (s : ByteArray) (hs : s.size ≤ 100000000) (w : World) :
    Calls Tryd.prog 54 #[.string s] w (Mk.TagRet w (Mk.readTag (tl s))) := by
  obtain ⟨R, hR⟩ : ∃ R, Mk.readTag (tl s) = R := ⟨_, rfl⟩
  have HR := Lib.hid hR
  rw [hR]
  clear hR
  have HP := Lib.hid (fun W => Tryd.strings_HasPrefix s ⟨#[47]⟩ W)
  obtain ⟨pb, hpb⟩ : ∃ b, Lib.hasPrefix (tl s) [47] = b := ⟨_, rfl⟩
  have HP1 : Hid (∀ W, Calls Tryd.prog 30 #[.string s, .string ⟨#[47]⟩] W fun e w' => e = .returned (.bool pb) ∧ w' = W) := fun W => by
    have h := HP.out W
    rw [show s.data.toList = tl s from rfl, show (⟨#[47]⟩ : ByteArray).data.toList = [47] from rfl, hpb] at h
    exact h
  clear HP
  have HB0 := Lib.hid (Mk.below_new w (.cells #[.string ⟨#[]⟩, .slice none 0 0, .bool false, .bool false] 100))
  have HZ0 : Hid (At (w.alloc (.cells #[.string ⟨#[]⟩, .slice none 0 0, .bool false, .bool false] 100)) w.heap.size [.string ⟨#[]⟩, .slice none 0 0, .bool false, .bool false]) := At.new _ _ _
  cases pb with
  | true =>
    obtain ⟨r, hr⟩ := Mk.pre_yes hpb
    obtain ⟨g1, g2⟩ := Mk.tl_one hr
    have HRs := Lib.hid (HR.out.symm.trans (Mk.rt_slash hr))
    have HCN := Lib.hid (fun W => cutName_any (s.extract 1 s.size) (by simp only [ByteArray.size_extract]; unfold maxLen; omega) W)
    rw [g2] at HCN
    have x1 : (1 : Int) ≤ (s.size : Int) := by omega
    have x0 : (0 : Int) ≤ 1 := by omega
    clear hr g1 g2 hpb
    obtain ⟨N1, hN1⟩ : ∃ x, (Mk.cutN r).1 = x := ⟨_, rfl⟩
    obtain ⟨N2, hN2⟩ : ∃ x, (Mk.cutN r).2 = x := ⟨_, rfl⟩
    rw [hN1, hN2] at HCN HRs
    clear hN1 hN2
    have HSk := Lib.hid (fun W => skipWhite_any (Mk.bts N2) W)
    rw [Mk.tl_bts] at HSk
    obtain ⟨T1, hT1⟩ : ∃ x, Mk.skip N2 = x := ⟨_, rfl⟩
    rw [hT1] at HSk HRs
    clear hT1
    by_cases hn : N1 = []
    · have q1 : (Mk.bts N1).toList.isEmpty = true := Mk.emp_yes (by rw [hn]; rfl)
      have HE : Hid (R = none) := by show _ = _; rw [HRs.out, if_neg (fun h => h.1 hn)]
      clear hn HRs
      obtain ⟨B1, hB1⟩ : ∃ x, Mk.bts N1 = x := ⟨_, rfl⟩
      rw [hB1] at HCN q1
      clear hB1
      go_enter Tryd.func54, Tryd.ntmps54
      go_wp2_with fail
      refine (HP1.out _).mono ?_
      rintro e w9 ⟨rfl, rfl⟩
      go_wp2_with fail
      refine (HCN.out _).mono ?_
      rintro e w1 ⟨rfl, hd⟩
      have HB := Lib.hid (HB0.out.trans (hd.below _))
      have HZ := Lib.hid (HZ0.out.drew hd)
      clear hd
      have hz := HZ.out.lt
      obtain ⟨d0, d1, d2, d3, e0, e1, e2, e3⟩ := Mk.four HZ.out
      go_wp2
      refine bodyPost_ret (v := .tuple #[.agg #[.string B1, .slice none 0 0, .bool false, .bool true], .bool false]) (by simp [results, Tryd.results54, go_sem, *]) rfl ⟨?_, ?_⟩
      · exact ((((HB.out.setCell (p := ⟨w.heap.size, _, none⟩) (Nat.le_refl _) _).setCell (p := ⟨w.heap.size, _, none⟩) (Nat.le_refl _) _).setCell (p := ⟨w.heap.size, _, none⟩) (Nat.le_refl _) _).setCell (p := ⟨w.heap.size, _, none⟩) (Nat.le_refl _) _)
      · rw [HE.out]; exact ⟨_, _, _, rfl⟩
    · have q1 : (Mk.bts N1).toList.isEmpty = false := Mk.emp_no (List.length_pos_iff.2 hn)
      obtain ⟨B1, hB1⟩ : ∃ x, Mk.bts N1 = x := ⟨_, rfl⟩
      have HBN := Lib.hid hB1
      rw [hB1] at HCN q1
      clear hB1
      by_cases ht : T1 = []
      · have HE : Hid (R = some ⟨N1, [], false, true⟩) := by show _ = _; rw [HRs.out, if_pos ⟨hn, ht⟩]
        have q2 : (Mk.bts T1).toList.isEmpty = true := Mk.emp_yes (by rw [ht]; rfl)
        clear hn ht HRs
        obtain ⟨X1, hX1⟩ : ∃ x, Mk.bts T1 = x := ⟨_, rfl⟩
        rw [hX1] at HSk q2
        clear hX1
        go_enter Tryd.func54, Tryd.ntmps54
        go_wp2_with fail
        refine (HP1.out _).mono ?_
        rintro e w9 ⟨rfl, rfl⟩
        go_wp2_with fail
        refine (HCN.out _).mono ?_
        rintro e w1 ⟨rfl, hd⟩
        have HB1 := Lib.hid (HB0.out.trans (hd.below _))
        have HZ1 := Lib.hid (HZ0.out.drew hd)
        clear hd
        go_wp2_with fail
        refine (HSk.out _).mono ?_
        rintro e w2 ⟨rfl, hb⟩
        have HB := Lib.hid (HB1.out.trans (hb.mono HB1.out.size))
        have HZ := Lib.hid (HZ1.out.call hb)
        clear hb
        have hz := HZ.out.lt
        obtain ⟨d0, d1, d2, d3, e0, e1, e2, e3⟩ := Mk.four HZ.out
        go_wp2
        refine bodyPost_ret (v := .tuple #[.agg #[.string B1, .slice none 0 0, .bool false, .bool true], .bool true]) (by simp [results, Tryd.results54, go_sem, *]) rfl ⟨?_, ?_⟩
        · exact ((((HB.out.setCell (p := ⟨w.heap.size, _, none⟩) (Nat.le_refl _) _).setCell (p := ⟨w.heap.size, _, none⟩) (Nat.le_refl _) _).setCell (p := ⟨w.heap.size, _, none⟩) (Nat.le_refl _) _).setCell (p := ⟨w.heap.size, _, none⟩) (Nat.le_refl _) _)
        · rw [HE.out]
          refine ⟨none, 0, by show _ = Ending.returned (.tuple #[.agg #[.string (Mk.bts N1), .slice none 0 0, .bool false, .bool true], .bool true]); rw [HBN.out], World.ownsRow_nil _ _ _ _⟩
      · have HE : Hid (R = none) := by show _ = _; rw [HRs.out, if_neg (fun h => ht h.2)]
        have q2 : (Mk.bts T1).toList.isEmpty = false := Mk.emp_no (List.length_pos_iff.2 ht)
        clear hn ht HRs
        obtain ⟨X1, hX1⟩ : ∃ x, Mk.bts T1 = x := ⟨_, rfl⟩
        rw [hX1] at HSk q2
        clear hX1
        go_enter Tryd.func54, Tryd.ntmps54
        go_wp2_with fail
        refine (HP1.out _).mono ?_
        rintro e w9 ⟨rfl, rfl⟩
        go_wp2_with fail
        refine (HCN.out _).mono ?_
        rintro e w1 ⟨rfl, hd⟩
        have HB1 := Lib.hid (HB0.out.trans (hd.below _))
        have HZ1 := Lib.hid (HZ0.out.drew hd)
        clear hd
        go_wp2_with fail
        refine (HSk.out _).mono ?_
        rintro e w2 ⟨rfl, hb⟩
        have HB := Lib.hid (HB1.out.trans (hb.mono HB1.out.size))
        have HZ := Lib.hid (HZ1.out.call hb)
        clear hb
        have hz := HZ.out.lt
        obtain ⟨d0, d1, d2, d3, e0, e1, e2, e3⟩ := Mk.four HZ.out
        go_wp2
        refine bodyPost_ret (v := .tuple #[.agg #[.string B1, .slice none 0 0, .bool false, .bool true], .bool false]) (by simp [results, Tryd.results54, go_sem, *]) rfl ⟨?_, ?_⟩
        · exact ((((HB.out.setCell (p := ⟨w.heap.size, _, none⟩) (Nat.le_refl _) _).setCell (p := ⟨w.heap.size, _, none⟩) (Nat.le_refl _) _).setCell (p := ⟨w.heap.size, _, none⟩) (Nat.le_refl _) _).setCell (p := ⟨w.heap.size, _, none⟩) (Nat.le_refl _) _)
        · rw [HE.out]; exact ⟨_, _, _, rfl⟩
  | false =>
    have hno := Mk.pre_no hpb
    clear hpb
    have HCN := Lib.hid (fun W => cutName_any s (by unfold maxLen; omega) W)
    obtain ⟨N1, hN1⟩ : ∃ x, (Mk.cutN (tl s)).1 = x := ⟨_, rfl⟩
    obtain ⟨N2, hN2⟩ : ∃ x, (Mk.cutN (tl s)).2 = x := ⟨_, rfl⟩
    by_cases hn : N1 = []
    · have HE : Hid (R = none) := by show _ = _; rw [← HR.out]; exact Mk.rt_none hno (by rw [hN1]; exact hn)
      rw [hN1, hN2] at HCN
      have q1 : (Mk.bts N1).toList.isEmpty = true := Mk.emp_yes (by rw [hn]; rfl)
      clear hn hN1 hN2
      obtain ⟨B1, hB1⟩ : ∃ x, Mk.bts N1 = x := ⟨_, rfl⟩
      rw [hB1] at HCN q1
      clear hB1
      go_enter Tryd.func54, Tryd.ntmps54
      go_wp2_with fail
      refine (HP1.out _).mono ?_
      rintro e w9 ⟨rfl, rfl⟩
      go_wp2_with fail
      refine (HCN.out _).mono ?_
      rintro e w1 ⟨rfl, hd⟩
      have HB := Lib.hid (HB0.out.trans (hd.below _))
      have HZ := Lib.hid (HZ0.out.drew hd)
      clear hd
      have hz := HZ.out.lt
      obtain ⟨d0, d1, d2, d3, e0, e1, e2, e3⟩ := Mk.four HZ.out
      go_wp2
      refine bodyPost_ret (v := .tuple #[.agg #[.string ⟨#[]⟩, .slice none 0 0, .bool false, .bool false], .bool false]) (by simp [results, Tryd.results54, go_sem, *]) rfl ⟨?_, ?_⟩
      · exact ((((HB.out.setCell (p := ⟨w.heap.size, _, none⟩) (Nat.le_refl _) _).setCell (p := ⟨w.heap.size, _, none⟩) (Nat.le_refl _) _).setCell (p := ⟨w.heap.size, _, none⟩) (Nat.le_refl _) _).setCell (p := ⟨w.heap.size, _, none⟩) (Nat.le_refl _) _)
      · rw [HE.out]; exact ⟨_, _, _, rfl⟩
    have q1 : (Mk.bts N1).toList.isEmpty = false := Mk.emp_no (List.length_pos_iff.2 hn)
    have HG0 : Hid (Mk.tagGo (s.size + 1) N1 N2 [] = R) := by show _ = _; rw [← HR.out, Mk.rt_go hno (by rw [hN1]; exact hn), hN1, hN2, tl_length]
    have hl0 : N2.length ≤ s.size := by rw [← hN2, ← tl_length]; exact Mk.cut_len _
    rw [hN1, hN2] at HCN
    clear hn hN1 hN2 hno HR
    obtain ⟨B1, hB1⟩ : ∃ x, Mk.bts N1 = x := ⟨_, rfl⟩
    have HBN := Lib.hid hB1
    rw [hB1] at HCN q1
    clear hB1
    obtain ⟨i0, i1, i2, i3, i4⟩ := info_parts Mk.attr_info
    have HI := Lib.hid (And.intro i1 (And.intro i2 (And.intro i3 i4)))
    clear i1 i2 i3 i4
    go_enter Tryd.func54, Tryd.ntmps54
    go_wp2_with fail
    refine (HP1.out _).mono ?_
    rintro e w9 ⟨rfl, rfl⟩
    go_wp2_with fail
    refine (HCN.out _).mono ?_
    rintro e w1 ⟨rfl, hd⟩
    have HB := Lib.hid (HB0.out.trans (hd.below _))
    have HZ := Lib.hid (HZ0.out.drew hd)
    clear hd
    have hz := HZ.out.lt
    go_wp2_with fail
    have HT0 : Hid (Mk.TgI w w1.heap.size B1 [] none 0 (w1.alloc (.cells #[.string B1, .slice none 0 0, .bool true, .bool false] 100))) :=
      ⟨HZ.out.allocO _, At.new _ _ _, World.ownsRow_nil _ _ _ _, HB.out.alloc HB.out.size _, hz⟩
    clear hz HB HZ HB0 HZ0 HP1 HCN q1
    go_loopw [7] (fun r wr => ∃ (f : Nat) (rest : Mk.Txt) (ats : List (Mk.Txt × Mk.Txt)) (A : Option Addr) (c : Nat), r = .string (Mk.bts rest) ∧ rest.length < f ∧ ats.length + rest.length ≤ s.size ∧ Hid (Mk.tagGo f N1 rest ats = R) ∧ Hid (Mk.TgI w w1.heap.size B1 ats A c wr)) (fun r _ => Mk.sz r)
    case atStart => exact ⟨s.size + 1, N2, [], none, 0, rfl, by omega, by simpa using hl0, HG0.out, HT0.out⟩
    case round =>
      clear HG0 HT0 hl0
      obtain ⟨f, rest, ats, A, c, rfl, hf, hl, HG, HT⟩ := hrel
      obtain ⟨f, rfl⟩ : ∃ k, f = k + 1 := ⟨f - 1, by omega⟩
      have HSk := Lib.hid (fun W => skipWhite_any (Mk.bts rest) W)
      rw [Mk.tl_bts] at HSk
      obtain ⟨T1, hT1⟩ : ∃ x, Mk.skip rest = x := ⟨_, rfl⟩
      have HT1 := Lib.hid hT1
      have hsl := Mk.skip_len rest
      rw [hT1] at HSk hsl
      clear hT1
      obtain ⟨X1, hX1⟩ : ∃ x, Mk.bts T1 = x := ⟨_, rfl⟩
      have hx1s : X1.size = T1.length := by rw [← hX1]; rfl
      have HX1 : Hid (tl X1 = T1) := by show _ = _; rw [← hX1]; rfl
      rw [hX1] at HSk
      clear hX1
      obtain ⟨Y, hY⟩ : ∃ x, Mk.bts rest = x := ⟨_, rfl⟩
      have hys : Y.size = rest.length := by rw [← hY]; rfl
      rw [hY] at HSk ⊢
      clear hY
      obtain ⟨n, hn⟩ : ∃ n, ats.length = n := ⟨_, rfl⟩
      have HN := Lib.hid hn
      rw [hn] at hl
      clear hn
      by_cases h0 : T1 = []
      · have q0 : X1.toList.isEmpty = true := Mk.emp_yes (by rw [hx1s, h0]; rfl)
        have HE : Hid (R = some ⟨N1, ats, true, false⟩) := by show _ = _; rw [← HG.out, Mk.tg_end (HT1.out.trans h0)]
        clear h0 hx1s hys hsl
        go_wp2_with fail
        refine (HSk.out _).mono ?_
        rintro e w2 ⟨rfl, hb⟩
        have HT2 := Lib.hid (HT.out.call hb)
        clear hb
        have hz2 := HT2.out.a2.lt
        have hz8 := HT2.out.a8.lt
        obtain ⟨a0, a1, a2, a3, b0, b1, b2, b3⟩ := Mk.four HT2.out.a2
        obtain ⟨c0, c1, c2, c3, d0, d1, d2, d3⟩ := Mk.four HT2.out.a8
        rw [HN.out] at c1
        have hne : w.heap.size ≠ w1.heap.size := Nat.ne_of_lt HT2.out.lt
        have hne' : w1.heap.size ≠ w.heap.size := Ne.symm hne
        go_wp2
        all_goals refine bodyPost_ret (v := .tuple #[.agg #[.string B1, .slice A n c, .bool true, .bool false], .bool true]) (by simp [results, Tryd.results54, go_sem, *]) rfl ⟨(((((HT2.out.bl.setCell (p := ⟨w1.heap.size, 3, none⟩) (Nat.le_of_lt HT2.out.lt) _).setCell (p := ⟨w.heap.size, _, none⟩) (Nat.le_refl _) _).setCell (p := ⟨w.heap.size, _, none⟩) (Nat.le_refl _) _).setCell (p := ⟨w.heap.size, _, none⟩) (Nat.le_refl _) _).setCell (p := ⟨w.heap.size, _, none⟩) (Nat.le_refl _) _), ?_⟩
        all_goals
          rw [HE.out]
          refine ⟨A, c, ?_, ?_⟩
          · show _ = Ending.returned (.tuple #[.agg #[.string (Mk.bts N1), .slice A ats.length c, .bool true, .bool false], .bool true])
            rw [HBN.out, HN.out]
          · have hlt := HT2.out.lt
            have h := Mk.own_mono (base' := w.heap.size + 1) HT2.out.own (by omega)
            exact Mk.own_mono (ownsRow_setCell_below (ownsRow_setCell_below (ownsRow_setCell_below (ownsRow_setCell_below (Mk.own_mono (base' := w.heap.size + 1) (ownsRow_setCell_below HT2.out.own (a := ⟨w1.heap.size, 3, none⟩) (Nat.lt_succ_self _) _) (by omega)) (a := ⟨w.heap.size, _, none⟩) (Nat.lt_succ_self _) _) (a := ⟨w.heap.size, _, none⟩) (Nat.lt_succ_self _) _) (a := ⟨w.heap.size, _, none⟩) (Nat.lt_succ_self _) _) (a := ⟨w.heap.size, _, none⟩) (Nat.lt_succ_self _) _) (Nat.le_succ _)
      have q0 : X1.toList.isEmpty = false := Mk.emp_no (by rw [hx1s]; exact List.length_pos_iff.2 h0)
      by_cases h1 : T1 = [47]
      · have q1 : (X1.toList == [47]) = true := Mk.is_list (HX1.out.trans h1)
        have HE : Hid (R = some ⟨N1, ats, true, true⟩) := by show _ = _; rw [← HG.out, Mk.tg_close (HT1.out.trans h1)]
        clear h0 h1 hx1s hys hsl
        go_wp2_with fail
        refine (HSk.out _).mono ?_
        rintro e w2 ⟨rfl, hb⟩
        have HT2 := Lib.hid (HT.out.call hb)
        clear hb
        have hz2 := HT2.out.a2.lt
        have hz8 := HT2.out.a8.lt
        obtain ⟨a0, a1, a2, a3, b0, b1, b2, b3⟩ := Mk.four HT2.out.a2
        obtain ⟨c0, c1, c2, c3, d0, d1, d2, d3⟩ := Mk.four HT2.out.a8
        rw [HN.out] at c1
        have hne : w.heap.size ≠ w1.heap.size := Nat.ne_of_lt HT2.out.lt
        have hne' : w1.heap.size ≠ w.heap.size := Ne.symm hne
        go_wp2
        all_goals refine bodyPost_ret (v := .tuple #[.agg #[.string B1, .slice A n c, .bool true, .bool true], .bool true]) (by simp [results, Tryd.results54, go_sem, *]) rfl ⟨(((((HT2.out.bl.setCell (p := ⟨w1.heap.size, 3, none⟩) (Nat.le_of_lt HT2.out.lt) _).setCell (p := ⟨w.heap.size, _, none⟩) (Nat.le_refl _) _).setCell (p := ⟨w.heap.size, _, none⟩) (Nat.le_refl _) _).setCell (p := ⟨w.heap.size, _, none⟩) (Nat.le_refl _) _).setCell (p := ⟨w.heap.size, _, none⟩) (Nat.le_refl _) _), ?_⟩
        all_goals
          rw [HE.out]
          refine ⟨A, c, ?_, ?_⟩
          · show _ = Ending.returned (.tuple #[.agg #[.string (Mk.bts N1), .slice A ats.length c, .bool true, .bool true], .bool true])
            rw [HBN.out, HN.out]
          · have hlt := HT2.out.lt
            have h := Mk.own_mono (base' := w.heap.size + 1) HT2.out.own (by omega)
            exact Mk.own_mono (ownsRow_setCell_below (ownsRow_setCell_below (ownsRow_setCell_below (ownsRow_setCell_below (Mk.own_mono (base' := w.heap.size + 1) (ownsRow_setCell_below HT2.out.own (a := ⟨w1.heap.size, 3, none⟩) (Nat.lt_succ_self _) _) (by omega)) (a := ⟨w.heap.size, _, none⟩) (Nat.lt_succ_self _) _) (a := ⟨w.heap.size, _, none⟩) (Nat.lt_succ_self _) _) (a := ⟨w.heap.size, _, none⟩) (Nat.lt_succ_self _) _) (a := ⟨w.heap.size, _, none⟩) (Nat.lt_succ_self _) _) (Nat.le_succ _)
      have q1 : (X1.toList == [47]) = false := Mk.not_list (fun e => h1 (HX1.out.symm.trans e))
      by_cases h2 : T1.length = rest.length
      · have HE : Hid (R = none) := by show _ = _; rw [← HG.out, Mk.tg_len (fun e => h0 (HT1.out.symm.trans e)) (fun e => h1 (HT1.out.symm.trans e)) (by rw [HT1.out]; exact h2)]
        have q2 : ((X1.size : Int) == (Y.size : Int)) = true := by rw [hx1s, hys, h2]; exact beq_self_eq_true _
        clear h0 h1 h2 hx1s hys hsl
        go_wp2_with fail
        refine (HSk.out _).mono ?_
        rintro e w2 ⟨rfl, hb⟩
        have HT2 := Lib.hid (HT.out.call hb)
        clear hb
        have hz2 := HT2.out.a2.lt
        have hz8 := HT2.out.a8.lt
        obtain ⟨a0, a1, a2, a3, b0, b1, b2, b3⟩ := Mk.four HT2.out.a2
        obtain ⟨c0, c1, c2, c3, d0, d1, d2, d3⟩ := Mk.four HT2.out.a8
        rw [HN.out] at c1
        have hne : w.heap.size ≠ w1.heap.size := Nat.ne_of_lt HT2.out.lt
        have hne' : w1.heap.size ≠ w.heap.size := Ne.symm hne
        go_wp2
        refine bodyPost_ret (v := .tuple #[.agg #[.string ⟨#[]⟩, .slice none 0 0, .bool false, .bool false], .bool false]) (by simp [results, Tryd.results54, go_sem, *]) rfl ⟨?_, ?_⟩
        · exact ((((HT2.out.bl.setCell (p := ⟨w.heap.size, _, none⟩) (Nat.le_refl _) _).setCell (p := ⟨w.heap.size, _, none⟩) (Nat.le_refl _) _).setCell (p := ⟨w.heap.size, _, none⟩) (Nat.le_refl _) _).setCell (p := ⟨w.heap.size, _, none⟩) (Nat.le_refl _) _)
        · rw [HE.out]; exact ⟨_, _, _, rfl⟩
      have q2 : ((X1.size : Int) == (Y.size : Int)) = false := by rw [hx1s, hys, beq_eq_false_iff_ne]; omega
      have HRA := Lib.hid (fun W => readAttr_any X1 (by rw [hx1s]; omega) W)
      rw [HX1.out] at HRA
      cases hra : Mk.readAttr T1 with
      | none =>
        have HE : Hid (R = none) := by show _ = _; rw [← HG.out, Mk.tg_bad (fun e => h0 (HT1.out.symm.trans e)) (fun e => h1 (HT1.out.symm.trans e)) (by rw [HT1.out]; exact hra)]
        rw [hra] at HRA
        have HRB : Hid (∀ W, Calls Tryd.prog 66 #[.string X1] W fun e w' => e = .returned (.tuple #[.agg #[.string ⟨#[]⟩, .string ⟨#[]⟩], .string ⟨#[]⟩, .bool false]) ∧ Below W.heap.size W w') := HRA
        clear h0 h1 h2 hx1s hys hsl hra HRA
        go_wp2_with fail
        refine (HSk.out _).mono ?_
        rintro e w2 ⟨rfl, hb⟩
        have HT2 := Lib.hid (HT.out.call hb)
        clear hb
        have hz2 := HT2.out.a2.lt
        have hz8 := HT2.out.a8.lt
        obtain ⟨a0, a1, a2, a3, b0, b1, b2, b3⟩ := Mk.four HT2.out.a2
        obtain ⟨c0, c1, c2, c3, d0, d1, d2, d3⟩ := Mk.four HT2.out.a8
        rw [HN.out] at c1
        have hne : w.heap.size ≠ w1.heap.size := Nat.ne_of_lt HT2.out.lt
        have hne' : w1.heap.size ≠ w.heap.size := Ne.symm hne
        go_wp2_with fail
        refine (HRB.out _).mono ?_
        rintro e w3 ⟨rfl, hb⟩
        have HT3 := Lib.hid (HT2.out.call hb)
        clear hb
        replace HT2 := Lib.hid (HT3.out.call (Mk.below_new w3 (.cells #[.string ⟨#[]⟩, .string ⟨#[]⟩] 75)))
        clear hz2 hz8 a0 a1 a2 a3 b0 b1 b2 b3 c0 c1 c2 c3 d0 d1 d2 d3
        have hz2 := HT3.out.a2.lt
        have hz8 := HT3.out.a8.lt
        obtain ⟨a0, a1, a2, a3, b0, b1, b2, b3⟩ := Mk.four HT3.out.a2
        go_wp2
        refine bodyPost_ret (v := .tuple #[.agg #[.string ⟨#[]⟩, .slice none 0 0, .bool false, .bool false], .bool false]) (by simp [results, Tryd.results54, go_sem, *]) rfl ⟨?_, ?_⟩
        · exact (((((HT3.out.bl.setCell (p := ⟨w.heap.size, _, none⟩) (Nat.le_refl _) _).setCell (p := ⟨w.heap.size, _, none⟩) (Nat.le_refl _) _).setCell (p := ⟨w.heap.size, _, none⟩) (Nat.le_refl _) _).setCell (p := ⟨w.heap.size, _, none⟩) (Nat.le_refl _) _).alloc (by simp only [heap_set]; exact HT3.out.bl.size) _)
        · rw [HE.out]; exact ⟨_, _, _, rfl⟩
      | some x =>
        obtain ⟨a, be⟩ := x
        have HG2 : Hid (Mk.tagGo f N1 be (ats ++ [a]) = R) := by show _ = _; rw [← HG.out, Mk.tg_on (fun e => h0 (HT1.out.symm.trans e)) (fun e => h1 (HT1.out.symm.trans e)) (by rw [HT1.out]; exact h2) (by rw [HT1.out]; exact hra)]
        have hlr := Mk.ra_len hra
        rw [hra] at HRA
        obtain ⟨a1', a2'⟩ := a
        obtain ⟨na, hna⟩ : ∃ x, Mk.bts a1' = x := ⟨_, rfl⟩
        obtain ⟨va, hva⟩ : ∃ x, Mk.bts a2' = x := ⟨_, rfl⟩
        have HRB : Hid (∀ W, Calls Tryd.prog 66 #[.string X1] W fun e w' => e = .returned (.tuple #[.agg #[.string na, .string va], .string (Mk.bts be), .bool true]) ∧ Below W.heap.size W w') := by rw [← hna, ← hva]; exact HRA
        have HNA := Lib.hid (And.intro hna hva)
        have hbl : be.length < f ∧ n + 1 + be.length ≤ s.size ∧ be.length < Y.size := by rw [hys]; omega
        have HBl := Lib.hid hbl
        have hn8 : n ≤ 100000000 := by omega
        clear h0 h1 h2 hx1s hys hsl hra HRA hna hva hlr hbl
        go_wp2_with fail
        refine (HSk.out _).mono ?_
        rintro e w2 ⟨rfl, hb⟩
        have HT2 := Lib.hid (HT.out.call hb)
        clear hb
        have hz2 := HT2.out.a2.lt
        have hz8 := HT2.out.a8.lt
        obtain ⟨a0, a1, a2, a3, b0, b1, b2, b3⟩ := Mk.four HT2.out.a2
        obtain ⟨c0, c1, c2, c3, d0, d1, d2, d3⟩ := Mk.four HT2.out.a8
        rw [HN.out] at c1
        have hne : w.heap.size ≠ w1.heap.size := Nat.ne_of_lt HT2.out.lt
        have hne' : w1.heap.size ≠ w.heap.size := Ne.symm hne
        go_wp2_with fail
        refine (HRB.out _).mono ?_
        rintro e w3 ⟨rfl, hb⟩
        have HT3 := Lib.hid (HT2.out.call hb)
        clear hb
        have HT4 := Lib.hid (HT3.out.call (Mk.below_new w3 (.cells #[.string na, .string va] 75)))
        clear hz2 hz8 a0 a1 a2 a3 b0 b1 b2 b3 c0 c1 c2 c3 d0 d1 d2 d3
        have hz8 := HT3.out.a8.lt
        obtain ⟨c0, c1, c2, c3, d0, d1, d2, d3⟩ := Mk.four HT3.out.a8
        rw [HN.out] at c1
        have HT5 := Lib.hid (HT4.out.call (Mk.below_new (w3.alloc (.cells #[.string na, .string va] 75)) (.cells #[.string na, .string va] 75)))
        have HO5 : Hid (((w3.alloc (.cells #[.string na, .string va] 75)).alloc (.cells #[.string na, .string va] 75)).ownsRow (w1.heap.size + 1) 75 2 (.slice A n c) n (Mk.atCells ats)) := by
          have h := HT5.out.own
          rw [HN.out] at h
          exact h
        have HNw := Lib.hid (cell_two_new (w3.alloc (.cells #[.string na, .string va] 75)) (.string na) (.string va) 75)
        rw [World.size_alloc] at HNw
        have HNx := Lib.hid (fun (g9 cp9 : Nat) (w9 : World) (hown : w9.ownsRow (w1.heap.size + 1) 75 2 (.slice (some ⟨g9, 0, none⟩) (n + 1) cp9) (n + 1) (Mk.atCells ats ++ [.string na, .string va])) (hg : ((w3.alloc (.cells #[.string na, .string va] 75)).alloc (.cells #[.string na, .string va] 75)).grownBy w9 (Value.slice A n c).ownBlock) => by
          have hne9 : (Value.slice A n c).ownBlock ≠ some w1.heap.size := fun e => by have := (HO5.out.lt _ e).1; omega
          have h8 := Mk.grown_at HT5.out.a8 hg hne9
          have hp : Mk.TgI w w1.heap.size B1 (ats ++ [(a1', a2')]) (some ⟨g9, 0, none⟩) cp9 (w9.setCell ⟨w1.heap.size, 1, none⟩ (.slice (some ⟨g9, 0, none⟩) (n + 1) cp9)) :=
            HT5.out.push (a := (a1', a2')) (by rw [HN.out]) (by rw [HNA.out.1, HNA.out.2]; exact hown) (by rw [HN.out]; exact hg)
          exact And.intro h8.lt (And.intro (h8.cell 1 _ rfl) (And.intro (h8.free 1 _ rfl) hp)))
        go_wp2_with (first
          | (at_builtin; (refine wpList_append_lies _ rfl (.tmp 68) (.tmp 70) 57 rfl (w1.heap.size + 1) 75 i0 _ 2 32 Tryd.underlying57 HI.out.1 HI.out.2.1 HI.out.2.2.1 HI.out.2.2.2 rfl (by decide) _ n _ rfl HO5.out _ 1 1 [.string na, .string va] rfl rfl HNw.out (by simp [Value.oneCell']) (by decide) (by unfold maxLen; omega) (by omega) (by have := HT5.out.a8.lt; omega) _ rfl ?_; intro g9 cp9 w9 hown9 hg9 _ _; obtain ⟨z9, c9, f9, HP9'⟩ := HNx.out g9 cp9 w9 hown9 hg9; have HP9 := Lib.hid HP9'; clear hown9 hg9 HP9')))
        exact ⟨⟨f, be, ats ++ [(a1', a2')], some ⟨g9, 0, none⟩, cp9, rfl, HBl.out.1, by rw [List.length_append, HN.out]; exact HBl.out.2.1, HG2.out, HP9.out⟩, HBl.out.2.2⟩
end Go.Proofs.YthmhadgbhakdlaaDoor
