/- abbr.Of: a short name. -/
import Derived.Test.YtjobhjemnmleaaaGreatDoorQ33
import Derived.Test.YtjobhjemnmleaaaGreatDoorQ32
set_option maxRecDepth 200000
set_option maxHeartbeats 16000000
namespace Go.Proofs.YtjobhjemnmleaaaGreatDoor
open Go.RowKit Go.Shelf
namespace Ab
def ofT (f l : ByteArray) (off : Int) (dst : Bool) : ByteArray × Int :=
 if (cutf f).2.2.2 = true ∧ letter l = true then
  if (cutf f).2.1 = pS then ((cutf f).1 ++ l ++ (cutf f).2.2.1, 0)
  else if (cutf f).2.1 = pZ then (if (offT off).2 = 0 then ((cutf f).1 ++ (offT off).1 ++ (cutf f).2.2.1, 0) else (⟨#[]⟩, (offT off).2))
  else if (cutf f).2.1 = pE then ((if dst = true then (cutf f).2.2.1 else (cutf f).1), 0)
  else (f, 0)
 else (⟨#[]⟩, 2)
theorem cutf_place (f : ByteArray) : (cutf f).2.1 = pS ∨ (cutf f).2.1 = pZ ∨ (cutf f).2.1 = pE ∨ (cutf f).2.1 = b0 := by
 unfold cutf;split
 ·exact .inr (.inr (.inr rfl))
 ·split
  ·exact .inl rfl
  ·split
   ·exact .inr (.inl rfl)
   ·split
    ·exact .inr (.inr (.inl rfl))
    ·exact .inr (.inr (.inr rfl))
theorem cutf_size (f : ByteArray) : (cutf f).1.size ≤ 32 ∧ (cutf f).2.2.1.size ≤ 32 := by
 unfold cutf;have h0 : b0.size = 0 := rfl;split
 ·exact ⟨by show b0.size ≤ 32; omega, by show b0.size ≤ 32; omega⟩
 ·have hp := fun p => cut_parts f p
  split
  ·have := hp pS;exact ⟨by show (ahd f pS).size ≤ 32; omega, by show (bhd f pS).size ≤ 32; omega⟩
  ·split
   ·have := hp pZ;exact ⟨by show (ahd f pZ).size ≤ 32; omega, by show (bhd f pZ).size ≤ 32; omega⟩
   ·split
    ·have := hp pE;exact ⟨by show (ahd f pE).size ≤ 32; omega, by show (bhd f pE).size ≤ 32; omega⟩
    ·exact ⟨by show f.size ≤ 32; omega, by show b0.size ≤ 32; omega⟩
theorem letter_size {l : ByteArray} (h : letter l = true) : l.size ≤ 32 := by
 unfold letter at h;rw [Bool.and_eq_true, Bool.and_eq_true, decide_eq_true_eq] at h;exact h.1.1
theorem nums_len (a : Int) : (nums a).length ≤ 3 := by
 unfold nums;split
 ·exact Nat.le_refl _
 ·split <;> simp
theorem offT_size (off : Int) : (offT off).1.size ≤ 7 := by
 unfold offT;split
 ·show (offL off).length ≤ 7
  unfold offL;rw [List.length_cons, pairs_len];have := nums_len (abs_ off);omega
 ·exact Nat.zero_le _
theorem offT_err (off : Int) : (offT off).2 = 0 ∨ (offT off).2 = 1 := by
 unfold offT;split
 ·exact .inl rfl
 ·exact .inr rfl
end Ab
theorem abOf_any (f l : ByteArray) (off : Int) (dst : Bool) (w : World) (hW : Wa w) (hf : f.size ≤ maxLen) (hl : l.size ≤ 1000000) (ho : -9223372036854775808 ≤ off ∧ off < 9223372036854775808) :
  Calls Tryz.prog 139 #[.string f, .string l, .int .i64 off, .bool dst] w fun e w' => e = .returned (.tuple #[.string (Ab.ofT f l off dst).1, .int .i64 (Ab.ofT f l off dst).2]) ∧ Below w.heap.size w w' := by
 obtain ⟨Z, hZ⟩ : ∃ Z, Ab.ofT f l off dst = Z := ⟨_, rfl⟩
 rw [hZ];have HC := Lib.hid (abbrCut_any f w hW hf);have hp := Ab.cutf_place f;have hs := Ab.cutf_size f;unfold Ab.ofT at hZ;obtain ⟨⟨A, P, B, ok⟩, hc⟩ : ∃ c, Ab.cutf f = c := ⟨_, rfl⟩
 rw [hc] at HC hp hs hZ;simp only at hp hs hZ;unfold Ab.Ret at HC;have HO := Lib.hid fun W => abOff_any off W ho
 have hO7 := Ab.offT_size off;have hOe := Ab.offT_err off;obtain ⟨⟨ot, oe⟩, hoT⟩ : ∃ x, Ab.offT off = x := ⟨_, rfl⟩
 rw [hoT] at HO hO7 hOe hZ;simp only at hO7 hOe hZ;have hA := hs.1;have hB := hs.2;clear hW hf hc hs hoT ho;cases ok with
 | false =>
  have HZ : Hid (Z = (⟨#[]⟩, 2)) := by
   show Z = _
   rw [← hZ, if_neg (by simp)]
  clear hZ hp hOe;go_enter Tryz.func139, Tryz.ntmps139
  go_wp2_with fail
  refine HC.out.mono ?_;rintro e w2 ⟨rfl, hb2⟩;have HB2 := Lib.hid hb2;clear hb2;go_wp2;go_ret2
  exact ⟨by rw [HZ.out]; rfl, HB2.out⟩
 | true =>
  cases hlt : Ab.letter l with
  | false =>
   have HZ : Hid (Z = (⟨#[]⟩, 2)) := by
    show Z = _
    rw [← hZ, if_neg (by rw [hlt]; simp)]
   have HLc := Lib.hid fun W => checkLetter_no l W hl hlt
   clear hZ hp hOe hlt;go_enter Tryz.func139, Tryz.ntmps139
   go_wp2_with fail
   refine HC.out.mono ?_;rintro e w2 ⟨rfl, hb2⟩;have HB2 := Lib.hid hb2;clear hb2;go_wp2_with fail
   refine (HLc.out _).mono ?_;rintro e w3 ⟨rfl, hb3⟩;have HB3 := Lib.hid (below_then HB2.out hb3);clear hb3;go_wp2;go_ret2
   exact ⟨by rw [HZ.out]; rfl, HB3.out⟩
  | true =>
   have HLc := Lib.hid fun W => checkLetter_yes l W hl hlt
   have hl32 := Ab.letter_size hlt;rw [if_pos ⟨rfl, hlt⟩] at hZ;clear hlt;rcases hp with rfl | rfl | rfl | rfl
   ·have HZ : Hid (Z = (A ++ l ++ B, 0)) := by
     show Z = _
     rw [← hZ, if_pos rfl]
    have s1 : ∀ W, (Op.stringOp .add A l).run Tryz.prog W = .ok (.string (A ++ l)) W := fun W => run_string_add_sum W _ _ (by omega)
    have s2 : ∀ W, (Op.stringOp .add (A ++ l) B).run Tryz.prog W = .ok (.string (A ++ l ++ B)) W := fun W => run_string_add_sum W _ _ (by rw [ByteArray.size_append]; omega)
    unfold Ab.pS at HC;clear hZ hOe;go_enter Tryz.func139, Tryz.ntmps139
    go_wp2_with fail
    refine HC.out.mono ?_;rintro e w2 ⟨rfl, hb2⟩;have HB2 := Lib.hid hb2;clear hb2;go_wp2_with fail
    refine (HLc.out _).mono ?_;rintro e w3 ⟨rfl, hb3⟩;have HB3 := Lib.hid (below_then HB2.out hb3);clear hb3;go_wp2;go_ret2
    exact ⟨by rw [HZ.out]; rfl, HB3.out⟩
   ·rw [if_neg (by decide), if_pos rfl] at hZ;unfold Ab.pZ at HC;rcases hOe with rfl | rfl
    ·have HZ : Hid (Z = (A ++ ot ++ B, 0)) := by
      show Z = _
      rw [← hZ, if_pos rfl]
     have s1 : ∀ W, (Op.stringOp .add A ot).run Tryz.prog W = .ok (.string (A ++ ot)) W := fun W => run_string_add_sum W _ _ (by omega)
     have s2 : ∀ W, (Op.stringOp .add (A ++ ot) B).run Tryz.prog W = .ok (.string (A ++ ot ++ B)) W := fun W => run_string_add_sum W _ _ (by rw [ByteArray.size_append]; omega)
     clear hZ;go_enter Tryz.func139, Tryz.ntmps139
     go_wp2_with fail
     refine HC.out.mono ?_;rintro e w2 ⟨rfl, hb2⟩;have HB2 := Lib.hid hb2;clear hb2;go_wp2_with fail
     refine (HLc.out _).mono ?_;rintro e w3 ⟨rfl, hb3⟩;have HB3 := Lib.hid (below_then HB2.out hb3);clear hb3;go_wp2_with fail
     refine (HO.out _).mono ?_;rintro e w4 ⟨rfl, hb4⟩;have HB4 := Lib.hid (below_then HB3.out hb4);clear hb4;go_wp2;go_ret2
     exact ⟨by rw [HZ.out]; rfl, HB4.out⟩
    ·have HZ : Hid (Z = (⟨#[]⟩, 1)) := by
      show Z = _
      rw [← hZ, if_neg (by decide)]
     clear hZ;go_enter Tryz.func139, Tryz.ntmps139
     go_wp2_with fail
     refine HC.out.mono ?_;rintro e w2 ⟨rfl, hb2⟩;have HB2 := Lib.hid hb2;clear hb2;go_wp2_with fail
     refine (HLc.out _).mono ?_;rintro e w3 ⟨rfl, hb3⟩;have HB3 := Lib.hid (below_then HB2.out hb3);clear hb3;go_wp2_with fail
     refine (HO.out _).mono ?_;rintro e w4 ⟨rfl, hb4⟩;have HB4 := Lib.hid (below_then HB3.out hb4);clear hb4;go_wp2;go_ret2
     exact ⟨by rw [HZ.out]; rfl, HB4.out⟩
   ·rw [if_neg (by decide), if_neg (by decide), if_pos rfl] at hZ;unfold Ab.pE at HC;have HZ := Lib.hid hZ.symm;clear hZ hOe;cases dst
    all_goals
     go_enter Tryz.func139, Tryz.ntmps139
     go_wp2_with fail
     refine HC.out.mono ?_;rintro e w2 ⟨rfl, hb2⟩;have HB2 := Lib.hid hb2;clear hb2;go_wp2_with fail
     refine (HLc.out _).mono ?_;rintro e w3 ⟨rfl, hb3⟩;have HB3 := Lib.hid (below_then HB2.out hb3);clear hb3;go_wp2;go_ret2
     exact ⟨by rw [HZ.out]; rfl, HB3.out⟩
   ·rw [if_neg (by decide), if_neg (by decide), if_neg (by decide)] at hZ;unfold Ab.b0 at HC;have HZ := Lib.hid hZ.symm;clear hZ hOe;go_enter Tryz.func139, Tryz.ntmps139
    go_wp2_with fail
    refine HC.out.mono ?_;rintro e w2 ⟨rfl, hb2⟩;have HB2 := Lib.hid hb2;clear hb2;go_wp2_with fail
    refine (HLc.out _).mono ?_;rintro e w3 ⟨rfl, hb3⟩;have HB3 := Lib.hid (below_then HB2.out hb3);clear hb3;go_wp2;go_ret2
    exact ⟨by rw [HZ.out]; rfl, HB3.out⟩
end Go.Proofs.YtjobhjemnmleaaaGreatDoor
namespace Go.Proofs.YtjobhjemnmleaaaGreatDoor
open Go.RowKit Go.Shelf
namespace Ln
structure St where
 off : Int
 dst : Bool
 ab : ByteArray
def St.v (s : St) : Value := .agg #[.int .i64 s.off, .bool s.dst, .string s.ab]
def St.zero : St := ⟨0, false, ⟨#[]⟩⟩
def stIn (rules : List Ru.R) (e : Er.E) (t : Int) : St :=
 ⟨e.std + (savedAt rules e t).1, (savedAt rules e t).1 != 0, (Ab.ofT e.fm (savedAt rules e t).2 (e.std + (savedAt rules e t).1) ((savedAt rules e t).1 != 0)).1⟩
theorem ofT_none {f l : ByteArray} {off : Int} {dst : Bool} (h : (Ab.ofT f l off dst).2 ≠ 0) : (Ab.ofT f l off dst).1 = ⟨#[]⟩ := by
 unfold Ab.ofT at h ⊢;split at h
 ·rename_i h1
  rw [if_pos h1];split at h
  ·exact absurd rfl h
  ·rename_i h2
   rw [if_neg h2];split at h
   ·rename_i h3
    rw [if_pos h3];split at h
    ·exact absurd rfl h
    ·rename_i h4
     rw [if_neg h4]
   ·rename_i h3
    rw [if_neg h3];split at h
    ·exact absurd rfl h
    ·exact absurd rfl h
 ·rename_i h1
  rw [if_neg h1]
end Ln
theorem state_results {tmps : Array Value} {w : World} {a : Nat} {s : Ln.St} (h4 : tmps[4]?.getD undef = .pointer (some ⟨a, 0, none⟩)) (c0 : w.cell? ⟨a, 0, none⟩ = some (.int .i64 s.off)) (c1 : w.cell? ⟨a, 1, none⟩ = some (.bool s.dst)) (c2 : w.cell? ⟨a, 2, none⟩ = some (.string s.ab)) :
  (results Tryz.f102 tmps).run Tryz.prog w = .ok s.v w := by
 unfold Ln.St.v;simp [results, Tryz.f102, go_sem, h4, c0, c1, c2]
theorem idState_any (s : Src.S) (rv zv lv : Value) (evs : List Value) (e : Er.E) (t y : Int) (w : World) (hR : Src.SrcR w w.heap.size s rv zv lv evs) (hW : Wo w) (hA : Wa w) (hok : Eg.RulesOk s.rules) (hwc : ∀ r ∈ s.rules, 0 ≤ r.c) (h1 : IsTime e.std) (h2 : IsTime e.sv) (hf : e.fm.size ≤ maxLen) (hy : Ln.yr t = y) (hy1 : 2 ≤ y ∧ y ≤ 9998)
  (hsv : IsTime (Ln.savedAt s.rules e t).1 ∧ (Ln.savedAt s.rules e t).2.size ≤ 1000000) :
  Calls Tryz.prog 102 #[.agg #[.int .i64 e.std, .int .u8 e.k, .int .i64 e.sv, .string e.ru, .string e.fm, .bool e.en, .int .i64 e.u.y, .int .i64 e.u.m, .int .u8 e.u.k, .int .i64 e.u.n, .int .i64 e.u.d, .int .i64 e.u.s, .int .u8 e.u.c, .int .i64 t, .int .i64 y], .agg #[rv, zv, lv]] w fun r w' => r = .returned (Ln.stIn s.rules e t).v ∧ Below w.heap.size w w' := by
 obtain ⟨rA, rc, hrv, _⟩ := hR.rules;obtain ⟨zA, zc, hzv, _⟩ := hR.zones;obtain ⟨lA, lc, hlv, _⟩ := hR.links;obtain ⟨n1, hn1⟩ : ∃ n, s.rules.length = n := ⟨_, rfl⟩
 obtain ⟨n2, hn2⟩ : ∃ n, s.zones.length = n := ⟨_, rfl⟩
 obtain ⟨n3, hn3⟩ : ∃ n, s.links.length = n := ⟨_, rfl⟩
 rw [hn1] at hrv;rw [hn2] at hzv;rw [hn3] at hlv;obtain rfl := hrv;obtain rfl := hzv;obtain rfl := hlv;have HSv := Lib.hid fun W (hb : Below w.heap.size w W) => idSaved_any s _ _ _ evs e t y W (hR.call hb) (hW.below hb) hok hwc h1 hy hy1
 obtain ⟨⟨sv, lt⟩, hs⟩ : ∃ p, Ln.savedAt s.rules e t = p := ⟨_, rfl⟩
 obtain ⟨Z, hZ⟩ : ∃ Z, Ln.stIn s.rules e t = Z := ⟨_, rfl⟩
 rw [hZ];unfold Ln.stIn at hZ;rw [hs] at HSv hsv hZ;simp only at hsv hZ;have HAb := Lib.hid fun W (hb : Below w.heap.size w W) => abOf_any e.fm lt (e.std + sv) (sv != 0) W (hA.below hb) hf hsv.2 (by have := h1; have := hsv.1; unfold IsTime at *; omega)
 have hN := fun h => Ln.ofT_none (f := e.fm) (l := lt) (off := e.std + sv) (dst := sv != 0) h
 obtain ⟨⟨an, ae⟩, ha⟩ : ∃ p, Ab.ofT e.fm lt (e.std + sv) (sv != 0) = p := ⟨_, rfl⟩
 rw [ha] at HAb hN hZ;simp only at hN hZ;unfold Ln.SvRet at HSv;simp only at HSv;obtain ⟨std, ek, esv, ru, fm, en, ⟨uy, mm, dk, dn, dd, sc, cc⟩⟩ := e;simp only at HSv HAb hZ h1 ⊢;obtain ⟨W, hW0⟩ : ∃ W, ((w.alloc (.cells #[.int .i64 std, .int .u8 ek, .int .i64 esv, .string ru, .string fm, .bool en, .int .i64 uy, .int .i64 mm, .int .u8 dk, .int .i64 dn, .int .i64 dd, .int .i64 sc, .int .u8 cc, .int .i64 t, .int .i64 y] 207)).alloc (.cells #[.slice rA n1 rc, .slice zA n2 zc, .slice lA n3 lc] 26)).alloc (.cells #[.int .i64 0, .bool false, .string ⟨#[]⟩] 41) = W := ⟨_, rfl⟩
 have hB0 : Below w.heap.size w W := by rw [← hW0]; exact (((Below.refl w.heap.size w).alloc (Nat.le_refl _) _).alloc (by simp) _).alloc (by simp; omega) _
 have hX0 : At W w.heap.size [.int .i64 std, .int .u8 ek, .int .i64 esv, .string ru, .string fm, .bool en, .int .i64 uy, .int .i64 mm, .int .u8 dk, .int .i64 dn, .int .i64 dd, .int .i64 sc, .int .u8 cc, .int .i64 t, .int .i64 y] := by rw [← hW0]; exact ((At.new w #[.int .i64 std, .int .u8 ek, .int .i64 esv, .string ru, .string fm, .bool en, .int .i64 uy, .int .i64 mm, .int .u8 dk, .int .i64 dn, .int .i64 dd, .int .i64 sc, .int .u8 cc, .int .i64 t, .int .i64 y] 207).allocO _).allocO _
 have hX1 : At W (w.heap.size + 1) [.slice rA n1 rc, .slice zA n2 zc, .slice lA n3 lc] := by
  rw [← hW0];have h := (At.new (w.alloc (.cells #[.int .i64 std, .int .u8 ek, .int .i64 esv, .string ru, .string fm, .bool en, .int .i64 uy, .int .i64 mm, .int .u8 dk, .int .i64 dn, .int .i64 dd, .int .i64 sc, .int .u8 cc, .int .i64 t, .int .i64 y] 207)) #[.slice rA n1 rc, .slice zA n2 zc, .slice lA n3 lc] 26).allocO (.cells #[.int .i64 0, .bool false, .string ⟨#[]⟩] 41);rw [World.size_alloc] at h;exact h
 have hX2 : At W (w.heap.size + 1 + 1) [.int .i64 0, .bool false, .string ⟨#[]⟩] := by
  rw [← hW0];have h := At.new ((w.alloc (.cells #[.int .i64 std, .int .u8 ek, .int .i64 esv, .string ru, .string fm, .bool en, .int .i64 uy, .int .i64 mm, .int .u8 dk, .int .i64 dn, .int .i64 dd, .int .i64 sc, .int .u8 cc, .int .i64 t, .int .i64 y] 207)).alloc (.cells #[.slice rA n1 rc, .slice zA n2 zc, .slice lA n3 lc] 26)) #[Value.int .i64 0, .bool false, .string ⟨#[]⟩] 41;rw [World.size_alloc, World.size_alloc] at h;exact h
 have HW0 := Lib.hid hW0;have HB0 := Lib.hid hB0;have HX0 := Lib.hid hX0;have HX1 := Lib.hid hX1;have HX2 := Lib.hid hX2;have hzW := hB0.size;have w1 : IntKind.i64.wrap (std + sv) = std + sv := by
  have a := h1;have b := hsv.1;unfold IsTime at a b;rw [IntKind.wrap_i64];omega
 have HZ := Lib.hid hZ;have HN := Lib.hid hN;have c0 := hX0.cell 0 _ rfl;have c1 := hX0.cell 1 _ rfl;have c2 := hX0.cell 2 _ rfl;have c3 := hX0.cell 3 _ rfl;have c4 := hX0.cell 4 _ rfl;have c5 := hX0.cell 5 _ rfl;have c6 := hX0.cell 6 _ rfl;have c7 := hX0.cell 7 _ rfl;have c8 := hX0.cell 8 _ rfl;have c9 := hX0.cell 9 _ rfl;have c10 := hX0.cell 10 _ rfl;have c11 := hX0.cell 11 _ rfl;have c12 := hX0.cell 12 _ rfl;have c13 := hX0.cell 13 _ rfl;have c14 := hX0.cell 14 _ rfl;have s0 := hX1.cell 0 _ rfl;have s1 := hX1.cell 1 _ rfl;have s2 := hX1.cell 2 _ rfl;clear hR hW hA hok hwc h1 h2 hf hy hy1 hsv hs ha hW0 hB0 hX0 hX1 hX2 hZ hN hn1 hn2 hn3;go_enter Tryz.func102, Tryz.ntmps102
 go_wp2_with fail
 rw [HW0.out];refine (HSv.out W HB0.out).mono ?_;rintro r w2 ⟨rfl, hb2⟩;have HB2 := Lib.hid (HB0.out.trans (hb2.mono HB0.out.size));have HY0 := Lib.hid (HX0.out.call hb2);have HY2 := Lib.hid (HX2.out.call hb2);have hz2 := hb2.size;clear c0 c1 c2 c3 c4 c5 c6 c7 c8 c9 c10 c11 c12 c13 c14 s0 s1 s2;have c0 := HY0.out.cell 0 _ rfl;have c4 := HY0.out.cell 4 _ rfl;have zq := HY0.out.lt;obtain ⟨W3, hW3⟩ : ∃ X, w2.alloc (.cells #[.int .i64 (std + sv), .bool (sv != 0), .string ⟨#[]⟩] 41) = X := ⟨_, rfl⟩
 have hb3 : Below w2.heap.size w2 W3 := by rw [← hW3]; exact (Below.refl _ _).alloc (Nat.le_refl _) _
 have hA3 : At W3 w2.heap.size [.int .i64 (std + sv), .bool (sv != 0), .string ⟨#[]⟩] := by rw [← hW3]; exact At.new _ _ _
 have HW3 := Lib.hid hW3;have HB3 := Lib.hid (HB2.out.trans (hb3.mono HB2.out.size));have HA3 := Lib.hid hA3;have HY3 := Lib.hid (HY2.out.call hb3);have hzw := HB2.out.size;clear hb2 hW3 hb3 hA3;go_wp2_with fail
 rw [HW3.out];refine (HAb.out W3 HB3.out).mono ?_;rintro r w4 ⟨rfl, hb4⟩;have HB4 := Lib.hid (HB3.out.trans (hb4.mono HB3.out.size));have HA4 := Lib.hid (HA3.out.call hb4);have HY4 := Lib.hid (HY3.out.call hb4);obtain ⟨a0, a1, a2, f0, f1, f2⟩ := HA4.out.three;obtain ⟨y0, y1, y2, g0, g1, g2⟩ := HY4.out.three;have zA := HA4.out.lt;have zY := HY4.out.lt;have hne : w.heap.size + 1 + 1 ≠ w2.heap.size := by
  have := HY2.out.lt;omega
 clear hb4 c0 c4
 by_cases hae : ae = 0
 ·subst hae;clear HN;go_wp2_with fail
  have hF := (((HY4.out.set_other ⟨w2.heap.size, 2, none⟩ (.string an) (by show w2.heap.size ≠ w.heap.size + 1 + 1; omega)).set 0 (.int .i64 (std + sv))).set 1 (.bool (sv != 0))).set 2 (.string an);refine bodyPost_ret (state_results (s := Z) rfl (by rw [← HZ.out]; exact hF.cell 0 _ rfl) (by rw [← HZ.out]; exact hF.cell 1 _ rfl) (by rw [← HZ.out]; exact hF.cell 2 _ rfl)) rfl ⟨rfl, ?_⟩;exact (((HB4.out.setCell (p := ⟨w2.heap.size, 2, none⟩) hzw _).setCell (p := ⟨w.heap.size + 1 + 1, 0, none⟩) (by show _ ≤ w.heap.size + 1 + 1; omega) _).setCell (p := ⟨w.heap.size + 1 + 1, 1, none⟩) (by show _ ≤ w.heap.size + 1 + 1; omega) _).setCell (p := ⟨w.heap.size + 1 + 1, 2, none⟩) (by show _ ≤ w.heap.size + 1 + 1; omega) _
 ·have qa : (ae == 0) = false := by rw [beq_eq_false_iff_ne]; exact hae
  have HAn := Lib.hid (HN.out hae);go_wp2_with fail
  have hF := ((HY4.out.set 0 (.int .i64 (std + sv))).set 1 (.bool (sv != 0))).set 2 (.string ⟨#[]⟩);refine bodyPost_ret (state_results (s := Z) rfl (by rw [← HZ.out]; exact hF.cell 0 _ rfl) (by rw [← HZ.out]; exact hF.cell 1 _ rfl) (by rw [← HZ.out, HAn.out]; exact hF.cell 2 _ rfl)) rfl ⟨rfl, ?_⟩;exact ((HB4.out.setCell (p := ⟨w.heap.size + 1 + 1, 0, none⟩) (by show _ ≤ w.heap.size + 1 + 1; omega) _).setCell (p := ⟨w.heap.size + 1 + 1, 1, none⟩) (by show _ ≤ w.heap.size + 1 + 1; omega) _).setCell (p := ⟨w.heap.size + 1 + 1, 2, none⟩) (by show _ ≤ w.heap.size + 1 + 1; omega) _
end Go.Proofs.YtjobhjemnmleaaaGreatDoor
namespace Go.Proofs.YtjobhjemnmleaaaGreatDoor
open Go.RowKit
namespace Rg
open Od
structure JS (n : Nat) (sl : Nat → Nat) (P : Nat → Value → World → Prop) (w0 : World) (u0 : Nat → Value) (zs H : List Value) (b : Nat → Bool) (u : Nat → Value) (w : World) : Prop extends J (n + 2) sl P w0 u0 b u w where
 or_ : b (n + 1) = true → b n = true
 al : b n = true → b (n + 1) = false → ∃ g, u (sl n) = .pointer (some ⟨g, 0, none⟩) ∧ w0.heap.size ≤ g ∧ At w g zs
 st : b (n + 1) = true → ∃ g, u (sl n) = .pointer (some ⟨g, 0, none⟩) ∧ w0.heap.size ≤ g ∧ At w g H
section
variable {n : Nat} {sl : Nat → Nat} {P : Nat → Value → World → Prop} {w0 w w' : World} {u0 u : Nat → Value} {b : Nat → Bool} {zs H : List Value}
theorem JS.start (w0 w : World) (u0 : Nat → Value) (hb : Below w0.heap.size w0 w) : JS n sl P w0 u0 zs H (fun _ => false) u0 w := ⟨J.start w0 w u0 hb, fun e => (by cases e), fun e => (by cases e), fun e => (by cases e)⟩
theorem JS.step (h : JS n sl P w0 u0 zs H b u w) (hm : ∀ k v W W', P k v W → Below W.heap.size W W' → P k v W') (hi : ∀ j, j < n + 2 → ∀ k, k < n + 2 → sl j = sl k → j = k) {k : Nat} (hk : k < n) {v : Value} (hb : Below w.heap.size w w') (hv : P k v w') : JS n sl P w0 u0 zs H (upd b k true) (upd u (sl k) v) w' := by
 have hne : sl n ≠ sl k := fun e => by have := hi n (by omega) k (by omega) e; omega
 refine ⟨h.toJ.step hm hi (by omega) hb hv, fun h1 => ?_, fun h1 h2 => ?_, fun h1 => ?_⟩
 ·unfold upd at h1 ⊢;rw [if_neg (by omega)] at h1;rw [if_neg (by omega)];exact h.or_ h1
 ·unfold upd at h1 h2 ⊢;rw [if_neg (by omega)] at h1 h2;rw [if_neg hne];obtain ⟨g, e1, e2, e3⟩ := h.al h1 h2;exact ⟨g, e1, e2, e3.call hb⟩
 ·unfold upd at h1 ⊢;rw [if_neg (by omega)] at h1;rw [if_neg hne];obtain ⟨g, e1, e2, e3⟩ := h.st h1;exact ⟨g, e1, e2, e3.call hb⟩
theorem JS.put (h : JS n sl P w0 u0 zs H b u w) (hm : ∀ k v W W', P k v W → Below W.heap.size W W' → P k v W') (hi : ∀ j, j < n + 2 → ∀ k, k < n + 2 → sl j = sl k → j = k) {k : Nat} (hk : k < n) {v : Value} (hv : P k v w) : JS n sl P w0 u0 zs H (upd b k true) (upd u (sl k) v) w := h.step hm hi hk (Below.refl _ _) hv
theorem JS.alloc (h : JS n sl P w0 u0 zs H b u w) (hm : ∀ k v W W', P k v W → Below W.heap.size W W' → P k v W') (hi : ∀ j, j < n + 2 → ∀ k, k < n + 2 → sl j = sl k → j = k) (hbn : b n = false) {v : Value} (hb : Below w.heap.size w w') (hv : P n v w') {g : Nat} (hg : v = .pointer (some ⟨g, 0, none⟩)) (hl : w0.heap.size ≤ g) (ha : At w' g zs) : JS n sl P w0 u0 zs H (upd b n true) (upd u (sl n) v) w' := by
 have hn : b (n + 1) = false := by
  cases e : b (n + 1) with
  | false => rfl
  | true => rw [h.or_ e] at hbn; cases hbn
 refine ⟨h.toJ.step hm hi (by omega) hb hv, fun h1 => ?_, fun _ _ => ⟨g, ?_, hl, ha⟩, fun h1 => ?_⟩
 ·unfold upd at h1;rw [if_neg (by omega), hn] at h1;cases h1
 ·unfold upd;rw [if_pos rfl];exact hg
 ·unfold upd at h1;rw [if_neg (by omega), hn] at h1;cases h1
theorem JS.store (h : JS n sl P w0 u0 zs H b u w) (hP : ∀ k v W W', P k v W → P k v W') (hv : ∀ v W, P (n + 1) v W) (hbn : b n = true) (hb : Below w0.heap.size w w') {g : Nat} (hg : u (sl n) = .pointer (some ⟨g, 0, none⟩)) (hl : w0.heap.size ≤ g) (ha : At w' g H) : JS n sl P w0 u0 zs H (upd b (n + 1) true) u w' := by
 refine ⟨⟨h.below.trans hb, h.old, fun k hk hbk => ?_⟩, fun _ => (by unfold upd; rw [if_neg (by omega)]; exact hbn), fun _ h2 => ?_, fun _ => ⟨g, hg, hl, ha⟩⟩
 ·by_cases he : k = n + 1
  ·subst he;exact hv _ _
  ·unfold upd at hbk;rw [if_neg he] at hbk;exact hP _ _ _ _ (h.val k hk hbk)
 ·unfold upd at h2;rw [if_pos rfl] at h2;cases h2
end
end Rg
end Go.Proofs.YtjobhjemnmleaaaGreatDoor
