/- atlas.Default and chart.Keys. -/
import Derived.Test.YtajcgoinhpengaaDoorP22
import Derived.Test.YtajcgoinhpengaaDoorP19
import Derived.Test.YtajcgoinhpengaaDoorP17
import Derived.Test.YtajcgoinhpengaaDoorP02

namespace Go.Proofs.YtajcgoinhpengaaDoor
open Go.RowKit

theorem add_zero (ad : Addr) : ad.add 0 = ad := by unfold Addr.add; rw [if_pos rfl]
set_option maxHeartbeats 2000000 in
set_option maxRecDepth 100000 in
theorem caDef_any (l : List Ca.E) (A : Option Addr) (n c : Nat) (evs : List Value) (k : ByteArray) (w : World) (hR : Ca.EntR w w.heap.size l (.slice A n c) evs) (hl : l.length = n) (hW : Ca.Wd l) :
    Calls Tryd.prog 13 #[.slice A n c, .string k] w fun e w' => e = .returned (.tuple #[.string (Ca.defA l k).1, .int .i64 (Ca.defA l k).2]) ∧ Below w.heap.size w w' := by
  have HC := Lib.hid fun W (hb : Below w.heap.size w W) => caCheck_any l A n c evs W (hR.call hb) hl hW
  have HF := Lib.hid fun W (hb : Below w.heap.size w W) k t => caFind_any l A n c evs k t W (hR.call hb) hl hW
  obtain ⟨X, hX⟩ : ∃ X, Ca.chk l = X := ⟨_, rfl⟩
  have hr9 : X = 0 → ∀ e ∈ l, 1 ≤ e.zones.length := fun h e he => Ca.zones_ne ((Ca.chk_parts (hX.trans h)).1 e he)
  have HZn := Lib.hid hr9
  have HR := Lib.hid hR
  have HL := Lib.hid hl
  have HB0 := Lib.hid (Below.refl w.heap.size w)
  obtain ⟨Z, hZ⟩ : ∃ Z, Ca.defA l k = Z := ⟨_, rfl⟩
  rw [hZ]
  unfold Ca.defA at hZ
  rw [hX] at HC hZ
  have c2 := Ca.at2_cases l k Ca.world
  obtain ⟨i2, hi2⟩ : ∃ i, Ca.at2 l k Ca.world = i := ⟨_, rfl⟩
  rw [hi2] at c2
  have HF2 : Hid (∀ W, Below w.heap.size w W → Calls Tryd.prog 37 #[.slice A n c, .string k, .string ⟨#[48, 48, 49]⟩] W fun e w' => e = .returned (.int .i64 i2) ∧ Below W.heap.size W w') := fun W hb => by have := HF.out W hb k Ca.world; rw [hi2] at this; exact this
  have HZ := Lib.hid hZ
  clear hR hl hW hX hr9 hZ hi2 HF
  go_enter Tryd.func13, Tryd.ntmps13
  go_wp2_with fail
  refine (HC.out _ HB0.out).mono ?_
  rintro e w1 ⟨rfl, hb⟩
  have HB1 := Lib.hid hb
  clear hb
  by_cases hX0 : X = 0
  · have HZn2 := Lib.hid (HZn.out hX0)
    subst hX0
    have hZ2 := HZ.out
    rw [if_pos rfl] at hZ2
    have HZ2 := Lib.hid hZ2
    clear hZ2 HZ HZn
    go_wp2_with fail
    refine (HF2.out _ HB1.out).mono ?_
    rintro e w2 ⟨rfl, hb⟩
    have HB2 := Lib.hid (below_then HB1.out hb)
    clear hb
    rcases c2 with ⟨hf2, hi2⟩ | ⟨j, y, hj, hf2, hi2⟩
    · subst hi2
      have HE : Hid (Z = (⟨#[]⟩, 3)) := by
        show Z = _
        rw [← HZ2.out, hf2]
      clear hf2
      go_wp2
      go_ret2
      exact ⟨by rw [HE.out]; rfl, HB2.out⟩
    · subst hi2
      have hyz := HZn2.out y (List.mem_of_getElem? hj)
      obtain ⟨ad, x, zA, m, zc, rfl, hab, Hx, d0, d1, d2, HZl, hz1, hz2, HZr, HEv⟩ := (HR.out.call HB2.out).at_ HL.out (show j < n by rw [← HL.out]; exact (List.getElem?_eq_some_iff.1 hj).1)
      have hxe : x = y := Option.some.inj (Hx.out.symm.trans hj)
      have q5 : (0 : Int) ≤ (j : Int) := by omega
      have q6 : (j : Int) < (n : Int) := by rw [← HL.out]; have := (List.getElem?_eq_some_iff.1 hj).1; omega
      have q7 : ¬ (j : Int) < 0 := by omega
      subst hxe
      have hm1 : 0 < m := by have := HZl.out; omega
      have q8 : (0 : Int) < (m : Int) := by omega
      obtain ⟨ad2, z, rfl, Hz, hcell⟩ : ∃ ad2 nm, zA = some ad2 ∧ Hid (x.zones[0]? = some nm) ∧ w2.cell? (ad2.add 0) = some (.string nm) := reads_str HZr.out hm1
      rw [add_zero] at hcell
      have HE : Hid (Z = (z, 0)) := by
        show Z = _
        rw [← HZ2.out, hf2]
        simp only
        rw [List.getD, Hz.out]
        rfl
      clear hj hyz HZ2 HZn2 HEv HZr Hx hf2 hm1 HZl Hz
      go_wp2
      go_ret2
      exact ⟨by rw [HE.out]; rfl, HB2.out⟩
  · have qx : (X != 0) = true := by simpa using hX0
    have HE : Hid (Z = (⟨#[]⟩, X)) := by
      show Z = _
      rw [← HZ.out, if_neg hX0]
    clear HZ HZn
    go_wp2
    go_ret2
    exact ⟨by rw [HE.out]; rfl, HB1.out⟩
namespace Ca
theorem keys_next {l : List E} {k : Nat} {x : E} (h : l[k]? = some x) : keys (l.take (k + 1)) = keyStep (keys (l.take k)) x := by
  unfold keys
  rw [take_next h, List.foldl_append]
  rfl
theorem keys_len (l : List E) : (keys l).length ≤ l.length := by
  unfold keys
  have h : ∀ (l : List E) (a : List ByteArray), (l.foldl keyStep a).length ≤ a.length + l.length := by
    intro l
    induction l with
    | nil => intro a; simp
    | cons x l ih =>
      intro a
      rw [List.foldl_cons, List.length_cons]
      refine Nat.le_trans (ih _) ?_
      unfold keyStep
      split
      · omega
      · rw [List.length_append, List.length_singleton]; omega
  simpa using h l []
end Ca
set_option maxHeartbeats 2000000 in
set_option maxRecDepth 100000 in
theorem caKeys_any (l : List Ca.E) (A : Option Addr) (n c : Nat) (evs : List Value) (w : World) (hR : Ca.EntR w w.heap.size l (.slice A n c) evs) (hl : l.length = n) (hW : Ca.Wd l) :
    Calls Tryd.prog 11 #[.slice A n c] w fun e w' => (∃ v, e = .returned v ∧ w'.ownsRow w.heap.size 9 1 v (Ca.keys l).length ((Ca.keys l).map Value.string)) ∧ Below w.heap.size w w' := by
  have hn : n ≤ 4096 := by rw [← hl]; exact hW.n
  obtain ⟨bm, hbm⟩ : ∃ b, w.heap.size = b := ⟨_, rfl⟩
  obtain ⟨W0, hW0⟩ : ∃ W, w.alloc (.map #[] 0) = W := ⟨_, rfl⟩
  have hB0 : Below w.heap.size w W0 := by rw [← hW0]; exact bal1 _ _
  have hM0 : MapF Tryd.prog 9 W0 bm 0 (Ca.sf []) := by
    rw [← hW0, ← hbm]
    exact MapF.made w
  obtain ⟨i0, hi0, hz0, hz1, hz2⟩ := info_parts str_info
  have HI := Lib.hid (And.intro hi0 (And.intro hz0 (And.intro hz1 hz2)))
  have HR := Lib.hid hR
  have HL := Lib.hid hl
  have HW := Lib.hid hW
  have HB0 := Lib.hid hB0
  have HM0 := Lib.hid hM0
  have HBm := Lib.hid hbm
  have HW0 := Lib.hid hW0
  clear hR hl hW hB0 hM0 hbm hW0 hi0 hz0 hz1 hz2
  have hmk := make_set (n : Int)
  go_enter Tryd.func11, Tryd.ntmps11
  go_wp2_with fail
  rw [HW0.out, HBm.out]
  go_loopw [4, 14] (fun v i wr => ∃ k : Nat, k ≤ n ∧ i = .int .i64 (k : Int) ∧ Hid (Below w.heap.size w wr) ∧ Hid (MapF Tryd.prog 9 wr bm k (Ca.sf (Ca.keys (l.take k)))) ∧ Hid (wr.ownsRow (bm + 1) 9 1 v (Ca.keys (l.take k)).length ((Ca.keys (l.take k)).map Value.string)))
    (fun _ i _ => n - (intOf i).toNat)
  case atStart => exact ⟨0, Nat.zero_le _, rfl, HB0.out, HM0.out, World.ownsRow_nil _ _ _ _⟩
  case round =>
    clear hmk
    obtain ⟨k, hk, rfl, HB, HM, HO⟩ := hrel
    by_cases hlt : k < n
    · have q1 : (0 : Int) ≤ (k : Int) := by omega
      have q2 : (k : Int) < (n : Int) := by omega
      obtain ⟨ad, x, zA, m, zc, rfl, hab, Hx, c0, c1, c2, HZl, hz1, hz2, HZr, HEv⟩ := (HR.out.below HB.out).at_ HL.out hlt
      obtain ⟨h1, h2, h3⟩ := HW.out.all x (List.mem_of_getElem? Hx.out)
      have hkm : k < maxLen := by unfold maxLen; omega
      have HT := Lib.hid (Ca.keys_next Hx.out)
      obtain ⟨kx, hkx⟩ : ∃ t, x.key = t := ⟨_, rfl⟩
      rw [hkx] at h1 c0
      obtain ⟨K, hK⟩ : ∃ K, Ca.keys (l.take k) = K := ⟨_, rfl⟩
      have hKl : K.length ≤ k := by
        rw [← hK]
        refine Nat.le_trans (Ca.keys_len _) ?_
        rw [List.length_take]
        omega
      have hT := HT.out
      unfold Ca.keyStep at hT
      rw [hK, hkx] at hT
      rw [hK] at HM HO
      clear h3 h2 HZl HZr HEv HT
      by_cases hin : kx ∈ K
      · have hq := Ca.has_iff.2 hin
        rw [if_pos hq] at hT
        have HT := Lib.hid hT
        have HBe := Lib.hid (bal (bal HB.out (.cells #[.string kx, .string x.terr, .slice zA m zc] 45)) (.cells #[] 85))
        have HMe := Lib.hid ((HM.out.alloc (.cells #[.string kx, .string x.terr, .slice zA m zc] 45)).alloc (.cells #[] 85))
        have HOe := Lib.hid ((HO.out.alloc (.cells #[.string kx, .string x.terr, .slice zA m zc] 45)).alloc (.cells #[] 85))
        clear hin hT hK hkx
        go_wp2_with (at_lookup; refine look_set _ rfl _ _ bm k _ kx h1 rfl rfl rfl (HM.out.alloc _) true hq ?_)
        go_roundw
        case rel => exact ⟨k + 1, by omega, by go_num, HBe.out, by show MapF _ _ _ _ _ _; rw [HT.out]; exact HMe.out.more (Nat.le_succ k), by show World.ownsRow _ _ _ _ _ _ _; rw [HT.out]; exact HOe.out⟩
        case measure => simp [intOf]; omega
      · have hq := Ca.has_not hin
        rw [if_neg (fun h => hin (Ca.has_iff.1 h))] at hT
        have HT := Lib.hid hT
        have HBe := Lib.hid (bal (bal HB.out (.cells #[.string kx, .string x.terr, .slice zA m zc] 45)) (.cells #[] 85))
        have HMe := Lib.hid ((HM.out.alloc (.cells #[.string kx, .string x.terr, .slice zA m zc] 45)).alloc (.cells #[] 85))
        have HOe := Lib.hid ((HO.out.alloc (.cells #[.string kx, .string x.terr, .slice zA m zc] 45)).alloc (.cells #[] 85))
        have HAe := Lib.hid ((At.new wr #[.string kx, .string x.terr, .slice zA m zc] 45).allocO (.cells #[] 85))
        have hbs := HM.out.lt
        obtain ⟨vA, vc, rfl, _⟩ := own_slice HO.out
        clear hin hT hK hkx
        have HAp := Lib.hid fun (W : World) (hO : W.ownsRow (bm + 1) 9 1 (.slice vA K.length vc) K.length (K.map Value.string)) (hW : Below w.heap.size w W) {ops : Array Oper} {rest : List Oper} {o : Oper} {a : Act} {Q : Exit → Act → World → Prop} (hgd : o.guard = none) (ho : o.op = .call { callee := .builtin .append, args := #[.tmp 31, .tmp 34], argTypes := #[34, 34] }) (hs : a.eval (.tmp 31) = .slice vA K.length vc) (hx : a.eval (.tmp 34) = .slice (some ⟨W.heap.size, 0, none⟩) 1 1) h => wpList_append_any (P := Tryd.prog) (ops := ops) (rest := rest) (o := o) (a := a) (Q := Q) (W.alloc (.cells #[.string kx] 9)) hgd (.tmp 31) (.tmp 34) 34 ho (bm + 1) 9 i0 _ 1 16 Tryd.underlying34 HI.out.1 HI.out.2.1 HI.out.2.2.1 HI.out.2.2.2 rfl (by decide) _ K.length _ hs (hO.alloc _) _ _ 1 1 _ hx (reads_one W kx 9) (by intro u hu; simp only [List.map_cons, List.map_nil, List.mem_singleton] at hu; subst hu; rfl) (by unfold maxLen; omega) (by omega) (by rw [World.size_alloc]; have := hW.size; have := HBm.out; omega) h
        go_wp2_with (first | (at_lookup; refine look_set _ rfl _ _ bm k _ kx h1 rfl rfl rfl (HM.out.alloc _) false hq ?_) | (at_mapUpdate; refine store_set _ rfl _ _ _ bm k _ kx h1 hkm rfl rfl rfl rfl HMe.out ?_; intro w3 hM3 hg3; have HM3 := Lib.hid hM3; have HB3 := Lib.hid (HBe.out.grown hg3 HBe.out.size (fun j e => by cases e; exact Nat.le_of_eq HBm.out)); have HO3 := Lib.hid (HOe.out.kept hg3 (.inr (fun e => by have := (HOe.out.lt bm e).1; omega))); have a0 := (Sc.At.grownO HAe.out hg3 (fun j e => by cases e; omega)).cell 0 _ rfl; clear hM3 hg3) | (at_builtin; refine HAp.out _ HO3.out HB3.out rfl rfl rfl rfl ?_; intro v9 w9 hown9 hg9 hat9))
        have HB9 := Lib.hid ((bal HB3.out (.cells #[.string kx] 9)).grown hg9 (bal HB3.out (.cells #[.string kx] 9)).size (fun j e => by have := (HO3.out.lt j e).1; have := HBm.out; omega))
        have HM9 := Lib.hid ((HM3.out.alloc (.cells #[.string kx] 9)).kept hg9 (fun e => by have := (HO3.out.lt bm e.symm).1; omega))
        have HO9 := Lib.hid hown9
        clear hown9 hg9 hat9 HAp a0
        go_wp2
        go_roundw
        case rel => exact ⟨k + 1, by omega, by go_num, HB9.out, by show MapF _ _ _ _ _ _; rw [HT.out]; exact HM9.out, by show World.ownsRow _ _ _ _ _ _ _; rw [HT.out, List.length_append, List.map_append]; exact HO9.out⟩
        case measure => simp [intOf]; omega
    · have p2 : ¬ (k : Int) < (n : Int) := by omega
      have HE := HO.out
      rw [List.take_of_length_le (by rw [HL.out]; omega)] at HE
      rw [← HBm.out] at HE
      have HE2 := Lib.hid (Sc.own_mono HE (Nat.le_succ _))
      go_wp2
      go_ret
      exact ⟨⟨_, rfl, HE2.out⟩, HB.out⟩
end Go.Proofs.YtajcgoinhpengaaDoor

/- atlas.leads: where names lead, each asked for once. -/
namespace Go.Proofs.YtajcgoinhpengaaDoor
open Go.RowKit

namespace Ca
/-- A map that holds one value at all of these. -/
def nf (v : Value) (l : List ByteArray) : Mp.Fn := fun s => if has l s = true then some v else none
theorem nf_nil (v : Value) : nf v [] = fun _ => none := rfl
theorem nf_put (v : Value) (l : List ByteArray) (s : ByteArray) : Mp.put (nf v l) s v = nf v (l ++ [s]) := by
  funext t
  unfold Mp.put nf
  by_cases h : t = s
  · subst h
    rw [if_pos rfl, if_pos (has_iff.2 (List.mem_append_right _ (List.mem_singleton.2 rfl)))]
  · rw [if_neg h]
    by_cases h2 : t ∈ l
    · rw [if_pos (has_iff.2 h2), if_pos (has_iff.2 (List.mem_append_left _ h2))]
    · rw [if_neg (fun q => h2 (has_iff.1 q)), if_neg (fun q => by
        rcases List.mem_append.1 (has_iff.1 q) with q | q
        · exact h2 q
        · exact h (List.mem_singleton.1 q))]
/-- What the map of atlas.leads holds, these names having been asked for. -/
def lf (s : Src.S) (A : List ByteArray) : Mp.Fn := fun z => if has (Src.names s) z = true then some (.int .i64 (if has A z = true then lead s z else -2)) else none
theorem lf_nil (s : Src.S) : nf (.int .i64 (-2)) (Src.names s) = lf s [] := by
  funext z
  unfold nf lf
  rfl
theorem lf_out {s : Src.S} {A : List ByteArray} {z : ByteArray} (h : z ∉ Src.names s) : lf s A z = none := by
  unfold lf
  rw [if_neg (fun q => h (has_iff.1 q))]
theorem lf_in {s : Src.S} {A : List ByteArray} {z : ByteArray} (h : z ∈ Src.names s) (ha : z ∈ A) : lf s A z = some (.int .i64 (lead s z)) := by
  unfold lf
  rw [if_pos (has_iff.2 h), if_pos (has_iff.2 ha)]
theorem lf_new {s : Src.S} {A : List ByteArray} {z : ByteArray} (h : z ∈ Src.names s) (ha : z ∉ A) : lf s A z = some (.int .i64 (-2)) := by
  unfold lf
  rw [if_pos (has_iff.2 h), if_neg (fun q => ha (has_iff.1 q))]
theorem lf_put {s : Src.S} {A : List ByteArray} {z : ByteArray} (hz : z ∈ Src.names s) : Mp.put (lf s A) z (.int .i64 (lead s z)) = lf s (A ++ [z]) := by
  funext t
  unfold Mp.put
  by_cases h : t = z
  · rw [if_pos h, h, lf_in hz (List.mem_append_right _ (List.mem_singleton.2 rfl))]
  · rw [if_neg h]
    by_cases h1 : t ∈ Src.names s
    · by_cases h2 : t ∈ A
      · rw [lf_in h1 h2, lf_in h1 (List.mem_append_left _ h2)]
      · rw [lf_new h1 h2, lf_new h1 (fun q => by
          rcases List.mem_append.1 q with q | q
          · exact h2 q
          · exact h (List.mem_singleton.1 q))]
    · rw [lf_out h1, lf_out h1]
theorem lead_ge (s : Src.S) (z : ByteArray) : -1 ≤ lead s z := by
  unfold lead
  split
  · have := walk_pos s z
    omega
  · omega
theorem lead_out {s : Src.S} {z : ByteArray} (h : z ∉ Src.names s) : lead s z = -1 := by
  have h1 : Lk.first (Lk.zn s) z = none := Lk.first_none.2 (fun q => h (List.mem_append_left _ q))
  have h2 : Lk.first (Lk.ln s) z = none := Lk.first_none.2 (fun q => h (List.mem_append_right _ q))
  unfold lead Lk.walk
  rw [Lk.find]
  simp only [h1, h2]
  rfl
/-- What atlas.leads has laid: its source, its map, the map's box. -/
structure Ld (s : Src.S) (rv zv lv : Value) (h : Nat) (A : List ByteArray) (w : World) : Prop where
  box : At w (h + 2) [.map (some (h + 1))]
  src : At w h [rv, zv, lv]
  map : MapF Tryd.prog 9 w (h + 1) ((Src.names s).length + A.length) (lf s A)
  nodup : A.Nodup
  sub : ∀ a ∈ A, a ∈ Src.names s
theorem Ld.call {s : Src.S} {rv zv lv : Value} {h : Nat} {A : List ByteArray} {w w' : World} (k : Ld s rv zv lv h A w) (hb : Below w.heap.size w w') : Ld s rv zv lv h A w' :=
  ⟨k.box.call hb, k.src.call hb, k.map.below hb, k.nodup, k.sub⟩
/-- What a name's question leaves. -/
def LeadRet (s : Src.S) (rv zv lv : Value) (h : Nat) (z : ByteArray) (w : World) (e : Ending) (w' : World) : Prop :=
  e = .returned (.int .i64 (lead s z)) ∧ (∃ A, Ld s rv zv lv h A w') ∧ w.grownBy w' (some (h + 1))
theorem grown_of {w w1 : World} (hb : Below w.heap.size w w1) (row : Option Nat) : w.grownBy w1 row := ⟨hb.os, hb.tape, hb.output, hb.size, fun k hk _ => hb.block k hk⟩
theorem grown_then {w w1 w2 : World} {row : Option Nat} (hb : Below w.heap.size w w1) (hg : w1.grownBy w2 row) : w.grownBy w2 row :=
  ⟨hg.os.trans hb.os, hg.tape.trans hb.tape, hg.output.trans hb.output, Nat.le_trans hb.size hg.size, fun k hk hne => (hg.block k (by have := hb.size; omega) hne).trans (hb.block k hk)⟩
end Ca
set_option maxHeartbeats 2000000 in
set_option maxRecDepth 100000 in
theorem caLeads1_any (s : Src.S) (rv zv lv : Value) (evs : List Value) (h : Nat) (A : List ByteArray) (z : ByteArray) (w : World) (hL : Ca.Ld s rv zv lv h A w) (hR : Src.SrcR w w.heap.size s rv zv lv evs) (hN : Lk.Nm s) (hz : z.size ≤ maxLen) (hn : (Src.names s).length ≤ 100000) :
    Calls Tryd.prog 55 #[.string z, .pointer (some ⟨h + 2, 0, none⟩), .pointer (some ⟨h, 0, none⟩)] w (Ca.LeadRet s rv zv lv h z w) := by
  have b0 := hL.box.cell 0 _ rfl
  have hcnt : (Src.names s).length + A.length < maxLen := by
    have := Lk.nodup_len A (Src.names s) hL.nodup hL.sub
    unfold maxLen
    omega
  by_cases hin : z ∈ Src.names s
  · by_cases ha : z ∈ A
    · have hu : (Ca.lf s A z).getD (.int .i64 0) = .int .i64 (Ca.lead s z) := by rw [Ca.lf_in hin ha]; rfl
      have hq : (Ca.lf s A z).isSome = true := by rw [Ca.lf_in hin ha]; rfl
      have hge := Ca.lead_ge s z
      unfold Ca.LeadRet
      obtain ⟨L, hLe⟩ : ∃ L, Ca.lead s z = L := ⟨_, rfl⟩
      rw [hLe] at hu hge ⊢
      have q1 : (L == -2) = false := by rw [beq_eq_false_iff_ne]; omega
      have q1' : ¬ L = -2 := by omega
      have HM := Lib.hid hL.map
      have HL := Lib.hid (show (∃ A, Ca.Ld s rv zv lv h A w) ∧ w.grownBy w (some (h + 1)) from ⟨⟨A, hL⟩, World.grownBy.refl _ _⟩)
      clear hL hR hN hin ha hLe hge hcnt
      go_enter Tryd.func55, Tryd.ntmps55
      go_wp2_with (at_lookup; refine look_num _ rfl _ _ (h + 1) _ _ z hz rfl rfl rfl HM.out _ hu true hq ?_)
      go_ret
      exact ⟨rfl, HL.out.1, HL.out.2⟩
    · have hu : (Ca.lf s A z).getD (.int .i64 0) = .int .i64 (-2) := by rw [Ca.lf_new hin ha]; rfl
      have hq : (Ca.lf s A z).isSome = true := by rw [Ca.lf_new hin ha]; rfl
      have hput := Ca.lf_put (A := A) hin
      have hZ := linkZone_any s rv zv lv evs z w hR hN hz
      have hnd : (A ++ [z]).Nodup := Ca.nodup_snoc hL.nodup ha
      have hsb : ∀ a ∈ A ++ [z], a ∈ Src.names s := by
        intro a h
        rcases List.mem_append.1 h with h | h
        · exact hL.sub a h
        · rw [List.mem_singleton.1 h]; exact hin
      unfold Ca.LeadRet
      obtain ⟨L, hLe⟩ : ∃ L, Ca.lead s z = L := ⟨_, rfl⟩
      have hLe2 := hLe
      unfold Ca.lead at hLe2
      rw [hLe] at hput ⊢
      obtain ⟨p, hp⟩ : ∃ p, (Lk.walk s z).2.1 = p := ⟨_, rfl⟩
      obtain ⟨y, hy⟩ : ∃ y, (Lk.walk s z).2.2 = y := ⟨_, rfl⟩
      rw [hp, hy] at hZ hLe2
      obtain ⟨s0, s1, s2, _⟩ := hL.src.three
      have HZ := Lib.hid hZ
      have HL := Lib.hid hL
      have HEnd : Hid (∀ w1 w2, Below w.heap.size w w1 → MapF Tryd.prog 9 w2 (h + 1) ((Src.names s).length + A.length + 1) (Mp.put (Ca.lf s A) z (.int .i64 L)) → w1.grownBy w2 (some (h + 1)) → (∃ A, Ca.Ld s rv zv lv h A w2) ∧ w.grownBy w2 (some (h + 1))) := by
        intro w1 w2 hb hM hg
        rw [hput] at hM
        refine ⟨⟨A ++ [z], Sc.At.grownO (hL.box.call hb) hg (fun j e => by cases e; omega), Sc.At.grownO (hL.src.call hb) hg (fun j e => by cases e; omega), ?_, hnd, hsb⟩, Ca.grown_then hb hg⟩
        rw [List.length_append, List.length_singleton, ← Nat.add_assoc]
        exact hM
      clear hL hR hN hin ha hLe hp hy hput hnd hsb hZ hn
      by_cases hy0 : y = 0
      · subst hy0
        rw [if_pos rfl] at hLe2
        subst hLe2
        go_enter Tryd.func55, Tryd.ntmps55
        go_wp2_with (at_lookup; refine look_num _ rfl _ _ (h + 1) _ _ z hz rfl rfl rfl HL.out.map _ hu true hq ?_)
        refine HZ.out.mono ?_
        rintro e w1 ⟨rfl, hb⟩
        have HB := Lib.hid hb
        have k0 := (HL.out.box.call hb).cell 0 _ rfl
        have HM1 := Lib.hid (HL.out.map.below hb)
        clear hb
        go_wp2_with (at_mapUpdate; refine store_num _ rfl _ _ _ (h + 1) _ _ z hz hcnt p rfl rfl rfl rfl HM1.out ?_; intro w2 hM2 hg2; have HE := Lib.hid (HEnd.out w1 w2 HB.out hM2 hg2); clear hM2 hg2)
        go_ret
        exact ⟨rfl, HE.out.1, HE.out.2⟩
      · have qy : (y != 0) = true := by simpa using hy0
        rw [if_neg hy0] at hLe2
        subst hLe2
        go_enter Tryd.func55, Tryd.ntmps55
        go_wp2_with (at_lookup; refine look_num _ rfl _ _ (h + 1) _ _ z hz rfl rfl rfl HL.out.map _ hu true hq ?_)
        refine HZ.out.mono ?_
        rintro e w1 ⟨rfl, hb⟩
        have HB := Lib.hid hb
        have k0 := (HL.out.box.call hb).cell 0 _ rfl
        have HM1 := Lib.hid (HL.out.map.below hb)
        clear hb
        go_wp2_with (at_mapUpdate; refine store_num _ rfl _ _ _ (h + 1) _ _ z hz hcnt (-1) rfl rfl rfl rfl HM1.out ?_; intro w2 hM2 hg2; have HE := Lib.hid (HEnd.out w1 w2 HB.out hM2 hg2); clear hM2 hg2)
        go_ret
        exact ⟨rfl, HE.out.1, HE.out.2⟩
  · have hu : (Ca.lf s A z).getD (.int .i64 0) = .int .i64 0 := by rw [Ca.lf_out hin]; rfl
    have hq : (Ca.lf s A z).isSome = false := by rw [Ca.lf_out hin]; rfl
    unfold Ca.LeadRet
    rw [Ca.lead_out hin]
    have HM := Lib.hid hL.map
    have HL := Lib.hid (show (∃ A, Ca.Ld s rv zv lv h A w) ∧ w.grownBy w (some (h + 1)) from ⟨⟨A, hL⟩, World.grownBy.refl _ _⟩)
    clear hL hR hN hin hcnt
    go_enter Tryd.func55, Tryd.ntmps55
    go_wp2_with (at_lookup; refine look_num _ rfl _ _ (h + 1) _ _ z hz rfl rfl rfl HM.out _ hu false hq ?_)
    go_ret
    exact ⟨rfl, HL.out.1, HL.out.2⟩
set_option maxHeartbeats 2000000 in
set_option maxRecDepth 100000 in
theorem caLeads_any (s : Src.S) (rv zv lv : Value) (evs : List Value) (w : World) (hR : Src.SrcR w w.heap.size s rv zv lv evs) (hLm : Src.Lims s) (hsz : ∀ x ∈ Src.names s, x.size ≤ maxLen) :
    Calls Tryd.prog 35 #[.agg #[rv, zv, lv]] w fun e w' => e = .returned (.func (.func 55) #[] #[.pointer (some ⟨w.heap.size + 2, 0, none⟩), .pointer (some ⟨w.heap.size, 0, none⟩)]) ∧ Ca.Ld s rv zv lv w.heap.size [] w' ∧ Below w.heap.size w w' := by
  obtain ⟨rA, rc, rfl, _⟩ := hR.rules
  obtain ⟨zA, zc, rfl, _⟩ := hR.zones
  obtain ⟨lA, lc, rfl, _⟩ := hR.links
  obtain ⟨nr, hnr⟩ : ∃ n, s.rules.length = n := ⟨_, rfl⟩
  obtain ⟨nz, hnz⟩ : ∃ n, s.zones.length = n := ⟨_, rfl⟩
  obtain ⟨nl, hnl⟩ : ∃ n, s.links.length = n := ⟨_, rfl⟩
  have hll : s.zones.length + s.links.length = (Src.names s).length := by simp [Src.names, Src.zoneNames, Src.linkNames]
  obtain ⟨W0, hW0⟩ : ∃ W, ((w.alloc (.cells #[.slice rA nr rc, .slice zA nz zc, .slice lA nl lc] 27)).alloc (.map #[] 0)).alloc (.cells #[.map (some (w.heap.size + 1))] 105) = W := ⟨_, rfl⟩
  have hB0 : Below w.heap.size w W0 := by rw [← hW0]; exact bal (bal (bal1 _ _) _) _
  have hW0s : W0.heap.size = w.heap.size + 3 := by rw [← hW0, World.size_alloc, World.size_alloc, World.size_alloc]
  have hC := srcNames_own s _ _ _ evs W0 (hR.call hB0) hLm
  rw [hll] at hC
  rw [hnr, hnz, hnl] at hR hC ⊢
  have hS0 : At W0 w.heap.size [.slice rA nr rc, .slice zA nz zc, .slice lA nl lc] := by
    rw [← hW0]
    exact ((At.new w #[Value.slice rA nr rc, .slice zA nz zc, .slice lA nl lc] 27).allocO _).allocO _
  have hM0 : MapF Tryd.prog 9 W0 (w.heap.size + 1) 0 (Ca.nf (.int .i64 (-2)) []) := by
    rw [← hW0]
    have h := (MapF.made (P := Tryd.prog) (k := 9) (w.alloc (.cells #[.slice rA nr rc, .slice zA nz zc, .slice lA nl lc] 27))).alloc (.cells #[.map (some (w.heap.size + 1))] 105)
    rw [World.size_alloc] at h
    exact h
  have hX0 : At W0 (w.heap.size + 2) [.map (some (w.heap.size + 1))] := by
    rw [← hW0]
    have h := At.new ((w.alloc (.cells #[.slice rA nr rc, .slice zA nz zc, .slice lA nl lc] 27)).alloc (.map #[] 0)) #[Value.map (some (w.heap.size + 1))] 105
    rw [World.size_alloc, World.size_alloc] at h
    exact h
  obtain ⟨g, hg⟩ : ∃ g, w.heap.size = g := ⟨_, rfl⟩
  have hnlim : (Src.names s).length ≤ 100000 := by have := hLm.zones; have := hLm.links; omega
  obtain ⟨l, hl⟩ : ∃ l, Src.names s = l := ⟨_, rfl⟩
  obtain ⟨n, hn⟩ : ∃ n, l.length = n := ⟨_, rfl⟩
  have hld : ∀ W, At W (g + 2) [.map (some (g + 1))] → At W g [.slice rA nr rc, .slice zA nz zc, .slice lA nl lc] → MapF Tryd.prog 9 W (g + 1) n (Ca.nf (.int .i64 (-2)) l) → Ca.Ld s (.slice rA nr rc) (.slice zA nz zc) (.slice lA nl lc) g [] W := by
    intro W h1 h2 h3
    rw [← hl, Ca.lf_nil] at h3
    refine ⟨h1, h2, ?_, List.nodup_nil, fun a ha => by cases ha⟩
    rw [hl, hn]
    exact h3
  rw [hl] at hC hsz hnlim
  rw [hn] at hC hnlim
  rw [hg] at hS0 hM0 hX0 hW0s hW0 ⊢
  have HC := Lib.hid hC
  have HSz := Lib.hid hsz
  have HB0 := Lib.hid hB0
  have HW0 := Lib.hid hW0
  have HS0 := Lib.hid hS0
  have HM0 := Lib.hid hM0
  have HX0 := Lib.hid hX0
  have HLd := Lib.hid hld
  have HG := Lib.hid hg
  have HN := Lib.hid hn
  have HSs := Lib.hid hW0s
  obtain ⟨s0, s1, s2, _⟩ := hS0.three
  clear hR hLm hsz hB0 hC hW0 hS0 hM0 hX0 hg hl hn hld hll hnr hnz hnl hW0s
  have hmk := @run_makeMap Tryd.prog
  go_enter Tryd.func35, Tryd.ntmps35
  go_wp2_with fail
  rw [HG.out, HW0.out]
  go_wp2_with fail
  refine HC.out.mono ?_
  rintro e w2 ⟨A, c, rfl, hb, hc1, _, ho⟩
  have HB2 := Lib.hid (below_then HB0.out hb)
  have HO := Lib.hid ho
  have HS2 := Lib.hid (HS0.out.call hb)
  have HM2 := Lib.hid (HM0.out.below hb)
  have HX2 := Lib.hid (HX0.out.call hb)
  clear hb ho hmk s0 s1 s2
  go_wp2_with fail
  go_loopw [10] (fun i wr => ∃ k : Nat, k ≤ n ∧ i = .int .i64 (k : Int) ∧ Hid (Below w.heap.size w wr) ∧ Hid (MapF Tryd.prog 9 wr (g + 1) k (Ca.nf (.int .i64 (-2)) (l.take k))) ∧ Hid (At wr (g + 2) [.map (some (g + 1))]) ∧ Hid (At wr g [.slice rA nr rc, .slice zA nz zc, .slice lA nl lc]) ∧ Hid (wr.ownsRow W0.heap.size 9 1 (.slice A n c) n (l.map Value.string)))
    (fun i _ => n - (intOf i).toNat)
  case atStart => exact ⟨0, Nat.zero_le _, rfl, HB2.out, HM2.out, HX2.out, HS2.out, HO.out⟩
  case round =>
    obtain ⟨k, hk, rfl, HB, HM, HX, HS, HOr⟩ := hrel
    by_cases hlt : k < n
    · obtain ⟨x, hx⟩ : ∃ y, l[k]? = some y := ⟨_, List.getElem?_eq_getElem (by rw [HN.out]; exact hlt)⟩
      have hxs := HSz.out x (List.mem_of_getElem? hx)
      obtain ⟨ad, u1, rfl, hab, hu, hcu⟩ := (Reads.of_own HOr.out).at_ hlt
      have hu2 : u1 = .string x := by
        rw [List.getElem?_map, hx] at hu
        exact (Option.some.inj hu).symm
      rw [hu2] at hcu
      have q1 : (0 : Int) ≤ (k : Int) := by omega
      have q2 : (k : Int) < (n : Int) := by omega
      have hkm : k < maxLen := by unfold maxLen; omega
      have HT := Lib.hid (Ca.take_next hx)
      have k0 := HX.out.cell 0 _ rfl
      have HP := Lib.hid (Ca.nf_put (.int .i64 (-2)) (l.take k) x)
      clear hx hu hu2
      go_wp2_with (at_mapUpdate; refine store_num _ rfl _ _ _ (g + 1) k _ x hxs hkm (-2) rfl rfl rfl rfl HM.out ?_; intro w3 hM3 hg3; have HM3 := Lib.hid hM3; have HG3 := Lib.hid hg3; clear hM3 hg3)
      go_roundw
      case rel => exact ⟨k + 1, by omega, by go_num, HB.out.grown HG3.out HB.out.size (fun j e => by cases e; have := HG.out; omega), by show MapF _ _ _ _ _ _; rw [HT.out, ← HP.out]; exact HM3.out, Sc.At.grownO HX.out HG3.out (fun j e => by cases e; omega), Sc.At.grownO HS.out HG3.out (fun j e => by cases e; omega), HOr.out.kept HG3.out (.inr (fun e => by have := (HOr.out.lt _ e).1; have := HSs.out; omega))⟩
      case measure => simp [intOf]; omega
    · have hkn : k = n := by omega
      subst hkn
      have p2 : ¬ (k : Int) < (k : Int) := by omega
      have hM := HM.out
      rw [List.take_of_length_le (by rw [HN.out]; exact Nat.le_refl _)] at hM
      have HE := Lib.hid (HLd.out wr HX.out HS.out hM)
      clear hM
      go_wp2
      go_ret
      exact ⟨rfl, HE.out, by rw [← HG.out]; exact HB.out⟩
end Go.Proofs.YtajcgoinhpengaaDoor

/- atlas.names: the names of a chart, each with its entry's place, by a range over a function. -/
namespace Go.Proofs.YtajcgoinhpengaaDoor
open Go.RowKit Go.Shelf
attribute [local go_sem] Oper.semAt_some

namespace Ca
/-- What lay below n, but for the blocks of S, lies as it lay. -/
structure Kp (S : Nat → Prop) (n : Nat) (W W' : World) : Prop where
  size : W.heap.size ≤ W'.heap.size
  same : ∀ k, k < n → ¬ S k → W'.heap[k]? = W.heap[k]?
theorem Kp.refl (S : Nat → Prop) (n : Nat) (W : World) : Kp S n W W := ⟨Nat.le_refl _, fun _ _ _ => rfl⟩
theorem Kp.trans {S : Nat → Prop} {n : Nat} {A B C : World} (h : Kp S n A B) (k : Kp S n B C) : Kp S n A C := ⟨Nat.le_trans h.size k.size, fun i hi hb => (k.same i hi hb).trans (h.same i hi hb)⟩
theorem Kp.cell {S : Nat → Prop} {n : Nat} {W W' : World} (h : Kp S n W W') {p : Addr} (hp : p.block < n) (hb : ¬ S p.block) : W'.cell? p = W.cell? p := World.cell?_of_block (h.same p.block hp hb)
theorem Kp.alloc {S : Nat → Prop} {n : Nat} {W W' : World} (h : Kp S n W W') (hn : n ≤ W.heap.size) (o : Obj) : Kp S n W (W'.alloc o) :=
  ⟨Nat.le_trans h.size (by rw [World.size_alloc]; omega), fun k hk hs => ((World.grownBy_alloc W' o none).block k (by have := h.size; omega) (by simp)).trans (h.same k hk hs)⟩
theorem Kp.put {S : Nat → Prop} {n : Nat} {w : World} (hn : n ≤ w.heap.size) (W : World) (l : Nat) (o o' : Obj) (hl : w.heap.size ≤ l) (_ : W.heap[l]? = some o) (_ : o.isCells = false) (_ : o.isWalk = false) : Kp S n W (W.putObj l o') :=
  ⟨(grownBy_putObj' W l o').size, fun k hk _ => World.putObj_heap_other (by omega)⟩
theorem reads_same {w w' : World} {B size n : Nat} {A : Option Addr} {xs : List Value} (h : Reads w B size A n xs) (hs : ∀ k, k < B → w'.heap[k]? = w.heap[k]?) : Reads w' B size A n xs := by
  refine ⟨h.1, fun hn => ?_⟩
  obtain ⟨ad, e, hb, hc⟩ := h.2 hn
  refine ⟨ad, e, hb, fun j u hj => ?_⟩
  rw [World.cell?_of_block (hs _ (by rw [block_of_add]; exact hb))]
  exact hc j u hj
theorem row_same {w w' : World} {B size n : Nat} {v : Value} {xs : List Value} (h : Src.RowR w B size n v xs) (hs : ∀ k, k < B → w'.heap[k]? = w.heap[k]?) : Src.RowR w' B size n v xs := by
  obtain ⟨A, c, e, h1, h2, h3⟩ := h
  exact ⟨A, c, e, h1, h2, reads_same h3 hs⟩
theorem EntR.same {w w' : World} {B : Nat} {l : List E} {v : Value} {evs : List Value} (h : EntR w B l v evs) (hs : ∀ k, k < B → w'.heap[k]? = w.heap[k]?) : EntR w' B l v evs :=
  ⟨row_same h.row hs, h.len, fun p hp => row_same (h.zns p hp) hs⟩
/-- One of a chart's names, with its entry's place. -/
abbrev Nm (es : List E) := { p : Nat × ByteArray // p ∈ flat es 0 }
/-- All of them. -/
def all (es : List E) : List (Nm es) := (flat es 0).attach
theorem all_map (es : List E) : (all es).map (·.1) = flat es 0 := by unfold all; exact List.attach_map_subtype_val _
theorem all_len (es : List E) : (all es).length = (flat es 0).length := by unfold all; exact List.length_attach
/-- How many come ahead of an entry's. -/
def off (es : List E) (k : Nat) : Nat := (flat (es.take k) 0).length
theorem come_off (es : List E) (k m : Nat) (zs : List ByteArray) (hm : m ≤ zs.length) : (come es k m zs).length = off es k + m := by
  unfold come off
  rw [List.length_append, List.length_map, List.length_take]
  omega
theorem off_next {es : List E} {k : Nat} {x : E} (h : es[k]? = some x) : off es (k + 1) = off es k + x.zones.length := by
  rw [← come_off es k x.zones.length x.zones (Nat.le_refl _), come_all h]
  rfl
theorem off_all (es : List E) : off es es.length = (all es).length := by
  unfold off
  rw [List.take_length, all_len]
theorem all_at {es : List E} {k m : Nat} {x : E} {z : ByteArray} (h : es[k]? = some x) (hz : x.zones[m]? = some z) : ∃ hp, (all es)[off es k + m]? = some ⟨(k, z), hp⟩ := by
  obtain ⟨r, hr⟩ := come_split h hz
  have hm : m ≤ x.zones.length := Nat.le_of_lt (List.getElem?_eq_some_iff.1 hz).1
  have hl := come_off es k m x.zones hm
  have hg : (flat es 0)[off es k + m]? = some (k, z) := by
    rw [hr, List.getElem?_append_right (by omega), hl]
    simp
  have hlt := (List.getElem?_eq_some_iff.1 hg).1
  have he := (List.getElem?_eq_some_iff.1 hg).2
  refine ⟨List.mem_of_getElem? hg, ?_⟩
  unfold all
  rw [List.getElem?_attach]
  simp [hg]
/-- What the iterator hands back. -/
def SqRet (es : List E) (JY JX : List (Nm es) → World → Prop) (e : Ending) (W' : World) : Prop :=
  (∃ v, e = .returned v) ∧ ((∃ ys, ys = all es ∧ JY ys W') ∨ (∃ pre, (∃ j, pre = (all es).take j) ∧ JX pre W'))
end Ca
theorem caNames_any (v : Value) (w : World) (hv : ∃ A n c, v = .slice A n c) :
    Calls Tryd.prog 36 #[v] w fun e w' => e = .returned (.func (.func 56) #[] #[.pointer (some ⟨w.heap.size, 0, none⟩)]) ∧ w.alloc (.cells #[v] 22) = w' := by
  obtain ⟨A, n, c, rfl⟩ := hv
  go_enter Tryd.func36, Tryd.ntmps36
  go_wp2
  go_ret
  exact ⟨rfl, rfl⟩
set_option maxRecDepth 100000 in
set_option maxHeartbeats 4000000 in
/-- The iterator. -/
theorem names1_in (n : Nat) (hn : 1 ≤ n) (l bl n₀ B₀ : Nat) (S : Nat → Prop) (es : List Ca.E) (A : Option Addr) (N c : Nat) (evs : List Value) (hN : es.length = N) (hNb : N ≤ 4096) (JY JX : List (Ca.Nm es) → World → Prop)
    (hab : ∀ pre W o, JY pre W → JY pre (W.alloc o))
    (hY : ∀ pre (x : Ca.Nm es) W, JY pre W → pre.length < (Ca.all es).length → YieldAt Fence.wide (n - 1) Tryd.prog l #[.int .i64 (x.1.1 : Int), .string x.1.2] W fun e W' =>
      (e = .returned (.bool true) ∧ JY (pre ++ [x]) W' ∧ Ca.Kp S n₀ W W') ∨ (e = .returned (.bool false) ∧ JX (pre ++ [x]) W'))
    (W : World) (hc : W.cell? ⟨bl, 0, none⟩ = some (.slice A N c)) (hR : Ca.EntR W B₀ es (.slice A N c) evs) (hB : B₀ ≤ n₀) (hS : ∀ k, k < B₀ → ¬ S k) (hn0 : n₀ ≤ W.heap.size) (h0 : JY [] W) :
    CallsIn Fence.wide n Tryd.prog 56 #[.func (.yield l) #[] #[], .pointer (some ⟨bl, 0, none⟩)] W (Ca.SqRet es JY JX) := by
  have HRs : Hid (∀ W', Ca.Kp S n₀ W W' → Ca.EntR W' B₀ es (.slice A N c) evs) := fun W' hk => hR.same (fun k hk2 => hk.same k (by omega) (hS k hk2))
  have HNl := Lib.hid hN
  clear hR hS hN
  refine callsIn_of_wp Tryd.func56 rfl trivial ?_ rfl
  simp only [Tryd.ntmps56, List.size_toArray, List.length_cons, List.length_nil, Nat.reduceAdd, Nat.reduceSub, Array.replicate_succ, Array.replicate_zero, List.push_toArray, List.append_toArray, List.nil_append, List.cons_append]
  gi_wp2
  gi_loopw [9] (fun i wr => ∃ k : Nat, k ≤ N ∧ i = .int .i64 (k : Int) ∧ Hid (JY ((Ca.all es).take (Ca.off es k)) wr) ∧ Hid (Ca.Kp S n₀ W wr)) (fun i _ => N - (intOf i).toNat)
  case atStart => exact ⟨0, Nat.zero_le _, rfl, (by show JY _ _; exact h0), Ca.Kp.refl _ _ _⟩
  case round =>
    obtain ⟨k, hk, rfl, HJ, HK⟩ := hrel
    by_cases hlt : k < N
    · have q1 : (0 : Int) ≤ (k : Int) := by omega
      have q2 : (k : Int) < (N : Int) := by omega
      obtain ⟨ad, x, zA, mm, zc, rfl, hab2, Hx, c0, c1, c2, HZl, hz1, hz2, HZr, HEv⟩ := (HRs.out wr HK.out).at_ HNl.out hlt
      have hm63 : mm ≤ maxLen := Nat.le_trans hz1 hz2
      unfold maxLen at hm63
      have HJe := Lib.hid (hab _ _ (.cells #[.string x.key, .string x.terr, .slice zA mm zc] 45) HJ.out)
      have HKe := Lib.hid (HK.out.alloc hn0 (.cells #[.string x.key, .string x.terr, .slice zA mm zc] 45))
      have HZs : Hid (∀ W', Ca.Kp S n₀ W W' → Reads W' B₀ 1 zA mm (x.zones.map Value.string)) := by
        intro W' hk'
        obtain ⟨A2, c2', e2, _, _, h3⟩ := (HRs.out W' hk').zns (x, .slice zA mm zc) (List.mem_of_getElem? (List.getElem?_zip_eq_some.2 ⟨Hx.out, HEv.out⟩))
        simp only at e2 h3
        rw [HZl.out] at e2 h3
        injection e2 with e21 _ _
        rw [← e21] at h3
        exact h3
      clear HEv HZr hz1 hz2 HJ
      gi_wp2
      gi_loopw [17] (fun i wi => ∃ m : Nat, m ≤ mm ∧ i = .int .i64 (m : Int) ∧ Hid (JY ((Ca.all es).take (Ca.off es k + m)) wi) ∧ Hid (Ca.Kp S n₀ W wi)) (fun i _ => mm - (intOf i).toNat)
      case atStart => exact ⟨0, Nat.zero_le _, rfl, HJe.out, HKe.out⟩
      case round =>
        clear c0 c1 c2 HJe HKe HK
        obtain ⟨m, hm, rfl, HJ, HK⟩ := hrel
        by_cases hlt2 : m < mm
        · have q3 : (0 : Int) ≤ (m : Int) := by omega
          have q4 : (m : Int) < (mm : Int) := by omega
          obtain ⟨ad2, z, rfl, Hz, hcell⟩ : ∃ ad2 nm, zA = some ad2 ∧ Hid (x.zones[m]? = some nm) ∧ wr.cell? (ad2.add m) = some (.string nm) := reads_str (HZs.out wr HK.out) hlt2
          obtain ⟨hp, hg⟩ := Ca.all_at Hx.out Hz.out
          have hgl := (List.getElem?_eq_some_iff.1 hg).1
          obtain ⟨fn, tmps, assign, body, hy, hR⟩ := hY _ ⟨(k, z), hp⟩ wr HJ.out (by rw [List.length_take]; omega)
          dsimp only at hy
          have HT := Lib.hid (Ca.take_next hg)
          clear hgl hg
          gi_wp2
          refine hR.mono ?_
          rintro e W3 (⟨rfl, hJ3, hk3⟩ | ⟨rfl, hJx3⟩)
          · have HJ3 : Hid (JY ((Ca.all es).take (Ca.off es k + (m + 1))) W3) := by
              show JY _ _
              rw [← Nat.add_assoc, HT.out]
              exact hJ3
            have HK3 := Lib.hid (HK.out.trans hk3)
            clear hJ3 hk3
            gi_wp2
            go_roundw
            case rel => exact ⟨m + 1, by omega, by first | rfl | (simp; done) | (simp; omega), HJ3.out, HK3.out⟩
            case measure => first | (simp [intOf]; done) | (simp [intOf]; omega)
          · have HX : Hid (JX ((Ca.all es).take (Ca.off es k + m + 1)) W3) := by
              show JX _ _
              rw [HT.out]
              exact hJx3
            clear hJx3
            gi_wp2
            refine bodyPost_ret (results_none rfl _ _ _) rfl ?_
            exact ⟨⟨_, rfl⟩, .inr ⟨_, ⟨_, rfl⟩, HX.out⟩⟩
        · have hme : m = mm := by omega
          subst hme
          have p2 : ¬ (m : Int) < (m : Int) := by omega
          have HO := Lib.hid (Ca.off_next Hx.out)
          gi_wp2
          go_roundw
          case rel => exact ⟨k + 1, by omega, by go_num, by show JY _ _; rw [HO.out, HZl.out]; exact HJ.out, HK.out⟩
          case measure => simp [intOf]; omega
    · have hkn : k = N := by omega
      subst hkn
      have p2 : ¬ (k : Int) < (k : Int) := by omega
      have HJ2 : Hid (JY (Ca.all es) wr) := by
        show JY _ _
        have h := HJ.out
        rw [← HNl.out, Ca.off_all, List.take_length] at h
        exact h
      gi_wp2
      go_end0
      exact ⟨⟨_, rfl⟩, .inl ⟨_, rfl, HJ2.out⟩⟩
end Go.Proofs.YtajcgoinhpengaaDoor
