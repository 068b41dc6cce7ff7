/- link.Zone and link.Chain. -/
import Derived.Test.YtdanbnolbaelhaaGreatDoorE19
import Derived.Deep.QuietTactic
import Derived.BigQuiet
import Derived.Test.YtdanbnolbaelhaaGreatDoorE15

namespace Go.Proofs.YtdanbnolbaelhaaGreatDoor
open Go.RowKit

namespace Lk
def walk (s : Src.S) (x : ByteArray) : List ByteArray × Fd := find (zn s) (ln s) (tg s) (s.links.length + 1) (fun _ => none) x
theorem walk_zone {s : Src.S} {x : ByteArray} {i : Nat} (h : first (zn s) x = some i) : walk s x = ([x], ((i : Int), 0)) := by
  unfold walk find
  simp only [h]
/-- What a source must be for its names to be looked up. -/
structure Nm (s : Src.S) : Prop where
  nz : s.zones.length ≤ 1000000
  nl : s.links.length ≤ 1000000
  z : ∀ z ∈ s.zones, z.1.length ≤ maxLen
  l : ∀ k ∈ s.links, k.1.length ≤ maxLen ∧ k.2.length ≤ maxLen
theorem Nm.zn {s : Src.S} (h : Nm s) : ∀ x ∈ Lk.zn s, x.size ≤ maxLen := by
  intro x hx
  unfold Lk.zn at hx
  obtain ⟨z, hz, rfl⟩ := List.mem_map.1 hx
  exact h.z z hz
theorem Nm.ln {s : Src.S} (h : Nm s) : ∀ x ∈ Lk.ln s, x.size ≤ maxLen := by
  intro x hx
  unfold Lk.ln at hx
  obtain ⟨k, hk, rfl⟩ := List.mem_map.1 hx
  exact (h.l k hk).2
end Lk
theorem below_gb {a b c : World} {r : Nat} (h : Below a.heap.size a b) (k : b.grownBy c (some r)) (hr : a.heap.size ≤ r) : Below a.heap.size a c :=
  h.grown k h.size (fun j e => by cases e; exact hr)
/-- A finder and a look-up in it. -/
theorem chain_tail (s : Src.S) (rv zv lv : Value) (evs : List Value) (x : ByteArray) (hN : Lk.Nm s) (hx : x.size ≤ maxLen) (w : World) (hR : Src.SrcR w w.heap.size s rv zv lv evs) (g bz bl bk : Nat) (w' : World) (hb : Below w.heap.size w w') (hF : Lk.Fr s lv w' g bz bl bk 0 (fun _ => none)) (hbk : w.heap.size ≤ bk) :
    Calls Tryz.prog 61 #[.pointer (some ⟨g, 0, none⟩), .string x] w' fun e w2 => (∃ A c, e = .returned (.tuple #[.slice A (Lk.walk s x).1.length c, .agg #[.int .i64 (Lk.walk s x).2.1, .int .i64 (Lk.walk s x).2.2]]) ∧ Reads w2 w2.heap.size 1 A (Lk.walk s x).1.length ((Lk.walk s x).1.map Value.string)) ∧ Below w.heap.size w w2 := by
  refine (find_any s lv g bz bl bk 0 (fun _ => none) x w' hF (hR.links.below hb |>.more hb.size) hN.nl (by omega) hx (fun k hk => (hN.l k hk).1)).mono ?_
  rintro e w2 ⟨h1, h2, h3⟩
  exact ⟨h1, below_gb hb h3 hbk⟩
def Lk.ZAt (s : Src.S) (w : World) (h : Nat) (rv zv lv : Value) (x : ByteArray) (i : Value) (wr : World) : Prop :=
  ∃ k : Nat, k ≤ s.zones.length ∧ i = .int .i64 k ∧ Hid (x ∉ (Lk.zn s).take k) ∧ Hid (At wr h [rv, zv, lv]) ∧ Hid (Below w.heap.size w wr)
theorem first_take {l : List ByteArray} {x : ByteArray} : ∀ {k : Nat}, x ∉ l.take k → l[k]? = some x → Lk.first l x = some k := by
  induction l with
  | nil => intro k _ h; simp at h
  | cons y l ih =>
    intro k hn h
    unfold Lk.first
    cases k with
    | zero =>
      have : y = x := by simpa using h
      rw [if_pos this]
    | succ k =>
      rw [List.take_succ_cons, List.mem_cons, not_or] at hn
      rw [if_neg (fun e => hn.1 e.symm), ih hn.2 (by simpa using h)]
      rfl
set_option maxHeartbeats 4000000 in
set_option maxRecDepth 100000 in
theorem linkZone_any (s : Src.S) (rv zv lv : Value) (evs : List Value) (x : ByteArray) (w : World) (hR : Src.SrcR w w.heap.size s rv zv lv evs) (hN : Lk.Nm s) (hx : x.size ≤ maxLen) :
    Calls Tryz.prog 21 #[.agg #[rv, zv, lv], .string x] w fun e w' => e = .returned (.tuple #[.int .i64 (Lk.walk s x).2.1, .int .i64 (Lk.walk s x).2.2]) ∧ Below w.heap.size w w' := by
  have hOf := fun W hR => linkOf_any s rv zv lv evs W hR ⟨hN.nz, hN.nl⟩ hN.zn hN.ln
  obtain ⟨X, hX⟩ : ∃ X, Lk.walk s x = X := ⟨_, rfl⟩
  have hfd := fun W hR g bz bl bk W' hb hF hbk => chain_tail s rv zv lv evs x hN hx W hR g bz bl bk W' hb hF hbk
  have hzn := fun i hi => Lk.walk_zone (s := s) (x := x) (i := i) hi
  rw [hX] at hfd ⊢
  simp only [hX] at hzn
  have hlen : (s.zones.zip evs).length = s.zones.length := by rw [List.length_zip, hR.len]; omega
  have hers := hR.eras
  have hA0 := At.new w #[rv, zv, lv] 26
  have hB0 := (Below.refl w.heap.size w).alloc (Nat.le_refl _) (.cells #[rv, zv, lv] 26)
  obtain ⟨h, hh⟩ : ∃ h, w.heap.size = h := ⟨_, rfl⟩
  rw [hh] at hA0
  obtain ⟨rA, rc, rfl, _⟩ := hR.rules
  obtain ⟨zA, zc, rfl, _, _, hrz⟩ := hR.zones
  obtain ⟨lA, lc, rfl, _⟩ := hR.links
  have HOf := Lib.hid hOf
  have HFd := Lib.hid hfd
  have HZn := Lib.hid hzn
  have HLen := Lib.hid hlen
  have HEr := Lib.hid hers
  have HA0 := Lib.hid hA0
  have HB0 := Lib.hid hB0
  have HRz := Lib.hid hrz
  have HR := Lib.hid hR
  have hz6 : s.zones.length ≤ 1000000 := hN.nz
  clear hOf hfd hzn hlen hers hA0 hB0 hrz hR hX hN
  go_enter Tryz.func21, Tryz.ntmps21
  go_wp2
  go_loopw [13] (fun i wr => Lk.ZAt s w h (.slice rA s.rules.length rc) (.slice zA s.zones.length zc) (.slice lA s.links.length lc) x i wr) (fun i _ => s.zones.length - (intOf i).toNat)
  case atStart => exact ⟨0, Nat.zero_le _, rfl, (by show x ∉ _; simp), HA0.out, HB0.out⟩
  case round =>
    obtain ⟨k, hk, rfl, HNo, HAr, HBr⟩ := hrel
    by_cases hlt : k < s.zones.length
    · obtain ⟨ad, z, rfl, hab, Hx, HL⟩ := Ix.reads_cells (enc := Src.zc) (m := 2) (fun _ => rfl) HLen.out (HRz.out.below HBr.out) hlt
      have hzk : (Lk.zn s)[k]? = some (Src.bts z.1.1) := by
        have h1 := Hx.out
        rw [List.getElem?_zip_eq_some] at h1
        unfold Lk.zn
        rw [List.getElem?_map, h1.1]
        rfl
      obtain ⟨zb, hzb⟩ : ∃ t, Src.bts z.1.1 = t := ⟨_, rfl⟩
      obtain ⟨eA, ec, he2, _⟩ := HEr.out z (List.mem_of_getElem? Hx.out)
      have c0 : wr.cell? (ad.add (k * 2)) = some (.string zb) := by rw [← hzb]; exact HL.out 0 _ rfl
      have c1 : wr.cell? ⟨(ad.add (k * 2)).block, (ad.add (k * 2)).off + 1, none⟩ = some (.slice eA z.1.2.length ec) := by rw [← he2]; exact HL.out 1 _ rfl
      rw [hzb] at hzk
      have q1 : (0 : Int) ≤ (k : Int) := by omega
      have q2 : (k : Int) < (s.zones.length : Int) := by omega
      have HA2 := Lib.hid (HAr.out.allocO (.cells #[.string zb, .slice eA z.1.2.length ec] 36))
      have HB2 := Lib.hid (HBr.out.alloc HBr.out.size (.cells #[.string zb, .slice eA z.1.2.length ec] 36))
      by_cases he : zb = x
      · subst he
        have HE := Lib.hid (HZn.out k (first_take HNo.out hzk))
        clear hzk hzb he2 Hx HL
        go_wp2
        go_ret2
        exact ⟨by rw [HE.out]; rfl, HB2.out⟩
      · have HN2 : Hid (x ∉ (Lk.zn s).take (k + 1)) := by
          show x ∉ _
          rw [List.take_add_one, hzk]
          intro hm
          rcases List.mem_append.1 hm with hm | hm
          · exact HNo.out hm
          · have : x = zb := by simpa using hm
            exact he this.symm
        have qe : (zb.toList == x.toList) = false := by
          rw [beq_eq_false_iff_ne]
          intro e
          rw [ByteArray.toList_eq, ByteArray.toList_eq] at e
          exact he (ByteArray.ext (Array.ext' e))
        have qe' : ¬ zb.toList = x.toList := by simpa using qe
        clear hzk hzb he2 Hx HL he
        go_wp2
        go_roundw
        case rel => exact ⟨k + 1, by omega, by go_num, HN2, HA2.out, HB2.out⟩
        case measure => simp [intOf]; omega
    · have q2 : ¬ (k : Int) < (s.zones.length : Int) := by omega
      have hR1 := HR.out.call HBr.out
      have hcall := HOf.out wr hR1
      obtain ⟨a0, a1, a2, _⟩ := HAr.out.three
      have HCall := Lib.hid hcall
      have HR1 := Lib.hid hR1
      clear hcall hR1
      go_wp2_with fail
      refine HCall.out.mono ?_
      rintro e w1 ⟨g, bz, bl, bk, rfl, hF, ⟨hg0, hbk0⟩, hb⟩
      have HC2 := Lib.hid (HFd.out wr HR1.out g bz bl bk w1 hb hF hbk0)
      have HB1 := Lib.hid HBr.out
      clear hF hb hg0 hbk0
      go_wp2_with fail
      refine HC2.out.mono ?_
      rintro e w2 ⟨⟨A, c, rfl, _⟩, hb2⟩
      have HB2 := Lib.hid (below_then HB1.out hb2)
      have HB3 := Lib.hid (HB2.out.alloc HB2.out.size (.cells #[.int .i64 X.2.1, .int .i64 X.2.2] 125))
      obtain ⟨f0, f1, _⟩ := (At.new w2 #[.int .i64 X.2.1, .int .i64 X.2.2] 125).two
      clear hb2
      go_wp2_with fail
      obtain ⟨W3, hW3⟩ : ∃ W, w2.alloc (.cells #[.int .i64 X.2.1, .int .i64 X.2.2] 125) = W := ⟨_, rfl⟩
      rw [hW3] at f0 f1 HB3 ⊢
      clear hW3
      go_quiet (fail)
      go_wp2
      go_ret2
      exact ⟨rfl, by first | exact HB3.out | exact below_drewN HB3.out _⟩
/-- What link.Chain hands back. -/
def Lk.ChRet (s : Src.S) (x : ByteArray) (w : World) (e : Ending) (w' : World) : Prop :=
  (∃ A c, e = .returned (.slice A (Lk.walk s x).1.length c) ∧ Reads w' w'.heap.size 1 A (Lk.walk s x).1.length ((Lk.walk s x).1.map Value.string)) ∧ Below w.heap.size w w'
set_option maxHeartbeats 4000000 in
set_option maxRecDepth 100000 in
theorem linkChain_any (s : Src.S) (rv zv lv : Value) (evs : List Value) (x : ByteArray) (w : World) (hR : Src.SrcR w w.heap.size s rv zv lv evs) (hN : Lk.Nm s) (hx : x.size ≤ maxLen) :
    Calls Tryz.prog 120 #[.agg #[rv, zv, lv], .string x] w (Lk.ChRet s x w) := by
  have hA0 := At.new w #[rv, zv, lv] 26
  have hB0 := (Below.refl w.heap.size w).alloc (Nat.le_refl _) (.cells #[rv, zv, lv] 26)
  have hR1 := (hR.below hB0).more hB0.size
  have hOf := linkOf_any s rv zv lv evs _ hR1 ⟨hN.nz, hN.nl⟩ hN.zn hN.ln
  have hfd := fun g bz bl bk W' hb hF hbk => chain_tail s rv zv lv evs x hN hx _ hR1 g bz bl bk W' hb hF hbk
  unfold Lk.ChRet
  obtain ⟨X, hX⟩ : ∃ X, Lk.walk s x = X := ⟨_, rfl⟩
  rw [hX]
  simp only [hX] at hfd
  obtain ⟨rA, rc, rfl, _⟩ := hR.rules
  obtain ⟨zA, zc, rfl, _⟩ := hR.zones
  obtain ⟨lA, lc, rfl, _⟩ := hR.links
  have HOf := Lib.hid hOf
  have HFd := Lib.hid hfd
  have HB0 := Lib.hid hB0
  have HC : Hid (∀ A c (w2 w3 : World), Reads w2 w2.heap.size 1 A X.1.length (X.1.map Value.string) → Below w.heap.size w w2 → w3 = w2.alloc (.cells #[.int .i64 X.2.1, .int .i64 X.2.2] 125) →
      ((∃ A' c', Ending.returned (.slice A X.1.length c) = .returned (.slice A' X.1.length c') ∧ Reads w3 w3.heap.size 1 A' X.1.length (X.1.map Value.string)) ∧ Below w.heap.size w w3)) := by
    rintro A c w2 w3 hr hb rfl
    exact ⟨⟨A, c, rfl, (hr.alloc (Nat.le_refl _) _).more (by simp)⟩, hb.alloc hb.size _⟩
  clear hOf hfd hA0 hB0 hR hR1 hX hN
  go_enter Tryz.func120, Tryz.ntmps120
  go_wp2_with fail
  refine HOf.out.mono ?_
  rintro e w1 ⟨g, bz, bl, bk, rfl, hF, ⟨hg0, hbk0⟩, hb⟩
  have HC2 := Lib.hid (HFd.out g bz bl bk w1 hb hF hbk0)
  clear hF hb hg0 hbk0
  go_wp2_with fail
  refine HC2.out.mono ?_
  rintro e w2 ⟨⟨A, c, rfl, hr⟩, hb2⟩
  have HRes := Lib.hid (HC.out A c w2 _ hr (HB0.out.trans (hb2.mono HB0.out.size)) rfl)
  clear hr hb2
  go_wp2
  refine bodyPost_ret (v := .slice A X.1.length c) (by simp [results, Tryz.results120, go_sem, *]) rfl ?_
  exact HRes.out
end Go.Proofs.YtdanbnolbaelhaaGreatDoor

/- valid.finder.put: a flaw more. -/
namespace Go.Proofs.YtdanbnolbaelhaaGreatDoor
open Go.RowKit

namespace Vd
/-- A flaw: why, and of what name. -/
abbrev Fl := Int × ByteArray
def fc (f : Fl) : List Value := [.int .i64 f.1, .string f.2]
def cells (l : List Fl) : List Value := l.flatMap fc
theorem cells_snoc (l : List Fl) (f : Fl) : cells (l ++ [f]) = cells l ++ fc f := by unfold cells; simp
/-- A finder of flaws in block g. -/
structure Fd (rv zv lv : Value) (B g : Nat) (fl : List Fl) (v : Value) (w : World) : Prop where
  at_ : At w g [rv, zv, lv, v]
  row : w.ownsRow B 237 2 v fl.length (cells fl)
  ne : v.ownBlock ≠ some g
/-- What a step that puts flaws keeps: whatever lay, but the finder and its row. -/
structure Kp (g : Nat) (v v' : Value) (w w' : World) : Prop where
  os : w'.os = w.os
  tape : w'.tape = w.tape
  output : w'.output = w.output
  size : w.heap.size ≤ w'.heap.size
  same : ∀ k, k < w.heap.size → k ≠ g → v.ownBlock ≠ some k → w'.heap[k]? = w.heap[k]? ∧ v'.ownBlock ≠ some k
section
variable {g : Nat} {v v' v'' : Value} {a b c : World}
theorem Kp.refl (g : Nat) (v : Value) (a : World) : Kp g v v a a := ⟨rfl, rfl, rfl, Nat.le_refl _, fun _ _ _ h => ⟨rfl, h⟩⟩
theorem Kp.trans (h : Kp g v v' a b) (k : Kp g v' v'' b c) : Kp g v v'' a c :=
  ⟨k.os.trans h.os, k.tape.trans h.tape, k.output.trans h.output, Nat.le_trans h.size k.size, fun i hi hg hv => by
    obtain ⟨h1, h2⟩ := h.same i hi hg hv
    obtain ⟨k1, k2⟩ := k.same i (Nat.lt_of_lt_of_le hi h.size) hg h2
    exact ⟨k1.trans h1, k2⟩⟩
theorem Kp.below (h : Below a.heap.size a b) : Kp g v v a b :=
  ⟨h.os, h.tape, h.output, h.size, fun k hk _ hn => ⟨h.block k hk, hn⟩⟩
theorem Kp.at_ (h : Kp g v v' a b) {k : Nat} {xs : List Value} (hA : At a k xs) (hg : k ≠ g) (hv : v.ownBlock ≠ some k) : At b k xs :=
  ⟨Nat.lt_of_lt_of_le hA.1 h.size, fun i u hi => ⟨(World.cell?_of_block (a := ⟨k, i, none⟩) (h.same k hA.1 hg hv).1).trans (hA.2 i u hi).1, (World.frozen?_of_block (a := ⟨k, i, none⟩) (h.same k hA.1 hg hv).1).trans (hA.2 i u hi).2⟩⟩
theorem Kp.map {P : Program} {k : TypeId} {m n : Nat} {f : Mp.Fn} (h : Kp g v v' a b) (hm : MapF P k a m n f) (hg : m ≠ g) (hv : v.ownBlock ≠ some m) : MapF P k b m n f := by
  obtain ⟨D, ⟨es, clock, hb, r⟩, hf⟩ := hm
  have hlt : m < a.heap.size := (Array.getElem?_eq_some_iff.1 hb).1
  exact ⟨D, ⟨es, clock, (h.same m hlt hg hv).1.trans hb, r⟩, hf⟩
end
theorem Fd.kept {rv zv lv v : Value} {B g : Nat} {fl : List Fl} {w w' : World} (h : Fd rv zv lv B g fl v w) (hb : Below w.heap.size w w') : Fd rv zv lv B g fl v w' :=
  ⟨h.at_.call hb, h.row.kept (row := none) ⟨hb.os, hb.tape, hb.output, hb.size, fun k hk _ => hb.block k hk⟩ (by cases v.ownBlock <;> simp), h.ne⟩
theorem Fd.map_ne {P : Program} {k : TypeId} {rv zv lv v : Value} {B g m n : Nat} {fl : List Fl} {f : Mp.Fn} {w : World} (h : Fd rv zv lv B g fl v w) (hm : MapF P k w m n f) : m ≠ g ∧ v.ownBlock ≠ some m := by
  refine ⟨fun e => h.at_.ne_map hm e.symm, fun e => ?_⟩
  obtain ⟨o, ho, hc⟩ := hm.not_cells
  rcases h.row.2 with ⟨h1, _⟩ | ⟨g', cap, cur, hv, _, hh, _⟩
  · rw [h1] at e
    cases e
  · rw [hv] at e
    have e2 : g' = m := by simpa [Value.ownBlock] using e
    rw [e2, ho] at hh
    cases hh
    cases hc
/-- What put hands back. -/
def PutRet (rv zv lv : Value) (B g : Nat) (fl : List Fl) (f : Fl) (v : Value) (w : World) (e : Ending) (w' : World) : Prop :=
  (∃ x, e = .returned x) ∧ ∃ v', Fd rv zv lv B g (fl ++ [f]) v' w' ∧ Kp g v v' w w'
end Vd
theorem flaw_info : (Tryz.prog.info? 237).map (fun i => (i.zero, i.size, i.bytes)) = some (some (.agg #[.int .i64 0, .string ⟨#[]⟩]), 2, 24) := by kernel_rfl
set_option maxHeartbeats 4000000 in
set_option maxRecDepth 100000 in
theorem vdPut_any (rv zv lv v : Value) (B g : Nat) (fl : List Vd.Fl) (why : Int) (name : ByteArray) (w : World) (hF : Vd.Fd rv zv lv B g fl v w) (hn : fl.length ≤ 1000000) (hB : B ≤ w.heap.size) :
    Calls Tryz.prog 119 #[.pointer (some ⟨g, 0, none⟩), .int .i64 why, .string name] w (Vd.PutRet rv zv lv B g fl (why, name) v w) := by
  obtain ⟨hA, hO, hne⟩ := hF
  have c3 := hA.cell 3 _ rfl
  have hgl := hA.lt
  obtain ⟨i0, hi0, hz0, hz1, hz2⟩ : ∃ i, Tryz.prog.info? 237 = some i ∧ i.zero = some (.agg #[.int .i64 0, .string ⟨#[]⟩]) ∧ i.size = 2 ∧ i.bytes = 24 := by
    have h := flaw_info
    cases hc : Tryz.prog.info? 237 with
    | none => rw [hc] at h; cases h
    | some i =>
      rw [hc] at h
      simp only [Option.map_some, Option.some.injEq, Prod.mk.injEq] at h
      exact ⟨i, rfl, h.1, h.2.1, h.2.2⟩
  have HI := Lib.hid (And.intro hi0 (And.intro hz0 (And.intro hz1 hz2)))
  have hR : Reads (w.alloc (.cells #[.int .i64 why, .string name] 237)) (w.heap.size + 1) 2 (some ⟨w.heap.size, 0, none⟩) 1 [.int .i64 why, .string name] := by
    refine ⟨by simp, fun _ => ⟨_, rfl, Nat.lt_succ_self _, fun j u hu => ?_⟩⟩
    have e : (⟨w.heap.size, 0, none⟩ : Addr).add j = ⟨w.heap.size, j, none⟩ := by
      unfold Addr.add
      split
      · subst_vars; rfl
      · simp
    rw [e]
    exact (At.new w #[.int .i64 why, .string name] 237).cell j u hu
  have HR := Lib.hid hR
  have HA := Lib.hid hA
  have HO := Lib.hid hO
  have HNe := Lib.hid hne
  have HK : Hid (∀ v' w', w'.ownsRow B 237 2 v' (fl.length + 1) (Vd.cells fl ++ [.int .i64 why, .string name]) → (w.alloc (.cells #[.int .i64 why, .string name] 237)).grownBy w' v.ownBlock → (v'.ownBlock = v.ownBlock ∨ v'.ownBlock = some (w.heap.size + 1)) →
      (w'.cell? ⟨g, 3, none⟩ = some v ∧ w'.frozen? ⟨g, 3, none⟩ = false) ∧ ∀ W, W = w'.setCell ⟨g, 3, none⟩ v' → Vd.PutRet rv zv lv B g fl (why, name) v w (.returned (.tuple #[])) W) := by
    intro v' w' ho hg hat
    have hA1 := Lk.at_kept (hA.allocO (.cells #[.int .i64 why, .string name] 237)) hg (fun e => hne e.symm)
    have hvg : v'.ownBlock ≠ some g := by
      rcases hat with e | e
      · rw [e]; exact hne
      · rw [e]
        intro e2
        injection e2 with e2
        omega
    refine ⟨⟨hA1.cell 3 _ rfl, hA1.free 3 _ rfl⟩, ?_⟩
    rintro W rfl
    refine ⟨⟨_, rfl⟩, v', ⟨hA1.set 3 v', ?_, hvg⟩, ⟨hg.os, hg.tape, hg.output, by rw [heap_set]; have := hg.size; rw [World.size_alloc] at this; omega, fun k hk hkg hv => ⟨?_, ?_⟩⟩⟩
    · rw [Vd.cells_snoc, List.length_append]
      exact ownsRow_setCell_other ho (a := ⟨g, 3, none⟩) hvg _
    · rw [Below.heap_setCell w' ⟨g, 3, none⟩ v' k hkg, hg.block k (by rw [World.size_alloc]; omega) (fun e => hv e.symm)]
      exact Below.heap_alloc w _ k hk
    · rcases hat with e | e
      · rw [e]; exact hv
      · rw [e]
        intro e2
        injection e2 with e2
        omega
  clear hi0 hz0 hz1 hz2 hR hA hO hne
  go_enter Tryz.func119, Tryz.ntmps119
  have HAp := fun {ops : Array Oper} {rest : List Oper} {o : Oper} {a : Act} {Q : Exit → Act → World → Prop} (hgd : o.guard = none) (ho : o.op = .call { callee := .builtin .append, args := #[.tmp 10, .tmp 14], argTypes := #[102, 102] }) (hs : a.eval (.tmp 10) = v) (hx : a.eval (.tmp 14) = .slice (some ⟨w.heap.size, 0, none⟩) 1 1) h => wpList_append_any (P := Tryz.prog) (ops := ops) (rest := rest) (o := o) (a := a) (Q := Q) (w.alloc (.cells #[.int .i64 why, .string name] 237)) hgd (.tmp 10) (.tmp 14) 102 ho B 237 i0 _ 2 24 Tryz.underlying102 HI.out.1 HI.out.2.1 HI.out.2.2.1 HI.out.2.2.2 rfl (by omega) v fl.length (Vd.cells fl) hs (HO.out.alloc _) (w.heap.size + 1) _ 1 1 _ hx HR.out (by simp [Value.oneCell']) (by unfold maxLen; omega) (by omega) (by rw [World.size_alloc]; omega) h
  go_wp2_with (first | (at_builtin; refine HAp rfl rfl rfl rfl ?_; intro v9 w9 hown9 hg9 hat9; obtain ⟨⟨d3, f3⟩, hfin⟩ := HK.out v9 w9 hown9 hg9 (by rw [World.size_alloc] at hat9; exact hat9); have HFin := Lib.hid hfin; obtain ⟨A9, c9, rfl, _⟩ := own_slice hown9; clear hown9 hg9 hat9 hfin))
  refine bodyPost_ret (results_none rfl _ _ _) rfl ?_
  exact HFin.out _ rfl
end Go.Proofs.YtdanbnolbaelhaaGreatDoor

/- What a finder of flaws and its steps keep. -/
namespace Go.Proofs.YtdanbnolbaelhaaGreatDoor
open Go.RowKit

namespace Vd
section
variable {P : Program} {k : TypeId} {g m n : Nat} {v v' : Value} {a b c : World} {f : Mp.Fn}
theorem Kp.grown (h : Kp g v v' a b) (hg : b.grownBy c (some m)) (hm : a.heap.size ≤ m) : Kp g v v' a c :=
  ⟨hg.os.trans h.os, hg.tape.trans h.tape, hg.output.trans h.output, Nat.le_trans h.size hg.size, fun i hi hig hv =>
    ⟨(hg.block i (Nat.lt_of_lt_of_le hi h.size) (fun e => by injection e with e; omega)).trans (h.same i hi hig hv).1, (h.same i hi hig hv).2⟩⟩
theorem Kp.then_ (h : Kp g v v' a b) (k : Below b.heap.size b c) : Kp g v v' a c := h.trans (Kp.below k)
theorem Kp.row (h : Kp g v v' a b) {B size l : Nat} {e : TypeId} {nv : Value} {xs : List Value} (ho : a.ownsRow B e size nv l xs) (hb : ∀ j, nv.ownBlock = some j → j ≠ g ∧ v.ownBlock ≠ some j) :
    b.ownsRow B e size nv l xs ∧ ∀ j, nv.ownBlock = some j → j ≠ g ∧ v'.ownBlock ≠ some j := by
  have hlt := ho.lt
  refine ⟨⟨ho.1, ho.2.imp id ?_⟩, fun j hj => ⟨(hb j hj).1, (h.same j (hlt j hj).2 (hb j hj).1 (hb j hj).2).2⟩⟩
  rintro ⟨j, cap, cur, rfl, q2, q3, q4⟩
  have hj : (Value.slice (some ⟨j, 0, none⟩) l cap).ownBlock = some j := rfl
  exact ⟨j, cap, cur, rfl, q2, (h.same j (hlt j hj).2 (hb j hj).1 (hb j hj).2).1.trans q3, q4⟩
/-- Whatever lies below the finder and its row stays. -/
theorem Kp.base (h : Kp g v v' a b) {B : Nat} (hB : B ≤ g) (hv : ∀ j, v.ownBlock = some j → B ≤ j) (ha : B ≤ a.heap.size) : Below B a b :=
  ⟨h.os, h.tape, h.output, h.size, fun i hi => (h.same i (by omega) (by omega) (fun e => by have := hv i e; omega)).1⟩
end
section
variable {P : Program} {k : TypeId} {rv zv lv v : Value} {B g m n : Nat} {fl : List Fl} {f : Mp.Fn} {w w' : World}
theorem Fd.grown (h : Fd rv zv lv B g fl v w) (hm : MapF P k w m n f) (hg : w.grownBy w' (some m)) : Fd rv zv lv B g fl v w' :=
  ⟨Lk.at_kept2 h.at_ hm hg, h.row.kept hg (.inr (fun e => (h.map_ne hm).2 e)), h.ne⟩
theorem Fd.base (h : Fd rv zv lv B g fl v w) : ∀ j, v.ownBlock = some j → B ≤ j := fun j hj => (h.row.lt j hj).1
theorem Fd.alloc (h : Fd rv zv lv B g fl v w) (o : Obj) : Fd rv zv lv B g fl v (w.alloc o) := h.kept ((Below.refl _ _).alloc (Nat.le_refl _) o)
end
/-- What a search for flaws hands back: these more. -/
def Ret (rv zv lv : Value) (B g : Nat) (fl more : List Fl) (v : Value) (w : World) (e : Ending) (w' : World) : Prop :=
  (∃ x, e = .returned x) ∧ ∃ v', Fd rv zv lv B g (fl ++ more) v' w' ∧ Kp g v v' w w'
/-- Step by step: what each of a list adds. -/
def steps {α : Type} (f : Nat → α → List Fl) (l : List α) : Nat → List Fl
  | 0 => []
  | k + 1 => steps f l k ++ ((l[k]?).map (f k)).getD []
theorem steps_next {α : Type} {f : Nat → α → List Fl} {l : List α} {k : Nat} {x : α} (h : l[k]? = some x) : steps f l (k + 1) = steps f l k ++ f k x := by
  rw [steps, h]
  rfl
theorem steps_one {α : Type} {f : Nat → α → List Fl} {l : List α} (h : ∀ k x, l[k]? = some x → (f k x).length ≤ 1) : ∀ k, (steps f l k).length ≤ k
  | 0 => Nat.le_refl _
  | k + 1 => by
    rw [steps, List.length_append]
    have := steps_one h k
    have h2 : (((l[k]?).map (f k)).getD []).length ≤ 1 := by
      cases hk : l[k]? with
      | none => exact Nat.zero_le _
      | some x => exact h k x hk
    omega
/-- A name that was there. -/
noncomputable def tw1 (l : List ByteArray) (k : Nat) (x : ByteArray) : List Fl := @ite _ (x ∈ l.take k) (Classical.propDecidable _) [(8, x)] []
theorem tw1_in {l : List ByteArray} {k : Nat} {x : ByteArray} (h : x ∈ l.take k) : tw1 l k x = [(8, x)] := by unfold tw1; rw [if_pos h]
theorem tw1_out {l : List ByteArray} {k : Nat} {x : ByteArray} (h : x ∉ l.take k) : tw1 l k x = [] := by unfold tw1; rw [if_neg h]
noncomputable def tw (l : List ByteArray) : List Fl := steps (tw1 l) l l.length
theorem tw_le (l : List ByteArray) (k : Nat) : (steps (tw1 l) l k).length ≤ k := steps_one (fun k x _ => by
  by_cases h : x ∈ l.take k
  · rw [tw1_in h]; exact Nat.le_refl _
  · rw [tw1_out h]; exact Nat.zero_le _) k
/-- What was met is what the map holds. -/
def Seen (f : Mp.Fn) (l : List ByteArray) : Prop := ∀ x, (f x).isSome = true ↔ x ∈ l
theorem Seen.nil : Seen (fun _ => none) [] := fun x => by simp
theorem Seen.put {f : Mp.Fn} {l : List ByteArray} (h : Seen f l) (s : ByteArray) (u : Value) : Seen (Mp.put f s u) (l ++ [s]) := by
  intro x
  by_cases e : x = s
  · rw [e, Mp.put_same]; simp
  · rw [Mp.put_other _ _ _ e, h x]; simp [e]
theorem Seen.again {f : Mp.Fn} {l : List ByteArray} (h : Seen f l) {s : ByteArray} (hs : s ∈ l) : Seen f (l ++ [s]) := by
  intro x
  rw [h x, List.mem_append, List.mem_singleton]
  exact ⟨.inl, fun q => q.elim id (fun e => e ▸ hs)⟩
theorem Seen.yes {f : Mp.Fn} {l : List ByteArray} (h : Seen f l) {x : ByteArray} (hx : x ∈ l) : (f x).isSome = true := (h x).2 hx
theorem Seen.no {f : Mp.Fn} {l : List ByteArray} (h : Seen f l) {x : ByteArray} (hx : x ∉ l) : (f x).isSome = false := by
  cases e : (f x).isSome
  · rfl
  · exact absurd ((h x).1 e) hx
/-- Where the names are gone through. -/
structure TwAt (rv zv lv : Value) (B g : Nat) (fl : List Fl) (v0 : Value) (w0 : World) (bm : Nat) (A : Option Addr) (n c : Nat) (l : List ByteArray) (i : Value) (wr : World) : Prop where
  st : ∃ k v f, k ≤ n ∧ i = .int .i64 (k : Int) ∧ Fd rv zv lv B g (fl ++ steps (tw1 l) l k) v wr ∧ Kp g v0 v w0 wr ∧ MapF Tryz.prog 9 wr bm k f ∧ Seen f (l.take k) ∧ (∀ j, (Value.slice A n c).ownBlock = some j → j ≠ g ∧ v.ownBlock ≠ some j)
  row : wr.ownsRow (bm + 1) 9 1 (.slice A n c) n (l.map Value.string)
end Vd
theorem store_int (w : World) {ops : Array Oper} {rest : List Oper} {o : Oper} {a : Act} {Q : Exit → Act → World → Prop} (hg : o.guard = none) (m x v : Operand) (b n : Nat) (f : Mp.Fn) (s : ByteArray) (hs : s.size ≤ maxLen) (hn : n < maxLen) (e : Int) (hop : o.op = Op.mapUpdate 128 m x v)
    (hm : a.eval m = .map (some b)) (hx : a.eval x = .string s) (hv : a.eval v = .int .i64 e) (h : MapF Tryz.prog 9 w b n f)
    (hK : ∀ w', MapF Tryz.prog 9 w' b (n + 1) (Mp.put f s (.int .i64 e)) → w.grownBy w' (some b) → wpList Tryz.prog ops Q rest (a.put o.dst undef) w') : wpList Tryz.prog ops Q (o :: rest) a w :=
  wpList_store w hg m x v 128 9 3 hop Tryz.underlying9 Tryz.underlying128 b n f s hs hn _ hm hx hv h hK
theorem look_int (w : World) {ops : Array Oper} {rest : List Oper} {o : Oper} {a : Act} {Q : Exit → Act → World → Prop} (hg : o.guard = none) (m x : Operand) (b n : Nat) (f : Mp.Fn) (s : ByteArray) (hs : s.size ≤ maxLen) (hop : o.op = Op.lookup 128 m x true)
    (hm : a.eval m = .map (some b)) (hx : a.eval x = .string s) (h : MapF Tryz.prog 9 w b n f) (u : Value) (hu : (f s).getD (.int .i64 0) = u) (q : Bool) (hq : (f s).isSome = q)
    (hK : wpList Tryz.prog ops Q rest (a.put o.dst (.tuple #[u, .bool q])) w) : wpList Tryz.prog ops Q (o :: rest) a w := by
  subst hu hq
  exact wpList_look_ok w hg m x 128 9 3 hop Tryz.underlying9 Tryz.underlying128 zero_int b n f s hs hm hx h hK
end Go.Proofs.YtdanbnolbaelhaaGreatDoor

/- valid.finder.twice: names that were there. -/
namespace Go.Proofs.YtdanbnolbaelhaaGreatDoor
open Go.RowKit

set_option maxHeartbeats 4000000 in
set_option maxRecDepth 100000 in
theorem vdTwice_any (s : Src.S) (rv zv lv v : Value) (evs : List Value) (B g : Nat) (fl : List Vd.Fl) (w : World) (hF : Vd.Fd rv zv lv B g fl v w) (hR : Src.SrcR w B s rv zv lv evs) (hB : B ≤ g) (hL : Src.Lims s) (hsz : ∀ x ∈ Src.names s, x.size ≤ maxLen) (hfl : fl.length ≤ 100000) :
    Calls Tryz.prog 82 #[.pointer (some ⟨g, 0, none⟩)] w (Vd.Ret rv zv lv B g fl (Vd.tw (Src.names s)) v w) := by
  have hgl := hF.at_.lt
  obtain ⟨bm, hbm⟩ : ∃ b, w.heap.size = b := ⟨_, rfl⟩
  have hB1 := (Below.refl w.heap.size w).alloc (Nat.le_refl _) (.map #[] 0)
  have hF1 := hF.alloc (.map #[] 0)
  have hM1 := MapF.made (P := Tryz.prog) (k := 9) w
  obtain ⟨W1, hW1⟩ : ∃ W, w.alloc (.map #[] 0) = W := ⟨_, rfl⟩
  have hs1 : W1.heap.size = bm + 1 := by rw [← hW1, World.size_alloc, hbm]
  have hR1 := (hR.below (hB1.mono (by omega))).more (show B ≤ W1.heap.size by omega)
  rw [hW1] at hB1 hF1 hM1 hR1
  have hC := srcNames_own s rv zv lv evs W1 hR1 hL
  have hK1 := Vd.Kp.below (g := g) (v := v) hB1
  have hvl : ∀ j, v.ownBlock = some j → j < w.heap.size := fun j hj => (hF.row.lt j hj).2
  obtain ⟨l, hl⟩ : ∃ l, Src.names s = l := ⟨_, rfl⟩
  have hll : s.zones.length + s.links.length = l.length := by rw [← hl]; simp [Src.names, Src.zoneNames, Src.linkNames]
  have hln : l.length ≤ 6000 := by have := hL.zones; have := hL.links; omega
  rw [hl] at hsz hC ⊢
  rw [hll, hs1] at hC
  rw [hbm] at hM1 hgl hvl
  obtain ⟨n, hn⟩ : ∃ n, l.length = n := ⟨_, rfl⟩
  unfold Vd.tw
  rw [hn] at hC hln ⊢
  have a0 := hF1.at_.cell 0 _ rfl
  have a1 := hF1.at_.cell 1 _ rfl
  have a2 := hF1.at_.cell 2 _ rfl
  have HC := Lib.hid hC
  have HF := Lib.hid hF1
  have HM := Lib.hid hM1
  have HK := Lib.hid hK1
  have HSz := Lib.hid hsz
  have HVl := Lib.hid hvl
  have HN := Lib.hid hn
  have HS1 := Lib.hid hs1
  clear hF hR hB1 hF1 hM1 hR1 hC hK1 hvl hsz hl hll hn hs1
  have hmk := @run_makeMap Tryz.prog
  go_enter Tryz.func82, Tryz.ntmps82
  go_wp2_with fail
  refine HC.out.mono ?_
  rintro e w2 ⟨A, c, rfl, hb, _, _, hO⟩
  replace hb : Below W1.heap.size W1 w2 := by rw [HS1.out]; exact hb
  have hF2 := HF.out.kept hb
  have hK2 := HK.out.then_ hb
  have hM2 := HM.out.below hb
  have h0 : Vd.TwAt rv zv lv B g fl v w bm A n c l (.int .i64 0) w2 := ⟨⟨0, v, _, Nat.zero_le _, rfl, by rw [Vd.steps, List.append_nil]; exact hF2, hK2, hM2, Vd.Seen.nil, fun j hj => by
    have h1 := (hO.lt j hj).1
    exact ⟨by omega, fun e => by have := HVl.out j e; omega⟩⟩, hO⟩
  have H0 := Lib.hid h0
  clear hb hF2 hK2 hM2 hO h0 a0 a1 a2
  go_wp2_with fail
  go_loopw [14] (fun i wr => Vd.TwAt rv zv lv B g fl v w bm A n c l i wr) (fun i _ => n - (intOf i).toNat)
  case atStart => exact H0.out
  case round =>
    obtain ⟨⟨k, u, f, hk, rfl, hF, hK, hM, hS, hBs⟩, hO⟩ := hrel
    by_cases hlt : k < n
    · obtain ⟨x, hx⟩ : ∃ y, l[k]? = some y := ⟨_, List.getElem?_eq_getElem (by rw [HN.out]; exact hlt)⟩
      have hxs := HSz.out x (List.mem_of_getElem? hx)
      obtain ⟨ad, u1, rfl, hab, hu, hcu⟩ := (Reads.of_own hO).at_ hlt
      have hu2 : u1 = .string x := by
        rw [List.getElem?_map, hx] at hu
        exact (Option.some.inj hu).symm
      rw [hu2] at hcu
      have q1 : (0 : Int) ≤ (k : Int) := by omega
      have q2 : (k : Int) < (n : Int) := by omega
      have htk : l.take (k + 1) = l.take k ++ [x] := by rw [List.take_add_one, hx]; rfl
      have hst := Vd.steps_next (f := Vd.tw1 l) hx
      have hbn : k < maxLen := by unfold maxLen; omega
      have hle := Vd.tw_le l k
      have hmg := (hF.map_ne hM).1
      by_cases hin : x ∈ l.take k
      · rw [Vd.tw1_in hin] at hst
        have hq := hS.yes hin
        obtain ⟨u2, hu2⟩ : ∃ z, (f x).getD (.int .i64 0) = z := ⟨_, rfl⟩
        have hp := vdPut_any rv zv lv u B g _ 8 x wr hF (by rw [List.length_append]; omega) (by have := hK.size; omega)
        have hrw := hK.size
        have hnext : Hid (∀ e w2, Vd.PutRet rv zv lv B g (fl ++ Vd.steps (Vd.tw1 l) l k) (8, x) u wr e w2 → (∃ y, e = .returned y) ∧ Vd.TwAt rv zv lv B g fl v w bm (some ad) n c l (.int .i64 ((k : Int) + 1)) w2) := by
          rintro e w2 ⟨he, v2, hF2, hK2⟩
          have hM2 := hK2.map hM hmg (hF.map_ne hM).2
          obtain ⟨hO2, hBs2⟩ := hK2.row hO hBs
          refine ⟨he, ⟨k + 1, v2, f, by omega, by simp, ?_, hK.trans hK2, hM2.more (by omega), ?_, hBs2⟩, hO2⟩
          · rw [hst, ← List.append_assoc]
            exact hF2
          · rw [htk]
            exact hS.again hin
        have HP := Lib.hid hp
        have HM3 := Lib.hid hM
        clear hp hF hK hM hS hBs hO hu hx htk hst hin hmg hle
        go_wp2_with (first | (at_lookup; refine look_int _ rfl _ _ bm k f x hxs rfl rfl rfl HM3.out u2 hu2 true hq ?_))
        refine HP.out.mono ?_
        intro e w2 hpr
        obtain ⟨⟨y, rfl⟩, hN4⟩ := hnext.out e w2 hpr
        have HN5 := Lib.hid hN4
        clear hpr hN4 hq hu2
        go_wp2
        go_roundw
        case rel => exact HN5.out
        case measure => simp [intOf]; omega
      · rw [Vd.tw1_out hin, List.append_nil] at hst
        have hq := hS.no hin
        obtain ⟨u2, hu2⟩ : ∃ z, (f x).getD (.int .i64 0) = z := ⟨_, rfl⟩
        have hrw := hK.size
        have hnext : Hid (∀ w3, MapF Tryz.prog 9 w3 bm (k + 1) (Mp.put f x (.int .i64 (k : Int))) → wr.grownBy w3 (some bm) → Vd.TwAt rv zv lv B g fl v w bm (some ad) n c l (.int .i64 ((k : Int) + 1)) w3) := by
          refine fun w3 hM3 hg3 => ⟨⟨k + 1, u, _, by omega, by simp, ?_, hK.grown hg3 (by omega), hM3, ?_, hBs⟩, hO.kept hg3 (.inr (fun e => by have := (hO.lt bm e).1; omega))⟩
          · rw [hst]
            exact hF.grown hM hg3
          · rw [htk]
            exact hS.put _ _
        have HM3 := Lib.hid hM
        clear hF hK hM hS hBs hO hu hx htk hst hin hmg hle
        go_wp2_with (first | (at_lookup; refine look_int _ rfl _ _ bm k f x hxs rfl rfl rfl HM3.out u2 hu2 false hq ?_) | (at_mapUpdate; refine store_int _ rfl _ _ _ bm k f x hxs hbn (k : Int) rfl rfl rfl rfl HM3.out ?_; intro w3 hM5 hg5; have HN5 := Lib.hid (hnext.out w3 hM5 hg5); clear hM5 hg5))
        go_roundw
        case rel => exact HN5.out
        case measure => simp [intOf]; omega
    · have hkn : k = n := by omega
      subst hkn
      have q2 : ¬ (k : Int) < (k : Int) := by omega
      have HE : Hid (Vd.Ret rv zv lv B g fl (Vd.steps (Vd.tw1 l) l k) v w (.returned (.tuple #[])) wr) := ⟨⟨_, rfl⟩, u, hF, hK⟩
      clear hF hK hM hS hBs hO
      go_wp2
      refine bodyPost_ret (results_none rfl _ _ _) rfl ?_
      exact HE.out
end Go.Proofs.YtdanbnolbaelhaaGreatDoor
