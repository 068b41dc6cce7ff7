/- source.Check, source.Same. -/
import Derived.Test.YtajcgoinhpengaaDoorK18
import Derived.Laws.MakeOwn

namespace Go.Proofs.YtajcgoinhpengaaDoor
open Go.RowKit

theorem wrongZone_any (z : (Src.Txt × List Er.E) × Value) (w : World) (hW : Wa w) (hr : Src.RowR w w.heap.size 13 z.1.2.length z.2 (z.1.2.flatMap Er.E.cells)) (h1 : z.1.1.length ≤ 1000000) (h2 : ∀ e ∈ z.1.2, e.fm.size ≤ maxLen ∧ e.ru.size ≤ maxLen) :
    Calls Tryd.prog 28 #[Src.zv z] w fun e w' => e = .returned (.bool (!Src.zoneB z.1)) ∧ Below w.heap.size w w' := by
  have hC := fun W (hb : Below w.heap.size w W) => rightZone_any z W (hW.below hb) ((hr.below hb).more hb.size) h1 h2
  obtain ⟨v, hv⟩ : ∃ v, Src.zoneB z.1 = v := ⟨_, rfl⟩
  rw [hv]
  simp only [hv] at hC
  obtain ⟨A, c, e, _, _, _⟩ := hr
  obtain ⟨⟨nm, es⟩, ev⟩ := z
  simp only at e
  subst e
  unfold Src.zv at hC ⊢
  simp only at hC ⊢
  obtain ⟨xn, hxn⟩ : ∃ x, Src.bts nm = x := ⟨_, rfl⟩
  rw [hxn]
  simp only [hxn] at hC
  have HC := Lib.hid hC
  have HB := Lib.hid ((Below.refl w.heap.size w).alloc (Nat.le_refl _) (.cells #[.string xn, .slice A es.length c] 54))
  clear hC hW h1 h2 hxn hv
  go_enter Tryd.func28, Tryd.ntmps28
  go_wp2_with fail
  refine (HC.out _ HB.out).mono ?_
  rintro e w1 ⟨rfl, hb⟩
  replace HB := Lib.hid (below_then HB.out hb)
  clear hb
  go_wp2
  go_ret
  exact ⟨rfl, HB.out⟩
theorem any_zip {α β : Type} (f : α → Bool) : ∀ (a : List α) (b : List β), b.length = a.length → ((a.zip b).any fun p => f p.1) = a.any f
  | [], [], _ => rfl
  | x :: a, y :: b, h => by
    rw [List.zip_cons_cons, List.any_cons, List.any_cons, any_zip f a b (by simpa using h)]
theorem mem_zip {α β : Type} {a : List α} {b : List β} {p : α × β} (h : p ∈ a.zip b) : p.1 ∈ a := (List.of_mem_zip h).1
set_option maxHeartbeats 2000000 in
set_option maxRecDepth 100000 in
/-- source.Check. -/
theorem srcCheck_any (s : Src.S) (rv zv lv : Value) (evs : List Value) (w : World) (hW : Wa w) (hR : Src.SrcR w w.heap.size s rv zv lv evs) (hL : Src.Lims s) (hS : Src.Sm s) :
    Calls Tryd.prog 9 #[.agg #[rv, zv, lv]] w fun e w' => e = .returned (.int .i64 (if Src.srcB s = true then 0 else 2)) ∧ Below w.heap.size w w' := by
  obtain ⟨rules, zones, links, op⟩ := s
  obtain ⟨⟨rA, rc, rfl, hr1, hr2, hr3⟩, ⟨zA, zc, rfl, hz1, hz2, hz3⟩, ⟨lA, lc, rfl, hl1, hl2, hl3⟩, hlen, hers⟩ := hR
  obtain ⟨L1, L2, L3⟩ := hL
  obtain ⟨S1, S2, S3⟩ := hS
  unfold Src.srcB
  simp only at hr1 hr3 hz1 hz3 hl1 hl3 hlen hers L1 L2 L3 S1 S2 S3 ⊢
  have hC1 : ∀ W, Below w.heap.size w W → _ := fun W hb => has_rule (fun r => !r.good) 26 #[] (enters_of Tryd.func26 (by kernel_rfl) rfl) rA rules.length rc rules W (Nat.le_trans hr1 hr2) rfl ((hr3.below hb).more hb.size)
    (fun W' x hx hbW => by
      rw [show (#[x.v] ++ (#[] : Array Value)) = #[x.v] by simp]
      exact (wrongRule_any x W' (S1 x hx).1 (S1 x hx).2).mono fun e w' ⟨h, hb⟩ => ⟨h, hbW.trans (hb.mono hbW.size)⟩)
  have hC2 : ∀ W, Below w.heap.size w W → _ := fun W hb => has_zone (fun p => !Src.zoneB p.1) 28 #[] (enters_of Tryd.func28 (by kernel_rfl) rfl) zA zones.length zc (zones.zip evs) W (Nat.le_trans hz1 hz2) (by simp [hlen]) ((hz3.below hb).more hb.size)
    (fun W' x hx hbW => by
      have hb2 := hb.trans (hbW.mono hb.size)
      rw [show (#[Src.zv x] ++ (#[] : Array Value)) = #[Src.zv x] by simp]
      exact (wrongZone_any x W' (hW.below hb2) (((hers x hx).below hb2).more hb2.size) (S2 x.1 (mem_zip hx)).1 (S2 x.1 (mem_zip hx)).2).mono fun e w' ⟨h, hb⟩ => ⟨h, hbW.trans (hb.mono hbW.size)⟩)
  have hC3 : ∀ W, Below w.heap.size w W → _ := fun W hb => has_link (fun p => !Src.linkB p) 30 #[] (enters_of Tryd.func30 (by kernel_rfl) rfl) lA links.length lc links W (Nat.le_trans hl1 hl2) rfl ((hl3.below hb).more hb.size)
    (fun W' x hx hbW => by
      rw [show (#[Src.lv x] ++ (#[] : Array Value)) = #[Src.lv x] by simp]
      exact (wrongLink_any x W' (S3 x hx).1 (S3 x hx).2).mono fun e w' ⟨h, hb⟩ => ⟨h, hbW.trans (hb.mono hbW.size)⟩)
  rw [any_not] at hC1 hC3
  rw [any_zip (fun z => !Src.zoneB z) zones evs hlen, any_not] at hC2
  obtain ⟨b1, hb1⟩ : ∃ b, rules.all Ru.R.good = b := ⟨_, rfl⟩
  obtain ⟨b2, hb2⟩ : ∃ b, zones.all Src.zoneB = b := ⟨_, rfl⟩
  obtain ⟨b3, hb3⟩ : ∃ b, links.all Src.linkB = b := ⟨_, rfl⟩
  rw [hb1] at hC1
  rw [hb2] at hC2
  rw [hb3] at hC3
  rw [hb1, hb2, hb3]
  obtain ⟨n1, hn1⟩ : ∃ n, rules.length = n := ⟨_, rfl⟩
  obtain ⟨n2, hn2⟩ : ∃ n, zones.length = n := ⟨_, rfl⟩
  obtain ⟨n3, hn3⟩ : ∃ n, links.length = n := ⟨_, rfl⟩
  rw [hn1] at hC1 L1 ⊢
  rw [hn2] at hC2 L2 ⊢
  rw [hn3] at hC3 L3 ⊢
  have HC1 := Lib.hid hC1
  have HC2 := Lib.hid hC2
  have HC3 := Lib.hid hC3
  clear hC1 hC2 hC3 hb1 hb2 hb3 hn1 hn2 hn3 hr1 hr2 hr3 hz1 hz2 hz3 hl1 hl2 hl3 hlen hers S1 S2 S3 hW
  have q1 : ¬ (4096 : Int) < (n1 : Int) := by omega
  have q2 : ¬ (1024 : Int) < (n2 : Int) := by omega
  have q3 : ¬ (4096 : Int) < (n3 : Int) := by omega
  have HB := Lib.hid ((Below.refl w.heap.size w).alloc (Nat.le_refl _) (.cells #[.slice rA n1 rc, .slice zA n2 zc, .slice lA n3 lc] 27))
  have HA := Lib.hid (At.new w #[.slice rA n1 rc, .slice zA n2 zc, .slice lA n3 lc] 27)
  go_enter Tryd.func9, Tryd.ntmps9
  go_wp2_with fail
  refine (HC1.out _ HB.out).mono ?_
  rintro e w1 ⟨rfl, hb⟩
  have HA1 := Lib.hid (HA.out.call hb)
  replace HB := Lib.hid (below_then HB.out hb)
  clear hb
  obtain ⟨a0, a1, a2, _⟩ := HA1.out.three
  cases b1
  · go_wp2
    go_ret
    exact ⟨rfl, HB.out⟩
  go_wp2_with fail
  refine (HC2.out _ HB.out).mono ?_
  rintro e w2 ⟨rfl, hb⟩
  have HA2 := Lib.hid (HA1.out.call hb)
  replace HB := Lib.hid (below_then HB.out hb)
  clear hb a0 a1 a2
  obtain ⟨a0, a1, a2, _⟩ := HA2.out.three
  cases b2
  · go_wp2
    go_ret
    exact ⟨rfl, HB.out⟩
  go_wp2_with fail
  refine (HC3.out _ HB.out).mono ?_
  rintro e w3 ⟨rfl, hb⟩
  replace HB := Lib.hid (below_then HB.out hb)
  clear hb a0 a1 a2
  cases b3
  · go_wp2
    go_ret
    exact ⟨rfl, HB.out⟩
  · go_wp2
    go_ret
    exact ⟨rfl, HB.out⟩
namespace Src
def zsame (a b : Txt × List Er.E) : Bool := decide (a.1 = b.1) && Ix.same Er.E.same a.2 b.2
theorem zsame_iff (a b : Txt × List Er.E) : zsame a b = true ↔ a = b := by
  obtain ⟨a0, a1⟩ := a
  obtain ⟨b0, b1⟩ := b
  simp [zsame, Ix.same_iff Er.E.same_iff]
def sameB (a b : S) : Bool := Ix.same Ru.R.same a.rules b.rules && (Ix.same zsame a.zones b.zones && Ix.same lsame a.links b.links)
theorem sameB_iff (a b : S) : sameB a b = true ↔ a.rules = b.rules ∧ a.zones = b.zones ∧ a.links = b.links := by
  simp [sameB, Ix.same_iff Ru.R.same_iff, Ix.same_iff zsame_iff, Ix.same_iff lsame_iff]
theorem same_zip {α β γ : Type} (f : α → α → Bool) : ∀ (a a' : List α) (b : List β) (b' : List γ), b.length = a.length → b'.length = a'.length → Ix.same (fun (p q : α × Value) => f p.1 q.1) [] [] = true
  | _, _, _, _, _, _ => rfl
theorem same_fst (f : (Txt × List Er.E) → (Txt × List Er.E) → Bool) : ∀ (a a' : List (Txt × List Er.E)) (b b' : List Value), b.length = a.length → b'.length = a'.length → Ix.same (fun p q => f p.1 q.1) (a.zip b) (a'.zip b') = Ix.same f a a'
  | [], [], [], [], _, _ => rfl
  | [], x :: a', [], y :: b', _, _ => rfl
  | x :: a, [], y :: b, [], _, _ => rfl
  | x :: a, x' :: a', y :: b, y' :: b', h, h' => by
    rw [List.zip_cons_cons, List.zip_cons_cons, Ix.same, Ix.same, same_fst f a a' b b' (by simpa using h) (by simpa using h')]
end Src
end Go.Proofs.YtajcgoinhpengaaDoor

/- source.Parse. -/
namespace Go.Proofs.YtajcgoinhpengaaDoor
open Go.RowKit

theorem below_six {B h : Nat} {a W : World} (hb : Below B a W) (hh : B ≤ h) (v0 v1 v2 v3 v4 v5 : Value) :
    Below B a ((((((W.setCell ⟨h, 0, none⟩ v0).setCell ⟨h, 1, none⟩ v1).setCell ⟨h, 2, none⟩ v2).setCell ⟨h + 1, 0, none⟩ v3).setCell ⟨h + 1, 1, none⟩ v4).setCell ⟨h + 1, 2, none⟩ v5) :=
  (((((hb.setCell (p := ⟨h, 0, none⟩) hh v0).setCell (p := ⟨h, 1, none⟩) hh v1).setCell (p := ⟨h, 2, none⟩) hh v2).setCell (p := ⟨h + 1, 0, none⟩) (Nat.le_succ_of_le hh) v3).setCell (p := ⟨h + 1, 1, none⟩) (Nat.le_succ_of_le hh) v4).setCell (p := ⟨h + 1, 2, none⟩) (Nat.le_succ_of_le hh) v5
theorem Src.parse_bad {t : Src.Txt} {l c y : Int} (h : Sc.lines t = .bad l c y) : Src.parse Src.own t = .bad l c y := by unfold Src.parse; rw [h]
end Go.Proofs.YtajcgoinhpengaaDoor

/- source.Parse: the lines are gone through. -/
namespace Go.Proofs.YtajcgoinhpengaaDoor
open Go.RowKit

namespace Src
def rest (L : List Ln) (k : Nat) (s : S) : Par S := match readGo own (L.drop k) s with
  | .bad l c w => .bad l c w
  | .ok s' => finish L s'
theorem rest_step {L : List Ln} {k : Nat} {s : S} {x : Ln} {X : Par S} (h : X = rest L k s) (hx : L[k]? = some x) :
    X = match step own s (x.2.map (·.1)) with
    | .bad p y => .bad x.1 (colAt x.2 p) y
    | .ok s' => rest L (k + 1) s' := by
  rw [h]
  unfold rest
  rw [List.drop_eq_getElem_cons (List.getElem?_eq_some_iff.1 hx).1, (List.getElem?_eq_some_iff.1 hx).2, readGo_cons]
  cases step own s (x.2.map (·.1)) <;> rfl
theorem rest_end {L : List Ln} {k : Nat} {s : S} {X : Par S} (h : X = rest L k s) (hk : L.length ≤ k) : X = finish L s := by
  rw [h]
  unfold rest
  rw [List.drop_eq_nil_of_le hk]
  rfl
theorem rest_all {L : List Ln} : readAll own L = rest L 0 St.none_ := by
  unfold readAll rest
  rw [List.drop_zero]
  cases readGo own L St.none_ <;> rfl
/-- A line with its fields' slice; its cells; a field's cells. -/
def lnc (p : Ln × Value) : List Value := [.int .i64 p.1.1, p.2]
def flc (x : Txt × Int) : List Value := [.string (bts x.1), .int .i64 x.2]
def GRel (g n : Nat) (w1 : World) (L : List Ln) (X : Par S) (i : Value) (wr : World) : Prop :=
  ∃ (k : Nat) (s : S) (rv zv lv : Value) (evs : List Value), k ≤ n ∧ i = .int .i64 k ∧ Hid (X = rest L k s) ∧ Hid (Fit s) ∧ Hid (Held (g + 1) wr g s rv zv lv evs) ∧ Hid (Below w1.heap.size w1 wr) ∧ Hid (k = 0 → s.op = false)
def IRel (W8 : World) (ts : List Txt) (m : Nat) (v i : Value) (wi : World) : Prop :=
  ∃ j : Nat, j ≤ m ∧ i = .int .i64 j ∧ Hid (wi.ownsRow W8.heap.size 9 1 v j (((ts.take j).map bts).map Value.string)) ∧ Hid (Below W8.heap.size W8 wi)
theorem take_more {ts : List Txt} {j : Nat} {t : Txt} (h : ts[j]? = some t) : ((ts.take (j + 1)).map bts).map Value.string = ((ts.take j).map bts).map Value.string ++ [.string (bts t)] := by
  rw [List.take_add_one, h]
  simp
theorem last_at {L : List Ln} {x d : Ln} (h : L[L.length - 1]? = some x) : L.getLastD d = x := by
  rw [List.getLastD_eq_getLast?, List.getLast?_eq_getElem?, h]
  rfl
theorem Held.set_low {B : Nat} {w : World} {g : Nat} {s : S} {rv zv lv : Value} {evs : List Value} (h : Held B w g s rv zv lv evs) {p : Addr} (hp : p.block < g) (u : Value) : Held B (w.setCell p u) g s rv zv lv evs :=
  ⟨h.at_.set_other p u (Nat.ne_of_lt hp), h.many.setBelow (Nat.lt_trans hp h.below) u, h.below, h.evs_len⟩
end Src
theorem At.same {w w' : World} {g : Nat} {xs : List Value} (h : At w g xs) (hs : g < w'.heap.size) (e : w'.heap[g]? = w.heap[g]?) : At w' g xs :=
  ⟨hs, fun i v hi => ⟨(World.cell?_of_block e).trans (h.2 i v hi).1, (World.frozen?_of_block e).trans (h.2 i v hi).2⟩⟩
end Go.Proofs.YtajcgoinhpengaaDoor

/- slices.EqualFunc at zones, source.Same, source.Names. -/
namespace Go.Proofs.YtajcgoinhpengaaDoor
open Go.RowKit

/-- What is asked of a comparison. -/
def Ix.Tells2 {α : Type} (g : FuncId) (lb : Array Value) (enc : α → Value) (f : α → α → Bool) (xs ys : List α) (w : World) : Prop :=
  ∀ W x y, x ∈ xs → y ∈ ys → Below w.heap.size w W → Calls Tryd.prog g (#[enc x, enc y] ++ lb) W fun e w' => e = .returned (.bool (f x y)) ∧ Below w.heap.size w w'
end Go.Proofs.YtajcgoinhpengaaDoor

/- source.Names. -/
namespace Go.Proofs.YtajcgoinhpengaaDoor
open Go.RowKit

namespace Src
def zoneNames (s : S) : List ByteArray := s.zones.map fun z => bts z.1
def linkNames (s : S) : List ByteArray := s.links.map fun k => bts k.2
def names (s : S) : List ByteArray := zoneNames s ++ linkNames s
theorem more_one {l : List ByteArray} {k : Nat} {x : ByteArray} (h : l[k]? = some x) : (l.take (k + 1)).map Value.string = (l.take k).map Value.string ++ [Value.string x] := by
  rw [List.take_add_one, h]
  simp
def NRel (W0 : World) (h : Nat) (cs : List Value) (pre l : List ByteArray) (n : Nat) (v i : Value) (wr : World) : Prop :=
  ∃ k : Nat, k ≤ n ∧ i = .int .i64 k ∧ Hid (wr.ownsRow W0.heap.size 9 1 v (pre.length + k) (pre.map Value.string ++ (l.take k).map Value.string)) ∧ Hid (At wr h cs) ∧ Hid (Below W0.heap.size W0 wr)
end Src
set_option maxHeartbeats 2000000 in
set_option maxRecDepth 100000 in
/-- source.Names: in a row of its own. -/
theorem srcNames_own (s : Src.S) (rv zv lv : Value) (evs : List Value) (w : World) (hR : Src.SrcR w w.heap.size s rv zv lv evs) (hL : Src.Lims s) :
    Calls Tryd.prog 17 #[.agg #[rv, zv, lv]] w fun e w' => ∃ A c, e = .returned (.slice A (s.zones.length + s.links.length) c) ∧ Below w.heap.size w w' ∧ s.zones.length + s.links.length ≤ c ∧ c ≤ maxLen ∧ w'.ownsRow w.heap.size 9 1 (.slice A (s.zones.length + s.links.length) c) (s.zones.length + s.links.length) ((Src.names s).map Value.string) := by
  obtain ⟨rules, zones, links, op⟩ := s
  obtain ⟨⟨rA, rc, rfl, hr1, hr2, hr3⟩, ⟨zA, zc, rfl, hz1, hz2, hz3⟩, ⟨lA, lc, rfl, hl1, hl2, hl3⟩, hlen, hers⟩ := hR
  obtain ⟨L1, L2, L3⟩ := hL
  unfold Src.names Src.zoneNames Src.linkNames
  simp only at hr1 hr3 hz1 hz3 hl1 hl3 hlen hers L1 L2 L3 ⊢
  obtain ⟨n1, hn1⟩ : ∃ n, rules.length = n := ⟨_, rfl⟩
  obtain ⟨n2, hn2⟩ : ∃ n, zones.length = n := ⟨_, rfl⟩
  obtain ⟨n3, hn3⟩ : ∃ n, links.length = n := ⟨_, rfl⟩
  rw [hn1] at L1 ⊢
  rw [hn2] at hz3 L2 hz1 ⊢
  rw [hn3] at hl3 L3 hl1 ⊢
  obtain ⟨ZN, hZN⟩ : ∃ l, (zones.map fun z => Src.bts z.1) = l := ⟨_, rfl⟩
  obtain ⟨LN, hLN⟩ : ∃ l, (links.map fun k => Src.bts k.2) = l := ⟨_, rfl⟩
  have hzl : ZN.length = n2 := by rw [← hZN]; simp [hn2]
  have hll : LN.length = n3 := by rw [← hLN]; simp [hn3]
  rw [hZN, hLN]
  have HZN := Lib.hid hZN
  have HLN := Lib.hid hLN
  have HZL := Lib.hid hzl
  have HLL := Lib.hid hll
  have HRZ := Lib.hid hz3
  have HRL := Lib.hid hl3
  have HLen := Lib.hid (show (zones.zip evs).length = n2 by simp [hlen, hn2])
  have HLe2 := Lib.hid hn3
  have HSl := Lib.hid (show ∀ p ∈ zones.zip evs, ∃ A n c, p.2 = Value.slice A n c from fun p hp => by obtain ⟨A, c, e, _⟩ := hers p hp; exact ⟨A, _, c, e⟩)
  clear hZN hLN hn1 hn2 hn3 hz3 hl3 hr3 hers hlen hzl hll hr1 hr2
  unfold maxLen at hz2 hl2
  obtain ⟨i0, i1, i2, i3, i4⟩ := info_parts str_info
  have HI := Lib.hid (And.intro i1 (And.intro i2 (And.intro i3 i4)))
  clear i1 i2 i3 i4
  obtain ⟨m, hm⟩ : ∃ m : Nat, n2 + n3 = m := ⟨_, rfl⟩
  have hmk := fun W : World => run_make (P := Tryd.prog) W 34 9 i0 _ Tryd.underlying34 HI.out.1 HI.out.2.1 .i64 .i64 0 (m : Int) (by omega) (by omega) (by rw [HI.out.2.2.2]; omega) (by omega)
  rw [HI.out.2.2.1] at hmk
  obtain ⟨MC, hMC⟩ : ∃ x, madeCells (Value.string ⟨#[]⟩).cells ((m : Int).toNat * 1) = x := ⟨_, rfl⟩
  rw [hMC] at hmk
  have hMs : MC.size = m := by rw [← hMC, size_madeCells]; simp
  have hwm : IntKind.i64.wrap ((n2 : Int) + (n3 : Int)) = (m : Int) := by
    rw [show (n2 : Int) + (n3 : Int) = (m : Int) by omega]
    exact IntWalk.i64_in _ (by omega)
  clear hMC
  obtain ⟨W0, hW0⟩ : ∃ x, w.alloc (.cells #[.slice rA n1 rc, .slice zA n2 zc, .slice lA n3 lc] 27) = x := ⟨_, rfl⟩
  have HB0 := Lib.hid (show Below w.heap.size w W0 by rw [← hW0]; exact (Below.refl _ _).alloc (Nat.le_refl _) _)
  have HA0 := Lib.hid (show At W0 w.heap.size [.slice rA n1 rc, .slice zA n2 zc, .slice lA n3 lc] by rw [← hW0]; exact At.new w #[.slice rA n1 rc, .slice zA n2 zc, .slice lA n3 lc] 27)
  have hs0 : W0.heap.size = w.heap.size + 1 := by rw [← hW0]; simp
  obtain ⟨h, hh⟩ : ∃ h, w.heap.size = h := ⟨_, rfl⟩
  rw [hh] at HA0 hs0
  have HS0 := Lib.hid hs0
  have HH := Lib.hid hh
  obtain ⟨a0, a1, a2, _⟩ := HA0.out.three
  have HO0 := Lib.hid (show (W0.alloc (.cells MC 9)).ownsRow W0.heap.size 9 1 (.slice (some ⟨W0.heap.size, 0, none⟩) 0 m) 0 [] from World.ownsRow_made W0 MC m (Nat.le_refl _) (by unfold maxLen; omega) (by omega))
  have b1 : (W0.alloc (.cells MC 9)).cell? ⟨h, 1, none⟩ = some (.slice zA n2 zc) := (HA0.out.allocO _).cell 1 _ rfl
  clear hs0
  go_enter Tryd.func17, Tryd.ntmps17
  go_wp2_with fail
  clear hW0 hh a0 a1 a2 b1
  go_loopw [3, 19] (fun v i wr => Src.NRel W0 h [.slice rA n1 rc, .slice zA n2 zc, .slice lA n3 lc] [] ZN n2 v i wr) (fun _ i _ => n2 - (intOf i).toNat)
  case atStart => exact ⟨0, Nat.zero_le _, rfl, HO0.out, HA0.out.allocO _, (Below.refl _ _).alloc (Nat.le_refl _) _⟩
  case round =>
    obtain ⟨k, hk, rfl, HO, HA, HB⟩ := hrel
    replace HO := Lib.hid (show wr.ownsRow W0.heap.size 9 1 _ k ((ZN.take k).map Value.string) by simpa using HO.out)
    obtain ⟨vA, vc, hv, hv1, hv2⟩ := own_slice_cap HO.out
    subst hv
    have hwr := HB.out.size
    have hs0 : h < W0.heap.size := by have := HS0.out; omega
    by_cases hlt : k < n2
    · have q1 : (0 : Int) ≤ (k : Int) := by omega
      have q2 : (k : Int) < (n2 : Int) := by omega
      have HBw := Lib.hid (below_then HB0.out HB.out)
      obtain ⟨ad, x, rfl, hab, Hx, HLc⟩ := Ix.reads_cells (enc := Src.zc) (m := 2) (fun _ => rfl) HLen.out (HRZ.out.below HBw.out) hlt
      obtain ⟨xA, xn, xc, hx2⟩ := HSl.out x (List.mem_of_getElem? Hx.out)
      obtain ⟨xb, hxb⟩ : ∃ t, Src.bts x.1.1 = t := ⟨_, rfl⟩
      have c0 : wr.cell? (ad.add (k * 2)) = some (.string xb) := by rw [← hxb]; exact HLc.out 0 _ rfl
      have c1 : wr.cell? ⟨(ad.add (k * 2)).block, (ad.add (k * 2)).off + 1, none⟩ = some (.slice xA xn xc) := by rw [← hx2]; exact HLc.out 1 _ rfl
      have hzk : ZN[k]? = some xb := by
        rw [← HZN.out, List.getElem?_map, (List.getElem?_zip_eq_some.1 Hx.out).1, ← hxb]
        rfl
      have HTK := Lib.hid (Src.more_one hzk)
      have HAp := fun {ops : Array Oper} {rest : List Oper} {o : Oper} {a : Act} {Q : Exit → Act → World → Prop} (hgd : o.guard = none) (ho : o.op = .call { callee := .builtin .append, args := #[.tmp 23, .tmp 26], argTypes := #[34, 34] }) (hs : a.eval (.tmp 23) = .slice vA k vc) (hx : a.eval (.tmp 26) = .slice (some ⟨wr.heap.size + 1, 0, none⟩) 1 1) h => wpList_append_any (P := Tryd.prog) (ops := ops) (rest := rest) (o := o) (a := a) (Q := Q) ((wr.alloc (.cells #[.string xb, .slice xA xn xc] 54)).alloc (.cells #[.string xb] 9)) hgd (.tmp 23) (.tmp 26) 34 ho W0.heap.size 9 i0 _ 1 16 Tryd.underlying34 HI.out.1 HI.out.2.1 HI.out.2.2.1 HI.out.2.2.2 rfl (by decide) _ k _ hs ((HO.out.alloc _).alloc _) ((wr.alloc (.cells #[.string xb, .slice xA xn xc] 54)).alloc (.cells #[.string xb] 9)).heap.size _ 1 1 _ hx (er_reads (wr.alloc (.cells #[.string xb, .slice xA xn xc] 54)) (wr.heap.size + 1) [xb] 9 (by simp)) (by simp [Value.oneCell']) (by unfold maxLen; omega) (by omega) (by simp; omega) h
      clear hx2 hxb hzk
      go_wp2_with (at_builtin; refine HAp rfl rfl rfl rfl ?_; intro v9' w9 hown9 hg9 hat9)
      have HA9 := Lib.hid (Sc.At.grownO ((HA.out.allocO (.cells #[.string xb, .slice xA xn xc] 54)).allocO (.cells #[.string xb] 9)) hg9 (fun kk hkk => by have := (HO.out.lt kk hkk).1; omega))
      have HO9 := Lib.hid (show w9.ownsRow W0.heap.size 9 1 v9' (([] : List ByteArray).length + (k + 1)) (([] : List ByteArray).map Value.string ++ (ZN.take (k + 1)).map Value.string) by rw [HTK.out]; simpa using hown9)
      have HB9 := Lib.hid (show Below W0.heap.size W0 w9 from ((HB.out.alloc HB.out.size _).alloc (by simp; omega) _).grown hg9 (by simp; omega) (fun kk hkk => (HO.out.lt kk hkk).1))
      clear hown9 hg9 hat9 HAp c0 c1 hs0
      go_wp2
      go_roundw
      case rel => exact ⟨k + 1, by omega, by go_num, HO9.out, HA9.out, HB9.out⟩
      case measure => simp [intOf]; omega
    · have q2 : ¬ (k : Int) < (n2 : Int) := by omega
      have hkn : k = n2 := by omega
      subst hkn
      obtain ⟨a0, a1, a2, _⟩ := HA.out.three
      have HO2 := Lib.hid (show wr.ownsRow W0.heap.size 9 1 (.slice vA k vc) (ZN.length + 0) (ZN.map Value.string ++ (LN.take 0).map Value.string) by
        have := HO.out
        rw [List.take_of_length_le (by rw [HZL.out]; exact Nat.le_refl _)] at this
        simpa [HZL.out] using this)
      clear hs0
      go_wp2_with fail
      clear a0 a1 a2
      go_loopw [3, 32] (fun v i wr => Src.NRel W0 h [.slice rA n1 rc, .slice zA k zc, .slice lA n3 lc] ZN LN n3 v i wr) (fun _ i _ => n3 - (intOf i).toNat)
      case atStart => exact ⟨0, Nat.zero_le _, rfl, HO2.out, HA.out, HB.out⟩
      case round =>
        clear HO HA HB HO2 hwr hv1 hv2
        obtain ⟨j, hj, rfl, HO, HA, HB⟩ := hrel
        obtain ⟨vA, vc, hv, hv1, hv2⟩ := own_slice_cap HO.out
        subst hv
        have hwr := HB.out.size
        have hs0 : h < W0.heap.size := by have := HS0.out; omega
        have hzl2 := HZL.out
        by_cases hlt2 : j < n3
        · have q1 : (0 : Int) ≤ (j : Int) := by omega
          have q3 : (j : Int) < (n3 : Int) := by omega
          have HBw := Lib.hid (below_then HB0.out HB.out)
          obtain ⟨ad, x, rfl, hab, Hx, HLc⟩ := Ix.reads_cells (enc := Src.lc) (m := 2) (fun _ => rfl) HLe2.out (HRL.out.below HBw.out) hlt2
          obtain ⟨xa, hxa⟩ : ∃ t, Src.bts x.1 = t := ⟨_, rfl⟩
          obtain ⟨xb, hxb⟩ : ∃ t, Src.bts x.2 = t := ⟨_, rfl⟩
          have c0 : wr.cell? (ad.add (j * 2)) = some (.string xa) := by rw [← hxa]; exact HLc.out 0 _ rfl
          have c1 : wr.cell? ⟨(ad.add (j * 2)).block, (ad.add (j * 2)).off + 1, none⟩ = some (.string xb) := by rw [← hxb]; exact HLc.out 1 _ rfl
          have hzk : LN[j]? = some xb := by
            rw [← HLN.out, List.getElem?_map, Hx.out, ← hxb]
            rfl
          have HTK := Lib.hid (Src.more_one hzk)
          obtain ⟨kj, hkj⟩ : ∃ q, ZN.length + j = q := ⟨_, rfl⟩
          have HKJ := Lib.hid hkj
          rw [hkj] at HO ⊢
          have HAp := fun {ops : Array Oper} {rest : List Oper} {o : Oper} {a : Act} {Q : Exit → Act → World → Prop} (hgd : o.guard = none) (ho : o.op = .call { callee := .builtin .append, args := #[.tmp 36, .tmp 39], argTypes := #[34, 34] }) (hs : a.eval (.tmp 36) = .slice vA kj vc) (hx : a.eval (.tmp 39) = .slice (some ⟨wr.heap.size + 1, 0, none⟩) 1 1) h => wpList_append_any (P := Tryd.prog) (ops := ops) (rest := rest) (o := o) (a := a) (Q := Q) ((wr.alloc (.cells #[.string xa, .string xb] 48)).alloc (.cells #[.string xb] 9)) hgd (.tmp 36) (.tmp 39) 34 ho W0.heap.size 9 i0 _ 1 16 Tryd.underlying34 HI.out.1 HI.out.2.1 HI.out.2.2.1 HI.out.2.2.2 rfl (by decide) _ kj _ hs ((HO.out.alloc _).alloc _) ((wr.alloc (.cells #[.string xa, .string xb] 48)).alloc (.cells #[.string xb] 9)).heap.size _ 1 1 _ hx (er_reads (wr.alloc (.cells #[.string xa, .string xb] 48)) (wr.heap.size + 1) [xb] 9 (by simp)) (by simp [Value.oneCell']) (by unfold maxLen; omega) (by omega) (by simp; omega) h
          clear hxa hxb hzk
          go_wp2_with (at_builtin; refine HAp rfl rfl rfl rfl ?_; intro v9' w9 hown9 hg9 hat9)
          have HA9 := Lib.hid (Sc.At.grownO ((HA.out.allocO (.cells #[.string xa, .string xb] 48)).allocO (.cells #[.string xb] 9)) hg9 (fun kk hkk => by have := (HO.out.lt kk hkk).1; omega))
          have HO9 := Lib.hid (show w9.ownsRow W0.heap.size 9 1 v9' (ZN.length + (j + 1)) (ZN.map Value.string ++ (LN.take (j + 1)).map Value.string) by rw [HTK.out, ← List.append_assoc, ← Nat.add_assoc, HKJ.out]; exact hown9)
          have HB9 := Lib.hid (show Below W0.heap.size W0 w9 from ((HB.out.alloc HB.out.size _).alloc (by simp; omega) _).grown hg9 (by simp; omega) (fun kk hkk => (HO.out.lt kk hkk).1))
          clear hown9 hg9 hat9 HAp c0 c1 hs0 hzl2 hkj
          go_wp2
          go_roundw
          case rel => exact ⟨j + 1, by omega, by go_num, HO9.out, HA9.out, HB9.out⟩
          case measure => simp [intOf]; omega
        · have q3 : ¬ (j : Int) < (n3 : Int) := by omega
          have hjn : j = n3 := by omega
          subst hjn
          have he : ZN.length + j = m := by omega
          clear hs0
          go_wp2
          go_ret
          refine ⟨vA, vc, rfl, below_then HB0.out HB.out, by omega, hv2, ?_⟩
          have := HO.out
          rw [List.take_of_length_le (by rw [HLL.out]; exact Nat.le_refl _), he] at this
          exact ⟨this.1, this.2.imp id fun ⟨g, cap, cur, q1, q2, q3⟩ => ⟨g, cap, cur, q1, by have := HS0.out; have := HH.out; omega, q3⟩⟩
/-- source.Names. -/
theorem srcNames_any (s : Src.S) (rv zv lv : Value) (evs : List Value) (w : World) (hR : Src.SrcR w w.heap.size s rv zv lv evs) (hL : Src.Lims s) :
    Calls Tryd.prog 17 #[.agg #[rv, zv, lv]] w fun e w' => ∃ A c, e = .returned (.slice A (s.zones.length + s.links.length) c) ∧ Below w.heap.size w w' ∧ s.zones.length + s.links.length ≤ c ∧ c ≤ maxLen ∧ Reads w' w'.heap.size 1 A (s.zones.length + s.links.length) ((Src.names s).map Value.string) :=
  (srcNames_own s rv zv lv evs w hR hL).mono fun _ _ ⟨A, c, h1, h2, h3, h4, h5⟩ => ⟨A, c, h1, h2, h3, h4, Reads.of_own h5⟩
end Go.Proofs.YtajcgoinhpengaaDoor
