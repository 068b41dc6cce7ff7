/- source.Check, source.Same. -/
import Derived.Test.YtlhoggalhjadgaaGreatDoorK29
import Derived.Test.YtlhoggalhjadgaaGreatDoorK28
import Derived.Laws.MakeOwn

namespace Go.Proofs.YtlhoggalhjadgaaGreatDoor
open Go.RowKit

theorem wrongZone_any (z : (Src.Txt × List Er.E) × Value) (w : World) (hW : Wa w) (hr : Src.RowR w w.heap.size 13 z.1.2.length z.2 (z.1.2.flatMap Er.E.cells)) (h1 : z.1.1.length ≤ 1000000) (h2 : ∀ e ∈ z.1.2, e.fm.size ≤ maxLen ∧ e.ru.size ≤ maxLen) :
    Calls Tryz.prog 22 #[Src.zv z] w fun e w' => e = .returned (.bool (!Src.zoneB z.1)) ∧ Below w.heap.size w w' := by
  have hC := fun W (hb : Below w.heap.size w W) => rightZone_any z W (hW.below hb) ((hr.below hb).more hb.size) h1 h2
  obtain ⟨v, hv⟩ : ∃ v, Src.zoneB z.1 = v := ⟨_, rfl⟩
  rw [hv]
  simp only [hv] at hC
  obtain ⟨A, c, e, _, _, _⟩ := hr
  obtain ⟨⟨nm, es⟩, ev⟩ := z
  simp only at e
  subst e
  unfold Src.zv at hC ⊢
  simp only at hC ⊢
  obtain ⟨xn, hxn⟩ : ∃ x, Src.bts nm = x := ⟨_, rfl⟩
  rw [hxn]
  simp only [hxn] at hC
  have HC := Lib.hid hC
  have HB := Lib.hid ((Below.refl w.heap.size w).alloc (Nat.le_refl _) (.cells #[.string xn, .slice A es.length c] 53))
  clear hC hW h1 h2 hxn hv
  go_enter Tryz.func22, Tryz.ntmps22
  go_wp2_with fail
  refine (HC.out _ HB.out).mono ?_
  rintro e w1 ⟨rfl, hb⟩
  replace HB := Lib.hid (below_then HB.out hb)
  clear hb
  go_wp2
  go_ret
  exact ⟨rfl, HB.out⟩
theorem any_zip {α β : Type} (f : α → Bool) : ∀ (a : List α) (b : List β), b.length = a.length → ((a.zip b).any fun p => f p.1) = a.any f
  | [], [], _ => rfl
  | x :: a, y :: b, h => by
    rw [List.zip_cons_cons, List.any_cons, List.any_cons, any_zip f a b (by simpa using h)]
theorem mem_zip {α β : Type} {a : List α} {b : List β} {p : α × β} (h : p ∈ a.zip b) : p.1 ∈ a := (List.of_mem_zip h).1
set_option maxHeartbeats 2000000 in
set_option maxRecDepth 100000 in
/-- source.Check. -/
theorem srcCheck_any (s : Src.S) (rv zv lv : Value) (evs : List Value) (w : World) (hW : Wa w) (hR : Src.SrcR w w.heap.size s rv zv lv evs) (hL : Src.Lims s) (hS : Src.Sm s) :
    Calls Tryz.prog 9 #[.agg #[rv, zv, lv]] w fun e w' => e = .returned (.int .i64 (if Src.srcB s = true then 0 else 2)) ∧ Below w.heap.size w w' := by
  obtain ⟨rules, zones, links, op⟩ := s
  obtain ⟨⟨rA, rc, rfl, hr1, hr2, hr3⟩, ⟨zA, zc, rfl, hz1, hz2, hz3⟩, ⟨lA, lc, rfl, hl1, hl2, hl3⟩, hlen, hers⟩ := hR
  obtain ⟨L1, L2, L3⟩ := hL
  obtain ⟨S1, S2, S3⟩ := hS
  unfold Src.srcB
  simp only at hr1 hr3 hz1 hz3 hl1 hl3 hlen hers L1 L2 L3 S1 S2 S3 ⊢
  have hC1 : ∀ W, Below w.heap.size w W → _ := fun W hb => has_rule (fun r => !r.good) 20 #[] (enters_of Tryz.func20 (by kernel_rfl) rfl) rA rules.length rc rules W (Nat.le_trans hr1 hr2) rfl ((hr3.below hb).more hb.size)
    (fun W' x hx hbW => by
      rw [show (#[x.v] ++ (#[] : Array Value)) = #[x.v] by simp]
      exact (wrongRule_any x W' (S1 x hx).1 (S1 x hx).2).mono fun e w' ⟨h, hb⟩ => ⟨h, hbW.trans (hb.mono hbW.size)⟩)
  have hC2 : ∀ W, Below w.heap.size w W → _ := fun W hb => has_zone (fun p => !Src.zoneB p.1) 22 #[] (enters_of Tryz.func22 (by kernel_rfl) rfl) zA zones.length zc (zones.zip evs) W (Nat.le_trans hz1 hz2) (by simp [hlen]) ((hz3.below hb).more hb.size)
    (fun W' x hx hbW => by
      have hb2 := hb.trans (hbW.mono hb.size)
      rw [show (#[Src.zv x] ++ (#[] : Array Value)) = #[Src.zv x] by simp]
      exact (wrongZone_any x W' (hW.below hb2) (((hers x hx).below hb2).more hb2.size) (S2 x.1 (mem_zip hx)).1 (S2 x.1 (mem_zip hx)).2).mono fun e w' ⟨h, hb⟩ => ⟨h, hbW.trans (hb.mono hbW.size)⟩)
  have hC3 : ∀ W, Below w.heap.size w W → _ := fun W hb => has_link (fun p => !Src.linkB p) 24 #[] (enters_of Tryz.func24 (by kernel_rfl) rfl) lA links.length lc links W (Nat.le_trans hl1 hl2) rfl ((hl3.below hb).more hb.size)
    (fun W' x hx hbW => by
      rw [show (#[Src.lv x] ++ (#[] : Array Value)) = #[Src.lv x] by simp]
      exact (wrongLink_any x W' (S3 x hx).1 (S3 x hx).2).mono fun e w' ⟨h, hb⟩ => ⟨h, hbW.trans (hb.mono hbW.size)⟩)
  rw [any_not] at hC1 hC3
  rw [any_zip (fun z => !Src.zoneB z) zones evs hlen, any_not] at hC2
  obtain ⟨b1, hb1⟩ : ∃ b, rules.all Ru.R.good = b := ⟨_, rfl⟩
  obtain ⟨b2, hb2⟩ : ∃ b, zones.all Src.zoneB = b := ⟨_, rfl⟩
  obtain ⟨b3, hb3⟩ : ∃ b, links.all Src.linkB = b := ⟨_, rfl⟩
  rw [hb1] at hC1
  rw [hb2] at hC2
  rw [hb3] at hC3
  rw [hb1, hb2, hb3]
  obtain ⟨n1, hn1⟩ : ∃ n, rules.length = n := ⟨_, rfl⟩
  obtain ⟨n2, hn2⟩ : ∃ n, zones.length = n := ⟨_, rfl⟩
  obtain ⟨n3, hn3⟩ : ∃ n, links.length = n := ⟨_, rfl⟩
  rw [hn1] at hC1 L1 ⊢
  rw [hn2] at hC2 L2 ⊢
  rw [hn3] at hC3 L3 ⊢
  have HC1 := Lib.hid hC1
  have HC2 := Lib.hid hC2
  have HC3 := Lib.hid hC3
  clear hC1 hC2 hC3 hb1 hb2 hb3 hn1 hn2 hn3 hr1 hr2 hr3 hz1 hz2 hz3 hl1 hl2 hl3 hlen hers S1 S2 S3 hW
  have q1 : ¬ (4096 : Int) < (n1 : Int) := by omega
  have q2 : ¬ (1024 : Int) < (n2 : Int) := by omega
  have q3 : ¬ (4096 : Int) < (n3 : Int) := by omega
  have HB := Lib.hid ((Below.refl w.heap.size w).alloc (Nat.le_refl _) (.cells #[.slice rA n1 rc, .slice zA n2 zc, .slice lA n3 lc] 26))
  have HA := Lib.hid (At.new w #[.slice rA n1 rc, .slice zA n2 zc, .slice lA n3 lc] 26)
  go_enter Tryz.func9, Tryz.ntmps9
  go_wp2_with fail
  refine (HC1.out _ HB.out).mono ?_
  rintro e w1 ⟨rfl, hb⟩
  have HA1 := Lib.hid (HA.out.call hb)
  replace HB := Lib.hid (below_then HB.out hb)
  clear hb
  obtain ⟨a0, a1, a2, _⟩ := HA1.out.three
  cases b1
  · go_wp2
    go_ret
    exact ⟨rfl, HB.out⟩
  go_wp2_with fail
  refine (HC2.out _ HB.out).mono ?_
  rintro e w2 ⟨rfl, hb⟩
  have HA2 := Lib.hid (HA1.out.call hb)
  replace HB := Lib.hid (below_then HB.out hb)
  clear hb a0 a1 a2
  obtain ⟨a0, a1, a2, _⟩ := HA2.out.three
  cases b2
  · go_wp2
    go_ret
    exact ⟨rfl, HB.out⟩
  go_wp2_with fail
  refine (HC3.out _ HB.out).mono ?_
  rintro e w3 ⟨rfl, hb⟩
  replace HB := Lib.hid (below_then HB.out hb)
  clear hb a0 a1 a2
  cases b3
  · go_wp2
    go_ret
    exact ⟨rfl, HB.out⟩
  · go_wp2
    go_ret
    exact ⟨rfl, HB.out⟩
namespace Src
def zsame (a b : Txt × List Er.E) : Bool := decide (a.1 = b.1) && Ix.same Er.E.same a.2 b.2
theorem zsame_iff (a b : Txt × List Er.E) : zsame a b = true ↔ a = b := by
  obtain ⟨a0, a1⟩ := a
  obtain ⟨b0, b1⟩ := b
  simp [zsame, Ix.same_iff Er.E.same_iff]
def sameB (a b : S) : Bool := Ix.same Ru.R.same a.rules b.rules && (Ix.same zsame a.zones b.zones && Ix.same lsame a.links b.links)
theorem sameB_iff (a b : S) : sameB a b = true ↔ a.rules = b.rules ∧ a.zones = b.zones ∧ a.links = b.links := by
  simp [sameB, Ix.same_iff Ru.R.same_iff, Ix.same_iff zsame_iff, Ix.same_iff lsame_iff]
theorem same_zip {α β γ : Type} (f : α → α → Bool) : ∀ (a a' : List α) (b : List β) (b' : List γ), b.length = a.length → b'.length = a'.length → Ix.same (fun (p q : α × Value) => f p.1 q.1) [] [] = true
  | _, _, _, _, _, _ => rfl
theorem same_fst (f : (Txt × List Er.E) → (Txt × List Er.E) → Bool) : ∀ (a a' : List (Txt × List Er.E)) (b b' : List Value), b.length = a.length → b'.length = a'.length → Ix.same (fun p q => f p.1 q.1) (a.zip b) (a'.zip b') = Ix.same f a a'
  | [], [], [], [], _, _ => rfl
  | [], x :: a', [], y :: b', _, _ => rfl
  | x :: a, [], y :: b, [], _, _ => rfl
  | x :: a, x' :: a', y :: b, y' :: b', h, h' => by
    rw [List.zip_cons_cons, List.zip_cons_cons, Ix.same, Ix.same, same_fst f a a' b b' (by simpa using h) (by simpa using h')]
end Src
set_option maxHeartbeats 1000000 in
theorem sameZone_any (p q : (Src.Txt × List Er.E) × Value) (w : World) (hp : Src.RowR w w.heap.size 13 p.1.2.length p.2 (p.1.2.flatMap Er.E.cells)) (hq : Src.RowR w w.heap.size 13 q.1.2.length q.2 (q.1.2.flatMap Er.E.cells)) :
    Calls Tryz.prog 31 #[Src.zv p, Src.zv q] w fun e w' => e = .returned (.bool (Src.zsame p.1 q.1)) ∧ Below w.heap.size w w' := by
  obtain ⟨⟨na, ea⟩, va⟩ := p
  obtain ⟨⟨nb, eb⟩, vb⟩ := q
  obtain ⟨A, c, e, h1, h2, h3⟩ := hp
  obtain ⟨A', c', e', h1', h2', h3'⟩ := hq
  simp only at e e' h1 h3 h1' h3'
  subst e e'
  have hC := fun W (hb : Below w.heap.size w W) => eqs_era A A' ea.length c eb.length c' ea eb W (Nat.le_trans h1 h2) (Nat.le_trans h1' h2') rfl rfl ((h3.below hb).more hb.size) ((h3'.below hb).more hb.size)
  unfold Src.zv Src.zsame
  simp only
  obtain ⟨X, hX⟩ : ∃ X, Ix.same Er.E.same ea eb = X := ⟨_, rfl⟩
  rw [hX]
  simp only [hX] at hC
  have hiff := Src.bts_iff na nb
  obtain ⟨xa, hxa⟩ : ∃ x, Src.bts na = x := ⟨_, rfl⟩
  obtain ⟨xb, hxb⟩ : ∃ x, Src.bts nb = x := ⟨_, rfl⟩
  rw [hxa, hxb] at hiff
  rw [hxa, hxb]
  obtain ⟨n1, hn1⟩ : ∃ n, ea.length = n := ⟨_, rfl⟩
  obtain ⟨n2, hn2⟩ : ∃ n, eb.length = n := ⟨_, rfl⟩
  simp only [hn1, hn2] at hC
  rw [hn1, hn2]
  have HC := Lib.hid hC
  clear hC h1 h2 h3 h1' h2' h3' hX hxa hxb hn1 hn2
  have HB := Lib.hid (((Below.refl w.heap.size w).alloc (Nat.le_refl _) (.cells #[.string xa, .slice A n1 c] 53)).alloc (by simp) (.cells #[.string xb, .slice A' n2 c'] 53))
  by_cases hne : na = nb
  · have hx := hiff.2 hne
    have b0 : (xa == xb) = true := by rw [hx, beq_toListBytes]; simp
    have b1 : (xa.toList == xb.toList) = true := by rw [hx]; simp
    have HX := Lib.hid hne
    clear hiff hne hx
    go_enter Tryz.func31, Tryz.ntmps31
    go_wp2_with fail
    refine (HC.out _ HB.out).mono ?_
    rintro e w1 ⟨rfl, hd⟩
    replace HB := Lib.hid (below_drew HB.out hd)
    clear hd
    go_wp2
    go_ret
    rw [decide_eq_true HX.out]
    exact ⟨by simp, HB.out⟩
  · have hx : ¬ xa = xb := fun e => hne (hiff.1 e)
    have b1 : (xa.toList == xb.toList) = false := by
      rw [beq_eq_false_iff_ne]
      intro e
      exact hx ((toList_eq_iff _ _).1 e)
    have b0 : (xa == xb) = false := by rw [beq_toListBytes]; exact b1
    have HX := Lib.hid hne
    clear hiff hne hx
    go_enter Tryz.func31, Tryz.ntmps31
    go_wp2
    go_ret
    rw [decide_eq_false HX.out]
    exact ⟨rfl, HB.out⟩
end Go.Proofs.YtlhoggalhjadgaaGreatDoor

/- source.Parse. -/
namespace Go.Proofs.YtlhoggalhjadgaaGreatDoor
open Go.RowKit

theorem below_six {B h : Nat} {a W : World} (hb : Below B a W) (hh : B ≤ h) (v0 v1 v2 v3 v4 v5 : Value) :
    Below B a ((((((W.setCell ⟨h, 0, none⟩ v0).setCell ⟨h, 1, none⟩ v1).setCell ⟨h, 2, none⟩ v2).setCell ⟨h + 1, 0, none⟩ v3).setCell ⟨h + 1, 1, none⟩ v4).setCell ⟨h + 1, 2, none⟩ v5) :=
  (((((hb.setCell (p := ⟨h, 0, none⟩) hh v0).setCell (p := ⟨h, 1, none⟩) hh v1).setCell (p := ⟨h, 2, none⟩) hh v2).setCell (p := ⟨h + 1, 0, none⟩) (Nat.le_succ_of_le hh) v3).setCell (p := ⟨h + 1, 1, none⟩) (Nat.le_succ_of_le hh) v4).setCell (p := ⟨h + 1, 2, none⟩) (Nat.le_succ_of_le hh) v5
theorem Src.parse_bad {t : Src.Txt} {l c y : Int} (h : Sc.lines t = .bad l c y) : Src.parse Src.own t = .bad l c y := by unfold Src.parse; rw [h]
set_option maxHeartbeats 1000000 in
set_option maxRecDepth 100000 in
theorem srcParse_bad (t : ByteArray) (w : World) (hW : Wq w) (hs : t.size ≤ maxLen) (l c y : Int) (hL : Sc.lines (tl t) = .bad l c y) :
    Calls Tryz.prog 10 #[.string t] w (Src.PRet w (.bad l c y)) := by
  have hl := fun W hw => lines_any t W hw hs
  rw [hL] at hl
  have HL := Lib.hid hl
  have HW := Lib.hid hW
  obtain ⟨w0, hw0⟩ : ∃ x, (w.alloc (.cells #[.slice none 0 0, .slice none 0 0, .slice none 0 0] 26)).alloc (.cells #[.int .i64 0, .int .i64 0, .int .i64 0] 34) = x := ⟨_, rfl⟩
  have HB0 := Lib.hid (show Below w.heap.size w w0 by rw [← hw0]; exact ((Below.refl _ _).alloc (Nat.le_refl _) _).alloc (by simp) _)
  have HA2 := Lib.hid (show At w0 w.heap.size [.slice none 0 0, .slice none 0 0, .slice none 0 0] by rw [← hw0]; exact (At.new w #[.slice none 0 0, .slice none 0 0, .slice none 0 0] 26).allocO _)
  have HA3 := Lib.hid (show At w0 (w.heap.size + 1) [.int .i64 0, .int .i64 0, .int .i64 0] by rw [← hw0]; have := At.new (w.alloc (.cells #[.slice none 0 0, .slice none 0 0, .slice none 0 0] 26)) #[.int .i64 0, .int .i64 0, .int .i64 0] 34; simpa using this)
  have hs0 : w0.heap.size = w.heap.size + 2 := by rw [← hw0]; simp
  obtain ⟨h2, hh2⟩ : ∃ h, w.heap.size = h := ⟨_, rfl⟩
  clear hl hW hL
  go_enter Tryz.func10, Tryz.ntmps10
  go_wp2_with fail
  clear hw0
  rw [hh2] at HA2 HA3 hs0
  refine (HL.out _ (HW.out.below HB0.out).p.l).mono ?_
  rintro e w1 ⟨hb, rfl, hy⟩
  have e1 : (y == 0) = false := by rw [beq_eq_false_iff_ne]; exact hy
  have HB1 := Lib.hid hb
  have HA2' := Lib.hid (HA2.out.call hb)
  have HA3' := Lib.hid (HA3.out.call hb)
  have hs1 := hb.size
  have HA5 := Lib.hid (At.new w1 #[.int .i64 l, .int .i64 c, .int .i64 y] 34)
  have HA2'' := Lib.hid (HA2'.out.alloc #[.int .i64 l, .int .i64 c, .int .i64 y] 34)
  have HA3'' := Lib.hid (HA3'.out.alloc #[.int .i64 l, .int .i64 c, .int .i64 y] 34)
  obtain ⟨h5, hh5⟩ : ∃ h, w1.heap.size = h := ⟨_, rfl⟩
  clear hb HA2 HA3 HA2' HA3'
  go_wp2_with fail
  rw [hh5] at HA5 hs1
  have HH2 := Lib.hid hh2
  clear hh2 hh5
  obtain ⟨W, hWW⟩ : ∃ W, w1.alloc (.cells #[.int .i64 l, .int .i64 c, .int .i64 y] 34) = W := ⟨_, rfl⟩
  have HBW := Lib.hid (show Below w.heap.size w W by rw [← hWW]; exact (below_then HB0.out HB1.out).alloc (below_then HB0.out HB1.out).size _)
  rw [hWW] at HA2'' HA3'' HA5 ⊢
  clear hWW
  obtain ⟨a0, a1, a2, b0, b1, b2⟩ := HA2''.out.three
  obtain ⟨c0, c1, c2, d0, d1, d2⟩ := HA3''.out.three
  obtain ⟨f0, f1, f2, _⟩ := HA5.out.three
  have n1 : h2 ≠ h5 := by omega
  have n2 : h5 ≠ h2 := by omega
  have n3 : h2 + 1 ≠ h5 := by omega
  have n4 : h5 ≠ h2 + 1 := by omega
  go_region
  go_wp2
  refine bodyPost_ret (v := .tuple #[.agg #[.slice none 0 0, .slice none 0 0, .slice none 0 0], .agg #[.int .i64 l, .int .i64 c, .int .i64 y]]) (by simp [results, Tryz.results10, go_sem, *]) rfl ⟨?_, rfl⟩
  exact below_drewN (below_six HBW.out (Nat.le_of_eq HH2.out) _ _ _ _ _ _) 1
end Go.Proofs.YtlhoggalhjadgaaGreatDoor

/- source.Parse: the lines are gone through. -/
namespace Go.Proofs.YtlhoggalhjadgaaGreatDoor
open Go.RowKit

namespace Src
def rest (L : List Ln) (k : Nat) (s : S) : Par S := match readGo own (L.drop k) s with
  | .bad l c w => .bad l c w
  | .ok s' => finish L s'
theorem rest_step {L : List Ln} {k : Nat} {s : S} {x : Ln} {X : Par S} (h : X = rest L k s) (hx : L[k]? = some x) :
    X = match step own s (x.2.map (·.1)) with
    | .bad p y => .bad x.1 (colAt x.2 p) y
    | .ok s' => rest L (k + 1) s' := by
  rw [h]
  unfold rest
  rw [List.drop_eq_getElem_cons (List.getElem?_eq_some_iff.1 hx).1, (List.getElem?_eq_some_iff.1 hx).2, readGo_cons]
  cases step own s (x.2.map (·.1)) <;> rfl
theorem rest_end {L : List Ln} {k : Nat} {s : S} {X : Par S} (h : X = rest L k s) (hk : L.length ≤ k) : X = finish L s := by
  rw [h]
  unfold rest
  rw [List.drop_eq_nil_of_le hk]
  rfl
theorem rest_all {L : List Ln} : readAll own L = rest L 0 St.none_ := by
  unfold readAll rest
  rw [List.drop_zero]
  cases readGo own L St.none_ <;> rfl
/-- A line with its fields' slice; its cells; a field's cells. -/
def lnc (p : Ln × Value) : List Value := [.int .i64 p.1.1, p.2]
def flc (x : Txt × Int) : List Value := [.string (bts x.1), .int .i64 x.2]
theorem lines_of {B : Nat} {w : World} {v : Value} {L : List Ln} {us : List Value} (h : Sc.LOwn B w v L us) : RowR w w.heap.size 2 L.length v ((L.zip us).flatMap lnc) ∧ (L.zip us).length = L.length ∧ ∀ p ∈ L.zip us, RowR w w.heap.size 2 p.1.2.length p.2 (p.1.2.flatMap flc) ∧ ∀ k, p.2.ownBlock = some k → B ≤ k := by
  refine ⟨RowR.of_own h.list, by simp [h.len], fun p hp => ?_⟩
  obtain ⟨i, hi⟩ := List.mem_iff_getElem?.1 hp
  obtain ⟨h1, h2⟩ := List.getElem?_zip_eq_some.1 hi
  exact ⟨RowR.of_own (h.rows i _ _ h1 h2).2.1, fun k hk => ((h.rows i _ _ h1 h2).2.1.lt k hk).1⟩
def GRel (g n : Nat) (w1 : World) (L : List Ln) (X : Par S) (i : Value) (wr : World) : Prop :=
  ∃ (k : Nat) (s : S) (rv zv lv : Value) (evs : List Value), k ≤ n ∧ i = .int .i64 k ∧ Hid (X = rest L k s) ∧ Hid (Fit s) ∧ Hid (Held (g + 1) wr g s rv zv lv evs) ∧ Hid (Below w1.heap.size w1 wr) ∧ Hid (k = 0 → s.op = false)
def IRel (W8 : World) (ts : List Txt) (m : Nat) (v i : Value) (wi : World) : Prop :=
  ∃ j : Nat, j ≤ m ∧ i = .int .i64 j ∧ Hid (wi.ownsRow W8.heap.size 9 1 v j (((ts.take j).map bts).map Value.string)) ∧ Hid (Below W8.heap.size W8 wi)
theorem take_more {ts : List Txt} {j : Nat} {t : Txt} (h : ts[j]? = some t) : ((ts.take (j + 1)).map bts).map Value.string = ((ts.take j).map bts).map Value.string ++ [.string (bts t)] := by
  rw [List.take_add_one, h]
  simp
theorem last_at {L : List Ln} {x d : Ln} (h : L[L.length - 1]? = some x) : L.getLastD d = x := by
  rw [List.getLastD_eq_getLast?, List.getLast?_eq_getElem?, h]
  rfl
theorem Held.set_low {B : Nat} {w : World} {g : Nat} {s : S} {rv zv lv : Value} {evs : List Value} (h : Held B w g s rv zv lv evs) {p : Addr} (hp : p.block < g) (u : Value) : Held B (w.setCell p u) g s rv zv lv evs :=
  ⟨h.at_.set_other p u (Nat.ne_of_lt hp), h.many.setBelow (Nat.lt_trans hp h.below) u, h.below, h.evs_len⟩
end Src
theorem At.same {w w' : World} {g : Nat} {xs : List Value} (h : At w g xs) (hs : g < w'.heap.size) (e : w'.heap[g]? = w.heap[g]?) : At w' g xs :=
  ⟨hs, fun i v hi => ⟨(World.cell?_of_block e).trans (h.2 i v hi).1, (World.frozen?_of_block e).trans (h.2 i v hi).2⟩⟩
set_option maxHeartbeats 1000000 in
set_option maxRecDepth 100000 in
theorem srcParse_ok (t : ByteArray) (w : World) (hW : Wq w) (hs : t.size ≤ maxLen) (L : List Src.Ln) (hL : Sc.lines (tl t) = .ok L) :
    Calls Tryz.prog 10 #[.string t] w (Src.PRet w (Src.rest L 0 Src.St.none_)) := by
  have hl := fun W hw => lines_any t W hw hs
  rw [hL] at hl
  have hfit := Src.lines_fit _ L hL
  have HL := Lib.hid hl
  have HW := Lib.hid hW
  have HFit := Lib.hid hfit
  obtain ⟨X, hX⟩ : ∃ X, Src.rest L 0 Src.St.none_ = X := ⟨_, rfl⟩
  rw [hX]
  have HX := Lib.hid hX.symm
  obtain ⟨w0, hw0⟩ : ∃ x, (w.alloc (.cells #[.slice none 0 0, .slice none 0 0, .slice none 0 0] 26)).alloc (.cells #[.int .i64 0, .int .i64 0, .int .i64 0] 34) = x := ⟨_, rfl⟩
  have HB0 := Lib.hid (show Below w.heap.size w w0 by rw [← hw0]; exact ((Below.refl _ _).alloc (Nat.le_refl _) _).alloc (by simp) _)
  have HA2 := Lib.hid (show At w0 w.heap.size [.slice none 0 0, .slice none 0 0, .slice none 0 0] by rw [← hw0]; exact (At.new w #[.slice none 0 0, .slice none 0 0, .slice none 0 0] 26).allocO _)
  have HA3 := Lib.hid (show At w0 (w.heap.size + 1) [.int .i64 0, .int .i64 0, .int .i64 0] by rw [← hw0]; have := At.new (w.alloc (.cells #[.slice none 0 0, .slice none 0 0, .slice none 0 0] 26)) #[.int .i64 0, .int .i64 0, .int .i64 0] 34; simpa using this)
  have hs0 : w0.heap.size = w.heap.size + 2 := by rw [← hw0]; simp
  obtain ⟨h2, hh2⟩ : ∃ h, w.heap.size = h := ⟨_, rfl⟩
  clear hl hW hL hfit hX
  go_enter Tryz.func10, Tryz.ntmps10
  go_wp2_with fail
  clear hw0
  rw [hh2] at HA2 HA3 hs0
  refine (HL.out _ (HW.out.below HB0.out).p.l).mono ?_
  rintro e w1 ⟨hb, v, us, ⟨A, c, rfl, hnc, hcm⟩, rfl, hown⟩
  have HB1 := Lib.hid (below_then HB0.out hb)
  have HA2' := Lib.hid (HA2.out.call hb)
  have HA3' := Lib.hid (HA3.out.call hb)
  have hs1 := hb.size
  obtain ⟨hr1, hr2, hr3⟩ := Src.lines_of hown
  obtain ⟨A', c', hv, _, _, hr1⟩ := hr1
  injection hv with hv1 _ hv2
  subst hv1 hv2
  obtain ⟨n, hn⟩ : ∃ n, L.length = n := ⟨_, rfl⟩
  rw [hn] at hr1 hr2 hnc ⊢
  have HR1 := Lib.hid hr1
  have HR2 := Lib.hid hr2
  have HR3 := Lib.hid hr3
  have HN := Lib.hid hn
  have HW1 := Lib.hid (HW.out.below HB1.out)
  unfold maxLen at hcm
  clear hb hown hr1 hr2 hr3 HA2 HA3 hn HL
  obtain ⟨w5, hw5⟩ : ∃ x, w1.alloc (.cells #[.int .i64 0, .int .i64 0, .int .i64 0] 34) = x := ⟨_, rfl⟩
  have hs5 : w5.heap.size = w1.heap.size + 1 := by rw [← hw5]; simp
  obtain ⟨g, hg⟩ : ∃ g, w5.heap.size = g := ⟨_, rfl⟩
  have HH0 := Lib.hid (show Src.Held (g + 1) (w5.alloc (.cells #[.slice none 0 0, .slice none 0 0, .slice none 0 0, .bool false] 82)) g Src.St.none_ (.slice none 0 0) (.slice none 0 0) (.slice none 0 0) [] by rw [← hg]; exact Src.Held.new_ w5 82)
  have HB6 := Lib.hid (show Below w1.heap.size w1 (w5.alloc (.cells #[.slice none 0 0, .slice none 0 0, .slice none 0 0, .bool false] 82)) by rw [← hw5]; exact ((Below.refl _ _).alloc (Nat.le_refl _) _).alloc (by simp) _)
  have HLo := Lib.hid (show Low g from HW1.out.low_of.more (by omega))
  obtain ⟨i0, i1, i2, i3, i4⟩ := info_parts str_info
  have HI := Lib.hid (And.intro i1 (And.intro i2 (And.intro i3 i4)))
  have HW5 := Lib.hid hw5
  have HG := Lib.hid (show w1.heap.size + 1 = g by omega)
  clear i1 i2 i3 i4 hw5
  go_wp2_with fail
  rw [HW5.out, HG.out]
  go_loopw [28] (fun i wr => Src.GRel g n w1 L X i wr) (fun i _ => n - (intOf i).toNat)
  case atStart => exact ⟨0, _, _, _, _, _, Nat.zero_le _, rfl, HX, Src.right_none _ _ _, HH0, HB6, fun _ => rfl⟩
  case round =>
    obtain ⟨k, s, rv, zv, lv, evs, hk, rfl, HK, HF, HH, HB, HOP⟩ := hrel
    by_cases hlt : k < n
    · have q1 : (0 : Int) ≤ (k : Int) := by omega
      have q2 : (k : Int) < (n : Int) := by omega
      obtain ⟨ad, p, rfl, hab, Hp, HLc⟩ := Ix.reads_cells (enc := Src.lnc) (m := 2) (fun _ => rfl) HR2.out (HR1.out.below HB.out) hlt
      have hpm := HR3.out p (List.mem_of_getElem? Hp.out)
      obtain ⟨⟨no, f⟩, u⟩ := p
      obtain ⟨hp1, hp2⟩ := List.getElem?_zip_eq_some.1 Hp.out
      have HP1 := Lib.hid hp1
      obtain ⟨⟨uA, uc, hu, hmc, hmx, hru⟩, _⟩ := hpm
      simp only at hu hmc hru hp1
      subst hu
      have hff := HFit.out (no, f) (List.mem_of_getElem? hp1)
      obtain ⟨hf1, hf2, hf3⟩ := hff
      simp only at hf1 hf2 hf3
      have hf0 : 1 ≤ f.length := List.length_pos_iff.2 hf1
      have HST := Lib.hid (Src.rest_step HK.out hp1)
      obtain ⟨m, hm⟩ : ∃ m, f.length = m := ⟨_, rfl⟩
      simp only [hm] at hmc hru hf2 hf0
      have c0 : wr.cell? (ad.add (k * 2)) = some (.int .i64 no) := HLc.out 0 _ rfl
      have c1 : wr.cell? ⟨(ad.add (k * 2)).block, (ad.add (k * 2)).off + 1, none⟩ = some (.slice uA m uc) := by rw [← hm]; exact HLc.out 1 _ rfl
      have HRU := Lib.hid hru
      have HM := Lib.hid hm
      have HF3 := Lib.hid hf3
      have hmk := fun W : World => run_make (P := Tryz.prog) W 48 9 i0 _ Tryz.underlying48 HI.out.1 HI.out.2.1 .i64 .i64 0 (m : Int) (by omega) (by omega) (by rw [HI.out.2.2.2]; omega) (by omega)
      rw [HI.out.2.2.1] at hmk
      obtain ⟨MC, hMC⟩ : ∃ x, madeCells (Value.string ⟨#[]⟩).cells ((m : Int).toNat * 1) = x := ⟨_, rfl⟩
      rw [hMC] at hmk
      have hMs : MC.size = m := by rw [← hMC, size_madeCells]; simp
      clear hMC hp1 hp2 hru hf1 hf3 hm
      have hwr := HB.out.size
      have hgr := HH.out.at_.lt
      obtain ⟨W8, hW8⟩ : ∃ x, wr.alloc (.cells #[.int .i64 no, .slice uA m uc] 85) = x := ⟨_, rfl⟩
      have hs8 : W8.heap.size = wr.heap.size + 1 := by rw [← hW8]; simp
      have HA8 := Lib.hid (show At W8 wr.heap.size [.int .i64 no, .slice uA m uc] by rw [← hW8]; exact At.new wr #[.int .i64 no, .slice uA m uc] 85)
      have HB8 := Lib.hid (show Below w1.heap.size w1 W8 by rw [← hW8]; exact HB.out.alloc HB.out.size _)
      have HH8 := Lib.hid (show Src.Held (g + 1) W8 g s rv zv lv evs by rw [← hW8]; exact HH.out.allocO _)
      have HO8 := Lib.hid (show (W8.alloc (.cells MC 9)).ownsRow W8.heap.size 9 1 (.slice (some ⟨W8.heap.size, 0, none⟩) 0 m) 0 [] from World.ownsRow_made W8 MC m (Nat.le_refl _) (by unfold maxLen; omega) (by omega))
      obtain ⟨h8, hh8⟩ : ∃ h, wr.heap.size = h := ⟨_, rfl⟩
      rw [hh8] at HA8 hs8 hgr hwr
      have HS8 := Lib.hid hs8
      clear hs8
      have a80 := HA8.out.cell 0 _ rfl
      have a81 := HA8.out.cell 1 _ rfl
      have b81 : (W8.alloc (.cells MC 9)).cell? ⟨h8, 1, none⟩ = some (.slice uA m uc) := (HA8.out.allocO _).cell 1 _ rfl
      go_wp2_with fail
      have HH8q := Lib.hid hh8
      clear hW8 hh8 a80 a81 b81 c0 c1
      go_loopw [9, 39] (fun v i wi => Src.IRel W8 (f.map (·.1)) m v i wi) (fun _ i _ => m - (intOf i).toNat)
      case atStart => exact ⟨0, Nat.zero_le _, rfl, HO8.out, (Below.refl _ _).alloc (Nat.le_refl _) _⟩
      case round =>
        obtain ⟨j, hj, rfl, HOi, HBi⟩ := hrel
        by_cases hjm : j < m
        · have q3 : (0 : Int) ≤ (j : Int) := by omega
          have q4 : (j : Int) < (m : Int) := by omega
          have HBwi := Lib.hid (HB8.out.trans (HBi.out.mono HB8.out.size))
          obtain ⟨ad2, x, rfl, hab2, Hx, HLx⟩ := Ix.reads_cells (enc := Src.flc) (m := 2) (fun _ => rfl) HM.out (HRU.out.below HBwi.out) hjm
          obtain ⟨tx, col⟩ := x
          obtain ⟨xb, hxb⟩ : ∃ b, Src.bts tx = b := ⟨_, rfl⟩
          have x0 : wr.cell? (ad2.add (j * 2)) = some (.string xb) := by rw [← hxb]; exact HLx.out 0 _ rfl
          have x1 : wr.cell? ⟨(ad2.add (j * 2)).block, (ad2.add (j * 2)).off + 1, none⟩ = some (.int .i64 col) := HLx.out 1 _ rfl
          have HXB := Lib.hid hxb
          have HTK := Lib.hid (Src.take_more (ts := f.map (·.1)) (j := j) (t := tx) (by simp [Hx.out]))
          obtain ⟨vA, vc, hv, _, _⟩ := own_slice_cap HOi.out
          subst hv
          have hwi := HBi.out.size
          have HAp := fun {ops : Array Oper} {rest : List Oper} {o : Oper} {a : Act} {Q : Exit → Act → World → Prop} (hgd : o.guard = none) (ho : o.op = .call { callee := .builtin .append, args := #[.tmp 43, .tmp 46], argTypes := #[48, 48] }) (hs : a.eval (.tmp 43) = .slice vA j vc) (hx : a.eval (.tmp 46) = .slice (some ⟨wr.heap.size + 1, 0, none⟩) 1 1) h => wpList_append_any (P := Tryz.prog) (ops := ops) (rest := rest) (o := o) (a := a) (Q := Q) ((wr.alloc (.cells #[.string xb, .int .i64 col] 87)).alloc (.cells #[.string xb] 9)) hgd (.tmp 43) (.tmp 46) 48 ho W8.heap.size 9 i0 _ 1 16 Tryz.underlying48 HI.out.1 HI.out.2.1 HI.out.2.2.1 HI.out.2.2.2 rfl (by decide) _ j _ hs ((HOi.out.alloc _).alloc _) ((wr.alloc (.cells #[.string xb, .int .i64 col] 87)).alloc (.cells #[.string xb] 9)).heap.size _ 1 1 _ hx (er_reads (wr.alloc (.cells #[.string xb, .int .i64 col] 87)) (wr.heap.size + 1) [xb] 9 (by simp)) (by simp [Value.oneCell']) (by unfold maxLen; omega) (by omega) (by simp; omega) h
          clear hxb
          go_wp2_with (at_builtin; refine HAp rfl rfl rfl rfl ?_; intro v9' w9 hown9 hg9 hat9)
          have HO9 := Lib.hid (show w9.ownsRow W8.heap.size 9 1 v9' (j + 1) ((((f.map (·.1)).take (j + 1)).map Src.bts).map Value.string) by rw [HTK.out, HXB.out]; exact hown9)
          have HB9 := Lib.hid (show Below W8.heap.size W8 w9 from ((HBi.out.alloc HBi.out.size _).alloc (by simp; omega) _).grown hg9 (by simp; omega) (fun kk hkk => (HOi.out.lt kk hkk).1))
          clear hown9 hg9 hat9 HAp x0 x1
          go_wp2
          go_roundw
          case rel => exact ⟨j + 1, by omega, by go_num, HO9.out, HB9.out⟩
          case measure => simp [intOf]; omega
        · have q4 : ¬ (j : Int) < (m : Int) := by omega
          have hjm' : j = m := by omega
          subst hjm'
          have htl : (f.map (·.1)).length = j := by simp [HM.out]
          have hown := HOi.out
          rw [List.take_of_length_le (by omega)] at hown
          obtain ⟨tg, tc, hv, htg1, htg2⟩ := hown.form (by omega)
          subst hv
          have hcap := own_slice_cap hown
          obtain ⟨A1, c1', hv1, hcap1, hcap2⟩ := hcap
          injection hv1 with hv0 _ hv2
          subst hv0 hv2
          have hRt : Reads wr wr.heap.size 1 (some ⟨tg, 0, none⟩) j (((f.map (·.1)).map Src.bts).map Value.string) := Reads.of_own hown
          have hHi := HH8.out.call HBi.out
          have hz1 : zv.ownBlock ≠ some tg := by
            intro e
            have := (HH8.out.many.own (Src.zoneRow zv evs s) (by simp)).lt tg e
            omega
          have HBwi := Lib.hid (HB8.out.trans (HBi.out.mono HB8.out.size))
          have hst : ∀ t ∈ f.map (·.1), t.length ≤ 1000000 := by
            intro t ht
            rw [List.mem_map] at ht
            obtain ⟨x, hx, rfl⟩ := ht
            have := HF3.out x hx
            omega
          have hs8 := HS8.out
          have HC := Lib.hid (rdLine_any (g + 1) g s ⟨tg, 0, none⟩ j tc (f.map (·.1)) rv zv lv evs wr (HW1.out.below HBwi.out) hcap1 hcap2 (by omega) (by omega) hRt hst (by omega) HLo.out (by show g + 1 ≤ tg; omega) hz1 hHi HF.out)
          have hstep := Src.step_right Src.own (fun _ => True) (fun _ => True) (fun _ _ => trivial) (fun _ _ => trivial) s
          have hwhy := Src.step_why Src.own s (f.map (·.1))
          have hplace := Src.step_place s (f.map (·.1))
          have HA8i := Lib.hid (HA8.out.call HBi.out)
          have hbi := HBi.out.size
          have hst2 := HST.out
          obtain ⟨o, ho⟩ : ∃ o, Src.step Src.own s (f.map (·.1)) = o := ⟨_, rfl⟩
          rw [ho] at HC hwhy hplace hst2
          have HNX := Lib.hid fun s' (e : o = .ok s') => hstep s' (f.map (·.1)) HF.out (ho.trans e)
          have HZ8 : Hid (zv.ownBlock ≠ some h8) := by
            intro e
            have := (HH.out.many.own (Src.zoneRow zv evs s) (by simp)).lt h8 e
            have := HH8q.out
            omega
          clear hown hRt hHi hz1 hst hstep ho hcap1 hcap2 hs8
          go_wp2_with fail
          refine HC.out.mono ?_
          rintro e w' hP
          cases o with
          | ok s' =>
            obtain ⟨rfl, hb, rv', zv', lv', evs', hH'⟩ := hP
            have HH' := Lib.hid hH'
            have HB' := Lib.hid (HBwi.out.trans (hb.mono (by omega)))
            have HK' := Lib.hid hst2
            have HF' := Lib.hid (HNX.out s' rfl)
            clear hb hH' hst2 hwhy hplace
            go_wp2
            go_roundw
            case rel => exact ⟨k + 1, s', rv', zv', lv', evs', by omega, by go_num, HK'.out, HF'.out, HH'.out, HB'.out, fun e => absurd e (by omega)⟩
            case measure => simp [intOf]; omega
          | bad pl y =>
            obtain ⟨rfl, hb, hkp⟩ := hP
            have hy := hwhy pl y rfl
            obtain ⟨hp0, hp1⟩ := hplace pl y rfl
            have hs8 := HS8.out
            have hbs := hb.size
            have HB' := Lib.hid (HBwi.out.trans (hb.mono (by omega)))
            have HA8' := Lib.hid (HA8i.out.same (by omega) (hkp h8 (by omega) (by omega) HZ8.out))
            have HA2x := Lib.hid (HA2'.out.below HB'.out (by omega))
            have HA3x := Lib.hid (HA3'.out.below HB'.out (by omega))
            have HBW := Lib.hid (below_then HB1.out HB'.out)
            obtain ⟨jj, hjj⟩ : ∃ jj, min pl.toNat (j - 1) = jj := ⟨_, rfl⟩
            have hjl : jj < j := by omega
            have hmin : min pl ((j : Int) - 1) = (jj : Int) := by omega
            have hwj : IntKind.i64.wrap ((j : Int) - 1) = (j : Int) - 1 := IntWalk.i64_in _ (by omega)
            obtain ⟨ad2, x, rfl, hab2, Hx, HLx⟩ := Ix.reads_cells (enc := Src.flc) (m := 2) (fun _ => rfl) HM.out (HRU.out.below HB'.out) hjl
            obtain ⟨tx, col⟩ := x
            have x1 : w'.cell? ⟨(ad2.add (jj * 2)).block, (ad2.add (jj * 2)).off + 1, none⟩ = some (.int .i64 col) := HLx.out 1 _ rfl
            have hcol : Src.colAt f pl = col := by
              unfold Src.colAt
              rw [HM.out, hjj, List.getD, Hx.out]
              rfl
            have hX2 : X = .bad no col y := by rw [← hcol]; exact hst2
            have HX2 := Lib.hid hX2
            obtain ⟨a0, a1, a2, b0, b1, b2⟩ := HA2x.out.three
            obtain ⟨c0, c1, c2, d0, d1, d2⟩ := HA3x.out.three
            obtain ⟨f0, f1, _⟩ := HA8'.out.two
            have n1 : h2 ≠ h8 := by omega
            have n2 : h8 ≠ h2 := by omega
            have n3 : h2 + 1 ≠ h8 := by omega
            have n4 : h8 ≠ h2 + 1 := by omega
            have q5 : (0 : Int) ≤ (jj : Int) := by omega
            have q6 : (jj : Int) < (j : Int) := by omega
            have e1 : (y == 0) = false := by rw [beq_eq_false_iff_ne]; exact hy
            have HHH := Lib.hid hh2
            clear hb hkp hst2 hwhy hplace hcol hX2 hjj hy hh2
            go_wp2_with fail
            go_region
            go_wp2
            refine bodyPost_ret (v := .tuple #[.agg #[.slice none 0 0, .slice none 0 0, .slice none 0 0], .agg #[.int .i64 no, .int .i64 col, .int .i64 y]]) (by simp [results, Tryz.results10, go_sem, *]) rfl ?_
            rw [HX2.out]
            exact ⟨below_drewN (below_six HBW.out (Nat.le_of_eq HHH.out) _ _ _ _ _ _) 1, rfl⟩
    · have q2 : ¬ (k : Int) < (n : Int) := by omega
      have hkn : k = n := by omega
      have hX2 := Src.rest_end HK.out (by rw [HN.out]; omega)
      have hbs := HB.out.size
      have HA2x := Lib.hid (HA2'.out.below HB.out (by omega))
      have HA3x := Lib.hid (HA3'.out.below HB.out (by omega))
      have HBW := Lib.hid (below_then HB1.out HB.out)
      obtain ⟨a0, a1, a2, b0, b1, b2⟩ := HA2x.out.three
      obtain ⟨c0, c1, c2, d0, d1, d2⟩ := HA3x.out.three
      have HHH := Lib.hid hh2
      have hgl := HH.out.at_.lt
      have co := HH.out.at_.cell 3 _ rfl
      unfold Src.finish at hX2
      cases ho : s.op
      · rw [ho, if_neg (by decide)] at hX2
        have HX2 := Lib.hid hX2
        rw [ho] at co
        obtain ⟨A1, k1, e, _, _⟩ := own_slice_cap (HH.out.many.own (Src.ruleRow rv s) (by simp))
        have e1 : rv = .slice A1 s.rules.length k1 := e
        obtain ⟨A2, k2, e, _, _⟩ := own_slice_cap (HH.out.many.own (Src.zoneRow zv evs s) (by simp))
        have e2 : zv = .slice A2 s.zones.length k2 := e
        obtain ⟨A3, k3, e, _, _⟩ := own_slice_cap (HH.out.many.own (Src.linkRow lv s) (by simp))
        have e3 : lv = .slice A3 s.links.length k3 := e
        clear e
        subst e1 e2 e3
        have g0 := HH.out.at_.cell 0 _ rfl
        have g1 := HH.out.at_.cell 1 _ rfl
        have g2 := HH.out.at_.cell 2 _ rfl
        have m1 : h2 ≠ g := by omega
        have m2 : g ≠ h2 := by omega
        have m3 : h2 + 1 ≠ g := by omega
        have m4 : g ≠ h2 + 1 := by omega
        clear hX2 ho hh2
        go_wp2
        refine bodyPost_ret (v := .tuple #[.agg #[.slice A1 s.rules.length k1, .slice A2 s.zones.length k2, .slice A3 s.links.length k3], .agg #[.int .i64 0, .int .i64 0, .int .i64 0]]) (by simp [results, Tryz.results10, go_sem, *]) rfl ?_
        rw [HX2.out]
        refine ⟨below_six HBW.out (Nat.le_of_eq HHH.out) _ _ _ _ _ _, _, _, _, evs, rfl, ?_⟩
        exact (((((((HH.out.set_low (p := ⟨h2, 0, none⟩) (by show h2 < g; omega) _).set_low (p := ⟨h2, 1, none⟩) (by show h2 < g; omega) _).set_low (p := ⟨h2, 2, none⟩) (by show h2 < g; omega) _).set_low (p := ⟨h2 + 1, 0, none⟩) (by show h2 + 1 < g; omega) _).set_low (p := ⟨h2 + 1, 1, none⟩) (by show h2 + 1 < g; omega) _).set_low (p := ⟨h2 + 1, 2, none⟩) (by show h2 + 1 < g; omega) _)).src
      · rw [ho, if_pos rfl] at hX2
        rw [ho] at co
        have hk0 : k ≠ 0 := by
          intro e
          have := HOP.out e
          rw [ho] at this
          cases this
        obtain ⟨kk, hkk⟩ : ∃ kk, n = kk + 1 := ⟨n - 1, by omega⟩
        obtain ⟨ad, p, rfl, hab, Hp, HLc⟩ := Ix.reads_cells (enc := Src.lnc) (m := 2) (fun _ => rfl) HR2.out (HR1.out.below HB.out) (k := kk) (by omega)
        have hpm := HR3.out p (List.mem_of_getElem? Hp.out)
        obtain ⟨⟨no, f⟩, u⟩ := p
        obtain ⟨hp1, hp2⟩ := List.getElem?_zip_eq_some.1 Hp.out
        obtain ⟨⟨uA, uc, hu, hmc, hmx, hru⟩, hub⟩ := hpm
        simp only at hu hmc hru hp1
        subst hu
        have hff := HFit.out (no, f) (List.mem_of_getElem? hp1)
        obtain ⟨hf1, hf2, hf3⟩ := hff
        simp only at hf1 hf2 hf3
        have hf0 : 1 ≤ f.length := List.length_pos_iff.2 hf1
        have hlast : L.getLastD (0, []) = (no, f) := Src.last_at (by rw [HN.out, hkk]; exact hp1)
        rw [hlast] at hX2
        obtain ⟨ad2, x, rfl, hab2, Hx, HLx⟩ := Ix.reads_cells (enc := Src.flc) (m := 2) (fun _ => rfl) rfl (hru.below HB.out) (k := 0) hf0
        obtain ⟨tx, col⟩ := x
        have HUB := Lib.hid (hub ad2.block rfl)
        clear hub
        have x1 : wr.cell? ⟨ad2.block, ad2.off + 1, none⟩ = some (.int .i64 col) := HLx.out 1 _ rfl
        have hcol : Src.colAt f 0 = col := by
          unfold Src.colAt
          rw [show min (0 : Int).toNat (f.length - 1) = 0 by simp, List.getD, Hx.out]
          rfl
        simp only [hcol] at hX2
        obtain ⟨m, hm⟩ : ∃ m, f.length = m := ⟨_, rfl⟩
        have l0 : wr.cell? (ad.add (kk * 2)) = some (.int .i64 no) := HLc.out 0 _ rfl
        have l1 : wr.cell? ⟨(ad.add (kk * 2)).block, (ad.add (kk * 2)).off + 1, none⟩ = some (.slice (some ad2) m uc) := by rw [← hm]; exact HLc.out 1 _ rfl
        have HX2 := Lib.hid hX2
        have hwk : IntKind.i64.wrap ((n : Int) - 1) = (kk : Int) := by
          rw [hkk, show (((kk + 1 : Nat) : Int)) - 1 = (kk : Int) by omega]
          exact IntWalk.i64_in _ (by omega)
        have q5 : (0 : Int) ≤ (kk : Int) := by omega
        have q6 : (kk : Int) < (n : Int) := by omega
        have q7 : (0 : Int) < (m : Int) := by omega
        have hab2' : ad2.block < wr.heap.size := by omega
        have HKK := Lib.hid hkk
        clear hX2 ho hh2 hkk hlast hp1 hp2 hru hf1 hf3 hm hcol hk0
        go_wp2_with fail
        obtain ⟨W, hWW⟩ : ∃ W, wr.alloc (.cells #[.int .i64 no, .slice (some ad2) m uc] 85) = W := ⟨_, rfl⟩
        have HA15 := Lib.hid (show At W wr.heap.size [.int .i64 no, .slice (some ad2) m uc] by rw [← hWW]; exact At.new wr #[.int .i64 no, .slice (some ad2) m uc] 85)
        have HA2w := Lib.hid (show At W h2 [.slice none 0 0, .slice none 0 0, .slice none 0 0] by rw [← hWW]; exact HA2x.out.allocO _)
        have HA3w := Lib.hid (show At W (h2 + 1) [.int .i64 0, .int .i64 0, .int .i64 0] by rw [← hWW]; exact HA3x.out.allocO _)
        have HBWW := Lib.hid (show Below w.heap.size w W by rw [← hWW]; exact HBW.out.alloc HBW.out.size _)
        have y1 : W.cell? ⟨ad2.block, ad2.off + 1, none⟩ = some (.int .i64 col) := by
          rw [← hWW]
          exact (World.cell?_alloc_lt wr _ ⟨ad2.block, ad2.off + 1, none⟩ hab2').trans x1
        rw [hWW]
        obtain ⟨h15, hh15⟩ : ∃ h, wr.heap.size = h := ⟨_, rfl⟩
        rw [hh15] at HA15 hbs ⊢
        clear hWW hh15 a0 a1 a2 b0 b1 b2 c0 c1 c2 d0 d1 d2 x1 l0 l1 co
        obtain ⟨a0, a1, a2, b0, b1, b2⟩ := HA2w.out.three
        obtain ⟨c0, c1, c2, d0, d1, d2⟩ := HA3w.out.three
        obtain ⟨f0, f1, _⟩ := HA15.out.two
        have n1 : h2 ≠ h15 := by omega
        have n2 : h15 ≠ h2 := by omega
        have n3 : h2 + 1 ≠ h15 := by omega
        have n4 : h15 ≠ h2 + 1 := by omega
        have hub2 := HUB.out
        have n5 : ad2.block ≠ h2 := by omega
        have n6 : h2 ≠ ad2.block := by omega
        have n7 : ad2.block ≠ h2 + 1 := by omega
        have n8 : h2 + 1 ≠ ad2.block := by omega
        go_region
        go_wp2
        refine bodyPost_ret (v := .tuple #[.agg #[.slice none 0 0, .slice none 0 0, .slice none 0 0], .agg #[.int .i64 no, .int .i64 col, .int .i64 5]]) (by simp [results, Tryz.results10, go_sem, *]) rfl ?_
        rw [HX2.out]
        exact ⟨below_drewN (below_six HBWW.out (Nat.le_of_eq HHH.out) _ _ _ _ _ _) 1, rfl⟩
end Go.Proofs.YtlhoggalhjadgaaGreatDoor
