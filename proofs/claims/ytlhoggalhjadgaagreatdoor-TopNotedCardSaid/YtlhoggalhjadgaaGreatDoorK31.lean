/- slices.EqualFunc at zones, source.Same, source.Names. -/
import Derived.Test.YtlhoggalhjadgaaGreatDoorK30
import Derived.Test.YtlhoggalhjadgaaGreatDoorK22
import Derived.Test.YtlhoggalhjadgaaGreatDoorK04
import Derived.Shelf.Strings.BuilderF
import Derived.Shelf.Strings.BuilderK
import Derived.Shelf.Spec.SlicesGrow

namespace Go.Proofs.YtlhoggalhjadgaaGreatDoor
open Go.RowKit

/-- What is asked of a comparison. -/
def Ix.Tells2 {α : Type} (g : FuncId) (lb : Array Value) (enc : α → Value) (f : α → α → Bool) (xs ys : List α) (w : World) : Prop :=
  ∀ W x y, x ∈ xs → y ∈ ys → Below w.heap.size w W → Calls Tryz.prog g (#[enc x, enc y] ++ lb) W fun e w' => e = .returned (.bool (f x y)) ∧ Below w.heap.size w w'
set_option maxHeartbeats 2000000 in
set_option maxRecDepth 100000 in
theorem eqf_zone (f : ((Src.Txt × List Er.E) × Value) → ((Src.Txt × List Er.E) × Value) → Bool) (g : FuncId) (lb : Array Value) (eg : ∀ args w, (callFunc g args).run Tryz.prog w = .ok (.enter g args) w) (A A' : Option Addr) (n c n' c' : Nat) (xs ys : List ((Src.Txt × List Er.E) × Value)) (w : World) (hn : n ≤ maxLen) (hn' : n' ≤ maxLen) (hl : xs.length = n) (hl' : ys.length = n')
    (hr : Reads w w.heap.size 2 A n (xs.flatMap Src.zc)) (hr' : Reads w w.heap.size 2 A' n' (ys.flatMap Src.zc)) (hp : Ix.Tells2 g lb Src.zv f xs ys w) (hxs : ∀ p ∈ xs, ∃ A n c, p.2 = Value.slice A n c) (hys : ∀ p ∈ ys, ∃ A n c, p.2 = Value.slice A n c) :
    Calls Tryz.prog 34 #[.slice A n c, .slice A' n' c', .func (.func g) #[] lb] w fun e w' => e = .returned (.bool (Ix.same f xs ys)) ∧ Below w.heap.size w w' := by
  unfold maxLen at hn hn'
  obtain ⟨X, hX⟩ : ∃ X, Ix.same f xs ys = X := ⟨_, rfl⟩
  rw [hX]
  by_cases hne : n = n'
  · subst hne
    have HX := Lib.hid hX
    have HR := Lib.hid hr
    have HR' := Lib.hid hr'
    have HL := Lib.hid hl
    have HL' := Lib.hid hl'
    have HP := Lib.hid hp
    have HXS := Lib.hid hxs
    have HYS := Lib.hid hys
    clear hX hr hr' hl hl' hp hxs hys
    go_enter Tryz.func34, Tryz.ntmps34
    go_wp2
    go_loopw [17] (fun i wr => ∃ k : Nat, k ≤ n ∧ i = .int .i64 k ∧ Hid (X = Ix.same f (xs.drop k) (ys.drop k)) ∧ Hid (Below w.heap.size w wr)) (fun i _ => n - (intOf i).toNat)
    case atStart => exact ⟨0, Nat.zero_le _, rfl, HX.out.symm, Below.refl _ _⟩
    case round =>
      obtain ⟨k, hk, rfl, HK, HB⟩ := hrel
      by_cases hlt : k < n
      · have q2 : (k : Int) < (n : Int) := by omega
        have q1 : (0 : Int) ≤ (k : Int) := by omega
        obtain ⟨ad, x, rfl, hab, Hx, HL0⟩ := Ix.reads_cells (enc := Src.zc) (m := 2) (fun _ => rfl) HL.out (HR.out.below HB.out) hlt
        obtain ⟨xA, xn, xc, hx2⟩ := HXS.out x (List.mem_of_getElem? Hx.out)
        obtain ⟨xb, hxb⟩ : ∃ t, Src.bts x.1.1 = t := ⟨_, rfl⟩
        have HB2 := Lib.hid (HB.out.alloc HB.out.size (.cells #[.string xb, .slice xA xn xc] 53))
        obtain ⟨ad', y, rfl, hab', Hy, HL0'⟩ := Ix.reads_cells (enc := Src.zc) (m := 2) (fun _ => rfl) HL'.out (HR'.out.below HB2.out) hlt
        obtain ⟨yA, yn, yc, hy2⟩ := HYS.out y (List.mem_of_getElem? Hy.out)
        obtain ⟨yb, hyb⟩ : ∃ t, Src.bts y.1.1 = t := ⟨_, rfl⟩
        have hx0 : wr.cell? (ad.add (k * 2)) = some (.string xb) := by rw [← hxb]; exact HL0.out 0 _ rfl
        have hx1 : wr.cell? ⟨(ad.add (k * 2)).block, (ad.add (k * 2)).off + 1, none⟩ = some (.slice xA xn xc) := by rw [← hx2]; exact HL0.out 1 _ rfl
        have hy0 : (wr.alloc (.cells #[.string xb, .slice xA xn xc] 53)).cell? (ad'.add (k * 2)) = some (.string yb) := by rw [← hyb]; exact HL0'.out 0 _ rfl
        have hy1 : (wr.alloc (.cells #[.string xb, .slice xA xn xc] 53)).cell? ⟨(ad'.add (k * 2)).block, (ad'.add (k * 2)).off + 1, none⟩ = some (.slice yA yn yc) := by rw [← hy2]; exact HL0'.out 1 _ rfl
        have hwr := HB.out.size
        have HN := Ix.same_next HK.out Hx.out Hy.out
        have HC := fun W hb => HP.out W x y (List.mem_of_getElem? Hx.out) (List.mem_of_getElem? Hy.out) hb
        simp only [Src.zv, hxb, hyb, hx2, hy2] at HC
        have HB3 := Lib.hid (HB2.out.alloc HB2.out.size (.cells #[.string yb, .slice yA yn yc] 53))
        clear hxb hyb hx2 hy2
        cases hq : f x y with
        | true =>
          rw [hq] at HN
          simp only [hq] at HC
          replace HN := Lib.hid HN
          replace HC := Lib.hid HC
          clear hq
          go_wp2_with (go_at_fn g; refine (HC.out _ HB3.out).mono ?_; rintro e w' ⟨rfl, hb⟩)
          go_roundw
          case rel => exact ⟨k + 1, by omega, by go_num, HN.out, hb⟩
          case measure => simp [intOf]; omega
        | false =>
          rw [hq] at HN
          simp only [hq] at HC
          replace HN := Lib.hid HN
          replace HC := Lib.hid HC
          clear hq
          go_wp2_with (go_at_fn g; refine (HC.out _ HB3.out).mono ?_; rintro e w' ⟨rfl, hb⟩)
          go_ret
          exact ⟨ret_bool HN.out.symm, hb⟩
      · have q2 : ¬ (k : Int) < (n : Int) := by omega
        have HE := Lib.hid (Ix.same_end HK.out (by rw [HL.out]; omega) (by rw [HL'.out]; omega))
        go_wp2
        go_ret
        exact ⟨ret_bool HE.out.symm, HB.out⟩
  · have q1 : ((n : Int) == (n' : Int)) = false := by rw [beq_eq_false_iff_ne]; omega
    have HE := Lib.hid (Ix.same_len (f := f) (xs := xs) (ys := ys) (by omega))
    rw [← hX]
    clear hX hr hr' hl hl' hp hxs hys
    go_enter Tryz.func34, Tryz.ntmps34
    go_wp2
    go_ret
    exact ⟨ret_bool HE.out.symm, Below.refl _ _⟩
set_option maxHeartbeats 2000000 in
set_option maxRecDepth 100000 in
/-- source.Same. -/
theorem srcSame_any (s s' : Src.S) (rv zv lv rv' zv' lv' : Value) (evs evs' : List Value) (w : World) (hR : Src.SrcR w w.heap.size s rv zv lv evs) (hR' : Src.SrcR w w.heap.size s' rv' zv' lv' evs') :
    Calls Tryz.prog 11 #[.agg #[rv, zv, lv], .agg #[rv', zv', lv']] w fun e w' => e = .returned (.bool (Src.sameB s s')) ∧ Below w.heap.size w w' := by
  obtain ⟨rules, zones, links, op⟩ := s
  obtain ⟨rules', zones', links', op'⟩ := s'
  obtain ⟨⟨rA, rc, rfl, hr1, hr2, hr3⟩, ⟨zA, zc, rfl, hz1, hz2, hz3⟩, ⟨lA, lc, rfl, hl1, hl2, hl3⟩, hlen, hers⟩ := hR
  obtain ⟨⟨rA', rc', rfl, hr1', hr2', hr3'⟩, ⟨zA', zc', rfl, hz1', hz2', hz3'⟩, ⟨lA', lc', rfl, hl1', hl2', hl3'⟩, hlen', hers'⟩ := hR'
  unfold Src.sameB
  simp only at hr1 hr3 hz1 hz3 hl1 hl3 hlen hers hr1' hr3' hz1' hz3' hl1' hl3' hlen' hers' ⊢
  have hC1 : ∀ W, Below w.heap.size w W → _ := fun W hb => eqs_rule rA rA' rules.length rc rules'.length rc' rules rules' W (Nat.le_trans hr1 hr2) (Nat.le_trans hr1' hr2') rfl rfl ((hr3.below hb).more hb.size) ((hr3'.below hb).more hb.size)
  have hC2 : ∀ W, Below w.heap.size w W → _ := fun W hb => eqf_zone (fun p q => Src.zsame p.1 q.1) 31 #[] (enters_of Tryz.func31 (by kernel_rfl) rfl) zA zA' zones.length zc zones'.length zc' (zones.zip evs) (zones'.zip evs') W (Nat.le_trans hz1 hz2) (Nat.le_trans hz1' hz2') (by simp [hlen]) (by simp [hlen']) ((hz3.below hb).more hb.size) ((hz3'.below hb).more hb.size)
    (fun W' x y hx hy hbW => by
      have hb2 := hb.trans (hbW.mono hb.size)
      rw [show (#[Src.zv x, Src.zv y] ++ (#[] : Array Value)) = #[Src.zv x, Src.zv y] by simp]
      exact (sameZone_any x y W' (((hers x hx).below hb2).more hb2.size) (((hers' y hy).below hb2).more hb2.size)).mono fun e w' ⟨h, hb⟩ => ⟨h, hbW.trans (hb.mono hbW.size)⟩)
    (fun p hp => by obtain ⟨A, c, e, _⟩ := hers p hp; exact ⟨A, _, c, e⟩) (fun p hp => by obtain ⟨A, c, e, _⟩ := hers' p hp; exact ⟨A, _, c, e⟩)
  have hC3 : ∀ W, Below w.heap.size w W → _ := fun W hb => eqs_link lA lA' links.length lc links'.length lc' links links' W (Nat.le_trans hl1 hl2) (Nat.le_trans hl1' hl2') rfl rfl ((hl3.below hb).more hb.size) ((hl3'.below hb).more hb.size)
  rw [Src.same_fst Src.zsame zones zones' evs evs' hlen hlen'] at hC2
  obtain ⟨b1, hb1⟩ : ∃ b, Ix.same Ru.R.same rules rules' = b := ⟨_, rfl⟩
  obtain ⟨b2, hb2⟩ : ∃ b, Ix.same Src.zsame zones zones' = b := ⟨_, rfl⟩
  obtain ⟨b3, hb3⟩ : ∃ b, Ix.same Src.lsame links links' = b := ⟨_, rfl⟩
  rw [hb1] at hC1
  rw [hb2] at hC2
  rw [hb3] at hC3
  rw [hb1, hb2, hb3]
  obtain ⟨n1, hn1⟩ : ∃ n, rules.length = n := ⟨_, rfl⟩
  obtain ⟨n2, hn2⟩ : ∃ n, zones.length = n := ⟨_, rfl⟩
  obtain ⟨n3, hn3⟩ : ∃ n, links.length = n := ⟨_, rfl⟩
  obtain ⟨m1, hm1⟩ : ∃ n, rules'.length = n := ⟨_, rfl⟩
  obtain ⟨m2, hm2⟩ : ∃ n, zones'.length = n := ⟨_, rfl⟩
  obtain ⟨m3, hm3⟩ : ∃ n, links'.length = n := ⟨_, rfl⟩
  rw [hn1, hm1] at hC1
  rw [hn2, hm2] at hC2
  rw [hn3, hm3] at hC3
  rw [hn1, hn2, hn3, hm1, hm2, hm3]
  have HC1 := Lib.hid hC1
  have HC2 := Lib.hid hC2
  have HC3 := Lib.hid hC3
  clear hC1 hC2 hC3 hb1 hb2 hb3 hn1 hn2 hn3 hm1 hm2 hm3 hr1 hr2 hr3 hz1 hz2 hz3 hl1 hl2 hl3 hlen hers hr1' hr2' hr3' hz1' hz2' hz3' hl1' hl2' hl3' hlen' hers'
  obtain ⟨w0, hw0⟩ : ∃ x, (w.alloc (.cells #[.slice rA n1 rc, .slice zA n2 zc, .slice lA n3 lc] 26)).alloc (.cells #[.slice rA' m1 rc', .slice zA' m2 zc', .slice lA' m3 lc'] 26) = x := ⟨_, rfl⟩
  have HB := Lib.hid (show Below w.heap.size w w0 by rw [← hw0]; exact ((Below.refl _ _).alloc (Nat.le_refl _) _).alloc (by simp) _)
  have HA := Lib.hid (show At w0 w.heap.size [.slice rA n1 rc, .slice zA n2 zc, .slice lA n3 lc] by rw [← hw0]; exact (At.new w #[.slice rA n1 rc, .slice zA n2 zc, .slice lA n3 lc] 26).allocO _)
  have HA' := Lib.hid (show At w0 (w.heap.size + 1) [.slice rA' m1 rc', .slice zA' m2 zc', .slice lA' m3 lc'] by rw [← hw0]; have := At.new (w.alloc (.cells #[.slice rA n1 rc, .slice zA n2 zc, .slice lA n3 lc] 26)) #[.slice rA' m1 rc', .slice zA' m2 zc', .slice lA' m3 lc'] 26; simpa using this)
  have HW0 := Lib.hid hw0
  clear hw0
  go_enter Tryz.func11, Tryz.ntmps11
  go_wp2_with fail
  rw [HW0.out]
  refine (HC1.out _ HB.out).mono ?_
  rintro e w1 ⟨rfl, hd⟩
  have HA1 := Lib.hid (HA.out.drew hd)
  have HA1' := Lib.hid (HA'.out.drew hd)
  replace HB := Lib.hid (below_drew HB.out hd)
  clear hd
  obtain ⟨a0, a1, a2, _⟩ := HA1.out.three
  obtain ⟨c0, c1, c2, _⟩ := HA1'.out.three
  cases b1
  · go_wp2
    go_ret
    exact ⟨rfl, HB.out⟩
  go_wp2_with fail
  refine (HC2.out _ HB.out).mono ?_
  rintro e w2 ⟨rfl, hb⟩
  have HA2 := Lib.hid (HA1.out.call hb)
  have HA2' := Lib.hid (HA1'.out.call hb)
  replace HB := Lib.hid (below_then HB.out hb)
  clear hb a0 a1 a2 c0 c1 c2
  obtain ⟨a0, a1, a2, _⟩ := HA2.out.three
  obtain ⟨c0, c1, c2, _⟩ := HA2'.out.three
  cases b2
  · go_wp2
    go_ret
    exact ⟨rfl, HB.out⟩
  go_wp2_with fail
  refine (HC3.out _ HB.out).mono ?_
  rintro e w3 ⟨rfl, hd⟩
  replace HB := Lib.hid (below_drew HB.out hd)
  clear hd a0 a1 a2 c0 c1 c2
  cases b3
  · go_wp2
    go_ret
    exact ⟨rfl, HB.out⟩
  · go_wp2
    go_ret
    exact ⟨rfl, HB.out⟩
end Go.Proofs.YtlhoggalhjadgaaGreatDoor

/- source.Names. -/
namespace Go.Proofs.YtlhoggalhjadgaaGreatDoor
open Go.RowKit

namespace Src
def zoneNames (s : S) : List ByteArray := s.zones.map fun z => bts z.1
def linkNames (s : S) : List ByteArray := s.links.map fun k => bts k.2
def names (s : S) : List ByteArray := zoneNames s ++ linkNames s
theorem more_one {l : List ByteArray} {k : Nat} {x : ByteArray} (h : l[k]? = some x) : (l.take (k + 1)).map Value.string = (l.take k).map Value.string ++ [Value.string x] := by
  rw [List.take_add_one, h]
  simp
def NRel (W0 : World) (h : Nat) (cs : List Value) (pre l : List ByteArray) (n : Nat) (v i : Value) (wr : World) : Prop :=
  ∃ k : Nat, k ≤ n ∧ i = .int .i64 k ∧ Hid (wr.ownsRow W0.heap.size 9 1 v (pre.length + k) (pre.map Value.string ++ (l.take k).map Value.string)) ∧ Hid (At wr h cs) ∧ Hid (Below W0.heap.size W0 wr)
end Src
end Go.Proofs.YtlhoggalhjadgaaGreatDoor

/- The contract of scan.Join. -/
namespace Go.Proofs.YtlhoggalhjadgaaGreatDoor
open Go.RowKit

namespace Sc
def qall : List ByteArray → Option (List ByteArray)
  | [] => some []
  | s :: l => match quote s with
    | none => none
    | some q => (qall l).map (q :: ·)
theorem qall_some {s q : ByteArray} {l : List ByteArray} (h : quote s = some q) : qall (s :: l) = (qall l).map (q :: ·) := by rw [qall, h]
theorem qall_no {s : ByteArray} {l : List ByteArray} (h : quote s = none) : qall (s :: l) = none := by rw [qall, h]
theorem qall_more : ∀ (l : List ByteArray) (k : Nat) (qs : List ByteArray) (s q : ByteArray), qall (l.take k) = some qs → l[k]? = some s → quote s = some q → qall (l.take (k + 1)) = some (qs ++ [q])
  | [], k, qs, s, q, _, h, _ => by simp at h
  | x :: l, 0, qs, s, q, h1, h2, h3 => by
    simp only [List.take_zero] at h1
    have e1 : qs = [] := by rw [qall] at h1; exact (Option.some.inj h1).symm
    have e2 : x = s := by simpa using h2
    subst e1 e2
    rw [List.take_succ_cons, List.take_zero, qall_some h3]
    rfl
  | x :: l, k + 1, qs, s, q, h1, h2, h3 => by
    rw [List.take_succ_cons] at h1 ⊢
    cases hx : quote x with
    | none => rw [qall_no hx] at h1; cases h1
    | some y =>
      rw [qall_some hx] at h1 ⊢
      cases hy : qall (l.take k) with
      | none => rw [hy] at h1; cases h1
      | some ys =>
        rw [hy] at h1
        have e : qs = y :: ys := by simpa using h1.symm
        subst e
        rw [qall_more l k ys s q hy (by simpa using h2) h3]
        rfl
theorem qall_none : ∀ (l : List ByteArray) (k : Nat) (s : ByteArray), l[k]? = some s → quote s = none → qall l = none
  | [], k, s, h, _ => by simp at h
  | x :: l, 0, s, h, h2 => by
    have e : x = s := by simpa using h
    subst e
    exact qall_no h2
  | x :: l, k + 1, s, h, h2 => by
    cases hx : quote x with
    | none => exact qall_no hx
    | some y => rw [qall_some hx, qall_none l k s (by simpa using h) h2]; rfl
theorem quote_size {s q : ByteArray} (h : quote s = some q) : q.size ≤ s.size + 2 := by
  unfold quote at h
  cases hb : qgo (tl s) (decide (s = ⟨#[]⟩)) with
  | none => rw [hb] at h; cases h
  | some b =>
    rw [hb] at h
    cases b with
    | true =>
      have e : ⟨#[34]⟩ ++ s ++ ⟨#[34]⟩ = q := by simpa using h
      rw [← e, ByteArray.size_append, ByteArray.size_append]
      have : (⟨#[34]⟩ : ByteArray).size = 1 := rfl
      omega
    | false =>
      have e : s = q := by simpa using h
      rw [← e]
      omega
theorem qall_size : ∀ (l qs : List ByteArray) (m : Nat), qall l = some qs → (∀ t ∈ l, t.size ≤ m) → qs.length = l.length ∧ Lib.lens (qs.map (·.data.toList)) ≤ l.length * (m + 2)
  | [], qs, m, h, _ => by
    have e : qs = [] := by rw [qall] at h; exact (Option.some.inj h).symm
    subst e
    exact ⟨rfl, by simp [Lib.lens]⟩
  | x :: l, qs, m, h, hm => by
    cases hx : quote x with
    | none => rw [qall_no hx] at h; cases h
    | some y =>
      rw [qall_some hx] at h
      cases hy : qall l with
      | none => rw [hy] at h; cases h
      | some ys =>
        rw [hy] at h
        have e : qs = y :: ys := by simpa using h.symm
        subst e
        obtain ⟨i1, i2⟩ := qall_size l ys m hy fun t ht => hm t (List.mem_cons_of_mem _ ht)
        refine ⟨by simp [i1], ?_⟩
        have h1 := quote_size hx
        have h2 := hm x List.mem_cons_self
        have h3 : y.data.toList.length = y.size := by rw [Array.length_toList]; rfl
        have h4 : Lib.lens ((y :: ys).map (·.data.toList)) = y.data.toList.length + Lib.lens (ys.map (·.data.toList)) := by simp [Lib.lens]
        rw [h4, h3, List.length_cons, Nat.add_mul]
        omega
def line (qs : List ByteArray) : ByteArray := ⟨(Lib.join (qs.map (·.data.toList)) [32]).toArray⟩
def jv (ss : List ByteArray) : Value :=
  if 24 < ss.length then .tuple #[.string ⟨#[]⟩, .int .i64 6] else match qall ss with
  | none => .tuple #[.string ⟨#[]⟩, .int .i64 2]
  | some qs => if 2048 < (line qs).size then .tuple #[.string ⟨#[]⟩, .int .i64 6] else .tuple #[.string (line qs), .int .i64 0]
theorem line_size (qs : List ByteArray) : (line qs).size ≤ Lib.lens (qs.map (·.data.toList)) + qs.length := by
  unfold line
  show (Lib.join _ _).toArray.size ≤ _
  cases qs with
  | nil => simp [Lib.join_nil]
  | cons x r =>
    rw [List.map_cons, List.size_toArray, Lib.join_length]
    simp
    omega
def JRel (W0 : World) (ss : List ByteArray) (n : Nat) (v i : Value) (wr : World) : Prop :=
  ∃ (k : Nat) (qs : List ByteArray), k ≤ n ∧ i = .int .i64 k ∧ Hid (qall (ss.take k) = some qs) ∧ Hid (wr.ownsRow W0.heap.size 9 1 v k (qs.map Value.string)) ∧ Hid (Below W0.heap.size W0 wr)
end Sc
theorem join_row {w : World} {base n : Nat} {v : Value} {qs : List ByteArray} (h : w.ownsRow base 9 1 v n (qs.map Value.string)) (hn : qs.length ≤ 24) (hl : (Sc.line qs).size ≤ 140737488355328) :
    Calls Tryz.prog 82 #[v, .string ⟨#[32]⟩] w fun e w' => e = .returned (.string (Sc.line qs)) ∧ Below w.heap.size w w' := by
  obtain ⟨A, c, rfl, hc1, hc2⟩ := own_slice_cap h
  have hr := Reads.of_own h
  have hlen : qs.length = n := by have := h.1; simpa using this
  rcases Nat.eq_zero_or_pos n with h0 | h0
  · subst h0
    have e : qs = [] := List.eq_nil_of_length_eq_zero hlen
    subst e
    exact (Tryz.strings_Join_none A c ⟨#[32]⟩ w).mono fun e w' ⟨he, hw⟩ => ⟨by rw [he]; rfl, by rw [hw]; exact Below.refl _ _⟩
  · rcases h.2 with ⟨hv, _⟩ | ⟨g, cap, cur, hv, _, hg, _⟩
    · cases hv; omega
    · injection hv with e1 e2 e3
      subst e1 e3
      obtain ⟨ad, e, hb, hc⟩ := hr.2 h0
      cases e
      have := Tryz.strings_Join g 0 c qs ⟨#[32]⟩ w (fun j x hx => by have hj := hc j _ (show (qs.map Value.string)[j]? = some (.string x) by rw [List.getElem?_map, hx]; rfl); rw [Nat.zero_add]; rcases Nat.eq_zero_or_pos j with h00 | h00; (subst h00; exact hj); simpa [Addr.add, show ¬ j = 0 by omega] using hj) hb (by omega) (by omega) hl
      rw [hlen] at this
      exact this
set_option maxHeartbeats 2000000 in
set_option maxRecDepth 100000 in
theorem join_any (A : Option Addr) (n c : Nat) (ss : List ByteArray) (w : World) (_hn : n ≤ c) (_hc : c ≤ maxLen) (hr : Reads w w.heap.size 1 A n (ss.map Value.string)) (hs : ∀ t ∈ ss, t.size ≤ 1000000) :
    Calls Tryz.prog 61 #[.slice A n c] w fun e w' => e = .returned (Sc.jv ss) ∧ Below w.heap.size w w' := by
  have hlen : ss.length = n := by have := hr.1; simpa using this
  by_cases h24 : n ≤ 24
  · have q24 : ¬ (24 : Int) < (n : Int) := by omega
    obtain ⟨E, hE⟩ : ∃ E, Ending.returned (Sc.jv ss) = E := ⟨_, rfl⟩
    have hEn : Sc.qall ss = none → E = .returned (.tuple #[.string ⟨#[]⟩, .int .i64 2]) := by intro h; rw [← hE]; unfold Sc.jv; rw [if_neg (by omega), h]
    have hEl : ∀ qs, Sc.qall ss = some qs → 2048 < (Sc.line qs).size → E = .returned (.tuple #[.string ⟨#[]⟩, .int .i64 6]) := by intro qs h h2; rw [← hE]; unfold Sc.jv; rw [if_neg (by omega), h]; simp only; rw [if_pos h2]
    have hEo : ∀ qs, Sc.qall ss = some qs → ¬ 2048 < (Sc.line qs).size → E = .returned (.tuple #[.string (Sc.line qs), .int .i64 0]) := by intro qs h h2; rw [← hE]; unfold Sc.jv; rw [if_neg (by omega), h]; simp only; rw [if_neg h2]
    have hQs : ∀ qs, Sc.qall ss = some qs → qs.length = n ∧ (Sc.line qs).size ≤ 30000000 := by
      intro qs h
      obtain ⟨i1, i2⟩ := Sc.qall_size ss qs 1000000 h hs
      have := Sc.line_size qs
      have h3 : ss.length * (1000000 + 2) ≤ 24 * (1000000 + 2) := Nat.mul_le_mul_right _ (by omega)
      exact ⟨by omega, by omega⟩
    rw [hE]
    have HEn := Lib.hid hEn
    have HEl := Lib.hid hEl
    have HEo := Lib.hid hEo
    have HQs := Lib.hid hQs
    have HLen := Lib.hid hlen
    have HR := Lib.hid hr
    have HS := Lib.hid hs
    clear hE hEn hEl hEo hQs hr hs hlen
    obtain ⟨i0, i1, i2, i3, i4⟩ := info_parts str_info
    have HI := Lib.hid (And.intro i1 (And.intro i2 (And.intro i3 i4)))
    clear i1 i2 i3 i4
    have hmk := fun W : World => run_make (P := Tryz.prog) W 48 9 i0 _ Tryz.underlying48 HI.out.1 HI.out.2.1 .i64 .i64 0 (n : Int) (by omega) (by omega) (by rw [HI.out.2.2.2]; omega) (by omega)
    rw [HI.out.2.2.1] at hmk
    obtain ⟨MC, hMC⟩ : ∃ x, madeCells (Value.string ⟨#[]⟩).cells ((n : Int).toNat * 1) = x := ⟨_, rfl⟩
    rw [hMC] at hmk
    have hMs : MC.size = n := by rw [← hMC, size_madeCells]; simp
    clear hMC
    have HO0 := Lib.hid (show (w.alloc (.cells MC 9)).ownsRow w.heap.size 9 1 (.slice (some ⟨w.heap.size, 0, none⟩) 0 n) 0 [] from World.ownsRow_made w MC n (Nat.le_refl _) (by unfold maxLen; omega) (by omega))
    go_enter Tryz.func61, Tryz.ntmps61
    go_wp2_with fail
    go_loopw [4, 18] (fun v i wr => Sc.JRel w ss n v i wr) (fun _ i _ => n - (intOf i).toNat)
    case atStart => exact ⟨0, [], Nat.zero_le _, rfl, rfl, HO0.out, (Below.refl _ _).alloc (Nat.le_refl _) _⟩
    case round =>
      obtain ⟨k, qs, hk, rfl, HQ, HO, HB⟩ := hrel
      obtain ⟨vA, vc, hv, hv1, hv2⟩ := own_slice_cap HO.out
      subst hv
      have hwr := HB.out.size
      by_cases hlt : k < n
      · have q1 : (0 : Int) ≤ (k : Int) := by omega
        have q2 : (k : Int) < (n : Int) := by omega
        obtain ⟨ad, x, rfl, Hx, c0⟩ : ∃ ad nm, A = some ad ∧ Hid (ss[k]? = some nm) ∧ wr.cell? (ad.add k) = some (.string nm) := reads_str (HR.out.below HB.out) hlt
        have hxs : x.size ≤ 1000000 := HS.out x (List.mem_of_getElem? Hx.out)
        cases hq : Sc.quote x with
        | none =>
          have HN := Lib.hid (HEn.out (Sc.qall_none ss k x Hx.out hq))
          have HQu := Lib.hid fun W => (show Calls Tryz.prog 81 #[.string x] W fun e w' => e = .returned (.tuple #[.string ⟨#[]⟩, .int .i64 2]) ∧ W = w' from by have := quote_any x W (by omega); rw [hq] at this; exact this)
          clear hq
          go_wp2_with fail
          refine (HQu.out _).mono ?_
          rintro e w1 ⟨rfl, rfl⟩
          go_wp2
          go_ret2
          exact ⟨HN.out.symm, HB.out⟩
        | some q =>
          have HQ2 := Lib.hid (Sc.qall_more ss k qs x q HQ.out Hx.out hq)
          have HQu := Lib.hid fun W => (show Calls Tryz.prog 81 #[.string x] W fun e w' => e = .returned (.tuple #[.string q, .int .i64 0]) ∧ W = w' from by have := quote_any x W (by omega); rw [hq] at this; exact this)
          have HAp := fun {ops : Array Oper} {rest : List Oper} {o : Oper} {a : Act} {Q : Exit → Act → World → Prop} (hgd : o.guard = none) (ho : o.op = .call { callee := .builtin .append, args := #[.tmp 30, .tmp 32], argTypes := #[48, 48] }) (hs : a.eval (.tmp 30) = .slice vA k vc) (hx : a.eval (.tmp 32) = .slice (some ⟨wr.heap.size, 0, none⟩) 1 1) h => wpList_append_any (P := Tryz.prog) (ops := ops) (rest := rest) (o := o) (a := a) (Q := Q) (wr.alloc (.cells #[.string q] 9)) hgd (.tmp 30) (.tmp 32) 48 ho w.heap.size 9 i0 _ 1 16 Tryz.underlying48 HI.out.1 HI.out.2.1 HI.out.2.2.1 HI.out.2.2.2 rfl (by decide) _ k _ hs (HO.out.alloc _) (wr.alloc (.cells #[.string q] 9)).heap.size _ 1 1 _ hx (er_reads wr wr.heap.size [q] 9 rfl) (by simp [Value.oneCell']) (by unfold maxLen; omega) (by omega) (by simp; omega) h
          clear hq
          go_wp2_with fail
          refine (HQu.out _).mono ?_
          rintro e w1 ⟨rfl, rfl⟩
          go_wp2_with (at_builtin; refine HAp rfl rfl rfl rfl ?_; intro v9' w9 hown9 hg9 hat9)
          have HO9 := Lib.hid (show w9.ownsRow w.heap.size 9 1 v9' (k + 1) ((qs ++ [q]).map Value.string) by simpa using hown9)
          have HB9 := Lib.hid (show Below w.heap.size w w9 from (HB.out.alloc HB.out.size _).grown hg9 (by simp; omega) (fun kk hkk => (HO.out.lt kk hkk).1))
          clear hown9 hg9 hat9 HAp c0
          go_wp2
          go_roundw
          case rel => exact ⟨k + 1, qs ++ [q], by omega, by go_num, HQ2.out, HO9.out, HB9.out⟩
          case measure => simp [intOf]; omega
      · have q2 : ¬ (k : Int) < (n : Int) := by omega
        have hkn : k = n := by omega
        subst hkn
        have hqa : Sc.qall ss = some qs := by have := HQ.out; rw [List.take_of_length_le (by rw [HLen.out]; exact Nat.le_refl _)] at this; exact this
        obtain ⟨hq1, hq2⟩ := HQs.out qs hqa
        have HJ := Lib.hid (join_row HO.out (by omega) (by omega))
        by_cases hL : 2048 < (Sc.line qs).size
        · have HN := Lib.hid (HEl.out qs hqa hL)
          obtain ⟨Y, hY⟩ : ∃ Y, Sc.line qs = Y := ⟨_, rfl⟩
          rw [hY] at HJ hL hq2
          have q5 : (2048 : Int) < (Y.size : Int) := by omega
          clear hY hqa hL
          go_wp2_with fail
          refine HJ.out.mono ?_
          rintro e w1 ⟨rfl, hb⟩
          have HB1 := Lib.hid (below_then HB.out hb)
          clear hb
          go_wp2
          go_ret2
          exact ⟨HN.out.symm, HB1.out⟩
        · have HN := Lib.hid (HEo.out qs hqa hL)
          obtain ⟨Y, hY⟩ : ∃ Y, Sc.line qs = Y := ⟨_, rfl⟩
          rw [hY] at HJ hL hq2 HN
          have q5 : ¬ (2048 : Int) < (Y.size : Int) := by omega
          clear hY hqa hL
          go_wp2_with fail
          refine HJ.out.mono ?_
          rintro e w1 ⟨rfl, hb⟩
          have HB1 := Lib.hid (below_then HB.out hb)
          clear hb
          go_wp2
          go_ret2
          exact ⟨HN.out.symm, HB1.out⟩
  · have q24 : (24 : Int) < (n : Int) := by omega
    have hE : Sc.jv ss = .tuple #[.string ⟨#[]⟩, .int .i64 6] := by unfold Sc.jv; rw [if_pos (by omega)]
    rw [hE]
    clear hr hs hE
    go_enter Tryz.func61, Tryz.ntmps61
    go_wp2
    go_ret2
    exact ⟨rfl, Below.refl _ _⟩
end Go.Proofs.YtlhoggalhjadgaaGreatDoor

/- The shelf's contracts of strings.Builder's writers and of slices.Grow at this dump: the tables of numbers written by hand. -/
namespace Go.Proofs
open Go.Shelf Go.RowKit

def Tryz.pr_ren : Go.Shelf.Ren := ⟨fun | 166 => 39 | 167 => 40 | 240 => 64 | 276 => 84 | n => n, Tryz.lays156_ren.t, fun | n => n⟩
theorem Tryz.pr166 : Lays.n166 Tryz.prog Tryz.pr_ren := { Tryz.lays156 with
  f166 := Tryz.func39.trans (congrArg some (by kernel_rfl))
  f240 := Tryz.func64.trans (congrArg some (by kernel_rfl))
  f276 := Tryz.func84.trans (congrArg some (by kernel_rfl)) }
theorem Tryz.pr167 : Lays.n167 Tryz.prog Tryz.pr_ren := { Tryz.lays156, Tryz.Builder_Extra_156 with
  f167 := Tryz.func40.trans (congrArg some (by kernel_rfl))
  f240 := Tryz.func64.trans (congrArg some (by kernel_rfl))
  f276 := Tryz.func84.trans (congrArg some (by kernel_rfl)) }
theorem Tryz.prX : Builder.Extra Tryz.prog Tryz.pr_ren := {
  sizeBuilder := by kernel_rfl
  liesBuilder := by kernel_rfl
  t5 := Tryz.underlying5
  a5 := Tryz.isAgg5
  z5 := Tryz.sizeOf5
  v5 := Tryz.zeroValue5
  infoByte := by kernel_rfl
  cellsByte := by kernel_rfl
  sizeByte := by kernel_rfl
  neB5 := by decide }
theorem Tryz.prWriteByte (B b : Nat) (bs : List Value) (c : Int) (w : World) (h : Lib.IsBuilderF 66 5 B b bs w) (hlen : bs.length + 1 ≤ 140737488355328) (hBw : B ≤ w.heap.size) :
    Calls Tryz.prog 40 #[.pointer (some ⟨b, 0, none⟩), .int .u8 c] w fun e w' => e = .returned .nilIface ∧ (Lib.BuilderAtF 66 5 B b (.pointer (some ⟨b, 0, none⟩)) (bs ++ [.int .u8 c]) w' ∧ Below B w w' ∧ Lib.OthersKept 5 (some b) w w') :=
  Any.Builder_WriteByte_k Tryz.pr167 Tryz.prX B b bs c w h hlen hBw
theorem Tryz.prWriteString (B b : Nat) (bs : List Value) (s : ByteArray) (w : World) (h : Lib.IsBuilderF 66 5 B b bs w) (hlen : bs.length + s.size ≤ 140737488355328) (hBw : B ≤ w.heap.size) :
    Calls Tryz.prog 39 #[.pointer (some ⟨b, 0, none⟩), .string s] w fun e w' => e = .returned (.tuple #[.int .i64 s.size, .nilIface]) ∧ (Lib.BuilderAtF 66 5 B b (.pointer (some ⟨b, 0, none⟩)) (bs ++ Lib.strCells s) w' ∧ Below B w w' ∧ Lib.OthersKept 5 (some b) w w') :=
  Any.Builder_WriteString_k Tryz.pr166 Tryz.prX B b bs s w h hlen hBw
def Tryz.gr_ren : Go.Shelf.Ren := ⟨fun | 4 => 83 | n => n, fun | 0 => 0 | 3 => 3 | 4 => 4 | 9 => 9 | 20 => 20 | 22 => 48 | 25 => 9 | n => n, fun | n => n⟩
theorem Tryz.gr4 : Lays8.n4 Tryz.prog Tryz.gr_ren where
  mixed := by kernel_rfl
  f4 := ⟨"slices.Grow[[]string,string]", by decide, Tryz.func83.trans (congrArg some (by kernel_rfl))⟩
  t0 := Tryz.underlying0
  a0 := Tryz.isAgg0
  z0 := Tryz.sizeOf0
  v0 := Tryz.zeroValue0
  t3 := Tryz.underlying3
  a3 := Tryz.isAgg3
  z3 := Tryz.sizeOf3
  v3 := Tryz.zeroValue3
  t4 := Tryz.underlying4
  a4 := Tryz.isAgg4
  z4 := Tryz.sizeOf4
  v4 := Tryz.zeroValue4
  t9 := Tryz.underlying9
  a9 := Tryz.isAgg9
  z9 := Tryz.sizeOf9
  v9 := Tryz.zeroValue9
  t20 := Tryz.underlying20
  a20 := Tryz.isAgg20
  z20 := Tryz.sizeOf20
  v20 := Tryz.zeroValue20
  t22 := Tryz.underlying48
  a22 := Tryz.isAgg48
  z22 := Tryz.sizeOf48
  v22 := Tryz.zeroValue48
theorem Tryz.slices_Grow_room (base : Option Addr) (l c n : Nat) (w : World) (hlc : l ≤ c) (hc63 : c ≤ 9223372036854775807) (hn63 : n ≤ 9223372036854775807) (hroom : l + n ≤ c) :
    Calls Tryz.prog 83 #[.slice base l c, .int .i64 n] w fun e w' => e = .returned (.slice base l c) ∧ w' = w := Any8.slices_Grow_room Tryz.gr4 base l c n w hlc hc63 hn63 hroom
theorem Tryz.slices_Grow_grow (i0 : TypeInfo) (z : Value) (hi0 : Tryz.prog.info? 9 = some i0) (hz0 : i0.zero = some z) (hs0 : 0 < i0.size)
    (base : Option Addr) (l c n : Nat) (cs : List Value) (w : World) (hlc : l ≤ c) (hroom : c < l + n) (hbig : (l + n) * i0.bytes ≤ 140737488355328) (h63 : l + n ≤ 4611686018427387904)
    (hcl : cs.length = c * i0.size) (hnil : base = none → c = 0) (hcs : ∀ a, base = some a → ∀ j v, cs[j]? = some v → w.cell? (a.add j) = some v) :
    Calls Tryz.prog 83 #[.slice base l c, .int .i64 n] w fun e w' =>
      e = .returned (.slice (some ⟨w.heap.size, 0, none⟩) l (grownCap w (l + n) c 9)) ∧
      w' = w.drew.alloc (.cells (cs.toArray ++ Builtin.zeroCells z.cells (l + n - c) ++ Builtin.zeroCells z.cells (grownCap w (l + n) c 9 - (l + n))) 9) :=
  Any8.slices_Grow_grow Tryz.gr4 i0 z hi0 hz0 hs0 base l c n cs w hlc hroom hbig h63 hcl hnil hcs
end Go.Proofs

/- print.join: slices.Concat of two rows of strings, and scan.Join of what they are together. -/
namespace Go.Proofs.YtlhoggalhjadgaaGreatDoor
open Go.RowKit

set_option maxHeartbeats 1000000 in
theorem grow_any (n : Nat) (w : World) (hn : n ≤ 1000000) :
    Calls Tryz.prog 83 #[.slice none 0 0, .int .i64 n] w fun e w' => ∃ v, e = .returned v ∧ w'.ownsRow w.heap.size 9 1 v 0 [] ∧ Below w.heap.size w w' := by
  rcases Nat.eq_zero_or_pos n with h0 | h0
  · subst h0
    refine (Tryz.slices_Grow_room none 0 0 0 w (Nat.le_refl _) (by decide) (by decide) (by decide)).mono ?_
    rintro e w' ⟨rfl, rfl⟩
    exact ⟨_, rfl, Go.World.ownsRow_nil _ _ _ _, Below.refl _ _⟩
  · obtain ⟨i0, i1, i2, i3, i4⟩ := info_parts str_info
    refine (Tryz.slices_Grow_grow i0 _ i1 i2 (by rw [i3]; decide) none 0 0 n [] w (Nat.le_refl _) (by omega) (by rw [i4]; omega) (by omega) (by rw [i3]; rfl) (fun _ => rfl) (fun a h => by cases h)).mono ?_
    rintro e w' ⟨rfl, rfl⟩
    refine ⟨_, rfl, ?_, ?_⟩
    · obtain ⟨C, hC⟩ : ∃ C, grownCap w (0 + n) 0 9 = C := ⟨_, rfl⟩
      have hge : n ≤ C := by rw [← hC]; have := grownCap_ge w (0 + n) 0 9; omega
      have hle : C ≤ maxLen := by rw [← hC]; exact grownCap_le_maxLen w (0 + n) 0 9 (by unfold maxLen; omega)
      rw [hC]
      obtain ⟨MC, hMC⟩ : ∃ x, ([] : List Value).toArray ++ Builtin.zeroCells (Value.string ⟨#[]⟩).cells (0 + n - 0) ++ Builtin.zeroCells (Value.string ⟨#[]⟩).cells (C - (0 + n)) = x := ⟨_, rfl⟩
      have hMs : MC.size = C := by
        rw [← hMC]
        simp [Builtin.zeroCells, Value.cells]
        omega
      rw [hMC]
      exact World.ownsRow_made w.drew MC C (Nat.le_refl _) hle (by omega)
    · exact (Below.refl w.heap.size w).drew.alloc (Nat.le_refl _) _
def CRel1 (n1 n2 : Nat) (v i : Value) : Prop := (i = .int .i64 0 ∧ v = .int .i64 0) ∨ (i = .int .i64 1 ∧ v = .int .i64 n1) ∨ (i = .int .i64 2 ∧ v = .int .i64 (n1 + n2 : Nat))
def CRel2 (W0 : World) (n1 n2 : Nat) (ss1 ss2 : List ByteArray) (v i : Value) (wr : World) : Prop :=
  Hid (Below W0.heap.size W0 wr) ∧ ((i = .int .i64 0 ∧ Hid (wr.ownsRow W0.heap.size 9 1 v 0 [])) ∨ (i = .int .i64 1 ∧ Hid (wr.ownsRow W0.heap.size 9 1 v n1 (ss1.map Value.string))) ∨ (i = .int .i64 2 ∧ Hid (wr.ownsRow W0.heap.size 9 1 v (n1 + n2) ((ss1 ++ ss2).map Value.string))))
set_option maxHeartbeats 2000000 in
set_option maxRecDepth 100000 in
theorem concat2_any (g : Nat) (A1 A2 : Option Addr) (n1 n2 c1 c2 : Nat) (ss1 ss2 : List ByteArray) (w : World) (hg : g < w.heap.size) (k0 : w.cell? ⟨g, 0, none⟩ = some (.slice A1 n1 c1)) (k1 : w.cell? ⟨g, 1, none⟩ = some (.slice A2 n2 c2))
    (hr1 : Reads w w.heap.size 1 A1 n1 (ss1.map Value.string)) (hr2 : Reads w w.heap.size 1 A2 n2 (ss2.map Value.string)) (hn1 : n1 ≤ 10000) (hn2 : n2 ≤ 10000) :
    Calls Tryz.prog 62 #[.slice (some ⟨g, 0, none⟩) 2 2] w fun e w' => ∃ v, e = .returned v ∧ w'.ownsRow w.heap.size 9 1 v (n1 + n2) ((ss1 ++ ss2).map Value.string) ∧ Below w.heap.size w w' := by
  have HK0 := Lib.hid k0
  have HK1 := Lib.hid k1
  have HR1 := Lib.hid hr1
  have HR2 := Lib.hid hr2
  have HG := Lib.hid (grow_any (n1 + n2))
  clear hr1 hr2
  obtain ⟨i0, i1, i2, i3, i4⟩ := info_parts str_info
  have HI := Lib.hid (And.intro i1 (And.intro i2 (And.intro i3 i4)))
  clear i1 i2 i3 i4
  have w1 : IntKind.i64.wrap ((0 : Int) + (n1 : Int)) = (n1 : Int) := by rw [Int.zero_add]; exact IntWalk.i64_in _ (by omega)
  have w1' : IntKind.i64.wrap (n1 : Int) = (n1 : Int) := IntWalk.i64_in _ (by omega)
  have w2 : IntKind.i64.wrap ((n1 : Int) + (n2 : Int)) = ((n1 + n2 : Nat) : Int) := by rw [← Int.natCast_add]; exact IntWalk.i64_in _ (by omega)
  have q1 : ¬ ((n1 : Int) < 0) := by omega
  have q2 : ¬ (((n1 + n2 : Nat) : Int) < 0) := by omega
  go_enter Tryz.func62, Tryz.ntmps62
  go_wp2
  go_loop [3, 11] (fun v i => CRel1 n1 n2 v i) (fun _ i => 2 - (intOf i).toNat)
  case atStart => exact .inl ⟨rfl, rfl⟩
  case round =>
    rcases hrel with ⟨rfl, rfl⟩ | ⟨rfl, rfl⟩ | ⟨rfl, rfl⟩
    · go_wp2
      go_round
      case rel => exact .inr (.inl ⟨rfl, by go_num⟩)
      case measure => decide
    · go_wp2
      go_round
      case rel => exact .inr (.inr ⟨rfl, by go_num⟩)
      case measure => decide
    · go_wp2_with fail
      refine (HG.out w (by omega)).mono ?_
      rintro e w1 ⟨v, rfl, hown, hb⟩
      have HO := Lib.hid hown
      have HB := Lib.hid hb
      clear hown hb k0 k1
      go_wp2
      go_loopw [6, 27] (fun v i wr => CRel2 w n1 n2 ss1 ss2 v i wr) (fun _ i _ => 2 - (intOf i).toNat)
      case atStart => exact ⟨HB.out, .inl ⟨rfl, HO.out⟩⟩
      case round =>
        obtain ⟨HBr, ⟨rfl, HOr⟩ | ⟨rfl, HOr⟩ | ⟨rfl, HOr⟩⟩ := hrel
        · have k0 : wr.cell? ⟨g, 0, none⟩ = some (.slice A1 n1 c1) := (HBr.out.cell (p := ⟨g, 0, none⟩) hg).trans HK0.out
          have hwr := HBr.out.size
          obtain ⟨vA, vc, hv, hv1, hv2⟩ := own_slice_cap HOr.out
          subst hv
          have HRx := Lib.hid (HR1.out.below HBr.out)
          have HAp := fun {ops : Array Oper} {rest : List Oper} {o : Oper} {a : Act} {Q : Exit → Act → World → Prop} (hgd : o.guard = none) (ho : o.op = .call { callee := .builtin .append, args := #[.tmp 31, .tmp 32], argTypes := #[48, 48] }) (hs : a.eval (.tmp 31) = .slice vA 0 vc) (hx : a.eval (.tmp 32) = .slice A1 n1 c1) h => wpList_append_any (P := Tryz.prog) (ops := ops) (rest := rest) (o := o) (a := a) (Q := Q) wr hgd (.tmp 31) (.tmp 32) 48 ho w.heap.size 9 i0 _ 1 16 Tryz.underlying48 HI.out.1 HI.out.2.1 HI.out.2.2.1 HI.out.2.2.2 rfl (by decide) _ 0 _ hs HOr.out w.heap.size _ n1 c1 _ hx HRx.out (fun u hu => by rw [List.mem_map] at hu; obtain ⟨s, _, rfl⟩ := hu; rfl) (by unfold maxLen; omega) (by omega) hwr h
          go_wp2_with (at_builtin; refine HAp rfl rfl rfl rfl ?_; intro v9' w9 hown9 hg9 hat9)
          have HO9 := Lib.hid (show w9.ownsRow w.heap.size 9 1 v9' n1 (ss1.map Value.string) by simpa using hown9)
          have HB9 := Lib.hid (show Below w.heap.size w w9 from HBr.out.grown hg9 hwr (fun kk hkk => (HOr.out.lt kk hkk).1))
          clear hown9 hg9 hat9 HAp k0
          go_wp2
          go_roundw
          case rel => exact ⟨HB9.out, .inr (.inl ⟨rfl, HO9.out⟩)⟩
          case measure => decide
        · have k1 : wr.cell? ⟨g, 1, none⟩ = some (.slice A2 n2 c2) := (HBr.out.cell (p := ⟨g, 1, none⟩) hg).trans HK1.out
          have hwr := HBr.out.size
          obtain ⟨vA, vc, hv, hv1, hv2⟩ := own_slice_cap HOr.out
          subst hv
          have HRx := Lib.hid (HR2.out.below HBr.out)
          have HAp := fun {ops : Array Oper} {rest : List Oper} {o : Oper} {a : Act} {Q : Exit → Act → World → Prop} (hgd : o.guard = none) (ho : o.op = .call { callee := .builtin .append, args := #[.tmp 31, .tmp 32], argTypes := #[48, 48] }) (hs : a.eval (.tmp 31) = .slice vA n1 vc) (hx : a.eval (.tmp 32) = .slice A2 n2 c2) h => wpList_append_any (P := Tryz.prog) (ops := ops) (rest := rest) (o := o) (a := a) (Q := Q) wr hgd (.tmp 31) (.tmp 32) 48 ho w.heap.size 9 i0 _ 1 16 Tryz.underlying48 HI.out.1 HI.out.2.1 HI.out.2.2.1 HI.out.2.2.2 rfl (by decide) _ n1 _ hs HOr.out w.heap.size _ n2 c2 _ hx HRx.out (fun u hu => by rw [List.mem_map] at hu; obtain ⟨s, _, rfl⟩ := hu; rfl) (by unfold maxLen; omega) (by omega) hwr h
          go_wp2_with (at_builtin; refine HAp rfl rfl rfl rfl ?_; intro v9' w9 hown9 hg9 hat9)
          have HO9 := Lib.hid (show w9.ownsRow w.heap.size 9 1 v9' (n1 + n2) ((ss1 ++ ss2).map Value.string) by rw [List.map_append]; exact hown9)
          have HB9 := Lib.hid (show Below w.heap.size w w9 from HBr.out.grown hg9 hwr (fun kk hkk => (HOr.out.lt kk hkk).1))
          clear hown9 hg9 hat9 HAp k1
          go_wp2
          go_roundw
          case rel => exact ⟨HB9.out, .inr (.inr ⟨rfl, HO9.out⟩)⟩
          case measure => decide
        · go_wp2
          go_ret
          exact ⟨_, rfl, HOr.out, HBr.out⟩
/-- print.join: what is in front, and then the texts. -/
theorem prJoin_any (A1 A2 : Option Addr) (n1 n2 c1 c2 : Nat) (ss1 ss2 : List ByteArray) (w : World) (hr1 : Reads w w.heap.size 1 A1 n1 (ss1.map Value.string)) (hr2 : Reads w w.heap.size 1 A2 n2 (ss2.map Value.string)) (hn1 : n1 ≤ 10000) (hn2 : n2 ≤ 10000)
    (hs : ∀ t ∈ ss1 ++ ss2, t.size ≤ 1000000) :
    Calls Tryz.prog 37 #[.slice A2 n2 c2, .slice A1 n1 c1] w fun e w' => e = .returned (Sc.jv (ss1 ++ ss2)) ∧ Below w.heap.size w w' := by
  obtain ⟨w0, hw0⟩ : ∃ x, w.alloc (.cells #[.slice A1 n1 c1, .slice A2 n2 c2] 48) = x := ⟨_, rfl⟩
  have hb0 : Below w.heap.size w w0 := by rw [← hw0]; exact (Below.refl _ _).alloc (Nat.le_refl _) _
  have hsz : w0.heap.size = w.heap.size + 1 := by rw [← hw0]; simp
  have hA : At w0 w.heap.size [.slice A1 n1 c1, .slice A2 n2 c2] := by rw [← hw0]; exact At.new w #[.slice A1 n1 c1, .slice A2 n2 c2] 48
  obtain ⟨a0, a1, _⟩ := hA.two
  have HC := Lib.hid (concat2_any w.heap.size A1 A2 n1 n2 c1 c2 ss1 ss2 w0 (by omega) a0 a1 ((hr1.below hb0).more (by omega)) ((hr2.below hb0).more (by omega)) hn1 hn2)
  have HB0 := Lib.hid hb0
  have HJ := Lib.hid fun (A : Option Addr) (c : Nat) (W : World) (h1 : n1 + n2 ≤ c) (h2 : c ≤ maxLen) h3 => join_any A (n1 + n2) c (ss1 ++ ss2) W h1 h2 h3 hs
  clear hr1 hr2 hs a0 a1 hA hb0 hsz
  go_enter Tryz.func37, Tryz.ntmps37
  go_wp2_with fail
  refine HC.out.mono ?_
  rintro e w1 ⟨v, rfl, hown, hb⟩
  obtain ⟨A, c, rfl, h1, h2⟩ := own_slice_cap hown
  have HR := Lib.hid (Reads.of_own hown)
  have HB1 := Lib.hid (HB0.out.trans (hb.mono HB0.out.size))
  clear hown hb
  go_wp2_with fail
  refine (HJ.out A c w1 h1 h2 HR.out).mono ?_
  rintro e w2 ⟨rfl, hb⟩
  have HB2 := Lib.hid (below_then HB1.out hb)
  clear hb
  obtain ⟨V, hV⟩ : ∃ V, Sc.jv (ss1 ++ ss2) = V := ⟨_, rfl⟩
  obtain ⟨s, k, hsk⟩ : ∃ s k, Sc.jv (ss1 ++ ss2) = .tuple #[.string s, .int .i64 k] := by
    unfold Sc.jv
    split
    · exact ⟨_, _, rfl⟩
    · split
      · exact ⟨_, _, rfl⟩
      · split
        · exact ⟨_, _, rfl⟩
        · exact ⟨_, _, rfl⟩
  rw [hsk]
  go_wp2
  go_ret2
  exact ⟨by rw [hsk]; rfl, HB2.out⟩
end Go.Proofs.YtlhoggalhjadgaaGreatDoor
