/- intake.told, intake.Value: a value's line. -/
import Derived.Test.YthmhadgbhakdlaaGreatDoorK09
import Derived.Test.YthmhadgbhakdlaaGreatDoorK06
import Derived.Test.YthmhadgbhakdlaaGreatDoorK01
import Derived.Orders
import Derived.RegionTactic

namespace Go.Proofs.YthmhadgbhakdlaaGreatDoor
open Go.RowKit

namespace Ink
open Em
theorem cut_hit (p r : Txt) : Lib.trimPrefix (p ++ r) p = r ∧ Lib.hasPrefix (p ++ r) p = true := by
  have h : Lib.hasPrefix (p ++ r) p = true := List.isPrefixOf_iff_prefix.2 (List.prefix_append p r)
  refine ⟨?_, h⟩
  unfold Lib.trimPrefix
  rw [if_pos h, List.drop_left]
theorem cut_miss {s p : Txt} (h : s.head? ≠ p.head?) (hp : p ≠ []) : Lib.trimPrefix s p = s ∧ Lib.hasPrefix s p = false := by
  have h2 : Lib.hasPrefix s p = false := by
    cases e : Lib.hasPrefix s p with
    | false => rfl
    | true =>
      exfalso
      obtain ⟨t, rfl⟩ := List.isPrefixOf_iff_prefix.1 e
      cases p with
      | nil => exact hp rfl
      | cons c p => exact h rfl
  refine ⟨?_, h2⟩
  unfold Lib.trimPrefix
  rw [h2]
  rfl
theorem cut_len {s p : Txt} (h : s.length < p.length) : Lib.trimPrefix s p = s ∧ Lib.hasPrefix s p = false := by
  have h2 : Lib.hasPrefix s p = false := by
    cases e : Lib.hasPrefix s p with
    | false => rfl
    | true =>
      exfalso
      have := (List.isPrefixOf_iff_prefix.1 e).length_le
      omega
  refine ⟨?_, h2⟩
  unfold Lib.trimPrefix
  rw [h2]
  rfl
def numP : Txt := [110, 117, 109, 98, 101, 114, 58]
def bytP : Txt := [98, 121, 116, 101, 115, 58]
def zval : List Value := [.string ⟨#[]⟩, .int .u8 0, .string ⟨#[]⟩, .int .u32 0, .string ⟨#[]⟩]
theorem cut_any (s : ByteArray) (p : Txt) (w : World) : Calls Tryz.prog 104 #[.string s, .string (bts p)] w fun e w' => e = .returned (.tuple #[.string (bts (Lib.trimPrefix (tl s) p)), .bool (Lib.hasPrefix (tl s) p)]) ∧ w' = w :=
  Tryz.strings_CutPrefix s (bts p) w
theorem tup3_set {W w : World} (h : Below w.heap.size w W) (a b c d e : Value) : Below w.heap.size w (((((W.setCell ⟨w.heap.size, 0, none⟩ a).setCell ⟨w.heap.size, 1, none⟩ b).setCell ⟨w.heap.size, 2, none⟩ c).setCell ⟨w.heap.size, 3, none⟩ d).setCell ⟨w.heap.size, 4, none⟩ e) :=
  ((((h.setCell (p := ⟨w.heap.size, 0, none⟩) (Nat.le_refl _) _).setCell (p := ⟨w.heap.size, 1, none⟩) (Nat.le_refl _) _).setCell (p := ⟨w.heap.size, 2, none⟩) (Nat.le_refl _) _).setCell (p := ⟨w.heap.size, 3, none⟩) (Nat.le_refl _) _).setCell (p := ⟨w.heap.size, 4, none⟩) (Nat.le_refl _) _
theorem At.fiveI {w : World} {g : Nat} {a b c d e : Value} (h : At w g [a, b, c, d, e]) : w.cell? ⟨g, 0, none⟩ = some a ∧ w.cell? ⟨g, 1, none⟩ = some b ∧ w.cell? ⟨g, 2, none⟩ = some c ∧ w.cell? ⟨g, 3, none⟩ = some d ∧ w.cell? ⟨g, 4, none⟩ = some e ∧
    w.frozen? ⟨g, 0, none⟩ = false ∧ w.frozen? ⟨g, 1, none⟩ = false ∧ w.frozen? ⟨g, 2, none⟩ = false ∧ w.frozen? ⟨g, 3, none⟩ = false ∧ w.frozen? ⟨g, 4, none⟩ = false :=
  ⟨h.cell 0 _ rfl, h.cell 1 _ rfl, h.cell 2 _ rfl, h.cell 3 _ rfl, h.cell 4 _ rfl, h.free 0 _ rfl, h.free 1 _ rfl, h.free 2 _ rfl, h.free 3 _ rfl, h.free 4 _ rfl⟩
end Ink
set_option maxHeartbeats 4000000 in
set_option maxRecDepth 100000 in
theorem told_text (s : ByteArray) (t : Em.Txt) (hs : s.size ≤ 100000000) (hu : Ink.uq (tl s) = some (t, [])) (w : World) :
    Calls Tryz.prog 58 #[.string s] w fun e w' => e = .returned (.tuple #[.agg #[.string ⟨#[]⟩, .int .u8 1, .string (Em.bts t), .int .u32 0, .string ⟨#[]⟩], .bool true]) ∧ Below w.heap.size w w' := by
  have HU := Lib.hid (fun W => unquote_any s hs W)
  rw [hu] at HU
  obtain ⟨T, hT⟩ : ∃ T, Em.bts t = T := ⟨_, rfl⟩
  have HU2 : Hid (∀ W, Calls Tryz.prog 56 #[.string s] W fun e w' => e = .returned (.tuple #[.string T, .string ⟨#[]⟩, .bool true]) ∧ Below W.heap.size W w') := fun W => by rw [← hT]; exact HU.out W
  rw [hT]
  have HZ0 : Hid (At (w.alloc (.cells #[.string ⟨#[]⟩, .int .u8 0, .string ⟨#[]⟩, .int .u32 0, .string ⟨#[]⟩] 55)) w.heap.size Ink.zval) := At.new _ _ _
  have HB0 := Lib.hid (Hv.bl1 w (.cells #[.string ⟨#[]⟩, .int .u8 0, .string ⟨#[]⟩, .int .u32 0, .string ⟨#[]⟩] 55))
  clear hu HU hT
  go_enter Tryz.func58, Tryz.ntmps58
  go_wp2_with fail
  refine (HU2.out _).mono ?_
  rintro e w1 ⟨rfl, hb⟩
  have HB1 := Lib.hid (below_then HB0.out hb)
  have hA := HZ0.out.call hb
  obtain ⟨c0, c1, c2, c3, c4, f0, f1, f2, f3, f4⟩ := Ink.At.fiveI hA
  have hz := hA.lt
  clear hb hA
  go_wp2
  refine bodyPost_ret (v := .tuple #[.agg #[.string ⟨#[]⟩, .int .u8 1, .string T, .int .u32 0, .string ⟨#[]⟩], .bool true]) (by simp [results, Tryz.results58, go_sem, *]) rfl ⟨rfl, Ink.tup3_set HB1.out _ _ _ _ _⟩
set_option maxHeartbeats 4000000 in
set_option maxRecDepth 100000 in
theorem told_num (s : ByteArray) (d : Em.Txt) (hs : tl s = Ink.numP ++ d) (h1 : 1 ≤ d.length) (h8 : d.length ≤ 8) (hd : ∀ c ∈ d, Ink.lowhex c) (w : World) :
    Calls Tryz.prog 58 #[.string s] w fun e w' => e = .returned (.tuple #[.agg #[.string ⟨#[]⟩, .int .u8 2, .string ⟨#[]⟩, .int .u32 (Ink.valL d 0 : Int), .string ⟨#[]⟩], .bool true]) ∧ Below w.heap.size w w' := by
  have hsz : s.size ≤ 100000000 := by rw [← tl_length, hs, List.length_append]; show 7 + d.length ≤ _; omega
  have hu : Ink.uq (tl s) = none := by rw [hs]; rfl
  have HU : Hid (∀ W, Calls Tryz.prog 56 #[.string s] W fun e w' => e = .returned (.tuple #[.string ⟨#[]⟩, .string ⟨#[]⟩, .bool false]) ∧ Below W.heap.size W w') := fun W => by
    have h := unquote_any s hsz W
    rw [hu] at h
    exact h
  have HC : Hid (∀ W, Calls Tryz.prog 104 #[.string s, .string ⟨#[110, 117, 109, 98, 101, 114, 58]⟩] W fun e w' => e = .returned (.tuple #[.string (Em.bts d), .bool true]) ∧ w' = W) := fun W => by
    have h := Ink.cut_any s Ink.numP W
    rw [hs, (Ink.cut_hit Ink.numP d).1, (Ink.cut_hit Ink.numP d).2] at h
    exact h
  have HN := Lib.hid (fun W => inNumber_any (Em.bts d) (by rw [Em.bts_size]; exact h1) (by rw [Em.bts_size]; exact h8) (by rw [Em.tl_bts]; exact hd) W)
  rw [Em.tl_bts] at HN
  obtain ⟨D, hD⟩ : ∃ D, Em.bts d = D := ⟨_, rfl⟩
  obtain ⟨X, hX⟩ : ∃ X : Int, (Ink.valL d 0 : Int) = X := ⟨_, rfl⟩
  rw [hD] at HC HN
  rw [hX] at HN ⊢
  have HZ0 : Hid (At (w.alloc (.cells #[.string ⟨#[]⟩, .int .u8 0, .string ⟨#[]⟩, .int .u32 0, .string ⟨#[]⟩] 55)) w.heap.size Ink.zval) := At.new _ _ _
  have HB0 := Lib.hid (Hv.bl1 w (.cells #[.string ⟨#[]⟩, .int .u8 0, .string ⟨#[]⟩, .int .u32 0, .string ⟨#[]⟩] 55))
  clear hu hD hX hs hsz h1 h8 hd
  go_enter Tryz.func58, Tryz.ntmps58
  go_wp2_with fail
  refine (HU.out _).mono ?_
  rintro e w1 ⟨rfl, hb⟩
  have HB1 := Lib.hid (below_then HB0.out hb)
  have HZ1 := Lib.hid (HZ0.out.call hb)
  clear hb
  go_wp2_with fail
  refine (HC.out _).mono ?_
  rintro e w2 ⟨rfl, rfl⟩
  go_wp2_with fail
  refine (HN.out _).mono ?_
  rintro e w3 ⟨rfl, hb⟩
  have HB3 := Lib.hid (below_then HB1.out hb)
  have hA := HZ1.out.call hb
  obtain ⟨c0, c1, c2, c3, c4, f0, f1, f2, f3, f4⟩ := Ink.At.fiveI hA
  have hz := hA.lt
  clear hb hA
  go_wp2
  refine bodyPost_ret (v := .tuple #[.agg #[.string ⟨#[]⟩, .int .u8 2, .string ⟨#[]⟩, .int .u32 X, .string ⟨#[]⟩], .bool true]) (by simp [results, Tryz.results58, go_sem, *]) rfl ⟨rfl, Ink.tup3_set HB3.out _ _ _ _ _⟩
set_option maxHeartbeats 4000000 in
set_option maxRecDepth 100000 in
theorem told_bytes (s : ByteArray) (d t : Em.Txt) (hs : tl s = Ink.bytP ++ d) (hl : d.length ≤ 1000000) (h0 : d.length = 0 ∧ t = [] ∨ d.length % 3 = 2 ∧ Ink.unh d = some t) (w : World) :
    Calls Tryz.prog 58 #[.string s] w fun e w' => e = .returned (.tuple #[.agg #[.string ⟨#[]⟩, .int .u8 3, .string ⟨#[]⟩, .int .u32 0, .string (Em.bts t)], .bool true]) ∧ Below w.heap.size w w' := by
  have hsz : s.size ≤ 100000000 := by rw [← tl_length, hs, List.length_append]; show 6 + d.length ≤ _; omega
  have hu : Ink.uq (tl s) = none := by rw [hs]; rfl
  have HU : Hid (∀ W, Calls Tryz.prog 56 #[.string s] W fun e w' => e = .returned (.tuple #[.string ⟨#[]⟩, .string ⟨#[]⟩, .bool false]) ∧ Below W.heap.size W w') := fun W => by
    have h := unquote_any s hsz W
    rw [hu] at h
    exact h
  have HC0 : Hid (∀ W, Calls Tryz.prog 104 #[.string s, .string ⟨#[110, 117, 109, 98, 101, 114, 58]⟩] W fun e w' => e = .returned (.tuple #[.string s, .bool false]) ∧ w' = W) := fun W => by
    have h := Ink.cut_any s Ink.numP W
    have hm := Ink.cut_miss (s := tl s) (p := Ink.numP) (by rw [hs]; show some (98 : UInt8) ≠ some 110; decide) (by decide)
    rw [hm.1, hm.2] at h
    exact h
  have HC : Hid (∀ W, Calls Tryz.prog 104 #[.string s, .string ⟨#[98, 121, 116, 101, 115, 58]⟩] W fun e w' => e = .returned (.tuple #[.string (Em.bts d), .bool true]) ∧ w' = W) := fun W => by
    have h := Ink.cut_any s Ink.bytP W
    rw [hs, (Ink.cut_hit Ink.bytP d).1, (Ink.cut_hit Ink.bytP d).2] at h
    exact h
  have HN := Lib.hid (fun W => unhex_ok (Em.bts d) t (by rw [Em.bts_size]; exact hl) (by rw [Em.bts_size, Em.tl_bts]; exact h0) W)
  obtain ⟨D, hD⟩ : ∃ D, Em.bts d = D := ⟨_, rfl⟩
  obtain ⟨T, hT⟩ : ∃ T, Em.bts t = T := ⟨_, rfl⟩
  rw [hD] at HC HN
  rw [hT] at HN ⊢
  have HZ0 : Hid (At (w.alloc (.cells #[.string ⟨#[]⟩, .int .u8 0, .string ⟨#[]⟩, .int .u32 0, .string ⟨#[]⟩] 55)) w.heap.size Ink.zval) := At.new _ _ _
  have HB0 := Lib.hid (Hv.bl1 w (.cells #[.string ⟨#[]⟩, .int .u8 0, .string ⟨#[]⟩, .int .u32 0, .string ⟨#[]⟩] 55))
  clear hu hD hT hs hsz hl h0
  go_enter Tryz.func58, Tryz.ntmps58
  go_wp2_with fail
  refine (HU.out _).mono ?_
  rintro e w1 ⟨rfl, hb⟩
  have HB1 := Lib.hid (below_then HB0.out hb)
  have HZ1 := Lib.hid (HZ0.out.call hb)
  clear hb
  go_wp2_with fail
  refine (HC0.out _).mono ?_
  rintro e w2 ⟨rfl, rfl⟩
  go_wp2_with fail
  refine (HC.out _).mono ?_
  rintro e w2 ⟨rfl, rfl⟩
  go_wp2_with fail
  refine (HN.out _).mono ?_
  rintro e w3 ⟨rfl, hb⟩
  have HB3 := Lib.hid (below_then HB1.out hb)
  have hA := HZ1.out.call hb
  obtain ⟨c0, c1, c2, c3, c4, f0, f1, f2, f3, f4⟩ := Ink.At.fiveI hA
  have hz := hA.lt
  clear hb hA
  go_wp2
  refine bodyPost_ret (v := .tuple #[.agg #[.string ⟨#[]⟩, .int .u8 3, .string ⟨#[]⟩, .int .u32 0, .string T], .bool true]) (by simp [results, Tryz.results58, go_sem, *]) rfl ⟨rfl, Ink.tup3_set HB3.out _ _ _ _ _⟩
end Go.Proofs.YthmhadgbhakdlaaGreatDoor

/- top 18: a value's lines, put together to one, with capital letters. -/
namespace Go.Proofs.YthmhadgbhakdlaaGreatDoor
open Go.RowKit

namespace Ink
open Em
def vlineM (m : Bool) (v : Hv.V) : Txt := if v.kind = 3 then bpre v ++ hexsM m (tl v.bytes) else val v
/-- What the law makes of what stands behind the front. -/
def ov : Nat → Txt → Txt
  | 0, _ => []
  | _ + 1, [] => []
  | f + 1, c :: r => if c = 92 then ov f (r.drop 3) else up c :: ov f r
theorem ov_more : ∀ (f g : Nat) (l : Txt), l.length ≤ f → l.length ≤ g → ov f l = ov g l
  | 0, 0, l, h1, h2 => rfl
  | 0, g + 1, l, h1, h2 => by
    have : l = [] := List.length_eq_zero_iff.1 (by omega)
    subst this
    rfl
  | f + 1, 0, l, h1, h2 => by
    have : l = [] := List.length_eq_zero_iff.1 (by omega)
    subst this
    rfl
  | f + 1, g + 1, [], h1, h2 => rfl
  | f + 1, g + 1, c :: r, h1, h2 => by
    rw [List.length_cons] at h1 h2
    unfold ov
    rw [ov_more f g (r.drop 3) (by rw [List.length_drop]; omega) (by rw [List.length_drop]; omega), ov_more f g r (by omega) (by omega)]
def ovL (l : Txt) : Txt := ov l.length l
theorem ovL_nil : ovL [] = [] := rfl
theorem ovL_skip (r : Txt) : ovL (92 :: r) = ovL (r.drop 3) := by
  unfold ovL
  rw [List.length_cons, ov, if_pos rfl]
  exact ov_more _ _ _ (by rw [List.length_drop]; omega) (Nat.le_refl _)
theorem ovL_cons {c : UInt8} (r : Txt) (h : c ≠ 92) : ovL (c :: r) = up c :: ovL r := by
  unfold ovL
  rw [List.length_cons, ov, if_neg h]
theorem ovL_app : ∀ (a b : Txt), (∀ c ∈ a, c ≠ 92) → ovL (a ++ b) = a.map up ++ ovL b
  | [], _, _ => rfl
  | c :: a, b, h => by
    rw [List.cons_append, ovL_cons _ (h c List.mem_cons_self), ovL_app a b fun x hx => h x (List.mem_cons_of_mem _ hx)]
    rfl
theorem map_up_hexs : ∀ l : Txt, (hexs l).map up = hexsM true l
  | [] => rfl
  | b :: r => by
    have key : ∀ r : Txt, (r.flatMap fun c => 44 :: hexb c).map up = r.flatMap fun c => 44 :: hexbM true c := by
      intro r
      induction r with
      | nil => rfl
      | cons c r ih =>
        rw [List.flatMap_cons, List.map_append, ih, List.flatMap_cons]
        rfl
    show (hexb b ++ r.flatMap fun c => 44 :: hexb c).map up = _
    rw [List.map_append, key]
    rfl
theorem hexsM_app (m : Bool) (p r : Txt) (hp : p ≠ []) (hr : r ≠ []) : hexsM m (p ++ r) = hexsM m p ++ 44 :: hexsM m r := by
  cases p with
  | nil => exact absurd rfl hp
  | cons a p =>
    cases r with
    | nil => exact absurd rfl hr
    | cons b r => simp [hexsM]
theorem ov_joined : ∀ ps : List Txt, (∀ p ∈ ps, p ≠ []) → ovL (joined ps) = hexsM true ps.flatten
  | [], _ => rfl
  | [p], _ => by
    have e : joined [p] = hexs p ++ [] := by simp [joined]
    rw [e, ovL_app _ _ fun c hc => (hexs_plain p c hc).2.2.1, map_up_hexs, ovL_nil]
    simp
  | p :: q :: r, h => by
    have ih := ov_joined (q :: r) fun x hx => h x (List.mem_cons_of_mem _ hx)
    have hq : (q :: r).flatten ≠ [] := by
      intro e
      rw [List.flatten_eq_nil_iff] at e
      exact h q (by simp) (e q (by simp))
    have e : joined (p :: q :: r) = hexs p ++ (44 :: 92 :: 10 :: 32 :: 32 :: joined (q :: r)) := by rw [joined_cons]; simp [go]
    rw [e, ovL_app _ _ fun c hc => (hexs_plain p c hc).2.2.1, map_up_hexs, ovL_cons _ (by decide), ovL_skip]
    show _ ++ up 44 :: ovL (joined (q :: r)) = _
    rw [ih, show (p :: q :: r).flatten = p ++ (q :: r).flatten from rfl, hexsM_app true p _ (h p List.mem_cons_self) hq]
    rfl
theorem ov_bytes (l : Txt) : ovL (Em.bytes l) = hexsM true l := by
  unfold Em.bytes
  rw [ov_joined _ (parts_ne _ _), parts_flat _ _ (Nat.le_refl _)]
end Ink
end Go.Proofs.YthmhadgbhakdlaaGreatDoor

/- intake.Value of a right value's line. -/
namespace Go.Proofs.YthmhadgbhakdlaaGreatDoor
open Go.RowKit

namespace Ink
open Em
theorem digs_low : ∀ (f n : Nat) (acc : Txt), n < 16 ^ (f + 1) → ∀ c ∈ digs f n acc, c ∈ acc ∨ lowhex c
  | 0, n, acc, h, c, hc => by
    have hn : n < 16 := by simpa using h
    rcases List.mem_cons.1 hc with rfl | hc
    · exact .inr (hexd_low n hn)
    · exact .inl hc
  | f + 1, n, acc, h, c, hc => by
    unfold digs at hc
    split at hc
    · have h2 : n / 16 < 16 ^ (f + 1) := by
        rw [Nat.div_lt_iff_lt_mul (by omega)]
        rw [Nat.pow_succ] at h
        exact h
      rcases digs_low f (n / 16) (hexd (n % 16) :: acc) h2 c hc with hc | hc
      · rcases List.mem_cons.1 hc with rfl | hc
        · exact .inr (hexd_low (n % 16) (by omega))
        · exact .inl hc
      · exact .inr hc
    · rcases List.mem_cons.1 hc with rfl | hc
      · exact .inr (hexd_low n (by omega))
      · exact .inl hc
theorem num_low (n : Nat) (h : n < 4294967296) : ∀ c ∈ num n, lowhex c := by
  intro c hc
  unfold num at hc
  rcases List.mem_append.1 hc with hc | hc
  · rw [(List.mem_replicate.1 hc).2]
    exact .inl ⟨by decide, by decide⟩
  · rcases digs_low 7 n [] h c hc with h2 | h2
    · cases h2
    · exact h2
/-- What stands behind a value's =. -/
def restM (m : Bool) (v : Hv.V) : Txt := if v.kind = 3 then bytP ++ hexsM m (tl v.bytes) else rest v
theorem vlineM_rest (m : Bool) (v : Hv.V) : vlineM m v = quote (tl v.name) ++ 61 :: restM m v := by
  unfold vlineM restM
  split
  · unfold bpre bytP
    simp
  · rfl
theorem val_more {v : Hv.V} (h : Hv.valB v = true) : (v.kind = 1 ∧ v.num = 0 ∧ v.bytes.size = 0) ∨ (v.kind = 2 ∧ v.text.size = 0 ∧ v.bytes.size = 0) ∨ (v.kind = 3 ∧ v.text.size = 0 ∧ v.num = 0) := by
  unfold Hv.valB Hv.kindB at h
  rw [Bool.and_eq_true] at h
  have h4 := h.2
  split at h4
  · rename_i hk
    simp only [Bool.and_eq_true, decide_eq_true_eq] at h4
    exact .inl ⟨hk, h4.2.2.1, h4.2.2.2⟩
  · split at h4
    · rename_i hk
      simp only [Bool.and_eq_true, decide_eq_true_eq] at h4
      exact .inr (.inl ⟨hk, h4.1, h4.2⟩)
    · split at h4
      · rename_i hk
        simp only [Bool.and_eq_true, decide_eq_true_eq] at h4
        exact .inr (.inr ⟨hk, h4.2.1, h4.2.2⟩)
      · cases h4
theorem empty_of {s : ByteArray} (h : s.size = 0) : s = ⟨#[]⟩ := by
  apply ByteArray.ext
  exact Array.eq_empty_of_size_eq_zero h
theorem restM_len {v : Hv.V} (m : Bool) (h : Hv.valB v = true) : (restM m v).length ≤ 100000 := by
  have hs := val_small h
  have h2 := quote_len (tl v.text)
  have h4 := num_len v.num.toNat
  have h5 := hexsM_len m (tl v.bytes)
  rw [tl_length] at h2 h5
  unfold restM rest
  split
  · rw [List.length_append]
    show 6 + _ ≤ _
    omega
  · split
    · omega
    · split
      · rw [List.length_append, h4]
        show 7 + 8 ≤ _
        omega
      · simp
end Ink
theorem told_val (m : Bool) (nm : ByteArray) (kd : Int) (tx : ByteArray) (nu : Int) (by_ : ByteArray) (hv : Hv.valB ⟨nm, kd, tx, nu, by_⟩ = true) (ho : Hv.V.Ok ⟨nm, kd, tx, nu, by_⟩) (w : World) :
    Calls Tryz.prog 58 #[.string (Em.bts (Ink.restM m ⟨nm, kd, tx, nu, by_⟩))] w fun e w' => e = .returned (.tuple #[.agg #[.string ⟨#[]⟩, .int .u8 kd, .string tx, .int .u32 nu, .string by_], .bool true]) ∧ Below w.heap.size w w' := by
  have hl := Ink.restM_len m hv
  rcases Ink.val_more hv with ⟨h1, h2, h3⟩ | ⟨h1, h2, h3⟩ | ⟨h1, h2, h3⟩
  · simp only at h1 h2 h3
    subst h1 h2
    rw [Ink.empty_of h3] at hl ⊢
    have h := told_text (Em.bts (Ink.restM m ⟨nm, 1, tx, 0, ⟨#[]⟩⟩)) (tl tx) (by rw [Em.bts_size]; omega) (by
      rw [Em.tl_bts]
      have := Ink.uq_quote (tl tx) []
      rw [List.append_nil] at this
      exact this) w
    rw [Em.bts_tl] at h
    exact h
  · simp only at h1 h2 h3
    subst h1
    have hn0 := ho.n0
    have hn1 := ho.n1
    simp only at hn0 hn1
    rw [Ink.empty_of h3, Ink.empty_of h2] at hl ⊢
    have h := told_num (Em.bts (Ink.restM m ⟨nm, 2, ⟨#[]⟩, nu, ⟨#[]⟩⟩)) (Em.num nu.toNat) (by rw [Em.tl_bts]; rfl) (by rw [Em.num_len]; omega) (by rw [Em.num_len]; omega) (Ink.num_low _ (by omega)) w
    rw [(Ink.num_val _ (by omega)).1, Int.toNat_of_nonneg hn0] at h
    exact h
  · simp only at h1 h2 h3
    subst h1 h3
    rw [Ink.empty_of h2] at hl ⊢
    have hlen := Ink.hexsM_len m (tl by_)
    rw [tl_length] at hlen
    have hle : (Ink.hexsM m (tl by_)).length ≤ 1000000 := by
      have := (Em.val_small hv).2.2.1
      simp only at this
      omega
    have h := told_bytes (Em.bts (Ink.restM m ⟨nm, 3, ⟨#[]⟩, 0, by_⟩)) (Ink.hexsM m (tl by_)) (tl by_) (by rw [Em.tl_bts]; rfl) hle (by
      by_cases h0 : by_.size = 0
      · have : tl by_ = [] := List.eq_nil_of_length_eq_zero (by rw [tl_length]; exact h0)
        rw [this]
        exact .inl ⟨rfl, rfl⟩
      · exact .inr ⟨by omega, Ink.unh_hexs m _⟩) w
    rw [Em.bts_tl] at h
    exact h
set_option maxHeartbeats 4000000 in
set_option maxRecDepth 100000 in
theorem inValue_any (m : Bool) (nm : ByteArray) (kd : Int) (tx : ByteArray) (nu : Int) (by_ : ByteArray) (hv : Hv.valB ⟨nm, kd, tx, nu, by_⟩ = true) (ho : Hv.V.Ok ⟨nm, kd, tx, nu, by_⟩) (w : World) :
    Calls Tryz.prog 26 #[.string (Em.bts (Ink.vlineM m ⟨nm, kd, tx, nu, by_⟩))] w fun e w' => e = .returned (.tuple #[.agg #[.string nm, .int .u8 kd, .string tx, .int .u32 nu, .string by_], .int .i64 0, .int .i64 0]) ∧ Below w.heap.size w w' := by
  have hT := told_val m nm kd tx nu by_ hv ho
  have hl := Ink.restM_len m hv
  have hnl := (Em.val_small hv).1
  simp only at hnl
  have hql := Em.quote_len (tl nm)
  rw [tl_length] at hql
  rw [Ink.vlineM_rest]
  simp only
  have hV := fun W => hvValue_any ⟨nm, kd, tx, nu, by_⟩ ho W
  rw [hv] at hV
  have HV : Hid (∀ W, Calls Tryz.prog 55 #[.agg #[.string nm, .int .u8 kd, .string tx, .int .u32 nu, .string by_]] W fun e w' => e = .returned (.int .i64 0) ∧ Below W.heap.size W w') := hV
  obtain ⟨R, hR⟩ : ∃ R, Ink.restM m ⟨nm, kd, tx, nu, by_⟩ = R := ⟨_, rfl⟩
  rw [hR] at hT hl ⊢
  have HT := Lib.hid hT
  obtain ⟨S, hS⟩ : ∃ S, Em.bts (Em.quote (tl nm) ++ 61 :: R) = S := ⟨_, rfl⟩
  have hSs : S.size ≤ 100000000 := by rw [← hS, Em.bts_size, List.length_append, List.length_cons]; omega
  have HU : Hid (∀ W, Calls Tryz.prog 56 #[.string S] W fun e w' => e = .returned (.tuple #[.string nm, .string (Em.bts (61 :: R)), .bool true]) ∧ Below W.heap.size W w') := fun W => by
    have h := unquote_any S hSs W
    rw [← hS, Em.tl_bts, Ink.uq_quote] at h
    rw [← hS]
    exact h
  have hx : (Em.bts (61 :: R)).extract 1 (Em.bts (61 :: R)).size = Em.bts R := by
    have := Ink.tl_from' (Em.bts (61 :: R)) 1
    rw [Em.tl_bts] at this
    exact this.symm
  have HP : Hid (∀ W, Calls Tryz.prog 57 #[.string (Em.bts (61 :: R)), .string ⟨#[61]⟩] W fun e w' => e = .returned (.bool true) ∧ w' = W) := fun W => by
    have h := Tryz.strings_HasPrefix (Em.bts (61 :: R)) ⟨#[61]⟩ W
    have e : Lib.hasPrefix (Em.bts (61 :: R)).data.toList (⟨#[61]⟩ : ByteArray).data.toList = true := rfl
    rw [e] at h
    exact h
  obtain ⟨E, hE⟩ : ∃ E, Em.bts (61 :: R) = E := ⟨_, rfl⟩
  have hEs : 1 ≤ (E.size : Int) := by rw [← hE, Em.bts_size, List.length_cons]; omega
  obtain ⟨RB, hRB⟩ : ∃ X, Em.bts R = X := ⟨_, rfl⟩
  rw [hE, hRB] at hx
  rw [hE] at HU HP
  rw [hRB] at HT
  rw [hS]
  have HZ0 : Hid (At (w.alloc (.cells #[.string ⟨#[]⟩, .int .u8 0, .string ⟨#[]⟩, .int .u32 0, .string ⟨#[]⟩] 55)) w.heap.size Ink.zval) := At.new _ _ _
  have HB0 := Lib.hid (Hv.bl1 w (.cells #[.string ⟨#[]⟩, .int .u8 0, .string ⟨#[]⟩, .int .u32 0, .string ⟨#[]⟩] 55))
  clear hT hl hnl hql hV hR hS hSs hE hRB hv ho
  go_enter Tryz.func26, Tryz.ntmps26
  go_wp2_with fail
  refine (HU.out _).mono ?_
  rintro e w1 ⟨rfl, hb⟩
  have HB1 := Lib.hid (below_then HB0.out hb)
  have HZ1 := Lib.hid (HZ0.out.call hb)
  clear hb
  go_wp2_with fail
  refine (HP.out _).mono ?_
  rintro e w2 ⟨rfl, rfl⟩
  go_wp2_with fail
  refine (HT.out _).mono ?_
  rintro e w3 ⟨rfl, hb⟩
  have HB3 := Lib.hid (below_then HB1.out hb)
  have HZ3 := Lib.hid (HZ1.out.call hb)
  clear hb
  go_wp2_with fail
  refine (HV.out _).mono ?_
  rintro e w4 ⟨rfl, hb⟩
  have hX := (At.new w3 #[.string nm, .int .u8 kd, .string tx, .int .u32 nu, .string by_] 55).call hb
  have hA := (HZ3.out.allocO (.cells #[.string nm, .int .u8 kd, .string tx, .int .u32 nu, .string by_] 55)).call hb
  have HB4 := Lib.hid (below_then (HB3.out.alloc HB3.out.size (.cells #[.string nm, .int .u8 kd, .string tx, .int .u32 nu, .string by_] 55)) hb)
  obtain ⟨c0, c1, c2, c3, c4, f0, f1, f2, f3, f4⟩ := Ink.At.fiveI hA
  obtain ⟨d0, d1, d2, d3, d4, _⟩ := Ink.At.fiveI hX
  have hz := hA.lt
  have hz2 := hX.lt
  clear hb hA hX
  go_wp2
  refine bodyPost_ret (v := .tuple #[.agg #[.string nm, .int .u8 kd, .string tx, .int .u32 nu, .string by_], .int .i64 0, .int .i64 0]) (by simp [results, Tryz.results26, go_sem, *]) rfl ⟨rfl, Ink.tup3_set HB4.out _ _ _ _ _⟩
end Go.Proofs.YthmhadgbhakdlaaGreatDoor

/- A region that draws its order, by an invariant: what is done, what the slots hold, the world. -/
namespace Go.Proofs.YthmhadgbhakdlaaGreatDoor
open Go.RowKit

namespace Od
def slots (a : Act) : Nat → Value := fun k => a.tmps.getD k undef
def upd {α : Type} (f : Nat → α) (i : Nat) (v : α) : Nat → α := fun j => if j = i then v else f j
def updo (u : Nat → Value) (d : Option Tmp) (v : Value) : Nat → Value := match d with
  | some k => upd u k v
  | none => u
theorem slots_put {a : Act} {d : Option Tmp} {v : Value} (h : ∀ k, d = some k → k < a.tmps.size) : slots (a.put d v) = updo (slots a) d v := by
  cases d with
  | none => rfl
  | some k =>
    have hk := h k rfl
    funext j
    show (a.tmps.setIfInBounds k v).getD j undef = if j = k then v else a.tmps.getD j undef
    by_cases e : j = k
    · subst e
      rw [if_pos rfl]
      simp [Array.getD, hk]
    · rw [if_neg e]
      simp only [Array.getD_eq_getD_getElem?, Array.getElem?_setIfInBounds, if_neg (Ne.symm e)]
theorem size_put {a : Act} {d : Option Tmp} {v : Value} : (a.put d v).tmps.size = a.tmps.size := by
  cases d with
  | none => rfl
  | some k => show (a.tmps.setIfInBounds k v).size = _; simp
theorem defers_put {a : Act} {d : Option Tmp} {v : Value} : (a.put d v).defers = a.defers := by cases d <;> rfl
theorem count_set : ∀ (l : List Bool) (i : Nat), l[i]? = some false → (l.set i true).count false + 1 = l.count false
  | [], i, h => by simp at h
  | x :: l, 0, h => by
    simp at h
    subst h
    simp
  | x :: l, i + 1, h => by
    have := count_set l i (by simpa using h)
    simp only [List.set_cons_succ, List.count_cons]
    omega
theorem all_true : ∀ (l : List Bool), l.count false = 0 → ∀ x ∈ l, x = true
  | [], _, x, hx => by cases hx
  | y :: l, h, x, hx => by
    simp only [List.count_cons] at h
    have h1 : l.count false = 0 := by omega
    have h2 : y = true := by
      cases y
      · simp at h
      · rfl
    rcases List.mem_cons.1 hx with rfl | hx
    · exact h2
    · exact all_true l h1 x hx
theorem ord_of {ops : Array Oper} (h : ((List.range ops.size).all fun j => match ops[j]? with
    | some o => o.after.toList.all fun e => !Region.binds .any e || decide (e.on < j)
    | none => true) = true) : ∀ (j : Nat) o, ops[j]? = some o → ∀ e ∈ o.after, Region.binds .any e = true → e.on < j := by
  intro j o hj e he hbi
  have h1 := List.all_eq_true.1 h j (List.mem_range.2 (Array.getElem?_eq_some_iff.1 hj).1)
  rw [hj] at h1
  have h2 := List.all_eq_true.1 h1 e (Array.mem_toList_iff.2 he)
  rw [hbi] at h2
  exact of_decide_eq_true (by simpa using h2)
theorem dst_of {ops : Array Oper} {N : Nat} (h : ((List.range ops.size).all fun j => match ops[j]? with
    | some o => (match o.dst with
      | some d => decide (d < N)
      | none => true)
    | none => true) = true) : ∀ (j : Nat) o d, ops[j]? = some o → o.dst = some d → d < N := by
  intro j o d hj hd
  have h1 := List.all_eq_true.1 h j (List.mem_range.2 (Array.getElem?_eq_some_iff.1 hj).1)
  rw [hj] at h1
  simp only [hd] at h1
  exact of_decide_eq_true h1
section
variable {P : Program} {ops : Array Oper} {Q : Exit → Act → World → Prop}
theorem ready_nil_all {s : Array Bool} (hs : s.size = ops.size) (hord : ∀ (j : Nat) o, ops[j]? = some o → ∀ e ∈ o.after, Region.binds .any e = true → e.on < j) (h : Region.ready .any ops s = []) : ∀ j, j < ops.size → s.getD j false = true := by
  intro j
  induction j using Nat.strongRecOn with
  | ind j ih =>
    intro hj
    cases hb : s.getD j false with
    | true => rfl
    | false =>
      exfalso
      have hb' : s.getD j true = false := by
        have : j < s.size := by omega
        simp [Array.getD, this] at hb ⊢
        exact hb
      have : j ∈ Region.ready .any ops s := mem_ready.2 ⟨hb', ops[j], Array.getElem?_eq_getElem hj, fun e he hbi => ih e.on (hord j _ (Array.getElem?_eq_getElem hj) e he hbi) (by have := hord j _ (Array.getElem?_eq_getElem hj) e he hbi; omega)⟩
      rw [h] at this
      cases this
theorem wpAny_inv (N : Nat) (hord : ∀ (j : Nat) o, ops[j]? = some o → ∀ e ∈ o.after, Region.binds .any e = true → e.on < j) (hdst : ∀ (j : Nat) o d, ops[j]? = some o → o.dst = some d → d < N)
    (J : (Nat → Bool) → (Nat → Value) → World → Prop)
    (hstep : ∀ i o, ops[i]? = some o → ∀ (b : Nat → Bool) (a : Act) (w : World), J b (slots a) w → b i = false → (∀ e ∈ o.after, Region.binds .any e = true → b e.on = true) → a.defers = [] →
      ∀ K : Act → World → Prop, (∀ v w', J (upd b i true) (updo (slots a) o.dst v) w' → K (a.put o.dst v) w') → if Region.wanted o (yielded ops a.tmps) = true then Oper.wp P o a w K Q else K (a.put o.dst undef) w)
    (hend : ∀ (a : Act) (w : World), J (fun j => decide (j < ops.size)) (slots a) w → a.tmps.size = N → a.defers = [] → Q .normal a w) :
    ∀ (g : Nat) (s : Array Bool) (a : Act) (w : World), s.size = ops.size → s.toList.count false ≤ g → a.tmps.size = N → a.defers = [] → J (fun j => s.getD j false) (slots a) w → wpAny P .any ops Q g s a w := by
  have fin : ∀ (s : Array Bool) (a : Act) (w : World), s.size = ops.size → (∀ j, j < ops.size → s.getD j false = true) → a.tmps.size = N → a.defers = [] → J (fun j => s.getD j false) (slots a) w → Q .normal a w := by
    intro s a w hs hall hN hd hJ
    refine hend a w ?_ hN hd
    have : (fun j => s.getD j false) = fun j => decide (j < ops.size) := by
      funext j
      by_cases hj : j < ops.size
      · rw [hall j hj, decide_eq_true hj]
      · rw [decide_eq_false hj]
        simp [Array.getD, hs, hj]
    rw [this] at hJ
    exact hJ
  intro g
  induction g with
  | zero =>
    intro s a w hs hc hN hd hJ
    have hall : ∀ j, j < ops.size → s.getD j false = true := by
      intro j hj
      have hj' : j < s.size := by omega
      have := all_true s.toList (by omega) s[j] (by simp)
      simp [Array.getD, hj', this]
    have hr : Region.ready .any ops s = [] := by
      cases e : Region.ready .any ops s with
      | nil => rfl
      | cons i l =>
        exfalso
        obtain ⟨h1, o, ho, _⟩ := mem_ready.1 (show i ∈ Region.ready .any ops s by rw [e]; exact List.mem_cons_self)
        have hi : i < ops.size := (Array.getElem?_eq_some_iff.1 ho).1
        have h2 := hall i hi
        have hi' : i < s.size := by omega
        simp [Array.getD, hi'] at h1 h2
        rw [h1] at h2
        cases h2
    exact ⟨hr, fin s a w hs hall hN hd hJ⟩
  | succ g ih =>
    intro s a w hs hc hN hd hJ
    refine ⟨fun hr => fin s a w hs (ready_nil_all hs hord hr) hN hd hJ, fun i hi => ?_⟩
    obtain ⟨h1, o, ho, hdep⟩ := mem_ready.1 hi
    have hio : i < ops.size := (Array.getElem?_eq_some_iff.1 ho).1
    have hi' : i < s.size := by omega
    have hsi : s[i] = false := by simpa [Array.getD, hi'] using h1
    refine wpOp_step ho fun K hK => hstep i o ho (fun j => s.getD j false) a w hJ (by simp [Array.getD, hi', hsi]) hdep hd K fun v w' hJ' => hK _ _ (ih _ _ _ (by simp [hs]) ?_ (by rw [size_put]; exact hN) (by rw [defers_put]; exact hd) ?_)
    · have := count_set s.toList i (by simp [hi', hsi])
      rw [Array.toList_setIfInBounds]
      omega
    · rw [slots_put (fun k hk => by rw [hN]; exact hdst i o k ho hk)]
      have : (fun j => (s.setIfInBounds i true).getD j false) = upd (fun j => s.getD j false) i true := by
        funext j
        unfold upd
        by_cases e : j = i
        · subst e
          rw [if_pos rfl]
          simp [Array.getD, hi']
        · rw [if_neg e]
          simp only [Array.getD_eq_getD_getElem?, Array.getElem?_setIfInBounds, if_neg (Ne.symm e)]
      rw [this]
      exact hJ'
/-- The region. -/
theorem wp_region_inv {id : Nat} {a : Act} {w : World} (N : Nat) (hm : P.follows .mixedOrders = true) (hN : a.tmps.size = N) (hd : a.defers = []) (hord : ∀ (j : Nat) o, ops[j]? = some o → ∀ e ∈ o.after, Region.binds .any e = true → e.on < j) (hdst : ∀ (j : Nat) o d, ops[j]? = some o → o.dst = some d → d < N)
    (J : (Nat → Bool) → (Nat → Value) → World → Prop) (h0 : J (fun _ => false) (slots a) w.drew)
    (hstep : ∀ i o, ops[i]? = some o → ∀ (b : Nat → Bool) (a : Act) (w : World), J b (slots a) w → b i = false → (∀ e ∈ o.after, Region.binds .any e = true → b e.on = true) → a.defers = [] →
      ∀ K : Act → World → Prop, (∀ v w', J (upd b i true) (updo (slots a) o.dst v) w' → K (a.put o.dst v) w') → if Region.wanted o (yielded ops a.tmps) = true then Oper.wp P o a w K Q else K (a.put o.dst undef) w)
    (hend : ∀ (a : Act) (w : World), J (fun j => decide (j < ops.size)) (slots a) w → a.tmps.size = N → a.defers = [] → Q .normal a w) : (Code.region id ops true).wp P Q a w := by
  refine wp_region_any hm ?_
  refine wpAny_inv N hord hdst J hstep hend ops.size _ a _ (by simp) (by simp) hN hd ?_
  have : (fun j => (Array.replicate ops.size false).getD j false) = fun _ => false := by
    funext j
    simp [Array.getD]
  rw [this]
  exact h0
end
end Od
end Go.Proofs.YthmhadgbhakdlaaGreatDoor

/- A drawn region whose operations lay one slot each: what is in the slots is kept, slot by slot, from world to world. -/
namespace Go.Proofs.YthmhadgbhakdlaaGreatDoor
open Go.RowKit

namespace Rg
open Od
/-- Of n operations those that are done have laid what P says of them, in the slots that sl says; all other slots are as they were. -/
structure J (n : Nat) (sl : Nat → Nat) (P : Nat → Value → World → Prop) (w0 : World) (u0 : Nat → Value) (b : Nat → Bool) (u : Nat → Value) (w : World) : Prop where
  below : Below w0.heap.size w0 w
  old : ∀ j, (∀ k, k < n → sl k ≠ j) → u j = u0 j
  val : ∀ k, k < n → b k = true → P k (u (sl k)) w
section
variable {n : Nat} {sl : Nat → Nat} {P : Nat → Value → World → Prop} {w0 w w' : World} {u0 u : Nat → Value} {b : Nat → Bool}
theorem J.start (w0 w : World) (u0 : Nat → Value) (hb : Below w0.heap.size w0 w) : J n sl P w0 u0 (fun _ => false) u0 w := ⟨hb, fun _ _ => rfl, fun _ _ e => (by cases e)⟩
theorem J.step (h : J n sl P w0 u0 b u w) (hm : ∀ k v W W', P k v W → Below W.heap.size W W' → P k v W') (hi : ∀ j, j < n → ∀ k, k < n → sl j = sl k → j = k) {k : Nat} (hk : k < n) {v : Value} (hb : Below w.heap.size w w') (hv : P k v w') : J n sl P w0 u0 (upd b k true) (upd u (sl k) v) w' := by
  refine ⟨below_then h.below hb, fun j hj => ?_, fun j hj hbj => ?_⟩
  · unfold upd
    rw [if_neg (fun e => hj k hk e.symm)]
    exact h.old j hj
  · by_cases hjk : j = k
    · subst hjk
      unfold upd
      rw [if_pos rfl]
      exact hv
    · have e1 : b j = true := by
        unfold upd at hbj
        rwa [if_neg hjk] at hbj
      unfold upd
      rw [if_neg (fun e => hjk (hi j hj k hk e))]
      exact hm _ _ _ _ (h.val j hj e1) hb
/-- The operation has run in the world as it is. -/
theorem J.put (h : J n sl P w0 u0 b u w) (hm : ∀ k v W W', P k v W → Below W.heap.size W W' → P k v W') (hi : ∀ j, j < n → ∀ k, k < n → sl j = sl k → j = k) {k : Nat} (hk : k < n) {v : Value} (hv : P k v w) : J n sl P w0 u0 (upd b k true) (upd u (sl k) v) w := h.step hm hi hk (Below.refl _ _) hv
end
theorem getD_bool {tm : Array Value} {k : Nat} {x : Bool} (h : tm.getD k undef = .bool x) : tm[k]? = some (.bool x) := by
  rw [Array.getD_eq_getD_getElem?] at h
  cases e : tm[k]? with
  | none => rw [e] at h; cases h
  | some v => rw [e] at h; rw [← h]; rfl
/-- A guarded operation is wanted. -/
theorem want {ops : Array Oper} {tm : Array Value} {o : Oper} {j t : Nat} {x : Bool} (hg : o.guard = some (j, x)) (hd : (ops[j]?).bind (·.dst) = some t) (hv : tm.getD t undef = .bool x) : Region.wanted o (yielded ops tm) = true := by
  unfold Region.wanted
  rw [hg]
  unfold yielded
  simp only [hd, Option.bind_some, getD_bool hv, beq_self_eq_true]
end Rg
end Go.Proofs.YthmhadgbhakdlaaGreatDoor
