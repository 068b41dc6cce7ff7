/- link.behind and link.places: a map of the first places of names. -/
import Derived.Test.YtdanbnolbaelhaaGreatDoorE08
import Derived.Test.YtdanbnolbaelhaaGreatDoorE01
import Derived.ScopeJumps
import Derived.WalkMore
import Derived.Test.YtdanbnolbaelhaaGreatDoorE05
import Derived.Test.YtdanbnolbaelhaaGreatDoorE06
import Derived.Lib.BufferOwn
import Derived.WalkLawsBesides
import Derived.Test.YtdanbnolbaelhaaGreatDoorE07
import Derived.Lib.CutLaws

namespace Go.Proofs.YtdanbnolbaelhaaGreatDoor
open Go.RowKit Go.Shelf
open Go.Maps Go.WideShapes Go.ChangeShapes Go.WideMaps
attribute [local go_sem] Oper.semAt_some

theorem behind_any (c : Int) (gn : Nat) (lbn : Array Value) (w : World) :
    Calls Tryz.prog 127 #[.int .i64 c, .func (.func gn) #[] lbn] w fun e w' => e = .returned (.func (.func 150) #[] #[.pointer (some ⟨w.heap.size, 0, none⟩), .pointer (some ⟨w.heap.size + 1, 0, none⟩)]) ∧ (w.alloc (.cells #[.int .i64 c] 3)).alloc (.cells #[.func (.func gn) #[] lbn] 179) = w' := by
  go_enter Tryz.func127, Tryz.ntmps127
  go_wp2
  go_ret
  exact ⟨rfl, rfl⟩
/-- What lay below w's end reads as it did. -/
def Lk.Old (w W : World) : Prop := ∀ p : Addr, p.block < w.heap.size → W.cell? p = w.cell? p
def Lk.Tells (gn : Nat) (lbn : Array Value) (ns : List ByteArray) (w : World) : Prop :=
  ∀ W' i, Lk.Old w W' → i < ns.length → Calls Tryz.prog gn (#[.int .i64 (i : Int)] ++ lbn) W' fun e w' => e = .returned (.string (ns.getD i ⟨#[]⟩)) ∧ W' = w'
/-- What link.places hands back. -/
def Lk.PlRet (ns : List ByteArray) (w : World) (e : Ending) (w' : World) : Prop :=
  ∃ b, e = .returned (.map (some b)) ∧ w.heap.size ≤ b ∧ MapF Tryz.prog 9 w' b ns.length (Lk.places ns) ∧ Below w.heap.size w w'
theorem wpListIn_store {F : Fence} {nF : Nat} {P : Program} (w : World) {ops : Array Oper} {rest : List Oper} {o : Oper} {a : Act} {Q : Exit → Act → World → Prop} (hg : o.guard = none) (m x v : Operand) (t k e : TypeId) (hop : o.op = Op.mapUpdate t m x v) (hk : P.underlying k = some .string) (ht : P.underlying t = some (.map k e))
    (b n : Nat) (f : Mp.Fn) (s : ByteArray) (hs : s.size ≤ maxLen) (hn : n < maxLen) (val : Value) (hm : a.eval m = .map (some b)) (hx : a.eval x = .string s) (hv : a.eval v = val) (h : MapF P k w b n f)
    (hK : ∀ w', MapF P k w' b (n + 1) (Mp.put f s val) → w.grownBy w' (some b) → wpListIn F nF P ops Q rest (a.put o.dst undef) w') : wpListIn F nF P ops Q (o :: rest) a w := by
  obtain ⟨D, hD, hf⟩ := h
  refine wpListIn_mapUpdate_own w hg m x v t hop k e (string_keyed hk) ht Mp.rv b n D hm hD hn (.string s) val (Mp.kl s) hx hv (keyOf_string_mk hk hs) (.held val) [] rfl ?_
  intro w' hD' hg'
  exact hK w' (MapF.put_ hD hf hD') hg'
theorem run_makeHint (c : Int) (W : World) : (Instr.makeMap 128 (some (.int .i64 c))).run Tryz.prog W = .ok (.map (some W.heap.size)) (W.alloc (.map #[] 0)) := by
  simp [Instr.makeMap, run_underlying Tryz.underlying128]
  rfl
theorem clip_bound {α β : Type} (a : List α) (b : List β) (h : a.length < b.length) (hb : b.length ≤ 1000000) : a.length < maxLen := by unfold maxLen; omega
set_option maxRecDepth 100000 in
set_option maxHeartbeats 4000000 in
theorem places_any (ns : List ByteArray) (hcount : ns.length ≤ 1000000) (hsz : ∀ s ∈ ns, s.size ≤ maxLen) (gn : Nat) (lbn : Array Value) (eg : ∀ args w, (callFunc gn args).run Tryz.prog w = .ok (.enter gn args) w) (w : World) (hname : Lk.Tells gn lbn ns w) :
    Calls Tryz.prog 96 #[.int .i64 (ns.length : Int), .func (.func gn) #[] lbn] w (Lk.PlRet ns w) := by
  have hmm := run_makeHint (ns.length : Int)
  refine (callsIn_wide (n := 5)).1 ?_
  refine callsIn_of_wp_marks Tryz.func96 rfl trivial ?_ rfl
  simp only [Tryz.ntmps96, List.size_toArray, List.length_cons, List.length_nil, Nat.reduceAdd, Nat.reduceSub, Array.replicate_succ, Array.replicate_zero, List.push_toArray, List.append_toArray, List.nil_append, List.cons_append]
  gi_wp2_with (first | (refine ⟨trivial, ?_⟩; gi_at_call 127; refine (callsIn_wide.2 (behind_any _ _ _ _)).mono ?_; rintro e w' ⟨rfl, rfl⟩) | (gi_at_call 127; refine (callsIn_wide.2 (behind_any _ _ _ _)).mono ?_; rintro e w' ⟨rfl, rfl⟩))
  obtain ⟨h, hh⟩ : ∃ h, w.heap.size = h := ⟨_, rfl⟩
  have hB0 : Below h w ((((w.alloc (.map #[] 0)).alloc (.cells #[.map (some h)] 128)).alloc (.cells #[.int .i64 (ns.length : Int)] 3)).alloc (.cells #[.func (.func gn) #[] lbn] 179)) := by
    have := (((((Below.refl w.heap.size w).alloc (Nat.le_refl _) (.map #[] 0)).alloc (by simp) (.cells #[.map (some h)] 128)).alloc (by simp; omega) (.cells #[.int .i64 (ns.length : Int)] 3)).alloc (by simp; omega) (.cells #[.func (.func gn) #[] lbn] 179))
    rw [hh] at this
    exact this
  have hM0 : MapF Tryz.prog 9 ((((w.alloc (.map #[] 0)).alloc (.cells #[.map (some h)] 128)).alloc (.cells #[.int .i64 (ns.length : Int)] 3)).alloc (.cells #[.func (.func gn) #[] lbn] 179)) h 0 (fun _ => none) := by
    have := (((MapF.made (P := Tryz.prog) (k := 9) w).alloc (.cells #[.map (some h)] 128)).alloc (.cells #[.int .i64 (ns.length : Int)] 3)).alloc (.cells #[.func (.func gn) #[] lbn] 179)
    rw [hh] at this
    exact this
  have k1 : ((((w.alloc (.map #[] 0)).alloc (.cells #[.map (some h)] 128)).alloc (.cells #[.int .i64 (ns.length : Int)] 3)).alloc (.cells #[.func (.func gn) #[] lbn] 179)).cell? ⟨h + 1, 0, none⟩ = some (.map (some h)) := by
    have := ((At.new (w.alloc (.map #[] 0)) #[Value.map (some h)] 128).allocO (.cells #[.int .i64 (ns.length : Int)] 3)).allocO (.cells #[.func (.func gn) #[] lbn] 179)
    rw [World.size_alloc, hh] at this
    exact this.cell 0 _ rfl
  have k2 : ((((w.alloc (.map #[] 0)).alloc (.cells #[.map (some h)] 128)).alloc (.cells #[.int .i64 (ns.length : Int)] 3)).alloc (.cells #[.func (.func gn) #[] lbn] 179)).cell? ⟨h + 1 + 1, 0, none⟩ = some (.int .i64 (ns.length : Int)) := by
    have := (At.new ((w.alloc (.map #[] 0)).alloc (.cells #[.map (some h)] 128)) #[Value.int .i64 (ns.length : Int)] 3).allocO (.cells #[.func (.func gn) #[] lbn] 179)
    rw [World.size_alloc, World.size_alloc, hh] at this
    exact this.cell 0 _ rfl
  have k3 : ((((w.alloc (.map #[] 0)).alloc (.cells #[.map (some h)] 128)).alloc (.cells #[.int .i64 (ns.length : Int)] 3)).alloc (.cells #[.func (.func gn) #[] lbn] 179)).cell? ⟨h + 1 + 1 + 1, 0, none⟩ = some (.func (.func gn) #[] lbn) := by
    have := At.new (((w.alloc (.map #[] 0)).alloc (.cells #[.map (some h)] 128)).alloc (.cells #[.int .i64 (ns.length : Int)] 3)) #[Value.func (.func gn) #[] lbn] 179
    rw [World.size_alloc, World.size_alloc, World.size_alloc, hh] at this
    exact this.cell 0 _ rfl
  have k4 : ((((w.alloc (.map #[] 0)).alloc (.cells #[.map (some h)] 128)).alloc (.cells #[.int .i64 (ns.length : Int)] 3)).alloc (.cells #[.func (.func gn) #[] lbn] 179)).heap.size = h + 4 := by
    rw [← hh]; simp
  rw [hh]
  obtain ⟨W0, hW0⟩ : ∃ W, ((((w.alloc (.map #[] 0)).alloc (.cells #[.map (some h)] 128)).alloc (.cells #[.int .i64 (ns.length : Int)] 3)).alloc (.cells #[.func (.func gn) #[] lbn] 179)) = W := ⟨_, rfl⟩
  rw [hW0] at hB0 hM0 k1 k2 k3 k4 ⊢
  clear hW0 hmm
  refine wpIn_rangeFunc_ownG (F := Fence.wide) (n := 5) rfl (by decide) (gf := 150) (lb := #[.pointer (some ⟨h + 1 + 1, 0, none⟩), .pointer (some ⟨h + 1 + 1 + 1, 0, none⟩)]) rfl trivial (enters_of Tryz.func150 (by kernel_rfl) rfl)
    (encs := fun x : Nat × ByteArray => #[Value.int .i64 (x.1 : Int), Value.string (Lk.clip x.2)]) (Kp := Lk.But h (h + 4)) (S := fun ys => ys = Lk.down ns 0) (Sp := fun _ => True) (N := ns.length) (w0 := W0)
    (fun l JY JX W hW _ _ hY h0 => behind1_in 4 (by decide) l (h + 1 + 1) (h + 1 + 1 + 1) h (h + 4) ns hcount hsz gn lbn eg JY JX hY W ((hW.cell (p := ⟨h + 1 + 1, 0, none⟩) (by rw [k4]; show h + 1 + 1 < h + 4; omega)).trans k2) ((hW.cell (p := ⟨h + 1 + 1 + 1, 0, none⟩) (by rw [k4]; show h + 1 + 1 + 1 < h + 4; omega)).trans k3) ⟨by omega, by omega⟩ ⟨by omega, by omega⟩
      (fun W' i hb hi => hname W' i (fun p hp => (hb.cell (by omega) (by omega)).trans ((hW.cell (by rw [k4]; omega)).trans (hB0.cell (by omega)))) hi) h0)
    (fun a b => a.trans b) (Lk.But.put (by rw [k4]; exact Nat.le_refl _)) (Below.refl _ _) (fun _ => rfl)
    (fun pre W => ((MapF Tryz.prog 9 W h pre.length (Lk.fn pre) ∧ W.cell? ⟨h + 1, 0, none⟩ = some (.map (some h))) ∧ h + 4 ≤ W.heap.size) ∧ Below h w W)
    (fun _ _ _ => False)
    (OwnFrom.and (fun s A B row hs hg hr => ⟨⟨hs.1.1.kept hg (fun e => by have := (hr h e.symm).1; rw [k4] at this; omega), cell_kept hs.1.2 hg (fun r e => (hr r e).2)⟩, Nat.le_trans hs.2 hg.size⟩) (ownFrom_below (by omega) (by rw [k4]; omega)))
    (fun _ _ _ _ _ hs _ _ => hs)
    ⟨⟨⟨hM0, k1⟩, by rw [k4]; exact Nat.le_refl _⟩, hB0⟩
    (fun x => { tmps := #[.int .i64 (ns.length : Int), .func (.func gn) #[] lbn, undef, undef, .map none, .pointer (some ⟨h + 1, 0, none⟩), .int .i64 (x.1 : Int), .string (Lk.clip x.2), .int .i64 (ns.length : Int), .map (some h), .int .i64 (ns.length : Int), .func (.func gn) #[] lbn,
      .func (.func 150) #[] #[.pointer (some ⟨h + 1 + 1, 0, none⟩), .pointer (some ⟨h + 1 + 1 + 1, 0, none⟩)], .int .i64 (x.1 : Int), .string (Lk.clip x.2), undef, undef, undef, undef], defers := [] }) ?assign ?body ?done ?stop
  case assign =>
    intro l x W K hK
    gi_wp2
    exact hK
  case body =>
    rintro l pre x W ⟨⟨⟨hM, hc⟩, hz⟩, hB⟩ hlen
    have hn := clip_bound pre ns hlen hcount
    gi_wp2_with (first | (gi_at_mapUpdate; refine wpListIn_store _ rfl _ _ _ 128 9 3 rfl Tryz.underlying9 Tryz.underlying128 h pre.length _ (Lk.clip x.2) (Lk.clip_le x.2) hn _ rfl rfl rfl hM ?_; intro w1 hM1 hg1))
    refine ⟨KeepsFrom.of_grownBy hg1 (fun j e => by cases e <;> (rw [k4]; omega)), ⟨hg1.size, fun k hk hb => hg1.block k (by omega) (fun e => hb (by cases e; rfl))⟩, ⟨⟨?_, ?_⟩, Nat.le_trans hz hg1.size⟩, hB.grown hg1 (by omega) (fun k e => by cases e <;> omega)⟩
    · rw [Lk.fn_snoc, List.length_append]
      exact hM1
    · exact (World.cell?_of_block (a := ⟨h + 1, 0, none⟩) (hg1.block (h + 1) (by omega) (fun e => by cases e <;> omega))).trans hc
  case done =>
    rintro D ys W hD rfl ⟨⟨⟨hM, hc⟩, hz⟩, hB⟩ hK
    gi_wp2
    refine ⟨by simp, .inl ⟨_, _, rfl, run_takeDeferred hK, ?_⟩⟩
    rw [k4] at hD
    refine ⟨_, results_tmp rfl _ _ _, h, rfl, by omega, ?_, ?_⟩
    · have := hM.kept (grownBy_putObj' W D (.deferred none)) (fun e => by cases e <;> omega)
      rw [Lk.fn_all ns hsz] at this
      rwa [show (Lk.down ns 0).length = ns.length by unfold Lk.down; simp] at this
    · rw [hh]
      exact hB.trans (belowK_b (w := w) (by omega) W D _ _ (by omega) hK rfl rfl)
  case stop =>
    rintro D c pre W _ _ h _
    exact h.elim
end Go.Proofs.YtdanbnolbaelhaaGreatDoor

/- A scope in which the run jumps back to several labels: what holds at every jump to each, and a measure that every pass lowers. -/
namespace Go.Proofs.YtdanbnolbaelhaaGreatDoor
open Go Go.RowKit

end Go.Proofs.YtdanbnolbaelhaaGreatDoor

/- The contract of scan.kind; the fields of a line in plain words. -/
namespace Go.Proofs.YtdanbnolbaelhaaGreatDoor
open Go.RowKit

namespace Sc
/-- The kind of a byte: 1 parts, 2 is bad, 3 begins a comment, 4 quotes. -/
def kind (c : Int) : Int := if c = 32 ∨ c = 9 ∨ c = 13 then 1 else if c < 32 ∨ c = 127 then 2 else if c = 35 then 3 else if c = 34 then 4 else 0
theorem cases_ (c : Int) (h0 : 0 ≤ c) (h1 : c ≤ 255) : (0 ≤ c ∧ c ≤ 8) ∨ (c = 9) ∨ (10 ≤ c ∧ c ≤ 12) ∨ (c = 13) ∨ (14 ≤ c ∧ c ≤ 31) ∨ (c = 32) ∨ (c = 33) ∨ (c = 34) ∨ (c = 35) ∨ (36 ≤ c ∧ c ≤ 126) ∨ (c = 127) ∨ (128 ≤ c ∧ c ≤ 255) := by omega
/-- Where the scanner is: between fields; within one (where it began, what it has); within quotes (where they began). -/
inductive Mode where
  | b
  | f (begin : Int) (text : List UInt8)
  | q (quote begin : Int) (text : List UInt8)
/-- The fields, each with its column; or the column, and why. -/
inductive Res where
  | ok (l : List (List UInt8 × Int))
  | bad (col why : Int)
def scan : List UInt8 → Int → Mode → List (List UInt8 × Int) → Res
  | [], _, .b, acc => .ok acc
  | [], _, .f b t, acc => .ok (acc ++ [(t, b)])
  | [], _, .q q _ _, _ => .bad q 5
  | c :: l, at_, .b, acc =>
    if kind c.toNat = 1 then scan l (at_ + 1) .b acc else if kind c.toNat = 3 then .ok acc else if kind c.toNat = 2 then .bad (at_ + 1) 4
    else if acc.length = 24 then .bad (at_ + 1) 6 else if kind c.toNat = 4 then scan l (at_ + 1) (.q (at_ + 1) (at_ + 1) []) acc else scan l (at_ + 1) (.f (at_ + 1) [c]) acc
  | c :: l, at_, .f b t, acc =>
    if kind c.toNat = 1 then scan l (at_ + 1) .b (acc ++ [(t, b)]) else if kind c.toNat = 3 then .ok (acc ++ [(t, b)]) else if kind c.toNat = 2 then .bad (at_ + 1) 4
    else if kind c.toNat = 4 then scan l (at_ + 1) (.q (at_ + 1) b t) acc else scan l (at_ + 1) (.f b (t ++ [c])) acc
  | c :: l, at_, .q q b t, acc =>
    if kind c.toNat = 2 then .bad (at_ + 1) 4 else if kind c.toNat = 4 then scan l (at_ + 1) (.f b t) acc else scan l (at_ + 1) (.q q b (t ++ [c])) acc
/-- The fields of a line. -/
def fields (s : List UInt8) : Res := if 2048 < s.length then .bad 2049 6 else scan s 0 .b []
section
variable {c : UInt8} {l : List UInt8} {a b q : Int} {t : List UInt8} {acc : List (List UInt8 × Int)}
end
end Sc
end Go.Proofs.YtdanbnolbaelhaaGreatDoor

/- Plain law of moments and untils: each is read from its texts. -/
namespace Go.Proofs.YtdanbnolbaelhaaGreatDoor
open Go.RowKit

theorem u8_of (n : Nat) (h : n < 256) : (UInt8.ofNat n).toNat = n := by simp; omega
namespace Dy
end Dy
namespace Mo
/-- A time's text ends in a digit. -/
theorem text_last (s : Int) (h : IsTime s) : ∃ (X : List UInt8) (k : Nat), Ck.text s = X ++ [UInt8.ofNat (48 + k)] ∧ k < 10 ∧ 1 ≤ X.length := by
  unfold Ck.text Ck.body
  rw [if_pos h]
  obtain ⟨a, ha⟩ : ∃ a, (if s < 0 then -s else s) = a := ⟨_, rfl⟩
  have h0 : 0 ≤ a ∧ a ≤ 604800 := by obtain ⟨p, q⟩ := h; rw [← ha]; split <;> omega
  rw [ha]
  have e : ∀ n, Ck.two n = [58, UInt8.ofNat (48 + n.toNat / 10)] ++ [UInt8.ofNat (48 + n.toNat % 10)] := fun n => rfl
  by_cases hs : 0 < a % 3600 % 60
  · rw [if_pos hs, e (a % 3600 % 60)]
    exact ⟨Ck.sign s ++ (Lib.itoa (a / 3600) ++ Ck.two (a % 3600 / 60) ++ [58, UInt8.ofNat (48 + (a % 3600 % 60).toNat / 10)]), (a % 3600 % 60).toNat % 10, by simp, by omega, by simp; omega⟩
  · rw [if_neg hs, e (a % 3600 / 60), List.append_nil]
    exact ⟨Ck.sign s ++ (Lib.itoa (a / 3600) ++ [58, UInt8.ofNat (48 + (a % 3600 / 60).toNat / 10)]), (a % 3600 / 60).toNat % 10, by simp, by omega, by simp; omega⟩
theorem mk_get (X : List UInt8) (c : UInt8) (h : X.length < (⟨(X ++ [c]).toArray⟩ : ByteArray).size) : (⟨(X ++ [c]).toArray⟩ : ByteArray)[X.length]'h = c := by
  show (X ++ [c]).toArray[X.length]'_ = c
  simp
theorem mk_ext (X : List UInt8) (c : UInt8) : (⟨(X ++ [c]).toArray⟩ : ByteArray).extract 0 X.length = ⟨X.toArray⟩ := by
  apply ByteArray.ext
  simp [ByteArray.data_extract]
theorem cut_snoc (X : List UInt8) (c : UInt8) : cutS ⟨(X ++ [c]).toArray⟩ = if by_ (c.toNat : Int) = 3 then (⟨(X ++ [c]).toArray⟩, 0) else (⟨X.toArray⟩, by_ (c.toNat : Int)) := by
  have hsz : (⟨(X ++ [c]).toArray⟩ : ByteArray).size = X.length + 1 := by simp [ByteArray.size]
  obtain ⟨R, V, hc⟩ : ∃ R V, cutS ⟨(X ++ [c]).toArray⟩ = (R, V) := ⟨_, _, rfl⟩
  have h := cutS_pos _ X.length hsz (by omega) R V hc
  rw [mk_get, mk_ext] at h
  rw [hc]
  rcases h with ⟨h1, h2, h3⟩ | ⟨h1, h2, h3⟩
  · rw [if_pos h1, h2, h3]
  · rw [if_neg h1, h2, h3]
theorem ne_dash (l : List UInt8) (h : 2 ≤ l.length) : ¬ (⟨l.toArray⟩ : ByteArray) = ⟨#[45]⟩ := by
  intro e
  have : (⟨l.toArray⟩ : ByteArray).size = (⟨#[45]⟩ : ByteArray).size := by rw [e]
  simp [ByteArray.size] at this
  omega
/-- A right moment is read from its text. -/
theorem parse_text (s c : Int) (h : Ok s c) (h0 : 0 ≤ c) : parse ⟨(text s c).toArray⟩ = ((s, c), 0) := by
  obtain ⟨X, k, hX, hk, hl⟩ := text_last s h.1
  have hp := Ck.parse_text s h.1
  have hc : c = 0 ∨ c = 1 ∨ c = 2 := by have := h.2; omega
  have e48 : ((UInt8.ofNat (48 + k)).toNat : Int) = 48 + k := by rw [u8_of _ (by omega)]; omega
  have hpar : ∀ (S R : ByteArray) (V a : Int), ¬ S = ⟨#[45]⟩ → cutS S = (R, V) → Ck.parse R = (a, 0) → parse S = ((a, V), 0) := by
    intro S R V a h1 h2 h3
    unfold parse
    rw [if_neg h1, h2]
    simp only [h3, if_true]
  rcases hc with rfl | rfl | rfl
  · have e : text s 0 = X ++ [UInt8.ofNat (48 + k)] := by unfold text tail; rw [hX]; simp
    refine hpar _ ⟨(Ck.text s).toArray⟩ 0 s (ne_dash _ (by rw [e]; simp; omega)) ?_ hp
    rw [e, cut_snoc, if_pos (by unfold by_; rw [e48, if_neg (by omega), if_neg (by omega), if_neg (by omega)]), ← hX]
  · have e : text s 1 = Ck.text s ++ [115] := rfl
    have e2 : by_ ((115 : UInt8).toNat : Int) = 1 := by decide
    refine hpar _ ⟨(Ck.text s).toArray⟩ 1 s (ne_dash _ (by rw [e, hX]; simp)) ?_ hp
    rw [e, cut_snoc, e2]
    rfl
  · have e : text s 2 = Ck.text s ++ [117] := rfl
    have e2 : by_ ((117 : UInt8).toNat : Int) = 2 := by decide
    refine hpar _ ⟨(Ck.text s).toArray⟩ 2 s (ne_dash _ (by rw [e, hX]; simp)) ?_ hp
    rw [e, cut_snoc, e2]
    rfl
section
variable (u : U)
end
/-- What the first j texts tell. -/
def first (u : U) (j : Nat) : U :=
  if j = 1 then ⟨u.y, 1, 0, 1, 0, 0, 0⟩ else if j = 2 then ⟨u.y, u.m, 0, 1, 0, 0, 0⟩ else if j = 3 then ⟨u.y, u.m, u.k, u.n, u.d, 0, 0⟩ else u
end Mo
end Go.Proofs.YtdanbnolbaelhaaGreatDoor

/- The contract of rule.read: one text of a rule. -/
namespace Go.Proofs.YtdanbnolbaelhaaGreatDoor
open Go.RowKit

theorem At.grown {w w' : World} {h g : Nat} {xs : List Value} (a : At w h xs) (hg : w.grownBy w' (some g)) (hne : h ≠ g) : At w' h xs :=
  ⟨Nat.lt_of_lt_of_le a.1 hg.size, fun i v hi => ⟨(hg.cell_far ⟨h, i, none⟩ a.1 (by intro e; injection e with e; exact hne e)).trans (a.2 i v hi).1, (hg.frozen_far ⟨h, i, none⟩ a.1 (by intro e; injection e with e; exact hne e)).trans (a.2 i v hi).2⟩⟩
namespace Ru
/-- What the text at place k makes of a rule, and why it does not. -/
def rstep (k : Nat) (r : R) (x : ByteArray) : R × Int :=
  if k = 0 then (⟨x, r.fr, r.tt, r.mo, r.k, r.n, r.d, r.s, r.c, r.sv, r.lt⟩, if name (tl x) = true then 0 else 7)
  else if k = 1 then (⟨r.nm, Mo.yearV (Mo.yearN (tl x)), r.tt, r.mo, r.k, r.n, r.d, r.s, r.c, r.sv, r.lt⟩, if Mo.yearB (Mo.yearN (tl x)) = true then 0 else 4)
  else if k = 2 then (⟨r.nm, r.fr, (toS x r.fr).1, r.mo, r.k, r.n, r.d, r.s, r.c, r.sv, r.lt⟩, (toS x r.fr).2)
  else if k = 3 then (r, if x = ⟨#[45]⟩ then 0 else 4)
  else if k = 4 then (⟨r.nm, r.fr, r.tt, Wd.pick (tl x) (Months.map tl) + 1, r.k, r.n, r.d, r.s, r.c, r.sv, r.lt⟩, if Wd.pick (tl x) (Months.map tl) + 1 = 0 then 7 else 0)
  else if k = 5 then (if Dy.Ok (Dy.told (tl x)).1 (Dy.told (tl x)).2.1 (Dy.told (tl x)).2.2 then (⟨r.nm, r.fr, r.tt, r.mo, (Dy.told (tl x)).1, (Dy.told (tl x)).2.1, (Dy.told (tl x)).2.2, r.s, r.c, r.sv, r.lt⟩, 0) else (⟨r.nm, r.fr, r.tt, r.mo, 0, 0, 0, r.s, r.c, r.sv, r.lt⟩, 4))
  else if k = 6 then (⟨r.nm, r.fr, r.tt, r.mo, r.k, r.n, r.d, (Mo.parse x).1.1, (Mo.parse x).1.2, r.sv, r.lt⟩, (Mo.parse x).2)
  else if k = 7 then (if x = ⟨#[45]⟩ then (r, 0) else (⟨r.nm, r.fr, r.tt, r.mo, r.k, r.n, r.d, r.s, r.c, (Ck.parse x).1, r.lt⟩, (Ck.parse x).2))
  else (if x = ⟨#[45]⟩ then (r, 0) else (⟨r.nm, r.fr, r.tt, r.mo, r.k, r.n, r.d, r.s, r.c, r.sv, x⟩, if Ab.letter x = true then 0 else 4))
end Ru
end Go.Proofs.YtdanbnolbaelhaaGreatDoor

/- The contract of rule.Parse. -/
namespace Go.Proofs.YtdanbnolbaelhaaGreatDoor
open Go.RowKit

namespace Ru
def run : List ByteArray → Nat → R → R × Int × Int
  | [], _, r => (r, 0, 0)
  | t :: l, k, r => if (rstep k r t).2 = 0 then run l (k + 1) (rstep k r t).1 else (R.zero, k, (rstep k r t).2)
def parse (l : List ByteArray) : R × Int × Int :=
  if (run (l.take 9) 0 R.zero).2.2 = 0 then (if l.length < 9 then (R.zero, l.length, 5) else if 9 < l.length then (R.zero, 9, 6) else ((run (l.take 9) 0 R.zero).1, 0, 0)) else run (l.take 9) 0 R.zero
end Ru
end Go.Proofs.YtdanbnolbaelhaaGreatDoor

/- The contract of rule.Text. -/
namespace Go.Proofs.YtdanbnolbaelhaaGreatDoor
open Go.RowKit Go.Sort

namespace Ru
def R.last (r : R) : ByteArray := if r.tt = r.fr then only else if r.tt = 9999 then ⟨#[109, 97, 120]⟩ else ⟨(Lib.itoa r.tt).toArray⟩
def R.lett (r : R) : ByteArray := if r.lt = ⟨#[]⟩ then ⟨#[45]⟩ else r.lt
/-- The nine texts of a rule. -/
def R.texts (r : R) : List ByteArray := [r.nm, ⟨(Lib.itoa r.fr).toArray⟩, r.last, ⟨#[45]⟩, textOf Months (r.mo - 1), ⟨(Dy.text r.k r.n r.d).toArray⟩, ⟨(Mo.text r.s r.c).toArray⟩, ⟨(Ck.text r.sv).toArray⟩, r.lett]
end Ru
theorem empty_no (s : ByteArray) (h : ¬ s = ⟨#[]⟩) : s.toList.isEmpty = false := by
  rw [ByteArray.toList_eq]
  cases e : s.data.toList with
  | nil =>
    exfalso
    apply h
    apply ByteArray.ext
    apply Array.ext'
    rw [e]
  | cons a l => rfl
end Go.Proofs.YtdanbnolbaelhaaGreatDoor

/- Eras in plain words: what is right, what is read, what is written. -/
namespace Go.Proofs.YtdanbnolbaelhaaGreatDoor
open Go.RowKit

namespace Ab
def b0 : ByteArray := ⟨#[]⟩
def pS : ByteArray := ⟨#[37, 115]⟩
def pZ : ByteArray := ⟨#[37, 122]⟩
def pE : ByteArray := ⟨#[47]⟩
def ahd (f p : ByteArray) : ByteArray := ⟨(Lib.cut f.data.toList p.data.toList).1.toArray⟩
def bhd (f p : ByteArray) : ByteArray := ⟨(Lib.cut f.data.toList p.data.toList).2.1.toArray⟩
def has (f p : ByteArray) : Bool := (Lib.cut f.data.toList p.data.toList).2.2
/-- A format in parts, and whether it is right. -/
def cutf (f : ByteArray) : ByteArray × ByteArray × ByteArray × Bool :=
  if f.size < 1 ∨ 32 < f.size then (b0, b0, b0, false)
  else if has f pS = true then (ahd f pS, pS, bhd f pS, all [ahd f pS, bhd f pS])
  else if has f pZ = true then (ahd f pZ, pZ, bhd f pZ, all [ahd f pZ, bhd f pZ])
  else if has f pE = true then (ahd f pE, pE, bhd f pE, !decide (ahd f pE = b0) && (!decide (bhd f pE = b0) && all [ahd f pE, bhd f pE]))
  else (f, b0, b0, all [f])
def fmt (f : ByteArray) : Bool := (cutf f).2.2.2
end Ab
instance decU : DecidableEq Mo.U := fun a b => decidable_of_iff (a.y = b.y ∧ a.m = b.m ∧ a.k = b.k ∧ a.n = b.n ∧ a.d = b.d ∧ a.s = b.s ∧ a.c = b.c) (by cases a; cases b; simp)
namespace Er
/-- An era: offset, kind, what is saved, rules' name, format, whether it ends, until. -/
structure E where
  std : Int
  k : Int
  sv : Int
  ru : ByteArray
  fm : ByteArray
  en : Bool
  u : Mo.U
instance decE : DecidableEq E := fun a b => decidable_of_iff (a.std = b.std ∧ a.k = b.k ∧ a.sv = b.sv ∧ a.ru = b.ru ∧ a.fm = b.fm ∧ a.en = b.en ∧ a.u = b.u) (by cases a; cases b; simp)
def E.v (e : E) : Value := .agg #[.int .i64 e.std, .int .u8 e.k, .int .i64 e.sv, .string e.ru, .string e.fm, .bool e.en, .int .i64 e.u.y, .int .i64 e.u.m, .int .u8 e.u.k, .int .i64 e.u.n, .int .i64 e.u.d, .int .i64 e.u.s, .int .u8 e.u.c]
def E.cells (e : E) : List Value := [.int .i64 e.std, .int .u8 e.k, .int .i64 e.sv, .string e.ru, .string e.fm, .bool e.en, .int .i64 e.u.y, .int .i64 e.u.m, .int .u8 e.u.k, .int .i64 e.u.n, .int .i64 e.u.d, .int .i64 e.u.s, .int .u8 e.u.c]
def E.zero : E := ⟨0, 0, 0, ⟨#[]⟩, ⟨#[]⟩, false, Mo.U.zero⟩
def E.Kind (e : E) : Prop := (e.k = 0 ∧ e.sv = 0 ∧ e.ru = ⟨#[]⟩) ∨ (e.k = 1 ∧ IsTime e.sv ∧ e.ru = ⟨#[]⟩) ∨ (e.k = 2 ∧ e.sv = 0 ∧ Ru.name (tl e.ru) = true)
def E.Ok (e : E) : Prop := IsTime e.std ∧ Ab.fmt e.fm = true ∧ e.Kind ∧ (e.en = true → e.u.Ok) ∧ (e.en = false → e.u = Mo.U.zero)
def digAt (s : ByteArray) (k : Nat) : Bool := match (tl s)[k]? with
  | some c => decide (48 ≤ (c.toNat : Int) ∧ (c.toNat : Int) ≤ 57)
  | none => false
def num (s : ByteArray) : Bool := digAt s 0 || (decide ((tl s)[0]? = some 45) && digAt s 1)
def stdS (e : E) (s : ByteArray) : E × Int := if s = ⟨#[45]⟩ then (e, 0) else (⟨(Ck.parse s).1, e.k, e.sv, e.ru, e.fm, e.en, e.u⟩, (Ck.parse s).2)
def savS (e : E) (s : ByteArray) : E × Int :=
  if s = ⟨#[45]⟩ then (e, 0) else if num s = true then (⟨e.std, 1, (Ck.parse s).1, e.ru, e.fm, e.en, e.u⟩, (Ck.parse s).2)
  else if Ru.name (tl s) = true then (⟨e.std, 2, e.sv, s, e.fm, e.en, e.u⟩, 0) else (e, 7)
def fmS (e : E) (s : ByteArray) : E × Int := (⟨e.std, e.k, e.sv, e.ru, s, e.en, e.u⟩, if Ab.fmt s = true then 0 else 4)
def estep (j : Nat) (e : E) (s : ByteArray) : E × Int := if j = 0 then stdS e s else if j = 1 then savS e s else fmS e s
def run : List ByteArray → Nat → E → E × Int × Int
  | [], _, e => (e, 0, 0)
  | t :: l, j, e => if (estep j e t).2 = 0 then run l (j + 1) (estep j e t).1 else (E.zero, j, (estep j e t).2)
def E.until_ (e : E) (u : Mo.U) : E := ⟨e.std, e.k, e.sv, e.ru, e.fm, true, u⟩
def parse (l : List ByteArray) : E × Int × Int :=
  if (run (l.take 3) 0 E.zero).2.2 = 0 then
    (if l.length < 3 then (E.zero, l.length, 5) else if l.length = 3 then ((run (l.take 3) 0 E.zero).1, 0, 0)
     else if (Mo.uParse (l.drop 3)).2.2 = 0 then ((run (l.take 3) 0 E.zero).1.until_ (Mo.uParse (l.drop 3)).1, 0, 0)
     else (E.zero, 3 + (Mo.uParse (l.drop 3)).2.1, (Mo.uParse (l.drop 3)).2.2))
  else run (l.take 3) 0 E.zero
def E.mid (e : E) : ByteArray := if e.k = 1 then ⟨(Ck.text e.sv).toArray⟩ else if e.k = 2 then e.ru else ⟨#[45]⟩
def E.front (e : E) : List ByteArray := [⟨(Ck.text e.std).toArray⟩, e.mid, e.fm]
/-- The texts of an era. -/
def E.texts (e : E) : List ByteArray := if e.en = true then e.front ++ e.u.texts else e.front
end Er
end Go.Proofs.YtdanbnolbaelhaaGreatDoor
