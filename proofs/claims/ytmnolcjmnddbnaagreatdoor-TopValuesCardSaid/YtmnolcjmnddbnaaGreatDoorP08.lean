/- intake.whole: bytes that were made of a text, cut and written on. -/
import Derived.Test.YtmnolcjmnddbnaaGreatDoorP07
import Derived.Deep.AppendSrc
import Derived.Laws.IdiomCopy
import Derived.Shelf.Strings.SlTrimAscii
import Derived.Lib.SlBytesConst
import Derived.Lib.Bytes

namespace Go.Proofs.YtmnolcjmnddbnaaGreatDoor
open Go.RowKit

namespace Ink
open Em
/-- A block of bytes of a call's own: its first ones are l. -/
structure Buf (B : Nat) (w : World) (g c : Nat) (l : Txt) : Prop where
  new : B ≤ g
  lt : g < w.heap.size
  le : l.length ≤ c
  max : c ≤ maxLen
  holds : ∀ j x, l[j]? = some x → w.cell? ⟨g, j, none⟩ = some (.int .u8 (x.toNat : Int))
  there : ∀ j, j < c → (w.cell? ⟨g, j, none⟩).isSome = true ∧ w.frozen? ⟨g, j, none⟩ = false
section
variable {B g c : Nat} {w w' : World} {l : Txt}
theorem Buf.call (h : Buf B w g c l) (hb : Below w.heap.size w w') : Buf B w' g c l := by
  have e := hb.block g h.lt
  exact ⟨h.new, Nat.lt_of_lt_of_le h.lt hb.size, h.le, h.max, fun j x hj => (World.cell?_of_block (a := ⟨g, j, none⟩) e).trans (h.holds j x hj), fun j hj => ⟨by rw [World.cell?_of_block (a := ⟨g, j, none⟩) e]; exact (h.there j hj).1, (World.frozen?_of_block (a := ⟨g, j, none⟩) e).trans (h.there j hj).2⟩⟩
theorem Buf.drewN (h : Buf B w g c l) (n : Nat) : Buf B (w.drewN n) g c l := ⟨h.new, h.lt, h.le, h.max, h.holds, h.there⟩
theorem Buf.drew (h : Buf B w g c l) : Buf B w.drew g c l := ⟨h.new, h.lt, h.le, h.max, h.holds, h.there⟩
theorem Buf.less (h : Buf B w g c l) {l' : Txt} (hp : l' <+: l) : Buf B w g c l' :=
  ⟨h.new, h.lt, Nat.le_trans hp.length_le h.le, h.max, fun j x hj => h.holds j x (by
    obtain ⟨t, rfl⟩ := hp
    rw [List.getElem?_append_left (List.getElem?_eq_some_iff.1 hj).1]
    exact hj), h.there⟩
theorem Buf.conv (w : World) (s : ByteArray) (hs : s.size ≤ 100000000) : Buf w.heap.size (Lib.bytesWorld w 5 s) w.heap.size (grownCap w s.size 0 5) (tl s) := by
  have hge := grownCap_ge w s.size 0 5
  have hle := grownCap_le_maxLen w s.size 0 5 (by unfold maxLen; omega)
  have hsz : (Lib.bytesCells w 5 s).size = grownCap w s.size 0 5 := by
    unfold Lib.bytesCells
    rw [Array.size_append, Array.size_map, Array.size_replicate]
    show s.size + _ = _
    omega
  refine ⟨Nat.le_refl _, by rw [Lib.bytesWorld_size]; omega, by rw [tl_length]; exact hge, hle, fun j x hj => ?_, fun j hj => ⟨?_, ?_⟩⟩
  · have hjl := (List.getElem?_eq_some_iff.1 hj).1
    rw [tl_length] at hjl
    rw [Lib.bytesWorld_cell w 5 s j hjl]
    have : s.data.toList.getD j 0 = x := by
      show (tl s).getD j 0 = x
      rw [List.getD_eq_getElem?_getD, hj]
      rfl
    rw [this]
  · have e := Lib.bytesWorld_at_new w 5 s
    unfold World.cell?
    simp only [e]
    rw [Array.getElem?_eq_getElem (by omega)]
    rfl
  · have e := Lib.bytesWorld_at_new w 5 s
    unfold World.frozen?
    simp only [e]
    simp
    omega
end
theorem below_setCells {B : Nat} {a : World} (b : Nat) (hb : B ≤ b) : ∀ (vs : List Value) (o : Nat) (w : World), Below B a w → Below B a (w.setCells b o vs)
  | [], _, _, h => h
  | v :: r, o, _, h => below_setCells b hb r (o + 1) _ (h.setCell (p := ⟨b, o, none⟩) hb v)
theorem size_setCells (b : Nat) : ∀ (vs : List Value) (o : Nat) (w : World), (w.setCells b o vs).heap.size = w.heap.size
  | [], _, _ => rfl
  | _ :: r, _, _ => by rw [World.setCells, size_setCells b r, heap_set]
theorem zc_size (k : Nat) : (Builtin.zeroCells (Value.int .u8 0).cells k).size = k := by
  simp [Builtin.zeroCells, Value.cells]
theorem cells_same (s : ByteArray) : Go.byteCells s = Lib.byteCells (tl s) := rfl
set_option maxRecDepth 100000 in
/-- A text is written on behind the first n bytes. -/
theorem Buf.write {B g c n : Nat} {w : World} {l : Txt} (h : Buf B w g c l) (s : ByteArray) (hn : l.length = n) (hs : n + s.size ≤ 100000000) (ty : TypeId) :
    ∃ g' c' w', (Builtin.append_ #[31, 9] ty #[.slice (some ⟨g, 0, none⟩) n c, .string s]).run Tryz.prog w = .ok (.slice (some ⟨g', 0, none⟩) (n + s.size) c') w' ∧ Buf B w' g' c' (l ++ tl s) ∧ Below B w w' := by
  subst hn
  obtain ⟨i, hi, hz, h1, h2⟩ := info_parts u8_info
  have hsrc := Src.ofString (P := Tryz.prog) w (tx := 9) Tryz.underlying9 s
  have hgl : (tl s).length = s.size := tl_length s
  by_cases hroom : l.length + s.size ≤ c
  · have hr := run_append_room_src (P := Tryz.prog) w 31 9 ty 5 i Tryz.underlying31 hi g 0 l.length c (.string s) s.size (Go.byteCells s) (by rw [h1]; exact hsrc) hroom
      (fun j hj => by
        rw [h1, Nat.zero_add, Nat.mul_one]
        exact (h.there _ (by rw [byteCells_length] at hj; omega)).1)
      (fun j hj => by
        rw [h1, Nat.zero_add, Nat.mul_one]
        exact (h.there _ (by rw [byteCells_length] at hj; omega)).2)
    rw [h1, Nat.zero_add, Nat.mul_one] at hr
    refine ⟨g, c, _, hr, ⟨h.new, by rw [size_setCells]; exact h.lt, by rw [List.length_append, hgl]; exact hroom, h.max, fun j x hj => ?_, fun j hj => ⟨?_, ?_⟩⟩, below_setCells g h.new _ _ _ (Below.refl _ _)⟩
    · by_cases hjl : j < l.length
      · rw [List.getElem?_append_left hjl] at hj
        rw [World.cell?_setCells_out g _ _ _ _ (fun _ _ => .inl hjl)]
        exact h.holds j x hj
      · rw [List.getElem?_append_right (by omega)] at hj
        have hjs : j - l.length < (Go.byteCells s).length := by rw [byteCells_length, ← hgl]; exact (List.getElem?_eq_some_iff.1 hj).1
        have h3 := World.cell?_setCells_in g (Go.byteCells s) l.length w (fun k hk => (h.there _ (by rw [byteCells_length] at hk; omega)).1) (j - l.length) hjs
        rw [show l.length + (j - l.length) = j by omega] at h3
        rw [h3]
        have h4 : (Go.byteCells s)[j - l.length]? = some (.int .u8 (x.toNat : Int)) := by
          show ((tl s).map fun b => Value.int .u8 (b.toNat : Int))[j - l.length]? = _
          rw [List.getElem?_map, hj]
          rfl
        rw [List.getElem?_eq_getElem hjs] at h4
        exact h4
    · by_cases hin : l.length ≤ j ∧ j < l.length + (Go.byteCells s).length
      · have h3 := World.cell?_setCells_in g (Go.byteCells s) l.length w (fun k hk => (h.there _ (by rw [byteCells_length] at hk; omega)).1) (j - l.length) (by omega)
        rw [show l.length + (j - l.length) = j by omega] at h3
        rw [h3]
        rfl
      · rw [World.cell?_setCells_out g _ _ _ _ (fun _ _ => by
          show j < l.length ∨ l.length + (Go.byteCells s).length ≤ j
          omega)]
        exact (h.there j hj).1
    · rw [World.frozen?_setCells]
      exact (h.there j hj).2
  · have hold : (Builtin.firstCells i.size l.length (.slice (some ⟨g, 0, none⟩) l.length c)).run Tryz.prog w.drew = .ok (Lib.byteCells l).toArray w.drew := by
      rw [h1]
      refine run_firstCells_some (P := Tryz.prog) w.drew 1 l.length ⟨g, 0, none⟩ l.length c (Lib.byteCells l) (by rw [Em.cells_len', Nat.mul_one]) fun j v hj => ?_
      have hadd : (⟨g, 0, none⟩ : Addr).add j = ⟨g, j, none⟩ := by unfold Addr.add; split <;> simp_all
      rw [hadd]
      unfold Lib.byteCells at hj
      rw [List.getElem?_map] at hj
      cases e : l[j]? with
      | none => rw [e] at hj; cases hj
      | some x =>
        rw [e] at hj
        have := h.holds j x e
        rw [← Option.some.inj hj]
        exact this
    have hr := run_append_grow_src (P := Tryz.prog) w 31 9 ty 5 i (Value.int .u8 0) Tryz.underlying31 hi hz (some ⟨g, 0, none⟩) l.length c (Lib.byteCells l) hold (.string s) s.size (Go.byteCells s) (by rw [h1]; exact hsrc) (by omega) (by omega)
      (by rw [h2, Nat.mul_one]; exact Nat.le_trans (nextslicecap_le (by omega)) (by omega))
    have hge := grownCap_ge w (l.length + s.size) c 5
    have hle := grownCap_le_maxLen w (l.length + s.size) c 5 (by unfold maxLen; omega)
    obtain ⟨c', hc'⟩ : ∃ c', grownCap w (l.length + s.size) c 5 = c' := ⟨_, rfl⟩
    rw [hc'] at hr hge hle
    obtain ⟨CS, hCS⟩ : ∃ CS : Array Value, ((Lib.byteCells l ++ Go.byteCells s).toArray ++ Builtin.zeroCells (Value.int .u8 0).cells (c' - (l.length + s.size))) = CS := ⟨_, rfl⟩
    have hpre : ∀ (j : Nat) (x : UInt8), (l ++ tl s)[j]? = some x → CS[j]? = some (Value.int .u8 (x.toNat : Int)) := by
      intro j x hj
      have hjl := (List.getElem?_eq_some_iff.1 hj).1
      have hlen : (Lib.byteCells l ++ Go.byteCells s).toArray.size = (l ++ tl s).length := by
        rw [List.size_toArray, List.length_append, Em.cells_len', byteCells_length, List.length_append, hgl]
      rw [← hCS, Array.getElem?_append_left (by rw [hlen]; exact hjl), List.getElem?_toArray]
      show (Lib.byteCells l ++ Lib.byteCells (tl s))[j]? = _
      rw [← Em.cells_app]
      unfold Lib.byteCells
      rw [List.getElem?_map, hj]
      rfl
    have hCsz : CS.size = c' := by
      rw [← hCS, Array.size_append, List.size_toArray, List.length_append, Em.cells_len', byteCells_length]
      have hz2 : (Builtin.zeroCells (Value.int .u8 0).cells (c' - (l.length + s.size))).size = c' - (l.length + s.size) := zc_size _
      rw [hz2]
      omega
    rw [hCS] at hr
    refine ⟨w.heap.size, c', _, hr, ⟨Nat.le_trans h.new (Nat.le_of_lt h.lt), ?_, by rw [List.length_append, hgl]; exact hge, hle, fun j x hj => ?_, fun j hj => ⟨?_, ?_⟩⟩, ?_⟩
    · rw [World.size_alloc]; exact Nat.lt_succ_self _
    · exact ((At.new w.drew CS 5).2 j _ (by rw [Array.getElem?_toList]; exact hpre j x hj)).1
    · obtain ⟨u, hu⟩ : ∃ u, CS.toList[j]? = some u := ⟨_, List.getElem?_eq_getElem (by rw [Array.length_toList]; omega)⟩
      have := (At.new w.drew CS 5).2 j u hu
      rw [show (w.drew.alloc (.cells CS 5)).cell? ⟨w.heap.size, j, none⟩ = some u from this.1]
      rfl
    · obtain ⟨u, hu⟩ : ∃ u, CS.toList[j]? = some u := ⟨_, List.getElem?_eq_getElem (by rw [Array.length_toList]; omega)⟩
      exact ((At.new w.drew CS 5).2 j u hu).2
    · exact (Below.drew (Below.refl _ w)).alloc (Nat.le_trans h.new (Nat.le_of_lt h.lt)) _
/-- The bytes, as a text. -/
theorem Buf.text {B g c n : Nat} {w : World} {l : Txt} (h : Buf B w g c l) (hn : l.length = n) : (convert 31 9 (.slice (some ⟨g, 0, none⟩) n c)).run Tryz.prog w = .ok (.string (bts l)) w := by
  subst hn
  refine run_convert_bytes_back (P := Tryz.prog) w 31 9 5 ⟨g, 0, none⟩ c l Tryz.underlying31 Tryz.underlying5 Tryz.underlying9 fun j hj => ?_
  have hadd : (⟨g, 0, none⟩ : Addr).add j = ⟨g, j, none⟩ := by unfold Addr.add; split <;> simp_all
  rw [hadd]
  exact h.holds j _ (List.getElem?_eq_getElem hj)
end Ink
end Go.Proofs.YtmnolcjmnddbnaaGreatDoor

/- intake.whole: a line with those by which it goes on. -/
namespace Go.Proofs.YtmnolcjmnddbnaaGreatDoor
open Go.RowKit

namespace Ink
open Em
theorem suf_yes (x : Txt) : Lib.hasSuffix (x ++ [44, 92]) [44, 92] = true := List.isSuffixOf_iff_suffix.2 (List.suffix_append x [44, 92])
theorem suf_no {l : Txt} (h : l.getLast? ≠ some 92) : Lib.hasSuffix l [44, 92] = false := by
  cases e : Lib.hasSuffix l [44, 92] with
  | false => rfl
  | true =>
    exfalso
    obtain ⟨t, rfl⟩ := List.isSuffixOf_iff_suffix.1 e
    apply h
    rw [List.getLast?_append]
    rfl
theorem bytesOf_nat (l : Txt) : Lib.bytesOf (l.map fun b => (b.toNat : Int)) = l := by
  unfold Lib.bytesOf
  rw [List.map_map]
  conv => rhs; rw [← List.map_id l]
  apply List.map_congr_left
  intro b _
  simp
theorem bsuf_any {B g c N : Nat} {W : World} {l : Txt} (h : Buf B W g c l) (hN : l.length = N) :
    Calls Tryz.prog 42 #[.slice (some ⟨g, 0, none⟩) N c, .slice (some ⟨W.heap.size, 0, none⟩) 2 2] (W.alloc (.cells #[.int .u8 44, .int .u8 92] 5 (2, 3))) fun e w' => e = .returned (.bool (Lib.hasSuffix l [44, 92])) ∧ w' = W.alloc (.cells #[.int .u8 44, .int .u8 92] 5 (2, 3)) := by
  have h' := h.call (Hv.bl1 W (.cells #[.int .u8 44, .int .u8 92] 5 (2, 3)))
  have hA : ∀ j u, (#[Value.int .u8 44, .int .u8 92] : Array Value)[j]? = some u → (W.alloc (.cells #[.int .u8 44, .int .u8 92] 5 (2, 3))).cell? ⟨W.heap.size, j, none⟩ = some u := fun j u hj => by
    have e : (W.alloc (.cells #[.int .u8 44, .int .u8 92] 5 (2, 3))).heap[W.heap.size]? = some (.cells #[.int .u8 44, .int .u8 92] 5 (2, 3)) := heap_alloc_new W _
    unfold World.cell?
    simp only [e]
    exact hj
  have hr := Tryz.bytes_HasSuffix g 0 N c W.heap.size 0 2 2 (l.map fun b => (b.toNat : Int)) [44, 92] (W.alloc (.cells #[.int .u8 44, .int .u8 92] 5 (2, 3))) (by rw [List.length_map]; exact hN) rfl (by rw [← hN]; exact h.le) (by have := h.le; have := h.max; unfold maxLen at this; omega)
    (fun i hi => by
      rw [Nat.zero_add]
      have hil : i < l.length := by omega
      rw [h'.holds i _ (List.getElem?_eq_getElem hil), List.getD_eq_getElem?_getD, List.getElem?_map, List.getElem?_eq_getElem hil]
      rfl)
    (fun i hi => by
      rw [Nat.zero_add]
      rcases (show i = 0 ∨ i = 1 by omega) with rfl | rfl
      · exact hA 0 _ rfl
      · exact hA 1 _ rfl)
  rw [bytesOf_nat] at hr
  exact hr
theorem trim_two {x : Txt} (h : ∀ c ∈ x, c ≠ 32 ∧ c ≠ 9) : Lib.trimLeftS (two ++ x) [32, 9] = x := by
  unfold Lib.trimLeftS two
  cases x with
  | nil => rfl
  | cons a x =>
    have ha := h a List.mem_cons_self
    simp [List.dropWhile, ha.1, ha.2]
theorem bline_plain (ps : List Txt) (n : Nat) : ∀ c ∈ bline ps n, c ≠ 32 ∧ c ≠ 9 := by
  intro c hc
  unfold bline at hc
  rcases List.mem_append.1 hc with hc | hc
  · have := hexs_plain _ c hc
    exact ⟨this.2.2.2.1, this.2.2.2.2.1⟩
  · split at hc
    · exact (show ∀ c ∈ ([44, 92] : Txt), c ≠ 32 ∧ c ≠ 9 by decide) c hc
    · cases hc
end Ink
theorem trimTwo_any (s : ByteArray) (w : World) :
    Calls Tryz.prog 43 #[.string s, .string ⟨#[32, 9]⟩] w fun e w' => e = .returned (.string (Em.bts (Lib.trimLeftS (tl s) [32, 9]))) ∧ Below w.heap.size w w' :=
  Any.strings_TrimLeft_laid Tryz.lays161 (by kernel_rfl) s ⟨#[32, 9]⟩ w (by decide) (fun j b hb => by
    have : b = 32 ∨ b = 9 := by
      have := List.mem_of_getElem? hb
      simpa using this
    rcases this with rfl | rfl <;> decide)
set_option maxHeartbeats 4000000 in
set_option maxRecDepth 100000 in
/-- A line that does not go on. -/
theorem whole_one (ad : Addr) (n c : Nat) (s : ByteArray) (w : World) (hn : 1 ≤ n) (hs : s.size ≤ 100000000) (hb : ad.block < w.heap.size) (hc : w.cell? ad = some (.string s)) (hl : (tl s).getLast? ≠ some 92) :
    Calls Tryz.prog 23 #[.slice (some ad) n c] w fun e w' => e = .returned (.tuple #[.string s, .int .i64 1]) ∧ w' = w := by
  have HS : Hid (∀ W, Calls Tryz.prog 41 #[.string s, .string ⟨#[44, 92]⟩] W fun e w' => e = .returned (.bool false) ∧ w' = W) := fun W => by
    have h := Tryz.strings_HasSuffix s ⟨#[44, 92]⟩ W (by omega)
    have e : Lib.hasSuffix s.data.toList (⟨#[44, 92]⟩ : ByteArray).data.toList = false := Ink.suf_no hl
    rw [e] at h
    exact h
  have q1 : (0 : Int) < (n : Int) := by omega
  clear hl
  go_enter Tryz.func23, Tryz.ntmps23
  go_wp2_with fail
  refine (HS.out _).mono ?_
  rintro e w1 ⟨rfl, rfl⟩
  go_wp2
  go_ret2
  exact ⟨rfl, rfl⟩
namespace Ink
open Em Od
def wval (g M c n cl : Nat) (ad : Addr) (k : Nat) (LN X : ByteArray) : Nat → Value
  | 0 => .slice (some ⟨g, 0, none⟩) (M + 1) c
  | 1 => .slice (some ⟨g, 0, none⟩) (M + 1) c
  | 2 => .int .i64 ((M : Int) + 1)
  | 3 => .int .i64 (M : Int)
  | 4 => .slice (some ⟨g, 0, none⟩) M c
  | 5 => .slice (some ad) n cl
  | 6 => .int .i64 (k : Int)
  | 7 => .pointer (some (ad.add k))
  | 8 => .string LN
  | _ => .string X
def deps : Nat → List Nat
  | 2 => [1]
  | 3 => [2]
  | 4 => [0, 3]
  | 7 => [5, 6]
  | 8 => [7]
  | 9 => [8]
  | 10 => [4, 9]
  | 11 => [10]
  | _ => []
/-- The region that puts one line more behind: what is done, what the slots hold, the bytes. -/
structure WJ (B : Nat) (W0 : World) (u0 : Nat → Value) (V : Nat → Value) (g c N : Nat) (old new : Txt) (b : Nat → Bool) (u : Nat → Value) (w : World) : Prop where
  below : Below B W0 w
  keep : ∀ j, j < 49 ∨ 59 < j → j ≠ 7 → u j = u0 j
  s7 : b 11 = false → u 7 = u0 7
  dep : ∀ k, b k = true → ∀ e ∈ deps k, b e = true
  val : ∀ k, k < 10 → b k = true → u (49 + k) = V k
  buf0 : b 10 = false → Buf B w g c old
  buf1 : b 10 = true → ∃ g' c', u 59 = .slice (some ⟨g', 0, none⟩) N c' ∧ Buf B w g' c' new ∧ (b 11 = true → u 7 = .slice (some ⟨g', 0, none⟩) N c')
section
variable {B g c N : Nat} {W0 w w' : World} {u0 u V : Nat → Value} {old new : Txt} {b : Nat → Bool}
theorem upd_true {b : Nat → Bool} {k e : Nat} (h : b e = true) : upd b k true e = true := by
  unfold upd
  split
  · rfl
  · exact h
theorem upd_ne {α : Type} {f : Nat → α} {k e : Nat} {v : α} (h : e ≠ k) : upd f k v e = f e := by
  unfold upd
  rw [if_neg h]
theorem upd_eq {α : Type} {f : Nat → α} {k : Nat} {v : α} : upd f k v k = v := by
  unfold upd
  rw [if_pos rfl]
theorem dep_step {k : Nat} (h : ∀ j, b j = true → ∀ e ∈ deps j, b e = true) (hd : ∀ e ∈ deps k, b e = true) : ∀ j, upd b k true j = true → ∀ e ∈ deps j, upd b k true e = true := by
  intro j hj e he
  by_cases hjk : j = k
  · subst hjk
    exact upd_true (hd e he)
  · rw [upd_ne hjk] at hj
    exact upd_true (h j hj e he)
theorem WJ.start (W : World) (hb : Below B W0 W) (hbuf : Buf B W g c old) : WJ B W0 u0 V g c N old new (fun _ => false) u0 W :=
  ⟨hb, fun _ _ _ => rfl, fun _ => rfl, fun _ e => (by cases e), fun _ _ e => (by cases e), fun _ => hbuf, fun e => (by cases e)⟩
theorem WJ.not11 (h : WJ B W0 u0 V g c N old new b u w) {k : Nat} (hk : k < 2) (hb : b k = false) : b 11 = false := by
  cases e : b 11 with
  | false => rfl
  | true =>
    exfalso
    have h10 := h.dep 11 e 10 (by simp [deps])
    have h4 := h.dep 10 h10 4 (by simp [deps])
    have h0 := h.dep 4 h4 0 (by simp [deps])
    have h3 := h.dep 4 h4 3 (by simp [deps])
    have h2 := h.dep 3 h3 2 (by simp [deps])
    have h1 := h.dep 2 h2 1 (by simp [deps])
    rcases (show k = 0 ∨ k = 1 by omega) with rfl | rfl
    · rw [h0] at hb; cases hb
    · rw [h1] at hb; cases hb
theorem WJ.step (h : WJ B W0 u0 V g c N old new b u w) {k : Nat} (hk : k < 10) (hd : ∀ e ∈ deps k, b e = true) (hB : B ≤ w.heap.size) (hbl : Below w.heap.size w w') : WJ B W0 u0 V g c N old new (upd b k true) (upd u (49 + k) (V k)) w' := by
  refine ⟨h.below.trans (hbl.mono hB), fun j hj h7 => ?_, fun e => ?_, dep_step h.dep hd, fun j hj e => ?_, fun e => ?_, fun e => ?_⟩
  · rw [upd_ne (by omega)]; exact h.keep j hj h7
  · rw [upd_ne (by omega)] at e ⊢
    exact h.s7 e
  · by_cases hjk : j = k
    · subst hjk; exact upd_eq
    · rw [upd_ne hjk] at e
      rw [upd_ne (by omega)]
      exact h.val j hj e
  · rw [upd_ne (by omega)] at e
    exact (h.buf0 e).call hbl
  · rw [upd_ne (by omega)] at e
    obtain ⟨g', c', h1, h2, h3⟩ := h.buf1 e
    refine ⟨g', c', by rw [upd_ne (by omega)]; exact h1, h2.call hbl, fun e2 => ?_⟩
    rw [upd_ne (by omega)] at e2
    rw [upd_ne (by omega)]
    exact h3 e2
theorem WJ.app (h : WJ B W0 u0 V g c N old new b u w) (hb : b 10 = false) (hd : ∀ e ∈ deps 10, b e = true) {g' c' : Nat} (hbl : Below B w w') (hbuf : Buf B w' g' c' new) : WJ B W0 u0 V g c N old new (upd b 10 true) (upd u 59 (.slice (some ⟨g', 0, none⟩) N c')) w' := by
  have h11 : b 11 = false := by
    cases e : b 11 with
    | false => rfl
    | true =>
      have := h.dep 11 e 10 (by simp [deps])
      rw [hb] at this
      cases this
  refine ⟨h.below.trans hbl, fun j hj h7 => ?_, fun e => ?_, dep_step h.dep hd, fun j hj e => ?_, fun e => ?_, fun _ => ⟨g', c', upd_eq, hbuf, fun e => ?_⟩⟩
  · rw [upd_ne (by omega)]; exact h.keep j hj h7
  · rw [upd_ne (by omega)]
    exact h.s7 h11
  · rw [upd_ne (by omega)] at e
    rw [upd_ne (by omega)]
    exact h.val j hj e
  · rw [upd_eq] at e; cases e
  · rw [upd_ne (by omega), h11] at e; cases e
theorem WJ.fin (h : WJ B W0 u0 V g c N old new b u w) (hd : ∀ e ∈ deps 11, b e = true) {x : Value} (hx : u 59 = x) : WJ B W0 u0 V g c N old new (upd b 11 true) (upd u 7 x) w := by
  refine ⟨h.below, fun j hj h7 => ?_, fun e => ?_, dep_step h.dep hd, fun j hj e => ?_, fun e => ?_, fun e => ?_⟩
  · rw [upd_ne h7]; exact h.keep j hj h7
  · rw [upd_eq] at e; cases e
  · rw [upd_ne (by omega)] at e
    rw [upd_ne (by omega)]
    exact h.val j hj e
  · rw [upd_ne (by omega)] at e
    exact h.buf0 e
  · rw [upd_ne (by omega)] at e
    obtain ⟨g', c', h1, h2, _⟩ := h.buf1 e
    exact ⟨g', c', by rw [upd_ne (by omega)]; exact h1, h2, fun _ => by rw [upd_eq, ← hx, h1]⟩
end
/-- An append, by what it runs to. -/
theorem wp_app {P : Program} {w w' : World} {o : Oper} {a : Act} {K : Act → World → Prop} {Q : Exit → Act → World → Prop} {t tx : TypeId} {v y v' : Value} (s x : Operand) (ho : o.op = .call { callee := .builtin .append, args := #[s, x], argTypes := #[t, tx] })
    (hs : a.eval s = v) (hx : a.eval x = y) (hrun : (Builtin.append_ #[t, tx] o.type #[v, y]).run P w = .ok v' w') (h : K (a.put o.dst v') w') : o.wp P a w K Q := by
  unfold Oper.wp execOp
  simp only [ho, resolve, invoke, builtin, Sem.run_bind, Sem.run_pure, Result.andThen_ok, List.map_toArray, List.map_cons, List.map_nil, hs, hx, hrun]
  exact h
def wline (v : Hv.V) (ps : List Txt) (j : Nat) : Txt := if j = 0 then bpre v ++ bline ps 0 else two ++ bline ps j
theorem bpre_len (v : Hv.V) : (bpre v).length ≤ 2 * v.name.size + 9 := by
  have := quote_len (tl v.name)
  rw [tl_length] at this
  unfold bpre
  rw [List.length_append]
  show _ + 7 ≤ _
  omega
theorem flat_len : ∀ (ps : List Txt) (k : Nat), ((ps.take k).flatten).length ≤ ps.flatten.length := by
  intro ps k
  have h : ps.flatten = (ps.take k).flatten ++ (ps.drop k).flatten := by rw [← List.flatten_append, List.take_append_drop]
  rw [h, List.length_append]
  omega
theorem bsum_len (ps : List Txt) (k : Nat) : (bsum ps k).length ≤ 3 * ps.flatten.length + 2 := by
  have h1 := hexs_len ((ps.take k).flatten)
  have h2 := flat_len ps k
  unfold bsum
  rw [List.length_append]
  split
  · show _ + 2 ≤ _
    omega
  · show _ + 0 ≤ _
    omega
end Ink
set_option maxHeartbeats 16000000 in
set_option maxRecDepth 200000 in
/-- A line of bytes with those by which it goes on. -/
theorem whole_more (nm : ByteArray) (v : Hv.V) (hvn : v.name = nm) (ps : List Em.Txt) (ad : Addr) (n cl p : Nat) (w : World) (hp : ps.length = p) (h2 : 2 ≤ p) (hpn : p ≤ n) (hnx : n ≤ 100000000) (hnm : nm.size ≤ 100000) (hfl : ps.flatten.length ≤ 100000) (hne : ∀ x ∈ ps, x ≠ []) (hab : ad.block < w.heap.size)
    (hc : ∀ j, j < p → w.cell? (ad.add j) = some (.string (Em.bts (Ink.wline v ps j)))) :
    Calls Tryz.prog 23 #[.slice (some ad) n cl] w fun e w' => e = .returned (.tuple #[.string (Em.bts (Ink.bpre v ++ Em.hexs ps.flatten)), .int .i64 (p : Int)]) ∧ Below w.heap.size w w' := by
  have hbl := Ink.bpre_len v
  rw [hvn] at hbl
  obtain ⟨L0, hL0⟩ : ∃ L, Em.bts (Ink.wline v ps 0) = L := ⟨_, rfl⟩
  have h0 := hc 0 (by omega)
  rw [hL0, show ad.add 0 = ad by unfold Addr.add; rw [if_pos rfl]] at h0
  have ht0 : tl L0 = Ink.bpre v ++ Ink.bsum ps 1 := by
    rw [← hL0, Em.tl_bts]
    unfold Ink.wline
    rw [if_pos rfl, Ink.bsum_one (by intro e; rw [e] at hp; simp at hp; omega)]
  have hL0s : L0.size ≤ 1000000 := by
    rw [← tl_length, ht0, List.length_append]
    have := Ink.bsum_len ps 1
    omega
  have HS : Hid (∀ W, Calls Tryz.prog 41 #[.string L0, .string ⟨#[44, 92]⟩] W fun e w' => e = .returned (.bool true) ∧ W = w') := fun W => by
    have h := Tryz.strings_HasSuffix L0 ⟨#[44, 92]⟩ W (by omega)
    obtain ⟨x, hx⟩ := Ink.bsum_goes (ps := ps) (n := 1) (Ink.bpre v) (by omega)
    have e : Lib.hasSuffix L0.data.toList (⟨#[44, 92]⟩ : ByteArray).data.toList = true := by
      show Lib.hasSuffix (tl L0) [44, 92] = true
      rw [ht0, hx]
      exact Ink.suf_yes x
    rw [e] at h
    exact h.mono fun _ _ h => ⟨h.1, h.2.symm⟩
  obtain ⟨R, hR⟩ : ∃ R, Em.bts ([61, 98, 121, 116, 101, 115, 58] ++ Ink.bsum ps 1) = R := ⟨_, rfl⟩
  have HU : Hid (∀ W, Calls Tryz.prog 18 #[.string L0] W fun e w' => e = .returned (.tuple #[.string nm, .string R, .bool true]) ∧ Below W.heap.size W w') := fun W => by
    have h := unquote_any L0 (by omega) W
    rw [ht0] at h
    unfold Ink.bpre at h
    rw [List.append_assoc, Ink.uq_quote, hvn] at h
    rw [← hR]
    exact h
  have HP : Hid (∀ W, Calls Tryz.prog 19 #[.string R, .string ⟨#[61, 98, 121, 116, 101, 115, 58]⟩] W fun e w' => e = .returned (.bool true) ∧ W = w') := fun W => by
    have h := Tryz.strings_HasPrefix R ⟨#[61, 98, 121, 116, 101, 115, 58]⟩ W
    have e : Lib.hasPrefix R.data.toList (⟨#[61, 98, 121, 116, 101, 115, 58]⟩ : ByteArray).data.toList = true := by
      show Lib.hasPrefix (tl R) [61, 98, 121, 116, 101, 115, 58] = true
      rw [← hR, Em.tl_bts]
      exact (Ink.cut_hit [61, 98, 121, 116, 101, 115, 58] (Ink.bsum ps 1)).2
    rw [e] at h
    exact h.mono fun _ _ h => ⟨h.1, h.2.symm⟩
  have q1 : (0 : Int) < (n : Int) := by omega
  have hcv := fun W => Lib.run_convert_string_bytes (P := Tryz.prog) W 9 31 5 L0 (u := .string) Tryz.underlying9 Tryz.underlying31 Tryz.underlying5
  have HC := Lib.hid hc
  have HNe := Lib.hid hne
  have HPs := Lib.hid hp
  have HT0 := Lib.hid ht0
  have HFl := Lib.hid hfl
  have HAb := Lib.hid hab
  have HBl := Lib.hid hbl
  have HB0 := Lib.hid (Below.refl w.heap.size w)
  clear hL0 ht0 hR hc hne hp hfl hvn hbl
  go_enter Tryz.func23, Tryz.ntmps23
  go_wp2_with fail
  refine (HS.out _).mono ?_
  rintro e w1 ⟨rfl, rfl⟩
  go_wp2_with fail
  refine (HU.out _).mono ?_
  rintro e w2 ⟨rfl, hb⟩
  have HB2 := Lib.hid hb
  have h0' := (World.cell?_of_block (a := ad) (hb.block ad.block hab)).trans h0
  have hab' : ad.block < w2.heap.size := Nat.lt_of_lt_of_le hab hb.size
  clear hb h0
  go_wp2_with fail
  refine (HP.out _).mono ?_
  rintro e w3 ⟨rfl, rfl⟩
  have hcv3 := hcv w2
  obtain ⟨C0, hC0⟩ : ∃ C, grownCap w2 L0.size 0 5 = C := ⟨_, rfl⟩
  have hbuf := Ink.Buf.conv w2 L0 (by omega)
  have hbw := Ink.bw_below w2 L0
  rw [hC0] at hcv3 hbuf
  rw [HT0.out] at hbuf
  obtain ⟨W4, hW4⟩ : ∃ W, Lib.bytesWorld w2 5 L0 = W := ⟨_, rfl⟩
  rw [hW4] at hcv3 hbuf hbw
  have HB4 := Lib.hid (below_then HB2.out hbw)
  have hwb := HB2.out.size
  have HBuf4 : Hid (Ink.Buf w.heap.size W4 w2.heap.size C0 (Ink.bpre v ++ Ink.bsum ps 1)) := ⟨Nat.le_trans hwb hbuf.new, hbuf.lt, hbuf.le, hbuf.max, hbuf.holds, hbuf.there⟩
  have hL0l : (Ink.bpre v ++ Ink.bsum ps 1).length = L0.size := by rw [← HT0.out, tl_length]
  obtain ⟨M0, hM0⟩ : ∃ M, L0.size = M + 1 := ⟨L0.size - 1, by
    rw [← hL0l, List.length_append]
    have : 1 ≤ (Ink.bpre v).length := by unfold Ink.bpre; rw [List.length_append]; show 1 ≤ _ + 7; omega
    omega⟩
  have HM0 := Lib.hid (hL0l.trans hM0)
  rw [hM0] at hcv3
  clear hcv hbuf hbw hW4 hC0 hL0l hM0
  go_wp2_with fail
  go_loopw [7, 8] (fun vv i wr => ∃ k g c M : Nat, k ≤ p ∧ vv = .slice (some ⟨g, 0, none⟩) (M + 1) c ∧ i = .int .i64 (k : Int) ∧ Hid (1 ≤ k) ∧ Hid ((Ink.bpre v ++ Ink.bsum ps k).length = M + 1) ∧ Hid (Ink.Buf w.heap.size wr g c (Ink.bpre v ++ Ink.bsum ps k)) ∧ Hid (Below w.heap.size w wr)) (fun _ i _ => p - (intOf i).toNat)
  case atStart => exact ⟨1, _, _, _, by omega, rfl, rfl, Nat.le_refl _, HM0.out, HBuf4.out, HB4.out⟩
  case round =>
    obtain ⟨k, g, c, M, hk, rfl, rfl, HK1, HM, HBuf, HBr⟩ := hrel
    have hMl : M ≤ 1000000 := by
      have h1 := HM.out
      rw [List.length_append] at h1
      have h2 := Ink.bsum_len ps k
      have h3 := HBl.out
      have h4 := HFl.out
      omega
    have hMc : M + 1 ≤ c := by have := HBuf.out.le; rw [HM.out] at this; exact this
    by_cases hlt : k < p
    · have t1 : (k : Int) < (n : Int) := by omega
      have HSf : Hid (Calls Tryz.prog 42 #[.slice (some ⟨g, 0, none⟩) (M + 1) c, .slice (some ⟨wr.heap.size, 0, none⟩) 2 2] (wr.alloc (.cells #[.int .u8 44, .int .u8 92] 5 (2, 3))) fun e w' => e = .returned (.bool true) ∧ w' = wr.alloc (.cells #[.int .u8 44, .int .u8 92] 5 (2, 3))) := by
        have h := Ink.bsuf_any HBuf.out HM.out
        obtain ⟨x, hx⟩ := Ink.bsum_goes (ps := ps) (n := k) (Ink.bpre v) (by rw [HPs.out]; exact hlt)
        rw [hx, Ink.suf_yes] at h
        exact h
      have HBufA := Lib.hid (HBuf.out.call (Hv.bl1 wr (.cells #[.int .u8 44, .int .u8 92] 5 (2, 3))))
      have HBrA := Lib.hid (HBr.out.alloc HBr.out.size (.cells #[.int .u8 44, .int .u8 92] 5 (2, 3)))
      obtain ⟨LN, hLN⟩ : ∃ L, Em.bts (Ink.wline v ps k) = L := ⟨_, rfl⟩
      have hlc := HC.out k hlt
      rw [hLN] at hlc
      obtain ⟨X, hX⟩ : ∃ X, Em.bts (Ink.bline ps k) = X := ⟨_, rfl⟩
      have hXs : (Ink.bline ps k).length = X.size := by rw [← hX, Em.bts_size]
      have HTr : Hid (∀ W, Calls Tryz.prog 43 #[.string LN, .string ⟨#[32, 9]⟩] W fun e w' => e = .returned (.string X) ∧ Below W.heap.size W w') := fun W => by
        have h := trimTwo_any LN W
        have e : Lib.trimLeftS (tl LN) [32, 9] = Ink.bline ps k := by
          rw [← hLN, Em.tl_bts]
          unfold Ink.wline
          rw [if_neg (by have := HK1.out; omega)]
          exact Ink.trim_two (Ink.bline_plain ps k)
        rw [e, hX] at h
        exact h
      have hnew : (Ink.bpre v ++ Ink.bsum ps k).dropLast ++ tl X = Ink.bpre v ++ Ink.bsum ps (k + 1) := by
        rw [← hX, Em.tl_bts, ← Ink.bsum_next HNe.out HK1.out (by rw [HPs.out]; exact hlt), List.dropLast_append_of_ne_nil (by unfold Ink.bsum; rw [if_pos (by rw [HPs.out]; exact hlt)]; simp), List.append_assoc]
      obtain ⟨old, hold⟩ : ∃ o, (Ink.bpre v ++ Ink.bsum ps k) = o := ⟨_, rfl⟩
      rw [hold] at hnew
      have hol : old.dropLast.length = M := by rw [List.length_dropLast, ← hold, HM.out]; omega
      have hpre : old.dropLast <+: old := List.dropLast_prefix old
      have HNew := Lib.hid hnew
      have HOl := Lib.hid hol
      have HPre := Lib.hid hpre
      have hXl : X.size ≤ 1000000 := by
        have h1 := congrArg List.length hnew
        rw [List.length_append, tl_length, List.length_append] at h1
        have h2 := Ink.bsum_len ps (k + 1)
        have h3 := HBl.out
        have h4 := HFl.out
        omega
      have HXl := Lib.hid hXl
      have HNl : Hid ((Ink.bpre v ++ Ink.bsum ps (k + 1)).length = M + X.size) := by
        show _ = _
        rw [← hnew, List.length_append, tl_length, hol]
      have HLc := Lib.hid hlc
      rw [hold] at HBufA
      clear hlc hLN hX hXs hnew hold hol hpre hXl
      have hcc := Lib.run_convert_bytes_const (P := Tryz.prog) wr 31 5 #[.int .u8 44, .int .u8 92] 2 2 Tryz.underlying31 Tryz.underlying5
      change _ = Result.ok _ (wr.alloc (.cells #[.int .u8 44, .int .u8 92] 5 (2, 3))) at hcc
      go_wp2_with fail
      refine HSf.out.mono ?_
      rintro e w5 ⟨rfl, rfl⟩
      obtain ⟨W5, hW5⟩ : ∃ W, wr.alloc (.cells #[.int .u8 44, .int .u8 92] 5 (2, 3)) = W := ⟨_, rfl⟩
      rw [hW5] at HBufA HBrA ⊢
      clear hW5
      obtain ⟨M2, hM2⟩ : ∃ M2, M + X.size = M2 + 1 := ⟨M + X.size - 1, by
        have h1 := HNl.out
        rw [List.length_append] at h1
        have : 1 ≤ (Ink.bpre v).length := by unfold Ink.bpre; rw [List.length_append]; show 1 ≤ _ + 7; omega
        omega⟩
      have HM2 := Lib.hid hM2
      have HNl2 : Hid ((Ink.bpre v ++ Ink.bsum ps (k + 1)).length = M2 + 1) := HNl.out.trans hM2
      have t2 : (0 : Int) ≤ (k : Int) := by omega
      have t3 : (0 : Int) ≤ (M : Int) := by omega
      have t4 : (M : Int) ≤ (c : Int) := by omega
      have t5 : IntKind.i64.wrap ((M : Int) + 1 - 1) = (M : Int) := by rw [IntKind.wrap_i64]; omega
      have t6 : IntKind.i64.wrap ((M : Int) + 1) = (M : Int) + 1 := by rw [IntKind.wrap_i64]; omega
      have t7 : IntKind.i64.wrap (M : Int) = (M : Int) := by rw [IntKind.wrap_i64]; omega
      clear hM2
      go_upto_region 9 with fail
      refine Od.wp_region_inv 65 (by kernel_rfl) (by rfl) (by rfl) (Od.ord_of (by kernel_rfl)) (Od.dst_of (by kernel_rfl)) (Ink.WJ w.heap.size W5 (Od.slots _) (Ink.wval g M c n cl ad k LN X) g c (M2 + 1) old (Ink.bpre v ++ Ink.bsum ps (k + 1))) (Ink.WJ.start _ (Below.refl _ _).drew HBufA.out.drew) ?stepR ?finR
      case stepR =>
        intro i o hi b a' wv hJ hb hdep hdf K hK
        obtain ⟨tm, df⟩ := a'
        simp only at hdf
        subst hdf
        have hi12 : i < 12 := (Array.getElem?_eq_some_iff.1 hi).1
        have hB : w.heap.size ≤ wv.heap.size := Nat.le_trans HBrA.out.size hJ.below.size
        have hBv : Below w.heap.size w wv := HBrA.out.trans hJ.below
        have hsplit : i = 0 ∨ i = 1 ∨ i = 2 ∨ i = 3 ∨ i = 4 ∨ i = 5 ∨ i = 6 ∨ i = 7 ∨ i = 8 ∨ i = 9 ∨ i = 10 ∨ i = 11 := by omega
        rcases hsplit with rfl | rfl | rfl | rfl | rfl | rfl | rfl | rfl | rfl | rfl | rfl | rfl
        · have e := Option.some.inj (show some _ = some o from hi)
          subst e
          rw [if_pos (show Region.wanted _ _ = true from rfl)]
          have v0 : tm.getD 7 undef = .slice (some ⟨g, 0, none⟩) (M + 1) c := (hJ.s7 (hJ.not11 (k := 0) (by omega) hb)).trans rfl
          have v0' : tm[7]?.getD undef = .slice (some ⟨g, 0, none⟩) (M + 1) c := by rw [← Array.getD_eq_getD_getElem?]; exact v0
          go_simp
          exact hK _ _ (hJ.step (k := 0) (by omega) (fun e he => by simp [Ink.deps] at he) hB (Below.refl _ _))
        · have e := Option.some.inj (show some _ = some o from hi)
          subst e
          rw [if_pos (show Region.wanted _ _ = true from rfl)]
          have v0 : tm.getD 7 undef = .slice (some ⟨g, 0, none⟩) (M + 1) c := (hJ.s7 (hJ.not11 (k := 1) (by omega) hb)).trans rfl
          have v0' : tm[7]?.getD undef = .slice (some ⟨g, 0, none⟩) (M + 1) c := by rw [← Array.getD_eq_getD_getElem?]; exact v0
          go_simp
          exact hK _ _ (hJ.step (k := 1) (by omega) (fun e he => by simp [Ink.deps] at he) hB (Below.refl _ _))
        · have e := Option.some.inj (show some _ = some o from hi)
          subst e
          rw [if_pos (show Region.wanted _ _ = true from rfl)]
          have v1 := hJ.val 1 (by omega) (hdep ⟨1, .data⟩ (by simp) rfl)
          change tm.getD 50 undef = _ at v1
          simp only [Ink.wval] at v1
          have v1' := v1
          rw [Array.getD_eq_getD_getElem?] at v1'
          go_simp
          exact hK _ _ (hJ.step (k := 2) (by omega) (by intro e he; obtain rfl := List.mem_singleton.1 he; exact hdep ⟨1, .data⟩ (by simp) rfl) hB (Below.refl _ _))
        · have e := Option.some.inj (show some _ = some o from hi)
          subst e
          rw [if_pos (show Region.wanted _ _ = true from rfl)]
          have v2 := hJ.val 2 (by omega) (hdep ⟨2, .data⟩ (by simp) rfl)
          change tm.getD 51 undef = _ at v2
          simp only [Ink.wval] at v2
          have v2' := v2
          rw [Array.getD_eq_getD_getElem?] at v2'
          go_simp
          exact hK _ _ (hJ.step (k := 3) (by omega) (by intro e he; obtain rfl := List.mem_singleton.1 he; exact hdep ⟨2, .data⟩ (by simp) rfl) hB (Below.refl _ _))
        · have e := Option.some.inj (show some _ = some o from hi)
          subst e
          rw [if_pos (show Region.wanted _ _ = true from rfl)]
          have v0 := hJ.val 0 (by omega) (hdep ⟨0, .data⟩ (by simp) rfl)
          change tm.getD 49 undef = _ at v0
          simp only [Ink.wval] at v0
          have v0' := v0
          rw [Array.getD_eq_getD_getElem?] at v0'
          have v3 := hJ.val 3 (by omega) (hdep ⟨3, .data⟩ (by simp) rfl)
          change tm.getD 52 undef = _ at v3
          simp only [Ink.wval] at v3
          have v3' := v3
          rw [Array.getD_eq_getD_getElem?] at v3'
          go_simp
          exact hK _ _ (hJ.step (k := 4) (by omega) (by intro e he; rcases List.mem_cons.1 he with rfl | he; exact hdep ⟨0, .data⟩ (by simp) rfl; obtain rfl := List.mem_singleton.1 he; exact hdep ⟨3, .data⟩ (by simp) rfl) hB (Below.refl _ _))
        · have e := Option.some.inj (show some _ = some o from hi)
          subst e
          rw [if_pos (show Region.wanted _ _ = true from rfl)]
          have v0 : tm.getD 0 undef = .slice (some ad) n cl := (hJ.keep 0 (by omega) (by omega)).trans rfl
          have v0' : tm[0]?.getD undef = .slice (some ad) n cl := by rw [← Array.getD_eq_getD_getElem?]; exact v0
          go_simp
          exact hK _ _ (hJ.step (k := 5) (by omega) (fun e he => by simp [Ink.deps] at he) hB (Below.refl _ _))
        · have e := Option.some.inj (show some _ = some o from hi)
          subst e
          rw [if_pos (show Region.wanted _ _ = true from rfl)]
          have v0 : tm.getD 8 undef = .int .i64 (k : Int) := (hJ.keep 8 (by omega) (by omega)).trans rfl
          have v0' : tm[8]?.getD undef = .int .i64 (k : Int) := by rw [← Array.getD_eq_getD_getElem?]; exact v0
          go_simp
          exact hK _ _ (hJ.step (k := 6) (by omega) (fun e he => by simp [Ink.deps] at he) hB (Below.refl _ _))
        · have e := Option.some.inj (show some _ = some o from hi)
          subst e
          rw [if_pos (show Region.wanted _ _ = true from rfl)]
          have v5 := hJ.val 5 (by omega) (hdep ⟨5, .data⟩ (by simp) rfl)
          change tm.getD 54 undef = _ at v5
          simp only [Ink.wval] at v5
          have v5' := v5
          rw [Array.getD_eq_getD_getElem?] at v5'
          have v6 := hJ.val 6 (by omega) (hdep ⟨6, .data⟩ (by simp) rfl)
          change tm.getD 55 undef = _ at v6
          simp only [Ink.wval] at v6
          have v6' := v6
          rw [Array.getD_eq_getD_getElem?] at v6'
          go_simp
          exact hK _ _ (hJ.step (k := 7) (by omega) (by intro e he; rcases List.mem_cons.1 he with rfl | he; exact hdep ⟨5, .data⟩ (by simp) rfl; obtain rfl := List.mem_singleton.1 he; exact hdep ⟨6, .data⟩ (by simp) rfl) hB (Below.refl _ _))
        · have e := Option.some.inj (show some _ = some o from hi)
          subst e
          rw [if_pos (show Region.wanted _ _ = true from rfl)]
          have v7 := hJ.val 7 (by omega) (hdep ⟨7, .data⟩ (by simp) rfl)
          change tm.getD 56 undef = _ at v7
          simp only [Ink.wval] at v7
          have v7' := v7
          rw [Array.getD_eq_getD_getElem?] at v7'
          have hlc : wv.cell? (ad.add k) = some (.string LN) := (World.cell?_of_block (a := ad.add k) (hBv.block (ad.add k).block (by rw [block_of_add]; exact HAb.out))).trans HLc.out
          go_simp
          exact hK _ _ (hJ.step (k := 8) (by omega) (by intro e he; obtain rfl := List.mem_singleton.1 he; exact hdep ⟨7, .data⟩ (by simp) rfl) hB (Below.refl _ _))
        · have e := Option.some.inj (show some _ = some o from hi)
          subst e
          rw [if_pos (show Region.wanted _ _ = true from rfl)]
          have v8 := hJ.val 8 (by omega) (hdep ⟨8, .data⟩ (by simp) rfl)
          change tm.getD 57 undef = _ at v8
          simp only [Ink.wval] at v8
          have v8' := v8
          rw [Array.getD_eq_getD_getElem?] at v8'
          go_simp
          refine (HTr.out wv).mono ?_
          rintro e w' ⟨rfl, hbm⟩
          exact hK _ _ (hJ.step (k := 9) (by omega) (by intro e he; obtain rfl := List.mem_singleton.1 he; exact hdep ⟨8, .data⟩ (by simp) rfl) hB hbm)
        · have e := Option.some.inj (show some _ = some o from hi)
          subst e
          rw [if_pos (show Region.wanted _ _ = true from rfl)]
          have v4 := hJ.val 4 (by omega) (hdep ⟨4, .data⟩ (by simp) rfl)
          change tm.getD 53 undef = _ at v4
          simp only [Ink.wval] at v4
          have v9 := hJ.val 9 (by omega) (hdep ⟨9, .data⟩ (by simp) rfl)
          change tm.getD 58 undef = _ at v9
          simp only [Ink.wval] at v9
          obtain ⟨g', c', w', hrun, hbuf, hbl⟩ := Ink.Buf.write ((hJ.buf0 hb).less HPre.out) X HOl.out (by have := HXl.out; omega) _
          rw [HNew.out] at hbuf
          rw [HM2.out] at hrun
          refine Ink.wp_app (.tmp 53) (.tmp 58) rfl v4 v9 hrun ?_
          exact hK _ _ (hJ.app hb (by intro e he; rcases List.mem_cons.1 he with rfl | he; exact hdep ⟨4, .data⟩ (by simp) rfl; obtain rfl := List.mem_singleton.1 he; exact hdep ⟨9, .data⟩ (by simp) rfl) hbl hbuf)
        · have e := Option.some.inj (show some _ = some o from hi)
          subst e
          rw [if_pos (show Region.wanted _ _ = true from rfl)]
          obtain ⟨g', c', v10, hbuf, _⟩ := hJ.buf1 (hdep ⟨10, .data⟩ (by simp) rfl)
          change tm.getD 59 undef = _ at v10
          have v10' := v10
          rw [Array.getD_eq_getD_getElem?] at v10'
          go_simp
          exact hK _ _ (hJ.fin (by intro e he; obtain rfl := List.mem_singleton.1 he; exact hdep ⟨10, .data⟩ (by simp) rfl) v10)
      case finR =>
        intro a' wv hJ hN hdf
        have s0 : a'.tmps.getD 0 undef = .slice (some ad) n cl := (hJ.keep 0 (by omega) (by omega)).trans rfl
        have s8 : a'.tmps.getD 8 undef = .int .i64 (k : Int) := (hJ.keep 8 (by omega) (by omega)).trans rfl
        obtain ⟨g', c', _, hbuf, h7⟩ := hJ.buf1 (by rfl)
        have s7 : a'.tmps.getD 7 undef = .slice (some ⟨g', 0, none⟩) (M2 + 1) c' := h7 (by rfl)
        have HBv := Lib.hid (HBrA.out.trans hJ.below)
        have HBf := Lib.hid hbuf
        have ef : a' = { tmps := ((List.range 65).map fun i => a'.tmps.getD i undef).toArray, defers := [] } := Ink.frame_of 65 a' hN hdf
        obtain ⟨u, hu⟩ : ∃ u : Nat → Value, (fun i => a'.tmps.getD i undef) = u := ⟨_, rfl⟩
        rw [hu] at ef
        have e0 : u 0 = .slice (some ad) n cl := by rw [← hu]; exact s0
        have e7 : u 7 = .slice (some ⟨g', 0, none⟩) (M2 + 1) c' := by rw [← hu]; exact s7
        have e8 : u 8 = .int .i64 (k : Int) := by rw [← hu]; exact s8
        have e1 : u 1 = undef := by rw [← hu]; exact (hJ.keep 1 (by omega) (by omega)).trans rfl
        have e2 : u 2 = .string ⟨#[]⟩ := by rw [← hu]; exact (hJ.keep 2 (by omega) (by omega)).trans rfl
        have e3 : u 3 = .int .i64 0 := by rw [← hu]; exact (hJ.keep 3 (by omega) (by omega)).trans rfl
        have e4 : u 4 = .string nm := by rw [← hu]; exact (hJ.keep 4 (by omega) (by omega)).trans rfl
        have e5 : u 5 = .string R := by rw [← hu]; exact (hJ.keep 5 (by omega) (by omega)).trans rfl
        have e6 : u 6 = .bool true := by rw [← hu]; exact (hJ.keep 6 (by omega) (by omega)).trans rfl
        have e9 : u 9 = .slice (some ad) n cl := by rw [← hu]; exact (hJ.keep 9 (by omega) (by omega)).trans rfl
        have e10 : u 10 = .pointer (some ad) := by rw [← hu]; exact (hJ.keep 10 (by omega) (by omega)).trans rfl
        have e11 : u 11 = .string L0 := by rw [← hu]; exact (hJ.keep 11 (by omega) (by omega)).trans rfl
        have e12 : u 12 = .bool true := by rw [← hu]; exact (hJ.keep 12 (by omega) (by omega)).trans rfl
        have e13 : u 13 = .bool false := by rw [← hu]; exact (hJ.keep 13 (by omega) (by omega)).trans rfl
        have e14 : u 14 = undef := by rw [← hu]; exact (hJ.keep 14 (by omega) (by omega)).trans rfl
        have e15 : u 15 = undef := by rw [← hu]; exact (hJ.keep 15 (by omega) (by omega)).trans rfl
        have e16 : u 16 = undef := by rw [← hu]; exact (hJ.keep 16 (by omega) (by omega)).trans rfl
        have e17 : u 17 = .tuple #[.string nm, .string R, .bool true] := by rw [← hu]; exact (hJ.keep 17 (by omega) (by omega)).trans rfl
        have e18 : u 18 = .slice (some ad) n cl := by rw [← hu]; exact (hJ.keep 18 (by omega) (by omega)).trans rfl
        have e19 : u 19 = .pointer (some ad) := by rw [← hu]; exact (hJ.keep 19 (by omega) (by omega)).trans rfl
        have e20 : u 20 = .string L0 := by rw [← hu]; exact (hJ.keep 20 (by omega) (by omega)).trans rfl
        have e21 : u 21 = .tuple #[.string nm, .string R, .bool true] := by rw [← hu]; exact (hJ.keep 21 (by omega) (by omega)).trans rfl
        have e22 : u 22 = .string nm := by rw [← hu]; exact (hJ.keep 22 (by omega) (by omega)).trans rfl
        have e23 : u 23 = .string R := by rw [← hu]; exact (hJ.keep 23 (by omega) (by omega)).trans rfl
        have e24 : u 24 = .bool true := by rw [← hu]; exact (hJ.keep 24 (by omega) (by omega)).trans rfl
        have e25 : u 25 = .bool true := by rw [← hu]; exact (hJ.keep 25 (by omega) (by omega)).trans rfl
        have e26 : u 26 = .bool false := by rw [← hu]; exact (hJ.keep 26 (by omega) (by omega)).trans rfl
        have e27 : u 27 = .bool false := by rw [← hu]; exact (hJ.keep 27 (by omega) (by omega)).trans rfl
        have e28 : u 28 = .string R := by rw [← hu]; exact (hJ.keep 28 (by omega) (by omega)).trans rfl
        have e29 : u 29 = .bool true := by rw [← hu]; exact (hJ.keep 29 (by omega) (by omega)).trans rfl
        have e30 : u 30 = .bool false := by rw [← hu]; exact (hJ.keep 30 (by omega) (by omega)).trans rfl
        have e31 : u 31 = .bool false := by rw [← hu]; exact (hJ.keep 31 (by omega) (by omega)).trans rfl
        have e32 : u 32 = undef := by rw [← hu]; exact (hJ.keep 32 (by omega) (by omega)).trans rfl
        have e33 : u 33 = undef := by rw [← hu]; exact (hJ.keep 33 (by omega) (by omega)).trans rfl
        have e34 : u 34 = undef := by rw [← hu]; exact (hJ.keep 34 (by omega) (by omega)).trans rfl
        have e35 : u 35 = .slice (some ad) n cl := by rw [← hu]; exact (hJ.keep 35 (by omega) (by omega)).trans rfl
        have e36 : u 36 = .pointer (some ad) := by rw [← hu]; exact (hJ.keep 36 (by omega) (by omega)).trans rfl
        have e37 : u 37 = .string L0 := by rw [← hu]; exact (hJ.keep 37 (by omega) (by omega)).trans rfl
        have e38 : u 38 = .slice (some ⟨w2.heap.size, 0, none⟩) (M0 + 1) C0 := by rw [← hu]; exact (hJ.keep 38 (by omega) (by omega)).trans rfl
        have e62 : u 62 = undef := by rw [← hu]; exact (hJ.keep 62 (by omega) (by omega)).trans rfl
        have e63 : u 63 = undef := by rw [← hu]; exact (hJ.keep 63 (by omega) (by omega)).trans rfl
        have e64 : u 64 = undef := by rw [← hu]; exact (hJ.keep 64 (by omega) (by omega)).trans rfl
        have ef2 : a' = { tmps := #[u 0, u 1, u 2, u 3, u 4, u 5, u 6, u 7, u 8, u 9, u 10, u 11, u 12, u 13, u 14, u 15, u 16, u 17, u 18, u 19, u 20, u 21, u 22, u 23, u 24, u 25, u 26, u 27, u 28, u 29, u 30, u 31, u 32, u 33, u 34, u 35, u 36, u 37, u 38, u 39, u 40, u 41, u 42, u 43, u 44, u 45, u 46, u 47, u 48, u 49, u 50, u 51, u 52, u 53, u 54, u 55, u 56, u 57, u 58, u 59, u 60, u 61, u 62, u 63, u 64], defers := [] } := ef
        rw [e0, e1, e2, e3, e4, e5, e6, e7, e8, e9, e10, e11, e12, e13, e14, e15, e16, e17, e18, e19, e20, e21, e22, e23, e24, e25, e26, e27, e28, e29, e30, e31, e32, e33, e34, e35, e36, e37, e38, e62, e63, e64] at ef2
        rw [ef2]
        clear hJ hN hdf ef ef2 hu s0 s7 s8 h7 hbuf e0 e1 e2 e3 e4 e5 e6 e7 e8 e9 e10 e11 e12 e13 e14 e15 e16 e17 e18 e19 e20 e21 e22 e23 e24 e25 e26 e27 e28 e29 e30 e31 e32 e33 e34 e35 e36 e37 e38 e62 e63 e64
        go_wp2
        go_roundw
        case rel => exact ⟨k + 1, g', c', M2, by omega, rfl, by go_num, by show 1 ≤ k + 1; omega, HNl2.out, HBf.out, HBv.out⟩
        case measure => simp [intOf]; omega
    · obtain rfl : p = k := by omega
      have hend : Ink.bsum ps p = Em.hexs ps.flatten := by rw [← HPs.out]; exact Ink.bsum_all
      have HBufE : Hid (Ink.Buf w.heap.size wr g c (Ink.bpre v ++ Em.hexs ps.flatten)) := by show Ink.Buf _ _ _ _ _; rw [← hend]; exact HBuf.out
      have HME : Hid ((Ink.bpre v ++ Em.hexs ps.flatten).length = M + 1) := by show _ = _; rw [← hend]; exact HM.out
      have HSf : Hid (Calls Tryz.prog 42 #[.slice (some ⟨g, 0, none⟩) (M + 1) c, .slice (some ⟨wr.heap.size, 0, none⟩) 2 2] (wr.alloc (.cells #[.int .u8 44, .int .u8 92] 5 (2, 3))) fun e w' => e = .returned (.bool false) ∧ w' = wr.alloc (.cells #[.int .u8 44, .int .u8 92] 5 (2, 3))) := by
        have h := Ink.bsuf_any HBufE.out HME.out
        rw [Ink.suf_no (Ink.last_hexs (Ink.bpre_last v)).1] at h
        exact h
      clear hend HBuf HM
      by_cases hpn2 : p < n
      · have t1 : (p : Int) < (n : Int) := by omega
        have hcc := Lib.run_convert_bytes_const (P := Tryz.prog) wr 31 5 #[.int .u8 44, .int .u8 92] 2 2 Tryz.underlying31 Tryz.underlying5
        change _ = Result.ok _ (wr.alloc (.cells #[.int .u8 44, .int .u8 92] 5 (2, 3))) at hcc
        go_wp2_with fail
        refine HSf.out.mono ?_
        rintro e w5 ⟨rfl, rfl⟩
        have HBe := Lib.hid (HBr.out.alloc HBr.out.size (.cells #[.int .u8 44, .int .u8 92] 5 (2, 3)))
        have hct := (HBufE.out.call (Hv.bl1 wr (.cells #[.int .u8 44, .int .u8 92] 5 (2, 3)))).text HME.out
        clear hcc
        go_wp2
        go_ret2
        exact ⟨rfl, HBe.out⟩
      · have t1 : ¬ (p : Int) < (n : Int) := by omega
        have hct := HBufE.out.text HME.out
        go_wp2
        go_ret2
        exact ⟨rfl, HBr.out⟩
end Go.Proofs.YtmnolcjmnddbnaaGreatDoor

/- intake: (*reader).take of each part's line; whole of each part's lines. -/
namespace Go.Proofs.YtmnolcjmnddbnaaGreatDoor
open Go.RowKit

namespace Ink
open Em
theorem mem_drop {p : UInt8 → Bool} : ∀ (l : Txt) {c : UInt8}, c ∈ l → p c = false → c ∈ l.dropWhile p
  | a :: l, c, h, hc => by
    rw [List.dropWhile_cons]
    split
    · rename_i ha
      rcases List.mem_cons.1 h with rfl | h
      · rw [hc] at ha; cases ha
      · exact mem_drop l h hc
    · exact h
theorem trim_some {l cs : Txt} {c : UInt8} (h : c ∈ l) (hc : cs.contains c = false) : Lib.trimS l cs ≠ [] := by
  have h1 : c ∈ Lib.trimRightS l cs := by
    unfold Lib.trimRightS
    exact List.mem_reverse.2 (mem_drop _ (List.mem_reverse.2 h) hc)
  have h2 : c ∈ Lib.trimS l cs := mem_drop _ h1 hc
  intro e
  rw [e] at h2
  cases h2
/-- The line of a part, put together to one. -/
def wl : It → ByteArray
  | .blank => ⟨#[]⟩
  | .path p => pline p
  | .val v => bts (vlineM false v)
/-- What a reader holds behind some parts. -/
def St (w : World) (b pm : Nat) (st : List Hv.K) : Prop :=
  ∃ np nmv kv evs, Rd w b pm np (Hv.paths st) nmv st kv evs ∧ np ≤ st.length ∧
    ∀ st0 k, st = st0 ++ [k] → ∃ nm nn, nmv = .map (some nm) ∧ nm ≠ pm ∧ b < nm ∧ nn ≤ k.vals.length ∧ MapF Tryz.prog 9 w nm nn (Hv.sf (Hv.names k.vals))
theorem St.call {w w' : World} {b pm : Nat} {st : List Hv.K} (h : St w b pm st) (hb : Below w.heap.size w w') : St w' b pm st := by
  obtain ⟨np, nmv, kv, evs, h1, h2, h3⟩ := h
  refine ⟨np, nmv, kv, evs, h1.call hb, h2, fun st0 k e => ?_⟩
  obtain ⟨nm, nn, e1, e2, e3, e4, e5⟩ := h3 st0 k e
  exact ⟨nm, nn, e1, e2, e3, e4, e5.below hb⟩
def TRet (b pm : Nat) (st : List Hv.K) (it : It) (w : World) (e : Ending) (w' : World) : Prop :=
  match step st it with
  | .inl c => e = .returned (.tuple #[.int .i64 0, .int .i64 c]) ∧ Below (b - 1) w w'
  | .inr st' => e = .returned (.tuple #[.int .i64 0, .int .i64 0]) ∧ St w' b pm st' ∧ Below (b - 1) w w'
def Gd1 (st : List Hv.K) : It → Prop
  | .blank => True
  | .path p => p.size ≤ 100000 ∧ st.length < 4096
  | .val v => Hv.valB v = true ∧ v.Ok ∧ ∃ st', step st (.val v) = .inr st'
theorem snoc_of {α : Type} {l : List α} {n : Nat} (h : l.length = n + 1) : ∃ l0 x, l = l0 ++ [x] ∧ l0.length = n := by
  have hne : l ≠ [] := by intro e; rw [e] at h; simp at h
  refine ⟨l.dropLast, l.getLast hne, (List.dropLast_concat_getLast hne).symm, ?_⟩
  rw [List.length_dropLast, h]
  rfl
theorem step_val {st st' : List Hv.K} {v : Hv.V} (h : step st (.val v) = .inr st') : ∃ st0 k, st = st0 ++ [k] ∧ Hv.has (Hv.names k.vals) v.name = false ∧ k.vals.length < 512 ∧ st' = st0 ++ [⟨k.path, k.vals ++ [v]⟩] := by
  unfold step at h
  cases hl : st.getLast? with
  | none => rw [hl] at h; cases h
  | some k =>
    rw [hl] at h
    simp only at h
    split at h
    · cases h
    · rename_i h1
      split at h
      · cases h
      · rename_i h2
        have hst : st = st.dropLast ++ [k] := by
          have hne : st ≠ [] := by intro e; rw [e] at hl; cases hl
          have : st.getLast hne = k := by rw [List.getLast?_eq_some_getLast hne] at hl; exact Option.some.inj hl
          rw [← this, List.dropLast_concat_getLast]
        exact ⟨st.dropLast, k, hst, by simpa using h1, by omega, (Sum.inr.inj h).symm⟩
end Ink
theorem trim_any (s : ByteArray) (hs : s.size ≤ 1000000000) (w : World) :
    Calls Tryz.prog 44 #[.string s, .string ⟨#[32, 9]⟩] w fun e w' => e = .returned (.string (Em.bts (Lib.trimS (tl s) [32, 9]))) ∧ Below w.heap.size w w' :=
  Any.strings_Trim_laid Tryz.lays160 (by kernel_rfl) s ⟨#[32, 9]⟩ w (by omega) (by decide) (fun j b hb => by
    have : b = 32 ∨ b = 9 := by
      have := List.mem_of_getElem? hb
      simpa using this
    rcases this with rfl | rfl <;> decide)
set_option maxHeartbeats 4000000 in
set_option maxRecDepth 100000 in
theorem take_blank (b : Nat) (w : World) : Calls Tryz.prog 24 #[.pointer (some ⟨b, 0, none⟩), .string ⟨#[]⟩] w fun e w' => e = .returned (.tuple #[.int .i64 0, .int .i64 0]) ∧ Below w.heap.size w w' := by
  have HT : Hid (Calls Tryz.prog 44 #[.string ⟨#[]⟩, .string ⟨#[32, 9]⟩] w fun e w' => e = .returned (.string ⟨#[]⟩) ∧ Below w.heap.size w w') := trim_any ⟨#[]⟩ (by decide) w
  go_enter Tryz.func24, Tryz.ntmps24
  go_wp2_with fail
  refine HT.out.mono ?_
  rintro e w1 ⟨rfl, hb⟩
  have HB := Lib.hid hb
  clear hb
  go_wp2
  go_ret2
  exact ⟨rfl, HB.out⟩
set_option maxHeartbeats 4000000 in
set_option maxRecDepth 100000 in
theorem take_path (b : Nat) (p : ByteArray) (hp : p.size ≤ 100000) (w : World) (Q : Int → World → World → Prop) (hQ : ∀ W, Below w.heap.size w W → Calls Tryz.prog 45 #[.pointer (some ⟨b, 0, none⟩), .string (Ink.pline p)] W fun e w' => ∃ c : Int, e = .returned (.int .i64 c) ∧ Q c W w') :
    Calls Tryz.prog 24 #[.pointer (some ⟨b, 0, none⟩), .string (Ink.pline p)] w fun e w' => ∃ (c : Int) (W : World), e = .returned (.tuple #[.int .i64 0, .int .i64 c]) ∧ Below w.heap.size w W ∧ Q c W w' := by
  obtain ⟨S, hS⟩ : ∃ S, Ink.pline p = S := ⟨_, rfl⟩
  have hsz : S.size = p.size + 2 := by rw [← hS]; exact Ink.pline_size p
  have h0 : 0 < S.size := by omega
  have hts : tl S = 91 :: (tl p ++ [93]) := by
    rw [← hS]
    unfold Ink.pline
    rw [Em.tl_bts]
  have hfst : S[0] = 91 := by
    have h1 := Em.byte_at S 0 h0 _ rfl
    rw [hts] at h1
    exact (Option.some.inj h1).symm
  have hne : Lib.trimS (tl S) [32, 9] ≠ [] := by
    refine Ink.trim_some (c := 91) ?_ (by decide)
    rw [← hS]
    unfold Ink.pline
    rw [Em.tl_bts]
    exact List.mem_cons_self
  obtain ⟨T, hT⟩ : ∃ T, Em.bts (Lib.trimS (tl S) [32, 9]) = T := ⟨_, rfl⟩
  have hemp : T.toList.isEmpty = false := Hv.emp_no (by rw [← hT, Em.bts_size]; intro e; exact hne (List.eq_nil_of_length_eq_zero e))
  have HT := Lib.hid (trim_any S (by omega) w)
  rw [hT] at HT
  rw [hS] at hQ ⊢
  have HQ := Lib.hid hQ
  have q1 : (0 : Int) < (S.size : Int) := by omega
  clear hS hsz hne hT hQ hts
  go_enter Tryz.func24, Tryz.ntmps24
  go_wp2_with fail
  refine HT.out.mono ?_
  rintro e w1 ⟨rfl, hb⟩
  have HB := Lib.hid hb
  clear hb
  go_wp2_with fail
  refine (HQ.out _ HB.out).mono ?_
  rintro e w2 ⟨c, rfl, hq⟩
  have HX := Lib.hid hq
  clear hq
  go_wp2
  go_ret2
  exact ⟨c, w1, rfl, HB.out, HX.out⟩
set_option maxHeartbeats 4000000 in
set_option maxRecDepth 100000 in
theorem take_val (b : Nat) (v : Hv.V) (hv : Hv.valB v = true) (w : World) (Q : World → World → Prop) (hQ : ∀ W, Below w.heap.size w W → Calls Tryz.prog 46 #[.pointer (some ⟨b, 0, none⟩), .string (Em.bts (Ink.vlineM false v))] W fun e w' => e = .returned (.tuple #[.int .i64 0, .int .i64 0]) ∧ Q W w') :
    Calls Tryz.prog 24 #[.pointer (some ⟨b, 0, none⟩), .string (Em.bts (Ink.vlineM false v))] w fun e w' => ∃ W : World, e = .returned (.tuple #[.int .i64 0, .int .i64 0]) ∧ Below w.heap.size w W ∧ Q W w' := by
  have hrest := Ink.restM_len false hv
  have hnl := (Em.val_small hv).1
  have hql := Em.quote_len (tl v.name)
  rw [tl_length] at hql
  have hcons : ∃ r, Ink.vlineM false v = 34 :: r := ⟨_, by rw [Ink.vlineM_rest]; rfl⟩
  have hlen : (Ink.vlineM false v).length ≤ 200000 := by
    rw [Ink.vlineM_rest, List.length_append, List.length_cons]
    omega
  obtain ⟨r, hr⟩ := hcons
  obtain ⟨S, hS⟩ : ∃ S, Em.bts (Ink.vlineM false v) = S := ⟨_, rfl⟩
  have hts : tl S = 34 :: r := by rw [← hS, Em.tl_bts, hr]
  have hsz : S.size ≤ 200000 := by rw [← hS, Em.bts_size]; exact hlen
  have h0 : 0 < S.size := by rw [← tl_length, hts]; exact Nat.succ_pos _
  have hfst : S[0] = 34 := by
    have h1 := Em.byte_at S 0 h0 _ rfl
    rw [hts] at h1
    exact (Option.some.inj h1).symm
  have hne : Lib.trimS (tl S) [32, 9] ≠ [] := by
    refine Ink.trim_some (c := 34) ?_ (by decide)
    rw [hts]
    exact List.mem_cons_self
  obtain ⟨T, hT⟩ : ∃ T, Em.bts (Lib.trimS (tl S) [32, 9]) = T := ⟨_, rfl⟩
  have hemp : T.toList.isEmpty = false := Hv.emp_no (by rw [← hT, Em.bts_size]; intro e; exact hne (List.eq_nil_of_length_eq_zero e))
  have HT := Lib.hid (trim_any S (by omega) w)
  rw [hT] at HT
  rw [hS] at hQ ⊢
  have HQ := Lib.hid hQ
  have q1 : (0 : Int) < (S.size : Int) := by omega
  clear hS hsz hne hT hQ hts hr hlen hql hnl hrest
  go_enter Tryz.func24, Tryz.ntmps24
  go_wp2_with fail
  refine HT.out.mono ?_
  rintro e w1 ⟨rfl, hb⟩
  have HB := Lib.hid hb
  clear hb
  go_wp2_with fail
  refine (HQ.out _ HB.out).mono ?_
  rintro e w2 ⟨rfl, hq⟩
  have HX := Lib.hid hq
  clear hq
  go_wp2
  go_ret2
  exact ⟨w1, rfl, HB.out, HX.out⟩
end Go.Proofs.YtmnolcjmnddbnaaGreatDoor
