/- abbr.Offset: an offset as text. -/
import Derived.Test.YtjobhjemnmleaaaGreatDoorQ10
set_option maxRecDepth 100000
set_option maxHeartbeats 8000000
namespace Go.Proofs.YtjobhjemnmleaaaGreatDoor
open Go.RowKit Go.Shelf
namespace Ab
def pair (n : Int) : List UInt8 := [UInt8.ofNat (48 + n.toNat / 10), UInt8.ofNat (48 + n.toNat % 10)]
def nums (a : Int) : List Int := if a % 60 ≠ 0 then [a / 3600, a / 60 % 60, a % 60] else if a % 3600 ≠ 0 then [a / 3600, a / 60 % 60] else [a / 3600]
def abs_ (off : Int) : Int := if off < 0 then -off else off
def offL (off : Int) : List UInt8 := (if off < 0 then 45 else 43) :: (nums (abs_ off)).flatMap pair
def offT (off : Int) : ByteArray × Int := if -360000 < off ∧ off < 360000 then (⟨(offL off).toArray⟩, 0) else (⟨#[]⟩, 1)
theorem pair_cells (m : Int) (h0 : 0 ≤ m) (h1 : m < 100) : Lib.byteCells (pair m) = [.int .u8 (48 + m / 10), .int .u8 (48 + m % 10)] := by
 have h := two_cells m h0 h1;have e : Lib.byteCells (Ck.two m) = .int .u8 58 :: Lib.byteCells (pair m) := rfl;rw [e] at h;exact (List.cons.inj h).2
theorem pair_len (m : Int) : (pair m).length = 2 := rfl
theorem pairs_len (l : List Int) : (l.flatMap pair).length = l.length * 2 := by
 induction l with
 | nil => rfl
 | cons x l ih => rw [List.flatMap_cons, List.length_append, ih, pair_len, List.length_cons]; omega
theorem nums_bd {a : Int} (h0 : 0 ≤ a) (h1 : a < 360000) : ∀ x ∈ nums a, 0 ≤ x ∧ x < 100 := by
 intro x hx;unfold nums at hx;split at hx
 ·simp only [List.mem_cons, List.not_mem_nil, or_false] at hx;omega
 ·split at hx
  ·simp only [List.mem_cons, List.not_mem_nil, or_false] at hx;omega
  ·simp only [List.mem_cons, List.not_mem_nil, or_false] at hx;omega
theorem pairs_next {L : List Int} {k : Nat} {d : Int} (h : L[k]? = some d) (sg : UInt8) : sg :: (L.take (k + 1)).flatMap pair = (sg :: (L.take k).flatMap pair) ++ pair d := by
 rw [List.take_add_one, h, List.flatMap_append];simp
end Ab
theorem abOff_any (off : Int) (w : World) (hb0 : -9223372036854775808 ≤ off ∧ off < 9223372036854775808) :
  Calls Tryz.prog 171 #[.int .i64 off] w fun e w' => e = .returned (.tuple #[.string (Ab.offT off).1, .int .i64 (Ab.offT off).2]) ∧ Below w.heap.size w w' := by
 by_cases hin : -360000 < off ∧ off < 360000
 ·have hZ : Ab.offT off = (⟨(Ab.offL off).toArray⟩, 0) := by unfold Ab.offT; rw [if_pos hin]
  rw [hZ];obtain ⟨a, ha⟩ : ∃ a, Ab.abs_ off = a := ⟨_, rfl⟩
  have ha0 : 0 ≤ a ∧ a < 360000 := by rw [← ha]; unfold Ab.abs_; split <;> omega
  obtain ⟨L, hL⟩ : ∃ L, Ab.nums a = L := ⟨_, rfl⟩
  have hLb := Ab.nums_bd ha0.1 ha0.2;rw [hL] at hLb;obtain ⟨sg, hsg⟩ : ∃ s : UInt8, (if off < 0 then 45 else 43 : UInt8) = s := ⟨_, rfl⟩
  have hOL : Ab.offL off = sg :: L.flatMap Ab.pair := by unfold Ab.offL; rw [hsg, ha, hL]
  rw [hOL];obtain ⟨hin1, hin2⟩ := hin;have p1 : ¬ off ≤ -360000 := by omega
  have p2 : ¬ 360000 ≤ off := by omega
  have HLb := Lib.hid hLb;obtain ⟨i0, hi0, hz0, hz1, hz2⟩ := info_parts u8_info;unfold Ab.nums at hL;clear hZ hOL hLb;obtain ⟨cnt, hcnt⟩ : ∃ n, L.length = n := ⟨_, rfl⟩
  have hcases : (off < 0 ∨ ¬ off < 0) ∧ ((a % 60 ≠ 0 ∧ cnt = 3) ∨ (a % 60 = 0 ∧ a % 3600 ≠ 0 ∧ cnt = 2) ∨ (a % 60 = 0 ∧ a % 3600 = 0 ∧ cnt = 1)) ∧ (∀ (k : Nat) (d : Int), L[k]? = some d → [a / 3600, a / 60 % 60, a % 60][k]? = some d) := by
   refine ⟨Classical.em _, ?_, ?_⟩
   ·rw [← hcnt, ← hL];split
    ·exact .inl ⟨by assumption, rfl⟩
    ·split
     ·exact .inr (.inl ⟨by omega, by assumption, rfl⟩)
     ·exact .inr (.inr ⟨by omega, by omega, rfl⟩)
   ·intro k d hd;rw [← hL] at hd;split at hd
    ·exact hd
    ·split at hd
     ·match k, hd with
      | 0, hd => exact hd
      | 1, hd => exact hd
     ·match k, hd with
      | 0, hd => exact hd
  obtain ⟨hneg, hcn, hLk⟩ := hcases;have HLk := Lib.hid hLk;have HCn := Lib.hid hcnt;have a1 := ha0.1;have a2 := ha0.2;clear hLk hcnt hL ha0;rcases hneg with hneg | hneg
  ·have hs : sg = 45 := by rw [← hsg]; rw [if_pos hneg]
   have hav : off = -a := by
    have h := ha;unfold Ab.abs_ at h;rw [if_pos hneg] at h;omega
   subst hs;clear hsg ha;subst hav;have ng : IntKind.i64.wrap (- -a) = a := by rw [IntKind.wrap_i64]; omega
   rcases hcn with ⟨m1, rfl⟩ | ⟨m1, m2, rfl⟩ | ⟨m1, m2, rfl⟩
   ·have n1 : (a % 60 != 0) = true := by simpa using m1
    clear m1;go_enter Tryz.func171, Tryz.ntmps171
    go_wp2_with fail
    obtain ⟨W1, hW1⟩ : ∃ W, (w.alloc (.cells #[.int .u8 45] 5)).alloc (.cells #[.int .i64 (a / 3600), .int .i64 (a / 60 % 60), .int .i64 (a % 60)] 270) = W := ⟨_, rfl⟩
    have hb1 : Below w.heap.size w W1 := by rw [← hW1]; exact ((Below.refl w.heap.size w).alloc (Nat.le_refl _) _).alloc (by simp) _
    have hO1 : W1.ownsRow w.heap.size 5 1 (.slice (some ⟨w.heap.size, 0, none⟩) 1 1) 1 (Lib.byteCells [45]) := by
     rw [← hW1];exact (World.ownsRow_lit (base := w.heap.size) (e := 5) (size := 1) w #[.int .u8 45] 1 (Nat.le_refl _) (by decide) (by simp)).alloc _
    have hA1 : At W1 (w.heap.size + 1) [.int .i64 (a / 3600), .int .i64 (a / 60 % 60), .int .i64 (a % 60)] := by
     rw [← hW1];have h := At.new (w.alloc (.cells #[.int .u8 45] 5)) #[.int .i64 (a / 3600), .int .i64 (a / 60 % 60), .int .i64 (a % 60)] 270;rw [World.size_alloc] at h;exact h
    have HB1 := Lib.hid hb1;have HO1 := Lib.hid hO1;have HA1 := Lib.hid hA1;rw [hW1];clear hW1 hb1 hO1 hA1;go_loopw [4, 39] (fun v i wr => ∃ k : Nat, k ≤ 3 ∧ i = .int .i64 (k : Int) ∧ Hid (wr.ownsRow w.heap.size 5 1 v (1 + k * 2) (Lib.byteCells (45 :: (L.take k).flatMap Ab.pair))) ∧ Hid (Below w.heap.size w wr) ∧ Hid (At wr (w.heap.size + 1) [.int .i64 (a / 3600), .int .i64 (a / 60 % 60), .int .i64 (a % 60)]) ∧ v.ownBlock ≠ some (w.heap.size + 1)) (fun _ i _ => 3 - (intOf i).toNat)
    case atStart => exact ⟨0, by omega, rfl, HO1.out, HB1.out, HA1.out, by simp [Value.ownBlock]⟩
    case round =>
     obtain ⟨k, hk, rfl, HO, HB, HA, hne⟩ := hrel;obtain ⟨vA, vc, rfl, hv1, hv2⟩ := own_slice_cap HO.out;have hwr := HB.out.size;have hal := HA.out.lt
     by_cases hlt : k < 3
     ·obtain ⟨d, hd⟩ : ∃ d, L[k]? = some d := ⟨_, List.getElem?_eq_getElem (by rw [HCn.out]; exact hlt)⟩
      have hdb := HLb.out d (List.mem_of_getElem? hd);have c0 : wr.cell? ⟨w.heap.size + 1, k, none⟩ = some (.int .i64 d) := by
       have h := HA.out.cell k (.int .i64 d) (by
        have h2 := HLk.out k d hd;have e : ([.int .i64 (a / 3600), .int .i64 (a / 60 % 60), .int .i64 (a % 60)] : List Value) = [a / 3600, a / 60 % 60, a % 60].map (Value.int .i64) := rfl;rw [e, List.getElem?_map, h2];rfl)
       exact h
      have d0 := hdb.1;have d1 := hdb.2;have q1 : (0 : Int) ≤ (k : Int) := by omega
      have q2 : (k : Int) < 3 := by omega
      have HRd := Lib.hid (reads_cells wr #[.int .u8 (48 + d / 10), .int .u8 (48 + d % 10)] 5);have HD := Lib.hid hd;clear hdb hd;go_wp2_with (at_builtin; refine wpList_append_any _ rfl (.tmp 43) (.tmp 52) _ rfl w.heap.size 5 i0 _ 1 1 Tryz.underlying94 hi0 hz0 hz1 hz2 rfl (by omega) _ _ _ rfl (HO.out.alloc _) _ _ 2 2 _ rfl HRd.out (by simp [Value.oneCell']) (by simp only [maxLen]; omega) (by omega) (by simp; omega) ?_; intro v4 w4 hown4 hg4 hat4)
      have HO4 : Hid (w4.ownsRow w.heap.size 5 1 v4 (1 + (k + 1) * 2) (Lib.byteCells (45 :: (L.take (k + 1)).flatMap Ab.pair))) := by
       show w4.ownsRow w.heap.size 5 1 v4 (1 + (k + 1) * 2) (Lib.byteCells (45 :: (L.take (k + 1)).flatMap Ab.pair))
       rw [Ab.pairs_next HD.out, byteCells_append, Ab.pair_cells d d0 (by omega), show 1 + (k + 1) * 2 = 1 + k * 2 + 2 by omega];exact hown4
      have HB4 := Lib.hid (grown_below HB.out HO.out hg4);have hne4 : v4.ownBlock ≠ some (w.heap.size + 1) := by
       rcases hat4 with e4 | e4
       ·rw [e4]; exact hne
       ·rw [e4, World.size_alloc];intro e
        injection e with e
        omega
      have HA4 := Lib.hid (Sc.At.grownO (HA.out.allocO _) hg4 (fun j e e2 => hne (by subst e2; exact e)));clear hown4 hg4 hat4;go_roundw
      case rel => exact ⟨k + 1, by omega, by go_num, HO4.out, HB4.out, HA4.out, hne4⟩
      case measure => simp [intOf] <;> omega
     ·have hke : k = 3 := by omega
      subst hke;have hlen : (45 :: L.flatMap Ab.pair : List UInt8).length = 1 + 3 * 2 := by rw [List.length_cons, Ab.pairs_len, HCn.out]
      have ht : L.take 3 = L := List.take_of_length_le (by rw [HCn.out]; exact Nat.le_refl _);have hO := HO.out;rw [ht, ← hlen] at hO;obtain ⟨g, cap, hg, hcells⟩ := owned_bytes hO (by rw [hlen]; omega);have hcv := run_convert_bytes_back (P := Tryz.prog) wr 94 9 5 ⟨g, 0, none⟩ cap (45 :: L.flatMap Ab.pair) Tryz.underlying94 Tryz.underlying5 Tryz.underlying9 hcells;rw [← hg] at hcv;rw [hlen] at hcv;have HB9 := Lib.hid HB.out;clear hO hcells hlen ht hg HO HA;go_wp2;go_ret2
      exact ⟨rfl, HB9.out⟩
   ·have n1 : (a % 60 != 0) = false := by simpa using m1
    have n2 : (a % 3600 != 0) = true := by simpa using m2
    clear m1 m2;go_enter Tryz.func171, Tryz.ntmps171
    go_wp2_with fail
    obtain ⟨W1, hW1⟩ : ∃ W, (w.alloc (.cells #[.int .u8 45] 5)).alloc (.cells #[.int .i64 (a / 3600), .int .i64 (a / 60 % 60), .int .i64 (a % 60)] 270) = W := ⟨_, rfl⟩
    have hb1 : Below w.heap.size w W1 := by rw [← hW1]; exact ((Below.refl w.heap.size w).alloc (Nat.le_refl _) _).alloc (by simp) _
    have hO1 : W1.ownsRow w.heap.size 5 1 (.slice (some ⟨w.heap.size, 0, none⟩) 1 1) 1 (Lib.byteCells [45]) := by
     rw [← hW1];exact (World.ownsRow_lit (base := w.heap.size) (e := 5) (size := 1) w #[.int .u8 45] 1 (Nat.le_refl _) (by decide) (by simp)).alloc _
    have hA1 : At W1 (w.heap.size + 1) [.int .i64 (a / 3600), .int .i64 (a / 60 % 60), .int .i64 (a % 60)] := by
     rw [← hW1];have h := At.new (w.alloc (.cells #[.int .u8 45] 5)) #[.int .i64 (a / 3600), .int .i64 (a / 60 % 60), .int .i64 (a % 60)] 270;rw [World.size_alloc] at h;exact h
    have HB1 := Lib.hid hb1;have HO1 := Lib.hid hO1;have HA1 := Lib.hid hA1;rw [hW1];clear hW1 hb1 hO1 hA1;go_loopw [4, 39] (fun v i wr => ∃ k : Nat, k ≤ 2 ∧ i = .int .i64 (k : Int) ∧ Hid (wr.ownsRow w.heap.size 5 1 v (1 + k * 2) (Lib.byteCells (45 :: (L.take k).flatMap Ab.pair))) ∧ Hid (Below w.heap.size w wr) ∧ Hid (At wr (w.heap.size + 1) [.int .i64 (a / 3600), .int .i64 (a / 60 % 60), .int .i64 (a % 60)]) ∧ v.ownBlock ≠ some (w.heap.size + 1)) (fun _ i _ => 2 - (intOf i).toNat)
    case atStart => exact ⟨0, by omega, rfl, HO1.out, HB1.out, HA1.out, by simp [Value.ownBlock]⟩
    case round =>
     obtain ⟨k, hk, rfl, HO, HB, HA, hne⟩ := hrel;obtain ⟨vA, vc, rfl, hv1, hv2⟩ := own_slice_cap HO.out;have hwr := HB.out.size;have hal := HA.out.lt
     by_cases hlt : k < 2
     ·obtain ⟨d, hd⟩ : ∃ d, L[k]? = some d := ⟨_, List.getElem?_eq_getElem (by rw [HCn.out]; exact hlt)⟩
      have hdb := HLb.out d (List.mem_of_getElem? hd);have c0 : wr.cell? ⟨w.heap.size + 1, k, none⟩ = some (.int .i64 d) := by
       have h := HA.out.cell k (.int .i64 d) (by
        have h2 := HLk.out k d hd;have e : ([.int .i64 (a / 3600), .int .i64 (a / 60 % 60), .int .i64 (a % 60)] : List Value) = [a / 3600, a / 60 % 60, a % 60].map (Value.int .i64) := rfl;rw [e, List.getElem?_map, h2];rfl)
       exact h
      have d0 := hdb.1;have d1 := hdb.2;have q1 : (0 : Int) ≤ (k : Int) := by omega
      have q2 : (k : Int) < 2 := by omega
      have HRd := Lib.hid (reads_cells wr #[.int .u8 (48 + d / 10), .int .u8 (48 + d % 10)] 5);have HD := Lib.hid hd;clear hdb hd;go_wp2_with (at_builtin; refine wpList_append_any _ rfl (.tmp 43) (.tmp 52) _ rfl w.heap.size 5 i0 _ 1 1 Tryz.underlying94 hi0 hz0 hz1 hz2 rfl (by omega) _ _ _ rfl (HO.out.alloc _) _ _ 2 2 _ rfl HRd.out (by simp [Value.oneCell']) (by simp only [maxLen]; omega) (by omega) (by simp; omega) ?_; intro v4 w4 hown4 hg4 hat4)
      have HO4 : Hid (w4.ownsRow w.heap.size 5 1 v4 (1 + (k + 1) * 2) (Lib.byteCells (45 :: (L.take (k + 1)).flatMap Ab.pair))) := by
       show w4.ownsRow w.heap.size 5 1 v4 (1 + (k + 1) * 2) (Lib.byteCells (45 :: (L.take (k + 1)).flatMap Ab.pair))
       rw [Ab.pairs_next HD.out, byteCells_append, Ab.pair_cells d d0 (by omega), show 1 + (k + 1) * 2 = 1 + k * 2 + 2 by omega];exact hown4
      have HB4 := Lib.hid (grown_below HB.out HO.out hg4);have hne4 : v4.ownBlock ≠ some (w.heap.size + 1) := by
       rcases hat4 with e4 | e4
       ·rw [e4]; exact hne
       ·rw [e4, World.size_alloc];intro e
        injection e with e
        omega
      have HA4 := Lib.hid (Sc.At.grownO (HA.out.allocO _) hg4 (fun j e e2 => hne (by subst e2; exact e)));clear hown4 hg4 hat4;go_roundw
      case rel => exact ⟨k + 1, by omega, by go_num, HO4.out, HB4.out, HA4.out, hne4⟩
      case measure => simp [intOf] <;> omega
     ·have hke : k = 2 := by omega
      subst hke;have hlen : (45 :: L.flatMap Ab.pair : List UInt8).length = 1 + 2 * 2 := by rw [List.length_cons, Ab.pairs_len, HCn.out]
      have ht : L.take 2 = L := List.take_of_length_le (by rw [HCn.out]; exact Nat.le_refl _);have hO := HO.out;rw [ht, ← hlen] at hO;obtain ⟨g, cap, hg, hcells⟩ := owned_bytes hO (by rw [hlen]; omega);have hcv := run_convert_bytes_back (P := Tryz.prog) wr 94 9 5 ⟨g, 0, none⟩ cap (45 :: L.flatMap Ab.pair) Tryz.underlying94 Tryz.underlying5 Tryz.underlying9 hcells;rw [← hg] at hcv;rw [hlen] at hcv;have HB9 := Lib.hid HB.out;clear hO hcells hlen ht hg HO HA;go_wp2;go_ret2
      exact ⟨rfl, HB9.out⟩
   ·have n1 : (a % 60 != 0) = false := by simpa using m1
    have n2 : (a % 3600 != 0) = false := by simpa using m2
    clear m1 m2;go_enter Tryz.func171, Tryz.ntmps171
    go_wp2_with fail
    obtain ⟨W1, hW1⟩ : ∃ W, (w.alloc (.cells #[.int .u8 45] 5)).alloc (.cells #[.int .i64 (a / 3600), .int .i64 (a / 60 % 60), .int .i64 (a % 60)] 270) = W := ⟨_, rfl⟩
    have hb1 : Below w.heap.size w W1 := by rw [← hW1]; exact ((Below.refl w.heap.size w).alloc (Nat.le_refl _) _).alloc (by simp) _
    have hO1 : W1.ownsRow w.heap.size 5 1 (.slice (some ⟨w.heap.size, 0, none⟩) 1 1) 1 (Lib.byteCells [45]) := by
     rw [← hW1];exact (World.ownsRow_lit (base := w.heap.size) (e := 5) (size := 1) w #[.int .u8 45] 1 (Nat.le_refl _) (by decide) (by simp)).alloc _
    have hA1 : At W1 (w.heap.size + 1) [.int .i64 (a / 3600), .int .i64 (a / 60 % 60), .int .i64 (a % 60)] := by
     rw [← hW1];have h := At.new (w.alloc (.cells #[.int .u8 45] 5)) #[.int .i64 (a / 3600), .int .i64 (a / 60 % 60), .int .i64 (a % 60)] 270;rw [World.size_alloc] at h;exact h
    have HB1 := Lib.hid hb1;have HO1 := Lib.hid hO1;have HA1 := Lib.hid hA1;rw [hW1];clear hW1 hb1 hO1 hA1;go_loopw [4, 39] (fun v i wr => ∃ k : Nat, k ≤ 1 ∧ i = .int .i64 (k : Int) ∧ Hid (wr.ownsRow w.heap.size 5 1 v (1 + k * 2) (Lib.byteCells (45 :: (L.take k).flatMap Ab.pair))) ∧ Hid (Below w.heap.size w wr) ∧ Hid (At wr (w.heap.size + 1) [.int .i64 (a / 3600), .int .i64 (a / 60 % 60), .int .i64 (a % 60)]) ∧ v.ownBlock ≠ some (w.heap.size + 1)) (fun _ i _ => 1 - (intOf i).toNat)
    case atStart => exact ⟨0, by omega, rfl, HO1.out, HB1.out, HA1.out, by simp [Value.ownBlock]⟩
    case round =>
     obtain ⟨k, hk, rfl, HO, HB, HA, hne⟩ := hrel;obtain ⟨vA, vc, rfl, hv1, hv2⟩ := own_slice_cap HO.out;have hwr := HB.out.size;have hal := HA.out.lt
     by_cases hlt : k < 1
     ·obtain ⟨d, hd⟩ : ∃ d, L[k]? = some d := ⟨_, List.getElem?_eq_getElem (by rw [HCn.out]; exact hlt)⟩
      have hdb := HLb.out d (List.mem_of_getElem? hd);have c0 : wr.cell? ⟨w.heap.size + 1, k, none⟩ = some (.int .i64 d) := by
       have h := HA.out.cell k (.int .i64 d) (by
        have h2 := HLk.out k d hd;have e : ([.int .i64 (a / 3600), .int .i64 (a / 60 % 60), .int .i64 (a % 60)] : List Value) = [a / 3600, a / 60 % 60, a % 60].map (Value.int .i64) := rfl;rw [e, List.getElem?_map, h2];rfl)
       exact h
      have d0 := hdb.1;have d1 := hdb.2;have q1 : (0 : Int) ≤ (k : Int) := by omega
      have q2 : (k : Int) < 1 := by omega
      have HRd := Lib.hid (reads_cells wr #[.int .u8 (48 + d / 10), .int .u8 (48 + d % 10)] 5);have HD := Lib.hid hd;clear hdb hd;go_wp2_with (at_builtin; refine wpList_append_any _ rfl (.tmp 43) (.tmp 52) _ rfl w.heap.size 5 i0 _ 1 1 Tryz.underlying94 hi0 hz0 hz1 hz2 rfl (by omega) _ _ _ rfl (HO.out.alloc _) _ _ 2 2 _ rfl HRd.out (by simp [Value.oneCell']) (by simp only [maxLen]; omega) (by omega) (by simp; omega) ?_; intro v4 w4 hown4 hg4 hat4)
      have HO4 : Hid (w4.ownsRow w.heap.size 5 1 v4 (1 + (k + 1) * 2) (Lib.byteCells (45 :: (L.take (k + 1)).flatMap Ab.pair))) := by
       show w4.ownsRow w.heap.size 5 1 v4 (1 + (k + 1) * 2) (Lib.byteCells (45 :: (L.take (k + 1)).flatMap Ab.pair))
       rw [Ab.pairs_next HD.out, byteCells_append, Ab.pair_cells d d0 (by omega), show 1 + (k + 1) * 2 = 1 + k * 2 + 2 by omega];exact hown4
      have HB4 := Lib.hid (grown_below HB.out HO.out hg4);have hne4 : v4.ownBlock ≠ some (w.heap.size + 1) := by
       rcases hat4 with e4 | e4
       ·rw [e4]; exact hne
       ·rw [e4, World.size_alloc];intro e
        injection e with e
        omega
      have HA4 := Lib.hid (Sc.At.grownO (HA.out.allocO _) hg4 (fun j e e2 => hne (by subst e2; exact e)));clear hown4 hg4 hat4;go_roundw
      case rel => exact ⟨k + 1, by omega, by go_num, HO4.out, HB4.out, HA4.out, hne4⟩
      case measure => simp [intOf] <;> omega
     ·have hke : k = 1 := by omega
      subst hke;have hlen : (45 :: L.flatMap Ab.pair : List UInt8).length = 1 + 1 * 2 := by rw [List.length_cons, Ab.pairs_len, HCn.out]
      have ht : L.take 1 = L := List.take_of_length_le (by rw [HCn.out]; exact Nat.le_refl _);have hO := HO.out;rw [ht, ← hlen] at hO;obtain ⟨g, cap, hg, hcells⟩ := owned_bytes hO (by rw [hlen]; omega);have hcv := run_convert_bytes_back (P := Tryz.prog) wr 94 9 5 ⟨g, 0, none⟩ cap (45 :: L.flatMap Ab.pair) Tryz.underlying94 Tryz.underlying5 Tryz.underlying9 hcells;rw [← hg] at hcv;rw [hlen] at hcv;have HB9 := Lib.hid HB.out;clear hO hcells hlen ht hg HO HA;go_wp2;go_ret2
      exact ⟨rfl, HB9.out⟩
  ·have hs : sg = 43 := by rw [← hsg]; rw [if_neg hneg]
   have hav : a = off := by
    have h := ha;unfold Ab.abs_ at h;rw [if_neg hneg] at h;omega
   subst hs;clear hsg ha;subst hav;rcases hcn with ⟨m1, rfl⟩ | ⟨m1, m2, rfl⟩ | ⟨m1, m2, rfl⟩
   ·have n1 : (a % 60 != 0) = true := by simpa using m1
    clear m1;go_enter Tryz.func171, Tryz.ntmps171
    go_wp2_with fail
    obtain ⟨W1, hW1⟩ : ∃ W, (w.alloc (.cells #[.int .u8 43] 5)).alloc (.cells #[.int .i64 (a / 3600), .int .i64 (a / 60 % 60), .int .i64 (a % 60)] 270) = W := ⟨_, rfl⟩
    have hb1 : Below w.heap.size w W1 := by rw [← hW1]; exact ((Below.refl w.heap.size w).alloc (Nat.le_refl _) _).alloc (by simp) _
    have hO1 : W1.ownsRow w.heap.size 5 1 (.slice (some ⟨w.heap.size, 0, none⟩) 1 1) 1 (Lib.byteCells [43]) := by
     rw [← hW1];exact (World.ownsRow_lit (base := w.heap.size) (e := 5) (size := 1) w #[.int .u8 43] 1 (Nat.le_refl _) (by decide) (by simp)).alloc _
    have hA1 : At W1 (w.heap.size + 1) [.int .i64 (a / 3600), .int .i64 (a / 60 % 60), .int .i64 (a % 60)] := by
     rw [← hW1];have h := At.new (w.alloc (.cells #[.int .u8 43] 5)) #[.int .i64 (a / 3600), .int .i64 (a / 60 % 60), .int .i64 (a % 60)] 270;rw [World.size_alloc] at h;exact h
    have HB1 := Lib.hid hb1;have HO1 := Lib.hid hO1;have HA1 := Lib.hid hA1;rw [hW1];clear hW1 hb1 hO1 hA1;go_loopw [4, 39] (fun v i wr => ∃ k : Nat, k ≤ 3 ∧ i = .int .i64 (k : Int) ∧ Hid (wr.ownsRow w.heap.size 5 1 v (1 + k * 2) (Lib.byteCells (43 :: (L.take k).flatMap Ab.pair))) ∧ Hid (Below w.heap.size w wr) ∧ Hid (At wr (w.heap.size + 1) [.int .i64 (a / 3600), .int .i64 (a / 60 % 60), .int .i64 (a % 60)]) ∧ v.ownBlock ≠ some (w.heap.size + 1)) (fun _ i _ => 3 - (intOf i).toNat)
    case atStart => exact ⟨0, by omega, rfl, HO1.out, HB1.out, HA1.out, by simp [Value.ownBlock]⟩
    case round =>
     obtain ⟨k, hk, rfl, HO, HB, HA, hne⟩ := hrel;obtain ⟨vA, vc, rfl, hv1, hv2⟩ := own_slice_cap HO.out;have hwr := HB.out.size;have hal := HA.out.lt
     by_cases hlt : k < 3
     ·obtain ⟨d, hd⟩ : ∃ d, L[k]? = some d := ⟨_, List.getElem?_eq_getElem (by rw [HCn.out]; exact hlt)⟩
      have hdb := HLb.out d (List.mem_of_getElem? hd);have c0 : wr.cell? ⟨w.heap.size + 1, k, none⟩ = some (.int .i64 d) := by
       have h := HA.out.cell k (.int .i64 d) (by
        have h2 := HLk.out k d hd;have e : ([.int .i64 (a / 3600), .int .i64 (a / 60 % 60), .int .i64 (a % 60)] : List Value) = [a / 3600, a / 60 % 60, a % 60].map (Value.int .i64) := rfl;rw [e, List.getElem?_map, h2];rfl)
       exact h
      have d0 := hdb.1;have d1 := hdb.2;have q1 : (0 : Int) ≤ (k : Int) := by omega
      have q2 : (k : Int) < 3 := by omega
      have HRd := Lib.hid (reads_cells wr #[.int .u8 (48 + d / 10), .int .u8 (48 + d % 10)] 5);have HD := Lib.hid hd;clear hdb hd;go_wp2_with (at_builtin; refine wpList_append_any _ rfl (.tmp 43) (.tmp 52) _ rfl w.heap.size 5 i0 _ 1 1 Tryz.underlying94 hi0 hz0 hz1 hz2 rfl (by omega) _ _ _ rfl (HO.out.alloc _) _ _ 2 2 _ rfl HRd.out (by simp [Value.oneCell']) (by simp only [maxLen]; omega) (by omega) (by simp; omega) ?_; intro v4 w4 hown4 hg4 hat4)
      have HO4 : Hid (w4.ownsRow w.heap.size 5 1 v4 (1 + (k + 1) * 2) (Lib.byteCells (43 :: (L.take (k + 1)).flatMap Ab.pair))) := by
       show w4.ownsRow w.heap.size 5 1 v4 (1 + (k + 1) * 2) (Lib.byteCells (43 :: (L.take (k + 1)).flatMap Ab.pair))
       rw [Ab.pairs_next HD.out, byteCells_append, Ab.pair_cells d d0 (by omega), show 1 + (k + 1) * 2 = 1 + k * 2 + 2 by omega];exact hown4
      have HB4 := Lib.hid (grown_below HB.out HO.out hg4);have hne4 : v4.ownBlock ≠ some (w.heap.size + 1) := by
       rcases hat4 with e4 | e4
       ·rw [e4]; exact hne
       ·rw [e4, World.size_alloc];intro e
        injection e with e
        omega
      have HA4 := Lib.hid (Sc.At.grownO (HA.out.allocO _) hg4 (fun j e e2 => hne (by subst e2; exact e)));clear hown4 hg4 hat4;go_roundw
      case rel => exact ⟨k + 1, by omega, by go_num, HO4.out, HB4.out, HA4.out, hne4⟩
      case measure => simp [intOf] <;> omega
     ·have hke : k = 3 := by omega
      subst hke;have hlen : (43 :: L.flatMap Ab.pair : List UInt8).length = 1 + 3 * 2 := by rw [List.length_cons, Ab.pairs_len, HCn.out]
      have ht : L.take 3 = L := List.take_of_length_le (by rw [HCn.out]; exact Nat.le_refl _);have hO := HO.out;rw [ht, ← hlen] at hO;obtain ⟨g, cap, hg, hcells⟩ := owned_bytes hO (by rw [hlen]; omega);have hcv := run_convert_bytes_back (P := Tryz.prog) wr 94 9 5 ⟨g, 0, none⟩ cap (43 :: L.flatMap Ab.pair) Tryz.underlying94 Tryz.underlying5 Tryz.underlying9 hcells;rw [← hg] at hcv;rw [hlen] at hcv;have HB9 := Lib.hid HB.out;clear hO hcells hlen ht hg HO HA;go_wp2;go_ret2
      exact ⟨rfl, HB9.out⟩
   ·have n1 : (a % 60 != 0) = false := by simpa using m1
    have n2 : (a % 3600 != 0) = true := by simpa using m2
    clear m1 m2;go_enter Tryz.func171, Tryz.ntmps171
    go_wp2_with fail
    obtain ⟨W1, hW1⟩ : ∃ W, (w.alloc (.cells #[.int .u8 43] 5)).alloc (.cells #[.int .i64 (a / 3600), .int .i64 (a / 60 % 60), .int .i64 (a % 60)] 270) = W := ⟨_, rfl⟩
    have hb1 : Below w.heap.size w W1 := by rw [← hW1]; exact ((Below.refl w.heap.size w).alloc (Nat.le_refl _) _).alloc (by simp) _
    have hO1 : W1.ownsRow w.heap.size 5 1 (.slice (some ⟨w.heap.size, 0, none⟩) 1 1) 1 (Lib.byteCells [43]) := by
     rw [← hW1];exact (World.ownsRow_lit (base := w.heap.size) (e := 5) (size := 1) w #[.int .u8 43] 1 (Nat.le_refl _) (by decide) (by simp)).alloc _
    have hA1 : At W1 (w.heap.size + 1) [.int .i64 (a / 3600), .int .i64 (a / 60 % 60), .int .i64 (a % 60)] := by
     rw [← hW1];have h := At.new (w.alloc (.cells #[.int .u8 43] 5)) #[.int .i64 (a / 3600), .int .i64 (a / 60 % 60), .int .i64 (a % 60)] 270;rw [World.size_alloc] at h;exact h
    have HB1 := Lib.hid hb1;have HO1 := Lib.hid hO1;have HA1 := Lib.hid hA1;rw [hW1];clear hW1 hb1 hO1 hA1;go_loopw [4, 39] (fun v i wr => ∃ k : Nat, k ≤ 2 ∧ i = .int .i64 (k : Int) ∧ Hid (wr.ownsRow w.heap.size 5 1 v (1 + k * 2) (Lib.byteCells (43 :: (L.take k).flatMap Ab.pair))) ∧ Hid (Below w.heap.size w wr) ∧ Hid (At wr (w.heap.size + 1) [.int .i64 (a / 3600), .int .i64 (a / 60 % 60), .int .i64 (a % 60)]) ∧ v.ownBlock ≠ some (w.heap.size + 1)) (fun _ i _ => 2 - (intOf i).toNat)
    case atStart => exact ⟨0, by omega, rfl, HO1.out, HB1.out, HA1.out, by simp [Value.ownBlock]⟩
    case round =>
     obtain ⟨k, hk, rfl, HO, HB, HA, hne⟩ := hrel;obtain ⟨vA, vc, rfl, hv1, hv2⟩ := own_slice_cap HO.out;have hwr := HB.out.size;have hal := HA.out.lt
     by_cases hlt : k < 2
     ·obtain ⟨d, hd⟩ : ∃ d, L[k]? = some d := ⟨_, List.getElem?_eq_getElem (by rw [HCn.out]; exact hlt)⟩
      have hdb := HLb.out d (List.mem_of_getElem? hd);have c0 : wr.cell? ⟨w.heap.size + 1, k, none⟩ = some (.int .i64 d) := by
       have h := HA.out.cell k (.int .i64 d) (by
        have h2 := HLk.out k d hd;have e : ([.int .i64 (a / 3600), .int .i64 (a / 60 % 60), .int .i64 (a % 60)] : List Value) = [a / 3600, a / 60 % 60, a % 60].map (Value.int .i64) := rfl;rw [e, List.getElem?_map, h2];rfl)
       exact h
      have d0 := hdb.1;have d1 := hdb.2;have q1 : (0 : Int) ≤ (k : Int) := by omega
      have q2 : (k : Int) < 2 := by omega
      have HRd := Lib.hid (reads_cells wr #[.int .u8 (48 + d / 10), .int .u8 (48 + d % 10)] 5);have HD := Lib.hid hd;clear hdb hd;go_wp2_with (at_builtin; refine wpList_append_any _ rfl (.tmp 43) (.tmp 52) _ rfl w.heap.size 5 i0 _ 1 1 Tryz.underlying94 hi0 hz0 hz1 hz2 rfl (by omega) _ _ _ rfl (HO.out.alloc _) _ _ 2 2 _ rfl HRd.out (by simp [Value.oneCell']) (by simp only [maxLen]; omega) (by omega) (by simp; omega) ?_; intro v4 w4 hown4 hg4 hat4)
      have HO4 : Hid (w4.ownsRow w.heap.size 5 1 v4 (1 + (k + 1) * 2) (Lib.byteCells (43 :: (L.take (k + 1)).flatMap Ab.pair))) := by
       show w4.ownsRow w.heap.size 5 1 v4 (1 + (k + 1) * 2) (Lib.byteCells (43 :: (L.take (k + 1)).flatMap Ab.pair))
       rw [Ab.pairs_next HD.out, byteCells_append, Ab.pair_cells d d0 (by omega), show 1 + (k + 1) * 2 = 1 + k * 2 + 2 by omega];exact hown4
      have HB4 := Lib.hid (grown_below HB.out HO.out hg4);have hne4 : v4.ownBlock ≠ some (w.heap.size + 1) := by
       rcases hat4 with e4 | e4
       ·rw [e4]; exact hne
       ·rw [e4, World.size_alloc];intro e
        injection e with e
        omega
      have HA4 := Lib.hid (Sc.At.grownO (HA.out.allocO _) hg4 (fun j e e2 => hne (by subst e2; exact e)));clear hown4 hg4 hat4;go_roundw
      case rel => exact ⟨k + 1, by omega, by go_num, HO4.out, HB4.out, HA4.out, hne4⟩
      case measure => simp [intOf] <;> omega
     ·have hke : k = 2 := by omega
      subst hke;have hlen : (43 :: L.flatMap Ab.pair : List UInt8).length = 1 + 2 * 2 := by rw [List.length_cons, Ab.pairs_len, HCn.out]
      have ht : L.take 2 = L := List.take_of_length_le (by rw [HCn.out]; exact Nat.le_refl _);have hO := HO.out;rw [ht, ← hlen] at hO;obtain ⟨g, cap, hg, hcells⟩ := owned_bytes hO (by rw [hlen]; omega);have hcv := run_convert_bytes_back (P := Tryz.prog) wr 94 9 5 ⟨g, 0, none⟩ cap (43 :: L.flatMap Ab.pair) Tryz.underlying94 Tryz.underlying5 Tryz.underlying9 hcells;rw [← hg] at hcv;rw [hlen] at hcv;have HB9 := Lib.hid HB.out;clear hO hcells hlen ht hg HO HA;go_wp2;go_ret2
      exact ⟨rfl, HB9.out⟩
   ·have n1 : (a % 60 != 0) = false := by simpa using m1
    have n2 : (a % 3600 != 0) = false := by simpa using m2
    clear m1 m2;go_enter Tryz.func171, Tryz.ntmps171
    go_wp2_with fail
    obtain ⟨W1, hW1⟩ : ∃ W, (w.alloc (.cells #[.int .u8 43] 5)).alloc (.cells #[.int .i64 (a / 3600), .int .i64 (a / 60 % 60), .int .i64 (a % 60)] 270) = W := ⟨_, rfl⟩
    have hb1 : Below w.heap.size w W1 := by rw [← hW1]; exact ((Below.refl w.heap.size w).alloc (Nat.le_refl _) _).alloc (by simp) _
    have hO1 : W1.ownsRow w.heap.size 5 1 (.slice (some ⟨w.heap.size, 0, none⟩) 1 1) 1 (Lib.byteCells [43]) := by
     rw [← hW1];exact (World.ownsRow_lit (base := w.heap.size) (e := 5) (size := 1) w #[.int .u8 43] 1 (Nat.le_refl _) (by decide) (by simp)).alloc _
    have hA1 : At W1 (w.heap.size + 1) [.int .i64 (a / 3600), .int .i64 (a / 60 % 60), .int .i64 (a % 60)] := by
     rw [← hW1];have h := At.new (w.alloc (.cells #[.int .u8 43] 5)) #[.int .i64 (a / 3600), .int .i64 (a / 60 % 60), .int .i64 (a % 60)] 270;rw [World.size_alloc] at h;exact h
    have HB1 := Lib.hid hb1;have HO1 := Lib.hid hO1;have HA1 := Lib.hid hA1;rw [hW1];clear hW1 hb1 hO1 hA1;go_loopw [4, 39] (fun v i wr => ∃ k : Nat, k ≤ 1 ∧ i = .int .i64 (k : Int) ∧ Hid (wr.ownsRow w.heap.size 5 1 v (1 + k * 2) (Lib.byteCells (43 :: (L.take k).flatMap Ab.pair))) ∧ Hid (Below w.heap.size w wr) ∧ Hid (At wr (w.heap.size + 1) [.int .i64 (a / 3600), .int .i64 (a / 60 % 60), .int .i64 (a % 60)]) ∧ v.ownBlock ≠ some (w.heap.size + 1)) (fun _ i _ => 1 - (intOf i).toNat)
    case atStart => exact ⟨0, by omega, rfl, HO1.out, HB1.out, HA1.out, by simp [Value.ownBlock]⟩
    case round =>
     obtain ⟨k, hk, rfl, HO, HB, HA, hne⟩ := hrel;obtain ⟨vA, vc, rfl, hv1, hv2⟩ := own_slice_cap HO.out;have hwr := HB.out.size;have hal := HA.out.lt
     by_cases hlt : k < 1
     ·obtain ⟨d, hd⟩ : ∃ d, L[k]? = some d := ⟨_, List.getElem?_eq_getElem (by rw [HCn.out]; exact hlt)⟩
      have hdb := HLb.out d (List.mem_of_getElem? hd);have c0 : wr.cell? ⟨w.heap.size + 1, k, none⟩ = some (.int .i64 d) := by
       have h := HA.out.cell k (.int .i64 d) (by
        have h2 := HLk.out k d hd;have e : ([.int .i64 (a / 3600), .int .i64 (a / 60 % 60), .int .i64 (a % 60)] : List Value) = [a / 3600, a / 60 % 60, a % 60].map (Value.int .i64) := rfl;rw [e, List.getElem?_map, h2];rfl)
       exact h
      have d0 := hdb.1;have d1 := hdb.2;have q1 : (0 : Int) ≤ (k : Int) := by omega
      have q2 : (k : Int) < 1 := by omega
      have HRd := Lib.hid (reads_cells wr #[.int .u8 (48 + d / 10), .int .u8 (48 + d % 10)] 5);have HD := Lib.hid hd;clear hdb hd;go_wp2_with (at_builtin; refine wpList_append_any _ rfl (.tmp 43) (.tmp 52) _ rfl w.heap.size 5 i0 _ 1 1 Tryz.underlying94 hi0 hz0 hz1 hz2 rfl (by omega) _ _ _ rfl (HO.out.alloc _) _ _ 2 2 _ rfl HRd.out (by simp [Value.oneCell']) (by simp only [maxLen]; omega) (by omega) (by simp; omega) ?_; intro v4 w4 hown4 hg4 hat4)
      have HO4 : Hid (w4.ownsRow w.heap.size 5 1 v4 (1 + (k + 1) * 2) (Lib.byteCells (43 :: (L.take (k + 1)).flatMap Ab.pair))) := by
       show w4.ownsRow w.heap.size 5 1 v4 (1 + (k + 1) * 2) (Lib.byteCells (43 :: (L.take (k + 1)).flatMap Ab.pair))
       rw [Ab.pairs_next HD.out, byteCells_append, Ab.pair_cells d d0 (by omega), show 1 + (k + 1) * 2 = 1 + k * 2 + 2 by omega];exact hown4
      have HB4 := Lib.hid (grown_below HB.out HO.out hg4);have hne4 : v4.ownBlock ≠ some (w.heap.size + 1) := by
       rcases hat4 with e4 | e4
       ·rw [e4]; exact hne
       ·rw [e4, World.size_alloc];intro e
        injection e with e
        omega
      have HA4 := Lib.hid (Sc.At.grownO (HA.out.allocO _) hg4 (fun j e e2 => hne (by subst e2; exact e)));clear hown4 hg4 hat4;go_roundw
      case rel => exact ⟨k + 1, by omega, by go_num, HO4.out, HB4.out, HA4.out, hne4⟩
      case measure => simp [intOf] <;> omega
     ·have hke : k = 1 := by omega
      subst hke;have hlen : (43 :: L.flatMap Ab.pair : List UInt8).length = 1 + 1 * 2 := by rw [List.length_cons, Ab.pairs_len, HCn.out]
      have ht : L.take 1 = L := List.take_of_length_le (by rw [HCn.out]; exact Nat.le_refl _);have hO := HO.out;rw [ht, ← hlen] at hO;obtain ⟨g, cap, hg, hcells⟩ := owned_bytes hO (by rw [hlen]; omega);have hcv := run_convert_bytes_back (P := Tryz.prog) wr 94 9 5 ⟨g, 0, none⟩ cap (43 :: L.flatMap Ab.pair) Tryz.underlying94 Tryz.underlying5 Tryz.underlying9 hcells;rw [← hg] at hcv;rw [hlen] at hcv;have HB9 := Lib.hid HB.out;clear hO hcells hlen ht hg HO HA;go_wp2;go_ret2
      exact ⟨rfl, HB9.out⟩
 ·have hZ : Ab.offT off = (⟨#[]⟩, 1) := by unfold Ab.offT; rw [if_neg hin]
  rw [hZ];have hc : off ≤ -360000 ∨ (¬ off ≤ -360000 ∧ 360000 ≤ off) := by omega
  clear hin hZ;rcases hc with h1 | ⟨h1, h2⟩
  ·go_enter Tryz.func171, Tryz.ntmps171
   go_wp2;go_ret2
   exact ⟨rfl, Below.refl _ _⟩
  ·go_enter Tryz.func171, Tryz.ntmps171
   go_wp2;go_ret2
   exact ⟨rfl, Below.refl _ _⟩
end Go.Proofs.YtjobhjemnmleaaaGreatDoor
