/- chart.entry: the words of names that are put together with blanks between them. -/
import Derived.Test.YthmhadgbhakdlaaDoorP10
import Derived.Lib.SplitLaws
import Derived.Lib.Join
import Derived.Test.YthmhadgbhakdlaaDoorP16
import Derived.Test.YthmhadgbhakdlaaDoorP25
import Derived.OneCell
import Derived.Test.YthmhadgbhakdlaaDoorP30
import Derived.Test.YthmhadgbhakdlaaDoorP06

namespace Go.Proofs.YthmhadgbhakdlaaDoor
open Go.RowKit

namespace Mk
theorem idx32 : ∀ (p q : Txt), (∀ c ∈ p, c ≠ 32) → Lib.index (p ++ 32 :: q) [32] = p.length := by
  intro p q h
  rw [Lib.index_one]
  induction p with
  | nil => simp [Lib.indexByte]
  | cons c p ih =>
    have hc : (c == 32) = false := by simp [h c]
    have hi := ih fun d hd => h d (by simp [hd])
    simp only [List.cons_append, Lib.indexByte, hc, hi]
    have : (((p.length : Nat) : Int) == -1) = false := by rw [beq_eq_false_iff_ne]; omega
    simp [this]
theorem idx32_none : ∀ (p : Txt), (∀ c ∈ p, c ≠ 32) → Lib.index p [32] = -1 := by
  intro p h
  rw [Lib.index_one]
  induction p with
  | nil => rfl
  | cons c p ih =>
    have hc : (c == 32) = false := by simp [h c]
    have hi := ih fun d hd => h d (by simp [hd])
    simp [Lib.indexByte, hc, hi]
theorem sp_next (p q : Txt) (k : Nat) (h : ∀ c ∈ p, c ≠ 32) : Lib.splitK [32] 0 (k + 1) (p ++ 32 :: q) = p :: Lib.splitK [32] 0 k q := by
  have e : (((p.length : Nat) : Int) == -1) = false := by rw [beq_eq_false_iff_ne]; omega
  have hd : (p ++ 32 :: q).drop (p.length + 1) = q := by
    rw [List.drop_append]
    simp
  have ht : (p ++ 32 :: q).take p.length = p := by simp
  show (if Lib.index (p ++ 32 :: q) [32] == -1 then [p ++ 32 :: q] else (p ++ 32 :: q).take ((Lib.index (p ++ 32 :: q) [32]).toNat + 0) :: Lib.splitK [32] 0 k ((p ++ 32 :: q).drop ((Lib.index (p ++ 32 :: q) [32]).toNat + ([32] : List UInt8).length))) = _
  rw [idx32 p q h, e, Int.toNat_natCast]
  simp only [List.length_cons, List.length_nil, Nat.zero_add, Nat.add_zero, hd, ht]
  rfl
theorem sp_last (p : Txt) (k : Nat) (h : ∀ c ∈ p, c ≠ 32) : Lib.splitK [32] 0 k p = [p] := by
  cases k with
  | zero => rfl
  | succ k =>
    show (if Lib.index p [32] == -1 then [p] else p.take ((Lib.index p [32]).toNat + 0) :: Lib.splitK [32] 0 k (p.drop ((Lib.index p [32]).toNat + ([32] : List UInt8).length))) = _
    rw [idx32_none p h]
    rfl
theorem cnt_free {p : Txt} (h : ∀ c ∈ p, c ≠ 32) : p.count 32 = 0 := List.count_eq_zero.2 fun x => h 32 x rfl
/-- Names put together, and parted again. -/
theorem split_join : ∀ (ss : List Txt), ss ≠ [] → (∀ z ∈ ss, ∀ c ∈ z, c ≠ 32) → (Lib.join ss [32]).count 32 + 1 = ss.length ∧ Lib.splitK [32] 0 ((Lib.join ss [32]).count 32) (Lib.join ss [32]) = ss
  | [], h, _ => absurd rfl h
  | [z], _, h => by
    have e : Lib.join [z] [32] = z := by simp [Lib.join, List.intercalate]
    have hz := h z List.mem_cons_self
    rw [e, cnt_free hz]
    exact ⟨rfl, rfl⟩
  | z :: y :: r, _, h => by
    have e : Lib.join (z :: y :: r) [32] = z ++ 32 :: Lib.join (y :: r) [32] := by simp [Lib.join, List.intercalate]
    obtain ⟨h1, h2⟩ := split_join (y :: r) (by simp) fun x hx => h x (List.mem_cons_of_mem _ hx)
    have hz := h z List.mem_cons_self
    have hc : (z ++ 32 :: Lib.join (y :: r) [32]).count 32 = (Lib.join (y :: r) [32]).count 32 + 1 := by
      rw [List.count_append, cnt_free hz, List.count_cons_self]
      omega
    rw [e, hc]
    refine ⟨by rw [h1]; rfl, ?_⟩
    rw [sp_next z _ _ hz, h2]
/-- The same over texts: what strings.Split hands back. -/
theorem splitB_join {zs : List ByteArray} (hn : zs ≠ []) (h : ∀ z ∈ zs, ∀ c ∈ tl z, c ≠ 32) : Lib.splitB ⟨#[32]⟩ 0 (Lib.countB (bts (Lib.join (zs.map tl) [32])) ⟨#[32]⟩) (bts (Lib.join (zs.map tl) [32])) = zs ∧ Lib.countB (bts (Lib.join (zs.map tl) [32])) ⟨#[32]⟩ + 1 = zs.length := by
  have hcnt : Lib.countB (bts (Lib.join (zs.map tl) [32])) ⟨#[32]⟩ = (Lib.join (zs.map tl) [32]).count 32 := Lib.count_one 32 _
  obtain ⟨h1, h2⟩ := split_join (zs.map tl) (by simpa using hn) (fun z hz => by
    obtain ⟨y, hy, rfl⟩ := List.mem_map.1 hz
    exact h y hy)
  rw [hcnt]
  rw [List.length_map] at h1
  refine ⟨?_, h1⟩
  have h3 := Lib.splitB_data ⟨#[32]⟩ 0 ((Lib.join (zs.map tl) [32]).count 32) (bts (Lib.join (zs.map tl) [32]))
  have h4 : (Lib.splitB ⟨#[32]⟩ 0 ((Lib.join (zs.map tl) [32]).count 32) (bts (Lib.join (zs.map tl) [32]))).map tl = zs.map tl := h3.trans h2
  have h5 := congrArg (List.map bts) h4
  rw [List.map_map, List.map_map] at h5
  have hid : (bts ∘ tl) = id := funext fun s => bts_tl s
  rw [hid, List.map_id, List.map_id] at h5
  exact h5
end Mk
end Go.Proofs.YthmhadgbhakdlaaDoor

/- chart.entry: what a token of a map tells. -/
namespace Go.Proofs.YthmhadgbhakdlaaDoor
open Go.RowKit

namespace Mk
/-- What chart.entry keeps: the token, the result's box and the entry's; the zones so far lie in a row of their own. -/
structure EI (w : World) (tok : List Value) (k t : ByteArray) (zs : List ByteArray) (zv : Value) (wr : World) : Prop where
  tk : At wr w.heap.size tok
  r : At wr (w.heap.size + 1) [.string ⟨#[]⟩, .string ⟨#[]⟩, .slice none 0 0]
  e : At wr (w.heap.size + 1 + 1) [.string k, .string t, zv]
  own : wr.ownsRow w.heap.size 9 1 zv zs.length (zs.map Value.string)
  n0 : zv.ownBlock ≠ some w.heap.size
  n1 : zv.ownBlock ≠ some (w.heap.size + 1)
  n2 : zv.ownBlock ≠ some (w.heap.size + 1 + 1)
  bel : Below w.heap.size w wr
section
variable {w wr w' : World} {tok : List Value} {k t : ByteArray} {zs : List ByteArray} {zv : Value}
theorem EI.alloc (h : EI w tok k t zs zv wr) (o : Obj) : EI w tok k t zs zv (wr.alloc o) := ⟨h.tk.allocO o, h.r.allocO o, h.e.allocO o, h.own.alloc o, h.n0, h.n1, h.n2, h.bel.alloc h.bel.size o⟩
theorem EI.set0 (h : EI w tok k t zs zv wr) (k' : ByteArray) : EI w tok k' t zs zv (wr.setCell ⟨w.heap.size + 1 + 1, 0, none⟩ (.string k')) :=
  ⟨h.tk.set_other _ _ (by show w.heap.size + 1 + 1 ≠ _; omega), h.r.set_other _ _ (by show w.heap.size + 1 + 1 ≠ _; omega), h.e.set 0 _, ownsRow_setCell_other h.own (a := ⟨w.heap.size + 1 + 1, 0, none⟩) h.n2 _, h.n0, h.n1, h.n2, h.bel.setCell (p := ⟨w.heap.size + 1 + 1, 0, none⟩) (by show w.heap.size ≤ w.heap.size + 1 + 1; omega) _⟩
theorem EI.set1 (h : EI w tok k t zs zv wr) (t' : ByteArray) : EI w tok k t' zs zv (wr.setCell ⟨w.heap.size + 1 + 1, 1, none⟩ (.string t')) :=
  ⟨h.tk.set_other _ _ (by show w.heap.size + 1 + 1 ≠ _; omega), h.r.set_other _ _ (by show w.heap.size + 1 + 1 ≠ _; omega), h.e.set 1 _, ownsRow_setCell_other h.own (a := ⟨w.heap.size + 1 + 1, 1, none⟩) h.n2 _, h.n0, h.n1, h.n2, h.bel.setCell (p := ⟨w.heap.size + 1 + 1, 1, none⟩) (by show w.heap.size ≤ w.heap.size + 1 + 1; omega) _⟩
theorem EI.push {s : ByteArray} {v' : Value} (h : EI w tok k t zs zv wr) (hat : ∀ g xs, At wr g xs → zv.ownBlock ≠ some g → At w' g xs ∧ v'.ownBlock ≠ some g) (ho : w'.ownsRow w.heap.size 9 1 v' (zs.length + 1) (zs.map Value.string ++ [.string s])) (hb : Below w.heap.size wr w') :
    EI w tok k t (zs ++ [s]) v' (w'.setCell ⟨w.heap.size + 1 + 1, 2, none⟩ v') := by
  obtain ⟨a0, b0⟩ := hat _ _ h.tk h.n0
  obtain ⟨a1, b1⟩ := hat _ _ h.r h.n1
  obtain ⟨a2, b2⟩ := hat _ _ h.e h.n2
  refine ⟨a0.set_other _ _ (by show w.heap.size + 1 + 1 ≠ _; omega), a1.set_other _ _ (by show w.heap.size + 1 + 1 ≠ _; omega), a2.set 2 _, ?_, b0, b1, b2, (h.bel.trans hb).setCell (p := ⟨w.heap.size + 1 + 1, 2, none⟩) (by show w.heap.size ≤ w.heap.size + 1 + 1; omega) _⟩
  rw [List.length_append, List.map_append]
  exact ownsRow_setCell_other ho (a := ⟨w.heap.size + 1 + 1, 2, none⟩) b2 _
end
end Mk
set_option maxHeartbeats 8000000 in
set_option maxRecDepth 100000 in
theorem chartEntry_three (key terr tx : ByteArray) (zs : List ByteArray) (B : Option Addr) (d1 q : Nat) (w : World) (hW : Wl w) (hn : zs ≠ []) (hz : ∀ z ∈ zs, ∀ c ∈ tl z, c ≠ 32) (hz0 : ∀ z ∈ zs, tl z ≠ []) (hl : zs.length ≤ 40) (hj : (Lib.join (zs.map tl) [32]).length ≤ 100000)
    (hR : Reads w w.heap.size 2 B 3 (Mk.atCells [(Mk.KEY, tl key), (Mk.TERR, tl terr), (Mk.ZONES, Lib.join (zs.map tl) [32])])) :
    Calls Tryd.prog 18 #[.agg #[.int .u8 1, .string ⟨#[109, 97, 112]⟩, .slice B 3 d1, .string tx, .int .i64 (q : Int)]] w fun e w' => (∃ zv, e = .returned (.tuple #[.agg #[.string key, .string terr, zv], .bool true]) ∧ w'.ownsRow w.heap.size 9 1 zv zs.length (zs.map Value.string)) ∧ Below w.heap.size w w' := by
  obtain ⟨J, hJ⟩ : ∃ J, Mk.bts (Lib.join (zs.map tl) [32]) = J := ⟨_, rfl⟩
  obtain ⟨m, hm⟩ := hW.maxl
  have hsp := Mk.splitB_join hn hz
  rw [hJ] at hsp
  have HSp : Hid (∀ W, Below w.heap.size w W → Calls Tryd.prog 32 #[.string J, .string ⟨#[32]⟩] W fun e w' => e = .returned (.slice (some ⟨W.heap.size, 0, none⟩) zs.length zs.length) ∧ w' = W.alloc (.cells (zs.map Value.string).toArray 9)) := fun W hb => by
    obtain ⟨m2, hm2⟩ := (hW.below hb).maxl
    have h2 : J.size = (Lib.join (zs.map tl) [32]).length := by rw [← hJ]; rfl
    have h := Tryd.strings_Split J ⟨#[32]⟩ m2 W (by omega) hm2 (by decide)
    rw [hsp.1, hsp.2] at h
    exact h
  have HJ := Lib.hid hJ
  have HR := Lib.hid hR
  have HZ0 := Lib.hid hz0
  obtain ⟨n, hnl⟩ : ∃ n, zs.length = n := ⟨_, rfl⟩
  have HN := Lib.hid hnl
  rw [hnl] at HSp hl
  have hnw : IntKind.i64.wrap (n : Int) = (n : Int) := by rw [IntKind.wrap_i64]; omega
  obtain ⟨tok, htok⟩ : ∃ l : List Value, [.int .u8 1, .string ⟨#[109, 97, 112]⟩, .slice B 3 d1, .string tx, .int .i64 (q : Int)] = l := ⟨_, rfl⟩
  have HI0 : Hid (Mk.EI w tok ⟨#[]⟩ ⟨#[]⟩ [] (.slice none 0 0) (((w.alloc (.cells #[.int .u8 1, .string ⟨#[109, 97, 112]⟩, .slice B 3 d1, .string tx, .int .i64 (q : Int)] 59)).alloc (.cells #[.string ⟨#[]⟩, .string ⟨#[]⟩, .slice none 0 0] 49)).alloc (.cells #[.string ⟨#[]⟩, .string ⟨#[]⟩, .slice none 0 0] 49))) := by
    rw [← htok]
    refine ⟨((At.new w _ _).allocO _).allocO _, ?_, ?_, World.ownsRow_nil _ _ _ _, by simp [Value.ownBlock], by simp [Value.ownBlock], by simp [Value.ownBlock], ((Mk.below_new w _).alloc (by rw [World.size_alloc]; omega) _).alloc (by rw [World.size_alloc, World.size_alloc]; omega) _⟩
    · have h := (At.new (w.alloc (.cells #[.int .u8 1, .string ⟨#[109, 97, 112]⟩, .slice B 3 d1, .string tx, .int .i64 (q : Int)] 59)) #[.string ⟨#[]⟩, .string ⟨#[]⟩, .slice none 0 0] 49).allocO (.cells #[.string ⟨#[]⟩, .string ⟨#[]⟩, .slice none 0 0] 49)
      rw [World.size_alloc] at h
      exact h
    · have h := At.new ((w.alloc (.cells #[.int .u8 1, .string ⟨#[109, 97, 112]⟩, .slice B 3 d1, .string tx, .int .i64 (q : Int)] 59)).alloc (.cells #[.string ⟨#[]⟩, .string ⟨#[]⟩, .slice none 0 0] 49)) #[.string ⟨#[]⟩, .string ⟨#[]⟩, .slice none 0 0] 49
      rw [World.size_alloc, World.size_alloc] at h
      exact h
  have HTok := Lib.hid htok
  have hn0 : 0 < n := by
    have := List.length_pos_iff.2 hn
    omega
  clear hW hn hz hz0 hj hR hJ hm hsp hnl htok
  go_enter Tryd.func18, Tryd.ntmps18
  go_upto_region 3 with fail
  obtain ⟨W0, hW0⟩ : ∃ W, (((w.alloc (.cells #[.int .u8 1, .string ⟨#[109, 97, 112]⟩, .slice B 3 d1, .string tx, .int .i64 (q : Int)] 59)).alloc (.cells #[.string ⟨#[]⟩, .string ⟨#[]⟩, .slice none 0 0] 49)).alloc (.cells #[.string ⟨#[]⟩, .string ⟨#[]⟩, .slice none 0 0] 49)) = W := ⟨_, rfl⟩
  rw [hW0] at HI0 ⊢
  clear hW0
  have hT := HI0.out.tk
  rw [← HTok.out] at hT
  have c2 := hT.cell 2 _ rfl
  have z0 := hT.lt
  clear hT
  go_wp2_with fail
  clear c2 z0
  go_loopw [5, 6, 7, 15] (fun b0 b1 b2 i wr => ∃ j : Nat, j ≤ 3 ∧ b0 = .bool (decide (1 ≤ j)) ∧ b1 = .bool (decide (2 ≤ j)) ∧ b2 = .bool (decide (3 ≤ j)) ∧ i = .int .i64 (j : Int) ∧ ∃ zv, Hid (Mk.EI w tok (if 1 ≤ j then key else ⟨#[]⟩) (if 2 ≤ j then terr else ⟨#[]⟩) (if 3 ≤ j then zs else []) zv wr)) (fun _ _ _ i _ => 3 - (intOf i).toNat)
  case atStart => exact ⟨0, Nat.zero_le _, rfl, rfl, rfl, rfl, _, HI0.out⟩
  case round =>
    obtain ⟨j, hj, rfl, rfl, rfl, rfl, zv, HI⟩ := hrel
    by_cases hj3 : j < 3
    · have hR2 := (HR.out.below HI.out.bel).more HI.out.bel.size
      obtain ⟨bd, a, rfl, hbb, ha, u0, u1⟩ := Mk.attr_cells hR2 rfl hj3
      have t1 : (0 : Int) ≤ (j : Int) := by omega
      have t2 : (j : Int) < 3 := by omega
      have hbk : (bd.add (j * 2)).block < wr.heap.size := by rw [block_of_add]; exact hbb
      clear hR2
      rcases (show j = 0 ∨ j = 1 ∨ j = 2 by omega) with h0 | h0 | h0
      · have ea : (Mk.KEY, tl key) = a := by rw [h0] at ha; exact Option.some.inj ha
        subst ea
        have u0' : wr.cell? (bd.add (j * 2)) = some (.string ⟨#[107, 101, 121]⟩) := u0
        have u1' : wr.cell? ⟨(bd.add (j * 2)).block, (bd.add (j * 2)).off + 1, none⟩ = some (.string key) := u1
        have HI1 : Hid (Mk.EI w tok key ⟨#[]⟩ [] zv ((wr.setCell ⟨w.heap.size + 1 + 1, 0, none⟩ (.string key)).alloc (.cells #[.string ⟨#[107, 101, 121]⟩, .string key] 75))) := by
          have h := HI.out
          rw [h0] at h
          exact (h.set0 key).alloc _
        have ze := HI.out.e.lt
        have ce := (HI.out.e.allocO (.cells #[.string ⟨#[107, 101, 121]⟩, .string key] 75)).cell 0 _ rfl
        have fe := (HI.out.e.allocO (.cells #[.string ⟨#[107, 101, 121]⟩, .string key] 75)).free 0 _ rfl
        have H0 := Lib.hid h0
        clear h0 ha u0 u1
        go_wp2
        go_roundw
        case rel =>
          have h0 := H0.out
          subst h0
          exact ⟨1, by omega, rfl, rfl, rfl, by go_num, _, HI1.out⟩
        case measure => simp [intOf]; omega
      · have ea : (Mk.TERR, tl terr) = a := by rw [h0] at ha; exact Option.some.inj ha
        subst ea
        have u0' : wr.cell? (bd.add (j * 2)) = some (.string ⟨#[116, 101, 114, 114, 105, 116, 111, 114, 121]⟩) := u0
        have u1' : wr.cell? ⟨(bd.add (j * 2)).block, (bd.add (j * 2)).off + 1, none⟩ = some (.string terr) := u1
        have HI1 : Hid (Mk.EI w tok key terr [] zv ((wr.setCell ⟨w.heap.size + 1 + 1, 1, none⟩ (.string terr)).alloc (.cells #[.string ⟨#[116, 101, 114, 114, 105, 116, 111, 114, 121]⟩, .string terr] 75))) := by
          have h := HI.out
          rw [h0] at h
          exact (h.set1 terr).alloc _
        have ze := HI.out.e.lt
        have ce := (HI.out.e.allocO (.cells #[.string ⟨#[116, 101, 114, 114, 105, 116, 111, 114, 121]⟩, .string terr] 75)).cell 1 _ rfl
        have fe := (HI.out.e.allocO (.cells #[.string ⟨#[116, 101, 114, 114, 105, 116, 111, 114, 121]⟩, .string terr] 75)).free 1 _ rfl
        have H0 := Lib.hid h0
        clear h0 ha u0 u1
        go_wp2
        go_roundw
        case rel =>
          have h0 := H0.out
          subst h0
          exact ⟨2, by omega, rfl, rfl, rfl, by go_num, _, HI1.out⟩
        case measure => simp [intOf]; omega
      · have ea : (Mk.ZONES, Lib.join (zs.map tl) [32]) = a := by rw [h0] at ha; exact Option.some.inj ha
        subst ea
        have u0' : wr.cell? (bd.add (j * 2)) = some (.string ⟨#[122, 111, 110, 101, 115]⟩) := u0
        have u1' : wr.cell? ⟨(bd.add (j * 2)).block, (bd.add (j * 2)).off + 1, none⟩ = some (.string J) := by rw [← HJ.out]; exact u1
        have HI1 : Hid (Mk.EI w tok key terr [] zv (wr.alloc (.cells #[.string ⟨#[122, 111, 110, 101, 115]⟩, .string J] 75))) := by
          have h := HI.out
          rw [h0] at h
          exact h.alloc _
        have H0 := Lib.hid h0
        clear h0 ha u0 u1
        go_wp2_with fail
        refine (HSp.out _ HI1.out.bel).mono ?_
        rintro e w2 ⟨rfl, rfl⟩
        obtain ⟨W1, hW1⟩ : ∃ W, wr.alloc (.cells #[.string ⟨#[122, 111, 110, 101, 115]⟩, .string J] 75) = W := ⟨_, rfl⟩
        rw [hW1] at HI1 ⊢
        clear hW1
        obtain ⟨gs, hgs⟩ : ∃ g, W1.heap.size = g := ⟨_, rfl⟩
        have HA2 : Hid (At (W1.alloc (.cells (zs.map Value.string).toArray 9)) gs (zs.map Value.string)) := by rw [← hgs]; exact At.new W1 _ _
        have HI2 := Lib.hid (HI1.out.alloc (.cells (zs.map Value.string).toArray 9))
        have HG2 : Hid (zv.ownBlock ≠ some gs) := fun e => by
          have := HI1.out.own.lt gs e
          omega
        go_wp2_with fail
        obtain ⟨W2, hW2⟩ : ∃ W, W1.alloc (.cells (zs.map Value.string).toArray 9) = W := ⟨_, rfl⟩
        rw [hW2] at HI2 HA2 ⊢
        have hgs3 : w.heap.size + 1 + 1 < gs := by have := HI1.out.e.lt; omega
        clear hW2 hgs
        go_loopw [37] (fun i wx => ∃ k : Nat, k ≤ n ∧ i = .int .i64 (k : Int) ∧ ∃ zx, Hid (Mk.EI w tok key terr (zs.take k) zx wx) ∧ Hid (At wx gs (zs.map Value.string)) ∧ Hid (zx.ownBlock ≠ some gs)) (fun i _ => n - (intOf i).toNat)
        case atStart => exact ⟨0, Nat.zero_le _, rfl, _, HI2.out, HA2.out, HG2.out⟩
        case round =>
          obtain ⟨k, hk, rfl, zx, HIx, HAx, HGx⟩ := hrel
          by_cases hkn : k < n
          · obtain ⟨z, hz⟩ : ∃ z, zs[k]? = some z := ⟨_, List.getElem?_eq_getElem (by rw [HN.out]; exact hkn)⟩
            have hzc := HAx.out.cell k (.string z) (by rw [List.getElem?_map, hz]; rfl)
            have hzl := HAx.out.lt
            have g1 : (z.toList == []) = false := Mk.not_list (HZ0.out z (List.mem_of_getElem? hz))
            have hzc0 : wr.cell? ⟨gs, 0 + k, none⟩ = some (.string z) := by rw [Nat.zero_add]; exact hzc
            have t3 : (0 : Int) ≤ (k : Int) := by omega
            have t4 : (k : Int) < (n : Int) := by omega
            have hO : wr.ownsRow w.heap.size 9 1 zx k ((zs.take k).map Value.string) := by
              have h := HIx.out.own
              rw [List.length_take, Nat.min_eq_left (by rw [HN.out]; omega)] at h
              exact h
            have HTk : Hid (zs.take (k + 1) = zs.take k ++ [z]) := by
              show _ = _
              rw [List.take_add_one, hz]
              rfl
            have hkl : k ≤ 2000000 := by omega
            have hsz1 := HIx.out.bel.size
            have ce := HIx.out.e.cell 2 _ rfl
            have fe := HIx.out.e.free 2 _ rfl
            have ze := HIx.out.e.lt
            clear hz
            go_wp2_with (at_builtin; refine name_append wr w.heap.size k _ zx z 44 46 hO hkl hsz1 rfl rfl rfl rfl ?_; intro v9 w9 hown9 hb9 hat9 hg9; obtain ⟨g9, cp9, rfl, _, _⟩ := hown9.form (Nat.succ_pos k); have a2 := (hat9 _ _ HIx.out.e HIx.out.n2).1; have ce9 := a2.cell 2 _ rfl; have fe9 := a2.free 2 _ rfl; have ze9 := a2.lt; clear ce fe ze a2)
            have HA9 := Lib.hid (hat9 _ _ HAx.out HGx.out)
            have HI9 : Hid (Mk.EI w tok key terr (zs.take (k + 1)) (.slice (some ⟨g9, 0, none⟩) (k + 1) cp9) (w9.setCell ⟨w.heap.size + 1 + 1, 2, none⟩ (.slice (some ⟨g9, 0, none⟩) (k + 1) cp9))) := by
              show Mk.EI _ _ _ _ _ _ _
              rw [HTk.out]
              refine HIx.out.push hat9 ?_ hb9
              rw [List.length_take, Nat.min_eq_left (by rw [HN.out]; omega)]
              exact hown9
            go_roundw
            case rel => exact ⟨k + 1, by omega, by go_num, _, HI9.out, HA9.out.1.set_other _ _ (by show w.heap.size + 1 + 1 ≠ gs; omega), HA9.out.2⟩
            case measure => simp [intOf]; omega
          · obtain rfl : n = k := by omega
            have t4 : ¬ (n : Int) < (n : Int) := by omega
            have HIe : Hid (Mk.EI w tok key terr zs zx wr) := by
              have h := HIx.out
              rw [List.take_of_length_le (by rw [HN.out]; omega)] at h
              exact h
            go_wp2
            go_roundw
            case rel =>
              have h0 := H0.out
              subst h0
              exact ⟨3, by omega, rfl, rfl, rfl, by go_num, _, HIe.out⟩
            case measure => simp [intOf]; omega
    · obtain rfl : 3 = j := by omega
      have HIe : Hid (Mk.EI w tok key terr zs zv wr) := HI
      clear HI
      have hO := HIe.out.own
      rw [HN.out] at hO
      obtain ⟨g9, cp9, rfl, _, _⟩ := hO.form hn0
      have HO := Lib.hid hO
      have HBl := Lib.hid HIe.out.bel
      have HN1 := Lib.hid HIe.out.n1
      have e0 := HIe.out.e.cell 0 _ rfl
      have e1 := HIe.out.e.cell 1 _ rfl
      have e2 := HIe.out.e.cell 2 _ rfl
      have r0 := HIe.out.r.cell 0 _ rfl
      have r1 := HIe.out.r.cell 1 _ rfl
      have r2 := HIe.out.r.cell 2 _ rfl
      have f0 := HIe.out.r.free 0 _ rfl
      have f1 := HIe.out.r.free 1 _ rfl
      have f2 := HIe.out.r.free 2 _ rfl
      have ze := HIe.out.e.lt
      have zr := HIe.out.r.lt
      clear hO
      go_wp2
      refine bodyPost_ret (v := .tuple #[.agg #[.string key, .string terr, .slice (some ⟨g9, 0, none⟩) n cp9], .bool true]) (by simp [results, Tryd.results18, go_sem, *]) rfl ⟨⟨_, rfl, ?_⟩, ?_⟩
      · rw [HN.out]
        exact ownsRow_setCell_other (ownsRow_setCell_other (ownsRow_setCell_other HO.out (a := ⟨w.heap.size + 1, 0, none⟩) HN1.out _) (a := ⟨w.heap.size + 1, 1, none⟩) HN1.out _) (a := ⟨w.heap.size + 1, 2, none⟩) HN1.out _
      · exact ((HBl.out.setCell (p := ⟨w.heap.size + 1, 0, none⟩) (Nat.le_succ _) _).setCell (p := ⟨w.heap.size + 1, 1, none⟩) (Nat.le_succ _) _).setCell (p := ⟨w.heap.size + 1, 2, none⟩) (Nat.le_succ _) _
end Go.Proofs.YthmhadgbhakdlaaDoor

/- chart.Parse: what it keeps of the entries so far. -/
namespace Go.Proofs.YthmhadgbhakdlaaDoor
open Go.RowKit

namespace Mk
/-- The entries so far: a row of their own, each one's zones in a row apart from it. -/
structure PI (w : World) (l : List Ca.E) (lv : Value) (evs : List Value) (wr : World) : Prop where
  own : wr.ownsRow w.heap.size 49 3 lv l.length ((l.zip evs).flatMap Ca.ec)
  len : evs.length = l.length
  zns : ∀ p ∈ l.zip evs, wr.ownsRow w.heap.size 9 1 p.2 p.1.zones.length (p.1.zones.map Value.string)
  apart : ∀ v ∈ evs, ∀ g, v.ownBlock = some g → lv.ownBlock ≠ some g
  bel : Below w.heap.size w wr
section
variable {w wr w' : World} {l : List Ca.E} {lv : Value} {evs : List Value}
theorem PI.nil (w : World) : PI w [] (.slice none 0 0) [] w := ⟨World.ownsRow_nil _ _ _ _, rfl, (fun p hp => by cases hp), (fun v hv => by cases hv), Below.refl _ _⟩
theorem PI.call (h : PI w l lv evs wr) (hb : Below wr.heap.size wr w') : PI w l lv evs w' :=
  ⟨own_below h.own hb, h.len, fun p hp => own_below (h.zns p hp) hb, h.apart, below_then h.bel hb⟩
theorem PI.zip (h : PI w l lv evs wr) {v : Value} (hv : v ∈ evs) : ∃ e, (e, v) ∈ l.zip evs := by
  obtain ⟨k, hk, rfl⟩ := List.mem_iff_getElem.1 hv
  have hl : k < l.length := by rw [← h.len]; exact hk
  exact ⟨l[k], List.mem_of_getElem? (i := k) (by rw [List.getElem?_zip_eq_some]; exact ⟨List.getElem?_eq_getElem hl, List.getElem?_eq_getElem hk⟩)⟩
theorem PI.push {e : Ca.E} {v lv' : Value} (h : PI w l lv evs wr) (hv : wr.ownsRow w.heap.size 9 1 v e.zones.length (e.zones.map Value.string)) (hva : ∀ g, v.ownBlock = some g → lv.ownBlock ≠ some g) (hg : wr.grownBy w' lv.ownBlock)
    (ho : w'.ownsRow w.heap.size 49 3 lv' (l.length + 1) ((l.zip evs).flatMap Ca.ec ++ Ca.ec (e, v))) (hnew : ∀ g, g < wr.heap.size → lv.ownBlock ≠ some g → lv'.ownBlock ≠ some g) (hb : Below w.heap.size w w') : PI w (l ++ [e]) lv' (evs ++ [v]) w' := by
  have hz : (l ++ [e]).zip (evs ++ [v]) = l.zip evs ++ [(e, v)] := by rw [List.zip_append h.len.symm]; rfl
  refine ⟨?_, by rw [List.length_append, List.length_append, h.len]; rfl, ?_, ?_, hb⟩
  · rw [hz, List.flatMap_append, List.length_append]
    rw [show [(e, v)].flatMap Ca.ec = Ca.ec (e, v) by rw [List.flatMap_cons, List.flatMap_nil, List.append_nil]]
    exact ho
  · intro p hp
    rw [hz] at hp
    rcases List.mem_append.1 hp with hp | hp
    · refine (h.zns p hp).kept hg ?_
      cases hq : p.2.ownBlock with
      | none => exact .inl rfl
      | some g => exact .inr fun q => h.apart p.2 (List.of_mem_zip hp).2 g hq q.symm
    · obtain rfl := List.mem_singleton.1 hp
      refine hv.kept hg ?_
      cases hq : v.ownBlock with
      | none => exact .inl rfl
      | some g => exact .inr fun q => hva g hq q.symm
  · intro u hu g hq
    rcases List.mem_append.1 hu with hu | hu
    · obtain ⟨x, hx⟩ := h.zip hu
      exact hnew g ((h.zns _ hx).lt g hq).2 (h.apart u hu g hq)
    · obtain rfl := List.mem_singleton.1 hu
      exact hnew g (hv.lt g hq).2 (hva g hq)
end
end Mk
end Go.Proofs.YthmhadgbhakdlaaDoor

/- top 16: what a chart's text within another element is read as. -/
namespace Go.Proofs.YthmhadgbhakdlaaDoor
open Go.RowKit

namespace Mk
/-- One piece more, behind a text that has no '<'. -/
theorem thr_round {f p : Nat} {pre tag rest : Txt} {st st1 st2 : S} {x : Txt} (h60 : (60 : UInt8) ∉ pre) (ht : tag ++ rest = 60 :: x) (he : pieceEnd (tag ++ rest) = some tag.length) (hb : between pre p st = .inr st1) (hp : piece tag (p + pre.length) st1 = .inr st2) :
    thr (f + 1) (pre ++ (tag ++ rest)) p st = thr f rest (p + pre.length + tag.length) st2 := by
  have h1 : bef 60 (pre ++ (tag ++ rest)) = pre := by rw [ht, bef_app h60, bef_hit, List.append_nil]
  have h2 : aft 60 (pre ++ (tag ++ rest)) = tag ++ rest := by rw [ht, aft_app h60, aft_hit]
  rw [thr, h1, hb]
  simp only
  rw [h2, if_neg (by rw [ht]; simp), he]
  simp only
  rw [List.take_left, hp]
  simp only
  rw [List.drop_left]
def txt (l : Txt) (p : Nat) : List T := if l = [] then [] else [⟨3, [], [], l, p⟩]
theorem between_esc (l : Txt) {p : Nat} {T : List T} {op : List Txt} {ro : Bool} (ho : op ≠ []) : between (esc l) p ⟨T, op, ro⟩ = .inr ⟨T ++ txt l p, op, ro⟩ := by
  unfold between txt
  rw [if_neg ho]
  by_cases h0 : l = []
  · rw [if_pos ((esc_nil l).2 h0), if_pos h0, List.append_nil]
  · rw [if_neg (fun q => h0 ((esc_nil l).1 q)), resolve_esc, if_neg (by simp), if_neg h0]
def aIn (v : Txt) : Txt := [97] ++ 32 :: attrT [98] v []
def aTag (v : Txt) : Txt := 60 :: (aIn v ++ [62])
theorem n_a : IsName [97] := ⟨by decide, by decide⟩
theorem n_b : IsName [98] := ⟨by decide, by decide⟩
theorem read_a {v : Txt} (hv : Clean v) : readTag (aIn v) = some ⟨[97], [([98], v)], true, false⟩ := by
  have hc : cutN (aIn v) = ([97], 32 :: attrT [98] v []) := cut_name n_a (fun b hb => by cases hb; rfl)
  have hno : ∀ r, aIn v ≠ 47 :: r := fun r e => by
    have := congrArg List.head? e
    cases this
  obtain ⟨f, hf⟩ : ∃ f, (aIn v).length + 1 = f + 1 + 1 := ⟨(aIn v).length - 1, by unfold aIn; simp⟩
  rw [rt_go hno (by rw [hc]; intro h; cases h), hc, hf]
  simp only
  rw [tg_attr n_b hv.1 hv.2]
  exact tg_end rfl
theorem end_a {v : Txt} (r : Txt) (hv : Clean v) : pieceEnd (aTag v ++ r) = some (aTag v).length := by
  have h : pieceEnd (aTag v ++ r) = scanQ none 1 (aIn v ++ 62 :: r) := by
    unfold pieceEnd aTag
    rw [if_neg (by simp [comm, aIn, List.isPrefixOf]), if_neg (by simp [note, aIn, List.isPrefixOf])]
    simp
  have hq : ∀ nm v a b : Txt, attrT nm v a ++ b = attrT nm v (a ++ b) := fun nm v a b => by unfold attrT; simp
  rw [h]
  unfold aIn
  rw [List.append_assoc, scan_plain [97] _ _ (by decide), List.cons_append, hq, scan_blank, scan_attr (by decide) hv.1]
  rw [List.nil_append, scanQ, if_neg (by decide), if_pos rfl]
  unfold aTag aIn attrT
  simp only [List.length_append, List.length_cons, List.length_nil]
  congr 1
  omega
theorem piece_a (m : Txt) (p : Nat) : piece (aTag (esc m)) p start = .inr ⟨[⟨1, [97], [([98], m)], [], p⟩], [[97]], true⟩ := by
  have hi : ((aTag (esc m)).drop 1).take ((aTag (esc m)).length - 2) = aIn (esc m) := by
    unfold aTag
    rw [List.drop_one, List.tail_cons, List.length_cons, List.length_append]
    simp
  have be : begin_ ⟨[97], [([98], esc m)], true, false⟩ p start = .inr ⟨[⟨1, [97], [([98], m)], [], p⟩], [[97]], true⟩ := by
    have hr := resolve_esc m
    unfold begin_ start
    rw [if_neg (by simp), if_neg (by simp), if_neg (by simp [twice])]
    simp only [resAll, hr, ne_eq, not_true_eq_false, if_false, List.nil_append]
  unfold piece
  rw [if_neg (show ¬ comm.isPrefixOf (aTag (esc m)) = true by simp [aTag, comm, aIn, List.isPrefixOf]), if_neg (show ¬ note.isPrefixOf (aTag (esc m)) = true by simp [aTag, note, aIn, List.isPrefixOf]), hi, read_a (clean_esc m)]
  simp only [if_true, be]
  rfl
theorem piece_map2 {e : En} (h : EnOk e) (p : Nat) (T : List T) : piece (enTag e) p ⟨T, [[97], CHART], true⟩ = .inr ⟨T ++ [⟨1, MAP, enAts e, [], p⟩, ⟨2, MAP, [], [], p⟩], [[97], CHART], true⟩ := by
  have hr : readTag (((enTag e).drop 1).take ((enTag e).length - 2)) = some ⟨MAP, [(KEY, esc e.1), (TERR, e.2.1), (ZONES, e.2.2)], true, true⟩ := by
    unfold enTag
    rw [tag_in]
    exact read_map (clean_esc _) h.t.1 h.z.1
  have hb : begin_ ⟨MAP, [(KEY, esc e.1), (TERR, e.2.1), (ZONES, e.2.2)], true, true⟩ p ⟨T, [[97], CHART], true⟩ = .inr ⟨T ++ [⟨1, MAP, enAts e, [], p⟩], [[97], CHART, MAP], true⟩ := by
    unfold begin_
    rw [if_neg (by rintro ⟨_, h⟩; cases h), if_neg (by simp), if_neg (by simp [twice, KEY, TERR, ZONES]), resAll_en h]
    rfl
  unfold piece
  rw [if_neg (show ¬ comm.isPrefixOf (enTag e) = true by simp [enTag, mapTag, comm, mapIn, MAP, List.isPrefixOf]), if_neg (show ¬ note.isPrefixOf (enTag e) = true by simp [enTag, mapTag, note, mapIn, MAP, List.isPrefixOf]), hr]
  simp only [if_true]
  rw [hb]
  simp only
  unfold finish
  rw [if_pos (show ([[97], CHART, MAP] : List Txt).getLast? = some MAP from rfl)]
  simp
/-- The lines of the entries, and their parts. -/
def lineT : List En → Txt
  | [] => []
  | e :: l => [10, 32, 32] ++ (enTag e ++ lineT l)
def lineP : Nat → List En → List T
  | _, [] => []
  | p, e :: l => ⟨3, [], [], [10, 32, 32], p⟩ :: ⟨1, MAP, enAts e, [], p + 3⟩ :: ⟨2, MAP, [], [], p + 3⟩ :: lineP (p + 3 + (enTag e).length) l
theorem body_lineT : ∀ l : List En, body l = lineT l ++ [10, 60, 47, 99, 104, 97, 114, 116, 62, 10]
  | [] => rfl
  | e :: l => by rw [body, lineT, body_lineT l]; simp
theorem thr_lines : ∀ (l : List En) (f p : Nat) (T : List T) (r : Txt), (∀ e ∈ l, EnOk e) → thr (f + l.length) (lineT l ++ r) p ⟨T, [[97], CHART], true⟩ = thr f r (p + (lineT l).length) ⟨T ++ lineP p l, [[97], CHART], true⟩
  | [], f, p, T, r, _ => by rw [lineP, List.append_nil]; rfl
  | e :: l, f, p, T, r, he => by
    have hok := he e List.mem_cons_self
    have hb : between [10, 32, 32] p ⟨T, [[97], CHART], true⟩ = .inr ⟨T ++ [⟨3, [], [], [10, 32, 32], p⟩], [[97], CHART], true⟩ := between_open (by simp) (by simp) (by decide)
    obtain ⟨x, hx⟩ := tag_head (esc e.1) e.2.1 e.2.2 (lineT l ++ r)
    have hx2 : enTag e ++ (lineT l ++ r) = 60 :: x := hx
    have h3 : pieceEnd (enTag e ++ (lineT l ++ r)) = some (enTag e).length := end_map _ (clean_esc _) hok.t.1 hok.z.1
    rw [show f + (e :: l).length = f + l.length + 1 from rfl, show lineT (e :: l) ++ r = [10, 32, 32] ++ (enTag e ++ (lineT l ++ r)) by rw [lineT, List.append_assoc, List.append_assoc],
      thr_round (by decide) hx2 h3 hb (piece_map2 hok _ _), thr_lines l _ _ _ _ (fun y hy => he y (List.mem_cons_of_mem _ hy))]
    rw [show lineP p (e :: l) = [⟨3, [], [], [10, 32, 32], p⟩] ++ [⟨1, MAP, enAts e, [], p + 3⟩, ⟨2, MAP, [], [], p + 3⟩] ++ lineP (p + 3 + (enTag e).length) l from rfl, show lineT (e :: l) = [10, 32, 32] ++ (enTag e ++ lineT l) from rfl]
    simp only [List.length_append, List.length_cons, List.length_nil, List.append_assoc]
    congr 1
    omega
def mapsOf (T : List T) : List (List (Txt × Txt)) := T.filterMap fun t => if t.kind = 1 ∧ t.name = MAP then some t.attrs else none
theorem mapsOf_app (a b : List T) : mapsOf (a ++ b) = mapsOf a ++ mapsOf b := List.filterMap_append
theorem mapsOf_txt (l : Txt) (p : Nat) : mapsOf (txt l p) = [] := by
  unfold txt
  split
  · rfl
  · rfl
theorem mapsOf_lineP : ∀ (l : List En) (p : Nat), mapsOf (lineP p l) = l.map enAts
  | [], _ => rfl
  | e :: l, p => by
    have h := mapsOf_lineP l (p + 3 + (enTag e).length)
    rw [show lineP p (e :: l) = [⟨3, [], [], [10, 32, 32], p⟩, ⟨1, MAP, enAts e, [], p + 3⟩, ⟨2, MAP, [], [], p + 3⟩] ++ lineP (p + 3 + (enTag e).length) l from rfl, mapsOf_app, h]
    rfl
/-- A note, a comment, an element with a text, the chart, another element and the text again. -/
def wrapC (v : Txt) (l : List En) : Txt :=
  [] ++ ([60, 63, 120, 63, 62] ++ ([] ++ ([60, 33, 45, 45, 32, 121, 32, 45, 45, 62] ++ ([10] ++ (aTag v ++ (v ++ ([60, 99, 104, 97, 114, 116, 62] ++ (lineT l ++ ([10] ++ ([60, 47, 99, 104, 97, 114, 116, 62] ++ ([10] ++ ([60, 109, 97, 112, 115, 32, 107, 101, 121, 61, 39, 39, 47, 62] ++ (v ++ ([60, 47, 97, 62] ++ []))))))))))))))
theorem tokens_wrapC (m : Txt) (l : List En) (h : ∀ e ∈ l, EnOk e) : ∃ T, tokens (wrapC (esc m) l) = .inr ⟨T, [], true⟩ ∧ mapsOf T = l.map enAts := by
  have hen : ∀ l : List En, l.length ≤ (lineT l).length := fun l => by
    induction l with
    | nil => exact Nat.le_refl _
    | cons e l ih => rw [lineT]; simp only [List.length_append, List.length_cons, List.length_nil]; omega
  obtain ⟨f, hf⟩ : ∃ f, (wrapC (esc m) l).length + 1 = f + 4 + l.length + 4 := by
    have := hen l
    refine ⟨(wrapC (esc m) l).length + 1 - 8 - l.length, ?_⟩
    unfold wrapC
    simp only [List.length_append, List.length_cons, List.length_nil]
    omega
  have n60 := (esc_not m).1
  have pe1 : ∀ r, pieceEnd ([60, 63, 120, 63, 62] ++ r) = some 5 := fun r => by
    unfold pieceEnd
    rw [if_neg (show ¬ comm.isPrefixOf ([60, 63, 120, 63, 62] ++ r) = true by simp [comm, List.isPrefixOf]), if_pos (show note.isPrefixOf ([60, 63, 120, 63, 62] ++ r) = true from rfl), show (([60, 63, 120, 63, 62] : Txt) ++ r).drop 2 = ([120, 63, 62] : Txt) ++ r from rfl, idx_app r (show idxOf [120, 63, 62] noteEnd = some 1 from rfl)]
    rfl
  have pe2 : ∀ r, pieceEnd ([60, 33, 45, 45, 32, 121, 32, 45, 45, 62] ++ r) = some 10 := fun r => by
    unfold pieceEnd
    rw [if_pos (show comm.isPrefixOf ([60, 33, 45, 45, 32, 121, 32, 45, 45, 62] ++ r) = true from rfl), show (([60, 33, 45, 45, 32, 121, 32, 45, 45, 62] : Txt) ++ r).drop 4 = ([32, 121, 32, 45, 45, 62] : Txt) ++ r from rfl, idx_app r (show idxOf [32, 121, 32, 45, 45, 62] commEnd = some 3 from rfl)]
    rfl
  have pch : ∀ p T, piece [60, 99, 104, 97, 114, 116, 62] p ⟨T, [[97]], true⟩ = .inr ⟨T ++ [⟨1, CHART, [], [], p⟩], [[97], CHART], true⟩ := fun _ _ => rfl
  have pcl : ∀ p T, piece [60, 47, 99, 104, 97, 114, 116, 62] p ⟨T, [[97], CHART], true⟩ = .inr ⟨T ++ [⟨2, CHART, [], [], p⟩], [[97]], true⟩ := fun _ _ => rfl
  have pms : ∀ p T, piece [60, 109, 97, 112, 115, 32, 107, 101, 121, 61, 39, 39, 47, 62] p ⟨T, [[97]], true⟩ = .inr ⟨T ++ [⟨1, [109, 97, 112, 115], [(KEY, [])], [], p⟩] ++ [⟨2, [109, 97, 112, 115], [], [], p⟩], [[97]], true⟩ := fun _ _ => rfl
  have pae : ∀ p T, piece [60, 47, 97, 62] p ⟨T, [[97]], true⟩ = .inr ⟨T ++ [⟨2, [97], [], [], p⟩], [], true⟩ := fun _ _ => rfl
  have pend : ∀ g p T, thr (g + 1) [] p ⟨T, [], true⟩ = .inr ⟨T, [], true⟩ := fun _ _ _ => rfl
  unfold tokens
  rw [hf]
  unfold wrapC
  rw [thr_round (st1 := start) (st2 := start) (by simp) rfl (pe1 _) rfl rfl,
    thr_round (st1 := start) (st2 := start) (by simp) rfl (pe2 _) rfl rfl,
    thr_round (st1 := start) (by decide) rfl (end_a _ (clean_esc m)) rfl (piece_a m _)]
  rw [thr_round n60 rfl rfl (between_esc m (by simp)) (pch _ _), show f + 4 + l.length = (f + 4) + l.length from rfl]
  rw [thr_lines l _ _ _ _ h]
  rw [thr_round (by decide) rfl rfl (between_open (by simp) (by simp) (by decide)) (pcl _ _)]
  rw [thr_round (by decide) rfl rfl (between_open (by simp) (by simp) (by decide)) (pms _ _)]
  rw [thr_round n60 rfl rfl (between_esc m (by simp)) (pae _ _), pend]
  refine ⟨_, rfl, ?_⟩
  have k1 : ∀ a p, mapsOf [⟨1, [97], a, [], p⟩] = [] := fun _ _ => rfl
  have k2 : ∀ p, mapsOf [⟨1, CHART, [], [], p⟩] = [] := fun _ => rfl
  have k3 : ∀ a p, mapsOf [⟨1, [109, 97, 112, 115], a, [], p⟩] = [] := fun _ _ => rfl
  have k4 : ∀ nm p, mapsOf [⟨2, nm, [], [], p⟩] = [] := fun _ _ => rfl
  have k5 : ∀ x p, mapsOf [⟨3, [], [], x, p⟩] = [] := fun _ _ => rfl
  simp only [mapsOf_app, mapsOf_txt, mapsOf_lineP, k1, k2, k3, k4, k5, List.nil_append, List.append_nil]
end Mk
end Go.Proofs.YthmhadgbhakdlaaDoor
