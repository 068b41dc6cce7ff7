/- emit.Value: a value's lines. -/
import Derived.Test.YteacncdpjbcinaaDoorEmWrite
import Derived.Test.YteacncdpjbcinaaDoorHvCheck
namespace Go.Proofs.YteacncdpjbcinaaDoor
open Go.RowKit

/-- What the world says: no text is longer than may be, and the library's table. -/
structure Wg (w : World) : Prop where
  l : Wl w
  h : Wh w
theorem Wg.below {w w' : World} (h : Wg w) (hb : Below w.heap.size w w') : Wg w' := ⟨h.l.below hb, h.h.below hb⟩
theorem Wh.lt {w : World} (h : Wh w) : 3 < w.heap.size := block_lt_of_cell h.t
theorem write_any (g : Nat) (L : Em.Txt) (nm : ByteArray) (kd : Int) (tx : ByteArray) (nu : Int) (by_ : ByteArray) (hv : Hv.valB ⟨nm, kd, tx, nu, by_⟩ = true) (ho : Hv.V.Ok ⟨nm, kd, tx, nu, by_⟩) (w : World) (hI : Em.IsB w g L) (hL : L.length ≤ 10000000000000) (hW : Wh w) (hgt : 3 < g) :
    Calls Tryd.prog 15 #[.pointer (some ⟨g, 0, none⟩), .agg #[.string nm, .int .u8 kd, .string tx, .int .u32 nu, .string by_]] w fun e w' => e = .returned (.tuple #[]) ∧ Em.IsB w' g (L ++ Em.val ⟨nm, kd, tx, nu, by_⟩) ∧ Below g w w' := by
  obtain ⟨h1, h2, h3, h4, _⟩ := Em.val_small hv
  simp only at h1 h2 h3 h4
  rcases h4 with rfl | rfl | rfl
  · exact write_text g L nm tx by_ nu h1 h2 h3 w hI hL
  · obtain ⟨n, rfl⟩ : ∃ n : Nat, nu = (n : Int) := ⟨nu.toNat, by have := ho.n0; simp only at this; omega⟩
    exact write_num g L nm tx by_ n (by have := ho.n1; simp only at this; omega) h1 h2 h3 w hW hgt hI hL
  · exact write_bytes g L nm tx by_ nu h1 h2 h3 w hI hL
set_option maxHeartbeats 4000000 in
set_option maxRecDepth 100000 in
theorem emValue_any (nm : ByteArray) (kd : Int) (tx : ByteArray) (nu : Int) (by_ : ByteArray) (ho : Hv.V.Ok ⟨nm, kd, tx, nu, by_⟩) (w : World) (hW : Wg w) :
    Calls Tryd.prog 9 #[.agg #[.string nm, .int .u8 kd, .string tx, .int .u32 nu, .string by_]] w fun e w' => e = .returned (if Hv.valB ⟨nm, kd, tx, nu, by_⟩ = true then .tuple #[.string (Em.bts (Em.val ⟨nm, kd, tx, nu, by_⟩)), .int .i64 0] else .tuple #[.string ⟨#[]⟩, .int .i64 2]) ∧ Below w.heap.size w w' := by
  have HC := Lib.hid fun W => hvValue_any ⟨nm, kd, tx, nu, by_⟩ ho W
  obtain ⟨X, hX⟩ : ∃ X : Value, (if Hv.valB ⟨nm, kd, tx, nu, by_⟩ = true then Value.tuple #[.string (Em.bts (Em.val ⟨nm, kd, tx, nu, by_⟩)), .int .i64 0] else .tuple #[.string ⟨#[]⟩, .int .i64 2]) = X := ⟨_, rfl⟩
  rw [hX]
  obtain ⟨W1, hW1⟩ : ∃ W, w.alloc (.cells #[.string nm, .int .u8 kd, .string tx, .int .u32 nu, .string by_] 28) = W := ⟨_, rfl⟩
  have hA1 : At W1 w.heap.size [.string nm, .int .u8 kd, .string tx, .int .u32 nu, .string by_] := by rw [← hW1]; exact At.new _ _ _
  have hB1 : Below w.heap.size w W1 := by rw [← hW1]; exact Hv.bl1 _ _
  have HA1 := Lib.hid hA1
  have HB1 := Lib.hid hB1
  have HW1 := Lib.hid hW1
  have HW := Lib.hid hW
  have HO := Lib.hid ho
  clear hA1 hB1 hW1 hW ho
  cases hv : Hv.valB ⟨nm, kd, tx, nu, by_⟩ with
  | false =>
    rw [hv] at hX HC
    have HE := Lib.hid hX
    clear hX hv
    go_enter Tryd.func9, Tryd.ntmps9
    go_wp2_with fail
    rw [HW1.out]
    refine (HC.out _).mono ?_
    rintro e w2 ⟨rfl, hb⟩
    have HB2 := Lib.hid (below_then HB1.out hb)
    clear hb
    go_wp2
    go_ret2
    exact ⟨by rw [← HE.out]; rfl, HB2.out⟩
  | true =>
    have hl2 := Em.val_len2 hv
    rw [hv] at hX HC
    have HE := Lib.hid hX
    have HV := Lib.hid hv
    have HLn := Lib.hid hl2
    clear hX hv hl2
    go_enter Tryd.func9, Tryd.ntmps9
    go_wp2_with fail
    rw [HW1.out]
    refine (HC.out _).mono ?_
    rintro e w2 ⟨rfl, hb⟩
    have HB2 := Lib.hid (below_then HB1.out hb)
    have hA2 := HA1.out.call hb
    have hhl := hA2.lt
    have c0 := hA2.cell 0 _ rfl
    have c1 := hA2.cell 1 _ rfl
    have c2 := hA2.cell 2 _ rfl
    have c3 := hA2.cell 3 _ rfl
    have c4 := hA2.cell 4 _ rfl
    obtain ⟨g, hg⟩ : ∃ g, w2.heap.size = g := ⟨_, rfl⟩
    obtain ⟨W3, hW3⟩ : ∃ W, w2.alloc (.cells #[.pointer none, .slice none 0 0] 45) = W := ⟨_, rfl⟩
    have hI3 : Em.IsB W3 g [] := by rw [← hW3, ← hg]; exact Lib.IsBuilderF.of (Lib.fresh_isBuilder _ _ w2)
    have hB3 : Below w.heap.size w W3 := by rw [← hW3]; exact Hv.bl HB2.out _
    have HG := Lib.hid hg
    have HW3 := Lib.hid hW3
    have HI3 := Lib.hid hI3
    have HB3 := Lib.hid hB3
    have HGw : Hid (w.heap.size ≤ g) := by show _ ≤ _; rw [← hg]; exact HB2.out.size
    clear hb hA2 hg hW3 hI3 hB3
    go_wp2_with fail
    rw [HW3.out, HG.out]
    refine (write_any g [] nm kd tx nu by_ HV.out HO.out W3 HI3.out (by simp) (HW.out.below HB3.out).h (by have := HW.out.h.lt; have := HGw.out; omega)).mono ?_
    rintro e w4 ⟨rfl, hI, hb⟩
    have HI4 := Lib.hid hI
    have HB4 := Lib.hid (HB3.out.trans (hb.mono HGw.out))
    clear hI hb c0 c1 c2 c3 c4 hhl
    go_wp2_with fail
    refine (Tryd.Builder_String_any_k g g _ w4 HI4.out (Nat.le_of_lt HI4.out.lt)).mono ?_
    rintro e w5 ⟨rfl, _, hb, _⟩
    have HB5 := Lib.hid (HB4.out.trans (hb.mono HGw.out))
    clear hb
    go_wp2
    go_ret2
    exact ⟨by rw [← HE.out]; rfl, HB5.out⟩
end Go.Proofs.YteacncdpjbcinaaDoor
