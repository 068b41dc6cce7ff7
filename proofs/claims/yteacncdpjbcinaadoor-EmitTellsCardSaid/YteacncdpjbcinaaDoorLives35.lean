/- What the law of layer 35 asks first: answers that the document gives. -/
import Derived.Test.YteacncdpjbcinaaDoorEmText
namespace Go.Proofs.YteacncdpjbcinaaDoor
open Go.RowKit

namespace Em
theorem reads_of_at {w : World} {g size n : Nat} {xs : List Value} (h : At w g xs) (hl : xs.length = n * size) : Reads w w.heap.size size (some ⟨g, 0, none⟩) n xs := by
  refine ⟨hl, fun _ => ⟨_, rfl, h.lt, fun j u hu => ?_⟩⟩
  have e : (⟨g, 0, none⟩ : Addr).add j = ⟨g, j, none⟩ := by
    unfold Addr.add
    split
    · subst_vars; rfl
    · simp
  rw [e]
  exact h.cell j u hu
def lv : List Hv.K := [⟨⟨#[90, 92, 75]⟩, [⟨⟨#[97, 34]⟩, 1, ⟨#[120, 92]⟩, 0, ⟨#[]⟩⟩, ⟨⟨#[98]⟩, 2, ⟨#[]⟩, 2007, ⟨#[]⟩⟩]⟩, ⟨⟨#[89]⟩, []⟩]
def lvc : Hv.V := ⟨⟨#[99]⟩, 3, ⟨#[]⟩, 0, ⟨#[0, 1, 2, 3, 4, 5, 6, 7, 8, 9, 10, 11, 12, 13, 14, 15, 16, 17, 18, 19, 255]⟩⟩
def lvt : ByteArray := bts (text lv)
def lvx : ByteArray := bts (val lvc)
theorem lv_ok : ∀ k ∈ lv, k.Ok := by
  have hv : ∀ v : Hv.V, v.name.size ≤ 9 → v.text.size ≤ 9 → v.bytes.size ≤ 9 → 0 ≤ v.kind → v.kind ≤ 9 → 0 ≤ v.num → v.num ≤ 9999 → v.Ok := fun v a b c d e f g => ⟨by unfold maxLen; omega, by unfold maxLen; omega, by unfold maxLen; omega, d, by omega, f, by omega⟩
  intro k hk
  rcases List.mem_cons.1 hk with rfl | hk
  · refine ⟨by decide +kernel, fun v hv2 => ?_⟩
    rcases List.mem_cons.1 hv2 with rfl | hv2
    · exact hv _ (by decide +kernel) (by decide +kernel) (by decide +kernel) (by decide +kernel) (by decide +kernel) (by decide +kernel) (by decide +kernel)
    · rw [List.mem_singleton.1 hv2]
      exact hv _ (by decide +kernel) (by decide +kernel) (by decide +kernel) (by decide +kernel) (by decide +kernel) (by decide +kernel) (by decide +kernel)
  · rw [List.mem_singleton.1 hk]
    exact ⟨by decide +kernel, fun v hv2 => by cases hv2⟩
theorem lvc_ok : lvc.Ok := ⟨by decide +kernel, by decide +kernel, by decide +kernel, by decide +kernel, by decide +kernel, by decide +kernel, by decide +kernel⟩
theorem lv_right : Hv.hiveB lv = true := by decide +kernel
theorem lvc_right : Hv.valB lvc = true := by decide +kernel
theorem lvz_right : Hv.valB ⟨⟨#[]⟩, 0, ⟨#[]⟩, 0, ⟨#[]⟩⟩ = false := by decide +kernel
theorem lve_right : Hv.hiveB [⟨⟨#[]⟩, []⟩] = false := by decide +kernel
theorem lvt_is : (lvt.toList == [82, 69, 71, 73, 83, 84, 69, 82, 32, 49, 10, 10, 91, 90, 92, 75, 93, 10, 34, 97, 92, 34, 34, 61, 34, 120, 92, 92, 34, 10, 34, 98, 34, 61, 110, 117, 109, 98, 101, 114, 58, 48, 48, 48, 48, 48, 55, 100, 55, 10, 10, 91, 89, 93, 10]) = true := by
  rw [ByteArray.toList_eq]
  decide +kernel
theorem lvx_is : (lvx.toList == [34, 99, 34, 61, 98, 121, 116, 101, 115, 58, 48, 48, 44, 48, 49, 44, 48, 50, 44, 48, 51, 44, 48, 52, 44, 48, 53, 44, 48, 54, 44, 48, 55, 44, 48, 56, 44, 48, 57, 44, 48, 97, 44, 48, 98, 44, 48, 99, 44, 48, 100, 44, 48, 101, 44, 48, 102, 44, 49, 48, 44, 49, 49, 44, 49, 50, 44, 49, 51, 44, 92, 10, 32, 32, 102, 102]) = true := by
  rw [ByteArray.toList_eq]
  decide +kernel
theorem lvq_is : ((bts (quote [])).toList == [34, 34]) = true := by
  rw [ByteArray.toList_eq]
  decide +kernel
end Em
set_option maxHeartbeats 4000000 in
set_option maxRecDepth 100000 in
theorem lives35_any (w : World) (hW : Wg w) : Calls Tryd.prog 6 #[] w fun e w' => e = .returned (.bool true) ∧ Below w.heap.size w w' := by
  obtain ⟨W5, hW5⟩ : ∃ W, ((((w.alloc (.cells #[.string ⟨#[97, 34]⟩, .int .u8 1, .string ⟨#[120, 92]⟩, .int .u32 0, .string ⟨#[]⟩] 28)).alloc (.cells #[.string ⟨#[98]⟩, .int .u8 2, .string ⟨#[]⟩, .int .u32 2007, .string ⟨#[]⟩] 28)).alloc (.cells #[.string ⟨#[99]⟩, .int .u8 3, .string ⟨#[]⟩, .int .u32 0, .string ⟨#[0, 1, 2, 3, 4, 5, 6, 7, 8, 9, 10, 11, 12, 13, 14, 15, 16, 17, 18, 19, 255]⟩] 28)).alloc (.cells #[.string ⟨#[97, 34]⟩, .int .u8 1, .string ⟨#[120, 92]⟩, .int .u32 0, .string ⟨#[]⟩, .string ⟨#[98]⟩, .int .u8 2, .string ⟨#[]⟩, .int .u32 2007, .string ⟨#[]⟩] 28)).alloc (.cells #[.string ⟨#[90, 92, 75]⟩, .slice (some ⟨w.heap.size + 1 + 1 + 1, 0, none⟩) 2 2, .string ⟨#[89]⟩, .slice none 0 0] 40) = W := ⟨_, rfl⟩
  have hB5 : Below w.heap.size w W5 := by rw [← hW5]; exact Hv.bl (Hv.bl (Hv.bl (Hv.bl (Hv.bl1 _ _) _) _) _) _
  have hC5 : At W5 (w.heap.size + 1 + 1) [.string ⟨#[99]⟩, .int .u8 3, .string ⟨#[]⟩, .int .u32 0, .string ⟨#[0, 1, 2, 3, 4, 5, 6, 7, 8, 9, 10, 11, 12, 13, 14, 15, 16, 17, 18, 19, 255]⟩] := by
    rw [← hW5]
    have h := At.new ((w.alloc (.cells #[.string ⟨#[97, 34]⟩, .int .u8 1, .string ⟨#[120, 92]⟩, .int .u32 0, .string ⟨#[]⟩] 28)).alloc (.cells #[.string ⟨#[98]⟩, .int .u8 2, .string ⟨#[]⟩, .int .u32 2007, .string ⟨#[]⟩] 28)) #[.string ⟨#[99]⟩, .int .u8 3, .string ⟨#[]⟩, .int .u32 0, .string ⟨#[0, 1, 2, 3, 4, 5, 6, 7, 8, 9, 10, 11, 12, 13, 14, 15, 16, 17, 18, 19, 255]⟩] 28
    rw [World.size_alloc, World.size_alloc] at h
    exact (h.allocO _).allocO _
  have hV5 : At W5 (w.heap.size + 1 + 1 + 1) [.string ⟨#[97, 34]⟩, .int .u8 1, .string ⟨#[120, 92]⟩, .int .u32 0, .string ⟨#[]⟩, .string ⟨#[98]⟩, .int .u8 2, .string ⟨#[]⟩, .int .u32 2007, .string ⟨#[]⟩] := by
    rw [← hW5]
    have h := At.new (((w.alloc (.cells #[.string ⟨#[97, 34]⟩, .int .u8 1, .string ⟨#[120, 92]⟩, .int .u32 0, .string ⟨#[]⟩] 28)).alloc (.cells #[.string ⟨#[98]⟩, .int .u8 2, .string ⟨#[]⟩, .int .u32 2007, .string ⟨#[]⟩] 28)).alloc (.cells #[.string ⟨#[99]⟩, .int .u8 3, .string ⟨#[]⟩, .int .u32 0, .string ⟨#[0, 1, 2, 3, 4, 5, 6, 7, 8, 9, 10, 11, 12, 13, 14, 15, 16, 17, 18, 19, 255]⟩] 28)) #[.string ⟨#[97, 34]⟩, .int .u8 1, .string ⟨#[120, 92]⟩, .int .u32 0, .string ⟨#[]⟩, .string ⟨#[98]⟩, .int .u8 2, .string ⟨#[]⟩, .int .u32 2007, .string ⟨#[]⟩] 28
    rw [World.size_alloc, World.size_alloc, World.size_alloc] at h
    exact h.allocO _
  have hK5 : At W5 (w.heap.size + 1 + 1 + 1 + 1) [.string ⟨#[90, 92, 75]⟩, .slice (some ⟨w.heap.size + 1 + 1 + 1, 0, none⟩) 2 2, .string ⟨#[89]⟩, .slice none 0 0] := by
    rw [← hW5]
    have h := At.new ((((w.alloc (.cells #[.string ⟨#[97, 34]⟩, .int .u8 1, .string ⟨#[120, 92]⟩, .int .u32 0, .string ⟨#[]⟩] 28)).alloc (.cells #[.string ⟨#[98]⟩, .int .u8 2, .string ⟨#[]⟩, .int .u32 2007, .string ⟨#[]⟩] 28)).alloc (.cells #[.string ⟨#[99]⟩, .int .u8 3, .string ⟨#[]⟩, .int .u32 0, .string ⟨#[0, 1, 2, 3, 4, 5, 6, 7, 8, 9, 10, 11, 12, 13, 14, 15, 16, 17, 18, 19, 255]⟩] 28)).alloc (.cells #[.string ⟨#[97, 34]⟩, .int .u8 1, .string ⟨#[120, 92]⟩, .int .u32 0, .string ⟨#[]⟩, .string ⟨#[98]⟩, .int .u8 2, .string ⟨#[]⟩, .int .u32 2007, .string ⟨#[]⟩] 28)) #[.string ⟨#[90, 92, 75]⟩, .slice (some ⟨w.heap.size + 1 + 1 + 1, 0, none⟩) 2 2, .string ⟨#[89]⟩, .slice none 0 0] 40
    rw [World.size_alloc, World.size_alloc, World.size_alloc, World.size_alloc] at h
    exact h
  have hR5 : Hv.HR W5 W5.heap.size Em.lv (.slice (some ⟨w.heap.size + 1 + 1 + 1 + 1, 0, none⟩) 2 2) [.slice (some ⟨w.heap.size + 1 + 1 + 1, 0, none⟩) 2 2, .slice none 0 0] := by
    refine ⟨⟨_, _, rfl, Nat.le_refl _, by decide, Em.reads_of_at hK5 rfl⟩, rfl, fun p hp => ?_⟩
    rcases List.mem_cons.1 hp with rfl | hp
    · exact ⟨_, _, rfl, Nat.le_refl _, by decide, Em.reads_of_at hV5 rfl⟩
    · rw [List.mem_singleton.1 hp]
      exact ⟨_, _, rfl, Nat.le_refl _, by decide, rfl, fun h => absurd h (by decide)⟩
  have HT := Lib.hid (emText_any Em.lv Em.lv_ok _ 2 2 _ W5 rfl (by decide) hR5 (hW.below hB5))
  have HX := Lib.hid (fun W hW => emValue_any ⟨#[99]⟩ 3 ⟨#[]⟩ 0 ⟨#[0, 1, 2, 3, 4, 5, 6, 7, 8, 9, 10, 11, 12, 13, 14, 15, 16, 17, 18, 19, 255]⟩ Em.lvc_ok W hW)
  have HZ := Lib.hid (fun W hW => emValue_any ⟨#[]⟩ 0 ⟨#[]⟩ 0 ⟨#[]⟩ ⟨by decide +kernel, by decide +kernel, by decide +kernel, by decide +kernel, by decide +kernel, by decide +kernel, by decide +kernel⟩ W hW)
  have HQ := Lib.hid (fun W => quote_any ⟨#[]⟩ (by decide) W)
  have HB5 := Lib.hid hB5
  have HC5 := Lib.hid hC5
  have HW := Lib.hid hW
  have HW5 := Lib.hid hW5
  rw [if_pos Em.lv_right] at HT
  rw [show Em.bts (Em.text Em.lv) = Em.lvt from rfl] at HT
  clear hB5 hC5 hV5 hK5 hR5 hW hW5
  have e1 := Em.lvt_is
  have e2 := Em.lvx_is
  have e3 := Em.lvq_is
  obtain ⟨S1, hS1⟩ : ∃ s, Em.lvt = s := ⟨_, rfl⟩
  obtain ⟨S2, hS2⟩ : ∃ s, Em.lvx = s := ⟨_, rfl⟩
  obtain ⟨S3, hS3⟩ : ∃ s, Em.bts (Em.quote []) = s := ⟨_, rfl⟩
  have HX : Hid (∀ W, Wg W → Calls Tryd.prog 9 #[.agg #[.string ⟨#[99]⟩, .int .u8 3, .string ⟨#[]⟩, .int .u32 0, .string ⟨#[0, 1, 2, 3, 4, 5, 6, 7, 8, 9, 10, 11, 12, 13, 14, 15, 16, 17, 18, 19, 255]⟩]] W fun e w' => e = .returned (.tuple #[.string S2, .int .i64 0]) ∧ Below W.heap.size W w') := by
    intro W hw
    refine (HX.out W hw).mono ?_
    rintro e w' ⟨rfl, hb⟩
    exact ⟨by show Ending.returned (if Hv.valB Em.lvc = true then _ else _) = _; rw [if_pos Em.lvc_right, ← hS2]; rfl, hb⟩
  have HZ : Hid (∀ W, Wg W → Calls Tryd.prog 9 #[.agg #[.string ⟨#[]⟩, .int .u8 0, .string ⟨#[]⟩, .int .u32 0, .string ⟨#[]⟩]] W fun e w' => e = .returned (.tuple #[.string ⟨#[]⟩, .int .i64 2]) ∧ Below W.heap.size W w') := by
    intro W hw
    refine (HZ.out W hw).mono ?_
    rintro e w' ⟨rfl, hb⟩
    exact ⟨by rw [if_neg (by rw [Em.lvz_right]; decide)], hb⟩
  have HQ : Hid (∀ W, Calls Tryd.prog 11 #[.string ⟨#[]⟩] W fun e w' => e = .returned (.string S3) ∧ Below W.heap.size W w') := by
    intro W
    refine (HQ.out W).mono ?_
    rintro e w' ⟨rfl, hb⟩
    exact ⟨by rw [← hS3]; rfl, hb⟩
  have HY : Hid (∀ W, Wg W → Calls Tryd.prog 7 #[.agg #[.slice (some ⟨W.heap.size, 0, none⟩) 1 1]] (W.alloc (.cells #[.string ⟨#[]⟩, .slice none 0 0] 40)) fun e w' => e = .returned (.tuple #[.string ⟨#[]⟩, .int .i64 2]) ∧ Below W.heap.size W w') := by
    intro W hw
    have hA := At.new W #[.string ⟨#[]⟩, .slice none 0 0] 40
    have hb0 : Below W.heap.size W (W.alloc (.cells #[.string ⟨#[]⟩, .slice none 0 0] 40)) := Hv.bl1 _ _
    refine (emText_any [⟨⟨#[]⟩, []⟩] (fun k hk => by rw [List.mem_singleton.1 hk]; exact ⟨by decide, fun v hv => by cases hv⟩) _ 1 1 [.slice none 0 0] _ rfl (by decide) ⟨⟨_, _, rfl, Nat.le_refl _, by decide, Em.reads_of_at hA rfl⟩, rfl, fun p hp => ?_⟩ (hw.below hb0)).mono ?_
    · rw [List.mem_singleton.1 hp]
      exact ⟨_, _, rfl, Nat.le_refl _, by decide, rfl, fun h => absurd h (by decide)⟩
    · rintro e w' ⟨rfl, hb⟩
      exact ⟨by rw [if_neg (by rw [Em.lve_right]; decide)], below_then hb0 hb⟩
  rw [hS1] at e1 HT
  rw [hS2] at e2
  rw [hS3] at e3
  clear hS1 hS2 hS3
  go_enter Tryd.func6, Tryd.ntmps6
  go_wp2_with fail
  rw [HW5.out]
  refine HT.out.mono ?_
  rintro e w6 ⟨rfl, hb⟩
  have HB6 := Lib.hid (below_then HB5.out hb)
  have hC6 := HC5.out.call hb
  have c0 := hC6.cell 0 _ rfl
  have c1 := hC6.cell 1 _ rfl
  have c2 := hC6.cell 2 _ rfl
  have c3 := hC6.cell 3 _ rfl
  have c4 := hC6.cell 4 _ rfl
  have hl := hC6.lt
  clear hb hC6
  go_wp2_with fail
  refine (HX.out _ (HW.out.below HB6.out)).mono ?_
  rintro e w7 ⟨rfl, hb⟩
  have HB7 := Lib.hid (below_then HB6.out hb)
  clear hb c0 c1 c2 c3 c4 hl
  go_wp2_with fail
  refine (HZ.out _ (HW.out.below HB7.out)).mono ?_
  rintro e w8 ⟨rfl, hb⟩
  have HB8 := Lib.hid (below_then HB7.out hb)
  clear hb
  go_wp2_with fail
  refine (HY.out _ (HW.out.below HB8.out)).mono ?_
  rintro e w9 ⟨rfl, hb⟩
  have HB9 := Lib.hid (below_then HB8.out hb)
  clear hb
  go_wp2_with fail
  refine (HQ.out _).mono ?_
  rintro e wa ⟨rfl, hb⟩
  have HBa := Lib.hid (below_then HB9.out hb)
  clear hb
  go_wp2
  go_ret
  exact ⟨rfl, HBa.out⟩
end Go.Proofs.YteacncdpjbcinaaDoor
