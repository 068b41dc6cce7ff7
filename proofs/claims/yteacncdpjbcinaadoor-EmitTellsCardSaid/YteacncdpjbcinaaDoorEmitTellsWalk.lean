/- EmitTells of any hive, any value and any text. -/
import Derived.Test.YteacncdpjbcinaaDoorLives35
import Derived.Test.YteacncdpjbcinaaDoorR5Text
namespace Go.Proofs.YteacncdpjbcinaaDoor
open Go.RowKit

set_option maxHeartbeats 8000000 in
set_option maxRecDepth 100000 in
theorem emitTells_row (l : List Hv.K) (A : Option Addr) (n c : Nat) (evs : List Value) (v : Hv.V) (s : ByteArray) (w : World) (hW : Wg w) (hr : Hv.HR w w.heap.size l (.slice A n c) evs) (hn : l.length = n) (hnm : n ≤ maxLen) (hl : ∀ k ∈ l, k.Ok) (hf : ∀ k ∈ l, ∀ v ∈ k.vals, v.Far) (hvo : v.Ok) (hvf : v.Far) (hs : s.size ≤ 140737488355328) :
    Calls Tryd.prog 3 #[.agg #[.slice A n c], v.v, .string s] w fun e w' => e = .returned (.bool true) ∧ Below w.heap.size w w' := by
  have HS : Hid (∀ W, Below w.heap.size w W → Calls Tryd.prog 5 #[.agg #[.slice A n c]] W (Hv.SmRet l W)) := fun W hb => small34_any l (fun k hk => ⟨(hl k hk).path, hf k hk⟩) A n c evs W hn hnm ((hr.below hb).more hb.size)
  have HT : Hid (∀ W, Below w.heap.size w W → Calls Tryd.prog 7 #[.agg #[.slice A n c]] W fun e w' => e = .returned (if Hv.hiveB l = true then .tuple #[.string (Em.bts (Em.text l)), .int .i64 0] else .tuple #[.string ⟨#[]⟩, .int .i64 2]) ∧ Below W.heap.size W w') := fun W hb => emText_any l hl A n c evs W hn hnm ((hr.below hb).more hb.size) (hW.below hb)
  have HT5 : Hid (Hv.Few l → ∀ W, Below w.heap.size w W → Calls Tryd.prog 8 #[.agg #[.slice A n c]] W fun e w' => e = .returned (if Hv.hiveB l = true then .tuple #[.string (Em.bts (Em.text l)), .int .i64 0] else .tuple #[.string ⟨#[]⟩, .int .i64 2]) ∧ Below W.heap.size W w') := fun hfw W hb => text5_any l hfw hl A n c evs W hn ((hr.below hb).more hb.size)
  obtain ⟨TX, hTX⟩ : ∃ s k, (if Hv.hiveB l = true then Value.tuple #[.string (Em.bts (Em.text l)), .int .i64 0] else .tuple #[.string ⟨#[]⟩, .int .i64 2]) = .tuple #[.string s, .int .i64 k] := by
    cases Hv.hiveB l with
    | true => exact ⟨_, _, rfl⟩
    | false => exact ⟨_, _, rfl⟩
  obtain ⟨TK, hTX⟩ := hTX
  rw [hTX] at HT HT5
  have HL := Lib.hid (fun W hw => lives35_any W hw)
  obtain ⟨f0, f2, f4⟩ := hvf
  have HV := fun W hw => emValue_any v.name v.kind v.text v.num v.bytes hvo W hw
  have HV5 := fun (h1 : v.name.size ≤ 1000000) (h2 : v.text.size ≤ 1000000) (h3 : v.bytes.size ≤ 1000000) W => value5_any v h1 h2 h3 hvo W
  obtain ⟨VX, hVX⟩ : ∃ s k, (if Hv.valB v = true then Value.tuple #[.string (Em.bts (Em.val v)), .int .i64 0] else .tuple #[.string ⟨#[]⟩, .int .i64 2]) = .tuple #[.string s, .int .i64 k] := by
    cases Hv.valB v with
    | true => exact ⟨_, _, rfl⟩
    | false => exact ⟨_, _, rfl⟩
  obtain ⟨VK, hVX⟩ := hVX
  rw [hVX] at HV5
  have hVX2 : (if Hv.valB ⟨v.name, v.kind, v.text, v.num, v.bytes⟩ = true then Value.tuple #[.string (Em.bts (Em.val ⟨v.name, v.kind, v.text, v.num, v.bytes⟩)), .int .i64 0] else .tuple #[.string ⟨#[]⟩, .int .i64 2]) = .tuple #[.string VX, .int .i64 VK] := hVX
  rw [hVX2] at HV
  have HQ := Lib.hid (fun (h : s.size ≤ 5000) W => quote_any s (by omega) W)
  have HQ5 := Lib.hid (fun (h : s.size ≤ 5000) W => quote5_any s (by omega) W)
  obtain ⟨SQ, hSQ⟩ : ∃ q, Em.bts (Em.quote (tl s)) = q := ⟨_, rfl⟩
  rw [hSQ] at HQ HQ5
  have HV := Lib.hid HV
  have HV5 := Lib.hid HV5
  obtain ⟨nm, kd, tx, nu, bs⟩ := v
  unfold Hv.far at f0 f2 f4
  simp only at f0 f2 f4 HV HV5
  unfold Hv.V.v
  simp only
  obtain ⟨W1, hW1⟩ : ∃ W, (w.alloc (.cells #[.slice A n c] 24)).alloc (.cells #[.string nm, .int .u8 kd, .string tx, .int .u32 nu, .string bs] 28) = W := ⟨_, rfl⟩
  have hA1 : At W1 w.heap.size [.slice A n c] := by rw [← hW1]; exact (At.new _ _ _).allocO _
  have hC1 : At W1 (w.heap.size + 1) [.string nm, .int .u8 kd, .string tx, .int .u32 nu, .string bs] := by
    have h := At.new (w.alloc (.cells #[.slice A n c] 24)) #[.string nm, .int .u8 kd, .string tx, .int .u32 nu, .string bs] 28
    rw [World.size_alloc] at h
    rw [← hW1]
    exact h
  have hB1 : Below w.heap.size w W1 := by rw [← hW1]; exact Hv.bl (Hv.bl1 _ _) _
  have HA1 := Lib.hid hA1
  have HC1 := Lib.hid hC1
  have HB1 := Lib.hid hB1
  have HW1 := Lib.hid hW1
  have HW := Lib.hid hW
  clear hA1 hC1 hB1 hW1 hW hl hn hr hf hvo hTX hVX hVX2 hSQ hnm
  go_enter Tryd.func3, Tryd.ntmps3
  go_wp2_with fail
  rw [HW1.out]
  refine (HS.out _ HB1.out).mono ?_
  rintro e w2 ⟨he, hb⟩
  have HB2 := Lib.hid (below_then HB1.out hb)
  have HA2 := Lib.hid (HA1.out.call hb)
  have HC2 := Lib.hid (HC1.out.call hb)
  have a0 := HA2.out.cell 0 _ rfl
  have al := HA2.out.lt
  have c0 := HC2.out.cell 0 _ rfl
  have c1 := HC2.out.cell 1 _ rfl
  have c2 := HC2.out.cell 2 _ rfl
  have c3 := HC2.out.cell 3 _ rfl
  have c4 := HC2.out.cell 4 _ rfl
  have cl := HC2.out.lt
  clear hb
  rcases he with rfl | ⟨rfl, hfw⟩
  · go_wp2_with fail
    refine (HL.out _ (HW.out.below HB2.out)).mono ?_
    rintro e w3 ⟨rfl, hb⟩
    have HB3 := Lib.hid (below_then HB2.out hb)
    clear hb
    go_wp2
    go_ret
    exact ⟨rfl, HB3.out⟩
  have HT5 := Lib.hid (HT5.out hfw)
  clear hfw
  by_cases hsum : 10000 < nm.size + tx.size + bs.size
  · have q1 : (10000 : Int) < (nm.size : Int) + (tx.size : Int) + (bs.size : Int) := by omega
    clear hsum
    go_wp2_with fail
    refine (HL.out _ (HW.out.below HB2.out)).mono ?_
    rintro e w3 ⟨rfl, hb⟩
    have HB3 := Lib.hid (below_then HB2.out hb)
    clear hb
    go_wp2
    go_ret
    exact ⟨rfl, HB3.out⟩
  have q1 : ¬ (10000 : Int) < (nm.size : Int) + (tx.size : Int) + (bs.size : Int) := by omega
  by_cases hs5 : 5000 < s.size
  · have q2 : (5000 : Int) < (s.size : Int) := by omega
    clear hsum hs5
    go_wp2_with fail
    refine (HL.out _ (HW.out.below HB2.out)).mono ?_
    rintro e w3 ⟨rfl, hb⟩
    have HB3 := Lib.hid (below_then HB2.out hb)
    clear hb
    go_wp2
    go_ret
    exact ⟨rfl, HB3.out⟩
  have q2 : ¬ (5000 : Int) < (s.size : Int) := by omega
  have HV5 := Lib.hid (HV5.out (by omega) (by omega) (by omega))
  have HQ := Lib.hid (HQ.out (by omega))
  have HQ5 := Lib.hid (HQ5.out (by omega))
  clear hsum hs5
  go_wp2_with fail
  refine (HT.out _ HB2.out).mono ?_
  rintro e w3 ⟨rfl, hb⟩
  have HB3 := Lib.hid (below_then HB2.out hb)
  have HA3 := Lib.hid (HA2.out.call hb)
  have HC3 := Lib.hid (HC2.out.call hb)
  clear hb a0 al c0 c1 c2 c3 c4 cl
  have a0 := HA3.out.cell 0 _ rfl
  have al := HA3.out.lt
  go_wp2_with fail
  refine (HT5.out _ HB3.out).mono ?_
  rintro e w4 ⟨rfl, hb⟩
  have HB4 := Lib.hid (below_then HB3.out hb)
  have HC4 := Lib.hid (HC3.out.call hb)
  clear hb a0 al
  have c0 := HC4.out.cell 0 _ rfl
  have c1 := HC4.out.cell 1 _ rfl
  have c2 := HC4.out.cell 2 _ rfl
  have c3 := HC4.out.cell 3 _ rfl
  have c4 := HC4.out.cell 4 _ rfl
  have cl := HC4.out.lt
  go_wp2_with fail
  refine (HV.out _ (HW.out.below HB4.out)).mono ?_
  rintro e w5 ⟨rfl, hb⟩
  have HB5 := Lib.hid (below_then HB4.out hb)
  have HC5 := Lib.hid (HC4.out.call hb)
  clear hb c0 c1 c2 c3 c4 cl
  have c0 := HC5.out.cell 0 _ rfl
  have c1 := HC5.out.cell 1 _ rfl
  have c2 := HC5.out.cell 2 _ rfl
  have c3 := HC5.out.cell 3 _ rfl
  have c4 := HC5.out.cell 4 _ rfl
  have cl := HC5.out.lt
  go_wp2_with fail
  refine (HV5.out _).mono ?_
  rintro e w6 ⟨rfl, hb⟩
  have HB6 := Lib.hid (below_then HB5.out hb)
  clear hb c0 c1 c2 c3 c4 cl
  go_wp2_with fail
  refine (HL.out _ (HW.out.below HB6.out)).mono ?_
  rintro e w7 ⟨rfl, hb⟩
  have HB7 := Lib.hid (below_then HB6.out hb)
  clear hb
  go_wp2_with fail
  refine (HQ.out _).mono ?_
  rintro e w8 ⟨rfl, hb⟩
  have HB8 := Lib.hid (below_then HB7.out hb)
  clear hb
  go_wp2_with fail
  refine (HQ5.out _).mono ?_
  rintro e w9 ⟨rfl, hb⟩
  have HB9 := Lib.hid (below_then HB8.out hb)
  clear hb
  go_wp2
  go_ret
  exact ⟨rfl, HB9.out⟩
end Go.Proofs.YteacncdpjbcinaaDoor
