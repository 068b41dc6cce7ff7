/- The contracts of package abbr: cut, Check. -/
import Derived.Test.YtdanbnolbaelhaaGreatDoorE09

namespace Go.Proofs.YtdanbnolbaelhaaGreatDoor
open Go.RowKit

/-- What stands in the program's variables: what formats ask. -/
structure Wa (w : World) : Prop where
  a0 : w.cell? ⟨1, 0, none⟩ = some (.string ⟨#[37, 115]⟩)
  a1 : w.cell? ⟨1, 1, none⟩ = some (.string ⟨#[37, 122]⟩)
  maxl : ∃ m, w.cell? ⟨2, 0, none⟩ = some (.int .i64 m)
theorem Wa.below {w w' : World} (h : Wa w) (hb : Below w.heap.size w w') : Wa w' := by
  obtain ⟨m, hm⟩ := h.maxl
  have hl : 1 < w.heap.size := block_lt_of_cell h.a0
  exact ⟨(hb.cell (p := ⟨_, 0, none⟩) hl).trans h.a0, (hb.cell (p := ⟨_, 1, none⟩) hl).trans h.a1, ⟨m, (hb.cell (p := ⟨_, 0, none⟩) (block_lt_of_cell hm)).trans hm⟩⟩
theorem cut_is (f p : ByteArray) (w : World) (hW : Wa w) (hs : f.size ≤ 1000000) (a b : ByteArray) (c : Bool) (ha : Ab.ahd f p = a) (hb : Ab.bhd f p = b) (hc : Ab.has f p = c) :
    Calls Tryz.prog 160 #[.string f, .string p] w fun e w' => e = .returned (.tuple #[.string a, .string b, .bool c]) ∧ Drew w w' := by
  obtain ⟨m, hm⟩ := hW.maxl
  subst ha hb hc
  exact Tryz.strings_Cut f p m w (by omega) hm
theorem cut_parts (f p : ByteArray) : (Ab.ahd f p).size ≤ f.size ∧ (Ab.bhd f p).size ≤ f.size := by
  have := cut_len f.data.toList p.data.toList
  have e : f.data.toList.length = f.size := tl_length f
  rw [e] at this
  exact this
theorem reads_pair (w : World) (a b : ByteArray) (t : TypeId) : Reads (w.alloc (.cells #[.string a, .string b] t)) (w.alloc (.cells #[.string a, .string b] t)).heap.size 1 (some ⟨w.heap.size, 0, none⟩) 2 ([a, b].map Value.string) := reads_new w [a, b] t
theorem signs_two (a b : ByteArray) (w : World) (ha : a.size ≤ 1000000) (hb : b.size ≤ 1000000) :
    Calls Tryz.prog 121 #[.slice (some ⟨w.heap.size, 0, none⟩) 2 2] (w.alloc (.cells #[.string a, .string b] 9)) fun e w' => e = .returned (.bool (Ab.all [a, b])) ∧ (w.alloc (.cells #[.string a, .string b] 9)) = w' :=
  signs_any _ 2 2 [a, b] _ (by decide) (reads_pair w a b _) (by intro t ht; simp at ht; rcases ht with rfl | rfl <;> assumption)
theorem signs_one (a : ByteArray) (w : World) (ha : a.size ≤ 1000000) :
    Calls Tryz.prog 121 #[.slice (some ⟨w.heap.size, 0, none⟩) 1 1] (w.alloc (.cells #[.string a] 9)) fun e w' => e = .returned (.bool (Ab.all [a])) ∧ (w.alloc (.cells #[.string a] 9)) = w' :=
  signs_any _ 1 1 [a] _ (by decide) (reads_one w a _) (by intro t ht; simp at ht; subst ht; exact ha)
def Ab.Ret (c : ByteArray × ByteArray × ByteArray × Bool) (w : World) (e : Ending) (w' : World) : Prop :=
  e = .returned (.tuple #[.string c.1, .string c.2.1, .string c.2.2.1, .bool c.2.2.2]) ∧ Below w.heap.size w w'
def Ab.Rel (w : World) (K : Nat) (i : Value) (wr : World) : Prop := ∃ k : Nat, k ≤ K ∧ i = .int .i64 k ∧ Hid (Drew w wr)
set_option maxHeartbeats 2000000 in
set_option maxRecDepth 100000 in
theorem abbrCut_S (f : ByteArray) (w : World) (hW : Wa w) (h1 : 1 ≤ f.size) (h32 : f.size ≤ 32) (hS : Ab.has f ⟨#[37, 115]⟩ = true) :
    Calls Tryz.prog 144 #[.string f] w (Ab.Ret (Ab.ahd f ⟨#[37, 115]⟩, ⟨#[37, 115]⟩, Ab.bhd f ⟨#[37, 115]⟩, Ab.all [Ab.ahd f ⟨#[37, 115]⟩, Ab.bhd f ⟨#[37, 115]⟩]) w) := by
  have i0 : ∀ W, (Instr.index 247 (.agg #[.string ⟨#[37, 115]⟩, .string ⟨#[37, 122]⟩]) (.int .i64 0)).run Tryz.prog W = .ok (.string ⟨#[37, 115]⟩) W := fun _ => by kernel_rfl
  have i1 : ∀ W, (Instr.index 247 (.agg #[.string ⟨#[37, 115]⟩, .string ⟨#[37, 122]⟩]) (.int .i64 1)).run Tryz.prog W = .ok (.string ⟨#[37, 122]⟩) W := fun _ => by kernel_rfl
  have a0 := hW.a0
  have a1 := hW.a1
  have q1 : ¬ (f.size : Int) < 1 := by omega
  have q2 : ¬ (32 : Int) < (f.size : Int) := by omega
  have HW := Lib.hid hW
  obtain ⟨aS, haS⟩ : ∃ a, Ab.ahd f ⟨#[37, 115]⟩ = a := ⟨_, rfl⟩
  obtain ⟨bS, hbS⟩ : ∃ b, Ab.bhd f ⟨#[37, 115]⟩ = b := ⟨_, rfl⟩
  have sS := cut_parts f ⟨#[37, 115]⟩
  rw [haS, hbS] at sS
  have HCS := Lib.hid fun W hw => cut_is f ⟨#[37, 115]⟩ W hw (by omega) aS bS true haS hbS hS
  clear hW
  go_enter Tryz.func144, Tryz.ntmps144
  go_wp2
  go_loopw [23] (Ab.Rel w 0) (fun i _ => 2 - (intOf i).toNat)
  case atStart => exact ⟨0, by omega, rfl, Drew.refl w⟩
  case round =>
    obtain ⟨k, hk, rfl, HD⟩ := hrel
    have e0 := (HD.out.cell ⟨1, 0, none⟩).trans a0
    have e1 := (HD.out.cell ⟨1, 1, none⟩).trans a1
    have hkk : k = 0 := by omega
    subst hkk
    · skip
      go_wp2_with fail
      refine (HCS.out _ (HW.out.below (HD.out.below _))).mono ?_
      rintro e w1 ⟨rfl, hd⟩
      have HS := Lib.hid fun W => signs_two aS bS W (by omega) (by omega)
      go_wp2_with fail
      refine (HS.out _).mono ?_
      rintro e w3 ⟨rfl, rfl⟩
      go_wp2
      refine bodyPost_ret (v := .tuple #[.string aS, .string ⟨#[37, 115]⟩, .string bS, .bool (Ab.all [aS, bS])]) (by simp [results, Tryz.results144, go_sem]) rfl ⟨?_, ?_⟩
      · rw [← haS, ← hbS]
      · exact ((HD.out.trans hd).below _).alloc ((HD.out.trans hd).below w.heap.size).size _
set_option maxHeartbeats 2000000 in
set_option maxRecDepth 100000 in
theorem abbrCut_Z (f : ByteArray) (w : World) (hW : Wa w) (h1 : 1 ≤ f.size) (h32 : f.size ≤ 32) (hS : Ab.has f ⟨#[37, 115]⟩ = false) (hZ : Ab.has f ⟨#[37, 122]⟩ = true) :
    Calls Tryz.prog 144 #[.string f] w (Ab.Ret (Ab.ahd f ⟨#[37, 122]⟩, ⟨#[37, 122]⟩, Ab.bhd f ⟨#[37, 122]⟩, Ab.all [Ab.ahd f ⟨#[37, 122]⟩, Ab.bhd f ⟨#[37, 122]⟩]) w) := by
  have i0 : ∀ W, (Instr.index 247 (.agg #[.string ⟨#[37, 115]⟩, .string ⟨#[37, 122]⟩]) (.int .i64 0)).run Tryz.prog W = .ok (.string ⟨#[37, 115]⟩) W := fun _ => by kernel_rfl
  have i1 : ∀ W, (Instr.index 247 (.agg #[.string ⟨#[37, 115]⟩, .string ⟨#[37, 122]⟩]) (.int .i64 1)).run Tryz.prog W = .ok (.string ⟨#[37, 122]⟩) W := fun _ => by kernel_rfl
  have a0 := hW.a0
  have a1 := hW.a1
  have q1 : ¬ (f.size : Int) < 1 := by omega
  have q2 : ¬ (32 : Int) < (f.size : Int) := by omega
  have HW := Lib.hid hW
  obtain ⟨aS, haS⟩ : ∃ a, Ab.ahd f ⟨#[37, 115]⟩ = a := ⟨_, rfl⟩
  obtain ⟨bS, hbS⟩ : ∃ b, Ab.bhd f ⟨#[37, 115]⟩ = b := ⟨_, rfl⟩
  have sS := cut_parts f ⟨#[37, 115]⟩
  rw [haS, hbS] at sS
  have HCS := Lib.hid fun W hw => cut_is f ⟨#[37, 115]⟩ W hw (by omega) aS bS false haS hbS hS
  obtain ⟨aZ, haZ⟩ : ∃ a, Ab.ahd f ⟨#[37, 122]⟩ = a := ⟨_, rfl⟩
  obtain ⟨bZ, hbZ⟩ : ∃ b, Ab.bhd f ⟨#[37, 122]⟩ = b := ⟨_, rfl⟩
  have sZ := cut_parts f ⟨#[37, 122]⟩
  rw [haZ, hbZ] at sZ
  have HCZ := Lib.hid fun W hw => cut_is f ⟨#[37, 122]⟩ W hw (by omega) aZ bZ true haZ hbZ hZ
  clear hW
  go_enter Tryz.func144, Tryz.ntmps144
  go_wp2
  go_loopw [23] (Ab.Rel w 1) (fun i _ => 2 - (intOf i).toNat)
  case atStart => exact ⟨0, by omega, rfl, Drew.refl w⟩
  case round =>
    obtain ⟨k, hk, rfl, HD⟩ := hrel
    have e0 := (HD.out.cell ⟨1, 0, none⟩).trans a0
    have e1 := (HD.out.cell ⟨1, 1, none⟩).trans a1
    have hkk : k = 0 ∨ k = 1 := by omega
    rcases hkk with rfl | rfl
    · skip
      go_wp2_with fail
      refine (HCS.out _ (HW.out.below (HD.out.below _))).mono ?_
      rintro e w1 ⟨rfl, hd⟩
      go_wp2
      go_roundw
      case rel => exact ⟨1, by omega, rfl, HD.out.trans hd⟩
      case measure => (first | (simp [intOf]; done) | (simp [intOf]; omega))
    · skip
      go_wp2_with fail
      refine (HCZ.out _ (HW.out.below (HD.out.below _))).mono ?_
      rintro e w1 ⟨rfl, hd⟩
      have HS := Lib.hid fun W => signs_two aZ bZ W (by omega) (by omega)
      go_wp2_with fail
      refine (HS.out _).mono ?_
      rintro e w3 ⟨rfl, rfl⟩
      go_wp2
      refine bodyPost_ret (v := .tuple #[.string aZ, .string ⟨#[37, 122]⟩, .string bZ, .bool (Ab.all [aZ, bZ])]) (by simp [results, Tryz.results144, go_sem]) rfl ⟨?_, ?_⟩
      · rw [← haZ, ← hbZ]
      · exact ((HD.out.trans hd).below _).alloc ((HD.out.trans hd).below w.heap.size).size _
set_option maxHeartbeats 2000000 in
set_option maxRecDepth 100000 in
theorem abbrCut_E (f : ByteArray) (w : World) (hW : Wa w) (h1 : 1 ≤ f.size) (h32 : f.size ≤ 32) (hS : Ab.has f ⟨#[37, 115]⟩ = false) (hZ : Ab.has f ⟨#[37, 122]⟩ = false) (hE : Ab.has f ⟨#[47]⟩ = true) :
    Calls Tryz.prog 144 #[.string f] w (Ab.Ret (Ab.ahd f ⟨#[47]⟩, ⟨#[47]⟩, Ab.bhd f ⟨#[47]⟩, !decide (Ab.ahd f ⟨#[47]⟩ = Ab.b0) && (!decide (Ab.bhd f ⟨#[47]⟩ = Ab.b0) && Ab.all [Ab.ahd f ⟨#[47]⟩, Ab.bhd f ⟨#[47]⟩])) w) := by
  have i0 : ∀ W, (Instr.index 247 (.agg #[.string ⟨#[37, 115]⟩, .string ⟨#[37, 122]⟩]) (.int .i64 0)).run Tryz.prog W = .ok (.string ⟨#[37, 115]⟩) W := fun _ => by kernel_rfl
  have i1 : ∀ W, (Instr.index 247 (.agg #[.string ⟨#[37, 115]⟩, .string ⟨#[37, 122]⟩]) (.int .i64 1)).run Tryz.prog W = .ok (.string ⟨#[37, 122]⟩) W := fun _ => by kernel_rfl
  have a0 := hW.a0
  have a1 := hW.a1
  have q1 : ¬ (f.size : Int) < 1 := by omega
  have q2 : ¬ (32 : Int) < (f.size : Int) := by omega
  have HW := Lib.hid hW
  obtain ⟨aS, haS⟩ : ∃ a, Ab.ahd f ⟨#[37, 115]⟩ = a := ⟨_, rfl⟩
  obtain ⟨bS, hbS⟩ : ∃ b, Ab.bhd f ⟨#[37, 115]⟩ = b := ⟨_, rfl⟩
  have sS := cut_parts f ⟨#[37, 115]⟩
  rw [haS, hbS] at sS
  have HCS := Lib.hid fun W hw => cut_is f ⟨#[37, 115]⟩ W hw (by omega) aS bS false haS hbS hS
  obtain ⟨aZ, haZ⟩ : ∃ a, Ab.ahd f ⟨#[37, 122]⟩ = a := ⟨_, rfl⟩
  obtain ⟨bZ, hbZ⟩ : ∃ b, Ab.bhd f ⟨#[37, 122]⟩ = b := ⟨_, rfl⟩
  have sZ := cut_parts f ⟨#[37, 122]⟩
  rw [haZ, hbZ] at sZ
  have HCZ := Lib.hid fun W hw => cut_is f ⟨#[37, 122]⟩ W hw (by omega) aZ bZ false haZ hbZ hZ
  obtain ⟨aE, haE⟩ : ∃ a, Ab.ahd f ⟨#[47]⟩ = a := ⟨_, rfl⟩
  obtain ⟨bE, hbE⟩ : ∃ b, Ab.bhd f ⟨#[47]⟩ = b := ⟨_, rfl⟩
  have sE := cut_parts f ⟨#[47]⟩
  rw [haE, hbE] at sE
  have HCE := Lib.hid fun W hw => cut_is f ⟨#[47]⟩ W hw (by omega) aE bE true haE hbE hE
  clear hW
  go_enter Tryz.func144, Tryz.ntmps144
  go_wp2
  go_loopw [23] (Ab.Rel w 2) (fun i _ => 2 - (intOf i).toNat)
  case atStart => exact ⟨0, by omega, rfl, Drew.refl w⟩
  case round =>
    obtain ⟨k, hk, rfl, HD⟩ := hrel
    have e0 := (HD.out.cell ⟨1, 0, none⟩).trans a0
    have e1 := (HD.out.cell ⟨1, 1, none⟩).trans a1
    have hkk : k = 0 ∨ k = 1 ∨ k = 2 := by omega
    rcases hkk with rfl | rfl | rfl
    · skip
      go_wp2_with fail
      refine (HCS.out _ (HW.out.below (HD.out.below _))).mono ?_
      rintro e w1 ⟨rfl, hd⟩
      go_wp2
      go_roundw
      case rel => exact ⟨1, by omega, rfl, HD.out.trans hd⟩
      case measure => (first | (simp [intOf]; done) | (simp [intOf]; omega))
    · skip
      go_wp2_with fail
      refine (HCZ.out _ (HW.out.below (HD.out.below _))).mono ?_
      rintro e w1 ⟨rfl, hd⟩
      go_wp2
      go_roundw
      case rel => exact ⟨2, by omega, rfl, HD.out.trans hd⟩
      case measure => (first | (simp [intOf]; done) | (simp [intOf]; omega))
    · skip
      go_wp2_with fail
      refine (HCE.out _ (HW.out.below (HD.out.below _))).mono ?_
      rintro e w1 ⟨rfl, hd⟩
      by_cases ea : aE = ⟨#[]⟩
      · have p1 : aE.toList.isEmpty = true := by rw [ea, ByteArray.toList_eq]; rfl
        have Ea := Lib.hid ea
        clear ea
        go_wp2
        refine bodyPost_ret (v := .tuple #[.string aE, .string ⟨#[47]⟩, .string bE, .bool false]) (by simp [results, Tryz.results144, go_sem]) rfl ⟨?_, ?_⟩
        · rw [haE, hbE, decide_eq_true (show aE = Ab.b0 from Ea.out)]; rfl
        · exact (HD.out.trans hd).below w.heap.size
      have p1 : aE.toList.isEmpty = false := empty_no aE ea
      have Ea := Lib.hid ea
      clear ea
      by_cases eb : bE = ⟨#[]⟩
      · have p2 : bE.toList.isEmpty = true := by rw [eb, ByteArray.toList_eq]; rfl
        have Eb := Lib.hid eb
        clear eb
        go_wp2
        refine bodyPost_ret (v := .tuple #[.string aE, .string ⟨#[47]⟩, .string bE, .bool false]) (by simp [results, Tryz.results144, go_sem]) rfl ⟨?_, ?_⟩
        · rw [haE, hbE, decide_eq_false (show ¬ aE = Ab.b0 from Ea.out), decide_eq_true (show bE = Ab.b0 from Eb.out)]; rfl
        · exact (HD.out.trans hd).below w.heap.size
      have p2 : bE.toList.isEmpty = false := empty_no bE eb
      have Eb := Lib.hid eb
      clear eb
      have HS := Lib.hid fun W => signs_two aE bE W (by omega) (by omega)
      go_wp2_with fail
      refine (HS.out _).mono ?_
      rintro e w3 ⟨rfl, rfl⟩
      go_wp2
      refine bodyPost_ret (v := .tuple #[.string aE, .string ⟨#[47]⟩, .string bE, .bool (Ab.all [aE, bE])]) (by simp [results, Tryz.results144, go_sem]) rfl ⟨?_, ?_⟩
      · rw [haE, hbE, decide_eq_false (show ¬ aE = Ab.b0 from Ea.out), decide_eq_false (show ¬ bE = Ab.b0 from Eb.out)]; rfl
      · exact ((HD.out.trans hd).below w.heap.size).alloc ((HD.out.trans hd).below w.heap.size).size _
set_option maxHeartbeats 2000000 in
set_option maxRecDepth 100000 in
theorem abbrCut_N (f : ByteArray) (w : World) (hW : Wa w) (h1 : 1 ≤ f.size) (h32 : f.size ≤ 32) (hS : Ab.has f ⟨#[37, 115]⟩ = false) (hZ : Ab.has f ⟨#[37, 122]⟩ = false) (hE : Ab.has f ⟨#[47]⟩ = false) :
    Calls Tryz.prog 144 #[.string f] w (Ab.Ret (f, Ab.b0, Ab.b0, Ab.all [f]) w) := by
  have i0 : ∀ W, (Instr.index 247 (.agg #[.string ⟨#[37, 115]⟩, .string ⟨#[37, 122]⟩]) (.int .i64 0)).run Tryz.prog W = .ok (.string ⟨#[37, 115]⟩) W := fun _ => by kernel_rfl
  have i1 : ∀ W, (Instr.index 247 (.agg #[.string ⟨#[37, 115]⟩, .string ⟨#[37, 122]⟩]) (.int .i64 1)).run Tryz.prog W = .ok (.string ⟨#[37, 122]⟩) W := fun _ => by kernel_rfl
  have a0 := hW.a0
  have a1 := hW.a1
  have q1 : ¬ (f.size : Int) < 1 := by omega
  have q2 : ¬ (32 : Int) < (f.size : Int) := by omega
  have HW := Lib.hid hW
  obtain ⟨aS, haS⟩ : ∃ a, Ab.ahd f ⟨#[37, 115]⟩ = a := ⟨_, rfl⟩
  obtain ⟨bS, hbS⟩ : ∃ b, Ab.bhd f ⟨#[37, 115]⟩ = b := ⟨_, rfl⟩
  have sS := cut_parts f ⟨#[37, 115]⟩
  rw [haS, hbS] at sS
  have HCS := Lib.hid fun W hw => cut_is f ⟨#[37, 115]⟩ W hw (by omega) aS bS false haS hbS hS
  obtain ⟨aZ, haZ⟩ : ∃ a, Ab.ahd f ⟨#[37, 122]⟩ = a := ⟨_, rfl⟩
  obtain ⟨bZ, hbZ⟩ : ∃ b, Ab.bhd f ⟨#[37, 122]⟩ = b := ⟨_, rfl⟩
  have sZ := cut_parts f ⟨#[37, 122]⟩
  rw [haZ, hbZ] at sZ
  have HCZ := Lib.hid fun W hw => cut_is f ⟨#[37, 122]⟩ W hw (by omega) aZ bZ false haZ hbZ hZ
  obtain ⟨aE, haE⟩ : ∃ a, Ab.ahd f ⟨#[47]⟩ = a := ⟨_, rfl⟩
  obtain ⟨bE, hbE⟩ : ∃ b, Ab.bhd f ⟨#[47]⟩ = b := ⟨_, rfl⟩
  have sE := cut_parts f ⟨#[47]⟩
  rw [haE, hbE] at sE
  have HCE := Lib.hid fun W hw => cut_is f ⟨#[47]⟩ W hw (by omega) aE bE false haE hbE hE
  clear hW
  go_enter Tryz.func144, Tryz.ntmps144
  go_wp2
  go_loopw [23] (Ab.Rel w 2) (fun i _ => 2 - (intOf i).toNat)
  case atStart => exact ⟨0, by omega, rfl, Drew.refl w⟩
  case round =>
    obtain ⟨k, hk, rfl, HD⟩ := hrel
    have e0 := (HD.out.cell ⟨1, 0, none⟩).trans a0
    have e1 := (HD.out.cell ⟨1, 1, none⟩).trans a1
    have hkk : k = 0 ∨ k = 1 ∨ k = 2 := by omega
    rcases hkk with rfl | rfl | rfl
    · skip
      go_wp2_with fail
      refine (HCS.out _ (HW.out.below (HD.out.below _))).mono ?_
      rintro e w1 ⟨rfl, hd⟩
      go_wp2
      go_roundw
      case rel => exact ⟨1, by omega, rfl, HD.out.trans hd⟩
      case measure => (first | (simp [intOf]; done) | (simp [intOf]; omega))
    · skip
      go_wp2_with fail
      refine (HCZ.out _ (HW.out.below (HD.out.below _))).mono ?_
      rintro e w1 ⟨rfl, hd⟩
      go_wp2
      go_roundw
      case rel => exact ⟨2, by omega, rfl, HD.out.trans hd⟩
      case measure => (first | (simp [intOf]; done) | (simp [intOf]; omega))
    · skip
      go_wp2_with fail
      refine (HCE.out _ (HW.out.below (HD.out.below _))).mono ?_
      rintro e w1 ⟨rfl, hd⟩
      have HS := Lib.hid fun W => signs_one f W (by omega)
      go_wp2_with fail
      refine (HS.out _).mono ?_
      rintro e w3 ⟨rfl, rfl⟩
      go_wp2
      refine bodyPost_ret (v := .tuple #[.string f, .string ⟨#[]⟩, .string ⟨#[]⟩, .bool (Ab.all [f])]) (by simp [results, Tryz.results144, go_sem]) rfl ⟨?_, ?_⟩
      · rfl
      · exact ((HD.out.trans hd).below w.heap.size).alloc ((HD.out.trans hd).below w.heap.size).size _
theorem abbrCut_any (f : ByteArray) (w : World) (hW : Wa w) (_hs : f.size ≤ maxLen) : Calls Tryz.prog 144 #[.string f] w (Ab.Ret (Ab.cutf f) w) := by
  by_cases hb : f.size < 1 ∨ 32 < f.size
  · have e : Ab.cutf f = (Ab.b0, Ab.b0, Ab.b0, false) := by unfold Ab.cutf; rw [if_pos hb]
    rw [e]
    clear e hW
    by_cases h1 : f.size < 1
    · have q1 : (f.size : Int) < 1 := by omega
      go_enter Tryz.func144, Tryz.ntmps144
      go_wp2
      refine bodyPost_ret (v := .tuple #[.string ⟨#[]⟩, .string ⟨#[]⟩, .string ⟨#[]⟩, .bool false]) (by simp [results, Tryz.results144, go_sem]) rfl ⟨?_, ?_⟩
      · rfl
      · exact Below.refl _ _
    · have q1 : ¬ (f.size : Int) < 1 := by omega
      have q2 : (32 : Int) < (f.size : Int) := by omega
      go_enter Tryz.func144, Tryz.ntmps144
      go_wp2
      refine bodyPost_ret (v := .tuple #[.string ⟨#[]⟩, .string ⟨#[]⟩, .string ⟨#[]⟩, .bool false]) (by simp [results, Tryz.results144, go_sem]) rfl ⟨?_, ?_⟩
      · rfl
      · exact Below.refl _ _
  · have h1 : 1 ≤ f.size := by omega
    have h2 : f.size ≤ 32 := by omega
    unfold Ab.cutf
    rw [if_neg hb]
    cases hS : Ab.has f Ab.pS
    · rw [if_neg (by decide)]
      cases hZ : Ab.has f Ab.pZ
      · rw [if_neg (by decide)]
        cases hE : Ab.has f Ab.pE
        · rw [if_neg (by decide)]
          exact abbrCut_N f w hW h1 h2 hS hZ hE
        · rw [if_pos rfl]
          exact abbrCut_E f w hW h1 h2 hS hZ hE
      · rw [if_pos rfl]
        exact abbrCut_Z f w hW h1 h2 hS hZ
    · rw [if_pos rfl]
      exact abbrCut_S f w hW h1 h2 hS
theorem abbrCheck_all (f : ByteArray) (w : World) (hW : Wa w) (hs : f.size ≤ maxLen) (b : Bool) (h : Ab.fmt f = b) :
    Calls Tryz.prog 123 #[.string f] w fun e w' => e = .returned (.int .i64 (if b = true then 0 else 2)) ∧ Below w.heap.size w w' := by
  have HC := Lib.hid (abbrCut_any f w hW hs)
  unfold Ab.fmt at h
  obtain ⟨a1, a2, a3, a4, e⟩ : ∃ a b c d, Ab.cutf f = (a, b, c, d) := ⟨_, _, _, _, rfl⟩
  rw [e] at HC h
  unfold Ab.Ret at HC
  simp only at HC h
  subst h
  clear e hW hs
  cases a4
  · go_enter Tryz.func123, Tryz.ntmps123
    go_wp2_with fail
    refine HC.out.mono ?_
    rintro e w1 ⟨rfl, hb⟩
    go_wp2
    go_ret
    exact ⟨rfl, hb⟩
  · go_enter Tryz.func123, Tryz.ntmps123
    go_wp2_with fail
    refine HC.out.mono ?_
    rintro e w1 ⟨rfl, hb⟩
    go_wp2
    go_ret
    exact ⟨rfl, hb⟩
theorem name_all (s : ByteArray) (w : World) (hs : s.size ≤ maxLen) :
    Calls Tryz.prog 49 #[.string s] w fun e w' => e = .returned (.bool (Ru.name (tl s))) ∧ Below w.heap.size w w' := by
  by_cases hl : s.size ≤ 1000000
  · exact name_any s w hl
  · unfold maxLen at hs
    have HRs := Lib.hid fun W => calls_bool (rising3_any 1 (s.size : Int) 64 W) (show _ = false by simp; omega)
    have HX : Hid (Ru.name (tl s) = false) := by
      show Ru.name (tl s) = false
      unfold Ru.name
      rw [tl_length, decide_eq_false (by omega), Bool.false_and]
    go_enter Tryz.func49, Tryz.ntmps49
    go_wp2_with fail
    refine (HRs.out _).mono ?_
    rintro e w1 ⟨rfl, hb⟩
    go_wp2
    go_ret
    exact ⟨ret_bool (by rw [HX.out]), hb⟩
end Go.Proofs.YtdanbnolbaelhaaGreatDoor
