/- The contracts of the reference's Num, two. -/
import Derived.Test.YtkpbkgfmdjhbpabDoorRefClock
import Derived.Test.YtkpbkgfmdjhbpabDoorClockText
import Derived.Deep.RegionWith
namespace Go.Proofs.YtkpbkgfmdjhbpabDoor
open Go.RowKit

/-- One digit's text. -/
def Ck.dig (n : Int) : ByteArray := ⟨#[UInt8.ofNat (48 + n.toNat)]⟩
theorem dig_size (n : Int) : (Ck.dig n).size = 1 := rfl
/-- One byte's text. -/
theorem conv1 (w : World) (g : Nat) (n : Int) (h0 : 0 ≤ n) (h1 : n < 10) (hc : w.cell? ⟨g, 0, none⟩ = some (.int .u8 (48 + n))) :
    Sem.run Tryd.prog (convert 101 9 (.slice (some ⟨g, 0, none⟩) 1 1)) w = .ok (.string (Ck.dig n)) w := by
  have h := run_convert_bytes_back (P := Tryd.prog) w 101 9 5 ⟨g, 0, none⟩ 1 [UInt8.ofNat (48 + n.toNat)] Tryd.underlying101 Tryd.underlying5 Tryd.underlying9 ?_
  · exact h
  · intro j hj
    have hj0 : j = 0 := by simpa using hj
    subst hj0
    rw [show (⟨g, 0, none⟩ : Addr).add 0 = ⟨g, 0, none⟩ from rfl, hc]
    obtain ⟨k, rfl⟩ : ∃ k : Nat, n = k := ⟨n.toNat, by omega⟩
    have a1 : (48 + k) % 256 = 48 + k := by omega
    simp [UInt8.toNat_ofNat, a1]
theorem conv_new (w : World) (n : Int) (h0 : 0 ≤ n) (h1 : n < 10) :
    Sem.run Tryd.prog (convert 101 9 (.slice (some ⟨w.heap.size, 0, none⟩) 1 1)) (w.alloc (.cells #[.int .u8 (48 + n)] 5)) = .ok (.string (Ck.dig n)) (w.alloc (.cells #[.int .u8 (48 + n)] 5)) :=
  conv1 _ _ n h0 h1 (cell_of_row _ w.heap.size 0 _ _ _ (heap_alloc_new w _))
theorem conv_kept (w w1 : World) (n : Int) (h0 : 0 ≤ n) (h1 : n < 10) (hb : Below (w.heap.size + 1) (w.alloc (.cells #[.int .u8 (48 + n)] 5)) w1) :
    Sem.run Tryd.prog (convert 101 9 (.slice (some ⟨w.heap.size, 0, none⟩) 1 1)) w1 = .ok (.string (Ck.dig n)) w1 :=
  conv1 _ _ n h0 h1 ((hb.cell (p := ⟨w.heap.size, 0, none⟩) (Nat.lt_succ_self _)).trans (cell_of_row _ w.heap.size 0 _ _ _ (heap_alloc_new w _)))

set_option maxRecDepth 100000 in
theorem num_lo (n : Int) (w : World) (h0 : 0 ≤ n) (h1 : n < 10) :
    Calls Tryd.prog 181 #[.int .i64 n] w fun e w' => e = .returned (.string (Ck.dig n)) ∧ Below w.heap.size w w' := by
  have hc := conv_new w n h0 h1
  go_enter Tryd.func181, Tryd.ntmps181
  go_wp2
  go_ret
  exact ⟨rfl, (Below.refl _ _).alloc (Nat.le_refl _) _⟩

set_option maxHeartbeats 400000 in
set_option maxRecDepth 100000 in
theorem num_step (n : Int) (T : ByteArray) (w : World) (h0 : 10 ≤ n) (h1 : n < 100000) (hT : T.size ≤ 100)
    (hr : ∀ W, Calls Tryd.prog 181 #[.int .i64 (n / 10)] W fun e w' => e = .returned (.string T) ∧ Below W.heap.size W w') :
    Calls Tryd.prog 181 #[.int .i64 n] w fun e w' => e = .returned (.string (T ++ Ck.dig (n % 10))) ∧ Below w.heap.size w w' := by
  have HR := Lib.hid hr
  have HN := Lib.hid fun W => conv_new W (n % 10) (by omega) (by omega)
  have HK := Lib.hid fun W W1 => conv_kept W W1 (n % 10) (by omega) (by omega)
  have hc : Sem.run Tryd.prog (convert 101 9 (.slice (some ⟨w.heap.size, 0, none⟩) 1 1)) (w.drew.alloc (.cells #[.int .u8 (48 + n % 10)] 5)) = .ok (.string (Ck.dig (n % 10))) (w.drew.alloc (.cells #[.int .u8 (48 + n % 10)] 5)) := HN.out w.drew
  have hc2 : Sem.run Tryd.prog (convert 101 9 (.slice (some ⟨w.heap.size, 0, none⟩) 1 1)) (w.alloc (.cells #[.int .u8 (48 + n % 10)] 5)).drew = .ok (.string (Ck.dig (n % 10))) (w.alloc (.cells #[.int .u8 (48 + n % 10)] 5)).drew := conv1 _ _ (n % 10) (by omega) (by omega) (cell_of_row _ w.heap.size 0 _ _ _ (heap_alloc_new w _))
  have q1 : IntKind.i64.wrap (n.tdiv 10) = n / 10 := by rw [Int.tdiv_eq_ediv_of_nonneg (by omega)]; exact IntWalk.i64_in _ (by omega)
  have q2 : IntKind.i64.wrap (48 + n.tmod 10) = 48 + n % 10 := by rw [Int.tmod_eq_emod_of_nonneg (by omega)]; exact IntWalk.i64_in _ (by omega)
  have q3 : IntKind.u8.wrap (48 + n % 10) = 48 + n % 10 := by unfold IntKind.wrap; simp [IntKind.signed, IntKind.bits]; omega
  have s1 : ∀ W, (Op.stringOp .add T (Ck.dig (n % 10))).run Tryd.prog W = .ok (.string (T ++ Ck.dig (n % 10))) W := fun W => run_string_add_sum W _ _ (by rw [dig_size]; omega)
  clear hr hT
  go_enter Tryd.func181, Tryd.ntmps181
  go_upto_region 5 with fail
  go_region_with (go_at_call 181; refine (HR.out _).mono ?_; rintro e w1 ⟨rfl, hb⟩; first | (guard_hyp hb : Below _ (World.drew (World.alloc _ _)) _; have hck : Sem.run Tryd.prog (convert 101 9 (.slice (some ⟨w.heap.size, 0, none⟩) 1 1)) w1 = .ok (.string (Ck.dig (n % 10))) w1 := HK.out w w1 ((Below.refl _ _).drew.trans (hb.mono (by simp)))) | (have hcn := HN.out w1))
  all_goals (try go_wp2)
  all_goals go_ret
  all_goals first
    | exact ⟨rfl, (((Below.refl _ _).drew.trans hb).alloc (hb.size) _)⟩
    | exact ⟨rfl, ((Below.refl _ _).alloc (Nat.le_refl _) _).drew.trans (hb.mono (by simp))⟩
end Go.Proofs.YtkpbkgfmdjhbpabDoor
