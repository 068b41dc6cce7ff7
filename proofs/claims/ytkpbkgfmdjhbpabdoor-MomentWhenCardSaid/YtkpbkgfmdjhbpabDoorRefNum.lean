/- The contracts of the reference's Num, two, Text. -/
import Derived.Test.YtkpbkgfmdjhbpabDoorRefText
import Derived.Test.YtkpbkgfmdjhbpabDoorClockBackMath
import Derived.Lib.ItoaLen
namespace Go.Proofs.YtkpbkgfmdjhbpabDoor
open Go.RowKit

/-- A text of its bytes. -/
def mk (l : List UInt8) : ByteArray := ⟨l.toArray⟩
theorem mk_size (l : List UInt8) : (mk l).size = l.length := by simp [mk, ByteArray.size]
theorem mk_app (a b : List UInt8) : mk a ++ mk b = mk (a ++ b) := by
  apply ByteArray.ext
  simp [mk, ByteArray.data_append]
theorem mk_tl (s : ByteArray) : mk (tl s) = s := by
  apply ByteArray.ext
  simp [mk, tl]
theorem tl_mk' (l : List UInt8) : tl (mk l) = l := by simp [tl, mk]

theorem dig_mk (n : Int) : Ck.dig n = mk [UInt8.ofNat (48 + n.toNat)] := rfl
theorem itoa_lo (n : Int) (h0 : 0 ≤ n) (h1 : n < 10) : Lib.itoa n = [UInt8.ofNat (48 + n.toNat)] := by
  unfold Lib.itoa
  rw [if_neg (by omega)]
  unfold Lib.decDigits
  rw [dif_pos (by omega)]
theorem itoa_step (n : Int) (h0 : 10 ≤ n) : Lib.itoa n = Lib.itoa (n / 10) ++ [UInt8.ofNat (48 + (n % 10).toNat)] := by
  unfold Lib.itoa
  rw [if_neg (by omega), if_neg (by omega)]
  rw [Lib.decDigits, dif_neg (by omega)]
  rw [show n.toNat / 10 = (n / 10).toNat by omega, show n.toNat % 10 = (n % 10).toNat by omega]
theorem num_any : ∀ (k : Nat) (n : Int) (w : World), n.toNat = k → 0 ≤ n → n < 100000 →
    Calls Tryd.prog 181 #[.int .i64 n] w fun e w' => e = .returned (.string (mk (Lib.itoa n))) ∧ Below w.heap.size w w' := by
  intro k
  induction k using Nat.strongRecOn with
  | _ k ih =>
    intro n w hk h0 h1
    by_cases hn : n < 10
    · exact calls_str (num_lo n w h0 hn) (by rw [itoa_lo n h0 hn]; rfl)
    · have hl := Lib.itoa_length_le (n / 10) (by omega) (by omega)
      refine calls_str (num_step n (mk (Lib.itoa (n / 10))) w (by omega) h1 (by rw [mk_size]; omega) (fun W => ih (n / 10).toNat (by omega) (n / 10) W rfl (by omega) (by omega))) ?_
      rw [dig_mk, mk_app, itoa_step n (by omega)]

theorem convL (w : World) (g : Nat) (l : List UInt8) (c : Nat) (hc : ∀ j (hj : j < l.length), w.cell? ⟨g, j, none⟩ = some (.int .u8 (l[j].toNat : Int))) :
    Sem.run Tryd.prog (convert 101 9 (.slice (some ⟨g, 0, none⟩) l.length c)) w = .ok (.string (mk l)) w := by
  refine run_convert_bytes_back (P := Tryd.prog) w 101 9 5 ⟨g, 0, none⟩ c l Tryd.underlying101 Tryd.underlying5 Tryd.underlying9 ?_
  intro j hj
  have e : (⟨g, 0, none⟩ : Addr).add j = ⟨g, j, none⟩ := by
    unfold Addr.add
    split
    · subst_vars; rfl
    · simp
  rw [e, hc j hj]
theorem conv2_new (w : World) (n : Int) (h0 : 0 ≤ n) (h1 : n < 100) :
    Sem.run Tryd.prog (convert 101 9 (.slice (some ⟨w.heap.size, 0, none⟩) 2 2)) (w.alloc (.cells #[.int .u8 (48 + n / 10), .int .u8 (48 + n % 10)] 5)) = .ok (.string (mk (Ck.dig2 n))) (w.alloc (.cells #[.int .u8 (48 + n / 10), .int .u8 (48 + n % 10)] 5)) := by
  refine convL _ _ (Ck.dig2 n) 2 ?_
  intro j hj
  rw [cell_of_row _ w.heap.size j _ _ _ (heap_alloc_new w _)]
  obtain ⟨k, rfl⟩ : ∃ k : Nat, n = (k : Int) := ⟨n.toNat, by omega⟩
  have a1 : (48 + k / 10) % 256 = 48 + k / 10 := by omega
  have a2 : (48 + k % 10) % 256 = 48 + k % 10 := by omega
  have hj' : j < 2 := hj
  have : j = 0 ∨ j = 1 := by omega
  rcases this with rfl | rfl
  · simp [Ck.dig2, UInt8.toNat_ofNat, a1]
  · simp [Ck.dig2, UInt8.toNat_ofNat, a2]

set_option maxRecDepth 100000 in
theorem refTwo_any (n : Int) (w : World) (h0 : 0 ≤ n) (h1 : n < 100) :
    Calls Tryd.prog 182 #[.int .i64 n] w fun e w' => e = .returned (.string (mk (Ck.dig2 n))) ∧ Below w.heap.size w w' := by
  have hc := conv2_new w n h0 h1
  go_enter Tryd.func182, Tryd.ntmps182
  go_wp2
  go_ret
  exact ⟨rfl, (Below.refl _ _).alloc (Nat.le_refl _) _⟩
end Go.Proofs.YtkpbkgfmdjhbpabDoor
