/- The contracts of package clock: instants. -/
import Derived.Test.YtokimlfbfbfenaaDoorNumMath
namespace Go.Proofs.YtokimlfbfbfenaaDoor
open Go.RowKit

def IsTime (s : Int) : Prop := -604800 ≤ s ∧ s ≤ 604800
instance (s : Int) : Decidable (IsTime s) := by unfold IsTime; exact inferInstance
def InT (s : Int) : Prop := -1099511627776 ≤ s ∧ s ≤ 1099511627776
instance (s : Int) : Decidable (InT s) := by unfold InT; exact inferInstance

theorem isTime_any (s : Int) (w : World) :
    Calls Tryd.prog 64 #[.int .i64 s] w fun e w' => e = .returned (.bool (decide (IsTime s))) ∧ w = w' := by
  by_cases h : IsTime s
  · have HD := Lib.hid (decide_eq_true h)
    obtain ⟨h1, h2⟩ := h
    go_enter Tryd.func64, Tryd.ntmps64
    go_wp2
    go_ret
    exact ⟨ret_bool (by rw [HD.out]), rfl⟩
  · have HD := Lib.hid (decide_eq_false h)
    have h' : s < -604800 ∨ 604800 < s := by unfold IsTime at h; omega
    clear h
    by_cases h1 : s < -604800
    · clear h'
      go_enter Tryd.func64, Tryd.ntmps64
      go_wp2
      go_ret
      exact ⟨ret_bool (by rw [HD.out]), rfl⟩
    · have h2 : 604800 < s := by omega
      clear h'
      go_enter Tryd.func64, Tryd.ntmps64
      go_wp2
      go_ret
      exact ⟨ret_bool (by rw [HD.out]; first | (simp; done) | (simp; omega)), rfl⟩

theorem at_ok (d s : Int) (w : World) (h1 : -719162 ≤ d) (h2 : d < 2932897) (h3 : IsTime s) :
    Calls Tryd.prog 28 #[.int .i64 d, .int .i64 s] w fun e w' => e = .returned (.tuple #[.int .i64 (d * 86400 + s), .int .i64 0]) ∧ Below w.heap.size w w' := by
  have HO := Lib.hid fun W => of_ok d W h1 h2
  have HT := Lib.hid fun W => calls_bool (isTime_any s W) (decide_eq_true h3)
  obtain ⟨s1, s2⟩ := h3
  go_enter Tryd.func28, Tryd.ntmps28
  go_wp2_with fail
  refine (HO.out _).mono ?_
  rintro e w1 ⟨rfl, hb⟩
  go_wp2_with fail
  refine (HT.out _).mono ?_
  rintro e w2 ⟨rfl, rfl⟩
  go_wp2
  go_ret2
  exact ⟨rfl, hb.alloc hb.size _⟩
theorem at_bad (d s : Int) (w : World) (h : ¬ ((-719162 ≤ d ∧ d < 2932897) ∧ IsTime s)) :
    Calls Tryd.prog 28 #[.int .i64 d, .int .i64 s] w fun e w' => e = .returned (.tuple #[.int .i64 0, .int .i64 1]) ∧ Below w.heap.size w w' := by
  by_cases hd : -719162 ≤ d ∧ d < 2932897
  · have h3 : ¬ IsTime s := fun x => h ⟨hd, x⟩
    have HO := Lib.hid fun W => of_ok d W hd.1 hd.2
    have HT := Lib.hid fun W => calls_bool (isTime_any s W) (decide_eq_false h3)
    clear h hd h3
    go_enter Tryd.func28, Tryd.ntmps28
    go_wp2_with fail
    refine (HO.out _).mono ?_
    rintro e w1 ⟨rfl, hb⟩
    go_wp2_with fail
    refine (HT.out _).mono ?_
    rintro e w2 ⟨rfl, rfl⟩
    go_wp2
    go_ret2
    exact ⟨rfl, hb.alloc hb.size _⟩
  · have HO := Lib.hid fun W => of_bad d W (by omega)
    clear h hd
    go_enter Tryd.func28, Tryd.ntmps28
    go_wp2_with fail
    refine (HO.out _).mono ?_
    rintro e w1 ⟨rfl, hb⟩
    go_wp2
    go_ret2
    exact ⟨rfl, hb.alloc hb.size _⟩

theorem ret_int22 {k : IntKind} {a b c d : Int} (h : a = b) (h' : c = d) : Ending.returned (.tuple #[.int k a, .int k c]) = .returned (.tuple #[.int k b, .int k d]) := by rw [h, h']
end Go.Proofs.YtokimlfbfbfenaaDoor
