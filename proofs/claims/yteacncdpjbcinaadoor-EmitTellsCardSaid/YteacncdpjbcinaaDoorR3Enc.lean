/- solsticeref30.Encode: a character's bytes. -/
import Derived.Test.YteacncdpjbcinaaDoorR3Math
import Derived.Test.YteacncdpjbcinaaDoorEmHex
namespace Go.Proofs.YteacncdpjbcinaaDoor
open Go.RowKit

namespace R3
def encS (c : Nat) : ByteArray := Em.bts (enc c)
def encR (c : Nat) : Value := if okc c = true then .tuple #[.string (encS c), .int .i64 0] else .tuple #[.string ⟨#[]⟩, .int .i64 1]
theorem conv_lit (W : World) (cs : Array Value) (l : List UInt8) (n : Nat) (hn : cs.size = n) (h : cs.toList = Lib.byteCells l) :
    (convert 43 9 (.slice (some ⟨W.heap.size, 0, none⟩) n n)).run Tryd.prog (W.alloc (.cells cs 5)) = .ok (.string (Em.bts l)) (W.alloc (.cells cs 5)) := by
  subst hn
  have hl : l.length = cs.size := by
    have := congrArg List.length h
    rw [Em.cells_len', Array.length_toList] at this
    exact this.symm
  have hb := run_convert_bytes_back (P := Tryd.prog) (W.alloc (.cells cs 5)) 43 9 5 ⟨W.heap.size, 0, none⟩ cs.size l Tryd.underlying43 Tryd.underlying5 Tryd.underlying9 (fun j hj => by
    have e : (⟨W.heap.size, 0, none⟩ : Addr).add j = ⟨W.heap.size, j, none⟩ := by
      unfold Addr.add
      split
      · subst_vars; rfl
      · simp
    rw [e]
    refine (At.new W cs 5).cell j _ ?_
    rw [h]
    unfold Lib.byteCells
    rw [List.getElem?_map, List.getElem?_eq_getElem hj]
    rfl)
  rw [hl] at hb
  exact hb
theorem byte_of (n : Nat) (h : n < 256) : Value.int .u8 ((UInt8.ofNat n).toNat : Int) = .int .u8 (n : Int) := by
  have : (UInt8.ofNat n).toNat = n := by simp [UInt8.toNat_ofNat']; omega
  rw [this]
end R3
set_option maxHeartbeats 4000000 in
set_option maxRecDepth 100000 in
theorem enc_any (c : Nat) (hc : c ≤ 100000000) (w : World) : Calls Tryd.prog 51 #[.int .i64 (c : Int)] w fun e w' => e = .returned (R3.encR c) ∧ Below w.heap.size w w' := by
  have p0 : ¬ (c : Int) < 0 := by omega
  by_cases hk : R3.okc c = true
  case neg =>
    have he : R3.encR c = .tuple #[.string ⟨#[]⟩, .int .i64 1] := if_neg hk
    rw [he]
    have hk2 : ¬ (c ≤ 1114111 ∧ (c < 55296 ∨ 57343 < c)) := fun h => hk ((R3.okc_iff c).2 h)
    clear he hk
    by_cases h1 : (1114111 : Int) < (c : Int)
    · go_enter Tryd.func51, Tryd.ntmps51
      go_wp2
      go_ret2
      exact ⟨rfl, Below.refl _ _⟩
    · have h2 : (55296 : Int) ≤ (c : Int) := by omega
      have h3 : (c : Int) ≤ 57343 := by omega
      clear hk2
      go_enter Tryd.func51, Tryd.ntmps51
      go_wp2
      go_ret2
      exact ⟨rfl, Below.refl _ _⟩
  case pos =>
    have he : R3.encR c = .tuple #[.string (R3.encS c), .int .i64 0] := if_pos hk
    rw [he]
    rw [R3.okc_iff] at hk
    obtain ⟨k1, k2⟩ := hk
    have p1 : ¬ (1114111 : Int) < (c : Int) := by omega
    have p2 : decide ((55296 : Int) ≤ (c : Int)) = false ∨ (decide ((55296 : Int) ≤ (c : Int)) = true ∧ decide ((c : Int) ≤ 57343) = false) := by
      rcases k2 with k2 | k2
      · exact .inl (decide_eq_false (by omega))
      · exact .inr ⟨decide_eq_true (by omega), decide_eq_false (by omega)⟩
    clear he k2
    by_cases h1 : c < 128
    · have q1 : (c : Int) < 128 := by omega
      have hS : R3.encS c = Em.bts [UInt8.ofNat c] := by unfold R3.encS R3.enc; rw [R3.encN_1 h1]; rfl
      have hcv := fun W => R3.conv_lit W #[.int .u8 (c : Int)] [UInt8.ofNat c] 1 rfl (by unfold Lib.byteCells; simp only [List.map_cons, List.map_nil]; rw [R3.byte_of c (by omega)])
      rw [hS]
      have p2' : ¬ (55296 : Int) ≤ (c : Int) := by omega
      clear hS h1 p2
      go_enter Tryd.func51, Tryd.ntmps51
      go_wp2
      go_ret2
      exact ⟨rfl, Hv.bl1 _ _⟩
    · by_cases h2 : c < 2048
      · have q1 : ¬ (c : Int) < 128 := by omega
        have q2 : (c : Int) < 2048 := by omega
        have hS : R3.encS c = Em.bts [UInt8.ofNat (192 + c / 64), UInt8.ofNat (128 + c % 64)] := by unfold R3.encS R3.enc; rw [R3.encN_2 (by omega) h2]; rfl
        obtain ⟨p, hp⟩ : ∃ p, c / 64 = p := ⟨_, rfl⟩
        obtain ⟨q, hq⟩ : ∃ q, c % 64 = q := ⟨_, rfl⟩
        have e1 : (c : Int) / 64 = (p : Int) := by omega
        have e2 : (c : Int) % 64 = (q : Int) := by omega
        have p3 : (p : Int) < 32 := by omega
        have q3 : (q : Int) < 64 := by omega
        have hcv := fun W => R3.conv_lit W #[.int .u8 (192 + (p : Int)), .int .u8 (128 + (q : Int))] [UInt8.ofNat (192 + p), UInt8.ofNat (128 + q)] 2 rfl (by unfold Lib.byteCells; simp only [List.map_cons, List.map_nil]; rw [R3.byte_of _ (by omega), R3.byte_of _ (by omega)]; rfl)
        rw [hp, hq] at hS
        rw [hS]
        have p2' : ¬ (55296 : Int) ≤ (c : Int) := by omega
        clear hS h1 h2 p2 hp hq
        go_enter Tryd.func51, Tryd.ntmps51
        go_wp2
        go_ret2
        exact ⟨rfl, Hv.bl1 _ _⟩
      · by_cases h3 : c < 65536
        · have q1 : ¬ (c : Int) < 128 := by omega
          have q2 : ¬ (c : Int) < 2048 := by omega
          have q3 : (c : Int) < 65536 := by omega
          have hS : R3.encS c = Em.bts [UInt8.ofNat (224 + c / 4096), UInt8.ofNat (128 + c / 64 % 64), UInt8.ofNat (128 + c % 64)] := by unfold R3.encS R3.enc; rw [R3.encN_3 (by omega) h3]; rfl
          obtain ⟨p, hp⟩ : ∃ p, c / 4096 = p := ⟨_, rfl⟩
          obtain ⟨r, hr⟩ : ∃ p, c / 64 = p := ⟨_, rfl⟩
          rw [hr] at hS
          obtain ⟨r2, hr2⟩ : ∃ p, r % 64 = p := ⟨_, rfl⟩
          obtain ⟨q, hq⟩ : ∃ q, c % 64 = q := ⟨_, rfl⟩
          have e1 : (c : Int) / 4096 = (p : Int) := by omega
          have e2 : (c : Int) / 64 = (r : Int) := by omega
          have e3 : (r : Int) % 64 = (r2 : Int) := by omega
          have e4 : (c : Int) % 64 = (q : Int) := by omega
          have p3 : (p : Int) < 16 := by omega
          have p4 : (r2 : Int) < 64 := by omega
          have p5 : (q : Int) < 64 := by omega
          have hcv := fun W => R3.conv_lit W #[.int .u8 (224 + (p : Int)), .int .u8 (128 + (r2 : Int)), .int .u8 (128 + (q : Int))] [UInt8.ofNat (224 + p), UInt8.ofNat (128 + r2), UInt8.ofNat (128 + q)] 3 rfl (by unfold Lib.byteCells; simp only [List.map_cons, List.map_nil]; rw [R3.byte_of _ (by omega), R3.byte_of _ (by omega), R3.byte_of _ (by omega)]; rfl)
          rw [hp, hq, hr2] at hS
          rw [hS]
          clear hS h1 h2 h3 hp hq hr hr2
          rcases p2 with p2 | ⟨p2, p2'⟩
          · go_enter Tryd.func51, Tryd.ntmps51
            go_wp2
            go_ret2
            exact ⟨rfl, Hv.bl1 _ _⟩
          · go_enter Tryd.func51, Tryd.ntmps51
            go_wp2
            go_ret2
            exact ⟨rfl, Hv.bl1 _ _⟩
        · have q1 : ¬ (c : Int) < 128 := by omega
          have q2 : ¬ (c : Int) < 2048 := by omega
          have q3 : ¬ (c : Int) < 65536 := by omega
          have hS : R3.encS c = Em.bts [UInt8.ofNat (240 + c / 262144), UInt8.ofNat (128 + c / 4096 % 64), UInt8.ofNat (128 + c / 64 % 64), UInt8.ofNat (128 + c % 64)] := by unfold R3.encS R3.enc; rw [R3.encN_4 (by omega)]; rfl
          obtain ⟨p, hp⟩ : ∃ p, c / 262144 = p := ⟨_, rfl⟩
          obtain ⟨t, ht⟩ : ∃ p, c / 4096 = p := ⟨_, rfl⟩
          obtain ⟨r, hr⟩ : ∃ p, c / 64 = p := ⟨_, rfl⟩
          rw [hr, ht] at hS
          obtain ⟨t2, ht2⟩ : ∃ p, t % 64 = p := ⟨_, rfl⟩
          obtain ⟨r2, hr2⟩ : ∃ p, r % 64 = p := ⟨_, rfl⟩
          obtain ⟨q, hq⟩ : ∃ q, c % 64 = q := ⟨_, rfl⟩
          have e0 : (c : Int) / 262144 = (p : Int) := by omega
          have e1 : (c : Int) / 4096 = (t : Int) := by omega
          have e2 : (c : Int) / 64 = (r : Int) := by omega
          have e5 : (t : Int) % 64 = (t2 : Int) := by omega
          have e3 : (r : Int) % 64 = (r2 : Int) := by omega
          have e4 : (c : Int) % 64 = (q : Int) := by omega
          have p3 : (p : Int) < 5 := by omega
          have p4 : (r2 : Int) < 64 := by omega
          have p5 : (q : Int) < 64 := by omega
          have p6 : (t2 : Int) < 64 := by omega
          have hcv := fun W => R3.conv_lit W #[.int .u8 (240 + (p : Int)), .int .u8 (128 + (t2 : Int)), .int .u8 (128 + (r2 : Int)), .int .u8 (128 + (q : Int))] [UInt8.ofNat (240 + p), UInt8.ofNat (128 + t2), UInt8.ofNat (128 + r2), UInt8.ofNat (128 + q)] 4 rfl (by unfold Lib.byteCells; simp only [List.map_cons, List.map_nil]; rw [R3.byte_of _ (by omega), R3.byte_of _ (by omega), R3.byte_of _ (by omega), R3.byte_of _ (by omega)]; rfl)
          rw [hp, hq, hr2, ht2] at hS
          rw [hS]
          have p7 : (55296 : Int) ≤ (c : Int) := by omega
          have p8 : ¬ (c : Int) ≤ 57343 := by omega
          clear hS h1 h2 h3 hp hq hr hr2 ht ht2 p2
          go_enter Tryd.func51, Tryd.ntmps51
          go_wp2
          go_ret2
          exact ⟨rfl, Hv.bl1 _ _⟩
end Go.Proofs.YteacncdpjbcinaaDoor
