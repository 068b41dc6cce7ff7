/- solsticetop.TopValues. -/
import Derived.Test.YtmnolcjmnddbnaaGreatDoorP11
import Derived.Test.YtmnolcjmnddbnaaGreatDoorP07
import Derived.Test.YtmnolcjmnddbnaaGreatDoorP04
import Derived.ProofKit
import Derived.OpenShut
import Derived.Lib.SmallJoins
import Derived.SliceStrings
import Derived.Deep.RegionHeld
import Derived.Deep.Strs
import Derived.Deep.Slices
import Derived.Lib.LaidTab
import Derived.SizedLaws
import Derived.Shelf.Vars
import Derived.Test.YtmnolcjmnddbnaaGreatDoorCards
import Derived.Test.YtmnolcjmnddbnaaGreatDoorTie
import Derived.ShutString
import Derived.ChangeOld
import Derived.LaidMore
import Derived.Stop.LaidErr
import Derived.Deep.DeepHandedRow

namespace Go.Proofs.YtmnolcjmnddbnaaGreatDoor
open Go.RowKit

set_option maxHeartbeats 16000000 in
set_option maxRecDepth 200000 in
theorem topValues_any (x : Hv.V) (path : ByteArray) (w : World) (hW : Wg w) (ho : x.Ok) (hf : x.Far) (hp : path.size ≤ 140737488355328) :
    Calls Tryz.prog 3 #[x.v, .string path] w fun e w' => e = .returned (.bool true) ∧ Below w.heap.size w w' := by
  obtain ⟨nm, kd, tx, nu, by_⟩ := x
  unfold Hv.V.v
  simp only
  have HE := Lib.hid fun W (hb : Below w.heap.size w W) => emValue_any nm kd tx nu by_ ho W (hW.below hb)
  have HW := Lib.hid hW
  have HO := Lib.hid ho
  have HF := Lib.hid hf
  obtain ⟨W1, hW1⟩ : ∃ W, w.alloc (.cells #[.string nm, .int .u8 kd, .string tx, .int .u32 nu, .string by_] 25) = W := ⟨_, rfl⟩
  have HB1 : Hid (Below w.heap.size w W1) := by show Below _ _ _; rw [← hW1]; exact Hv.bl1 _ _
  have HA1 : Hid (At W1 w.heap.size [.string nm, .int .u8 kd, .string tx, .int .u32 nu, .string by_]) := by show At _ _ _; rw [← hW1]; exact At.new _ _ _
  have HW1 := Lib.hid hW1
  clear hW1 hW ho hf
  go_enter Tryz.func3, Tryz.ntmps3
  go_wp2_with fail
  rw [HW1.out]
  refine (begins18 W1 (HW.out.below HB1.out)).mono ?_
  rintro e w2 ⟨rfl, hb⟩
  have HB2 := Lib.hid (below_then HB1.out hb)
  have HA2 := Lib.hid (HA1.out.call hb)
  obtain ⟨a0, a1, a2, a3, a4, _⟩ := Ink.At.fiveI HA2.out
  have z1 := HA2.out.lt
  clear hb
  go_wp2_with fail
  refine (HE.out _ HB2.out).mono ?_
  rintro e w3 ⟨he, hb⟩
  have HB3 := Lib.hid (below_then HB2.out hb)
  have HA3 := Lib.hid (HA2.out.call hb)
  clear hb a0 a1 a2 a3 a4 z1
  by_cases hv : Hv.valB ⟨nm, kd, tx, nu, by_⟩ = true
  case neg =>
    rw [if_neg hv] at he
    subst he
    go_wp2
    go_ret
    exact ⟨rfl, HB3.out⟩
  rw [if_pos hv] at he
  subst he
  obtain ⟨S, hS⟩ : ∃ S, Em.bts (Em.val ⟨nm, kd, tx, nu, by_⟩) = S := ⟨_, rfl⟩
  rw [hS]
  have HS : Hid (tl S = Em.val ⟨nm, kd, tx, nu, by_⟩) := by show tl S = _; rw [← hS]; exact Em.tl_bts _
  have HV := Lib.hid hv
  clear hS hv
  by_cases hp3 : path.size ≤ 300
  case neg =>
    have p1 : (300 : Int) < (path.size : Int) := by omega
    go_wp2
    all_goals
      go_ret
      exact ⟨rfl, HB3.out⟩
  have p1 : ¬ (300 : Int) < (path.size : Int) := by omega
  by_cases hs8 : S.size ≤ 8000
  case neg =>
    have p2 : (8000 : Int) < (S.size : Int) := by omega
    go_wp2
    all_goals
      go_ret
      exact ⟨rfl, HB3.out⟩
  have p2 : ¬ (8000 : Int) < (S.size : Int) := by omega
  go_wp2_with fail
  go_loopw [49] (fun i wr => ∃ k : Nat, k ≤ path.size ∧ i = .int .i64 (k : Int) ∧ wr = w3 ∧ Hid (∀ b ∈ (tl path).take k, b ≠ 10)) (fun i _ => path.size - (intOf i).toNat)
  case atStart => exact ⟨0, Nat.zero_le _, rfl, rfl, fun b hb => by simp at hb⟩
  case round =>
    obtain ⟨k, hk, rfl, e9, HP⟩ := hrel
    subst e9
    by_cases hlt : k < path.size
    · have q1 : (k : Int) < (path.size : Int) := by omega
      have q2 : (0 : Int) ≤ (k : Int) := by omega
      obtain ⟨b, hb⟩ : ∃ b, path[k]'hlt = b := ⟨_, rfl⟩
      have hbk : (tl path)[k]? = some b := by
        rw [← hb]
        have hl : k < (tl path).length := by rw [tl_length]; exact hlt
        rw [List.getElem?_eq_getElem hl]
        rfl
      by_cases hb10 : b = 10
      · have q3 : (b.toNat : Int) = 10 := by rw [hb10]; rfl
        go_wp2
        go_ret
        exact ⟨rfl, HB3.out⟩
      · have q3 : ¬ (b.toNat : Int) = 10 := by
          intro e
          apply hb10
          apply UInt8.toNat_inj.1
          have : b.toNat = 10 := by omega
          exact this
        have HP2 : Hid (∀ c ∈ (tl path).take (k + 1), c ≠ 10) := by
          intro c hc
          rw [List.take_add_one, hbk] at hc
          rcases List.mem_append.1 hc with hc | hc
          · exact HP.out c hc
          · obtain rfl : c = b := by simpa using hc
            exact hb10
        clear hbk
        go_wp2
        go_roundw
        case rel => exact ⟨k + 1, by omega, by go_num, trivial, HP2.out⟩
        case measure => simp [intOf]; omega
    · obtain rfl : k = path.size := by omega
      have q1 : ¬ (path.size : Int) < (path.size : Int) := by omega
      have HN : Hid (∀ b ∈ tl path, b ≠ 10) := by
        have h := HP.out
        rw [List.take_of_length_le (by rw [tl_length]; exact Nat.le_refl _)] at h
        exact h
      obtain ⟨a0, a1, a2, a3, a4, _⟩ := Ink.At.fiveI HA3.out
      have z1 := HA3.out.lt
      clear HP
      have hnz : nm.size ≤ 64 := (Em.val_small HV.out).1
      go_wp2_with fail
      refine (quote_any nm (by omega) _).mono ?_
      rintro e w4 ⟨rfl, hb⟩
      have HB4 := Lib.hid (below_then HB3.out hb)
      have HA4 := Lib.hid (HA3.out.call hb)
      obtain ⟨Q, hQ⟩ : ∃ Q, Em.bts (Em.quote (tl nm)) = Q := ⟨_, rfl⟩
      have HQ : Hid (tl Q = Em.quote (tl nm)) := by show tl Q = _; rw [← hQ]; exact Em.tl_bts _
      have hQs : Q.size ≤ 200 := by
        have h := Em.quote_len (tl nm)
        rw [← HQ.out, tl_length, tl_length] at h
        omega
      rw [hQ]
      have w1 : IntKind.i64.wrap ((Q.size : Int) + 7) = (Q.size : Int) + 7 := IntWalk.i64_in _ (by omega)
      clear hb hQ a0 a1 a2 a3 a4 z1
      go_wp2_with fail
      obtain ⟨L, hL⟩ : ∃ L, Em.val ⟨nm, kd, tx, nu, by_⟩ = L := ⟨_, rfl⟩
      obtain ⟨F, hF⟩ : ∃ F, (Ink.bpre ⟨nm, kd, tx, nu, by_⟩).length = F := ⟨_, rfl⟩
      obtain ⟨G, hG⟩ : ∃ G, Ink.vlineM true ⟨nm, kd, tx, nu, by_⟩ = G := ⟨_, rfl⟩
      obtain ⟨M, hM⟩ : ∃ M, decide (kd = 3) = M := ⟨_, rfl⟩
      have hst := Tv.post_start ⟨nm, kd, tx, nu, by_⟩
      simp only at hst
      rw [hL, hF, hG, hM] at hst
      have hFQ : F = Q.size + 7 := by
        rw [← hF]
        unfold Ink.bpre
        rw [List.length_append, ← tl_length Q, HQ.out]
        rfl
      have hSL : tl S = L := by rw [HS.out, hL]
      have HSL := Lib.hid hSL
      have HFL : Hid (M = true → F ≤ L.length) := fun h => by
        rw [← hM] at h
        rw [← hF, ← hL]
        exact Tv.front_le _ (of_decide_eq_true h)
      have HGG := Lib.hid hG
      have HM := Lib.hid hM
      have hk3 : (kd == 3) = M := by rw [← hM]; rfl
      have HSt := Lib.hid hst
      clear hst hL hF hG hM hSL
      rw [hk3]
      clear hk3
      go_loopw [8, 11] (fun o i wr => ∃ (out : ByteArray) (k : Nat), o = .string out ∧ i = .int .i64 (k : Int) ∧ out.size ≤ k ∧ Hid (tl out ++ Tv.post M F L k = G) ∧ Hid (Below w4.heap.size w4 wr)) (fun _ i _ => S.size + 5 - (intOf i).toNat)
      case atStart => exact ⟨⟨#[]⟩, 0, rfl, rfl, Nat.le_refl _, HSt.out, Below.refl _ _⟩
      case round =>
        obtain ⟨out, k, rfl, rfl, ho, HG, HB⟩ := hrel
        by_cases hlt : k < S.size
        · have q1 : (k : Int) < (S.size : Int) := by omega
          have q2 : (0 : Int) ≤ (k : Int) := by omega
          obtain ⟨c, hc⟩ : ∃ c, S[k]'hlt = c := ⟨_, rfl⟩
          have hcl : L[k]? = some c := by
            rw [← HSL.out, ← hc]
            have hl : k < (tl S).length := by rw [tl_length]; exact hlt
            rw [List.getElem?_eq_getElem hl]
            rfl
          cases M with
          | false =>
            have hcv : (convert 31 9 (.slice (some ⟨wr.heap.size, 0, none⟩) 1 1)).run Tryz.prog (wr.alloc (.cells #[.int .u8 ((c).toNat : Int)] 5)) = .ok (.string ⟨#[c]⟩) (wr.alloc (.cells #[.int .u8 ((c).toNat : Int)] 5)) := run_convert_bytes_back (P := Tryz.prog) (wr.alloc (.cells #[.int .u8 ((c).toNat : Int)] 5)) 31 9 5 ⟨wr.heap.size, 0, none⟩ 1 [c] Tryz.underlying31 Tryz.underlying5 Tryz.underlying9 (Tv.one_cell wr (c) 5)
            have hnew : Hid (tl (out ++ ⟨#[c]⟩) ++ Tv.post false F L (k + 1) = G) := Tv.more HG.out (Tv.post_plain hcl (.inl rfl))
            have hsz : (out ++ (⟨#[c]⟩ : ByteArray)).size ≤ k + 1 := by rw [ByteArray.size_append]; show out.size + 1 ≤ k + 1; omega
            have HBn := Lib.hid (Hv.bl HB.out (.cells #[.int .u8 ((c).toNat : Int)] 5))
            go_wp2
            go_roundw
            case rel => exact ⟨_, k + 1, rfl, by go_num, hsz, hnew.out, HBn.out⟩
            case measure => simp [intOf]; omega
          | true =>
            by_cases hf : k < F
            · have q3 : ¬ (Q.size : Int) + 7 ≤ (k : Int) := by omega
              have hcv : (convert 31 9 (.slice (some ⟨wr.heap.size, 0, none⟩) 1 1)).run Tryz.prog (wr.alloc (.cells #[.int .u8 ((c).toNat : Int)] 5)) = .ok (.string ⟨#[c]⟩) (wr.alloc (.cells #[.int .u8 ((c).toNat : Int)] 5)) := run_convert_bytes_back (P := Tryz.prog) (wr.alloc (.cells #[.int .u8 ((c).toNat : Int)] 5)) 31 9 5 ⟨wr.heap.size, 0, none⟩ 1 [c] Tryz.underlying31 Tryz.underlying5 Tryz.underlying9 (Tv.one_cell wr (c) 5)
              have hnew : Hid (tl (out ++ ⟨#[c]⟩) ++ Tv.post true F L (k + 1) = G) := Tv.more HG.out (Tv.post_plain hcl (.inr hf))
              have hsz : (out ++ (⟨#[c]⟩ : ByteArray)).size ≤ k + 1 := by rw [ByteArray.size_append]; show out.size + 1 ≤ k + 1; omega
              have HBn := Lib.hid (Hv.bl HB.out (.cells #[.int .u8 ((c).toNat : Int)] 5))
              go_wp2
              go_roundw
              case rel => exact ⟨_, k + 1, rfl, by go_num, hsz, hnew.out, HBn.out⟩
              case measure => simp [intOf]; omega
            · have q3 : (Q.size : Int) + 7 ≤ (k : Int) := by omega
              by_cases h92 : c = 92
              · have q4 : (c.toNat : Int) = 92 := by rw [h92]; rfl
                have hnew : Hid (tl out ++ Tv.post true F L (k + 4) = G) := by
                  show _ = _
                  rw [← Tv.post_skip (by rw [hcl, h92]) (by omega)]
                  exact HG.out
                go_wp2
                go_roundw
                case rel => exact ⟨_, k + 4, rfl, by go_num, by omega, hnew.out, HB.out⟩
                case measure => simp [intOf]; omega
              · obtain ⟨n92a, n92b, n92c⟩ := Tv.ne_at (k := 92) (b := c) (fun e => h92 (UInt8.toNat_inj.1 e))
                by_cases h97 : 97 ≤ c.toNat
                · have q5 : (97 : Int) ≤ (c.toNat : Int) := by omega
                  by_cases h102 : c.toNat ≤ 102
                  · have q6 : (c.toNat : Int) ≤ 102 := by omega
                    have q7 : IntKind.u8.wrap ((c.toNat : Int) - 32) = ((Ink.up c).toNat : Int) := Tv.up_wrap h97 h102
                    have hcv : (convert 31 9 (.slice (some ⟨wr.heap.size, 0, none⟩) 1 1)).run Tryz.prog (wr.alloc (.cells #[.int .u8 ((Ink.up c).toNat : Int)] 5)) = .ok (.string ⟨#[Ink.up c]⟩) (wr.alloc (.cells #[.int .u8 ((Ink.up c).toNat : Int)] 5)) := run_convert_bytes_back (P := Tryz.prog) (wr.alloc (.cells #[.int .u8 ((Ink.up c).toNat : Int)] 5)) 31 9 5 ⟨wr.heap.size, 0, none⟩ 1 [Ink.up c] Tryz.underlying31 Tryz.underlying5 Tryz.underlying9 (Tv.one_cell wr (Ink.up c) 5)
                    have hnew : Hid (tl (out ++ ⟨#[Ink.up c]⟩) ++ Tv.post true F L (k + 1) = G) := Tv.more HG.out (Tv.post_up hcl (by omega) h92)
                    have hsz : (out ++ (⟨#[Ink.up c]⟩ : ByteArray)).size ≤ k + 1 := by rw [ByteArray.size_append]; show out.size + 1 ≤ k + 1; omega
                    have HBn := Lib.hid (Hv.bl HB.out (.cells #[.int .u8 ((Ink.up c).toNat : Int)] 5))
                    go_wp2
                    go_roundw
                    case rel => exact ⟨_, k + 1, rfl, by go_num, hsz, hnew.out, HBn.out⟩
                    case measure => simp [intOf]; omega
                  · have q6 : ¬ (c.toNat : Int) ≤ 102 := by omega
                    have hup := Tv.up_no2 h102
                    have hcv : (convert 31 9 (.slice (some ⟨wr.heap.size, 0, none⟩) 1 1)).run Tryz.prog (wr.alloc (.cells #[.int .u8 ((c).toNat : Int)] 5)) = .ok (.string ⟨#[c]⟩) (wr.alloc (.cells #[.int .u8 ((c).toNat : Int)] 5)) := run_convert_bytes_back (P := Tryz.prog) (wr.alloc (.cells #[.int .u8 ((c).toNat : Int)] 5)) 31 9 5 ⟨wr.heap.size, 0, none⟩ 1 [c] Tryz.underlying31 Tryz.underlying5 Tryz.underlying9 (Tv.one_cell wr (c) 5)
                    have hnew : Hid (tl (out ++ ⟨#[c]⟩) ++ Tv.post true F L (k + 1) = G) := Tv.more HG.out (by rw [Tv.post_up hcl (by omega) h92, hup])
                    have hsz : (out ++ (⟨#[c]⟩ : ByteArray)).size ≤ k + 1 := by rw [ByteArray.size_append]; show out.size + 1 ≤ k + 1; omega
                    have HBn := Lib.hid (Hv.bl HB.out (.cells #[.int .u8 ((c).toNat : Int)] 5))
                    go_wp2
                    go_roundw
                    case rel => exact ⟨_, k + 1, rfl, by go_num, hsz, hnew.out, HBn.out⟩
                    case measure => simp [intOf]; omega
                · have q5 : ¬ (97 : Int) ≤ (c.toNat : Int) := by omega
                  have hup := Tv.up_no1 h97
                  have hcv : (convert 31 9 (.slice (some ⟨wr.heap.size, 0, none⟩) 1 1)).run Tryz.prog (wr.alloc (.cells #[.int .u8 ((c).toNat : Int)] 5)) = .ok (.string ⟨#[c]⟩) (wr.alloc (.cells #[.int .u8 ((c).toNat : Int)] 5)) := run_convert_bytes_back (P := Tryz.prog) (wr.alloc (.cells #[.int .u8 ((c).toNat : Int)] 5)) 31 9 5 ⟨wr.heap.size, 0, none⟩ 1 [c] Tryz.underlying31 Tryz.underlying5 Tryz.underlying9 (Tv.one_cell wr (c) 5)
                  have hnew : Hid (tl (out ++ ⟨#[c]⟩) ++ Tv.post true F L (k + 1) = G) := Tv.more HG.out (by rw [Tv.post_up hcl (by omega) h92, hup])
                  have hsz : (out ++ (⟨#[c]⟩ : ByteArray)).size ≤ k + 1 := by rw [ByteArray.size_append]; show out.size + 1 ≤ k + 1; omega
                  have HBn := Lib.hid (Hv.bl HB.out (.cells #[.int .u8 ((c).toNat : Int)] 5))
                  go_wp2
                  go_roundw
                  case rel => exact ⟨_, k + 1, rfl, by go_num, hsz, hnew.out, HBn.out⟩
                  case measure => simp [intOf]; omega
        · have q1 : ¬ (k : Int) < (S.size : Int) := by omega
          have hLs : L.length = S.size := by rw [← HSL.out, tl_length]
          have hpe : Tv.post M F L k = [] := by
            cases M with
            | false =>
              unfold Tv.post
              rw [if_neg (by decide)]
              exact List.drop_eq_nil_of_le (by omega)
            | true => exact Tv.post_end (HFL.out rfl) (by omega)
          have hout : tl out = G := by
            have h := HG.out
            rw [hpe, List.append_nil] at h
            exact h
          have hVl := inValue_any true nm kd tx nu by_ HV.out HO.out wr
          rw [HGG.out, ← hout, Em.bts_tl] at hVl
          have HVl := Lib.hid hVl
          have HA5 := Lib.hid (HA4.out.call HB.out)
          have HB5 := Lib.hid (below_then HB4.out HB.out)
          clear hVl hpe hLs
          go_wp2_with fail
          refine HVl.out.mono ?_
          rintro e w6 ⟨rfl, hb⟩
          have HA6 := Lib.hid (HA5.out.call hb)
          have HB6 := Lib.hid (below_then HB5.out hb)
          clear hb
          obtain ⟨a0, a1, a2, a3, a4, _⟩ := Ink.At.fiveI HA6.out
          have z1 := HA6.out.lt
          have hE := hvEq_val nm kd tx nu by_
          have hSt : S.size ≤ 8000 := hs8
          obtain ⟨W7, hW7⟩ : ∃ W, w6.alloc (.cells #[.string nm, .int .u8 kd, .string tx, .int .u32 nu, .string by_] 25) = W := ⟨_, rfl⟩
          have hb67 : Below w6.heap.size w6 W7 := by rw [← hW7]; exact Hv.bl1 _ _
          have HB7 := Lib.hid (below_then HB6.out hb67)
          have HA7 := Lib.hid (HA6.out.call hb67)
          obtain ⟨T, hT⟩ : ∃ T, ((⟨#[82, 69, 71, 73, 83, 84, 69, 82, 32, 49, 10, 91]⟩ : ByteArray) ++ path ++ ⟨#[93, 10]⟩ ++ S) = T := ⟨_, rfl⟩
          have htl : tl T = Ink.headL ++ 10 :: 91 :: (tl path ++ 93 :: 10 :: Em.val ⟨nm, kd, tx, nu, by_⟩) := by
            rw [← HS.out, ← hT]
            simp [tl, Ink.headL]
          have hTs : T.size ≤ 1048576 := by
            rw [← hT, ByteArray.size_append, ByteArray.size_append, ByteArray.size_append]
            show 12 + path.size + 2 + S.size ≤ 1048576
            omega
          have HPs := Lib.hid (inParse_tv path ⟨nm, kd, tx, nu, by_⟩ (by omega) HN.out HV.out HO.out T htl hTs W7 (HW.out.l.below HB7.out))
          have HW7 := Lib.hid hW7
          have HT := Lib.hid hT
          clear hb67 hW7 hT htl hTs
          go_wp2_with fail
          rw [HW7.out, HT.out]
          refine HPs.out.mono ?_
          rintro e w8 hpr
          by_cases hpp : Hv.path path = true
          case neg =>
            rw [if_neg hpp] at hpr
            obtain ⟨hb, x, y, rfl⟩ := hpr
            have HB8 := Lib.hid (below_then HB7.out hb)
            have HPa := Lib.hid fun W (hb : Below w.heap.size w W) => hvPath_any path (by unfold maxLen; omega) W (HW.out.l.below hb)
            have HNp : Hid (Hv.path path = false) := by show _ = _; simpa using hpp
            rw [HNp.out] at HPa
            obtain ⟨W9, hW9⟩ : ∃ W, ((w8.alloc (.cells #[.slice none 0 0] 36)).alloc (.cells #[.int .i64 x, .int .i64 y, .int .i64 2] 38)) = W := ⟨_, rfl⟩
            have HB9 : Hid (Below w.heap.size w W9) := by show Below _ _ _; rw [← hW9]; exact Hv.bl (Hv.bl HB8.out _) _
            have HF9 : Hid (At W9 (w8.heap.size + 1) [.int .i64 x, .int .i64 y, .int .i64 2]) := by
              have h := At.new (w8.alloc (.cells #[.slice none 0 0] 36)) #[.int .i64 x, .int .i64 y, .int .i64 2] 38
              rw [World.size_alloc, hW9] at h
              exact h
            have HW9 := Lib.hid hW9
            clear hb hW9 hpp a0 a1 a2 a3 a4 z1
            go_wp2_with fail
            rw [HW9.out]
            refine (HPa.out _ HB9.out).mono ?_
            rintro e w10 ⟨rfl, hb⟩
            have HB10 := Lib.hid (below_then HB9.out hb)
            obtain ⟨c0, c1, c2, f0, f1, f2⟩ := (HF9.out.call hb).three
            have z1 := (HF9.out.call hb).lt
            clear hb
            go_wp2
            go_ret
            exact ⟨rfl, HB10.out⟩
          rw [if_pos hpp] at hpr
          obtain ⟨hb, kv, evs, rfl, hR⟩ := hpr
          obtain ⟨xA, xc, rfl, _, _, _⟩ := hR.row
          have hR : Hv.HR w8 w8.heap.size [⟨path, [⟨nm, kd, tx, nu, by_⟩]⟩] (.slice xA 1 xc) evs := hR
          have HA8 := Lib.hid (HA7.out.call hb)
          have HB8 := Lib.hid (below_then HB7.out hb)
          have HPa := Lib.hid fun W (hb : Below w.heap.size w W) => hvPath_any path (by unfold maxLen; omega) W (HW.out.l.below hb)
          rw [hpp] at HPa
          obtain ⟨W9, hW9⟩ : ∃ W, ((w8.alloc (.cells #[.slice xA 1 xc] 36)).alloc (.cells #[.int .i64 0, .int .i64 0, .int .i64 0] 38)) = W := ⟨_, rfl⟩
          have hb89 : Below w8.heap.size w8 W9 := by rw [← hW9]; exact Hv.bl (Hv.bl1 _ _) _
          have HB9 := Lib.hid (below_then HB8.out hb89)
          have HA9 := Lib.hid (HA8.out.call hb89)
          have HR9 := Lib.hid (hR.call hb89)
          have HX9 : Hid (At W9 w8.heap.size [.slice xA 1 xc]) := by show At _ _ _; rw [← hW9]; exact (At.new _ _ _).allocO _
          have HF9 : Hid (At W9 (w8.heap.size + 1) [.int .i64 0, .int .i64 0, .int .i64 0]) := by
            have h := At.new (w8.alloc (.cells #[.slice xA 1 xc] 36)) #[.int .i64 0, .int .i64 0, .int .i64 0] 38
            rw [World.size_alloc, hW9] at h
            exact h
          have HW9 := Lib.hid hW9
          clear hb hb89 hW9 hR hpp a0 a1 a2 a3 a4 z1
          go_wp2_with fail
          rw [HW9.out]
          refine (HPa.out _ HB9.out).mono ?_
          rintro e w10 ⟨rfl, hb⟩
          have HB10 := Lib.hid (below_then HB9.out hb)
          have HA10 := Lib.hid (HA9.out.call hb)
          have HF10 := Lib.hid (HF9.out.call hb)
          have HX10 := Lib.hid (HX9.out.call hb)
          have HFi := Lib.hid (hvFind_one path xA xc [⟨nm, kd, tx, nu, by_⟩] evs w10 (Nat.le_refl _) (by simp) (HR9.out.call hb))
          have x0 := HX10.out.cell 0 _ rfl
          have x1 := HX10.out.lt
          clear hb
          go_wp2_with fail
          refine HFi.out.mono ?_
          rintro e w11 ⟨v', rfl, hrow, hb⟩
          have hrow1 : Hv.Row w11 w11.heap.size 5 1 v' ([(⟨nm, kd, tx, nu, by_⟩ : Hv.V)].flatMap Hv.V.cells) := hrow
          obtain ⟨vA, vc, rfl, hv1, hv2, hrd⟩ := hrow1
          obtain ⟨W12, hW12⟩ : ∃ W, w11.alloc (.cells #[.string path, .slice vA 1 vc] 44) = W := ⟨_, rfl⟩
          have hb12 : Below w11.heap.size w11 W12 := by rw [← hW12]; exact Hv.bl1 _ _
          have HB11 := Lib.hid (below_then HB10.out hb)
          have HB12 := Lib.hid (below_then HB11.out hb12)
          have HA12 := Lib.hid ((HA10.out.call hb).call hb12)
          have HF12 := Lib.hid ((HF10.out.call hb).call hb12)
          have HK12 : Hid (At W12 w11.heap.size [.string path, .slice vA 1 vc]) := by show At _ _ _; rw [← hW12]; exact At.new _ _ _
          have hrd12 : Hv.Row W12 W12.heap.size 5 1 (.slice vA 1 vc) (Hv.V.cells ⟨nm, kd, tx, nu, by_⟩) := ⟨vA, vc, rfl, hv1, hv2, by
            have h := (hrd.below hb12).more hb12.size
            simpa using h⟩
          have HGt := Lib.hid (hvGet_one path nm kd tx nu by_ (.slice vA 1 vc) W12 hrd12)
          obtain ⟨b0, b1, b2, b3, b4, _⟩ := Ink.At.fiveI (HA10.out.call hb)
          have y1 := (HA10.out.call hb).lt
          have HW12 := Lib.hid hW12
          clear hb hb12 hW12 hrow hrd hrd12 x0 x1 hv1 hv2
          go_wp2_with fail
          rw [HW12.out]
          refine HGt.out.mono ?_
          rintro e w13 ⟨rfl, hb⟩
          have HB13 := Lib.hid (below_then HB12.out hb)
          obtain ⟨c0, c1, c2, _⟩ := (HF12.out.call hb).three
          have z1 := (HF12.out.call hb).lt
          obtain ⟨d0, d1, _⟩ := (HK12.out.call hb).two
          have z2 := (HK12.out.call hb).lt
          obtain ⟨a0, a1, a2, a3, a4, _⟩ := Ink.At.fiveI (HA12.out.call hb)
          have z3 := (HA12.out.call hb).lt
          clear hb b0 b1 b2 b3 b4 y1
          go_wp2
          go_ret
          exact ⟨rfl, Hv.bl HB13.out _⟩
end Go.Proofs.YtmnolcjmnddbnaaGreatDoor

/- A hive, and a value, among a row's arguments, opened: their strings obey the form's reach. -/
namespace Go.Proofs.YtmnolcjmnddbnaaGreatDoor
open Go.Deep
open Go.ChangeShapes Go.WideShapes Go.ChangeAt Go.RowKit Go.Joins
namespace Hv
theorem list_lt {α : Type} {p : Nat → α → Prop} : ∀ n : Nat, (∀ i, i < n → ∃ a, p i a) → ∃ xs : List α, xs.length = n ∧ ∀ i a, xs[i]? = some a → p i a
  | 0, _ => ⟨[], rfl, fun i a h => by simp at h⟩
  | n + 1, h => by
    obtain ⟨xs, h1, h2⟩ := list_lt n fun i hi => h i (by omega)
    obtain ⟨a, ha⟩ := h n (by omega)
    refine ⟨xs ++ [a], by simp [h1], fun i b hb => ?_⟩
    rcases Nat.lt_or_ge i n with hi | hi
    · rw [List.getElem?_append_left (by omega)] at hb
      exact h2 i b hb
    · rw [List.getElem?_append_right (by omega)] at hb
      have h3 : i - xs.length < 1 := by
        have := (List.getElem?_eq_some_iff.1 hb).1
        simpa using this
      have h4 : i = n := by omega
      subst h4
      rw [show i - xs.length = 0 by omega] at hb
      simp only [List.getElem?_cons_zero, Option.some.injEq] at hb
      rw [← hb]
      exact ha
theorem cells_flat {α : Type} {cells : α → List Value} {m : Nat} {w : World} {A : Addr} (hm : ∀ a, (cells a).length = m) : ∀ (xs : List α) (o : Nat), (∀ i a, xs[i]? = some a → ∀ k u, (cells a)[k]? = some u → w.cell? (A.add (o + (i * m + k))) = some u) →
    ∀ j u, (xs.flatMap cells)[j]? = some u → w.cell? (A.add (o + j)) = some u
  | [], o, h, j, u, hj => by simp at hj
  | a :: xs, o, h, j, u, hj => by
    rw [List.flatMap_cons] at hj
    rcases Nat.lt_or_ge j m with hlt | hge
    · rw [List.getElem?_append_left (by rw [hm]; exact hlt)] at hj
      have := h 0 a rfl j u hj
      rwa [Nat.zero_mul, Nat.zero_add] at this
    · rw [List.getElem?_append_right (by rw [hm]; exact hge), hm] at hj
      have := cells_flat hm xs (o + m) (fun i b hb k v hv => by
        have := h (i + 1) b (by simpa using hb) k v hv
        rwa [show o + ((i + 1) * m + k) = o + m + (i * m + k) by rw [Nat.add_mul]; omega] at this) (j - m) u hj
      rwa [show o + m + (j - m) = o + j by omega] at this
theorem flat_len {α : Type} {cells : α → List Value} {m : Nat} (hm : ∀ a, (cells a).length = m) : ∀ xs : List α, (xs.flatMap cells).length = xs.length * m
  | [] => by simp
  | a :: l => by rw [List.flatMap_cons, List.length_append, hm, flat_len hm l, List.length_cons, Nat.add_mul]; omega

theorem weights_mem_all {H : Type} {P : Program} {e : TypeId} : ∀ {l : List (DataW H)} {d : DataW H}, d ∈ l → ∀ n ∈ d.weights P e, n ∈ DataW.weightsAll P e l
  | [], _, h, _, _ => by cases h
  | a :: l, d, h, n, hn => by
    unfold DataW.weightsAll
    rcases List.mem_cons.1 h with rfl | h
    · exact List.mem_append_left _ hn
    · exact List.mem_append_right _ (weights_mem_all h n hn)
/-- All that a datum weighs is within the reach. -/
def Lite {H : Type} (P : Program) (t : TypeId) (d : DataW H) : Prop := ∀ n ∈ d.weights P t, n ≤ reachBytes
theorem Lite.str {H : Type} {P : Program} {t : TypeId} {s : ByteArray} (h : Lite P t (.lit (.string s.data.toList) : DataW H)) : far s := by
  have := h s.data.toList.length (by unfold DataW.weights; exact List.mem_singleton.2 rfl)
  rw [Array.length_toList] at this
  exact Nat.le_trans this (by decide)
theorem Lite.elem {H : Type} {P : Program} {t e : TypeId} {l r : List (DataW H)} {d : DataW H} (ht : P.underlying t = some (.slice e)) (h : Lite P t (.slice l r : DataW H)) (hd : d ∈ l) : Lite P e d := fun n hn => h n (by
  unfold DataW.weights
  rw [ht]
  exact List.mem_cons_of_mem _ (List.mem_append_left _ (weights_mem_all hd n hn)))
theorem Lite.part {H : Type} {P : Program} {t : TypeId} {fs : Array Field} {l : List (DataW H)} {d : DataW H} {i : Nat} {f : Field} (ht : P.underlying t = some (.struct fs)) (h : Lite P t (.agg l : DataW H)) (hi : fs[i]? = some f) (hd : l[i]? = some d) : Lite P f.type d := fun n hn => h n (by
  unfold DataW.weights
  rw [ht]
  exact DataW.weights_mem_each (show (fs.toList.map (·.type))[i]? = some f.type by rw [List.getElem?_map, Array.getElem?_toList, hi]; rfl) hd n hn)
theorem Lite.arg {H : Type} {P : Program} {ts : List TypeId} {ds : List (DataW H)} {j : Nat} {t : TypeId} {d : DataW H} (hz : (DataW.weightsEach P ts ds).all (· ≤ reachBytes) = true) (hj : ts[j]? = some t) (hd : ds[j]? = some d) : Lite P t d :=
  fun n hn => of_decide_eq_true (List.all_eq_true.1 hz _ (DataW.weights_mem_each hj hd n hn))
/-- A slice of records, opened: what each of its elements is. -/
theorem open_rows {H : Type} {enc : TypeId × Value → H} {P : Program} {w : World} {base : Nat} {spare : Nat → Bool} {held : Bool} {fuel : Nat} {cs : List Value} {x : DataW H × List MemPlace} {t e : TypeId} {m : Nat} {α : Type} {cells : α → List Value} {Good : α → Prop}
    (ht : P.underlying t = some (.slice e)) (hc : P.cellsOf e = m) (hm0 : 0 < m) (hm : ∀ a, (cells a).length = m)
    (hel : ∀ n cs x, cs.length = m → DataW.trod enc P w base spare held n e cs = some x → Lite P e x.1 → ∃ a, cs = cells a ∧ Good a)
    (h : DataW.trod enc P w base spare held fuel t cs = some x) (hL : Lite P t x.1) : ∃ (v : Value) (xs : List α), cs = [v] ∧ Row w w.heap.size m xs.length v (xs.flatMap cells) ∧ ∀ a ∈ xs, Good a := by
  rcases open_slice ht h with ⟨rfl, _⟩ | ⟨A, len, cap, k, n, D, Pl, rfl, hb, hl, hcm, hk, rfl, hx⟩
  · exact ⟨_, [], rfl, ⟨none, 0, rfl, Nat.le_refl _, by decide, by simp, fun h => absurd h (by simp)⟩, fun a ha => by cases ha⟩
  · have hlk : len ≤ k := by rw [hk]; split <;> omega
    obtain ⟨xs, h1, h2⟩ := list_lt (p := fun i a => w.cells? base (A.add (i * m)) m = some (cells a) ∧ Good a) len (fun i hi => by
      obtain ⟨cs', c1, c2⟩ := hx i (by omega)
      rw [hc] at c1
      obtain ⟨a, rfl, ha⟩ := hel n cs' _ (World.cells?_some c1).2.1 c2 (hL.elem ht (List.mem_map.2 ⟨i, List.mem_range.2 hi, rfl⟩))
      exact ⟨a, c1, ha⟩)
    subst h1
    refine ⟨_, xs, rfl, ⟨some A, cap, rfl, by omega, hcm, ?_, fun hn => ⟨A, rfl, ?_, ?_⟩⟩, fun a ha => ?_⟩
    · exact flat_len hm xs
    · have h3 := (h2 0 xs[0] (List.getElem?_eq_getElem hn)).1
      have h4 := World.cells?_block h3 hm0
      rwa [block_of_add] at h4
    · intro j u hj
      have := cells_flat (w := w) (A := A) hm xs 0 (fun i a hi k v hv => by
        have h3 := World.cells?_some (h2 i a hi).1
        have h4 : k < m := by rw [← hm a]; exact (List.getElem?_eq_some_iff.1 hv).1
        have h5 := h3.2.2 k h4
        rw [add_of_add] at h5
        rw [Nat.zero_add, h5, hv]) j u hj
      rwa [Nat.zero_add] at this
    · obtain ⟨i, hi, e⟩ := List.getElem_of_mem ha
      exact (h2 i a (by rw [List.getElem?_eq_getElem hi, e])).2
theorem struct1 {H : Type} {enc : TypeId × Value → H} {P : Program} {w : World} {base : Nat} {spare : Nat → Bool} {held : Bool} {t : TypeId} {f0 : Field} {fuel : Nat} {cs : List Value} {x : DataW H × List MemPlace} (ht : P.underlying t = some (.struct #[f0])) (h : DataW.trod enc P w base spare held fuel t cs = some x) :
    ∃ y0 n, x.1 = .agg [y0.1] ∧ DataW.trod enc P w base spare held n f0.type ((cs.drop f0.offset).take (P.cellsOf f0.type)) = some y0 := by
  obtain ⟨xs, n, _, rfl, _, hlen, hf⟩ := DataW.trod_struct ht h
  match xs, hlen with
  | [y0], _ => exact ⟨y0, n, rfl, by simpa using hf 0 f0 rfl⟩
theorem struct2 {H : Type} {enc : TypeId × Value → H} {P : Program} {w : World} {base : Nat} {spare : Nat → Bool} {held : Bool} {t : TypeId} {f0 f1 : Field} {fuel : Nat} {cs : List Value} {x : DataW H × List MemPlace} (ht : P.underlying t = some (.struct #[f0, f1])) (h : DataW.trod enc P w base spare held fuel t cs = some x) :
    ∃ y0 y1 n, x.1 = .agg [y0.1, y1.1] ∧ DataW.trod enc P w base spare held n f0.type ((cs.drop f0.offset).take (P.cellsOf f0.type)) = some y0 ∧
      DataW.trod enc P w base spare held n f1.type ((cs.drop f1.offset).take (P.cellsOf f1.type)) = some y1 := by
  obtain ⟨xs, n, _, rfl, _, hlen, hf⟩ := DataW.trod_struct ht h
  match xs, hlen with
  | [y0, y1], _ => exact ⟨y0, y1, n, rfl, by simpa using hf 0 f0 rfl, by simpa using hf 1 f1 rfl⟩
theorem struct5 {H : Type} {enc : TypeId × Value → H} {P : Program} {w : World} {base : Nat} {spare : Nat → Bool} {held : Bool} {t : TypeId} {f0 f1 f2 f3 f4 : Field} {fuel : Nat} {cs : List Value} {x : DataW H × List MemPlace} (ht : P.underlying t = some (.struct #[f0, f1, f2, f3, f4])) (h : DataW.trod enc P w base spare held fuel t cs = some x) :
    ∃ y0 y1 y2 y3 y4 n, x.1 = .agg [y0.1, y1.1, y2.1, y3.1, y4.1] ∧ DataW.trod enc P w base spare held n f0.type ((cs.drop f0.offset).take (P.cellsOf f0.type)) = some y0 ∧
      DataW.trod enc P w base spare held n f1.type ((cs.drop f1.offset).take (P.cellsOf f1.type)) = some y1 ∧
      DataW.trod enc P w base spare held n f2.type ((cs.drop f2.offset).take (P.cellsOf f2.type)) = some y2 ∧
      DataW.trod enc P w base spare held n f3.type ((cs.drop f3.offset).take (P.cellsOf f3.type)) = some y3 ∧
      DataW.trod enc P w base spare held n f4.type ((cs.drop f4.offset).take (P.cellsOf f4.type)) = some y4 := by
  obtain ⟨xs, n, _, rfl, _, hlen, hf⟩ := DataW.trod_struct ht h
  match xs, hlen with
  | [y0, y1, y2, y3, y4], _ => exact ⟨y0, y1, y2, y3, y4, n, rfl, by simpa using hf 0 f0 rfl, by simpa using hf 1 f1 rfl, by simpa using hf 2 f2 rfl, by simpa using hf 3 f3 rfl, by simpa using hf 4 f4 rfl⟩
theorem u8_range {c : Int} (h : (Lit.int .u8 c).wf = true) : 0 ≤ c ∧ c ≤ 255 := by
  simpa [Lit.wf, IntKind.min, IntKind.max, IntKind.signed, IntKind.bits] using h
theorem u32_range {c : Int} (h : (Lit.int .u32 c).wf = true) : 0 ≤ c ∧ c ≤ 4294967295 := by
  simpa [Lit.wf, IntKind.min, IntKind.max, IntKind.signed, IntKind.bits] using h
theorem list5 {α : Type} {l : List α} (h : l.length = 5) : ∃ a b c d e, l = [a, b, c, d, e] := by
  match l, h with
  | [a, b, c, d, e], _ => exact ⟨a, b, c, d, e, rfl⟩
theorem list2 {α : Type} {l : List α} (h : l.length = 2) : ∃ a b, l = [a, b] := by
  match l, h with
  | [a, b], _ => exact ⟨a, b, rfl⟩
theorem zip_fs {α β : Type} (l : List (α × β)) : (l.map (·.1)).zip (l.map (·.2)) = l := by
  induction l with
  | nil => rfl
  | cons a l ih => rw [List.map_cons, List.map_cons, List.zip_cons_cons, ih]
set_option maxRecDepth 100000 in
theorem open_val_cells {H : Type} {enc : TypeId × Value → H} {w : World} {base : Nat} {spare : Nat → Bool} {held : Bool} {fuel : Nat} {cs : List Value} {x : DataW H × List MemPlace} (hl : cs.length = 5)
    (h : DataW.trod enc Tryz.prog w base spare held fuel 25 cs = some x) (hL : Lite Tryz.prog 25 x.1) : ∃ v : V, cs = v.cells ∧ v.Ok ∧ v.Far := by
  have q0 : Tryz.prog.cellsOf 9 = 1 := by kernel_rfl
  have q1 : Tryz.prog.cellsOf 22 = 1 := by kernel_rfl
  have q2 : Tryz.prog.cellsOf 23 = 1 := by kernel_rfl
  obtain ⟨c0, c1, c2, c3, c4, rfl⟩ := list5 hl
  obtain ⟨y0, y1, y2, y3, y4, n, hx, h0, h1, h2, h3, h4⟩ := struct5 Tryz.underlying25 h
  rw [hx] at hL
  simp only [q0, q1, q2, List.drop, List.take] at h0 h1 h2 h3 h4
  obtain ⟨nm, e0, d0, wn⟩ := DataW.trod_string Tryz.underlying9 h0
  obtain ⟨k, e1, _, wk⟩ := DataW.trod_int Tryz.underlying22 h1
  obtain ⟨tx, e2, d2, wt⟩ := DataW.trod_string Tryz.underlying9 h2
  obtain ⟨nu, e3, _, wu⟩ := DataW.trod_int Tryz.underlying23 h3
  obtain ⟨bs, e4, d4, wb⟩ := DataW.trod_string Tryz.underlying9 h4
  simp only [List.cons.injEq, and_true] at e0 e1 e2 e3 e4
  subst e0 e1 e2 e3 e4
  have hk := u8_range wk
  have hu := u32_range wu
  have f0 : far nm := Lite.str (H := H) (P := Tryz.prog) (t := 9) (by have := hL.part Tryz.underlying25 (i := 0) rfl (d := y0.1) rfl; rw [d0] at this; exact this)
  have f2 : far tx := Lite.str (H := H) (P := Tryz.prog) (t := 9) (by have := hL.part Tryz.underlying25 (i := 2) rfl (d := y2.1) rfl; rw [d2] at this; exact this)
  have f4 : far bs := Lite.str (H := H) (P := Tryz.prog) (t := 9) (by have := hL.part Tryz.underlying25 (i := 4) rfl (d := y4.1) rfl; rw [d4] at this; exact this)
  exact ⟨⟨nm, k, tx, nu, bs⟩, rfl, ⟨wn, wt, wb, hk.1, hk.2, hu.1, hu.2⟩, f0, f2, f4⟩
set_option maxRecDepth 100000 in
theorem open_key_cells {H : Type} {enc : TypeId × Value → H} {w : World} {base : Nat} {spare : Nat → Bool} {held : Bool} {fuel : Nat} {cs : List Value} {x : DataW H × List MemPlace} (hl : cs.length = 2)
    (h : DataW.trod enc Tryz.prog w base spare held fuel 44 cs = some x) (hL : Lite Tryz.prog 44 x.1) : ∃ p : K × Value, cs = kc p ∧ Row w w.heap.size 5 p.1.vals.length p.2 (p.1.vals.flatMap V.cells) ∧ p.1.Ok ∧ ∀ v ∈ p.1.vals, v.Far := by
  have q0 : Tryz.prog.cellsOf 9 = 1 := by kernel_rfl
  have q1 : Tryz.prog.cellsOf 42 = 1 := by kernel_rfl
  obtain ⟨c0, c1, rfl⟩ := list2 hl
  obtain ⟨y0, y1, n, hx, h0, h1⟩ := struct2 Tryz.underlying44 h
  rw [hx] at hL
  simp only [q0, q1, List.drop, List.take] at h0 h1
  obtain ⟨pt, e0, _, wp⟩ := DataW.trod_string Tryz.underlying9 h0
  obtain ⟨v, vs, e1, hr, hv⟩ := open_rows (cells := V.cells) (Good := fun v => v.Ok ∧ v.Far) Tryz.underlying42 (by kernel_rfl) (show 0 < 5 by decide) (fun _ => rfl) (fun n cs x hl hx hw => open_val_cells hl hx hw) h1 (hL.part Tryz.underlying44 (i := 1) rfl (d := y1.1) rfl)
  simp only [List.cons.injEq, and_true] at e0 e1
  subst e0 e1
  exact ⟨(⟨pt, vs⟩, c1), rfl, hr, ⟨wp, fun v hv2 => (hv v hv2).1⟩, fun v hv2 => (hv v hv2).2⟩
set_option maxRecDepth 100000 in
theorem open_hive {H : Type} {enc : TypeId × Value → H} {w : World} {base : Nat} {spare : Nat → Bool} {held : Bool} {r : Reach} {b0 : Nat} {v : Value} {d : DataW H} {p : List MemPlace}
    (hv : Value.okWide Tryz.prog w r b0 36 v) (h : DataW.Trod enc Tryz.prog w base spare held 36 v d p) (hL : Lite Tryz.prog 36 d) :
    ∃ (l : List K) (A : Option Addr) (n c : Nat) (evs : List Value), v = .agg #[.slice A n c] ∧ HR w w.heap.size l (.slice A n c) evs ∧ l.length = n ∧ n ≤ maxLen ∧ (∀ k ∈ l, k.Ok) ∧ ∀ k ∈ l, ∀ v ∈ k.vals, v.Far := by
  have q3 : Tryz.prog.cellsOf 36 = 1 := by kernel_rfl
  have q0 : Tryz.prog.cellsOf 34 = 1 := by kernel_rfl
  obtain ⟨cs, rfl, hsz⟩ := okWide_struct Tryz.underlying36 hv
  obtain ⟨fuel, hf0⟩ := h
  obtain ⟨l⟩ := cs
  have hl3 : l.length = 1 := hsz.trans q3
  match l, hl3 with
  | [c0], _ =>
    obtain ⟨y0, n, hx, h0⟩ := struct1 Tryz.underlying36 hf0
    simp only at hx
    rw [hx] at hL
    simp only [q0, Value.cells, List.drop, List.take] at h0
    obtain ⟨v, ks, e0, hr, hk⟩ := open_rows (cells := kc) (Good := fun p => Row w w.heap.size 5 p.1.vals.length p.2 (p.1.vals.flatMap V.cells) ∧ p.1.Ok ∧ ∀ v ∈ p.1.vals, v.Far) Tryz.underlying34 (by kernel_rfl) (show 0 < 2 by decide) (fun _ => rfl) (fun n cs x hl hx hw => open_key_cells hl hx hw) h0 (hL.part Tryz.underlying36 (i := 0) rfl (d := y0.1) rfl)
    simp only [List.cons.injEq, and_true] at e0
    subst e0
    obtain ⟨A, c, e9, h1, h2, _⟩ := id hr
    subst e9
    refine ⟨ks.map (·.1), A, ks.length, c, ks.map (·.2), rfl, ⟨?_, by simp, fun q hq => ?_⟩, by simp, Nat.le_trans h1 h2, fun q hq => ?_, fun q hq => ?_⟩
    · rw [zip_fs]
      simpa using hr
    · rw [zip_fs] at hq
      exact (hk q hq).1
    · rw [List.mem_map] at hq
      obtain ⟨x, hx, rfl⟩ := hq
      exact (hk x hx).2.1
    · rw [List.mem_map] at hq
      obtain ⟨x, hx, rfl⟩ := hq
      exact (hk x hx).2.2
set_option maxRecDepth 100000 in
theorem open_val {H : Type} {enc : TypeId × Value → H} {w : World} {base : Nat} {spare : Nat → Bool} {held : Bool} {r : Reach} {b0 : Nat} {v : Value} {d : DataW H} {p : List MemPlace}
    (hv : Value.okWide Tryz.prog w r b0 25 v) (h : DataW.Trod enc Tryz.prog w base spare held 25 v d p) (hL : Lite Tryz.prog 25 d) :
    ∃ x : V, v = x.v ∧ x.Ok ∧ x.Far := by
  have q3 : Tryz.prog.cellsOf 25 = 5 := by kernel_rfl
  obtain ⟨cs, rfl, hsz⟩ := okWide_struct Tryz.underlying25 hv
  obtain ⟨fuel, hf0⟩ := h
  obtain ⟨l⟩ := cs
  have hl3 : l.length = 5 := hsz.trans q3
  obtain ⟨x, e, ho, hf⟩ := open_val_cells (x := (d, p)) hl3 hf0 hL
  subst e
  exact ⟨x, rfl, ho, hf⟩
end Hv
end Go.Proofs.YtmnolcjmnddbnaaGreatDoor

/-
  TopValues: whatever comes in, the law returns true and each argument reads as it did.
  Conditions: the listed package-level tables read as the program's text lays them (the card ties them to it).
-/
namespace Go.Proofs.YtmnolcjmnddbnaaGreatDoor.topValues
open Go.ChangeShapes Go.WideShapes Go.ChangeAt Go.RowKit Go.Joins
open Go.ChangeMaps (open_string shut_string)

theorem u8_nonneg {c : Int} (h : (Lit.int .u8 c).wf = true) : 0 ≤ c := by
  have : 0 ≤ c ∧ c ≤ 255 := by simpa [Lit.wf, IntKind.min, IntKind.max, IntKind.signed, IntKind.bits] using h
  exact this.1
theorem own : ownKnob Tryz.prog.godebug = none := by kernel_rfl
theorem laidOut : laidOutB Tryz.prog = true := by kernel_rfl
theorem g_brujn : Tryz.prog.globalNamed "math/bits.deBruijn64tab" = some 7 := by kernel_rfl
theorem t_brujn : (Tryz.prog.globals[7]?).map (·.type) = some 157 := by kernel_rfl

/-- What the program's variables hold where the call begins. -/
theorem wo_of {W : World} (h : laidMetH Tryz.prog Rows.topValuesRow.laid W) (hS : W.ShapedOpen Tryz.prog) : Wg W := by
  have h0 : laidMet Tryz.prog Rows.topValuesRow.laid W := h
  have h1 := h0.tail
  have x_brujn : Lib.TabIs Tryz.prog W "math/bits.deBruijn64tab" .u8 [0, 1, 56, 2, 57, 49, 28, 3, 61, 58, 42, 50, 38, 29, 17, 4, 62, 47, 59, 36, 45, 43, 51, 22, 53, 39, 33, 30, 24, 18, 12, 5, 63, 55, 48, 27, 60, 41, 37, 16, 46, 35, 44, 21, 52, 32, 23, 11, 54, 26, 40, 15, 34, 20, 31, 10, 25, 14, 19, 9, 13, 8, 7, 6] := Lib.tabIs_of_head g_brujn t_brujn Tryz.underlying157 Tryz.underlying5 (by kernel_rfl) (by kernel_rfl) h1
  exact ⟨⟨(Go.Proofs.cell_of_shapedOpen_int (g := 0) (zero := #[.int .i64 0]) (t := 3) hS (of_decide_eq_true (by kernel_rfl)) (by kernel_rfl) rfl (by kernel_rfl) (by kernel_rfl) Tryz.underlying3)⟩, ⟨x_brujn.cell g_brujn 15 (by decide)⟩⟩

noncomputable def laidWorld (os : Os) : World :=
  { World.doorLaid Tryz.prog 4000 os with heap := (World.doorLaid Tryz.prog 4000 os).heap.modify 4 fun
      | .cells _ t frozen => .cells ((Go.Pinned.utf8FirstZ.map fun (z : Nat) => Value.int .u8 (Int.ofNat z)).toArray) t frozen
      | o => o }
theorem laid_met (os : Os) : laidMet Tryz.prog Rows.topValuesRow.laid ((laidWorld os).forCall (fun _ _ => 0) ⟨#[], #[.agg #[.string ⟨#[]⟩, .int .u8 0, .string ⟨#[]⟩, .int .u32 0, .string ⟨#[]⟩], .string ⟨#[]⟩], []⟩).memory :=
  laidMet_of_run' 8 (by kernel_rfl) (by kernel_rfl)
theorem reads (os : Os) {H : Type} (enc : TypeId × Value → H) : ∃ places, DataW.whole enc Tryz.prog ((laidWorld os).forCall (fun _ _ => 0) ⟨#[], #[.agg #[.string ⟨#[]⟩, .int .u8 0, .string ⟨#[]⟩, .int .u32 0, .string ⟨#[]⟩], .string ⟨#[]⟩], []⟩).memory Tryz.f3.params.toList Rows.topValuesSpec.vars false #[Value.agg #[.string ⟨#[]⟩, .int .u8 0, .string ⟨#[]⟩, .int .u32 0, .string ⟨#[]⟩], .string ⟨#[]⟩].toList 8 = some ([.agg [.lit (.string []), .lit (.int .u8 0), .lit (.string []), .lit (.int .u32 0), .lit (.string [])], .lit (.string [])], [], places) :=
  ⟨[], by kernel_rfl⟩

set_option maxRecDepth 100000 in
set_option maxHeartbeats 4000000 in
theorem contract (H : Type) (enc : TypeId × Value → H) (W : World) (base : Nat) (args : Array Value) (ds gs : List (DataW H)) (before : List MemPlace)
    (hval : ∀ (j : Nat) t v, Tryz.f3.params[j]? = some t → args[j]? = some v → Value.okWide Tryz.prog W .any base t v)
    (hW : DataW.Whole enc Tryz.prog Tryz.f3.params.toList Rows.topValuesSpec.vars false W args.toList ds gs before) (hL : laidMetH Tryz.prog Rows.topValuesRow.laid W) (hS : W.ShapedOpen Tryz.prog) (hz : (DataW.weightsEach Tryz.prog (Tryz.f3.params.toList ++ (OpenSpec.ofChange Rows.topValuesSpec).bare.plain.varTypes Tryz.prog) (ds ++ gs)).all (· ≤ reachBytes) = true) :
    Calls Tryz.prog 3 args W fun e W' => ∃ v, e = .returned v ∧ Rows.topValuesSpec.post enc Tryz.prog Tryz.f3 false true false false W args v W' := by
  have hW' := hW
  obtain ⟨p, q, hA0, hV, rfl, hfz, hnd⟩ := hW
  have hA : DataW.TrodAll enc Tryz.prog W 0 (fun _ => true) true Tryz.f3.params.toList args.toList ds p := hA0
  rw [Tryz.params3] at hA hval
  obtain ⟨v0, vs0, d0, ds0, p0, q0, hargs, rfl, rfl, h0, r0⟩ := trodAll_cons hA
  obtain ⟨v1, vs1, d1, ds1, p1, q1, rfl, rfl, rfl, h1, r1⟩ := trodAll_cons r0
  obtain ⟨rfl, rfl, rfl⟩ := trodAll_nil r1
  obtain rfl : args = #[v0, v1] := by cases args; simp_all
  obtain ⟨rfl, rfl⟩ := trodVars_none hV
  have k0 := h0
  have lt0 : ∀ x ∈ p0, x.block < W.heap.size := by obtain ⟨m, hm⟩ := k0; exact DataW.trod_lt m _ _ _ hm
  obtain ⟨x0, rfl, hvo0, hvf0⟩ := Hv.open_val (hval 0 25 v0 rfl rfl) h0 (Hv.Lite.arg hz (j := 0) rfl rfl)
  obtain ⟨path, rfl, rfl, rfl, wpath⟩ := open_string Tryz.underlying9 (hval 1 9 v1 rfl rfl) h1
  have sz1 : path.size ≤ 140737488355328 := by
    have := Go.sized_string hz (j := 1) (t := 9) (bytes := path.data.toList) rfl rfl
    rw [Array.length_toList] at this
    exact Nat.le_trans this (by decide)
  clear hA0
  refine (topValues_any x0 path W (wo_of hL hS) hvo0 hvf0 sz1).mono fun e W' ⟨he, bel⟩ => ?_
  subst he
  exact ⟨_, rfl, _, _, _, [], _, [], hW', trodAll_mk1 (shut_bool Tryz.underlying4 _), (trodAll_cons_mk (Below.trod laidOut (by kernel_rfl) (of_decide_eq_true (by kernel_rfl)) k0 bel lt0) (trodAll_cons_mk (shut_string Tryz.underlying9 wpath) trodAll_mk0)), rfl, bel.frame _, fun h => by cases h⟩

set_option maxRecDepth 100000 in
theorem lifted (os : Os) (started : os.Started) (H : Type) (enc : TypeId × Value → H) (F : Stop.Interp) :
    ReturnsInHanded {} Tryz.checked os 3 .any ((OpenSpec.ofChange Rows.topValuesSpec).preRow enc Tryz.prog Tryz.f3 Rows.topValuesRow.domain false Rows.topValuesRow.laid) (((OpenSpec.ofChange Rows.topValuesSpec).at F).post enc Tryz.prog Tryz.f3 false true false false) := by
  obtain ⟨places, hx⟩ := reads os enc
  refine returnsInHanded_of_row (C := Tryz.checked) (s := OpenSpec.ofChange Rows.topValuesSpec) own started (by kernel_rfl) Tryz.func3
    (witness_row_at (enc := enc) (C := Tryz.checked) false (laidWorld os) #[.agg #[.string ⟨#[]⟩, .int .u8 0, .string ⟨#[]⟩, .int .u32 0, .string ⟨#[]⟩], .string ⟨#[]⟩] rfl (by kernel_rfl) (by kernel_rfl) (by kernel_rfl)
      (OpenSpec.preRow_of_cond 8 hx (by kernel_rfl) (fun k hk => by cases hk) (by kernel_rfl) (laid_met os))) ?_
  intro W base args ds gs before hval hW _ _ hz hL hS _
  exact contract H enc W base args ds gs before hval hW hL hS hz

theorem said : Rows.TopValuesSaid :=
  OpenClaim.holds_of_cond 3 Tryz.f3 rfl rfl rfl rfl rfl rfl rfl ⟨rfl, rfl, rfl, rfl, rfl⟩ rfl rfl rfl rfl rfl (by kernel_rfl) Tryz.func3 (by kernel_rfl)
    (of_decide_eq_true (by kernel_rfl)) (by unfold Func.isWrapper; first | (rw [if_pos (by decide +kernel)]; kernel_rfl) | (rw [if_neg (by decide +kernel)]; exact ⟨rfl, rfl⟩))
    (fun os started H enc _ F => by rw [OpenClaim.pre_eq_preRow]; exact lifted os started H enc F)

/-- No parameter wants a stand-in; the program's own looks are off. -/
theorem plain (f : FuncId) (fn : Func) (hf : Tryz.pinned.checked.prog.funcNamed "solstice/solsticetop.TopValues" = some f) (hfn : Tryz.pinned.checked.prog.funcs[f]? = some fn) :
    true = Tryz.pinned.checked.prog.looks [] ∧ ∀ (j : Nat) t, fn.params[j]? = some t → Tryz.pinned.checked.prog.wantsStandIn t = false := by
  obtain rfl : f = 3 := Option.some.inj ((show Tryz.prog.funcNamed "solstice/solsticetop.TopValues" = some 3 by kernel_rfl).symm.trans hf) |>.symm
  obtain rfl : fn = Tryz.f3 := (Option.some.inj (Tryz.func3.symm.trans hfn)).symm
  refine ⟨by kernel_rfl, fun j t ht => ?_⟩
  rw [Tryz.params3] at ht
  have hm : t ∈ [25, 9] := by
    have := Array.mem_of_getElem? ht
    simp at this ⊢
    omega
  simp only [List.mem_cons, List.not_mem_nil, or_false] at hm
  rcases hm with rfl | rfl
  · exact (show Tryz.prog.wantsStandIn 25 = false by kernel_rfl)
  · exact (show Tryz.prog.wantsStandIn 9 = false by kernel_rfl)

/-- The statement: the tied card. -/
theorem card : Rows.TopValuesCardSaid :=
  Claim7.holds_tied_plain_at .later [] _ _ _ _ said (fun _ h => by cases h) (by kernel_rfl) (fun _ h => by cases h) topValues_row_tie rfl ⟨rfl, rfl⟩ (by kernel_rfl) rfl plain (by kernel_rfl)
end Go.Proofs.YtmnolcjmnddbnaaGreatDoor.topValues
