/- little.Hex: bytes as digits, parted by commas. -/
import Derived.Test.YteacncdpjbcinaaDoorEmPlain
import Derived.Test.YteacncdpjbcinaaDoorTail
import Derived.Deep.QuietTactic
import Derived.BigQuiet
import Derived.StillTailTactics
import Derived.Deep.DeepCutAuto
import Derived.Lib.UnsafeStr
import Derived.IntWalk
import Derived.Deep.RegionLaw
import Derived.Deep.AppendLies
namespace Go.Proofs.YteacncdpjbcinaaDoor
open Go.RowKit

theorem u8_info : (Tryd.prog.info? 5).map (fun i => (i.zero, i.size, i.bytes)) = some (some (.int .u8 0), 1, 1) := by kernel_rfl
namespace Em
theorem own_below {w w' : World} {base : Nat} {e : TypeId} {size : Nat} {v : Value} {n : Nat} {xs : List Value} (h : w.ownsRow base e size v n xs) (hb : Below w.heap.size w w') : w'.ownsRow base e size v n xs := by
  refine ⟨h.1, ?_⟩
  rcases h.2 with hn | ⟨g, cap, cur, hv, hbase, hg, rest⟩
  · exact .inl hn
  · have hl : g < w.heap.size := (Array.getElem?_eq_some_iff.1 hg).1
    exact .inr ⟨g, cap, cur, hv, hbase, (hb.block g hl).trans hg, rest⟩
theorem own_draw {w : World} {base : Nat} {e : TypeId} {size : Nat} {v : Value} {n : Nat} {xs : List Value} (h : w.ownsRow base e size v n xs) : w.drew.ownsRow base e size v n xs := h
theorem cells_new (w : World) (cs : Array Value) (t : TypeId) : ∀ j u, cs.toList[j]? = some u → (w.alloc (.cells cs t)).cell? ((⟨w.heap.size, 0, none⟩ : Addr).add j) = some u := fun j u hu => by
  have hadd : (⟨w.heap.size, 0, none⟩ : Addr).add j = ⟨w.heap.size, j, none⟩ := by unfold Addr.add; split <;> simp_all
  rw [hadd]
  exact (At.new w cs t).cell j u hu
theorem cells_app (a b : Txt) : Lib.byteCells (a ++ b) = Lib.byteCells a ++ Lib.byteCells b := by unfold Lib.byteCells; rw [List.map_append]
theorem cells_len' (l : Txt) : (Lib.byteCells l).length = l.length := by unfold Lib.byteCells; rw [List.length_map]
theorem byte_at (s : ByteArray) (k : Nat) (h : k < s.size) (b : UInt8) (hb : s[k] = b) : (tl s)[k]? = some b := by
  unfold tl
  rw [← hb, List.getElem?_eq_getElem (by simpa using h)]
  rfl
theorem below_drew {a w : World} (h : Below a.heap.size a w) : Below a.heap.size a w.drew := h.trans ((show Drew w w.drew from ⟨1, rfl⟩).below _)
/-- The bytes of a slice that is owned, as a text. -/
theorem bytes_back {w : World} {base n c : Nat} {A : Option Addr} {xs : List Value} {l : Txt} (h : w.ownsRow base 5 1 (.slice A n c) n xs) (hn : n = l.length) (hx : xs = Lib.byteCells l) :
    (convert 43 9 (.slice A n c)).run Tryd.prog w = .ok (.string (bts l)) w := by
  subst hn
  subst hx
  have hr := Reads.of_own h
  by_cases h0 : 0 < l.length
  · obtain ⟨ad, rfl, _, hc⟩ := hr.2 h0
    exact run_convert_bytes_back (P := Tryd.prog) w 43 9 5 ad c l Tryd.underlying43 Tryd.underlying5 Tryd.underlying9 fun j hj => hc j _ (by unfold Lib.byteCells; rw [List.getElem?_map, List.getElem?_eq_getElem hj]; rfl)
  · have : l = [] := List.eq_nil_of_length_eq_zero (by omega)
    subst this
    show (convert 43 9 (.slice A 0 c)).run Tryd.prog w = _
    rw [run_convert_bytes_string w 43 9 5 A 0 c Tryd.underlying43 Tryd.underlying5 Tryd.underlying9]
    cases A with
    | none => rfl
    | some a => exact run_bytesToString (P := Tryd.prog) w a 0 c [] (by rfl)
theorem and15u8 (m : Nat) (h : m < 256) : bits .and .u8 (m : Int) 15 = ((m % 16 : Nat) : Int) := by
  have e : (BitVec.ofInt 8 (m : Int) &&& BitVec.ofInt 8 (15 : Int)).toNat = m % 16 := by
    rw [BitVec.toNat_and]
    have e1 : (BitVec.ofInt 8 (m : Int)).toNat = m := by rw [BitVec.toNat_ofInt]; omega
    have e2 : (BitVec.ofInt 8 (15 : Int)).toNat = 2 ^ 4 - 1 := by decide
    rw [e1, e2, Nat.and_two_pow_sub_one_eq_mod]
  show IntKind.u8.wrap (((BitVec.ofInt 8 (m : Int) &&& BitVec.ofInt 8 (15 : Int)).toNat : Nat) : Int) = _
  rw [e]
  exact IntWalk.u8_in _ (by omega)
def dg16 : ByteArray := ⟨#[48, 49, 50, 51, 52, 53, 54, 55, 56, 57, 97, 98, 99, 100, 101, 102]⟩
theorem dg16_hex (x : Nat) (h : x < 16) (h' : x < dg16.size) : (dg16[x]'h') = hexd x := by
  have : ∀ x : Fin 16, dg16.data[x.val]? = some (hexd x.val) := by decide +kernel
  have h2 := this ⟨x, h⟩
  have h3 : dg16.data[x]? = some (dg16[x]'h') := by
    show _ = some (dg16.data[x]'h')
    exact Array.getElem?_eq_getElem h'
  rw [h3] at h2
  exact Option.some.inj h2
def sep (k : Nat) : Txt := if k = 0 then [] else [44]
theorem hexs_take (l : Txt) (k : Nat) (b : UInt8) (h : l[k]? = some b) : hexs (l.take (k + 1)) = hexs (l.take k) ++ sep k ++ hexb b := by
  have hk : k < l.length := (List.getElem?_eq_some_iff.1 h).1
  rw [List.take_add_one, h]
  show hexs (l.take k ++ [b]) = _
  rw [hexs_snoc]
  unfold sep
  by_cases h0 : k = 0
  · subst h0; simp
  · rw [if_neg h0, if_neg (by rw [List.take_eq_nil_iff]; intro q; rcases q with q | q; exact h0 q; rw [q] at hk; simp at hk)]
    simp
def HexC (w : World) (s : ByteArray) (k : Nat) (v : Value) (wx : World) : Prop :=
  (∃ n xs, wx.ownsRow w.heap.size 5 1 v n xs ∧ xs = Lib.byteCells (hexs ((tl s).take k) ++ sep k) ∧ n = xs.length) ∧ Below w.heap.size w wx
def HexAt (w : World) (s : ByteArray) (v i : Value) (wr : World) : Prop :=
  ∃ k : Nat, k ≤ s.size ∧ i = .int .i64 (k : Int) ∧ Hid (∃ n xs, wr.ownsRow w.heap.size 5 1 v n xs ∧ xs = Lib.byteCells (hexs ((tl s).take k)) ∧ n = xs.length) ∧ Hid (Below w.heap.size w wr)
end Em
theorem wpList_append_bytes {i0 : TypeInfo} (hi : Tryd.prog.info? 5 = some i0 ∧ i0.zero = some (.int .u8 0) ∧ i0.size = 1 ∧ i0.bytes = 1) (w : World) {ops : Array Oper} {rest : List Oper} {o : Oper} {a : Act} {Q : Exit → Act → World → Prop} (hgd : o.guard = none) (s x : Operand)
    (ho : o.op = .call { callee := .builtin .append, args := #[s, x], argTypes := #[43, 43] }) (base : Nat) (v : Value) (n : Nat) (xs : List Value) (hs : a.eval s = v) (hown : w.ownsRow base 5 1 v n xs)
    (B : Nat) (A : Option Addr) (m c : Nat) (news : List Value) (hx : a.eval x = .slice A m c) (hr : Reads w B 1 A m news) (h1 : ∀ u ∈ news, u.oneCell' = true) (hbytes : n + m ≤ 140737488355328) (hbase : base ≤ w.heap.size)
    (h : ∀ v' w', w'.ownsRow base 5 1 v' (n + m) (xs ++ news) → w.grownBy w' v.ownBlock → wpList Tryd.prog ops Q rest (a.put o.dst v') w') : wpList Tryd.prog ops Q (o :: rest) a w :=
  wpList_append_any w hgd s x 43 ho base 5 i0 (.int .u8 0) 1 1 Tryd.underlying43 hi.1 hi.2.1 hi.2.2.1 hi.2.2.2 rfl (by decide) v n xs hs hown B A m c news hx hr h1 (by unfold maxLen; omega) (by omega) hbase (fun v' w' h2 h3 _ => h v' w' h2 h3)
theorem reads_lit (w : World) (cs : Array Value) (t : TypeId) : Reads (w.alloc (.cells cs t)) (w.heap.size + 1) 1 (some ⟨w.heap.size, 0, none⟩) cs.size cs.toList := by
  refine ⟨by simp, fun _ => ⟨_, rfl, Nat.lt_succ_self _, fun j u hu => ?_⟩⟩
  have e : (⟨w.heap.size, 0, none⟩ : Addr).add j = ⟨w.heap.size, j, none⟩ := by
    unfold Addr.add
    split
    · subst_vars; rfl
    · simp
  rw [e]
  exact (At.new w cs t).cell j u hu
set_option maxHeartbeats 4000000 in
set_option maxRecDepth 100000 in
theorem hex_any (s : ByteArray) (hs : s.size ≤ 1000000) (w : World) :
    Calls Tryd.prog 27 #[.string s] w fun e w' => e = .returned (.string (Em.bts (Em.hexs (tl s)))) ∧ Below w.heap.size w w' := by
  obtain ⟨i0, hi0, hz0, hz1, hz2⟩ := info_parts u8_info
  have hmk := fun W : World => run_make (P := Tryd.prog) W 43 5 i0 _ Tryd.underlying43 hi0 hz0 .i64 .i64 0 (3 * (s.size : Int)) (by omega) (by omega) (by rw [hz2]; omega) (by omega)
  rw [hz1] at hmk
  obtain ⟨MC, hMC⟩ : ∃ x, madeCells (Value.int .u8 0).cells ((3 * (s.size : Int)).toNat * 1) = x := ⟨_, rfl⟩
  rw [hMC] at hmk
  have hMs : MC.size = (3 * (s.size : Int)).toNat * 1 := by rw [← hMC, size_madeCells]
  obtain ⟨cp, hcp⟩ : ∃ c, (3 * (s.size : Int)).toNat = c := ⟨_, rfl⟩
  rw [hcp] at hmk hMs
  have hcm : cp ≤ maxLen := by unfold maxLen; omega
  have HI := Lib.hid (And.intro hi0 (And.intro hz0 (And.intro hz1 hz2)))
  have HMs := Lib.hid hMs
  have HCm := Lib.hid hcm
  have p3 : wrap64 (3 * (s.size : Int)) = 3 * (s.size : Int) := by unfold wrap64; omega
  clear hMC hi0 hz0 hz1 hz2 hMs hcp hcm
  go_enter Tryd.func27, Tryd.ntmps27
  go_wp2_with fail
  clear hmk
  go_loopw [3, 11] (fun v i wr => Em.HexAt w s v i wr) (fun _ i _ => s.size - (intOf i).toNat)
  case atStart =>
    refine ⟨0, Nat.zero_le _, rfl, ⟨0, [], World.ownsRow_made w MC cp (Nat.le_refl _) HCm.out HMs.out, rfl, rfl⟩, ?_⟩
    exact Hv.bl1 _ _
  case round =>
    obtain ⟨k, hk, rfl, HO, HB⟩ := hrel
    by_cases hlt : k < s.size
    · have q1 : (0 : Int) ≤ (k : Int) := by omega
      have q2 : (k : Int) < (s.size : Int) := by omega
      obtain ⟨n, xs, hO, hxs, hn⟩ := HO.out
      obtain ⟨A, c, rfl, hcm⟩ := own_slice hO
      have HX := Lib.hid hxs
      have HO1 := Lib.hid hO
      have HN := Lib.hid hn
      clear hO hxs hn
      go_upto_if 15 with fail
      go_cut [3] (fun v wx => Em.HexC w s k v wx)
      case first =>
        by_cases h0 : k = 0
        · have hk0 : ¬ (0 : Int) < (k : Int) := by omega
          have H0 := Lib.hid h0
          clear h0
          go_wp2
          go_meet
          exact ⟨⟨n, xs, HO1.out, by rw [HX.out, Em.sep, if_pos H0.out, List.append_nil], HN.out⟩, HB.out⟩
        · have hk0 : (0 : Int) < (k : Int) := by omega
          have H0 := Lib.hid h0
          have hl : (Em.hexs ((tl s).take k)).length ≤ 3000000 := by have := Em.hexs_len ((tl s).take k); rw [List.length_take, tl_length] at this; omega
          have hnl : n ≤ 3000000 := by rw [HN.out, HX.out]; unfold Lib.byteCells; rw [List.length_map]; exact hl
          clear h0 hl
          go_wp2_with (at_builtin; refine wpList_append_bytes HI.out _ rfl (.tmp 16) (.tmp 17) rfl w.heap.size _ n xs rfl (HO1.out.alloc _) _ _ _ _ _ rfl (reads_lit wr #[.int .u8 44] 5) (by intro u hu; cases hu with | head => rfl | tail _ h => cases h) (by show n + 1 ≤ _; omega) (by rw [World.size_alloc]; have := HB.out.size; omega) ?_; intro v9 w9 hown9 hg9; have HO9 := Lib.hid hown9; have HG9 := Lib.hid hg9; clear hown9 hg9)
          go_meet
          refine ⟨⟨n + 1, _, HO9.out, ?_, ?_⟩, ?_⟩
          · rw [HX.out, Em.sep, if_neg H0.out]; unfold Lib.byteCells; rw [List.map_append]; rfl
          · rw [List.length_append, HN.out]; rfl
          · have hb := Hv.bl HB.out (.cells #[.int .u8 44] 5)
            exact hb.grown HG9.out hb.size (fun j e => by have := (HO1.out.lt j e).1; omega)
      case rest =>
        obtain ⟨⟨n1, ys, hO2, hys, hn2⟩, hB2⟩ := hcut
        obtain ⟨A1, c1, rfl, hcm1⟩ := own_slice hO2
        have HY := Lib.hid hys
        have HO2 := Lib.hid hO2
        have HN2 := Lib.hid hn2
        have HB2 := Lib.hid hB2
        obtain ⟨b, hb⟩ : ∃ b, s[k]'hlt = b := ⟨_, rfl⟩
        have b1 : b.toNat < 256 := b.toNat_lt
        have hand := Em.and15u8 b.toNat b1
        obtain ⟨x, hx⟩ : ∃ x, b.toNat / 16 = x := ⟨_, rfl⟩
        obtain ⟨y, hy⟩ : ∃ y, b.toNat % 16 = y := ⟨_, rfl⟩
        have e1 : (b.toNat : Int) / 16 = (x : Int) := by omega
        rw [hy] at hand
        have x0 : (0 : Int) ≤ (x : Int) := by omega
        have x1 : (x : Int) < 16 := by omega
        have x2 : x < 16 := by omega
        have y0 : (0 : Int) ≤ (y : Int) := by omega
        have y1 : (y : Int) < 16 := by omega
        have y2 : y < 16 := by omega
        have HXx := Lib.hid hx
        have HYy := Lib.hid hy
        have HBb := Lib.hid hb
        clear hO2 hys hn2 hB2 hx hy
        go_wp2_with fail
        have hl : (Em.hexs ((tl s).take k)).length ≤ 3000000 := by have := Em.hexs_len ((tl s).take k); rw [List.length_take, tl_length] at this; omega
        have hls : (Em.sep k).length ≤ 1 := by unfold Em.sep; split <;> simp
        have hnl : n1 ≤ 3000001 := by rw [HN2.out, HY.out]; unfold Lib.byteCells; rw [List.length_map, List.length_append]; omega
        have HNl := Lib.hid hnl
        have HCn := Lib.hid (fun (W : World) (a b : Value) => Em.cells_new W #[a, b] 5)
        clear hl hls hnl HX HO1 HN HO HB
        go_region_law ((refine step_append_lies _ (by rfl) (.tmp 19) (.tmp 30) 43 (by rfl) w.heap.size 5 i0 _ 1 1 Tryd.underlying43 HI.out.1 HI.out.2.1 HI.out.2.2.1 HI.out.2.2.2 (by rfl) (by decide) _ n1 _ (by rfl) ((Em.own_draw HO2.out).alloc _) _ 2 2 _ (by rfl) (by rfl) (HCn.out _ _ _) (by simp [Value.oneCell']) (by decide) (by have := HNl.out; unfold maxLen; omega) (by have := HNl.out; omega) (by have := HB2.out.size; simp; omega) _ rfl ?_; intro g9 cp9 w9 hown9 hg9 hat9 hlt9))
        all_goals (have HF := Lib.hid hown9; have HG := Lib.hid hg9; clear hown9 hg9 hat9)
        all_goals go_wp2
        all_goals
          go_roundw
          case rel =>
            refine ⟨k + 1, by omega, by go_num, ⟨n1 + 2, _, HF.out, ?_, ?_⟩, ?_⟩
            · rw [HY.out, Em.hexs_take (tl s) k b (Em.byte_at s k hlt b HBb.out), Em.cells_app _ (Em.hexb b), Em.hexb, HXx.out, HYy.out, ← Em.dg16_hex x x2 x2, ← Em.dg16_hex y y2 y2]
              rfl
            · rw [List.length_append, HN2.out]; rfl
            · have hb := Hv.bl (Em.below_drew HB2.out) (.cells #[.int .u8 ((Em.dg16[x]'x2).toNat : Int), .int .u8 ((Em.dg16[y]'y2).toNat : Int)] 5)
              exact hb.grown HG.out hb.size (fun j e => by have := (HO2.out.lt j e).1; omega)
          case measure => simp [intOf]; omega
    · have hke : k = s.size := by omega
      have q2 : ¬ (k : Int) < (s.size : Int) := by omega
      obtain ⟨n, xs, hO, hxs, hn⟩ := HO.out
      obtain ⟨A, c, rfl, hcm⟩ := own_slice hO
      have hT : (tl s).take k = tl s := List.take_of_length_le (by rw [tl_length]; omega)
      rw [hT] at hxs
      have hcv := Em.bytes_back hO (by rw [hn, hxs, Em.cells_len']) hxs
      have HCv := Lib.hid hcv
      clear hO hxs hn hT hcv
      have hcv := HCv.out
      go_wp2
      go_ret
      exact ⟨rfl, HB.out⟩
end Go.Proofs.YteacncdpjbcinaaDoor
