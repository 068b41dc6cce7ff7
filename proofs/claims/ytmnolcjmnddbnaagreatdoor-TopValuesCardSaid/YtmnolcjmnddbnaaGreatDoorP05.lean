/- little.Hex: bytes as digits, parted by commas. -/
import Derived.Test.YtmnolcjmnddbnaaGreatDoorP01
import Derived.Test.YtmnolcjmnddbnaaGreatDoorP04
import Derived.Deep.QuietTactic
import Derived.BigQuiet
import Derived.StillTailTactics
import Derived.Deep.DeepCutAuto
import Derived.Lib.UnsafeStr
import Derived.IntWalk
import Derived.Deep.RegionLaw
import Derived.Deep.AppendLies
import Derived.ScopeJumps
import Derived.WalkMore
import Derived.OneCell
import Derived.RangeFuncOwn
import Derived.Laws.OwnMore

namespace Go.Proofs.YtmnolcjmnddbnaaGreatDoor
open Go.RowKit

theorem u8_info : (Tryz.prog.info? 5).map (fun i => (i.zero, i.size, i.bytes)) = some (some (.int .u8 0), 1, 1) := by kernel_rfl
namespace Em
theorem own_below {w w' : World} {base : Nat} {e : TypeId} {size : Nat} {v : Value} {n : Nat} {xs : List Value} (h : w.ownsRow base e size v n xs) (hb : Below w.heap.size w w') : w'.ownsRow base e size v n xs := by
  refine ⟨h.1, ?_⟩
  rcases h.2 with hn | ⟨g, cap, cur, hv, hbase, hg, rest⟩
  · exact .inl hn
  · have hl : g < w.heap.size := (Array.getElem?_eq_some_iff.1 hg).1
    exact .inr ⟨g, cap, cur, hv, hbase, (hb.block g hl).trans hg, rest⟩
theorem own_draw {w : World} {base : Nat} {e : TypeId} {size : Nat} {v : Value} {n : Nat} {xs : List Value} (h : w.ownsRow base e size v n xs) : w.drew.ownsRow base e size v n xs := h
theorem cells_new (w : World) (cs : Array Value) (t : TypeId) : ∀ j u, cs.toList[j]? = some u → (w.alloc (.cells cs t)).cell? ((⟨w.heap.size, 0, none⟩ : Addr).add j) = some u := fun j u hu => by
  have hadd : (⟨w.heap.size, 0, none⟩ : Addr).add j = ⟨w.heap.size, j, none⟩ := by unfold Addr.add; split <;> simp_all
  rw [hadd]
  exact (At.new w cs t).cell j u hu
theorem cells_app (a b : Txt) : Lib.byteCells (a ++ b) = Lib.byteCells a ++ Lib.byteCells b := by unfold Lib.byteCells; rw [List.map_append]
theorem cells_len' (l : Txt) : (Lib.byteCells l).length = l.length := by unfold Lib.byteCells; rw [List.length_map]
theorem byte_at (s : ByteArray) (k : Nat) (h : k < s.size) (b : UInt8) (hb : s[k] = b) : (tl s)[k]? = some b := by
  unfold tl
  rw [← hb, List.getElem?_eq_getElem (by simpa using h)]
  rfl
theorem below_drew {a w : World} (h : Below a.heap.size a w) : Below a.heap.size a w.drew := h.trans ((show Drew w w.drew from ⟨1, rfl⟩).below _)
/-- The bytes of a slice that is owned, as a text. -/
theorem bytes_back {w : World} {base n c : Nat} {A : Option Addr} {xs : List Value} {l : Txt} (h : w.ownsRow base 5 1 (.slice A n c) n xs) (hn : n = l.length) (hx : xs = Lib.byteCells l) :
    (convert 31 9 (.slice A n c)).run Tryz.prog w = .ok (.string (bts l)) w := by
  subst hn
  subst hx
  have hr := Reads.of_own h
  by_cases h0 : 0 < l.length
  · obtain ⟨ad, rfl, _, hc⟩ := hr.2 h0
    exact run_convert_bytes_back (P := Tryz.prog) w 31 9 5 ad c l Tryz.underlying31 Tryz.underlying5 Tryz.underlying9 fun j hj => hc j _ (by unfold Lib.byteCells; rw [List.getElem?_map, List.getElem?_eq_getElem hj]; rfl)
  · have : l = [] := List.eq_nil_of_length_eq_zero (by omega)
    subst this
    show (convert 31 9 (.slice A 0 c)).run Tryz.prog w = _
    rw [run_convert_bytes_string w 31 9 5 A 0 c Tryz.underlying31 Tryz.underlying5 Tryz.underlying9]
    cases A with
    | none => rfl
    | some a => exact run_bytesToString (P := Tryz.prog) w a 0 c [] (by rfl)
theorem and15u8 (m : Nat) (h : m < 256) : bits .and .u8 (m : Int) 15 = ((m % 16 : Nat) : Int) := by
  have e : (BitVec.ofInt 8 (m : Int) &&& BitVec.ofInt 8 (15 : Int)).toNat = m % 16 := by
    rw [BitVec.toNat_and]
    have e1 : (BitVec.ofInt 8 (m : Int)).toNat = m := by rw [BitVec.toNat_ofInt]; omega
    have e2 : (BitVec.ofInt 8 (15 : Int)).toNat = 2 ^ 4 - 1 := by decide
    rw [e1, e2, Nat.and_two_pow_sub_one_eq_mod]
  show IntKind.u8.wrap (((BitVec.ofInt 8 (m : Int) &&& BitVec.ofInt 8 (15 : Int)).toNat : Nat) : Int) = _
  rw [e]
  exact IntWalk.u8_in _ (by omega)
def dg16 : ByteArray := ⟨#[48, 49, 50, 51, 52, 53, 54, 55, 56, 57, 97, 98, 99, 100, 101, 102]⟩
theorem dg16_hex (x : Nat) (h : x < 16) (h' : x < dg16.size) : (dg16[x]'h') = hexd x := by
  have : ∀ x : Fin 16, dg16.data[x.val]? = some (hexd x.val) := by decide +kernel
  have h2 := this ⟨x, h⟩
  have h3 : dg16.data[x]? = some (dg16[x]'h') := by
    show _ = some (dg16.data[x]'h')
    exact Array.getElem?_eq_getElem h'
  rw [h3] at h2
  exact Option.some.inj h2
def sep (k : Nat) : Txt := if k = 0 then [] else [44]
theorem hexs_take (l : Txt) (k : Nat) (b : UInt8) (h : l[k]? = some b) : hexs (l.take (k + 1)) = hexs (l.take k) ++ sep k ++ hexb b := by
  have hk : k < l.length := (List.getElem?_eq_some_iff.1 h).1
  rw [List.take_add_one, h]
  show hexs (l.take k ++ [b]) = _
  rw [hexs_snoc]
  unfold sep
  by_cases h0 : k = 0
  · subst h0; simp
  · rw [if_neg h0, if_neg (by rw [List.take_eq_nil_iff]; intro q; rcases q with q | q; exact h0 q; rw [q] at hk; simp at hk)]
    simp
def HexC (w : World) (s : ByteArray) (k : Nat) (v : Value) (wx : World) : Prop :=
  (∃ n xs, wx.ownsRow w.heap.size 5 1 v n xs ∧ xs = Lib.byteCells (hexs ((tl s).take k) ++ sep k) ∧ n = xs.length) ∧ Below w.heap.size w wx
def HexAt (w : World) (s : ByteArray) (v i : Value) (wr : World) : Prop :=
  ∃ k : Nat, k ≤ s.size ∧ i = .int .i64 (k : Int) ∧ Hid (∃ n xs, wr.ownsRow w.heap.size 5 1 v n xs ∧ xs = Lib.byteCells (hexs ((tl s).take k)) ∧ n = xs.length) ∧ Hid (Below w.heap.size w wr)
end Em
theorem wpList_append_bytes {i0 : TypeInfo} (hi : Tryz.prog.info? 5 = some i0 ∧ i0.zero = some (.int .u8 0) ∧ i0.size = 1 ∧ i0.bytes = 1) (w : World) {ops : Array Oper} {rest : List Oper} {o : Oper} {a : Act} {Q : Exit → Act → World → Prop} (hgd : o.guard = none) (s x : Operand)
    (ho : o.op = .call { callee := .builtin .append, args := #[s, x], argTypes := #[31, 31] }) (base : Nat) (v : Value) (n : Nat) (xs : List Value) (hs : a.eval s = v) (hown : w.ownsRow base 5 1 v n xs)
    (B : Nat) (A : Option Addr) (m c : Nat) (news : List Value) (hx : a.eval x = .slice A m c) (hr : Reads w B 1 A m news) (h1 : ∀ u ∈ news, u.oneCell' = true) (hbytes : n + m ≤ 140737488355328) (hbase : base ≤ w.heap.size)
    (h : ∀ v' w', w'.ownsRow base 5 1 v' (n + m) (xs ++ news) → w.grownBy w' v.ownBlock → wpList Tryz.prog ops Q rest (a.put o.dst v') w') : wpList Tryz.prog ops Q (o :: rest) a w :=
  wpList_append_any w hgd s x 31 ho base 5 i0 (.int .u8 0) 1 1 Tryz.underlying31 hi.1 hi.2.1 hi.2.2.1 hi.2.2.2 rfl (by decide) v n xs hs hown B A m c news hx hr h1 (by unfold maxLen; omega) (by omega) hbase (fun v' w' h2 h3 _ => h v' w' h2 h3)
theorem reads_lit (w : World) (cs : Array Value) (t : TypeId) : Reads (w.alloc (.cells cs t)) (w.heap.size + 1) 1 (some ⟨w.heap.size, 0, none⟩) cs.size cs.toList := by
  refine ⟨by simp, fun _ => ⟨_, rfl, Nat.lt_succ_self _, fun j u hu => ?_⟩⟩
  have e : (⟨w.heap.size, 0, none⟩ : Addr).add j = ⟨w.heap.size, j, none⟩ := by
    unfold Addr.add
    split
    · subst_vars; rfl
    · simp
  rw [e]
  exact (At.new w cs t).cell j u hu
set_option maxHeartbeats 4000000 in
set_option maxRecDepth 100000 in
theorem hex_any (s : ByteArray) (hs : s.size ≤ 1000000) (w : World) :
    Calls Tryz.prog 13 #[.string s] w fun e w' => e = .returned (.string (Em.bts (Em.hexs (tl s)))) ∧ Below w.heap.size w w' := by
  obtain ⟨i0, hi0, hz0, hz1, hz2⟩ := info_parts u8_info
  have hmk := fun W : World => run_make (P := Tryz.prog) W 31 5 i0 _ Tryz.underlying31 hi0 hz0 .i64 .i64 0 (3 * (s.size : Int)) (by omega) (by omega) (by rw [hz2]; omega) (by omega)
  rw [hz1] at hmk
  obtain ⟨MC, hMC⟩ : ∃ x, madeCells (Value.int .u8 0).cells ((3 * (s.size : Int)).toNat * 1) = x := ⟨_, rfl⟩
  rw [hMC] at hmk
  have hMs : MC.size = (3 * (s.size : Int)).toNat * 1 := by rw [← hMC, size_madeCells]
  obtain ⟨cp, hcp⟩ : ∃ c, (3 * (s.size : Int)).toNat = c := ⟨_, rfl⟩
  rw [hcp] at hmk hMs
  have hcm : cp ≤ maxLen := by unfold maxLen; omega
  have HI := Lib.hid (And.intro hi0 (And.intro hz0 (And.intro hz1 hz2)))
  have HMs := Lib.hid hMs
  have HCm := Lib.hid hcm
  have p3 : wrap64 (3 * (s.size : Int)) = 3 * (s.size : Int) := by unfold wrap64; omega
  clear hMC hi0 hz0 hz1 hz2 hMs hcp hcm
  go_enter Tryz.func13, Tryz.ntmps13
  go_wp2_with fail
  clear hmk
  go_loopw [3, 11] (fun v i wr => Em.HexAt w s v i wr) (fun _ i _ => s.size - (intOf i).toNat)
  case atStart =>
    refine ⟨0, Nat.zero_le _, rfl, ⟨0, [], World.ownsRow_made w MC cp (Nat.le_refl _) HCm.out HMs.out, rfl, rfl⟩, ?_⟩
    exact Hv.bl1 _ _
  case round =>
    obtain ⟨k, hk, rfl, HO, HB⟩ := hrel
    by_cases hlt : k < s.size
    · have q1 : (0 : Int) ≤ (k : Int) := by omega
      have q2 : (k : Int) < (s.size : Int) := by omega
      obtain ⟨n, xs, hO, hxs, hn⟩ := HO.out
      obtain ⟨A, c, rfl, hcm⟩ := own_slice hO
      have HX := Lib.hid hxs
      have HO1 := Lib.hid hO
      have HN := Lib.hid hn
      clear hO hxs hn
      go_upto_if 15 with fail
      go_cut [3] (fun v wx => Em.HexC w s k v wx)
      case first =>
        by_cases h0 : k = 0
        · have hk0 : ¬ (0 : Int) < (k : Int) := by omega
          have H0 := Lib.hid h0
          clear h0
          go_wp2
          go_meet
          exact ⟨⟨n, xs, HO1.out, by rw [HX.out, Em.sep, if_pos H0.out, List.append_nil], HN.out⟩, HB.out⟩
        · have hk0 : (0 : Int) < (k : Int) := by omega
          have H0 := Lib.hid h0
          have hl : (Em.hexs ((tl s).take k)).length ≤ 3000000 := by have := Em.hexs_len ((tl s).take k); rw [List.length_take, tl_length] at this; omega
          have hnl : n ≤ 3000000 := by rw [HN.out, HX.out]; unfold Lib.byteCells; rw [List.length_map]; exact hl
          clear h0 hl
          go_wp2_with (at_builtin; refine wpList_append_bytes HI.out _ rfl (.tmp 16) (.tmp 17) rfl w.heap.size _ n xs rfl (HO1.out.alloc _) _ _ _ _ _ rfl (reads_lit wr #[.int .u8 44] 5) (by intro u hu; cases hu with | head => rfl | tail _ h => cases h) (by show n + 1 ≤ _; omega) (by rw [World.size_alloc]; have := HB.out.size; omega) ?_; intro v9 w9 hown9 hg9; have HO9 := Lib.hid hown9; have HG9 := Lib.hid hg9; clear hown9 hg9)
          go_meet
          refine ⟨⟨n + 1, _, HO9.out, ?_, ?_⟩, ?_⟩
          · rw [HX.out, Em.sep, if_neg H0.out]; unfold Lib.byteCells; rw [List.map_append]; rfl
          · rw [List.length_append, HN.out]; rfl
          · have hb := Hv.bl HB.out (.cells #[.int .u8 44] 5)
            exact hb.grown HG9.out hb.size (fun j e => by have := (HO1.out.lt j e).1; omega)
      case rest =>
        obtain ⟨⟨n1, ys, hO2, hys, hn2⟩, hB2⟩ := hcut
        obtain ⟨A1, c1, rfl, hcm1⟩ := own_slice hO2
        have HY := Lib.hid hys
        have HO2 := Lib.hid hO2
        have HN2 := Lib.hid hn2
        have HB2 := Lib.hid hB2
        obtain ⟨b, hb⟩ : ∃ b, s[k]'hlt = b := ⟨_, rfl⟩
        have b1 : b.toNat < 256 := b.toNat_lt
        have hand := Em.and15u8 b.toNat b1
        obtain ⟨x, hx⟩ : ∃ x, b.toNat / 16 = x := ⟨_, rfl⟩
        obtain ⟨y, hy⟩ : ∃ y, b.toNat % 16 = y := ⟨_, rfl⟩
        have e1 : (b.toNat : Int) / 16 = (x : Int) := by omega
        rw [hy] at hand
        have x0 : (0 : Int) ≤ (x : Int) := by omega
        have x1 : (x : Int) < 16 := by omega
        have x2 : x < 16 := by omega
        have y0 : (0 : Int) ≤ (y : Int) := by omega
        have y1 : (y : Int) < 16 := by omega
        have y2 : y < 16 := by omega
        have HXx := Lib.hid hx
        have HYy := Lib.hid hy
        have HBb := Lib.hid hb
        clear hO2 hys hn2 hB2 hx hy
        go_wp2_with fail
        have hl : (Em.hexs ((tl s).take k)).length ≤ 3000000 := by have := Em.hexs_len ((tl s).take k); rw [List.length_take, tl_length] at this; omega
        have hls : (Em.sep k).length ≤ 1 := by unfold Em.sep; split <;> simp
        have hnl : n1 ≤ 3000001 := by rw [HN2.out, HY.out]; unfold Lib.byteCells; rw [List.length_map, List.length_append]; omega
        have HNl := Lib.hid hnl
        have HCn := Lib.hid (fun (W : World) (a b : Value) => Em.cells_new W #[a, b] 5)
        clear hl hls hnl HX HO1 HN HO HB
        go_region_law ((refine step_append_lies _ (by rfl) (.tmp 19) (.tmp 30) 31 (by rfl) w.heap.size 5 i0 _ 1 1 Tryz.underlying31 HI.out.1 HI.out.2.1 HI.out.2.2.1 HI.out.2.2.2 (by rfl) (by decide) _ n1 _ (by rfl) ((Em.own_draw HO2.out).alloc _) _ 2 2 _ (by rfl) (by rfl) (HCn.out _ _ _) (by simp [Value.oneCell']) (by decide) (by have := HNl.out; unfold maxLen; omega) (by have := HNl.out; omega) (by have := HB2.out.size; simp; omega) _ rfl ?_; intro g9 cp9 w9 hown9 hg9 hat9 hlt9))
        all_goals (have HF := Lib.hid hown9; have HG := Lib.hid hg9; clear hown9 hg9 hat9)
        all_goals go_wp2
        all_goals
          go_roundw
          case rel =>
            refine ⟨k + 1, by omega, by go_num, ⟨n1 + 2, _, HF.out, ?_, ?_⟩, ?_⟩
            · rw [HY.out, Em.hexs_take (tl s) k b (Em.byte_at s k hlt b HBb.out), Em.cells_app _ (Em.hexb b), Em.hexb, HXx.out, HYy.out, ← Em.dg16_hex x x2 x2, ← Em.dg16_hex y y2 y2]
              rfl
            · rw [List.length_append, HN2.out]; rfl
            · have hb := Hv.bl (Em.below_drew HB2.out) (.cells #[.int .u8 ((Em.dg16[x]'x2).toNat : Int), .int .u8 ((Em.dg16[y]'y2).toNat : Int)] 5)
              exact hb.grown HG.out hb.size (fun j e => by have := (HO2.out.lt j e).1; omega)
          case measure => simp [intOf]; omega
    · have hke : k = s.size := by omega
      have q2 : ¬ (k : Int) < (s.size : Int) := by omega
      obtain ⟨n, xs, hO, hxs, hn⟩ := HO.out
      obtain ⟨A, c, rfl, hcm⟩ := own_slice hO
      have hT : (tl s).take k = tl s := List.take_of_length_le (by rw [tl_length]; omega)
      rw [hT] at hxs
      have hcv := Em.bytes_back hO (by rw [hn, hxs, Em.cells_len']) hxs
      have HCv := Lib.hid hcv
      clear hO hxs hn hT hcv
      have hcv := HCv.out
      go_wp2
      go_ret
      exact ⟨rfl, HB.out⟩
end Go.Proofs.YtmnolcjmnddbnaaGreatDoor

/- A scope in which the run jumps back to several labels: what holds at every jump to each, and a measure that every pass lowers. -/
namespace Go.Proofs.YtmnolcjmnddbnaaGreatDoor
open Go Go.RowKit

/-- As Q; by a goto to label l: J l. -/
def Exit.jumps (J : Nat → Act → World → Prop) (Q : Exit → Act → World → Prop) : Exit → Act → World → Prop
  | .goto l, a, w => J l a w
  | e, a, w => Q e a w
theorem wp_scope_labels {P : Program} {a : Act} {w : World} {Q : Exit → Act → World → Prop} {c : Code} (J : Nat → Act → World → Prop) (μ : Nat → Act → World → Nat)
    (first : c.wp P (Exit.jumps J Q) a w)
    (pass : ∀ l a w, J l a w → ∃ rest, findLabel c l = some rest ∧ rest.wp P (Exit.jumps (fun l' a' w' => J l' a' w' ∧ μ l' a' w' < μ l a w) Q) a w) : (Code.scope c).wp P Q a w := by
  intro b k cs
  have key : ∀ n l a w, μ l a w = n → J l a w → ∃ rest, findLabel c l = some rest ∧ ∃ e a' w', Q e a' w' ∧ Arrives P (lone (b.at a (.code rest :: .inScope c :: k)) cs w) b k cs e a' w' := by
    intro n
    induction n using Nat.strongRecOn with
    | _ n ih =>
      intro l a w hn hJ
      obtain ⟨rest, hf, hp⟩ := pass l a w hJ
      refine ⟨rest, hf, ?_⟩
      obtain ⟨e, a₁, w₁, hq, harr⟩ := hp b (.inScope c :: k) cs
      cases e with
      | normal => exact ⟨.normal, a₁, w₁, hq, Steps.trans harr (.one step_inScope)⟩
      | exit id => exact ⟨.exit id, a₁, w₁, hq, fun k' hk => harr k' (by simp [exitTo, hk])⟩
      | goto l' =>
        obtain ⟨hJ', hlt⟩ := hq
        obtain ⟨rest2, hf2, e₂, a₂, w₂, hq₂, harr₂⟩ := ih _ (by omega) l' a₁ w₁ rfl hJ'
        have hg : gotoIn l' (.inScope c :: k) = some (.code rest2 :: .inScope c :: k) := by simp [gotoIn, hf2]
        exact ⟨e₂, a₂, w₂, hq₂, .of_steps (harr _ hg) harr₂⟩
      | ret => exact ⟨_, a₁, w₁, hq, harr⟩
      | panic ch => exact ⟨_, a₁, w₁, hq, harr⟩
      | outgrown => exact ⟨_, a₁, w₁, hq, harr⟩
  obtain ⟨e, a₁, w₁, hq, harr⟩ := first b (.inScope c :: k) cs
  cases e with
  | normal => exact ⟨.normal, a₁, w₁, hq, .head step_scope (Steps.trans harr (.one step_inScope))⟩
  | exit id => exact ⟨.exit id, a₁, w₁, hq, fun k' hk => .head step_scope (harr k' (by simp [exitTo, hk]))⟩
  | goto l' =>
    obtain ⟨rest2, hf2, e₂, a₂, w₂, hq₂, harr₂⟩ := key _ l' a₁ w₁ rfl hq
    have hg : gotoIn l' (.inScope c :: k) = some (.code rest2 :: .inScope c :: k) := by simp [gotoIn, hf2]
    exact ⟨e₂, a₂, w₂, hq₂, .of_steps (.head step_scope (harr _ hg)) harr₂⟩
  | ret => exact ⟨_, a₁, w₁, hq, .of_steps (.one step_scope) harr⟩
  | panic ch => exact ⟨_, a₁, w₁, hq, .of_steps (.one step_scope) harr⟩
  | outgrown => exact ⟨_, a₁, w₁, hq, .of_steps (.one step_scope) harr⟩
/-- The same; where the scope's own beginning comes to a label, what holds there serves. -/
theorem wp_scope_labels2 {P : Program} {a : Act} {w : World} {Q : Exit → Act → World → Prop} {c : Code} (J : Nat → Act → World → Prop) (μ : Nat → Act → World → Nat)
    (pass : ∀ l a w, J l a w → ∃ rest, findLabel c l = some rest ∧ rest.wp P (Exit.jumps (fun l' a' w' => J l' a' w' ∧ μ l' a' w' < μ l a w) Q) a w)
    (first : (∀ l rest a w, findLabel c l = some rest → J l a w → rest.wp P (Exit.jumps J Q) a w) → c.wp P (Exit.jumps J Q) a w) : (Code.scope c).wp P Q a w := by
  refine wp_scope_labels J μ (first fun l rest a w hf hJ => ?_) pass
  obtain ⟨rest', hf', hp⟩ := pass l a w hJ
  obtain rfl : rest' = rest := Option.some.inj (hf'.symm.trans hf)
  refine wp_mono hp fun e a' w' h => ?_
  cases e with
  | goto l' => exact h.1
  | normal => exact h
  | exit id => exact h
  | ret => exact h
  | panic ch => exact h
  | outgrown => exact h
/-- The same, at labels that stand as statements of the scope's own sequence. -/
theorem wp_scope_labels3 {P : Program} {a : Act} {w : World} {Q : Exit → Act → World → Prop} {c : Code} (J : Nat → Act → World → Prop) (μ : Nat → Act → World → Nat)
    (pass : ∀ l a w, J l a w → ∃ rest, findLabel c l = some (.seq .skip rest) ∧ rest.wp P (Exit.jumps (fun l' a' w' => J l' a' w' ∧ μ l' a' w' < μ l a w) Q) a w)
    (first : (∀ l rest a w, findLabel c l = some (.seq .skip rest) → J l a w → rest.wp P (Exit.jumps J Q) a w) → c.wp P (Exit.jumps J Q) a w) : (Code.scope c).wp P Q a w := by
  refine wp_scope_labels J μ (first fun l rest a w hf hJ => ?_) fun l a w hJ => ?_
  · obtain ⟨rest', hf', hp⟩ := pass l a w hJ
    have e := Option.some.inj (hf'.symm.trans hf)
    injection e with _ e
    subst e
    refine wp_mono hp fun e a' w' h => ?_
    cases e with
    | goto l' => exact h.1
    | normal => exact h
    | exit id => exact h
    | ret => exact h
    | panic ch => exact h
    | outgrown => exact h
  · obtain ⟨rest, hf, hp⟩ := pass l a w hJ
    exact ⟨_, hf, wp_seq (wp_skip hp)⟩
end Go.Proofs.YtmnolcjmnddbnaaGreatDoor

/- intake.Unquote: a quoted text at the beginning, and what is behind it. -/
namespace Go.Proofs.YtmnolcjmnddbnaaGreatDoor
open Go.RowKit

namespace Ink
open Em
def qv : Option (Txt × Txt) → Value
  | none => .tuple #[.string ⟨#[]⟩, .string ⟨#[]⟩, .bool false]
  | some (t, r) => .tuple #[.string (bts t), .string (bts r), .bool true]
def J (w : World) (s : ByteArray) (X : Option (Txt × Txt)) (l : Nat) (a : Act) (wx : World) : Prop :=
  (a.defers = [] ∧ a.tmps.size = 66 ∧ a.tmps.getD 0 undef = .string s ∧ a.tmps.getD 2 undef = .string ⟨#[]⟩ ∧ a.tmps.getD 3 undef = .string ⟨#[]⟩ ∧ a.tmps.getD 4 undef = .bool false) ∧
  ∃ (i n : Nat) (out : Txt) (A : Option Addr) (c : Nat), i ≤ s.size + 1 ∧ n ≤ i ∧ a.tmps.getD 5 undef = .slice A n c ∧ a.tmps.getD 6 undef = .int .i64 (i : Int) ∧ Hid (out.length = n) ∧ Hid (wx.ownsRow w.heap.size 5 1 (.slice A n c) n (Lib.byteCells out)) ∧ Hid (Below w.heap.size w wx) ∧
    ((l = 0 ∧ Hid (X = none)) ∨ (l = 1 ∧ i ≤ s.size ∧ Hid (uqIn ((tl s).drop i) out = X)) ∨ (l = 2 ∧ i < s.size ∧ Hid ((tl s)[i]? = some 92) ∧ Hid (uqIn ((tl s).drop i) out = X)))
theorem frame_of (n : Nat) (a : Act) (hs : a.tmps.size = n) (hd : a.defers = []) : a = { tmps := ((List.range n).map fun i => a.tmps.getD i undef).toArray, defers := [] } := by
  obtain ⟨t, d⟩ := a
  simp only at hs hd
  subst hd
  congr 1
  apply Array.ext
  · simp [hs]
  · intro i h1 h2
    simp [h1]
set_option maxRecDepth 100000 in
theorem J_open {w : World} {s : ByteArray} {X : Option (Txt × Txt)} {l : Nat} {a : Act} {wx : World} (h : J w s X l a wx) : ∃ (i n : Nat) (out : Txt) (A : Option Addr) (c : Nat) (u : Nat → Value), a = { tmps := #[.string s, u 1, .string ⟨#[]⟩, .string ⟨#[]⟩, .bool false, .slice A n c, .int .i64 (i : Int), u 7, u 8, u 9, u 10, u 11, u 12, u 13, u 14, u 15, u 16, u 17, u 18, u 19, u 20, u 21, u 22, u 23, u 24, u 25, u 26, u 27, u 28, u 29, u 30, u 31, u 32, u 33, u 34, u 35, u 36, u 37, u 38, u 39, u 40, u 41, u 42, u 43, u 44, u 45, u 46, u 47, u 48, u 49, u 50, u 51, u 52, u 53, u 54, u 55, u 56, u 57, u 58, u 59, u 60, u 61, u 62, u 63, u 64, u 65], defers := [] } ∧
    i ≤ s.size + 1 ∧ n ≤ i ∧ Hid (out.length = n) ∧ Hid (wx.ownsRow w.heap.size 5 1 (.slice A n c) n (Lib.byteCells out)) ∧ Hid (Below w.heap.size w wx) ∧
    ((l = 0 ∧ Hid (X = none)) ∨ (l = 1 ∧ i ≤ s.size ∧ Hid (uqIn ((tl s).drop i) out = X)) ∨ (l = 2 ∧ i < s.size ∧ Hid ((tl s)[i]? = some 92) ∧ Hid (uqIn ((tl s).drop i) out = X))) := by
  obtain ⟨⟨hd, hs, g0, g2, g3, g4⟩, i, n, out, A, c, h1, h2, g5, g6, h3, h4, h5, h6⟩ := h
  refine ⟨i, n, out, A, c, fun k => a.tmps.getD k undef, ?_, h1, h2, h3, h4, h5, h6⟩
  have e : a = { tmps := ([a.tmps.getD 0 undef, a.tmps.getD 1 undef, a.tmps.getD 2 undef, a.tmps.getD 3 undef, a.tmps.getD 4 undef, a.tmps.getD 5 undef, a.tmps.getD 6 undef, a.tmps.getD 7 undef, a.tmps.getD 8 undef, a.tmps.getD 9 undef, a.tmps.getD 10 undef, a.tmps.getD 11 undef, a.tmps.getD 12 undef, a.tmps.getD 13 undef, a.tmps.getD 14 undef, a.tmps.getD 15 undef, a.tmps.getD 16 undef, a.tmps.getD 17 undef, a.tmps.getD 18 undef, a.tmps.getD 19 undef, a.tmps.getD 20 undef, a.tmps.getD 21 undef, a.tmps.getD 22 undef, a.tmps.getD 23 undef, a.tmps.getD 24 undef, a.tmps.getD 25 undef, a.tmps.getD 26 undef, a.tmps.getD 27 undef, a.tmps.getD 28 undef, a.tmps.getD 29 undef, a.tmps.getD 30 undef, a.tmps.getD 31 undef, a.tmps.getD 32 undef, a.tmps.getD 33 undef, a.tmps.getD 34 undef, a.tmps.getD 35 undef, a.tmps.getD 36 undef, a.tmps.getD 37 undef, a.tmps.getD 38 undef, a.tmps.getD 39 undef, a.tmps.getD 40 undef, a.tmps.getD 41 undef, a.tmps.getD 42 undef, a.tmps.getD 43 undef, a.tmps.getD 44 undef, a.tmps.getD 45 undef, a.tmps.getD 46 undef, a.tmps.getD 47 undef, a.tmps.getD 48 undef, a.tmps.getD 49 undef, a.tmps.getD 50 undef, a.tmps.getD 51 undef, a.tmps.getD 52 undef, a.tmps.getD 53 undef, a.tmps.getD 54 undef, a.tmps.getD 55 undef, a.tmps.getD 56 undef, a.tmps.getD 57 undef, a.tmps.getD 58 undef, a.tmps.getD 59 undef, a.tmps.getD 60 undef, a.tmps.getD 61 undef, a.tmps.getD 62 undef, a.tmps.getD 63 undef, a.tmps.getD 64 undef, a.tmps.getD 65 undef] : List Value).toArray, defers := [] } := frame_of 66 a hs hd
  rw [g0, g2, g3, g4, g5, g6] at e
  exact e
def mu (s : ByteArray) (l : Nat) (a : Act) : Nat := if l = 0 then 0 else 2 * (s.size - (intOf (a.tmps.getD 6 undef)).toNat) + (2 - l)
theorem drop_at {s : ByteArray} {i : Nat} (h : i < s.size) : (tl s).drop i = s[i] :: (tl s).drop (i + 1) := by
  rw [List.drop_eq_getElem_cons (by rw [tl_length]; exact h)]
  rfl
theorem tl_from' (s : ByteArray) (k : Nat) : bts ((tl s).drop k) = s.extract k s.size := by
  apply ByteArray.ext
  apply Array.ext'
  simp [bts, tl, ByteArray.data_extract]
  rw [List.take_of_length_le]
  rw [List.length_drop]
  exact Nat.le_refl _
theorem ne_int {b : UInt8} {k : Nat} (h : b.toNat ≠ k) : ((b.toNat : Int) == (k : Int)) = false ∧ ((b.toNat : Int) != (k : Int)) = true ∧ ¬ (b.toNat : Int) = (k : Int) := by
  have h0 : ((b.toNat : Int) == (k : Int)) = false := by rw [beq_eq_false_iff_ne]; omega
  exact ⟨h0, by rw [bne, h0]; rfl, by omega⟩
theorem ne34 {b : UInt8} (h : b ≠ 34) : ((b.toNat : Int) == 34) = false ∧ ((b.toNat : Int) != 34) = true ∧ ¬ (b.toNat : Int) = 34 := ne_int (k := 34) fun e => h (UInt8.toNat_inj.1 e)
theorem ne92 {b : UInt8} (h : b ≠ 92) : ((b.toNat : Int) == 92) = false ∧ ((b.toNat : Int) != 92) = true ∧ ¬ (b.toNat : Int) = 92 := ne_int (k := 92) fun e => h (UInt8.toNat_inj.1 e)
end Ink
set_option maxHeartbeats 8000000 in
set_option maxRecDepth 1000000 in
theorem unquote_any (s : ByteArray) (hs : s.size ≤ 100000000) (w : World) :
    Calls Tryz.prog 18 #[.string s] w fun e w' => e = .returned (Ink.qv (Ink.uq (tl s))) ∧ Below w.heap.size w w' := by
  obtain ⟨X, hX⟩ : ∃ X, Ink.uq (tl s) = X := ⟨_, rfl⟩
  rw [hX]
  have HX := Lib.hid hX
  clear hX
  obtain ⟨i0, hi0, hz0, hz1, hz2⟩ := info_parts u8_info
  have HI8 := Lib.hid (And.intro hi0 (And.intro hz0 (And.intro hz1 hz2)))
  clear hi0 hz0 hz1 hz2
  have hHead : (s.toList.isEmpty = true ∧ Hid (X = none)) ∨ (s.toList.isEmpty = false ∧ ∃ h : 0 < s.size, s[0] ≠ 34 ∧ Hid (X = none)) ∨ (s.toList.isEmpty = false ∧ ∃ h : 0 < s.size, s[0] = 34 ∧ Hid (Ink.uqIn ((tl s).drop 1) [] = X)) := by
    by_cases h0 : s.size = 0
    · refine .inl ⟨Hv.emp_yes h0, ?_⟩
      show _ = _
      rw [← HX.out]
      have : tl s = [] := List.eq_nil_of_length_eq_zero (by rw [tl_length]; exact h0)
      rw [this]
      rfl
    · have hp : 0 < s.size := by omega
      have hd := Ink.drop_at hp
      rw [List.drop_zero] at hd
      have hx := HX.out
      rw [hd, Ink.uq] at hx
      by_cases hc : s[0] = 34
      · rw [if_pos hc] at hx
        exact .inr (.inr ⟨Hv.emp_no h0, hp, hc, hx⟩)
      · rw [if_neg hc] at hx
        exact .inr (.inl ⟨Hv.emp_no h0, hp, hc, hx.symm⟩)
  clear HX
  go_enter Tryz.func18, Tryz.ntmps18
  go_wp2
  refine wp_scope_labels3 (Ink.J w s X) (fun l a _ => Ink.mu s l a) ?pass ?first
  case first =>
    intro hp
    rcases hHead with ⟨g0, HN⟩ | ⟨g0, h0, hc, HN⟩ | ⟨g0, h0, hc, HU⟩
    · go_wp2
      refine wp_goto ?_
      exact ⟨⟨rfl, rfl, rfl, rfl, rfl, rfl⟩, 1, 0, [], none, 0, by omega, Nat.zero_le _, rfl, rfl, rfl, World.ownsRow_nil _ _ _ _, Below.refl _ _, .inl ⟨rfl, HN⟩⟩
    · obtain ⟨b, hb⟩ : ∃ b, s[0] = b := ⟨_, rfl⟩
      rw [hb] at hc
      have q1 : (0 : Int) < (s.size : Int) := by omega
      obtain ⟨q2, q3, q4⟩ := Ink.ne34 hc
      clear hc
      go_wp2
      refine wp_goto ?_
      exact ⟨⟨rfl, rfl, rfl, rfl, rfl, rfl⟩, 1, 0, [], none, 0, by omega, Nat.zero_le _, rfl, rfl, rfl, World.ownsRow_nil _ _ _ _, Below.refl _ _, .inl ⟨rfl, HN⟩⟩
    · have q1 : (0 : Int) < (s.size : Int) := by omega
      go_wp2
      go_step3
      rename_i K hK
      refine hK _ _ ?_
      exact hp 1 _ _ _ rfl ⟨⟨rfl, rfl, rfl, rfl, rfl, rfl⟩, 1, 0, [], none, 0, by omega, Nat.zero_le _, rfl, rfl, rfl, World.ownsRow_nil _ _ _ _, Below.refl _ _, .inr (.inl ⟨rfl, h0, HU⟩)⟩
  case pass =>
    clear hHead
    intro l a wx hJ
    obtain ⟨i, n, out, A, c, u, rfl, hi, hn, HN, HO, HB, hc⟩ := Ink.J_open hJ
    clear hJ
    rcases hc with ⟨rfl, HX⟩ | ⟨rfl, his, HU⟩ | ⟨rfl, hlt, H92, HU⟩
    · refine ⟨_, rfl, ?_⟩
      go_wp2
      simp +zetaDelta only [Exit.jumps]
      go_ret3
      exact ⟨by rw [HX.out]; rfl, HB.out⟩
    · by_cases hlt : i < s.size
      · have q0 : ((i : Int) == (s.size : Int)) = false := by rw [beq_eq_false_iff_ne]; omega
        have q1 : (0 : Int) ≤ (i : Int) := by omega
        have q2 : (i : Int) < (s.size : Int) := by omega
        have hd := Ink.drop_at hlt
        have hu := HU.out
        rw [hd] at hu
        obtain ⟨b, hb⟩ : ∃ b, s[i] = b := ⟨_, rfl⟩
        have hbt : (tl s)[i]? = some b := Em.byte_at s i hlt b hb
        rw [hb] at hu
        clear HU hd
        by_cases h34 : b = 34
        · subst h34
          rw [Ink.uqIn_hit] at hu
          have HE : Hid (X = some (out, (tl s).drop (i + 1))) := hu.symm
          have q3 : (0 : Int) ≤ (i : Int) + 1 := by omega
          have q4 : (i : Int) + 1 ≤ (s.size : Int) := by omega
          have q5 : IntKind.i64.wrap ((i : Int) + 1) = (i : Int) + 1 := by rw [IntKind.wrap_i64]; omega
          have q6 : ((i : Int) + 1).toNat = i + 1 := by omega
          have hcv : ∀ m, (convert 31 9 (.slice A n c)).run Tryz.prog (wx.drewN m) = .ok (.string (Em.bts out)) (wx.drewN m) := fun m => Em.bytes_back (w := wx.drewN m) HO.out HN.out.symm rfl
          have hcv0 : (convert 31 9 (.slice A n c)).run Tryz.prog wx = .ok (.string (Em.bts out)) wx := Em.bytes_back HO.out HN.out.symm rfl
          clear hu hbt
          refine ⟨_, rfl, ?_⟩
          go_wp2_with fail
          go_quiet (fail)
          have HBq := Lib.hid (below_drewN HB.out nq)
          go_wp2
          simp +zetaDelta only [Exit.jumps]
          go_ret3
          exact ⟨by rw [HE.out]; show _ = Ending.returned (.tuple #[.string (Em.bts out), .string (Em.bts ((tl s).drop (i + 1))), .bool true]); rw [Ink.tl_from']; rfl, HBq.out⟩
        · obtain ⟨g3, g3b, g4⟩ := Ink.ne34 h34
          by_cases h92 : b = 92
          · subst h92
            have H92 := Lib.hid hbt
            have HU : Hid (Ink.uqIn ((tl s).drop i) out = X) := by show _ = _; rw [Ink.drop_at hlt, hb]; exact hu
            clear hu hbt
            refine ⟨_, rfl, ?_⟩
            go_wp2
            refine wp_goto ?_
            exact ⟨⟨⟨rfl, rfl, rfl, rfl, rfl, rfl⟩, i, n, out, A, c, by omega, hn, rfl, rfl, HN, HO, HB, .inr (.inr ⟨rfl, hlt, H92, HU⟩)⟩, (by first | (simp [Ink.mu, intOf]; done) | (simp [Ink.mu, intOf]; omega))⟩
          · obtain ⟨g5, g5b, g6⟩ := Ink.ne92 h92
            have HU2 : Hid (if i + 1 < s.size then Ink.uqIn ((tl s).drop (i + 1)) (out ++ [b]) = X else X = none) := by
              show if _ then _ else _
              by_cases h2 : i + 1 < s.size
              · rw [if_pos h2, ← hu, Ink.uqIn_plain _ h34 h92 (by rw [Ink.drop_at h2]; simp)]
              · rw [if_neg h2, ← hu, List.drop_eq_nil_of_le (by rw [tl_length]; omega), Ink.uqIn, if_neg h34]
            have HU3 : Hid (Ink.uqIn ((tl s).drop (i + 1)) (out ++ [b]) = X) := by
              show _ = _
              have h := HU2.out
              by_cases h2 : i + 1 < s.size
              · rw [if_pos h2] at h; exact h
              · rw [if_neg h2] at h
                rw [h, List.drop_eq_nil_of_le (by rw [tl_length]; omega)]
                rfl
            have hsz := HB.out.size
            have q5 : IntKind.i64.wrap ((i : Int) + 1) = (i : Int) + 1 := by rw [IntKind.wrap_i64]; omega
            clear hu HU2 hbt
            refine ⟨_, rfl, ?_⟩
            go_wp2_with (at_builtin; refine wpList_append_bytes HI8.out _ rfl (.tmp 32) (.tmp 36) rfl w.heap.size _ n _ rfl (HO.out.alloc _) _ _ _ _ _ rfl (reads_lit wx #[.int .u8 (b.toNat : Int)] 5) (by intro u hu; cases hu with | head => rfl | tail _ h => cases h) (by show n + 1 ≤ _; omega) (by rw [World.size_alloc]; omega) ?_; intro v9 w9 hown9 hg9; obtain ⟨A9, c9, rfl, _⟩ := own_slice hown9; have HO9 := Lib.hid hown9; have HG9 := Lib.hid hg9; clear hown9 hg9)
            have HB9 : Hid (Below w.heap.size w w9) := (HB.out.alloc HB.out.size _).grown HG9.out (by rw [World.size_alloc]; omega) (fun g e => (HO.out.lt g e).1)
            refine wp_goto ?_
            refine ⟨⟨⟨rfl, rfl, rfl, rfl, rfl, rfl⟩, i + 1, n + 1, out ++ [b], A9, c9, by omega, by omega, rfl, rfl, by show _ = _; rw [List.length_append, HN.out]; rfl, ?_, HB9, .inr (.inl ⟨rfl, by omega, HU3⟩)⟩, (by first | (simp [Ink.mu, intOf]; done) | (simp [Ink.mu, intOf]; omega))⟩
            show World.ownsRow _ _ _ _ _ _ _
            rw [Em.cells_app]
            exact HO9.out
      · have hie : i = s.size := by omega
        subst hie
        have q0 : ((s.size : Int) == (s.size : Int)) = true := beq_self_eq_true _
        have HXn : Hid (X = none) := by
          show _ = _
          rw [← HU.out, List.drop_eq_nil_of_le (by rw [tl_length]; exact Nat.le_refl _)]
          rfl
        clear HU hlt
        refine ⟨_, rfl, ?_⟩
        go_wp2
        refine wp_goto ?_
        exact ⟨⟨⟨rfl, rfl, rfl, rfl, rfl, rfl⟩, s.size, n, out, A, c, by omega, hn, rfl, rfl, HN, HO, HB, .inl ⟨rfl, HXn⟩⟩, (by first | (simp [Ink.mu, intOf]; done) | (simp [Ink.mu, intOf]; omega))⟩
    · have hu := HU.out
      have hsi : s[i] = 92 := by
        have h1 := Em.byte_at s i hlt _ rfl
        exact Option.some.inj (h1.symm.trans H92.out)
      rw [Ink.drop_at hlt, hsi] at hu
      have q5 : IntKind.i64.wrap ((i : Int) + 1) = (i : Int) + 1 := by rw [IntKind.wrap_i64]; omega
      have q5b : IntKind.i64.wrap ((i : Int) + 1 + 1) = (i : Int) + 2 := by rw [IntKind.wrap_i64]; omega
      have hsz := HB.out.size
      clear HU H92
      by_cases h2 : i + 1 < s.size
      · have q0 : ((i : Int) + 1 == (s.size : Int)) = false := by rw [beq_eq_false_iff_ne]; omega
        have q1 : (0 : Int) ≤ (i : Int) + 1 := by omega
        have q2 : (i : Int) + 1 < (s.size : Int) := by omega
        have q3 : ((i : Int) + 1).toNat = i + 1 := by omega
        rw [Ink.drop_at h2] at hu
        obtain ⟨b, hb⟩ : ∃ b, s[i + 1] = b := ⟨_, rfl⟩
        rw [hb] at hu
        by_cases hb2 : b = 34 ∨ b = 92
        · rw [Ink.uqIn_esc _ hb2] at hu
          have HU3 : Hid (Ink.uqIn ((tl s).drop (i + 2)) (out ++ [b]) = X) := hu
          have hway : ((b.toNat : Int) != 34) = false ∨ (((b.toNat : Int) != 34) = true ∧ ((b.toNat : Int) != 92) = false) := by
            rcases hb2 with rfl | rfl
            · exact .inl rfl
            · exact .inr ⟨rfl, rfl⟩
          clear hu hb2
          refine ⟨_, rfl, ?_⟩
          rcases hway with g1 | ⟨g1, g2⟩
          all_goals
            go_wp2_with (at_builtin; refine wpList_append_bytes HI8.out _ rfl (.tmp 58) (.tmp 62) rfl w.heap.size _ n _ rfl (HO.out.alloc _) _ _ _ _ _ rfl (reads_lit wx #[.int .u8 (b.toNat : Int)] 5) (by intro u hu; cases hu with | head => rfl | tail _ h => cases h) (by show n + 1 ≤ _; omega) (by rw [World.size_alloc]; omega) ?_; intro v9 w9 hown9 hg9; obtain ⟨A9, c9, rfl, _⟩ := own_slice hown9; have HO9 := Lib.hid hown9; have HG9 := Lib.hid hg9; clear hown9 hg9)
            have HB9 : Hid (Below w.heap.size w w9) := (HB.out.alloc HB.out.size _).grown HG9.out (by rw [World.size_alloc]; omega) (fun g e => (HO.out.lt g e).1)
            refine wp_goto ?_
            refine ⟨⟨⟨rfl, rfl, rfl, rfl, rfl, rfl⟩, i + 2, n + 1, out ++ [b], A9, c9, by omega, by omega, rfl, rfl, by show _ = _; rw [List.length_append, HN.out]; rfl, ?_, HB9, .inr (.inl ⟨rfl, by omega, HU3⟩)⟩, (by first | (simp [Ink.mu, intOf]; done) | (simp [Ink.mu, intOf]; omega))⟩
            show World.ownsRow _ _ _ _ _ _ _
            rw [Em.cells_app]
            exact HO9.out
        · have HXn : Hid (X = none) := by
            show _ = _
            rw [← hu, Ink.uqIn, if_neg (by decide), if_pos rfl, if_neg hb2]
          obtain ⟨g1, g1b, g1c⟩ := Ink.ne34 fun e => hb2 (.inl e)
          obtain ⟨g2, g2b, g2c⟩ := Ink.ne92 fun e => hb2 (.inr e)
          clear hu hb2
          refine ⟨_, rfl, ?_⟩
          go_wp2
          refine wp_goto ?_
          exact ⟨⟨⟨rfl, rfl, rfl, rfl, rfl, rfl⟩, i + 1, n, out, A, c, by omega, by omega, rfl, rfl, HN, HO, HB, .inl ⟨rfl, HXn⟩⟩, (by first | (simp [Ink.mu, intOf]; done) | (simp [Ink.mu, intOf]; omega))⟩
      · have q0 : ((i : Int) + 1 == (s.size : Int)) = true := by rw [beq_iff_eq]; omega
        have HXn : Hid (X = none) := by
          show _ = _
          rw [← hu, List.drop_eq_nil_of_le (by rw [tl_length]; omega), Ink.uqIn, if_neg (by decide)]
        clear hu
        refine ⟨_, rfl, ?_⟩
        go_wp2
        refine wp_goto ?_
        exact ⟨⟨⟨rfl, rfl, rfl, rfl, rfl, rfl⟩, i + 1, n, out, A, c, by omega, by omega, rfl, rfl, HN, HO, HB, .inl ⟨rfl, HXn⟩⟩, (by first | (simp [Ink.mu, intOf]; done) | (simp [Ink.mu, intOf]; omega))⟩
end Go.Proofs.YtmnolcjmnddbnaaGreatDoor

/- intake: what a reader holds of the keys so far. -/
namespace Go.Proofs.YtmnolcjmnddbnaaGreatDoor
open Go.RowKit

namespace Ink
theorem map_cells {P : Program} {k : TypeId} {w : World} {b n : Nat} {f : Mp.Fn} (h : MapF P k w b n f) : ∃ o : Obj, w.heap[b]? = some o ∧ o.isCells = false := by
  obtain ⟨D, ⟨es, clock, hb, _⟩, _⟩ := h
  exact ⟨_, hb, rfl⟩
theorem own_cells {w : World} {B : Nat} {e : TypeId} {size n g : Nat} {v : Value} {xs : List Value} (h : w.ownsRow B e size v n xs) (hg : v.ownBlock = some g) : ∃ o : Obj, w.heap[g]? = some o ∧ o.isCells = true := by
  rcases h.2 with ⟨rfl, _⟩ | ⟨g', cap, cur, rfl, _, hb, _⟩
  · cases hg
  · have : g' = g := Option.some.inj hg
    subst this
    exact ⟨_, hb, rfl⟩
theorem own_ne_map {P : Program} {k : TypeId} {w : World} {B b m : Nat} {f : Mp.Fn} {e : TypeId} {size n : Nat} {v : Value} {xs : List Value} (h : w.ownsRow B e size v n xs) (hm : MapF P k w b m f) : v.ownBlock ≠ some b := by
  intro hg
  obtain ⟨o, h1, h2⟩ := own_cells h hg
  obtain ⟨o', h3, h4⟩ := map_cells hm
  rw [h1] at h3
  cases h3
  rw [h2] at h4
  cases h4
theorem at_ne_map {P : Program} {k : TypeId} {w : World} {b n g : Nat} {f : Mp.Fn} {x : Value} {xs : List Value} (hA : At w g (x :: xs)) (h : MapF P k w b n f) : g ≠ b := by
  intro e
  subst e
  obtain ⟨o, ho, hc⟩ := map_cells h
  obtain ⟨o', ho', hc'⟩ := cells_of_cell (hA.cell 0 x rfl)
  rw [show (⟨g, 0, none⟩ : Addr).block = g from rfl, ho] at ho'
  cases ho'
  rw [hc] at hc'
  cases hc'
theorem at_grown {w w' : World} {h : Nat} {row : Option Nat} {xs : List Value} (a : At w h xs) (hg : w.grownBy w' row) (hne : row ≠ some h) : At w' h xs := by
  have e := hg.block h a.lt (fun x => hne x.symm)
  exact ⟨Nat.lt_of_lt_of_le a.1 hg.size, fun i v hi => ⟨(World.cell?_of_block (a := ⟨h, i, none⟩) e).trans (a.2 i v hi).1, (World.frozen?_of_block (a := ⟨h, i, none⟩) e).trans (a.2 i v hi).2⟩⟩
theorem own_kept {w w' : World} {B : Nat} {e : TypeId} {size n : Nat} {v : Value} {xs : List Value} {row : Option Nat} (h : w.ownsRow B e size v n xs) (hg : w.grownBy w' row) (hne : ∀ g, v.ownBlock = some g → row ≠ some g) : w'.ownsRow B e size v n xs := by
  refine h.kept hg ?_
  cases hq : v.ownBlock with
  | none => exact .inl rfl
  | some g => exact .inr fun q => hne g hq q.symm
/-- What a reader in block b holds: the keys so far, each one's values in a row of their own; the paths. -/
structure Rd (w : World) (b pm np : Nat) (Ps : List ByteArray) (nmv : Value) (st : List Hv.K) (kv : Value) (evs : List Value) : Prop where
  at_ : At w b [kv, .map (some pm), nmv]
  keys : w.ownsRow (b + 1) 44 2 kv st.length ((st.zip evs).flatMap Hv.kc)
  len : evs.length = st.length
  vals : ∀ p ∈ st.zip evs, w.ownsRow (b + 1) 25 5 p.2 p.1.vals.length (p.1.vals.flatMap Hv.V.cells)
  apart : ∀ v ∈ evs, ∀ g, v.ownBlock = some g → kv.ownBlock ≠ some g
  pair : evs.Pairwise fun x y => ∀ g, x.ownBlock = some g → y.ownBlock ≠ some g
  map : MapF Tryz.prog 9 w pm np (Hv.sf Ps)
  pmb : pm ≠ b ∧ b ≤ pm + 1
section
variable {w w' : World} {b pm np : Nat} {Ps : List ByteArray} {nmv kv : Value} {st : List Hv.K} {evs : List Value}
theorem Rd.call (h : Rd w b pm np Ps nmv st kv evs) (hb : Below w.heap.size w w') : Rd w' b pm np Ps nmv st kv evs :=
  ⟨h.at_.call hb, Em.own_below h.keys hb, h.len, fun p hp => Em.own_below (h.vals p hp) hb, h.apart, h.pair, h.map.below hb, h.pmb⟩
theorem Rd.lt (h : Rd w b pm np Ps nmv st kv evs) : b < w.heap.size := h.at_.lt
theorem Rd.kv_ne (h : Rd w b pm np Ps nmv st kv evs) : kv.ownBlock ≠ some b := fun e => by have := (h.keys.lt b e).1; omega
theorem Rd.mem (h : Rd w b pm np Ps nmv st kv evs) {v : Value} (hv : v ∈ evs) : ∃ k, (k, v) ∈ st.zip evs := by
  obtain ⟨i, hi, rfl⟩ := List.mem_iff_getElem.1 hv
  have hl : i < st.length := by rw [← h.len]; exact hi
  exact ⟨st[i], List.mem_of_getElem? (i := i) (by rw [List.getElem?_zip_eq_some]; exact ⟨List.getElem?_eq_getElem hl, List.getElem?_eq_getElem hi⟩)⟩
theorem Rd.v_ne (h : Rd w b pm np Ps nmv st kv evs) {v : Value} (hv : v ∈ evs) : v.ownBlock ≠ some b := fun e => by
  obtain ⟨k, hk⟩ := h.mem hv
  have := ((h.vals _ hk).lt b e).1
  omega
/-- A map is written that is not a row of these. -/
theorem Rd.mapG {m n : Nat} {f : Mp.Fn} (h : Rd w b pm np Ps nmv st kv evs) (hm : MapF Tryz.prog 9 w m n f) (hg : w.grownBy w' (some m)) {np' : Nat} {Ps' : List ByteArray} (hp : MapF Tryz.prog 9 w' pm np' (Hv.sf Ps')) : Rd w' b pm np' Ps' nmv st kv evs :=
  ⟨at_grown h.at_ hg (fun e => at_ne_map h.at_ hm (Option.some.inj e).symm), own_kept h.keys hg (fun g q e => own_ne_map h.keys hm (by rw [q, ← e])), h.len, fun p hp => own_kept (h.vals p hp) hg (fun g q e => own_ne_map (h.vals p hp) hm (by rw [q, ← e])), h.apart, h.pair, hp, h.pmb⟩
theorem Rd.setNm (h : Rd w b pm np Ps nmv st kv evs) (v : Value) : Rd (w.setCell ⟨b, 2, none⟩ v) b pm np Ps v st kv evs :=
  ⟨h.at_.set 2 v, ownsRow_setCell_below h.keys (Nat.lt_succ_self b) v, h.len, fun p hp => ownsRow_setCell_below (h.vals p hp) (Nat.lt_succ_self b) v, h.apart, h.pair, h.map.setCell h.pmb.1 v, h.pmb⟩
/-- A key more. -/
theorem Rd.pushKey {p : ByteArray} {kv' : Value} (h : Rd w b pm np Ps nmv st kv evs) (hg : w.grownBy w' kv.ownBlock) (hown : w'.ownsRow (b + 1) 44 2 kv' (st.length + 1) ((st.zip evs).flatMap Hv.kc ++ [.string p, .slice none 0 0])) (hat : ∀ g, g < w.heap.size → kv.ownBlock ≠ some g → kv'.ownBlock ≠ some g) :
    Rd (w'.setCell ⟨b, 0, none⟩ kv') b pm np Ps nmv (st ++ [⟨p, []⟩]) kv' (evs ++ [.slice none 0 0]) := by
  have hz : (st ++ [(⟨p, []⟩ : Hv.K)]).zip (evs ++ [Value.slice none 0 0]) = st.zip evs ++ [((⟨p, []⟩ : Hv.K), Value.slice none 0 0)] := by rw [List.zip_append h.len.symm]; rfl
  have hA := at_grown h.at_ hg h.kv_ne
  refine ⟨hA.set 0 kv', ?_, by rw [List.length_append, List.length_append, h.len]; rfl, ?_, ?_, ?_, ?_, h.pmb⟩
  · rw [hz, List.flatMap_append, List.length_append]
    exact ownsRow_setCell_below hown (Nat.lt_succ_self b) kv'
  · intro q hq
    rw [hz] at hq
    refine ownsRow_setCell_below ?_ (Nat.lt_succ_self b) kv'
    rcases List.mem_append.1 hq with hq | hq
    · exact own_kept (h.vals q hq) hg (fun g e => h.apart q.2 (List.of_mem_zip hq).2 g e)
    · obtain rfl := List.mem_singleton.1 hq
      exact World.ownsRow_nil _ _ _ _
  · intro v hv g e
    rcases List.mem_append.1 hv with hv | hv
    · obtain ⟨k, hk⟩ := h.mem hv
      exact hat g ((h.vals _ hk).lt g e).2 (h.apart v hv g e)
    · obtain rfl := List.mem_singleton.1 hv
      cases e
  · rw [List.pairwise_append]
    refine ⟨h.pair, List.pairwise_singleton _ _, fun x _ y hy g _ e => ?_⟩
    obtain rfl := List.mem_singleton.1 hy
    cases e
  · exact (h.map.kept hg (fun e => own_ne_map h.keys h.map e.symm)).setCell h.pmb.1 kv'
theorem kc_len (l : List (Hv.K × Value)) : (l.flatMap Hv.kc).length = l.length * 2 := by
  induction l with
  | nil => rfl
  | cons x l ih => rw [List.flatMap_cons, List.length_append, ih, List.length_cons]; simp [Hv.kc]; omega
/-- A value more, of the last key. -/
theorem Rd.pushVal {st0 : List Hv.K} {evs0 : List Value} {k : Hv.K} {ev ev' : Value} {v : Hv.V} {gk ck : Nat} (h : Rd w b pm np Ps nmv (st0 ++ [k]) (.slice (some ⟨gk, 0, none⟩) (st0.length + 1) ck) (evs0 ++ [ev])) (hg : w.grownBy w' ev.ownBlock)
    (hown : w'.ownsRow (b + 1) 25 5 ev' (k.vals.length + 1) (k.vals.flatMap Hv.V.cells ++ v.cells)) (hat : ∀ g, g < w.heap.size → ev.ownBlock ≠ some g → ev'.ownBlock ≠ some g) :
    Rd (w'.setCell ⟨gk, st0.length * 2 + 1, none⟩ ev') b pm np Ps nmv (st0 ++ [⟨k.path, k.vals ++ [v]⟩]) (.slice (some ⟨gk, 0, none⟩) (st0.length + 1) ck) (evs0 ++ [ev']) := by
  have hl : evs0.length = st0.length := by have := h.len; rw [List.length_append, List.length_append] at this; simpa using this
  have hz : ∀ (x : Hv.K) (y : Value), (st0 ++ [x]).zip (evs0 ++ [y]) = st0.zip evs0 ++ [(x, y)] := fun x y => by rw [List.zip_append hl.symm]; rfl
  have hle : ev ∈ evs0 ++ [ev] := List.mem_append_right _ (List.mem_singleton.2 rfl)
  have hgk : (Value.slice (some ⟨gk, 0, none⟩) (st0.length + 1) ck).ownBlock = some gk := rfl
  have hgl := (h.keys.lt gk hgk)
  have hap := h.apart ev hle
  have hgb : gk ≠ b := by omega
  have hlast := h.vals (k, ev) (by rw [hz]; exact List.mem_append_right _ (List.mem_singleton.2 rfl))
  have heg : ev.ownBlock ≠ some gk := fun e => hap gk e hgk
  have hpair := List.pairwise_append.1 h.pair
  refine ⟨(at_grown h.at_ hg (h.v_ne hle)).set_other _ _ hgb, ?_, by rw [List.length_append, List.length_append, hl]; rfl, ?_, ?_, ?_, ?_, h.pmb⟩
  · have h1 := own_kept h.keys hg (fun g q e => hap g e q)
    rw [List.length_append, List.length_singleton] at h1
    have h2 := (h1.stored (st0.length * 2 + 1) ev').1
    rw [hz, List.flatMap_append, List.set_append_right _ _ (by rw [kc_len, List.length_zip, hl]; omega), kc_len, List.length_zip, hl, Nat.min_self, Nat.add_sub_cancel_left] at h2
    rw [List.length_append, hz, List.flatMap_append]
    exact h2
  · intro q hq
    rw [hz] at hq
    rcases List.mem_append.1 hq with hq | hq
    · have hm : q ∈ (st0 ++ [k]).zip (evs0 ++ [ev]) := by rw [hz]; exact List.mem_append_left _ hq
      have hqv : q.2 ∈ evs0 := (List.of_mem_zip hq).2
      exact ownsRow_setCell_other (own_kept (h.vals q hm) hg (fun g e e2 => hpair.2.2 q.2 hqv ev (List.mem_singleton.2 rfl) g e e2)) (a := ⟨gk, st0.length * 2 + 1, none⟩) (fun e => h.apart q.2 (List.mem_append_left _ hqv) gk e hgk) _
    · obtain rfl := List.mem_singleton.1 hq
      rw [List.length_append, List.flatMap_append]
      have e1 : [v].flatMap Hv.V.cells = v.cells := by rw [List.flatMap_cons, List.flatMap_nil, List.append_nil]
      rw [e1]
      exact ownsRow_setCell_other hown (a := ⟨gk, st0.length * 2 + 1, none⟩) (hat gk hgl.2 heg) _
  · intro x hx g e
    rcases List.mem_append.1 hx with hx | hx
    · exact h.apart x (List.mem_append_left _ hx) g e
    · obtain rfl := List.mem_singleton.1 hx
      intro e2
      have : gk = g := Option.some.inj e2
      subst this
      exact hat gk hgl.2 heg e
  · rw [List.pairwise_append]
    refine ⟨hpair.1, List.pairwise_singleton _ _, fun x hx y hy g e => ?_⟩
    obtain rfl := List.mem_singleton.1 hy
    obtain ⟨kx, hkx⟩ := h.mem (List.mem_append_left _ hx)
    exact hat g ((h.vals _ hkx).lt g e).2 (hpair.2.2 x hx ev (List.mem_singleton.2 rfl) g e)
  · exact (h.map.kept hg (fun e => own_ne_map hlast h.map e.symm)).setCell (by
      intro e
      exact own_ne_map h.keys h.map (by rw [hgk]; exact congrArg some (show gk = pm from e.symm))) ev'
/-- What it holds, as a hive. -/
theorem Rd.hive (h : Rd w b pm np Ps nmv st kv evs) : Hv.HR w w.heap.size st kv evs := by
  have key : ∀ {e : TypeId} {size n : Nat} {v : Value} {xs : List Value}, w.ownsRow (b + 1) e size v n xs → Hv.Row w w.heap.size size n v xs := by
    intro e size n v xs ho
    have hr := ho
    obtain ⟨A, c, rfl, h1, h2⟩ : ∃ A c, v = .slice A n c ∧ n ≤ c ∧ c ≤ maxLen := by
      rcases ho.2 with ⟨rfl, rfl⟩ | ⟨g, cap, cur, rfl, _, _, h1, h2, _⟩
      · exact ⟨none, 0, rfl, Nat.le_refl _, Nat.zero_le _⟩
      · exact ⟨_, cap, rfl, h1, h2⟩
    exact ⟨A, c, rfl, h1, h2, Reads.of_own hr⟩
  exact ⟨key h.keys, h.len, fun p hp => key (h.vals p hp)⟩
end
end Ink
end Go.Proofs.YtmnolcjmnddbnaaGreatDoor
