/- What scan.Join lets through as it is, scan.Fields reads back; the contract of solsticetop.fields5. -/
import Derived.Test.YtlhoggalhjadgaaDoorK32
import Derived.Test.YtlhoggalhjadgaaDoorK23
namespace Go.Proofs.YtlhoggalhjadgaaDoor
open Go.RowKit

namespace Sc
/-- A text that needs no quotes. -/
def Plain (s : ByteArray) : Prop := s ≠ ⟨#[]⟩ ∧ ∀ c ∈ tl s, kind c.toNat = 0
theorem scan_word : ∀ (l rest : List UInt8) (a b : Int) (t : List UInt8) (acc : List (List UInt8 × Int)), (∀ c ∈ l, kind c.toNat = 0) → scan (l ++ rest) a (.f b t) acc = scan rest (a + l.length) (.f b (t ++ l)) acc
  | [], rest, a, b, t, acc, _ => by simp
  | c :: l, rest, a, b, t, acc, h => by
    rw [List.cons_append, f_0 (h c List.mem_cons_self), scan_word l rest (a + 1) b (t ++ [c]) acc fun x hx => h x (List.mem_cons_of_mem _ hx)]
    rw [List.append_assoc, List.length_cons, show a + 1 + (l.length : Int) = a + ((l.length + 1 : Nat) : Int) by omega]
    rfl
theorem k32 : kind ((32 : UInt8).toNat : Int) = 1 := by decide
theorem k35 : kind ((35 : UInt8).toNat : Int) = 3 := by decide
theorem k9 : kind ((9 : UInt8).toNat : Int) = 1 := by decide
theorem scan_begin (y rest : List UInt8) (a : Int) (acc : List (List UInt8 × Int)) (h : y ≠ [] ∧ ∀ c ∈ y, kind c.toNat = 0) (hl : acc.length ≠ 24) :
    scan (y ++ rest) a .b acc = scan rest (a + y.length) (.f (a + 1) y) acc := by
  obtain ⟨h0, h1⟩ := h
  cases y with
  | nil => exact absurd rfl h0
  | cons c l =>
    rw [List.cons_append, b_f (.inl (h1 c List.mem_cons_self)) hl, ← List.cons_append, scan_word (c :: l) rest a (a + 1) [] acc h1]
    rfl
theorem scan_tail : ∀ (r : List (List UInt8)) (R : List UInt8) (a b : Int) (t : List UInt8) (acc : List (List UInt8 × Int)), (∀ w ∈ r, w ≠ [] ∧ ∀ c ∈ w, kind c.toNat = 0) → acc.length + 1 + r.length ≤ 24 →
    ∃ L, scan (Lib.joinTail [32] r ++ 32 :: 35 :: R) a (.f b t) acc = .ok (acc ++ L) ∧ L.map (·.1) = t :: r
  | [], R, a, b, t, acc, _, _ => ⟨[(t, b)], by
    show scan (32 :: 35 :: R) a (.f b t) acc = _
    rw [f_b (.inl k32), b_1 k32, b_3 k35], rfl⟩
  | y :: r, R, a, b, t, acc, h, hl => by
    have hj : Lib.joinTail [32] (y :: r) ++ 32 :: 35 :: R = 32 :: (y ++ (Lib.joinTail [32] r ++ 32 :: 35 :: R)) := by simp [Lib.joinTail]
    rw [hj, f_b (.inl k32), b_1 k32, scan_begin y _ (a + 1) _ (h y List.mem_cons_self) (by rw [List.length_append, List.length_cons] at *; simp at *; omega)]
    obtain ⟨L, h1, h2⟩ := scan_tail r R (a + 1 + y.length) (a + 1 + 1) y (acc ++ [(t, b)]) (fun w hw => h w (List.mem_cons_of_mem _ hw)) (by rw [List.length_append]; simp at *; omega)
    exact ⟨(t, b) :: L, by rw [h1, List.append_assoc]; rfl, by rw [List.map_cons, h2]⟩
theorem qall_plain : ∀ (ss : List ByteArray), (∀ s ∈ ss, Plain s) → qall ss = some ss
  | [], _ => rfl
  | s :: l, h => by
    rw [qall_some (quote_plain s (h s List.mem_cons_self).1 (h s List.mem_cons_self).2), qall_plain l fun x hx => h x (List.mem_cons_of_mem _ hx)]
    rfl
def NOTE : ByteArray := ⟨#[32, 35, 32, 110, 111, 116, 101]⟩
theorem line_fields (ss : List ByteArray) (h0 : ss ≠ []) (hp : ∀ s ∈ ss, Plain s) (hn : ss.length ≤ 24) (hl : (line ss).size ≤ 2000) :
    ∃ L, fields (tl (⟨#[9]⟩ ++ line ss ++ NOTE)) = .ok L ∧ L.map (·.1) = ss.map tl := by
  have ht : tl (⟨#[9]⟩ ++ line ss ++ NOTE) = 9 :: (Lib.join (ss.map tl) [32] ++ 32 :: 35 :: [32, 110, 111, 116, 101]) := by
    unfold NOTE line
    simp only [tl, ByteArray.data_append, Array.toList_append]
    rfl
  have hlen : (tl (⟨#[9]⟩ ++ line ss ++ NOTE)).length ≤ 2048 := by
    rw [tl_length, ByteArray.size_append, ByteArray.size_append]
    have h1 : (⟨#[9]⟩ : ByteArray).size = 1 := rfl
    have h2 : NOTE.size = 7 := rfl
    omega
  unfold fields
  rw [if_neg (by omega), ht, b_1 k9]
  cases ss with
  | nil => exact absurd rfl h0
  | cons x r =>
    have hpw : ∀ w ∈ (x :: r).map tl, w ≠ [] ∧ ∀ c ∈ w, kind c.toNat = 0 := by
      intro w hw
      rw [List.mem_map] at hw
      obtain ⟨s, hs, rfl⟩ := hw
      have := hp s hs
      refine ⟨fun e => this.1 ?_, this.2⟩
      have e2 : s.data = #[] := by unfold tl at e; simpa using e
      cases s
      simp only at e2
      rw [e2]
    rw [List.map_cons, Lib.join_cons, List.append_assoc, scan_begin (tl x) _ _ _ (hpw (tl x) (by simp)) (by simp)]
    obtain ⟨L, h1, h2⟩ := scan_tail (r.map tl) [32, 110, 111, 116, 101] (0 + 1 + (tl x).length) (0 + 1 + 1) (tl x) [] (fun w hw => hpw w (by rw [List.map_cons]; exact List.mem_cons_of_mem _ hw)) (by simp at *; omega)
    exact ⟨L, by rw [h1]; rfl, by rw [h2]⟩
theorem jv_plain (ss : List ByteArray) (hp : ∀ s ∈ ss, Plain s) (hn : ss.length ≤ 24) (hl : (line ss).size ≤ 2000) : jv ss = .tuple #[.string (line ss), .int .i64 0] := by
  unfold jv
  rw [if_neg (by omega), qall_plain ss hp]
  simp only
  rw [if_neg (by omega)]
end Sc
set_option maxHeartbeats 2000000 in
set_option maxRecDepth 100000 in
theorem fields5_ok (A : Option Addr) (n c : Nat) (ss : List ByteArray) (w : World) (hn : n ≤ c) (hc : c ≤ maxLen) (hr : Reads w w.heap.size 1 A n (ss.map Value.string)) (h0 : ss ≠ []) (hp : ∀ s ∈ ss, Sc.Plain s) (h24 : ss.length ≤ 24) (hl : (Sc.line ss).size ≤ 2000) (hs : ∀ t ∈ ss, t.size ≤ 1000000) :
    Calls Tryd.prog 6 #[.slice A n c] w fun e w' => ∃ A' c', e = .returned (.tuple #[.slice A' n c', .bool true]) ∧ Below w.heap.size w w' ∧ n ≤ c' ∧ c' ≤ maxLen ∧ Reads w' w'.heap.size 1 A' n (ss.map Value.string) := by
  have hlen : ss.length = n := by have := hr.1; simpa using this
  have hj := join_any A n c ss w hn hc hr hs
  rw [Sc.jv_plain ss hp h24 hl] at hj
  obtain ⟨L, hL, hLs⟩ := Sc.line_fields ss h0 hp h24 hl
  obtain ⟨Y, hY⟩ : ∃ Y, Sc.line ss = Y := ⟨_, rfl⟩
  rw [hY] at hj hl hL
  have z9 : (⟨#[9]⟩ : ByteArray).size = 1 := rfl
  have zN : Sc.NOTE.size = 7 := rfl
  have s1 : ∀ W, (Op.stringOp .add ⟨#[9]⟩ Y).run Tryd.prog W = .ok (.string (⟨#[9]⟩ ++ Y)) W := fun W => run_string_add_sum W _ _ (by omega)
  have s2 : ∀ W, (Op.stringOp .add (⟨#[9]⟩ ++ Y) ⟨#[32, 35, 32, 110, 111, 116, 101]⟩).run Tryd.prog W = .ok (.string (⟨#[9]⟩ ++ Y ++ Sc.NOTE)) W := fun W => run_string_add_sum W _ Sc.NOTE (by rw [ByteArray.size_append]; omega)
  have hf := fun W => fields_any (⟨#[9]⟩ ++ Y ++ Sc.NOTE) W (by rw [ByteArray.size_append, ByteArray.size_append]; unfold maxLen; omega)
  rw [hL] at hf
  obtain ⟨T, hT⟩ : ∃ T, (⟨#[9]⟩ : ByteArray) ++ Y = T := ⟨_, rfl⟩
  rw [hT] at s1 s2 hf
  obtain ⟨T2, hT2⟩ : ∃ T2, T ++ Sc.NOTE = T2 := ⟨_, rfl⟩
  rw [hT2] at s2 hf
  have hLl : L.length = n := by
    have := congrArg List.length hLs
    simpa [hlen] using this
  have hLb : (L.map (·.1)).map Src.bts = ss := by
    rw [hLs, List.map_map]
    have : (Src.bts ∘ tl) = id := by funext s; rfl
    rw [this, List.map_id]
  have hn24 : n ≤ 24 := by omega
  have HJ := Lib.hid hj
  have HF := Lib.hid hf
  have HLl := Lib.hid hLl
  have HLb := Lib.hid hLb
  have HLen := Lib.hid hlen
  clear hj hf hL hLs hLl hLb hlen hr hp h0 h24 hs hT hT2 hY z9 zN hl hn hc
  obtain ⟨i0, i1, i2, i3, i4⟩ := info_parts str_info
  have HI := Lib.hid (And.intro i1 (And.intro i2 (And.intro i3 i4)))
  clear i1 i2 i3 i4
  go_enter Tryd.func6, Tryd.ntmps6
  go_wp2_with fail
  refine HJ.out.mono ?_
  rintro e w1 ⟨rfl, hb⟩
  have HB1 := Lib.hid hb
  clear hb
  go_wp2_with fail
  refine (HF.out _).mono ?_
  rintro e w2 ⟨hb, fA, fc, hfc, hfm, rfl, hfo⟩
  have HRo := Lib.hid (show Reads w2 w2.heap.size 2 fA n (L.flatMap Src.flc) from by have := Reads.of_own hfo; rw [HLl.out] at this; exact this)
  rw [HLl.out] at hfc ⊢
  unfold maxLen at hfm
  have HB2 := Lib.hid (below_then HB1.out hb)
  clear hb hfo
  have HO0 := Lib.hid (Go.World.ownsRow_nil w2 w2.heap.size 9 1)
  go_wp2_with fail
  go_loopw [9, 27] (fun v i wr => Src.IRel w2 (L.map (·.1)) n v i wr) (fun _ i _ => n - (intOf i).toNat)
  case atStart => exact ⟨0, Nat.zero_le _, rfl, HO0.out, Below.refl _ _⟩
  case round =>
    obtain ⟨j, hj, rfl, HOi, HBi⟩ := hrel
    by_cases hjm : j < n
    · have q3 : (0 : Int) ≤ (j : Int) := by omega
      have q4 : (j : Int) < (n : Int) := by omega
      obtain ⟨ad2, x, rfl, hab2, Hx, HLx⟩ := Ix.reads_cells (enc := Src.flc) (m := 2) (fun _ => rfl) HLl.out (HRo.out.below HBi.out) hjm
      obtain ⟨tx, col⟩ := x
      obtain ⟨xb, hxb⟩ : ∃ b, Src.bts tx = b := ⟨_, rfl⟩
      have x0 : wr.cell? (ad2.add (j * 2)) = some (.string xb) := by rw [← hxb]; exact HLx.out 0 _ rfl
      have x1 : wr.cell? ⟨(ad2.add (j * 2)).block, (ad2.add (j * 2)).off + 1, none⟩ = some (.int .i64 col) := HLx.out 1 _ rfl
      have HXB := Lib.hid hxb
      have HTK := Lib.hid (Src.take_more (ts := L.map (·.1)) (j := j) (t := tx) (by simp [Hx.out]))
      obtain ⟨vA, vc, hv, _, _⟩ := own_slice_cap HOi.out
      subst hv
      have hwi := HBi.out.size
      have HAp := fun {ops : Array Oper} {rest : List Oper} {o : Oper} {a : Act} {Q : Exit → Act → World → Prop} (hgd : o.guard = none) (ho : o.op = .call { callee := .builtin .append, args := #[.tmp 31, .tmp 34], argTypes := #[36, 36] }) (hs : a.eval (.tmp 31) = .slice vA j vc) (hx : a.eval (.tmp 34) = .slice (some ⟨wr.heap.size + 1, 0, none⟩) 1 1) h => wpList_append_any (P := Tryd.prog) (ops := ops) (rest := rest) (o := o) (a := a) (Q := Q) ((wr.alloc (.cells #[.string xb, .int .i64 col] 62)).alloc (.cells #[.string xb] 9)) hgd (.tmp 31) (.tmp 34) 36 ho w2.heap.size 9 i0 _ 1 16 Tryd.underlying36 HI.out.1 HI.out.2.1 HI.out.2.2.1 HI.out.2.2.2 rfl (by decide) _ j _ hs ((HOi.out.alloc _).alloc _) ((wr.alloc (.cells #[.string xb, .int .i64 col] 62)).alloc (.cells #[.string xb] 9)).heap.size _ 1 1 _ hx (er_reads (wr.alloc (.cells #[.string xb, .int .i64 col] 62)) (wr.heap.size + 1) [xb] 9 (by simp)) (by simp [Value.oneCell']) (by unfold maxLen; omega) (by omega) (by simp; omega) h
      clear hxb
      go_wp2_with (at_builtin; refine HAp rfl rfl rfl rfl ?_; intro v9' w9 hown9 hg9 hat9)
      have HO9 := Lib.hid (show w9.ownsRow w2.heap.size 9 1 v9' (j + 1) ((((L.map (·.1)).take (j + 1)).map Src.bts).map Value.string) by rw [HTK.out, HXB.out]; exact hown9)
      have HB9 := Lib.hid (show Below w2.heap.size w2 w9 from ((HBi.out.alloc HBi.out.size _).alloc (by simp; omega) _).grown hg9 (by simp; omega) (fun kk hkk => (HOi.out.lt kk hkk).1))
      clear hown9 hg9 hat9 HAp x0 x1
      go_wp2
      go_roundw
      case rel => exact ⟨j + 1, by omega, by go_num, HO9.out, HB9.out⟩
      case measure => simp [intOf]; omega
    · have q4 : ¬ (j : Int) < (n : Int) := by omega
      have hjm' : j = n := by omega
      subst hjm'
      have hown := HOi.out
      rw [List.take_of_length_le (by have := HLl.out; simp; omega), HLb.out] at hown
      obtain ⟨vA, vc, hv, hv1, hv2⟩ := own_slice_cap hown
      subst hv
      have HOw := Lib.hid hown
      clear hown
      go_wp2
      go_ret2
      exact ⟨vA, vc, rfl, below_then HB2.out HBi.out, hv1, hv2, Reads.of_own HOw.out⟩
end Go.Proofs.YtlhoggalhjadgaaDoor
/- A rule's texts and an era's are fields that need no quotes, and make a short line. -/
namespace Go.Proofs.YtlhoggalhjadgaaDoor
open Go.RowKit

namespace Sc
def Pl (l : List UInt8) : Prop := ∀ c ∈ l, kind c.toNat = 0
theorem Pl.nil : Pl [] := fun _ h => by cases h
theorem Pl.app {a b : List UInt8} (h : Pl a) (h' : Pl b) : Pl (a ++ b) := fun c hc => by
  rcases List.mem_append.1 hc with x | x
  · exact h c x
  · exact h' c x
theorem Pl.cons {c : UInt8} {l : List UInt8} (h : kind c.toNat = 0) (h' : Pl l) : Pl (c :: l) := fun x hx => by
  rcases List.mem_cons.1 hx with e | e
  · rw [e]; exact h
  · exact h' x e
theorem kind_plain (c : UInt8) (h : 33 ≤ (c.toNat : Int) ∧ (c.toNat : Int) ≠ 34 ∧ (c.toNat : Int) ≠ 35 ∧ (c.toNat : Int) ≠ 127) : kind c.toNat = 0 := by
  unfold kind
  rw [if_neg (by omega), if_neg (by omega), if_neg (by omega), if_neg (by omega)]
def plB (l : List UInt8) : Bool := l.all fun c => decide (kind c.toNat = 0)
theorem pl_of {l : List UInt8} (h : plB l = true) : Pl l := fun c hc => of_decide_eq_true (List.all_eq_true.1 h c hc)
theorem digit_pl (k : Nat) (h : k < 10) : kind ((UInt8.ofNat (48 + k)).toNat : Int) = 0 := by
  apply kind_plain
  have : (UInt8.ofNat (48 + k)).toNat = 48 + k := by rw [UInt8.toNat_ofNat']; omega
  omega
theorem dec_pl (n : Nat) : Pl (Lib.decDigits n) := by
  induction n using Nat.strongRecOn with
  | _ n ih =>
    rw [Lib.decDigits]
    by_cases h : n < 10
    · rw [dif_pos h]
      exact Pl.cons (digit_pl n h) Pl.nil
    · rw [dif_neg h]
      exact (ih (n / 10) (by omega)).app (Pl.cons (digit_pl (n % 10) (by omega)) Pl.nil)
theorem itoa_pl (n : Int) (h : 0 ≤ n) : Pl (Lib.itoa n) := by
  unfold Lib.itoa
  rw [if_neg (by omega)]
  exact dec_pl _
theorem cut_mem : ∀ (s sub : List UInt8), 0 ≤ Lib.index s sub → ∀ c ∈ s, c ∈ s.take (Lib.index s sub).toNat ∨ c ∈ sub ∨ c ∈ s.drop ((Lib.index s sub).toNat + sub.length)
  | [], sub, _, c, hc => by cases hc
  | b :: l, sub, h, c, hc => by
    have hg := Lib.index_ge l sub
    unfold Lib.index at h ⊢
    by_cases hp : sub.isPrefixOf (b :: l) = true
    · rw [if_pos hp]
      obtain ⟨t, ht⟩ := List.isPrefixOf_iff_prefix.1 hp
      rw [← ht] at hc ⊢
      rcases List.mem_append.1 hc with x | x
      · exact .inr (.inl x)
      · refine .inr (.inr ?_)
        simpa using x
    · rw [if_neg hp] at h ⊢
      by_cases h1 : (Lib.index l sub == -1) = true
      · rw [if_pos h1] at h
        omega
      · rw [if_neg h1] at h ⊢
        have h2 : Lib.index l sub ≠ -1 := by simpa using h1
        have e : (Lib.index l sub + 1).toNat = (Lib.index l sub).toNat + 1 := by omega
        rw [e, List.take_succ_cons, show (Lib.index l sub).toNat + 1 + sub.length = ((Lib.index l sub).toNat + sub.length) + 1 by omega, List.drop_succ_cons]
        rcases List.mem_cons.1 hc with x | x
        · exact .inl (by rw [x]; exact List.mem_cons_self)
        · rcases cut_mem l sub (by omega) c x with y | y | y
          · exact .inl (List.mem_cons_of_mem _ y)
          · exact .inr (.inl y)
          · exact .inr (.inr y)
theorem cut_pl (s sub : List UInt8) (h : (Lib.cut s sub).2.2 = true) (h1 : Pl (Lib.cut s sub).1) (h2 : Pl sub) (h3 : Pl (Lib.cut s sub).2.1) : Pl s := by
  unfold Lib.cut at h h1 h3
  by_cases h0 : 0 ≤ Lib.index s sub
  · rw [if_pos h0] at h1 h3
    intro c hc
    rcases cut_mem s sub h0 c hc with x | x | x
    · exact h1 c x
    · exact h2 c x
    · exact h3 c x
  · rw [if_neg h0] at h
    cases h
theorem sgn_pl (c : UInt8) (h : Ab.sgn (c.toNat : Int) = true) : kind c.toNat = 0 := by
  apply kind_plain
  have := of_decide_eq_true h
  omega
theorem signs_pl (l : List UInt8) (h : Ab.signs l = true) : Pl l := fun c hc => sgn_pl c (List.all_eq_true.1 h c hc)
theorem all_pl {ss : List ByteArray} (h : Ab.all ss = true) : ∀ s ∈ ss, Pl (tl s) := fun s hs => signs_pl _ (List.all_eq_true.1 h s hs)
theorem nameAll_pl : ∀ (l : List UInt8) (f : Bool), Ru.nameAll l f = true → Pl l
  | [], _, _ => Pl.nil
  | c :: l, f, h => by
    unfold Ru.nameAll at h
    rw [Bool.and_eq_true, Bool.or_eq_true, Bool.and_eq_true] at h
    refine Pl.cons (kind_plain c ?_) (nameAll_pl l false h.2)
    rcases h.1 with x | x
    · have := of_decide_eq_true x; omega
    · have := of_decide_eq_true x.2; omega
theorem plain_of {s : ByteArray} (h : 1 ≤ s.size) (h' : Pl (tl s)) : Plain s := ⟨fun e => by rw [e] at h; exact absurd h (by decide), h'⟩
theorem plain_mk {l : List UInt8} (h : 1 ≤ l.length) (h' : Pl l) : Plain ⟨l.toArray⟩ := plain_of (by rw [size_mk]; exact h) (by rw [tl_mk]; exact h')
theorem name_plain {s : ByteArray} (h : Ru.name (tl s) = true) : Plain s := by
  unfold Ru.name at h
  rw [Bool.and_eq_true, decide_eq_true_eq, tl_length] at h
  exact plain_of h.1.1 (nameAll_pl _ _ h.2)
theorem itoa_plain (n : Int) (h : 0 ≤ n) : Plain ⟨(Lib.itoa n).toArray⟩ := by
  refine plain_mk ?_ (itoa_pl n h)
  unfold Lib.itoa
  rw [if_neg (by omega)]
  obtain ⟨k, l, e, _⟩ := Ru.dec_head n.toNat
  rw [e]
  simp
theorem two_pl (n : Int) (h0 : 0 ≤ n) (h1 : n < 100) : Pl (Ck.two n) :=
  Pl.cons (by decide) (Pl.cons (digit_pl _ (by omega)) (Pl.cons (digit_pl _ (by omega)) Pl.nil))
theorem body_pl (a : Int) (h : 0 ≤ a) (h2 : a ≤ 604800) : Pl (Ck.body a) ∧ 1 ≤ (Ck.body a).length ∧ (Ck.body a).length ≤ 10 := by
  unfold Ck.body
  have hl : 1 ≤ (Lib.itoa (a / 3600)).length ∧ (Lib.itoa (a / 3600)).length ≤ 4 := by
    unfold Lib.itoa
    rw [if_neg (by omega)]
    exact Dy.dec_len _ (by omega)
  have h3 : (Ck.two (a % 3600 / 60)).length = 3 := rfl
  have h4 : (Ck.two (a % 3600 % 60)).length = 3 := rfl
  refine ⟨((itoa_pl _ (by omega)).app (two_pl _ (by omega) (by omega))).app ?_, ?_, ?_⟩
  · split
    · exact two_pl _ (by omega) (by omega)
    · exact Pl.nil
  · rw [List.length_append, List.length_append]; omega
  · rw [List.length_append, List.length_append]
    split
    · omega
    · simp only [List.length_nil]; omega
theorem ck_pl (s : Int) (h : IsTime s) : Pl (Ck.text s) ∧ 1 ≤ (Ck.text s).length ∧ (Ck.text s).length ≤ 11 := by
  unfold Ck.text
  rw [if_pos h]
  obtain ⟨a1, a2⟩ := h
  have hb := body_pl (if s < 0 then -s else s) (by split <;> omega) (by split <;> omega)
  have hs : Pl (Ck.sign s) ∧ (Ck.sign s).length ≤ 1 := by
    unfold Ck.sign
    split
    · exact ⟨pl_of (by decide), Nat.le_refl _⟩
    · exact ⟨Pl.nil, Nat.zero_le _⟩
  exact ⟨hs.1.app hb.1, by rw [List.length_append]; omega, by rw [List.length_append]; omega⟩
theorem mo_pl (s c : Int) (h : Mo.Ok s c) : Pl (Mo.text s c) ∧ 1 ≤ (Mo.text s c).length ∧ (Mo.text s c).length ≤ 12 := by
  unfold Mo.text
  obtain ⟨k1, k2, k3⟩ := ck_pl s h.1
  have ht : Pl (Mo.tail c) ∧ (Mo.tail c).length ≤ 1 := by
    unfold Mo.tail
    split
    · exact ⟨pl_of (by decide), Nat.le_refl _⟩
    · split
      · exact ⟨pl_of (by decide), Nat.le_refl _⟩
      · exact ⟨Pl.nil, Nat.zero_le _⟩
  exact ⟨k1.app ht.1, by rw [List.length_append]; omega, by rw [List.length_append]; omega⟩
def dayB (k n d : Int) : Bool := plB (Dy.text k n d) && decide (1 ≤ (Dy.text k n d).length ∧ (Dy.text k n d).length ≤ 10)
theorem day0 : ∀ n : Nat, n < 31 → dayB 0 ((n : Int) + 1) 0 = true := by decide +kernel
theorem day1 : ∀ w : Nat, w < 7 → dayB 1 0 (w : Int) = true := by decide +kernel
theorem day2 : ∀ n : Nat, n < 31 → ∀ w : Nat, w < 7 → dayB 2 ((n : Int) + 1) (w : Int) = true := by decide +kernel
theorem day3 : ∀ n : Nat, n < 31 → ∀ w : Nat, w < 7 → dayB 3 ((n : Int) + 1) (w : Int) = true := by decide +kernel
theorem day_pl (k n d : Int) (h : Dy.Ok k n d) : Pl (Dy.text k n d) ∧ 1 ≤ (Dy.text k n d).length ∧ (Dy.text k n d).length ≤ 10 := by
  have hb : dayB k n d = true := by
    rcases h with ⟨rfl, a, b, rfl⟩ | ⟨rfl, rfl, a, b⟩ | ⟨h | h, a, b, c, e⟩
    · have := day0 (n - 1).toNat (by omega); rwa [show ((n - 1).toNat : Int) + 1 = n by omega] at this
    · have := day1 d.toNat (by omega); rwa [show (d.toNat : Int) = d by omega] at this
    · subst h
      have := day2 (n - 1).toNat (by omega) d.toNat (by omega); rwa [show ((n - 1).toNat : Int) + 1 = n by omega, show (d.toNat : Int) = d by omega] at this
    · subst h
      have := day3 (n - 1).toNat (by omega) d.toNat (by omega); rwa [show ((n - 1).toNat : Int) + 1 = n by omega, show (d.toNat : Int) = d by omega] at this
  unfold dayB at hb
  rw [Bool.and_eq_true, decide_eq_true_eq] at hb
  exact ⟨pl_of hb.1, hb.2⟩
def monB (m : Int) : Bool := plB (tl (textOf Months m)) && decide ((textOf Months m).size = 3)
theorem mon0 : ∀ m : Nat, m < 12 → monB (m : Int) = true := by decide +kernel
theorem mon_pl (m : Int) (h : 1 ≤ m ∧ m ≤ 12) : Plain (textOf Months (m - 1)) ∧ (textOf Months (m - 1)).size ≤ 3 := by
  have := mon0 (m - 1).toNat (by omega)
  rw [show ((m - 1).toNat : Int) = m - 1 by omega] at this
  unfold monB at this
  rw [Bool.and_eq_true, decide_eq_true_eq] at this
  exact ⟨plain_of (by omega) (pl_of this.1), by omega⟩
theorem letter_plain {s : ByteArray} (h : Ab.letter s = true) (h0 : ¬ s = ⟨#[]⟩) : Plain s := by
  unfold Ab.letter at h
  rw [Bool.and_eq_true] at h
  exact ⟨h0, signs_pl _ h.2⟩
theorem dash_plain : Plain ⟨#[45]⟩ := ⟨by decide, pl_of (by decide)⟩
theorem fmt_plain {s : ByteArray} (h : Ab.fmt s = true) : Plain s := by
  have hz := (Ab.fmt_size s h).1
  refine plain_of hz ?_
  have hp : ∀ p : ByteArray, Ab.has s p = true → Pl (tl p) → Pl (tl (Ab.ahd s p)) → Pl (tl (Ab.bhd s p)) → Pl (tl s) := by
    intro p h1 h2 h3 h4
    unfold Ab.ahd at h3
    unfold Ab.bhd at h4
    rw [tl_mk] at h3 h4
    exact cut_pl _ _ h1 h3 h2 h4
  unfold Ab.fmt Ab.cutf at h
  split at h
  · cases h
  · split at h
    · rename_i h1
      have := all_pl h
      exact hp Ab.pS h1 (pl_of (by decide)) (this _ (by simp)) (this _ (by simp))
    · split at h
      · rename_i h1
        have := all_pl h
        exact hp Ab.pZ h1 (pl_of (by decide)) (this _ (by simp)) (this _ (by simp))
      · split at h
        · rename_i h1
          simp only [Bool.and_eq_true] at h
          have := all_pl h.2.2
          exact hp Ab.pE h1 (pl_of (by decide)) (this _ (by simp)) (this _ (by simp))
        · exact all_pl h s (by simp)
theorem year_size (y : Int) (h1 : 1 ≤ y) (h2 : y ≤ 9999) : (⟨(Lib.itoa y).toArray⟩ : ByteArray).size ≤ 4 := by
  rw [size_mk]
  have := Dy.dec_len y.toNat (by omega)
  unfold Lib.itoa
  rw [if_neg (by omega)]
  omega
def Fit (ss : List ByteArray) (m : Nat) : Prop := ∀ s ∈ ss, Plain s ∧ s.size ≤ m
theorem rule_fit (r : Ru.R) (h : r.Ok) : Fit r.texts 64 := by
  obtain ⟨h1, ⟨y1, y2, y3⟩, hm, hd, ho, hv, hl⟩ := h
  intro t ht
  unfold Ru.R.texts at ht
  simp only [List.mem_cons, List.not_mem_nil, or_false] at ht
  rcases ht with rfl | rfl | rfl | rfl | rfl | rfl | rfl | rfl | rfl
  · refine ⟨name_plain h1, ?_⟩
    unfold Ru.name at h1
    rw [Bool.and_eq_true, decide_eq_true_eq, tl_length] at h1
    exact h1.1.2
  · exact ⟨itoa_plain _ (by omega), by have := year_size r.fr y1 (by omega); omega⟩
  · unfold Ru.R.last
    split
    · exact ⟨⟨by decide, pl_of (by decide)⟩, by decide⟩
    · split
      · exact ⟨⟨by decide, pl_of (by decide)⟩, by decide⟩
      · exact ⟨itoa_plain _ (by omega), by have := year_size r.tt (by omega) y3; omega⟩
  · exact ⟨dash_plain, by decide⟩
  · have := mon_pl r.mo hm
    exact ⟨this.1, by omega⟩
  · obtain ⟨a, b, c⟩ := day_pl _ _ _ hd
    exact ⟨plain_mk b a, by rw [size_mk]; omega⟩
  · obtain ⟨a, b, c⟩ := mo_pl _ _ ho
    exact ⟨plain_mk b a, by rw [size_mk]; omega⟩
  · obtain ⟨a, b, c⟩ := ck_pl _ hv
    exact ⟨plain_mk b a, by rw [size_mk]; omega⟩
  · unfold Ru.R.lett
    split
    · exact ⟨dash_plain, by decide⟩
    · rename_i h0
      refine ⟨letter_plain hl h0, ?_⟩
      unfold Ab.letter at hl
      simp only [Bool.and_eq_true, decide_eq_true_eq] at hl
      omega
theorem until_fit (u : Mo.U) (h : u.Ok) : Fit u.texts 64 := by
  obtain ⟨⟨y1, y2, m1, m2⟩, hd, ho⟩ := h
  intro t ht
  unfold Mo.U.texts at ht
  have ht := List.mem_of_mem_take ht
  unfold Mo.U.full at ht
  simp only [List.mem_cons, List.not_mem_nil, or_false] at ht
  rcases ht with rfl | rfl | rfl | rfl
  · exact ⟨itoa_plain _ (by omega), by have := year_size u.y y1 y2; omega⟩
  · have := mon_pl u.m ⟨m1, m2⟩
    exact ⟨this.1, by omega⟩
  · obtain ⟨a, b, c⟩ := day_pl _ _ _ hd
    exact ⟨plain_mk b a, by rw [size_mk]; omega⟩
  · obtain ⟨a, b, c⟩ := mo_pl _ _ ho
    exact ⟨plain_mk b a, by rw [size_mk]; omega⟩
theorem era_fit (e : Er.E) (h : e.Ok) : Fit e.texts 64 := by
  obtain ⟨h1, h2, h3, h4, _⟩ := h
  have hf : Fit e.front 64 := by
    intro t ht
    unfold Er.E.front at ht
    simp only [List.mem_cons, List.not_mem_nil, or_false] at ht
    rcases ht with rfl | rfl | rfl
    · obtain ⟨a, b, c⟩ := ck_pl _ h1
      exact ⟨plain_mk b a, by rw [size_mk]; omega⟩
    · unfold Er.E.mid
      split
      · rename_i hk
        have hs : IsTime e.sv := by
          rcases h3 with ⟨a, _⟩ | ⟨_, a, _⟩ | ⟨a, _⟩
          · rw [a] at hk; exact absurd hk (by decide)
          · exact a
          · rw [a] at hk; exact absurd hk (by decide)
        obtain ⟨a, b, c⟩ := ck_pl _ hs
        exact ⟨plain_mk b a, by rw [size_mk]; omega⟩
      · split
        · rename_i hk
          have hs : Ru.name (tl e.ru) = true := by
            rcases h3 with ⟨a, _⟩ | ⟨a, _⟩ | ⟨_, _, a⟩
            · rw [a] at hk; exact absurd hk (by decide)
            · rw [a] at hk; exact absurd hk (by decide)
            · exact a
          refine ⟨name_plain hs, ?_⟩
          unfold Ru.name at hs
          rw [Bool.and_eq_true, decide_eq_true_eq, tl_length] at hs
          exact hs.1.2
        · exact ⟨dash_plain, by decide⟩
    · exact ⟨fmt_plain h2, by have := (Ab.fmt_size e.fm h2).2; omega⟩
  unfold Er.E.texts
  split
  · rename_i he
    intro t ht
    rcases List.mem_append.1 ht with x | x
    · exact hf t x
    · exact until_fit e.u (h4 he) t x
  · exact hf
theorem lens_fit : ∀ (ss : List ByteArray) (m : Nat), Fit ss m → Lib.lens (ss.map (·.data.toList)) ≤ ss.length * m
  | [], m, _ => by simp [Lib.lens]
  | x :: l, m, h => by
    have h1 := lens_fit l m fun s hs => h s (List.mem_cons_of_mem _ hs)
    have h2 := (h x List.mem_cons_self).2
    have h3 : x.data.toList.length = x.size := by rw [Array.length_toList]; rfl
    have h4 : Lib.lens ((x :: l).map (·.data.toList)) = x.data.toList.length + Lib.lens (l.map (·.data.toList)) := by simp [Lib.lens]
    rw [h4, h3, List.length_cons, Nat.add_mul]
    omega
theorem line_fit (ss : List ByteArray) (h : Fit ss 64) (hl : ss.length ≤ 9) : (line ss).size ≤ 2000 := by
  have h1 := line_size ss
  have h2 := lens_fit ss 64 h
  have h3 : ss.length * 64 ≤ 9 * 64 := Nat.mul_le_mul_right _ hl
  omega
end Sc
end Go.Proofs.YtlhoggalhjadgaaDoor
