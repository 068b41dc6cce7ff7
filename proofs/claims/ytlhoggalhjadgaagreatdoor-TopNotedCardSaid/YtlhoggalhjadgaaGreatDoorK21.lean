/- The contract of scan.Fields. -/
import Derived.Test.YtlhoggalhjadgaaGreatDoorK01
import Derived.Test.YtlhoggalhjadgaaGreatDoorK20

namespace Go.Proofs.YtlhoggalhjadgaaGreatDoor
open Go.RowKit

namespace Sc
def fcells (l : List (List UInt8 × Int)) : List Value := l.flatMap fun x => [.string ⟨x.1.toArray⟩, .int .i64 x.2]
theorem fcells_len (l : List (List UInt8 × Int)) : (fcells l).length = l.length * 2 := by
  unfold fcells
  induction l with
  | nil => rfl
  | cons a l ih => rw [List.flatMap_cons, List.length_append, ih]; simp; omega
theorem fcells_one (l : List (List UInt8 × Int)) (x : List UInt8 × Int) : fcells (l ++ [x]) = fcells l ++ [.string ⟨x.1.toArray⟩, .int .i64 x.2] := by
  unfold fcells
  rw [List.flatMap_append]
  simp
/-- What holds of the memory: the list and the text, each the call's own. -/
structure Own (w wx : World) (v5 v6 : Value) (acc : List (List UInt8 × Int)) (t : List UInt8) : Prop where
  list : wx.ownsRow w.heap.size 87 2 v5 acc.length (fcells acc)
  text : wx.ownsRow w.heap.size 5 1 v6 t.length (Lib.byteCells t)
  apart : v5.ownBlock = none ∨ v5.ownBlock ≠ v6.ownBlock
  nil : t = [] → v6 = .slice none 0 0
  below : Below w.heap.size w wx
theorem own_new {w wx : World} {v5 : Value} {acc : List (List UInt8 × Int)} (h : wx.ownsRow w.heap.size 87 2 v5 acc.length (fcells acc)) (hb : Below w.heap.size w wx) : Own w wx v5 (.slice none 0 0) acc [] :=
  ⟨h, World.ownsRow_nil _ _ _ _, by by_cases e : v5.ownBlock = none; exact .inl e; exact .inr e, fun _ => rfl, hb⟩
theorem Own.push {w wx w' : World} {v5 v6 v' : Value} {acc : List (List UInt8 × Int)} {t : List UInt8} {c : UInt8} (h : Own w wx v5 v6 acc t) (o : Obj)
    (hown : w'.ownsRow w.heap.size 5 1 v' (t.length + 1) (Lib.byteCells t ++ [.int .u8 c.toNat])) (hg : (wx.alloc o).grownBy w' v6.ownBlock) (hat : v'.ownBlock = v6.ownBlock ∨ v'.ownBlock = some (wx.alloc o).heap.size) : Own w w' v5 v' acc (t ++ [c]) := by
  refine ⟨(h.list.alloc o).kept hg h.apart, ?_, ?_, fun e => by simp at e, ?_⟩
  · rw [byteCells_append, List.length_append]
    exact hown
  · rcases hat with e | e
    · rw [e]; exact h.apart
    · rw [e]
      cases e5 : v5.ownBlock with
      | none => exact .inl rfl
      | some k =>
        right
        have := (h.list.lt k e5).2
        intro x
        have hk : k = (wx.alloc o).heap.size := Option.some.inj x
        rw [World.size_alloc] at hk
        omega
  · exact (h.below.alloc h.below.size o).grown hg (by rw [World.size_alloc]; have := h.below.size; omega) (fun k hk => (h.text.lt k hk).1)
theorem list_push {w wx w' : World} {v5 v6 v' : Value} {acc : List (List UInt8 × Int)} {t : List UInt8} (b : Int) (h : Own w wx v5 v6 acc t) (o : Obj)
    (hown : w'.ownsRow w.heap.size 87 2 v' (acc.length + 1) (fcells acc ++ [.string ⟨t.toArray⟩, .int .i64 b])) (hg : (wx.alloc o).grownBy w' v5.ownBlock) :
    w'.ownsRow w.heap.size 87 2 v' (acc ++ [(t, b)]).length (fcells (acc ++ [(t, b)])) ∧ Below w.heap.size w w' := by
  refine ⟨?_, (h.below.alloc h.below.size o).grown hg (by rw [World.size_alloc]; have := h.below.size; omega) (fun k hk => (h.list.lt k hk).1)⟩
  rw [fcells_one, List.length_append]
  exact hown
theorem conv_text {w wx : World} {v5 v6 : Value} {acc : List (List UInt8 × Int)} {t : List UInt8} (h : Own w wx v5 v6 acc t) : (convert 64 9 v6).run Tryz.prog wx = .ok (.string ⟨t.toArray⟩) wx := by
  cases t with
  | nil =>
    rw [h.nil rfl, run_convert_bytes_string wx _ _ _ none 0 0 Tryz.underlying64 Tryz.underlying5 Tryz.underlying9]
    rfl
  | cons c l =>
    obtain ⟨g, cap, e, hc⟩ := owned_bytes h.text (by simp)
    rw [e]
    exact run_convert_bytes_back (P := Tryz.prog) wx 64 9 5 ⟨g, 0, none⟩ cap (c :: l) Tryz.underlying64 Tryz.underlying5 Tryz.underlying9 hc
theorem reads_pairs (w : World) (a b : Value) (t : TypeId) : Reads (w.alloc (.cells #[a, b] t)) (w.heap.size + 1) 2 (some ⟨w.heap.size, 0, none⟩) 1 [a, b] := by
  refine ⟨rfl, fun _ => ?_⟩
  obtain ⟨ad, e, hb, hc⟩ := (reads_cells w #[a, b] t).2 (by simp)
  exact ⟨ad, e, hb, hc⟩
theorem field_info : (Tryz.prog.info? 87).map (fun i => (i.zero, i.size, i.bytes)) = some (some (.agg #[.string ⟨#[]⟩, .int .i64 0]), 2, 24) := by kernel_rfl
/-- What holds at the labels: 0 between fields, 1 within one, 2 within quotes. -/
def at0 (s : ByteArray) (w : World) (X : Res) (at_ : Nat) (v5 : Value) (wx : World) : Prop :=
  ∃ acc, acc.length ≤ 24 ∧ wx.ownsRow w.heap.size 87 2 v5 acc.length (fcells acc) ∧ Below w.heap.size w wx ∧ X = scan ((tl s).drop at_) at_ .b acc
def at1 (s : ByteArray) (w : World) (X : Res) (at_ : Nat) (v5 v6 v8 : Value) (wx : World) : Prop :=
  ∃ acc t b, acc.length < 24 ∧ t.length ≤ at_ ∧ Own w wx v5 v6 acc t ∧ v8 = .int .i64 b ∧ X = scan ((tl s).drop at_) at_ (.f b t) acc
def at2 (s : ByteArray) (w : World) (X : Res) (at_ : Nat) (v5 v6 v8 v9 : Value) (wx : World) : Prop :=
  ∃ acc t b q, acc.length < 24 ∧ t.length ≤ at_ ∧ Own w wx v5 v6 acc t ∧ v8 = .int .i64 b ∧ v9 = .int .i64 q ∧ X = scan ((tl s).drop at_) at_ (.q q b t) acc
def J (s : ByteArray) (w : World) (X : Res) (l : Nat) (a : Act) (wx : World) : Prop :=
  (a.defers = [] ∧ a.tmps.size = 111 ∧ a.tmps.getD 0 undef = .string s ∧ a.tmps.getD 2 undef = .slice none 0 0 ∧ a.tmps.getD 3 undef = .int .i64 0 ∧ a.tmps.getD 4 undef = .int .i64 0) ∧
  ∃ (at_ : Nat) (v5 v6 v8 v9 : Value), at_ ≤ s.size ∧ a.tmps.getD 5 undef = v5 ∧ a.tmps.getD 6 undef = v6 ∧ a.tmps.getD 7 undef = .int .i64 at_ ∧ a.tmps.getD 8 undef = v8 ∧ a.tmps.getD 9 undef = v9 ∧
    ((l = 0 ∧ Hid (at0 s w X at_ v5 wx)) ∨ (l = 1 ∧ Hid (at1 s w X at_ v5 v6 v8 wx)) ∨ (l = 2 ∧ Hid (at2 s w X at_ v5 v6 v8 v9 wx)))
theorem frame_of (n : Nat) (a : Act) (hs : a.tmps.size = n) (hd : a.defers = []) : a = { tmps := ((List.range n).map fun i => a.tmps.getD i undef).toArray, defers := [] } := by
  obtain ⟨t, d⟩ := a
  simp only at hs hd
  subst hd
  congr 1
  apply Array.ext
  · simp [hs]
  · intro i h1 h2
    simp [h1]
theorem J_open {s : ByteArray} {w : World} {X : Res} {l : Nat} {a : Act} {wx : World} (h : J s w X l a wx) : ∃ (at_ : Nat) (v5 v6 v8 v9 : Value) (u : Nat → Value), a = { tmps := #[.string s, u 1, .slice none 0 0, .int .i64 0, .int .i64 0, v5, v6, .int .i64 at_, v8, v9, u 10, u 11, u 12, u 13, u 14, u 15, u 16, u 17, u 18, u 19, u 20, u 21, u 22, u 23, u 24, u 25, u 26, u 27, u 28, u 29, u 30, u 31, u 32, u 33, u 34, u 35, u 36, u 37, u 38, u 39, u 40, u 41, u 42, u 43, u 44, u 45, u 46, u 47, u 48, u 49, u 50, u 51, u 52, u 53, u 54, u 55, u 56, u 57, u 58, u 59, u 60, u 61, u 62, u 63, u 64, u 65, u 66, u 67, u 68, u 69, u 70, u 71, u 72, u 73, u 74, u 75, u 76, u 77, u 78, u 79, u 80, u 81, u 82, u 83, u 84, u 85, u 86, u 87, u 88, u 89, u 90, u 91, u 92, u 93, u 94, u 95, u 96, u 97, u 98, u 99, u 100, u 101, u 102, u 103, u 104, u 105, u 106, u 107, u 108, u 109, u 110], defers := [] } ∧ at_ ≤ s.size ∧
    ((l = 0 ∧ Hid (at0 s w X at_ v5 wx)) ∨ (l = 1 ∧ Hid (at1 s w X at_ v5 v6 v8 wx)) ∨ (l = 2 ∧ Hid (at2 s w X at_ v5 v6 v8 v9 wx))) := by
  obtain ⟨⟨hd, hs, g0, g2, g3, g4⟩, at_, v5, v6, v8, v9, hat, g5, g6, g7, g8, g9, hc⟩ := h
  refine ⟨at_, v5, v6, v8, v9, fun i => a.tmps.getD i undef, ?_, hat, hc⟩
  have e : a = { tmps := [a.tmps.getD 0 undef, a.tmps.getD 1 undef, a.tmps.getD 2 undef, a.tmps.getD 3 undef, a.tmps.getD 4 undef, a.tmps.getD 5 undef, a.tmps.getD 6 undef, a.tmps.getD 7 undef, a.tmps.getD 8 undef, a.tmps.getD 9 undef, a.tmps.getD 10 undef, a.tmps.getD 11 undef, a.tmps.getD 12 undef, a.tmps.getD 13 undef, a.tmps.getD 14 undef, a.tmps.getD 15 undef, a.tmps.getD 16 undef, a.tmps.getD 17 undef, a.tmps.getD 18 undef, a.tmps.getD 19 undef, a.tmps.getD 20 undef, a.tmps.getD 21 undef, a.tmps.getD 22 undef, a.tmps.getD 23 undef, a.tmps.getD 24 undef, a.tmps.getD 25 undef, a.tmps.getD 26 undef, a.tmps.getD 27 undef, a.tmps.getD 28 undef, a.tmps.getD 29 undef, a.tmps.getD 30 undef, a.tmps.getD 31 undef, a.tmps.getD 32 undef, a.tmps.getD 33 undef, a.tmps.getD 34 undef, a.tmps.getD 35 undef, a.tmps.getD 36 undef, a.tmps.getD 37 undef, a.tmps.getD 38 undef, a.tmps.getD 39 undef, a.tmps.getD 40 undef, a.tmps.getD 41 undef, a.tmps.getD 42 undef, a.tmps.getD 43 undef, a.tmps.getD 44 undef, a.tmps.getD 45 undef, a.tmps.getD 46 undef, a.tmps.getD 47 undef, a.tmps.getD 48 undef, a.tmps.getD 49 undef, a.tmps.getD 50 undef, a.tmps.getD 51 undef, a.tmps.getD 52 undef, a.tmps.getD 53 undef, a.tmps.getD 54 undef, a.tmps.getD 55 undef, a.tmps.getD 56 undef, a.tmps.getD 57 undef, a.tmps.getD 58 undef, a.tmps.getD 59 undef, a.tmps.getD 60 undef, a.tmps.getD 61 undef, a.tmps.getD 62 undef, a.tmps.getD 63 undef, a.tmps.getD 64 undef, a.tmps.getD 65 undef, a.tmps.getD 66 undef, a.tmps.getD 67 undef, a.tmps.getD 68 undef, a.tmps.getD 69 undef, a.tmps.getD 70 undef, a.tmps.getD 71 undef, a.tmps.getD 72 undef, a.tmps.getD 73 undef, a.tmps.getD 74 undef, a.tmps.getD 75 undef, a.tmps.getD 76 undef, a.tmps.getD 77 undef, a.tmps.getD 78 undef, a.tmps.getD 79 undef, a.tmps.getD 80 undef, a.tmps.getD 81 undef, a.tmps.getD 82 undef, a.tmps.getD 83 undef, a.tmps.getD 84 undef, a.tmps.getD 85 undef, a.tmps.getD 86 undef, a.tmps.getD 87 undef, a.tmps.getD 88 undef, a.tmps.getD 89 undef, a.tmps.getD 90 undef, a.tmps.getD 91 undef, a.tmps.getD 92 undef, a.tmps.getD 93 undef, a.tmps.getD 94 undef, a.tmps.getD 95 undef, a.tmps.getD 96 undef, a.tmps.getD 97 undef, a.tmps.getD 98 undef, a.tmps.getD 99 undef, a.tmps.getD 100 undef, a.tmps.getD 101 undef, a.tmps.getD 102 undef, a.tmps.getD 103 undef, a.tmps.getD 104 undef, a.tmps.getD 105 undef, a.tmps.getD 106 undef, a.tmps.getD 107 undef, a.tmps.getD 108 undef, a.tmps.getD 109 undef, a.tmps.getD 110 undef].toArray, defers := [] } := frame_of 111 a hs hd
  rw [g0, g2, g3, g4, g5, g6, g7, g8, g9] at e
  exact e
def mu (s : ByteArray) (l : Nat) (a : Act) : Nat := 2 * (s.size - (intOf (a.tmps.getD 7 undef)).toNat) + (if l = 1 then 1 else 0)
def Ret (w : World) (X : Res) (e : Ending) (w' : World) : Prop :=
  Below w.heap.size w w' ∧ match X with
  | .ok l => ∃ A c, l.length ≤ c ∧ c ≤ maxLen ∧ e = .returned (.tuple #[.slice A l.length c, .int .i64 0, .int .i64 0]) ∧ w'.ownsRow w.heap.size 87 2 (.slice A l.length c) l.length (fcells l)
  | .bad col why => e = .returned (.tuple #[.slice none 0 0, .int .i64 col, .int .i64 why])
theorem ret_ok {w w' : World} {v : Value} {acc : List (List UInt8 × Int)} {X : Res} {e : Ending} (h : w'.ownsRow w.heap.size 87 2 v acc.length (fcells acc)) (hb : Below w.heap.size w w') (hX : X = .ok acc) (he : e = .returned (.tuple #[v, .int .i64 0, .int .i64 0])) : Ret w X e w' := by
  subst hX
  obtain ⟨A, c, hv, h1, h2⟩ := own_slice_cap h
  exact ⟨hb, A, c, h1, h2, by rw [he, hv], by rw [← hv]; exact h⟩
theorem ret_bad {w w' : World} {X : Res} {e : Ending} {col why : Int} (hb : Below w.heap.size w w') (hX : X = .bad col why) (he : e = .returned (.tuple #[.slice none 0 0, .int .i64 col, .int .i64 why])) : Ret w X e w' := by
  subst hX
  exact ⟨hb, he⟩
end Sc
set_option maxHeartbeats 8000000 in
set_option maxRecDepth 1000000 in
theorem fields_any (s : ByteArray) (w : World) (hs : s.size ≤ maxLen) :
    Calls Tryz.prog 50 #[.string s] w (Sc.Ret w (Sc.fields (tl s))) := by
  unfold maxLen at hs
  obtain ⟨X, hX⟩ : ∃ X, Sc.fields (tl s) = X := ⟨_, rfl⟩
  rw [hX]
  unfold Sc.fields at hX
  rw [tl_length] at hX
  by_cases hl : 2048 < s.size
  · rw [if_pos hl] at hX
    have HX := Lib.hid hX
    have q1 : (2048 : Int) < (s.size : Int) := by omega
    clear hX
    go_enter Tryz.func50, Tryz.ntmps50
    go_wp2
    go_step3
    go_wp2
    rw [Exit.noGoto_ret]
    go_ret3
    exact Sc.ret_bad (Below.refl _ _) HX.out.symm rfl
  rw [if_neg hl] at hX
  have q1 : ¬ (2048 : Int) < (s.size : Int) := by omega
  have HX := Lib.hid hX
  clear hX
  go_enter Tryz.func50, Tryz.ntmps50
  go_wp2
  refine wp_scope_labels3 (Sc.J s w X) (fun l a _ => Sc.mu s l a) ?pass ?first
  case first =>
    intro hp
    go_wp2
    go_step3
    rename_i K hK
    refine hK _ _ ?_
    refine hp 0 _ _ _ rfl ⟨⟨rfl, rfl, rfl, rfl, rfl, rfl⟩, 0, _, _, _, _, Nat.zero_le _, rfl, rfl, rfl, rfl, rfl, .inl ⟨rfl, ?_⟩⟩
    exact ⟨[], by simp, World.ownsRow_nil _ _ _ _, Below.refl _ _, HX.out.symm⟩
  case pass =>
    obtain ⟨i8, h81, h82, h83, h84⟩ := info_parts u8_info
    have HI8 := Lib.hid (And.intro h81 (And.intro h82 (And.intro h83 h84)))
    obtain ⟨iF, hF1, hF2, hF3, hF4⟩ := info_parts Sc.field_info
    have HIF := Lib.hid (And.intro hF1 (And.intro hF2 (And.intro hF3 hF4)))
    clear h81 h82 h83 h84 hF1 hF2 hF3 hF4
    intro l a wx hJ
    obtain ⟨at_, v5, v6, v8, v9, u, rfl, hat, hc⟩ := Sc.J_open hJ
    clear hJ
    rcases hc with ⟨rfl, H0⟩ | ⟨rfl, H0⟩ | ⟨rfl, H0⟩
    · skip
      obtain ⟨acc, hacc, hown, hb, hX⟩ := H0.out
      obtain ⟨A5, c5, rfl, hn5, hc5⟩ := own_slice_cap hown
      have HO := Lib.hid hown
      have HB := Lib.hid hb
      clear H0 hown hb
      by_cases hlt : at_ < s.size
      · have q2 : ((at_ : Int) == (s.size : Int)) = false := by rw [beq_eq_false_iff_ne]; omega
        have p1 : (0 : Int) ≤ (at_ : Int) := by omega
        have p2 : (at_ : Int) < (s.size : Int) := by omega
        have hd := drop_of (Dy.tl_get s at_ hlt)
        rcases Sc.kind_bd (s[at_].toNat : Int) with hk | hk | hk | hk | hk
        · have HK := Lib.hid fun W => kind_is s[at_] W 0 hk
          by_cases hl24 : acc.length = 24
          · have q3 : ((acc.length : Int) == 24) = true := by rw [beq_iff_eq]; omega
            have HX2 := Lib.hid (show X = _ by rw [hX, hd, Sc.b_long (.inl hk) hl24])
            clear hk hX hd
            clear hl24
            refine ⟨_, rfl, ?_⟩
            go_wp2_with fail
            refine (HK.out _).mono ?_
            rintro e w1 ⟨rfl, rfl⟩
            go_wp2
            show bodyPost _ _ _ Exit.ret _ _
            go_ret3
            exact Sc.ret_bad HB.out HX2.out rfl
          have q3 : ((acc.length : Int) == 24) = false := by rw [beq_eq_false_iff_ne]; omega
          have HOw := Lib.hid (Sc.own_new HO.out HB.out)
          have hXn : X = Sc.scan ((tl s).drop (at_ + 1)) ((at_ + 1 : Nat) : Int) (.f ((at_ : Int) + 1) ([] ++ [s[at_]])) acc := by rw [hX, hd, Sc.b_f (.inl hk) hl24, Sc.f_0 hk]; rfl
          have HXn := Lib.hid hXn
          have hacc2 : acc.length < 24 := by omega
          clear hk hX hd hl24 hXn
          have HAp := fun {ops : Array Oper} {rest : List Oper} {o : Oper} {a : Act} {Q : Exit → Act → World → Prop} (hgd : o.guard = none) (ho : o.op = .call { callee := .builtin .append, args := #[.tmp 78, .tmp 82], argTypes := #[64, 64] }) (hs : a.eval (.tmp 78) = (.slice none 0 0)) (hx : a.eval (.tmp 82) = .slice (some ⟨wx.heap.size, 0, none⟩) 1 1) h => wpList_append_any (P := Tryz.prog) (ops := ops) (rest := rest) (o := o) (a := a) (Q := Q) (wx.alloc (.cells #[.int .u8 ((s[at_]'hlt).toNat : Int)] 5)) hgd (.tmp 78) (.tmp 82) 64 ho w.heap.size 5 i8 _ 1 1 Tryz.underlying64 HI8.out.1 HI8.out.2.1 HI8.out.2.2.1 HI8.out.2.2.2 rfl (by omega) _ 0 [] hs (HOw.out.text.alloc _) (wx.heap.size + 1) _ 1 1 _ hx (reads_cells wx #[.int .u8 ((s[at_]'hlt).toNat : Int)] 5) (by simp [Value.oneCell']) (by unfold maxLen; omega) (by omega) (by rw [World.size_alloc]; have := HB.out.size; omega) h
          refine ⟨_, rfl, ?_⟩
          go_wp2_with fail
          refine (HK.out _).mono ?_
          rintro e w1 ⟨rfl, rfl⟩
          go_wp2
          go_step3
          go_wp2_with fail
          refine (HK.out _).mono ?_
          rintro e w1 ⟨rfl, rfl⟩
          go_wp2_with fail
          refine (HK.out _).mono ?_
          rintro e w1 ⟨rfl, rfl⟩
          go_wp2_with fail
          refine (HK.out _).mono ?_
          rintro e w1 ⟨rfl, rfl⟩
          go_wp2_with (at_builtin; refine HAp rfl rfl rfl rfl ?_; intro v9' w9 hown9 hg9 hat9)
          have HN : Hid (Sc.at1 s w X (at_ + 1) (.slice A5 acc.length c5) v9' (.int .i64 ((at_ : Int) + 1)) w9) := ⟨acc, [] ++ [s[at_]], _, hacc2, by simp, HOw.out.push _ hown9 hg9 hat9, rfl, HXn.out⟩
          go_step3
          refine ⟨⟨⟨rfl, rfl, rfl, rfl, rfl, rfl⟩, at_ + 1, _, _, _, _, by omega, rfl, rfl, rfl, rfl, rfl, .inr (.inl ⟨rfl, HN⟩)⟩, (by first | (simp [Sc.mu, intOf]; done) | (simp [Sc.mu, intOf]; omega))⟩
        · have HK := Lib.hid fun W => kind_is s[at_] W 1 hk
          have HN : Hid (Sc.at0 s w X (at_ + 1) (.slice A5 acc.length c5) wx) := ⟨acc, hacc, HO.out, HB.out, by rw [hX, hd, Sc.b_1 hk]; rfl⟩
          clear hk hX hd
          refine ⟨_, rfl, ?_⟩
          go_wp2_with fail
          refine (HK.out _).mono ?_
          rintro e w1 ⟨rfl, rfl⟩
          go_wp2
          go_step3
          refine ⟨⟨⟨rfl, rfl, rfl, rfl, rfl, rfl⟩, at_ + 1, _, _, _, _, by omega, rfl, rfl, rfl, rfl, rfl, .inl ⟨rfl, HN⟩⟩, (by first | (simp [Sc.mu, intOf]; done) | (simp [Sc.mu, intOf]; omega))⟩
        · have HK := Lib.hid fun W => kind_is s[at_] W 2 hk
          have HX2 := Lib.hid (show X = _ by rw [hX, hd, Sc.b_2 hk])
          clear hk hX hd
          refine ⟨_, rfl, ?_⟩
          go_wp2_with fail
          refine (HK.out _).mono ?_
          rintro e w1 ⟨rfl, rfl⟩
          go_wp2
          show bodyPost _ _ _ Exit.ret _ _
          go_ret3
          exact Sc.ret_bad HB.out HX2.out rfl
        · have HK := Lib.hid fun W => kind_is s[at_] W 3 hk
          have HX2 := Lib.hid (show X = _ by rw [hX, hd, Sc.b_3 hk])
          clear hk hX hd
          refine ⟨_, rfl, ?_⟩
          go_wp2_with fail
          refine (HK.out _).mono ?_
          rintro e w1 ⟨rfl, rfl⟩
          go_wp2
          show bodyPost _ _ _ Exit.ret _ _
          go_ret3
          exact Sc.ret_ok HO.out HB.out HX2.out rfl
        · have HK := Lib.hid fun W => kind_is s[at_] W 4 hk
          by_cases hl24 : acc.length = 24
          · have q3 : ((acc.length : Int) == 24) = true := by rw [beq_iff_eq]; omega
            have HX2 := Lib.hid (show X = _ by rw [hX, hd, Sc.b_long (.inr hk) hl24])
            clear hk hX hd
            clear hl24
            refine ⟨_, rfl, ?_⟩
            go_wp2_with fail
            refine (HK.out _).mono ?_
            rintro e w1 ⟨rfl, rfl⟩
            go_wp2
            show bodyPost _ _ _ Exit.ret _ _
            go_ret3
            exact Sc.ret_bad HB.out HX2.out rfl
          have q3 : ((acc.length : Int) == 24) = false := by rw [beq_eq_false_iff_ne]; omega
          have HOw := Lib.hid (Sc.own_new HO.out HB.out)
          have HN : Hid (Sc.at2 s w X (at_ + 1) (.slice A5 acc.length c5) (.slice none 0 0) (.int .i64 ((at_ : Int) + 1)) (.int .i64 ((at_ : Int) + 1)) wx) := ⟨acc, [], _, _, by omega, by simp, HOw.out, rfl, rfl, by rw [hX, hd, Sc.b_f (.inr hk) hl24, Sc.f_4 hk]; rfl⟩
          clear hk hX hd hl24
          refine ⟨_, rfl, ?_⟩
          go_wp2_with fail
          refine (HK.out _).mono ?_
          rintro e w1 ⟨rfl, rfl⟩
          go_wp2
          go_step3
          go_wp2_with fail
          refine (HK.out _).mono ?_
          rintro e w1 ⟨rfl, rfl⟩
          go_wp2_with fail
          refine (HK.out _).mono ?_
          rintro e w1 ⟨rfl, rfl⟩
          go_wp2_with fail
          refine (HK.out _).mono ?_
          rintro e w1 ⟨rfl, rfl⟩
          go_wp2
          go_step3
          refine ⟨⟨⟨rfl, rfl, rfl, rfl, rfl, rfl⟩, at_ + 1, _, _, _, _, by omega, rfl, rfl, rfl, rfl, rfl, .inr (.inr ⟨rfl, HN⟩)⟩, (by first | (simp [Sc.mu, intOf]; done) | (simp [Sc.mu, intOf]; omega))⟩
      · have hd := List.drop_eq_nil_of_le (show (tl s).length ≤ at_ by rw [tl_length]; omega)
        obtain rfl : at_ = s.size := by omega
        have HX2 := Lib.hid (show X = _ by rw [hX, hd])
        clear hX hd
        refine ⟨_, rfl, ?_⟩
        go_wp2
        show bodyPost _ _ _ Exit.ret _ _
        go_ret3
        exact Sc.ret_ok HO.out HB.out HX2.out rfl
    · skip
      obtain ⟨acc, t, b, hacc, htl, hown, rfl, hX⟩ := H0.out
      have hsl := own_slice_cap hown.list
      obtain ⟨A5, c5, rfl, hn5, hc5⟩ := hsl
      have HOw := Lib.hid hown
      have HB := Lib.hid hown.below
      have hcv := Sc.conv_text hown
      clear H0 hown
      by_cases hlt : at_ < s.size
      · have q2 : ((at_ : Int) == (s.size : Int)) = false := by rw [beq_eq_false_iff_ne]; omega
        have p1 : (0 : Int) ≤ (at_ : Int) := by omega
        have p2 : (at_ : Int) < (s.size : Int) := by omega
        have hd := drop_of (Dy.tl_get s at_ hlt)
        rcases Sc.kind_bd (s[at_].toNat : Int) with hk | hk | hk | hk | hk
        · have HK := Lib.hid fun W => kind_is s[at_] W 0 hk
          have hXn : X = Sc.scan ((tl s).drop (at_ + 1)) ((at_ + 1 : Nat) : Int) (.f b (t ++ [s[at_]])) acc := by rw [hX, hd, Sc.f_0 hk]; rfl
          have HXn := Lib.hid hXn
          clear hk hX hd hXn hcv
          have HAp := fun {ops : Array Oper} {rest : List Oper} {o : Oper} {a : Act} {Q : Exit → Act → World → Prop} (hgd : o.guard = none) (ho : o.op = .call { callee := .builtin .append, args := #[.tmp 78, .tmp 82], argTypes := #[64, 64] }) (hs : a.eval (.tmp 78) = v6) (hx : a.eval (.tmp 82) = .slice (some ⟨wx.heap.size, 0, none⟩) 1 1) h => wpList_append_any (P := Tryz.prog) (ops := ops) (rest := rest) (o := o) (a := a) (Q := Q) (wx.alloc (.cells #[.int .u8 ((s[at_]'hlt).toNat : Int)] 5)) hgd (.tmp 78) (.tmp 82) 64 ho w.heap.size 5 i8 _ 1 1 Tryz.underlying64 HI8.out.1 HI8.out.2.1 HI8.out.2.2.1 HI8.out.2.2.2 rfl (by omega) _ t.length (Lib.byteCells t) hs (HOw.out.text.alloc _) (wx.heap.size + 1) _ 1 1 _ hx (reads_cells wx #[.int .u8 ((s[at_]'hlt).toNat : Int)] 5) (by simp [Value.oneCell']) (by unfold maxLen; omega) (by omega) (by rw [World.size_alloc]; have := HB.out.size; omega) h
          refine ⟨_, rfl, ?_⟩
          go_wp2_with fail
          refine (HK.out _).mono ?_
          rintro e w1 ⟨rfl, rfl⟩
          go_wp2_with fail
          refine (HK.out _).mono ?_
          rintro e w1 ⟨rfl, rfl⟩
          go_wp2_with fail
          refine (HK.out _).mono ?_
          rintro e w1 ⟨rfl, rfl⟩
          go_wp2_with (at_builtin; refine HAp rfl rfl rfl rfl ?_; intro v9' w9 hown9 hg9 hat9)
          have HN : Hid (Sc.at1 s w X (at_ + 1) (.slice A5 acc.length c5) v9' (.int .i64 b) w9) := ⟨acc, t ++ [s[at_]], _, hacc, by simp; omega, HOw.out.push _ hown9 hg9 hat9, rfl, HXn.out⟩
          go_step3
          refine ⟨⟨⟨rfl, rfl, rfl, rfl, rfl, rfl⟩, at_ + 1, _, _, _, _, by omega, rfl, rfl, rfl, rfl, rfl, .inr (.inl ⟨rfl, HN⟩)⟩, (by first | (simp [Sc.mu, intOf]; done) | (simp [Sc.mu, intOf]; omega))⟩
        · have HK := Lib.hid fun W => kind_is s[at_] W 1 hk
          have HXn := Lib.hid (show X = Sc.scan ((tl s).drop at_) (at_ : Int) .b (acc ++ [(t, b)]) by rw [hX, hd, Sc.f_b (.inl hk)])
          clear hk hX hd
          have HAl := fun {ops : Array Oper} {rest : List Oper} {o : Oper} {a : Act} {Q : Exit → Act → World → Prop} (hgd : o.guard = none) (ho : o.op = .call { callee := .builtin .append, args := #[.tmp 58, .tmp 63], argTypes := #[83, 83] }) (hs : a.eval (.tmp 58) = .slice A5 acc.length c5) (hx : a.eval (.tmp 63) = .slice (some ⟨wx.heap.size, 0, none⟩) 1 1) h => wpList_append_any (P := Tryz.prog) (ops := ops) (rest := rest) (o := o) (a := a) (Q := Q) (wx.alloc (.cells #[.string ⟨t.toArray⟩, .int .i64 b] 87)) hgd (.tmp 58) (.tmp 63) 83 ho w.heap.size 87 iF _ 2 24 Tryz.underlying83 HIF.out.1 HIF.out.2.1 HIF.out.2.2.1 HIF.out.2.2.2 rfl (by omega) _ acc.length _ hs (HOw.out.list.alloc _) (wx.heap.size + 1) _ 1 1 _ hx (Sc.reads_pairs wx (.string ⟨t.toArray⟩) (.int .i64 b) 87) (by simp [Value.oneCell']) (by unfold maxLen; omega) (by omega) (by rw [World.size_alloc]; have := HB.out.size; omega) h
          refine ⟨_, rfl, ?_⟩
          go_wp2_with fail
          refine (HK.out _).mono ?_
          rintro e w1 ⟨rfl, rfl⟩
          go_wp2_with (at_builtin; refine HAl rfl rfl rfl rfl ?_; intro v9' w9 hown9 hg9 hat9)
          obtain ⟨hl1, hl2⟩ := Sc.list_push b HOw.out _ hown9 hg9
          have HN : Hid (Sc.at0 s w X at_ v9' w9) := ⟨acc ++ [(t, b)], by simp; omega, hl1, hl2, HXn.out⟩
          go_step3
          refine ⟨⟨⟨rfl, rfl, rfl, rfl, rfl, rfl⟩, at_, _, _, _, _, by omega, rfl, rfl, rfl, rfl, rfl, .inl ⟨rfl, HN⟩⟩, (by first | (simp [Sc.mu, intOf]; done) | (simp [Sc.mu, intOf]; omega))⟩
        · have HK := Lib.hid fun W => kind_is s[at_] W 2 hk
          have HX2 := Lib.hid (show X = _ by rw [hX, hd, Sc.f_2 hk])
          clear hk hX hd
          refine ⟨_, rfl, ?_⟩
          go_wp2_with fail
          refine (HK.out _).mono ?_
          rintro e w1 ⟨rfl, rfl⟩
          go_wp2_with fail
          refine (HK.out _).mono ?_
          rintro e w1 ⟨rfl, rfl⟩
          go_wp2_with fail
          refine (HK.out _).mono ?_
          rintro e w1 ⟨rfl, rfl⟩
          go_wp2
          show bodyPost _ _ _ Exit.ret _ _
          go_ret3
          exact Sc.ret_bad HB.out HX2.out rfl
        · have HK := Lib.hid fun W => kind_is s[at_] W 3 hk
          have HXn := Lib.hid (show X = Sc.scan ((tl s).drop at_) (at_ : Int) .b (acc ++ [(t, b)]) by rw [hX, hd, Sc.f_b (.inr hk)])
          clear hk hX hd
          have HAl := fun {ops : Array Oper} {rest : List Oper} {o : Oper} {a : Act} {Q : Exit → Act → World → Prop} (hgd : o.guard = none) (ho : o.op = .call { callee := .builtin .append, args := #[.tmp 58, .tmp 63], argTypes := #[83, 83] }) (hs : a.eval (.tmp 58) = .slice A5 acc.length c5) (hx : a.eval (.tmp 63) = .slice (some ⟨wx.heap.size, 0, none⟩) 1 1) h => wpList_append_any (P := Tryz.prog) (ops := ops) (rest := rest) (o := o) (a := a) (Q := Q) (wx.alloc (.cells #[.string ⟨t.toArray⟩, .int .i64 b] 87)) hgd (.tmp 58) (.tmp 63) 83 ho w.heap.size 87 iF _ 2 24 Tryz.underlying83 HIF.out.1 HIF.out.2.1 HIF.out.2.2.1 HIF.out.2.2.2 rfl (by omega) _ acc.length _ hs (HOw.out.list.alloc _) (wx.heap.size + 1) _ 1 1 _ hx (Sc.reads_pairs wx (.string ⟨t.toArray⟩) (.int .i64 b) 87) (by simp [Value.oneCell']) (by unfold maxLen; omega) (by omega) (by rw [World.size_alloc]; have := HB.out.size; omega) h
          refine ⟨_, rfl, ?_⟩
          go_wp2_with fail
          refine (HK.out _).mono ?_
          rintro e w1 ⟨rfl, rfl⟩
          go_wp2_with fail
          refine (HK.out _).mono ?_
          rintro e w1 ⟨rfl, rfl⟩
          go_wp2_with (at_builtin; refine HAl rfl rfl rfl rfl ?_; intro v9' w9 hown9 hg9 hat9)
          obtain ⟨hl1, hl2⟩ := Sc.list_push b HOw.out _ hown9 hg9
          have HN : Hid (Sc.at0 s w X at_ v9' w9) := ⟨acc ++ [(t, b)], by simp; omega, hl1, hl2, HXn.out⟩
          go_step3
          refine ⟨⟨⟨rfl, rfl, rfl, rfl, rfl, rfl⟩, at_, _, _, _, _, by omega, rfl, rfl, rfl, rfl, rfl, .inl ⟨rfl, HN⟩⟩, (by first | (simp [Sc.mu, intOf]; done) | (simp [Sc.mu, intOf]; omega))⟩
        · have HK := Lib.hid fun W => kind_is s[at_] W 4 hk
          have HN : Hid (Sc.at2 s w X (at_ + 1) (.slice A5 acc.length c5) v6 (.int .i64 b) (.int .i64 ((at_ : Int) + 1)) wx) := ⟨acc, t, _, _, hacc, by omega, HOw.out, rfl, rfl, by rw [hX, hd, Sc.f_4 hk]; rfl⟩
          clear hk hX hd hcv
          refine ⟨_, rfl, ?_⟩
          go_wp2_with fail
          refine (HK.out _).mono ?_
          rintro e w1 ⟨rfl, rfl⟩
          go_wp2_with fail
          refine (HK.out _).mono ?_
          rintro e w1 ⟨rfl, rfl⟩
          go_wp2_with fail
          refine (HK.out _).mono ?_
          rintro e w1 ⟨rfl, rfl⟩
          go_wp2
          go_step3
          refine ⟨⟨⟨rfl, rfl, rfl, rfl, rfl, rfl⟩, at_ + 1, _, _, _, _, by omega, rfl, rfl, rfl, rfl, rfl, .inr (.inr ⟨rfl, HN⟩)⟩, (by first | (simp [Sc.mu, intOf]; done) | (simp [Sc.mu, intOf]; omega))⟩
      · have hd := List.drop_eq_nil_of_le (show (tl s).length ≤ at_ by rw [tl_length]; omega)
        have q2 : ((at_ : Int) == (s.size : Int)) = true := by rw [beq_iff_eq]; omega
        have HXn := Lib.hid (show X = Sc.scan ((tl s).drop at_) (at_ : Int) .b (acc ++ [(t, b)]) by rw [hX, hd, Sc.f_end])
        clear hX hd
        have HAl := fun {ops : Array Oper} {rest : List Oper} {o : Oper} {a : Act} {Q : Exit → Act → World → Prop} (hgd : o.guard = none) (ho : o.op = .call { callee := .builtin .append, args := #[.tmp 58, .tmp 63], argTypes := #[83, 83] }) (hs : a.eval (.tmp 58) = .slice A5 acc.length c5) (hx : a.eval (.tmp 63) = .slice (some ⟨wx.heap.size, 0, none⟩) 1 1) h => wpList_append_any (P := Tryz.prog) (ops := ops) (rest := rest) (o := o) (a := a) (Q := Q) (wx.alloc (.cells #[.string ⟨t.toArray⟩, .int .i64 b] 87)) hgd (.tmp 58) (.tmp 63) 83 ho w.heap.size 87 iF _ 2 24 Tryz.underlying83 HIF.out.1 HIF.out.2.1 HIF.out.2.2.1 HIF.out.2.2.2 rfl (by omega) _ acc.length _ hs (HOw.out.list.alloc _) (wx.heap.size + 1) _ 1 1 _ hx (Sc.reads_pairs wx (.string ⟨t.toArray⟩) (.int .i64 b) 87) (by simp [Value.oneCell']) (by unfold maxLen; omega) (by omega) (by rw [World.size_alloc]; have := HB.out.size; omega) h
        refine ⟨_, rfl, ?_⟩
        go_wp2_with (at_builtin; refine HAl rfl rfl rfl rfl ?_; intro v9' w9 hown9 hg9 hat9)
        obtain ⟨hl1, hl2⟩ := Sc.list_push b HOw.out _ hown9 hg9
        have HN : Hid (Sc.at0 s w X at_ v9' w9) := ⟨acc ++ [(t, b)], by simp; omega, hl1, hl2, HXn.out⟩
        go_step3
        refine ⟨⟨⟨rfl, rfl, rfl, rfl, rfl, rfl⟩, at_, _, _, _, _, by omega, rfl, rfl, rfl, rfl, rfl, .inl ⟨rfl, HN⟩⟩, (by first | (simp [Sc.mu, intOf]; done) | (simp [Sc.mu, intOf]; omega))⟩
    · skip
      obtain ⟨acc, t, b, q, hacc, htl, hown, rfl, rfl, hX⟩ := H0.out
      have HOw := Lib.hid hown
      have HB := Lib.hid hown.below
      clear H0 hown
      by_cases hlt : at_ < s.size
      · have q2 : ((at_ : Int) == (s.size : Int)) = false := by rw [beq_eq_false_iff_ne]; omega
        have p1 : (0 : Int) ≤ (at_ : Int) := by omega
        have p2 : (at_ : Int) < (s.size : Int) := by omega
        have hd := drop_of (Dy.tl_get s at_ hlt)
        rcases Sc.kind_bd (s[at_].toNat : Int) with hk | hk | hk | hk | hk
        · have HK := Lib.hid fun W => kind_is s[at_] W 0 hk
          have hXn : X = Sc.scan ((tl s).drop (at_ + 1)) ((at_ + 1 : Nat) : Int) (.q q b (t ++ [s[at_]])) acc := by rw [hX, hd, Sc.q_0 (by omega) (by omega)]; rfl
          have HXn := Lib.hid hXn
          clear hk hX hd hXn
          have HAp := fun {ops : Array Oper} {rest : List Oper} {o : Oper} {a : Act} {Q : Exit → Act → World → Prop} (hgd : o.guard = none) (ho : o.op = .call { callee := .builtin .append, args := #[.tmp 103, .tmp 107], argTypes := #[64, 64] }) (hs : a.eval (.tmp 103) = v6) (hx : a.eval (.tmp 107) = .slice (some ⟨wx.heap.size, 0, none⟩) 1 1) h => wpList_append_any (P := Tryz.prog) (ops := ops) (rest := rest) (o := o) (a := a) (Q := Q) (wx.alloc (.cells #[.int .u8 ((s[at_]'hlt).toNat : Int)] 5)) hgd (.tmp 103) (.tmp 107) 64 ho w.heap.size 5 i8 _ 1 1 Tryz.underlying64 HI8.out.1 HI8.out.2.1 HI8.out.2.2.1 HI8.out.2.2.2 rfl (by omega) _ t.length (Lib.byteCells t) hs (HOw.out.text.alloc _) (wx.heap.size + 1) _ 1 1 _ hx (reads_cells wx #[.int .u8 ((s[at_]'hlt).toNat : Int)] 5) (by simp [Value.oneCell']) (by unfold maxLen; omega) (by omega) (by rw [World.size_alloc]; have := HB.out.size; omega) h
          refine ⟨_, rfl, ?_⟩
          go_wp2_with fail
          refine (HK.out _).mono ?_
          rintro e w1 ⟨rfl, rfl⟩
          go_wp2_with (at_builtin; refine HAp rfl rfl rfl rfl ?_; intro v9' w9 hown9 hg9 hat9)
          have HN : Hid (Sc.at2 s w X (at_ + 1) v5 v9' (.int .i64 b) (.int .i64 q) w9) := ⟨acc, t ++ [s[at_]], _, _, hacc, by simp; omega, HOw.out.push _ hown9 hg9 hat9, rfl, rfl, HXn.out⟩
          go_step3
          refine ⟨⟨⟨rfl, rfl, rfl, rfl, rfl, rfl⟩, at_ + 1, _, _, _, _, by omega, rfl, rfl, rfl, rfl, rfl, .inr (.inr ⟨rfl, HN⟩)⟩, (by first | (simp [Sc.mu, intOf]; done) | (simp [Sc.mu, intOf]; omega))⟩
        · have HK := Lib.hid fun W => kind_is s[at_] W 1 hk
          have hXn : X = Sc.scan ((tl s).drop (at_ + 1)) ((at_ + 1 : Nat) : Int) (.q q b (t ++ [s[at_]])) acc := by rw [hX, hd, Sc.q_0 (by omega) (by omega)]; rfl
          have HXn := Lib.hid hXn
          clear hk hX hd hXn
          have HAp := fun {ops : Array Oper} {rest : List Oper} {o : Oper} {a : Act} {Q : Exit → Act → World → Prop} (hgd : o.guard = none) (ho : o.op = .call { callee := .builtin .append, args := #[.tmp 103, .tmp 107], argTypes := #[64, 64] }) (hs : a.eval (.tmp 103) = v6) (hx : a.eval (.tmp 107) = .slice (some ⟨wx.heap.size, 0, none⟩) 1 1) h => wpList_append_any (P := Tryz.prog) (ops := ops) (rest := rest) (o := o) (a := a) (Q := Q) (wx.alloc (.cells #[.int .u8 ((s[at_]'hlt).toNat : Int)] 5)) hgd (.tmp 103) (.tmp 107) 64 ho w.heap.size 5 i8 _ 1 1 Tryz.underlying64 HI8.out.1 HI8.out.2.1 HI8.out.2.2.1 HI8.out.2.2.2 rfl (by omega) _ t.length (Lib.byteCells t) hs (HOw.out.text.alloc _) (wx.heap.size + 1) _ 1 1 _ hx (reads_cells wx #[.int .u8 ((s[at_]'hlt).toNat : Int)] 5) (by simp [Value.oneCell']) (by unfold maxLen; omega) (by omega) (by rw [World.size_alloc]; have := HB.out.size; omega) h
          refine ⟨_, rfl, ?_⟩
          go_wp2_with fail
          refine (HK.out _).mono ?_
          rintro e w1 ⟨rfl, rfl⟩
          go_wp2_with (at_builtin; refine HAp rfl rfl rfl rfl ?_; intro v9' w9 hown9 hg9 hat9)
          have HN : Hid (Sc.at2 s w X (at_ + 1) v5 v9' (.int .i64 b) (.int .i64 q) w9) := ⟨acc, t ++ [s[at_]], _, _, hacc, by simp; omega, HOw.out.push _ hown9 hg9 hat9, rfl, rfl, HXn.out⟩
          go_step3
          refine ⟨⟨⟨rfl, rfl, rfl, rfl, rfl, rfl⟩, at_ + 1, _, _, _, _, by omega, rfl, rfl, rfl, rfl, rfl, .inr (.inr ⟨rfl, HN⟩)⟩, (by first | (simp [Sc.mu, intOf]; done) | (simp [Sc.mu, intOf]; omega))⟩
        · have HK := Lib.hid fun W => kind_is s[at_] W 2 hk
          have HX2 := Lib.hid (show X = _ by rw [hX, hd, Sc.q_2 hk])
          clear hk hX hd
          refine ⟨_, rfl, ?_⟩
          go_wp2_with fail
          refine (HK.out _).mono ?_
          rintro e w1 ⟨rfl, rfl⟩
          go_wp2
          show bodyPost _ _ _ Exit.ret _ _
          go_ret3
          exact Sc.ret_bad HB.out HX2.out rfl
        · have HK := Lib.hid fun W => kind_is s[at_] W 3 hk
          have hXn : X = Sc.scan ((tl s).drop (at_ + 1)) ((at_ + 1 : Nat) : Int) (.q q b (t ++ [s[at_]])) acc := by rw [hX, hd, Sc.q_0 (by omega) (by omega)]; rfl
          have HXn := Lib.hid hXn
          clear hk hX hd hXn
          have HAp := fun {ops : Array Oper} {rest : List Oper} {o : Oper} {a : Act} {Q : Exit → Act → World → Prop} (hgd : o.guard = none) (ho : o.op = .call { callee := .builtin .append, args := #[.tmp 103, .tmp 107], argTypes := #[64, 64] }) (hs : a.eval (.tmp 103) = v6) (hx : a.eval (.tmp 107) = .slice (some ⟨wx.heap.size, 0, none⟩) 1 1) h => wpList_append_any (P := Tryz.prog) (ops := ops) (rest := rest) (o := o) (a := a) (Q := Q) (wx.alloc (.cells #[.int .u8 ((s[at_]'hlt).toNat : Int)] 5)) hgd (.tmp 103) (.tmp 107) 64 ho w.heap.size 5 i8 _ 1 1 Tryz.underlying64 HI8.out.1 HI8.out.2.1 HI8.out.2.2.1 HI8.out.2.2.2 rfl (by omega) _ t.length (Lib.byteCells t) hs (HOw.out.text.alloc _) (wx.heap.size + 1) _ 1 1 _ hx (reads_cells wx #[.int .u8 ((s[at_]'hlt).toNat : Int)] 5) (by simp [Value.oneCell']) (by unfold maxLen; omega) (by omega) (by rw [World.size_alloc]; have := HB.out.size; omega) h
          refine ⟨_, rfl, ?_⟩
          go_wp2_with fail
          refine (HK.out _).mono ?_
          rintro e w1 ⟨rfl, rfl⟩
          go_wp2_with (at_builtin; refine HAp rfl rfl rfl rfl ?_; intro v9' w9 hown9 hg9 hat9)
          have HN : Hid (Sc.at2 s w X (at_ + 1) v5 v9' (.int .i64 b) (.int .i64 q) w9) := ⟨acc, t ++ [s[at_]], _, _, hacc, by simp; omega, HOw.out.push _ hown9 hg9 hat9, rfl, rfl, HXn.out⟩
          go_step3
          refine ⟨⟨⟨rfl, rfl, rfl, rfl, rfl, rfl⟩, at_ + 1, _, _, _, _, by omega, rfl, rfl, rfl, rfl, rfl, .inr (.inr ⟨rfl, HN⟩)⟩, (by first | (simp [Sc.mu, intOf]; done) | (simp [Sc.mu, intOf]; omega))⟩
        · have HK := Lib.hid fun W => kind_is s[at_] W 4 hk
          have HN : Hid (Sc.at1 s w X (at_ + 1) v5 v6 (.int .i64 b) wx) := ⟨acc, t, _, hacc, by omega, HOw.out, rfl, by rw [hX, hd, Sc.q_4 hk]; rfl⟩
          clear hk hX hd
          refine ⟨_, rfl, ?_⟩
          go_wp2_with fail
          refine (HK.out _).mono ?_
          rintro e w1 ⟨rfl, rfl⟩
          go_wp2
          go_step3
          refine ⟨⟨⟨rfl, rfl, rfl, rfl, rfl, rfl⟩, at_ + 1, _, _, _, _, by omega, rfl, rfl, rfl, rfl, rfl, .inr (.inl ⟨rfl, HN⟩)⟩, (by first | (simp [Sc.mu, intOf]; done) | (simp [Sc.mu, intOf]; omega))⟩
      · have hd := List.drop_eq_nil_of_le (show (tl s).length ≤ at_ by rw [tl_length]; omega)
        obtain rfl : at_ = s.size := by omega
        have HX2 := Lib.hid (show X = _ by rw [hX, hd])
        clear hX hd
        refine ⟨_, rfl, ?_⟩
        go_wp2
        show bodyPost _ _ _ Exit.ret _ _
        go_ret3
        exact Sc.ret_bad HB.out HX2.out rfl
end Go.Proofs.YtlhoggalhjadgaaGreatDoor
