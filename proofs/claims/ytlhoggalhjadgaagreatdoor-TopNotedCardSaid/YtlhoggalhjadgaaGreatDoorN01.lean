/- Two sources' texts one behind the other; what stage 6 begins with. -/
import Derived.Test.YtlhoggalhjadgaaGreatDoorK37
import Derived.Test.YtlhoggalhjadgaaGreatDoorK35
import Derived.Test.YtlhoggalhjadgaaGreatDoorK32
import Derived.Test.YtlhoggalhjadgaaGreatDoorK30

namespace Go.Proofs.YtlhoggalhjadgaaGreatDoor
open Go.RowKit

namespace Pr
open Go.Proofs.YtlhoggalhjadgaaGreatDoor.Src
theorem text_two (a b : S) : text a ++ text b = (lns a ++ lns b).flatMap ltn := by
  unfold text
  rw [List.flatMap_append]
/-- Two right sources' texts, one behind the other, are read as both together. -/
theorem parse_two (a b : S) (ha : Rk a) (hb : Rk b) (oa : a.op = false) (ob : b.op = false) (h1 : a.rules.length + b.rules.length ≤ 4096) (h2 : a.zones.length + b.zones.length ≤ 1024) (h3 : a.links.length + b.links.length ≤ 4096)
    (hz : (text a ++ text b).length ≤ 1048576) : parse own (text a ++ text b) = .ok (app a b) := by
  have hok : ∀ l ∈ lns a ++ lns b, LineOk l := fun l hl => by
    rcases List.mem_append.1 hl with hl | hl
    · exact lns_ok ha oa l hl
    · exact lns_ok hb ob l hl
  have hsp : Sc.splitNl (text a ++ text b) = (lns a ++ lns b).map lt ++ [[]] := by
    have h1 := splitNl_lines ((lns a ++ lns b).map lt) [] (fun t ht => by
      rw [List.mem_map] at ht
      obtain ⟨l, hl, rfl⟩ := ht
      exact (hok l hl).nl)
    rw [List.append_nil, List.flatMap_map] at h1
    rw [text_two]
    exact h1
  refine parse_words _ _ hz ?_ ?_ ob
  · rw [hsp]
    intro x hx
    rcases List.mem_append.1 hx with hx | hx
    · rw [List.mem_map] at hx
      obtain ⟨l, hl, rfl⟩ := hx
      exact (hok l hl).read.1
    · rw [List.mem_singleton] at hx
      rw [hx]
      exact fine_nil
  · rw [hsp, List.flatMap_append, flat_words _ hok, show ([[]] : List Txt).flatMap wordsOf = [] from rfl, List.append_nil, List.map_append]
    have e1 := read_lns a St.none_ ha oa rfl (by simpa [St.none_] using ha.rules.1) (by simpa [St.none_] using ha.zones.1) (by simpa [St.none_] using ha.links.1)
    have e0 : app (St.none_ : S) a = a := by
      cases a
      rfl
    rw [e0] at e1
    rw [readW_app _ _ _ _ e1]
    exact read_lns b a hb ob oa h1 h2 h3
theorem rk_app {a b : S} (ha : Rk a) (hb : Rk b) (oa : a.op = false) (ob : b.op = false) (h1 : a.rules.length + b.rules.length ≤ 4096) (h2 : a.zones.length + b.zones.length ≤ 1024) (h3 : a.links.length + b.links.length ≤ 4096) : Rk (app a b) := by
  have za := ha.zones.2
  have zb := hb.zones.2
  rw [oa] at za
  rw [ob] at zb
  refine ⟨⟨by show (a.rules ++ b.rules).length ≤ 4096; rw [List.length_append]; exact h1, fun r hr => ?_⟩, ⟨by show (a.zones ++ b.zones).length ≤ 1024; rw [List.length_append]; exact h2, ?_⟩, ⟨by show (a.links ++ b.links).length ≤ 4096; rw [List.length_append]; exact h3, fun k hk => ?_⟩⟩
  · rcases List.mem_append.1 (show r ∈ a.rules ++ b.rules from hr) with hr | hr
    · exact ha.rules.2 r hr
    · exact hb.rules.2 r hr
  · show ZonesOk own RkE b.op (a.zones ++ b.zones)
    rw [ob]
    refine zones_of _ fun z hz => ?_
    rcases List.mem_append.1 hz with hz | hz
    · exact zones_done _ za z hz
    · exact zones_done _ zb z hz
  · rcases List.mem_append.1 (show k ∈ a.links ++ b.links from hk) with hk | hk
    · exact ha.links.2 k hk
    · exact hb.links.2 k hk
theorem text_len (s : S) : (text s).length = ((s.rules.map ofRule).flatMap ltn).length + ((s.zones.flatMap ofZone).flatMap ltn).length + ((s.links.map ofLink).flatMap ltn).length := by
  unfold text lns
  rw [List.flatMap_append, List.flatMap_append, List.length_append, List.length_append]
  omega
theorem text_app (a b : S) : (text (app a b)).length = (text a).length + (text b).length := by
  rw [text_len, text_len, text_len]
  unfold app
  simp only [List.map_append, List.flatMap_append, List.length_append]
  omega
theorem bts_two (a b : S) : bts (text a) ++ bts (text b) = bts (text a ++ text b) := by
  unfold bts
  apply ByteArray.ext
  simp
end Pr
namespace Lv
def s6 : Src.S := ⟨[], [], [([65], [66])], false⟩
theorem p6 : Src.parse Src.own (tl ⟨#[76, 105, 110, 107, 32, 65, 32, 66]⟩) = .ok s6 := by kernel_rfl
theorem text_6 : Src.bts (Pr.text s6) = ⟨#[76, 105, 110, 107, 32, 65, 32, 66, 10]⟩ := by decide +kernel
theorem s6_rk : Pr.Rk s6 := by
  refine ⟨⟨by decide, fun r hr => (by cases hr)⟩, ⟨by decide, rfl⟩, ⟨by decide, fun k hk => ?_⟩⟩
  rw [show s6.links = [([65], [66])] from rfl, List.mem_singleton] at hk
  subst hk
  exact ⟨by decide +kernel, by decide +kernel⟩
end Lv
set_option maxHeartbeats 4000000 in
set_option maxRecDepth 100000 in
theorem begins6_any (w : World) (hW : We w) : Calls Tryz.prog 12 #[] w fun e w' => e = .returned (.bool true) ∧ Below w.heap.size w w' := by
  have HP := Lib.hid fun W hw => Lv.call_ok Lv.p6 W hw (by decide)
  have hT := fun rv zv lv evs W hw hr => prText_ok Lv.s6 rv zv lv evs W hw hr Lv.s6_rk rfl (by
    have h1 := congrArg ByteArray.size Lv.text_6
    have h2 : (Src.bts (Pr.text Lv.s6)).size = (Pr.text Lv.s6).length := rfl
    rw [h2] at h1
    rw [h1]
    decide)
  rw [Lv.text_6] at hT
  have HT := Lib.hid hT
  have HW := Lib.hid hW
  clear hW hT
  go_enter Tryz.func12, Tryz.ntmps12
  go_wp2_with fail
  refine (HP.out _ ⟨HW.out.c.p, HW.out.a⟩).mono ?_
  rintro e w1 ⟨hb, rv, zv, lv, evs, rfl, hR⟩
  obtain ⟨A1, c1, rfl, _⟩ := hR.rules
  obtain ⟨A2, c2, rfl, _⟩ := hR.zones
  obtain ⟨A3, c3, rfl, _⟩ := hR.links
  have HBx1 := Lib.hid (((Below.refl w1.heap.size w1).alloc (Nat.le_refl _) (.cells #[.slice A1 Lv.s6.rules.length c1, .slice A2 Lv.s6.zones.length c2, .slice A3 Lv.s6.links.length c3] 26)).alloc (by simp) (.cells #[.int .i64 0, .int .i64 0, .int .i64 0] 34))
  have HT1 := Lib.hid ((At.new w1 #[.slice A1 Lv.s6.rules.length c1, .slice A2 Lv.s6.zones.length c2, .slice A3 Lv.s6.links.length c3] 26).allocO (.cells #[.int .i64 0, .int .i64 0, .int .i64 0] 34))
  have HF1 := Lib.hid (show At ((w1.alloc (.cells #[.slice A1 Lv.s6.rules.length c1, .slice A2 Lv.s6.zones.length c2, .slice A3 Lv.s6.links.length c3] 26)).alloc (.cells #[.int .i64 0, .int .i64 0, .int .i64 0] 34)) (w1.heap.size + 1) [.int .i64 0, .int .i64 0, .int .i64 0] by have := At.new (w1.alloc (.cells #[.slice A1 Lv.s6.rules.length c1, .slice A2 Lv.s6.zones.length c2, .slice A3 Lv.s6.links.length c3] 26)) #[.int .i64 0, .int .i64 0, .int .i64 0] 34; simpa using this)
  have HR1 := Lib.hid (hR.call HBx1.out)
  have HB1 := Lib.hid (below_then hb HBx1.out)
  clear hb hR
  obtain ⟨t0, t1, t2, _⟩ := HT1.out.three
  go_wp2_with fail
  refine (HT.out _ _ _ _ _ (HW.out.below HB1.out) HR1.out).mono ?_
  rintro e w2 ⟨rfl, hb⟩
  have HF2 := Lib.hid (HF1.out.call hb)
  have HB2 := Lib.hid (below_then HB1.out hb)
  clear hb t0 t1 t2 HT1 HF1 HR1 HB1 HBx1
  obtain ⟨f0, f1, f2, _⟩ := HF2.out.three
  go_wp2
  go_ret
  exact ⟨rfl, HB2.out⟩
end Go.Proofs.YtlhoggalhjadgaaGreatDoor

/- A right source's text with comments at the ends of its lines, lines of their own between, and blanks ahead. -/
namespace Go.Proofs.YtlhoggalhjadgaaGreatDoor
open Go.RowKit

namespace Pr
open Go.Proofs.YtlhoggalhjadgaaGreatDoor.Src
/-- What stands for a line's end. -/
def D (note : Txt) : Txt := [32, 35] ++ note ++ [10, 35, 32] ++ note ++ [10, 13, 9, 32]
def dec (note : Txt) (t : Txt) : Txt := t.flatMap fun c => if c = 10 then D note else [c]
theorem dec_app (note a b : Txt) : dec note (a ++ b) = dec note a ++ dec note b := by unfold dec; rw [List.flatMap_append]
theorem dec_one (note : Txt) : ∀ t : Txt, (10 : UInt8) ∉ t → dec note t = t
  | [], _ => rfl
  | c :: t, h => by
    have h1 : c ≠ 10 := fun e => h (by rw [e]; exact List.mem_cons_self)
    have h2 := dec_one note t fun e => h (List.mem_cons_of_mem _ e)
    unfold dec at h2 ⊢
    rw [List.flatMap_cons, if_neg h1, h2]
    rfl
theorem dec_nl (note : Txt) : dec note [10] = D note := by unfold dec; simp
theorem dec_lines (note : Txt) : ∀ ls : List Txt, (∀ t ∈ ls, (10 : UInt8) ∉ t) → dec note (ls.flatMap fun t => t ++ [10]) = ls.flatMap fun t => t ++ D note
  | [], _ => rfl
  | t :: ls, h => by
    rw [List.flatMap_cons, List.flatMap_cons, dec_app, dec_app, dec_one note t (h t List.mem_cons_self), dec_nl, dec_lines note ls fun x hx => h x (List.mem_cons_of_mem _ hx)]
def BL : Txt := [13, 9, 32]
def phys (note : Txt) : Txt → List Txt → List Txt
  | lead, [] => [lead]
  | lead, t :: ls => (lead ++ t ++ 32 :: 35 :: note) :: (35 :: 32 :: note) :: phys note BL ls
theorem split_phys (note : Txt) (hn : (10 : UInt8) ∉ note) : ∀ (ls : List Txt) (lead : Txt), (10 : UInt8) ∉ lead → (∀ t ∈ ls, (10 : UInt8) ∉ t) → Sc.splitNl (lead ++ ls.flatMap fun t => t ++ D note) = phys note lead ls
  | [], lead, hl, _ => by
    rw [List.flatMap_nil, List.append_nil, splitNl_one lead hl]
    rfl
  | t :: ls, lead, hl, h => by
    have e : lead ++ (t :: ls).flatMap (fun t => t ++ D note) = (lead ++ t ++ 32 :: 35 :: note) ++ 10 :: ((35 :: 32 :: note) ++ 10 :: (BL ++ ls.flatMap fun t => t ++ D note)) := by
      rw [List.flatMap_cons]
      unfold D BL
      simp
    have ht := h t List.mem_cons_self
    have n1 : (10 : UInt8) ∉ lead ++ t ++ 32 :: 35 :: note := by
      intro e
      rcases List.mem_append.1 e with e | e
      · rcases List.mem_append.1 e with e | e
        · exact hl e
        · exact ht e
      · simp at e
        exact hn e
    have n2 : (10 : UInt8) ∉ (35 :: 32 :: note : Txt) := by
      intro e
      simp at e
      exact hn e
    rw [e, splitNl_both, splitNl_one _ n1, splitNl_both, splitNl_one _ n2, split_phys note hn ls BL (by decide) fun x hx => h x (List.mem_cons_of_mem _ hx)]
    rfl
theorem fine_blank (lead : Txt) (h : ∀ c ∈ lead, Sc.kind c.toNat = 1) (hl : lead.length ≤ 2048) : Fine lead ∧ wordsOf lead = [] := by
  have e : Sc.fields lead = .ok [] := by
    unfold Sc.fields
    rw [if_neg (by omega)]
    have := scan_lead lead [] 0 [] h
    rw [List.append_nil] at this
    rw [this]
    rfl
  exact ⟨⟨[], e⟩, by unfold wordsOf; rw [e]; rfl⟩
theorem fine_note (note : Txt) (h : note.length ≤ 200) : Fine (35 :: 32 :: note) ∧ wordsOf (35 :: 32 :: note) = [] := by
  have e : Sc.fields (35 :: 32 :: note) = .ok [] := by
    unfold Sc.fields
    rw [if_neg (by simp only [List.length_cons]; omega), Sc.b_3 Sc.k35]
  exact ⟨⟨[], e⟩, by unfold wordsOf; rw [e]; rfl⟩
theorem LineOk.noted {l : Line} (h : LineOk l) (lead note : Txt) (hk : ∀ c ∈ lead, Sc.kind c.toNat = 1) (hl : lead.length ≤ 3) (hn : note.length ≤ 200) : Fine (lead ++ lt l ++ 32 :: 35 :: note) ∧ wordsOf (lead ++ lt l ++ 32 :: 35 :: note) = [wd l] := by
  have hk2 : ∀ c ∈ lead ++ (if l.1 then [9] else [] : Txt), Sc.kind c.toNat = 1 := by
    intro c hc
    rcases List.mem_append.1 hc with hc | hc
    · exact hk c hc
    · split at hc
      · rw [List.mem_singleton] at hc; rw [hc]; exact Sc.k9
      · cases hc
  have hz : ((if l.1 then [9] else [] : Txt)).length ≤ 1 := by split <;> simp
  obtain ⟨L, h1, h2⟩ := fields_line (lead ++ (if l.1 then [9] else [])) l.2 (32 :: 35 :: note) hk2 h.ne h.plain (by have := h.len; omega) (.inr ⟨note, rfl⟩) (by have := h.size'; rw [List.length_append]; simp only [List.length_cons]; omega)
  have e : Sc.fields (lead ++ lt l ++ 32 :: 35 :: note) = .ok L := by
    unfold lt
    rw [← List.append_assoc]
    exact h1
  refine ⟨⟨L, e⟩, ?_⟩
  unfold wordsOf
  rw [e]
  have hne : L ≠ [] := by
    intro e
    rw [e] at h2
    exact h.ne (List.map_eq_nil_iff.1 h2.symm)
  simp only []
  rw [if_neg hne, h2]
  rfl
theorem phys_words (note : Txt) (hn : note.length ≤ 200) : ∀ (ls : List Line) (lead : Txt), (∀ c ∈ lead, Sc.kind c.toNat = 1) → lead.length ≤ 3 → (∀ l ∈ ls, LineOk l) →
    (∀ x ∈ phys note lead (ls.map lt), Fine x) ∧ (phys note lead (ls.map lt)).flatMap wordsOf = ls.map wd
  | [], lead, hk, hl, _ => by
    obtain ⟨h1, h2⟩ := fine_blank lead hk (by omega)
    refine ⟨fun x hx => ?_, ?_⟩
    · rw [show x = lead from List.mem_singleton.1 hx]; exact h1
    · show [lead].flatMap wordsOf = []
      rw [List.flatMap_cons, h2]
      rfl
  | l :: ls, lead, hk, hl, h => by
    obtain ⟨a1, a2⟩ := (h l List.mem_cons_self).noted lead note hk hl hn
    obtain ⟨b1, b2⟩ := fine_note note hn
    obtain ⟨c1, c2⟩ := phys_words note hn ls BL (by decide) (by decide) fun x hx => h x (List.mem_cons_of_mem _ hx)
    refine ⟨fun x hx => ?_, ?_⟩
    · rcases List.mem_cons.1 (show x ∈ (lead ++ lt l ++ 32 :: 35 :: note) :: (35 :: 32 :: note) :: phys note BL (ls.map lt) from hx) with rfl | hx
      · exact a1
      · rcases List.mem_cons.1 hx with rfl | hx
        · exact b1
        · exact c1 x hx
    · show ((lead ++ lt l ++ 32 :: 35 :: note) :: (35 :: 32 :: note) :: phys note BL (ls.map lt)).flatMap wordsOf = wd l :: ls.map wd
      rw [List.flatMap_cons, List.flatMap_cons, a2, b2, c2]
      rfl
theorem text_dec (s : S) (note : Txt) (h : ∀ l ∈ lns s, LineOk l) : dec note (text s) = ((lns s).map lt).flatMap fun t => t ++ D note := by
  have h1 := dec_lines note ((lns s).map lt) (fun t ht => by
    rw [List.mem_map] at ht
    obtain ⟨l, hl, rfl⟩ := ht
    exact (h l hl).nl)
  rw [List.flatMap_map] at h1
  exact h1
theorem D_len (note : Txt) : (D note).length = 9 + 2 * note.length := by
  unfold D
  simp only [List.length_append, List.length_cons, List.length_nil]
  omega
theorem dec_len (note : Txt) (hn : note.length ≤ 200) : ∀ ls : List Line, (∀ l ∈ ls, LineOk l) → ((ls.map lt).flatMap fun t => t ++ D note).length ≤ 475 * nw ls
  | [], _ => Nat.le_refl _
  | l :: ls, h => by
    have h1 := dec_len note hn ls fun x hx => h x (List.mem_cons_of_mem _ hx)
    have h2 := (h l List.mem_cons_self).size
    have h3 : l.2.length ≠ 0 := fun e => (h l List.mem_cons_self).ne (List.length_eq_zero_iff.1 e)
    have h4 := D_len note
    have h5 : (lt l).length ≤ (Sc.line l.2).size + 1 := by
      unfold lt
      rw [List.length_append, tl_length]
      have : ((if l.1 then [9] else []) : Txt).length ≤ 1 := by split <;> simp
      omega
    rw [List.map_cons, List.flatMap_cons, List.length_append, List.length_append]
    simp only [nw]
    omega
theorem few_dec {s : S} (h : Few s) (hr : Rk s) (ho : s.op = false) (note : Txt) (hn : note.length ≤ 200) : (dec note (text s)).length ≤ 800000 := by
  have hok := lns_ok hr ho
  have h1 := dec_len note hn (lns s) hok
  have h2 := few_ns h
  rw [nw_lns] at h1
  rw [text_dec s note hok]
  omega
/-- It is read as the source. -/
theorem parse_dec (s : S) (hr : Rk s) (ho : s.op = false) (note : Txt) (hn : note.length ≤ 200) (h10 : (10 : UInt8) ∉ note) (hz : (dec note (text s)).length ≤ 1048576) : parse own (dec note (text s)) = .ok s := by
  have hok := lns_ok hr ho
  have hsp : Sc.splitNl (dec note (text s)) = phys note [] ((lns s).map lt) := by
    rw [text_dec s note hok]
    have := split_phys note h10 ((lns s).map lt) [] (by simp) (fun t ht => by
      rw [List.mem_map] at ht
      obtain ⟨l, hl, rfl⟩ := ht
      exact (hok l hl).nl)
    rwa [List.nil_append] at this
  obtain ⟨c1, c2⟩ := phys_words note hn (lns s) [] (fun c hc => by cases hc) (by decide) hok
  refine parse_words _ s hz (by rw [hsp]; exact c1) ?_ ho
  rw [hsp, c2, read_lns s St.none_ hr ho rfl (by simpa [St.none_] using hr.rules.1) (by simpa [St.none_] using hr.zones.1) (by simpa [St.none_] using hr.links.1)]
  cases s
  rfl
theorem dec_take (note t : Txt) (i : Nat) : (dec note (t.take i)).length ≤ (dec note t).length := by
  have h := dec_app note (t.take i) (t.drop i)
  rw [List.take_append_drop] at h
  rw [h, List.length_append]
  omega
end Pr
end Go.Proofs.YtlhoggalhjadgaaGreatDoor

/- source.Check of any source, however long its names are, and however many there are. -/
namespace Go.Proofs.YtlhoggalhjadgaaGreatDoor
open Go.RowKit

theorem checkLetter_noW (s : ByteArray) (w : World) (hs : s.size ≤ maxLen) (h : Ab.letter s = false) :
    Calls Tryz.prog 44 #[.string s] w fun e w' => e = .returned (.int .i64 2) ∧ Below w.heap.size w w' := by
  unfold Ab.letter at h
  by_cases h1 : s.size ≤ 32
  · have q1 : ¬ (32 : Int) < (s.size : Int) := by omega
    rw [decide_eq_true h1, Bool.true_and] at h
    by_cases h2 : s = ⟨#[45]⟩
    · have q2 : (s.toList == [45]) = true := by rw [h2, ByteArray.toList_eq]; rfl
      clear h h1 h2
      go_enter Tryz.func44, Tryz.ntmps44
      go_wp2
      go_ret
      exact ⟨rfl, Below.refl _ _⟩
    · rw [decide_eq_false h2] at h
      have h3 : Ab.signs (tl s) = false := by simpa using h
      have q2 : (s.toList == [45]) = false := ba_ne s [45] h2
      have HS := Lib.hid fun W => calls_bool (signs_any _ 1 1 [s] (W.alloc (.cells #[.string s] 9)) (by decide) (reads_one W s _) (by intro t ht; simp at ht; subst ht; omega)) (show _ = false by unfold Ab.all; simp [h3])
      clear h h1 h2 h3
      go_enter Tryz.func44, Tryz.ntmps44
      go_wp2_with fail
      refine (HS.out _).mono ?_
      rintro e w1 ⟨rfl, rfl⟩
      go_wp2
      go_ret
      exact ⟨rfl, (Below.refl _ _).alloc (Nat.le_refl _) _⟩
  · have q1 : (32 : Int) < (s.size : Int) := by omega
    clear h h1
    go_enter Tryz.func44, Tryz.ntmps44
    go_wp2
    go_ret
    exact ⟨rfl, Below.refl _ _⟩
set_option maxHeartbeats 1000000 in
theorem ruleCheck_0W (nm : ByteArray) (fr tt mo k n d s c sv : Int) (lt : ByteArray) (w : World) (hs1 : nm.size ≤ maxLen) (hN : Ru.name (tl nm) = false) :
    Calls Tryz.prog 21 #[.agg #[.string nm, .int .i64 fr, .int .i64 tt, .int .i64 mo, .int .u8 k, .int .i64 n, .int .i64 d, .int .i64 s, .int .u8 c, .int .i64 sv, .string lt]] w fun e w' => e = .returned (.int .i64 2) ∧ Below w.heap.size w w' := by
  have HB := Lib.hid (Below.refl w.heap.size w)
  have H0 := Lib.hid fun W => calls_bool (name_all nm W hs1) hN
  clear hN hs1
  go_enter Tryz.func21, Tryz.ntmps21
  go_wp2_with fail
  refine (H0.out _).mono ?_
  rintro e w1 ⟨rfl, hb⟩
  have hbz := below_then (HB.out.alloc (by have := HB.out.size; first | exact this | (simp; omega)) _) hb
  have Rr := Lib.hid ((At.new w #[.string nm, .int .i64 fr, .int .i64 tt, .int .i64 mo, .int .u8 k, .int .i64 n, .int .i64 d, .int .i64 s, .int .u8 c, .int .i64 sv, .string lt] 47).call hb)
  replace HB := Lib.hid hbz
  clear hb hbz
  have zRr := Rr.out.lt
  have Rrc0 := Rr.out.cell 0 _ rfl
  have Rrc1 := Rr.out.cell 1 _ rfl
  have Rrc2 := Rr.out.cell 2 _ rfl
  have Rrc3 := Rr.out.cell 3 _ rfl
  have Rrc4 := Rr.out.cell 4 _ rfl
  have Rrc5 := Rr.out.cell 5 _ rfl
  have Rrc6 := Rr.out.cell 6 _ rfl
  have Rrc7 := Rr.out.cell 7 _ rfl
  have Rrc8 := Rr.out.cell 8 _ rfl
  have Rrc9 := Rr.out.cell 9 _ rfl
  have Rrc10 := Rr.out.cell 10 _ rfl
  go_wp2
  go_ret
  exact ⟨rfl, HB.out⟩
set_option maxHeartbeats 1000000 in
theorem ruleCheck_6W (nm : ByteArray) (fr tt mo k n d s c sv : Int) (lt : ByteArray) (w : World) (hs1 : nm.size ≤ 1000000) (hs2 : lt.size ≤ maxLen) (hN : Ru.name (tl nm) = true) (h4 : (decide (1 ≤ fr) && decide (fr ≤ tt) && decide (tt ≤ 9999)) = true) (h3 : (decide (1 ≤ mo) && decide (mo ≤ 12)) = true) (hD : Dy.Ok k n d) (hM : Mo.Ok s c) (hV : IsTime sv) (hL : Ab.letter lt = false) :
    Calls Tryz.prog 21 #[.agg #[.string nm, .int .i64 fr, .int .i64 tt, .int .i64 mo, .int .u8 k, .int .i64 n, .int .i64 d, .int .i64 s, .int .u8 c, .int .i64 sv, .string lt]] w fun e w' => e = .returned (.int .i64 2) ∧ Below w.heap.size w w' := by
  have HB := Lib.hid (Below.refl w.heap.size w)
  have H0 := Lib.hid fun W => calls_bool (name_any nm W hs1) hN
  have H1 := Lib.hid fun W => calls_bool (rising4_any 1 fr tt 9999 W) h4
  have H2 := Lib.hid fun W => calls_bool (rising3_any 1 mo 12 W) h3
  have H3 := Lib.hid fun W => dayCheck_ok k n d W hD
  have H4 := Lib.hid fun W => momCheck_ok s c W hM
  obtain ⟨v1, v2⟩ := hV
  have H6 := Lib.hid fun W => checkLetter_noW lt W hs2 hL
  clear hN h4 h3 hD hM hL hs1 hs2
  go_enter Tryz.func21, Tryz.ntmps21
  go_wp2_with fail
  refine (H0.out _).mono ?_
  rintro e w1 ⟨rfl, hb⟩
  have hbz := below_then (HB.out.alloc (by have := HB.out.size; first | exact this | (simp; omega)) _) hb
  have Rr := Lib.hid ((At.new w #[.string nm, .int .i64 fr, .int .i64 tt, .int .i64 mo, .int .u8 k, .int .i64 n, .int .i64 d, .int .i64 s, .int .u8 c, .int .i64 sv, .string lt] 47).call hb)
  replace HB := Lib.hid hbz
  clear hb hbz
  have zRr := Rr.out.lt
  have Rrc0 := Rr.out.cell 0 _ rfl
  have Rrc1 := Rr.out.cell 1 _ rfl
  have Rrc2 := Rr.out.cell 2 _ rfl
  have Rrc3 := Rr.out.cell 3 _ rfl
  have Rrc4 := Rr.out.cell 4 _ rfl
  have Rrc5 := Rr.out.cell 5 _ rfl
  have Rrc6 := Rr.out.cell 6 _ rfl
  have Rrc7 := Rr.out.cell 7 _ rfl
  have Rrc8 := Rr.out.cell 8 _ rfl
  have Rrc9 := Rr.out.cell 9 _ rfl
  have Rrc10 := Rr.out.cell 10 _ rfl
  go_wp2_with fail
  refine (H1.out _).mono ?_
  rintro e w2 ⟨rfl, hb⟩
  have hbz := below_then HB.out hb
  have Rr' := Rr.out.call hb
  clear Rr
  have Rr := Lib.hid Rr'
  clear Rr'
  replace HB := Lib.hid hbz
  clear hb hbz
  clear zRr Rrc0 Rrc1 Rrc2 Rrc3 Rrc4 Rrc5 Rrc6 Rrc7 Rrc8 Rrc9 Rrc10
  have zRr := Rr.out.lt
  have Rrc0 := Rr.out.cell 0 _ rfl
  have Rrc1 := Rr.out.cell 1 _ rfl
  have Rrc2 := Rr.out.cell 2 _ rfl
  have Rrc3 := Rr.out.cell 3 _ rfl
  have Rrc4 := Rr.out.cell 4 _ rfl
  have Rrc5 := Rr.out.cell 5 _ rfl
  have Rrc6 := Rr.out.cell 6 _ rfl
  have Rrc7 := Rr.out.cell 7 _ rfl
  have Rrc8 := Rr.out.cell 8 _ rfl
  have Rrc9 := Rr.out.cell 9 _ rfl
  have Rrc10 := Rr.out.cell 10 _ rfl
  go_wp2_with fail
  refine (H2.out _).mono ?_
  rintro e w3 ⟨rfl, hb⟩
  have hbz := below_then HB.out hb
  have Rr' := Rr.out.call hb
  clear Rr
  have Rr := Lib.hid Rr'
  clear Rr'
  replace HB := Lib.hid hbz
  clear hb hbz
  clear zRr Rrc0 Rrc1 Rrc2 Rrc3 Rrc4 Rrc5 Rrc6 Rrc7 Rrc8 Rrc9 Rrc10
  have zRr := Rr.out.lt
  have Rrc0 := Rr.out.cell 0 _ rfl
  have Rrc1 := Rr.out.cell 1 _ rfl
  have Rrc2 := Rr.out.cell 2 _ rfl
  have Rrc3 := Rr.out.cell 3 _ rfl
  have Rrc4 := Rr.out.cell 4 _ rfl
  have Rrc5 := Rr.out.cell 5 _ rfl
  have Rrc6 := Rr.out.cell 6 _ rfl
  have Rrc7 := Rr.out.cell 7 _ rfl
  have Rrc8 := Rr.out.cell 8 _ rfl
  have Rrc9 := Rr.out.cell 9 _ rfl
  have Rrc10 := Rr.out.cell 10 _ rfl
  go_wp2_with fail
  refine (H3.out _).mono ?_
  rintro e w4 ⟨rfl, hb⟩
  have hbz := below_then HB.out hb
  have Rr' := Rr.out.call hb
  clear Rr
  have Rr := Lib.hid Rr'
  clear Rr'
  replace HB := Lib.hid hbz
  clear hb hbz
  clear zRr Rrc0 Rrc1 Rrc2 Rrc3 Rrc4 Rrc5 Rrc6 Rrc7 Rrc8 Rrc9 Rrc10
  have zRr := Rr.out.lt
  have Rrc0 := Rr.out.cell 0 _ rfl
  have Rrc1 := Rr.out.cell 1 _ rfl
  have Rrc2 := Rr.out.cell 2 _ rfl
  have Rrc3 := Rr.out.cell 3 _ rfl
  have Rrc4 := Rr.out.cell 4 _ rfl
  have Rrc5 := Rr.out.cell 5 _ rfl
  have Rrc6 := Rr.out.cell 6 _ rfl
  have Rrc7 := Rr.out.cell 7 _ rfl
  have Rrc8 := Rr.out.cell 8 _ rfl
  have Rrc9 := Rr.out.cell 9 _ rfl
  have Rrc10 := Rr.out.cell 10 _ rfl
  go_wp2_with fail
  refine (H4.out _).mono ?_
  rintro e w5 ⟨rfl, hb⟩
  have hbz := below_then HB.out hb
  have Rr' := Rr.out.call hb
  clear Rr
  have Rr := Lib.hid Rr'
  clear Rr'
  replace HB := Lib.hid hbz
  clear hb hbz
  clear zRr Rrc0 Rrc1 Rrc2 Rrc3 Rrc4 Rrc5 Rrc6 Rrc7 Rrc8 Rrc9 Rrc10
  have zRr := Rr.out.lt
  have Rrc0 := Rr.out.cell 0 _ rfl
  have Rrc1 := Rr.out.cell 1 _ rfl
  have Rrc2 := Rr.out.cell 2 _ rfl
  have Rrc3 := Rr.out.cell 3 _ rfl
  have Rrc4 := Rr.out.cell 4 _ rfl
  have Rrc5 := Rr.out.cell 5 _ rfl
  have Rrc6 := Rr.out.cell 6 _ rfl
  have Rrc7 := Rr.out.cell 7 _ rfl
  have Rrc8 := Rr.out.cell 8 _ rfl
  have Rrc9 := Rr.out.cell 9 _ rfl
  have Rrc10 := Rr.out.cell 10 _ rfl
  go_wp2_with fail
  refine (H6.out _).mono ?_
  rintro e w6 ⟨rfl, hb⟩
  have hbz := below_then HB.out hb
  have Rr' := Rr.out.call hb
  clear Rr
  have Rr := Lib.hid Rr'
  clear Rr'
  replace HB := Lib.hid hbz
  clear hb hbz
  clear zRr Rrc0 Rrc1 Rrc2 Rrc3 Rrc4 Rrc5 Rrc6 Rrc7 Rrc8 Rrc9 Rrc10
  have zRr := Rr.out.lt
  have Rrc0 := Rr.out.cell 0 _ rfl
  have Rrc1 := Rr.out.cell 1 _ rfl
  have Rrc2 := Rr.out.cell 2 _ rfl
  have Rrc3 := Rr.out.cell 3 _ rfl
  have Rrc4 := Rr.out.cell 4 _ rfl
  have Rrc5 := Rr.out.cell 5 _ rfl
  have Rrc6 := Rr.out.cell 6 _ rfl
  have Rrc7 := Rr.out.cell 7 _ rfl
  have Rrc8 := Rr.out.cell 8 _ rfl
  have Rrc9 := Rr.out.cell 9 _ rfl
  have Rrc10 := Rr.out.cell 10 _ rfl
  go_wp2
  go_ret
  exact ⟨rfl, HB.out⟩
theorem ruleCheck_badW (r : Ru.R) (w : World) (h : ¬ r.Ok) (hs1 : r.nm.size ≤ maxLen) (hs2 : r.lt.size ≤ maxLen) :
    Calls Tryz.prog 21 #[r.v] w fun e w' => e = .returned (.int .i64 2) ∧ Below w.heap.size w w' := by
  by_cases h1 : Ru.name (tl r.nm) = true
  · have hs1' : r.nm.size ≤ 1000000 := by have := Src.name_len h1; rw [tl_length] at this; omega
    by_cases h2 : 1 ≤ r.fr ∧ r.fr ≤ r.tt ∧ r.tt ≤ 9999
    · have e2 : (decide (1 ≤ r.fr) && decide (r.fr ≤ r.tt) && decide (r.tt ≤ 9999)) = true := by simp [h2.1, h2.2.1, h2.2.2]
      by_cases h3 : 1 ≤ r.mo ∧ r.mo ≤ 12
      · have e3 : (decide (1 ≤ r.mo) && decide (r.mo ≤ 12)) = true := by simp [h3.1, h3.2]
        by_cases h4 : Dy.Ok r.k r.n r.d
        · by_cases h5 : Mo.Ok r.s r.c
          · by_cases h6 : IsTime r.sv
            · have h7 : Ab.letter r.lt = false := by
                cases hx : Ab.letter r.lt
                · rfl
                · exact absurd ⟨h1, h2, h3, h4, h5, h6, hx⟩ h
              exact ruleCheck_6W r.nm r.fr r.tt r.mo r.k r.n r.d r.s r.c r.sv r.lt w hs1' hs2 h1 e2 e3 h4 h5 h6 h7
            · exact ruleCheck_5 r.nm r.fr r.tt r.mo r.k r.n r.d r.s r.c r.sv r.lt w hs1' h1 e2 e3 h4 h5 h6
          · exact ruleCheck_4 r.nm r.fr r.tt r.mo r.k r.n r.d r.s r.c r.sv r.lt w hs1' h1 e2 e3 h4 h5
        · exact ruleCheck_3 r.nm r.fr r.tt r.mo r.k r.n r.d r.s r.c r.sv r.lt w hs1' h1 e2 e3 h4
      · exact ruleCheck_2 r.nm r.fr r.tt r.mo r.k r.n r.d r.s r.c r.sv r.lt w hs1' h1 e2 (by rw [← Bool.not_eq_true]; intro x; simp at x; exact h3 x)
    · exact ruleCheck_1 r.nm r.fr r.tt r.mo r.k r.n r.d r.s r.c r.sv r.lt w hs1' h1 (by rw [← Bool.not_eq_true]; intro x; simp at x; exact h2 ⟨x.1.1, x.1.2, x.2⟩)
  · exact ruleCheck_0W r.nm r.fr r.tt r.mo r.k r.n r.d r.s r.c r.sv r.lt w hs1 (by simpa using h1)
theorem wrongRule_anyW (r : Ru.R) (w : World) (h1 : r.nm.size ≤ maxLen) (h2 : r.lt.size ≤ maxLen) : Calls Tryz.prog 20 #[r.v] w fun e w' => e = .returned (.bool (!r.good)) ∧ Below w.heap.size w w' := by
  cases hg : r.good
  · have hn : ¬ r.Ok := fun h => by rw [(Ru.R.good_iff r).2 h] at hg; cases hg
    have HC := Lib.hid fun W => ruleCheck_badW r W hn h1 h2
    obtain ⟨nm, fr, tt, mo, k, n, d, s, c, sv, lt⟩ := r
    unfold Ru.R.v at HC ⊢
    clear hn hg h1 h2
    have HB := Lib.hid ((Below.refl w.heap.size w).alloc (Nat.le_refl _) (.cells #[.string nm, .int .i64 fr, .int .i64 tt, .int .i64 mo, .int .u8 k, .int .i64 n, .int .i64 d, .int .i64 s, .int .u8 c, .int .i64 sv, .string lt] 47))
    go_enter Tryz.func20, Tryz.ntmps20
    go_wp2_with fail
    refine (HC.out _).mono ?_
    rintro e w1 ⟨rfl, hb⟩
    replace HB := Lib.hid (below_then HB.out hb)
    clear hb
    go_wp2
    go_ret
    exact ⟨rfl, HB.out⟩
  · have hok := (Ru.R.good_iff r).1 hg
    have hz1 : r.nm.size ≤ 1000000 := by have := Src.name_len hok.1; rw [tl_length] at this; omega
    have hz2 : r.lt.size ≤ 1000000 := by
      have hl := hok.2.2.2.2.2.2
      unfold Ab.letter at hl
      simp only [Bool.and_eq_true, decide_eq_true_eq] at hl
      omega
    have HC := Lib.hid fun W => ruleCheck_ok r W hok hz1 hz2
    clear hok hz1 hz2
    obtain ⟨nm, fr, tt, mo, k, n, d, s, c, sv, lt⟩ := r
    unfold Ru.R.v at HC ⊢
    clear hg h1 h2
    have HB := Lib.hid ((Below.refl w.heap.size w).alloc (Nat.le_refl _) (.cells #[.string nm, .int .i64 fr, .int .i64 tt, .int .i64 mo, .int .u8 k, .int .i64 n, .int .i64 d, .int .i64 s, .int .u8 c, .int .i64 sv, .string lt] 47))
    go_enter Tryz.func20, Tryz.ntmps20
    go_wp2_with fail
    refine (HC.out _).mono ?_
    rintro e w1 ⟨rfl, hb⟩
    replace HB := Lib.hid (below_then HB.out hb)
    clear hb
    go_wp2
    go_ret
    exact ⟨rfl, HB.out⟩
theorem name_btsW (t : Src.Txt) (w : World) (h : t.length ≤ maxLen) (b : Bool) (hb : Ru.name t = b) : Calls Tryz.prog 25 #[.string (Src.bts t)] w fun e w' => e = .returned (.bool b) ∧ Below w.heap.size w w' := by
  have := name_all (Src.bts t) w h
  rw [show tl (Src.bts t) = t from tl_mk t, hb] at this
  exact this
theorem wrongLink_anyW (k : Src.Txt × Src.Txt) (w : World) (h1 : k.1.length ≤ maxLen) (h2 : k.2.length ≤ maxLen) : Calls Tryz.prog 24 #[Src.lv k] w fun e w' => e = .returned (.bool (!Src.linkB k)) ∧ Below w.heap.size w w' := by
  obtain ⟨a, b⟩ := k
  unfold Src.lv Src.linkB
  simp only at h1 h2 ⊢
  obtain ⟨va, hva⟩ : ∃ v, Ru.name a = v := ⟨_, rfl⟩
  obtain ⟨vb, hvb⟩ : ∃ v, Ru.name b = v := ⟨_, rfl⟩
  have H1 := Lib.hid fun W => name_btsW a W h1 va hva
  have H2 := Lib.hid fun W => name_btsW b W h2 vb hvb
  rw [hva, hvb]
  obtain ⟨xa, hxa⟩ : ∃ x, Src.bts a = x := ⟨_, rfl⟩
  obtain ⟨xb, hxb⟩ : ∃ x, Src.bts b = x := ⟨_, rfl⟩
  rw [hxa, hxb]
  rw [hxa] at H1
  rw [hxb] at H2
  clear h1 h2 hva hvb hxa hxb
  have HB := Lib.hid ((Below.refl w.heap.size w).alloc (Nat.le_refl _) (.cells #[.string xa, .string xb] 56))
  have HA := Lib.hid (At.new w #[.string xa, .string xb] 56)
  cases va
  · go_enter Tryz.func24, Tryz.ntmps24
    go_wp2_with fail
    refine (H1.out _).mono ?_
    rintro e w1 ⟨rfl, hb⟩
    replace HB := Lib.hid (below_then HB.out hb)
    clear hb
    go_wp2
    go_ret
    exact ⟨rfl, HB.out⟩
  · go_enter Tryz.func24, Tryz.ntmps24
    go_wp2_with fail
    refine (H1.out _).mono ?_
    rintro e w1 ⟨rfl, hb⟩
    have HA1 := Lib.hid (HA.out.call hb)
    replace HB := Lib.hid (below_then HB.out hb)
    clear hb
    obtain ⟨a0, a1, _⟩ := HA1.out.two
    go_wp2_with fail
    refine (H2.out _).mono ?_
    rintro e w2 ⟨rfl, hb⟩
    replace HB := Lib.hid (below_then HB.out hb)
    clear hb
    go_wp2
    go_ret
    exact ⟨rfl, HB.out⟩
set_option maxHeartbeats 2000000 in
set_option maxRecDepth 100000 in
theorem rightZone_anyW (z : (Src.Txt × List Er.E) × Value) (w : World) (hW : Wa w) (hr : Src.RowR w w.heap.size 13 z.1.2.length z.2 (z.1.2.flatMap Er.E.cells)) (h1 : z.1.1.length ≤ maxLen) (h2 : ∀ e ∈ z.1.2, e.fm.size ≤ maxLen ∧ e.ru.size ≤ maxLen) :
    Calls Tryz.prog 23 #[Src.zv z] w fun e w' => e = .returned (.bool (Src.zoneB z.1)) ∧ Below w.heap.size w w' := by
  obtain ⟨⟨nm, es⟩, ev⟩ := z
  unfold Src.zv Src.zoneB
  simp only at hr h1 h2 ⊢
  obtain ⟨A, c, rfl, hnc, hcm, hrr⟩ := hr
  obtain ⟨vn, hvn⟩ : ∃ v, Ru.name nm = v := ⟨_, rfl⟩
  have H1 := Lib.hid fun W => name_btsW nm W h1 vn hvn
  rw [hvn]
  obtain ⟨xn, hxn⟩ : ∃ x, Src.bts nm = x := ⟨_, rfl⟩
  rw [hxn] at H1 ⊢
  obtain ⟨n, hn⟩ : ∃ n, es.length = n := ⟨_, rfl⟩
  obtain ⟨X, hX⟩ : ∃ X, Src.erasB es = X := ⟨_, rfl⟩
  rw [hX]
  rw [hn] at hrr hnc ⊢
  have HN := Lib.hid hn
  have HX := Lib.hid hX.symm
  have HR := Lib.hid hrr
  have HS := Lib.hid h2
  have HW := Lib.hid hW
  unfold maxLen at hcm
  clear h1 hvn hxn hn hX hrr h2 hW
  have HB0 := Lib.hid ((Below.refl w.heap.size w).alloc (Nat.le_refl _) (.cells #[.string xn, .slice A n c] 53))
  have HA0 := Lib.hid (At.new w #[.string xn, .slice A n c] 53)
  obtain ⟨h, hh⟩ : ∃ h, w.heap.size = h := ⟨_, rfl⟩
  have HH := Lib.hid hh
  cases vn
  · go_enter Tryz.func23, Tryz.ntmps23
    go_wp2_with fail
    refine (H1.out _).mono ?_
    rintro e w1 ⟨rfl, hb⟩
    replace HB0 := Lib.hid (below_then HB0.out hb)
    clear hb
    go_wp2
    go_ret
    exact ⟨rfl, HB0.out⟩
  by_cases hn1 : n < 1
  · have q1 : (n : Int) < 1 := by omega
    go_enter Tryz.func23, Tryz.ntmps23
    go_wp2_with fail
    refine (H1.out _).mono ?_
    rintro e w1 ⟨rfl, hb⟩
    have HA1 := Lib.hid (HA0.out.call hb)
    replace HB0 := Lib.hid (below_then HB0.out hb)
    clear hb
    rw [hh] at HA1
    obtain ⟨a0, a1, _⟩ := HA1.out.two
    go_wp2
    go_ret
    rw [decide_eq_false (by omega)]
    exact ⟨rfl, HB0.out⟩
  have q1 : ¬ (n : Int) < 1 := by omega
  by_cases hn2 : 64 < n
  · have q2 : (64 : Int) < (n : Int) := by omega
    go_enter Tryz.func23, Tryz.ntmps23
    go_wp2_with fail
    refine (H1.out _).mono ?_
    rintro e w1 ⟨rfl, hb⟩
    have HA1 := Lib.hid (HA0.out.call hb)
    replace HB0 := Lib.hid (below_then HB0.out hb)
    clear hb
    rw [hh] at HA1
    obtain ⟨a0, a1, _⟩ := HA1.out.two
    go_wp2
    go_ret
    rw [decide_eq_true (show 1 ≤ n by omega), decide_eq_false (show ¬ n ≤ 64 by omega)]
    exact ⟨rfl, HB0.out⟩
  have q2 : ¬ (64 : Int) < (n : Int) := by omega
  have HY : Hid ((true && (decide (1 ≤ n) && (decide (n ≤ 64) && X))) = X) := by
    show _ = _
    rw [decide_eq_true (show 1 ≤ n by omega), decide_eq_true (show n ≤ 64 by omega)]
    rfl
  rw [HY.out]
  go_enter Tryz.func23, Tryz.ntmps23
  go_wp2_with fail
  refine (H1.out _).mono ?_
  rintro e w1 ⟨rfl, hb⟩
  have HA1 := Lib.hid (HA0.out.call hb)
  have HB1 := Lib.hid (below_then HB0.out hb)
  clear hb
  rw [hh] at HA1
  obtain ⟨a0, a1, _⟩ := HA1.out.two
  go_wp2_with fail
  clear a0 a1 hh
  go_loopw [24] (fun i wr => ∃ k : Nat, k ≤ n ∧ i = .int .i64 k ∧ Hid (X = Src.erasB (es.drop k)) ∧ Hid (At wr h [.string xn, .slice A n c]) ∧ Hid (Below w.heap.size w wr)) (fun i _ => n - (intOf i).toNat)
  case atStart => exact ⟨0, Nat.zero_le _, rfl, HX.out, HA1.out, HB1.out⟩
  case round =>
    obtain ⟨i, hi, rfl, HK, HA, HB⟩ := hrel
    by_cases hlt : i < n
    · have q3 : (0 : Int) ≤ (i : Int) := by omega
      have q4 : (i : Int) < (n : Int) := by omega
      obtain ⟨ad, x, rfl, hab, Hx, HL0⟩ := Ix.reads_cells (enc := Er.E.cells) (m := 13) (fun _ => rfl) HN.out (HR.out.below HB.out) hlt
      have hsm := HS.out x (List.mem_of_getElem? Hx.out)
      have hnx := erasB_next HK.out Hx.out HN.out
      have hC := fun W hw => eraCheck_any x W hw hsm.1 hsm.2
      obtain ⟨q, hq⟩ : ∃ q, Er.chk x = q := ⟨_, rfl⟩
      have hgood : x.good = decide (q = 0) := by unfold Er.E.good; rw [hq]
      simp only [hq] at hC
      rw [hgood] at hnx
      obtain ⟨std, k, sv, ru, fm, en, ⟨y, m, dk, dn, dd, sc, cc⟩⟩ := x
      simp only at hnx
      unfold Er.E.v at hC
      simp only at hC
      have x0 : wr.cell? (ad.add (i * 13)) = some (.int .i64 std) := HL0.out 0 _ rfl
      have x1 : wr.cell? ⟨(ad.add (i * 13)).block, (ad.add (i * 13)).off + 1, none⟩ = some (.int .u8 k) := HL0.out 1 _ rfl
      have x2 : wr.cell? ⟨(ad.add (i * 13)).block, (ad.add (i * 13)).off + 2, none⟩ = some (.int .i64 sv) := HL0.out 2 _ rfl
      have x3 : wr.cell? ⟨(ad.add (i * 13)).block, (ad.add (i * 13)).off + 3, none⟩ = some (.string ru) := HL0.out 3 _ rfl
      have x4 : wr.cell? ⟨(ad.add (i * 13)).block, (ad.add (i * 13)).off + 4, none⟩ = some (.string fm) := HL0.out 4 _ rfl
      have x5 : wr.cell? ⟨(ad.add (i * 13)).block, (ad.add (i * 13)).off + 5, none⟩ = some (.bool en) := HL0.out 5 _ rfl
      have x6 : wr.cell? ⟨(ad.add (i * 13)).block, (ad.add (i * 13)).off + 6, none⟩ = some (.int .i64 y) := HL0.out 6 _ rfl
      have x7 : wr.cell? ⟨(ad.add (i * 13)).block, (ad.add (i * 13)).off + 7, none⟩ = some (.int .i64 m) := HL0.out 7 _ rfl
      have x8 : wr.cell? ⟨(ad.add (i * 13)).block, (ad.add (i * 13)).off + 8, none⟩ = some (.int .u8 dk) := HL0.out 8 _ rfl
      have x9 : wr.cell? ⟨(ad.add (i * 13)).block, (ad.add (i * 13)).off + 9, none⟩ = some (.int .i64 dn) := HL0.out 9 _ rfl
      have x10 : wr.cell? ⟨(ad.add (i * 13)).block, (ad.add (i * 13)).off + 10, none⟩ = some (.int .i64 dd) := HL0.out 10 _ rfl
      have x11 : wr.cell? ⟨(ad.add (i * 13)).block, (ad.add (i * 13)).off + 11, none⟩ = some (.int .i64 sc) := HL0.out 11 _ rfl
      have x12 : wr.cell? ⟨(ad.add (i * 13)).block, (ad.add (i * 13)).off + 12, none⟩ = some (.int .u8 cc) := HL0.out 12 _ rfl
      have HC := Lib.hid hC
      have HNX := Lib.hid hnx
      clear hC hnx hq hgood hsm
      have HA2 := Lib.hid (HA.out.allocO (.cells #[.int .i64 std, .int .u8 k, .int .i64 sv, .string ru, .string fm, .bool en, .int .i64 y, .int .i64 m, .int .u8 dk, .int .i64 dn, .int .i64 dd, .int .i64 sc, .int .u8 cc] 62))
      have HE2 := Lib.hid (At.new wr #[.int .i64 std, .int .u8 k, .int .i64 sv, .string ru, .string fm, .bool en, .int .i64 y, .int .i64 m, .int .u8 dk, .int .i64 dn, .int .i64 dd, .int .i64 sc, .int .u8 cc] 62)
      have HB2 := Lib.hid (HB.out.alloc HB.out.size (.cells #[.int .i64 std, .int .u8 k, .int .i64 sv, .string ru, .string fm, .bool en, .int .i64 y, .int .i64 m, .int .u8 dk, .int .i64 dn, .int .i64 dd, .int .i64 sc, .int .u8 cc] 62))
      obtain ⟨g, hg⟩ : ∃ g, wr.heap.size = g := ⟨_, rfl⟩
      have wn : IntKind.i64.wrap ((n : Int) - 1) = (n : Int) - 1 := IntWalk.i64_in _ (by omega)
      go_wp2_with fail
      refine (HC.out _ (HW.out.below HB2.out)).mono ?_
      rintro e w2 ⟨rfl, hb⟩
      have HA3 := Lib.hid (HA2.out.call hb)
      have HE3 := Lib.hid (HE2.out.call hb)
      have HB3 := Lib.hid (below_then HB2.out hb)
      clear hb HA2 HE2 HB2
      rw [hg] at HE3
      clear hg x0 x1 x2 x3 x4 x5 x6 x7 x8 x9 x10 x11 x12
      by_cases hq0 : q = 0
      · subst hq0
        have e5 := HE3.out.cell 5 _ rfl
        obtain ⟨a0, a1, _⟩ := HA3.out.two
        by_cases hen : en = decide ((i : Int) < (n : Int) - 1)
        · have HQ : Hid (X = Src.erasB (es.drop (i + 1))) := by
            show _ = _
            rw [HNX.out, hen]
            simp
          subst hen
          go_wp2
          go_roundw
          case rel => exact ⟨i + 1, by omega, by go_num, HQ.out, HA3.out, HB3.out⟩
          case measure => simp [intOf]; omega
        · have hne : en = !decide ((i : Int) < (n : Int) - 1) := by
            revert hen
            cases en <;> cases decide ((i : Int) < (n : Int) - 1) <;> simp
          have HQ : Hid (X = false) := by
            show _ = _
            rw [HNX.out, hne]
            cases decide ((i : Int) < (n : Int) - 1) <;> rfl
          subst hne
          clear hen
          go_wp2
          go_ret
          exact ⟨ret_bool HQ.out.symm, HB3.out⟩
      · have e0 : (q == 0) = false := by rw [beq_eq_false_iff_ne]; exact hq0
        have HQ : Hid (X = false) := by
          show _ = _
          rw [HNX.out, decide_eq_false hq0]
          rfl
        have e1 : (q != 0) = true := by simpa using hq0
        clear hq0
        go_wp2
        go_ret
        exact ⟨ret_bool HQ.out.symm, HB3.out⟩
    · have q4 : ¬ (i : Int) < (n : Int) := by omega
      have HE := Lib.hid (erasB_end HK.out (by rw [HN.out]; omega))
      go_wp2
      go_ret
      exact ⟨ret_bool HE.out.symm, HB.out⟩
theorem wrongZone_anyW (z : (Src.Txt × List Er.E) × Value) (w : World) (hW : Wa w) (hr : Src.RowR w w.heap.size 13 z.1.2.length z.2 (z.1.2.flatMap Er.E.cells)) (h1 : z.1.1.length ≤ maxLen) (h2 : ∀ e ∈ z.1.2, e.fm.size ≤ maxLen ∧ e.ru.size ≤ maxLen) :
    Calls Tryz.prog 22 #[Src.zv z] w fun e w' => e = .returned (.bool (!Src.zoneB z.1)) ∧ Below w.heap.size w w' := by
  have hC := fun W (hb : Below w.heap.size w W) => rightZone_anyW z W (hW.below hb) ((hr.below hb).more hb.size) h1 h2
  obtain ⟨v, hv⟩ : ∃ v, Src.zoneB z.1 = v := ⟨_, rfl⟩
  rw [hv]
  simp only [hv] at hC
  obtain ⟨A, c, e, _, _, _⟩ := hr
  obtain ⟨⟨nm, es⟩, ev⟩ := z
  simp only at e
  subst e
  unfold Src.zv at hC ⊢
  simp only at hC ⊢
  obtain ⟨xn, hxn⟩ : ∃ x, Src.bts nm = x := ⟨_, rfl⟩
  rw [hxn]
  simp only [hxn] at hC
  have HC := Lib.hid hC
  have HB := Lib.hid ((Below.refl w.heap.size w).alloc (Nat.le_refl _) (.cells #[.string xn, .slice A es.length c] 53))
  clear hC hW h1 h2 hxn hv
  go_enter Tryz.func22, Tryz.ntmps22
  go_wp2_with fail
  refine (HC.out _ HB.out).mono ?_
  rintro e w1 ⟨rfl, hb⟩
  replace HB := Lib.hid (below_then HB.out hb)
  clear hb
  go_wp2
  go_ret
  exact ⟨rfl, HB.out⟩
/-- No name is too long for a machine. -/
structure Src.SmW (s : Src.S) : Prop where
  rules : ∀ r ∈ s.rules, r.nm.size ≤ maxLen ∧ r.lt.size ≤ maxLen
  zones : ∀ z ∈ s.zones, z.1.length ≤ maxLen ∧ ∀ e ∈ z.2, e.fm.size ≤ maxLen ∧ e.ru.size ≤ maxLen
  links : ∀ k ∈ s.links, k.1.length ≤ maxLen ∧ k.2.length ≤ maxLen
theorem Src.Wide.smw {s : Src.S} (h : Src.Wide s) : Src.SmW s := ⟨fun r hr => (h.rules r hr).2, fun z hz => ⟨(h.zones z hz).1, fun e he => ⟨((h.zones z hz).2 e he).2.2, ((h.zones z hz).2 e he).2.1⟩⟩, h.links⟩
theorem srcCheck_anyW (s : Src.S) (rv zv lv : Value) (evs : List Value) (w : World) (hW : Wa w) (hR : Src.SrcR w w.heap.size s rv zv lv evs) (hL : Src.Lims s) (hS : Src.SmW s) :
    Calls Tryz.prog 9 #[.agg #[rv, zv, lv]] w fun e w' => e = .returned (.int .i64 (if Src.srcB s = true then 0 else 2)) ∧ Below w.heap.size w w' := by
  obtain ⟨rules, zones, links, op⟩ := s
  obtain ⟨⟨rA, rc, rfl, hr1, hr2, hr3⟩, ⟨zA, zc, rfl, hz1, hz2, hz3⟩, ⟨lA, lc, rfl, hl1, hl2, hl3⟩, hlen, hers⟩ := hR
  obtain ⟨L1, L2, L3⟩ := hL
  obtain ⟨S1, S2, S3⟩ := hS
  unfold Src.srcB
  simp only at hr1 hr3 hz1 hz3 hl1 hl3 hlen hers L1 L2 L3 S1 S2 S3 ⊢
  have hC1 : ∀ W, Below w.heap.size w W → _ := fun W hb => has_rule (fun r => !r.good) 20 #[] (enters_of Tryz.func20 (by kernel_rfl) rfl) rA rules.length rc rules W (Nat.le_trans hr1 hr2) rfl ((hr3.below hb).more hb.size)
    (fun W' x hx hbW => by
      rw [show (#[x.v] ++ (#[] : Array Value)) = #[x.v] by simp]
      exact (wrongRule_anyW x W' (S1 x hx).1 (S1 x hx).2).mono fun e w' ⟨h, hb⟩ => ⟨h, hbW.trans (hb.mono hbW.size)⟩)
  have hC2 : ∀ W, Below w.heap.size w W → _ := fun W hb => has_zone (fun p => !Src.zoneB p.1) 22 #[] (enters_of Tryz.func22 (by kernel_rfl) rfl) zA zones.length zc (zones.zip evs) W (Nat.le_trans hz1 hz2) (by simp [hlen]) ((hz3.below hb).more hb.size)
    (fun W' x hx hbW => by
      have hb2 := hb.trans (hbW.mono hb.size)
      rw [show (#[Src.zv x] ++ (#[] : Array Value)) = #[Src.zv x] by simp]
      exact (wrongZone_anyW x W' (hW.below hb2) (((hers x hx).below hb2).more hb2.size) (S2 x.1 (mem_zip hx)).1 (S2 x.1 (mem_zip hx)).2).mono fun e w' ⟨h, hb⟩ => ⟨h, hbW.trans (hb.mono hbW.size)⟩)
  have hC3 : ∀ W, Below w.heap.size w W → _ := fun W hb => has_link (fun p => !Src.linkB p) 24 #[] (enters_of Tryz.func24 (by kernel_rfl) rfl) lA links.length lc links W (Nat.le_trans hl1 hl2) rfl ((hl3.below hb).more hb.size)
    (fun W' x hx hbW => by
      rw [show (#[Src.lv x] ++ (#[] : Array Value)) = #[Src.lv x] by simp]
      exact (wrongLink_anyW x W' (S3 x hx).1 (S3 x hx).2).mono fun e w' ⟨h, hb⟩ => ⟨h, hbW.trans (hb.mono hbW.size)⟩)
  rw [any_not] at hC1 hC3
  rw [any_zip (fun z => !Src.zoneB z) zones evs hlen, any_not] at hC2
  obtain ⟨b1, hb1⟩ : ∃ b, rules.all Ru.R.good = b := ⟨_, rfl⟩
  obtain ⟨b2, hb2⟩ : ∃ b, zones.all Src.zoneB = b := ⟨_, rfl⟩
  obtain ⟨b3, hb3⟩ : ∃ b, links.all Src.linkB = b := ⟨_, rfl⟩
  rw [hb1] at hC1
  rw [hb2] at hC2
  rw [hb3] at hC3
  rw [hb1, hb2, hb3]
  obtain ⟨n1, hn1⟩ : ∃ n, rules.length = n := ⟨_, rfl⟩
  obtain ⟨n2, hn2⟩ : ∃ n, zones.length = n := ⟨_, rfl⟩
  obtain ⟨n3, hn3⟩ : ∃ n, links.length = n := ⟨_, rfl⟩
  rw [hn1] at hC1 L1 ⊢
  rw [hn2] at hC2 L2 ⊢
  rw [hn3] at hC3 L3 ⊢
  have HC1 := Lib.hid hC1
  have HC2 := Lib.hid hC2
  have HC3 := Lib.hid hC3
  clear hC1 hC2 hC3 hb1 hb2 hb3 hn1 hn2 hn3 hr1 hr2 hr3 hz1 hz2 hz3 hl1 hl2 hl3 hlen hers S1 S2 S3 hW
  have q1 : ¬ (4096 : Int) < (n1 : Int) := by omega
  have q2 : ¬ (1024 : Int) < (n2 : Int) := by omega
  have q3 : ¬ (4096 : Int) < (n3 : Int) := by omega
  have HB := Lib.hid ((Below.refl w.heap.size w).alloc (Nat.le_refl _) (.cells #[.slice rA n1 rc, .slice zA n2 zc, .slice lA n3 lc] 26))
  have HA := Lib.hid (At.new w #[.slice rA n1 rc, .slice zA n2 zc, .slice lA n3 lc] 26)
  go_enter Tryz.func9, Tryz.ntmps9
  go_wp2_with fail
  refine (HC1.out _ HB.out).mono ?_
  rintro e w1 ⟨rfl, hb⟩
  have HA1 := Lib.hid (HA.out.call hb)
  replace HB := Lib.hid (below_then HB.out hb)
  clear hb
  obtain ⟨a0, a1, a2, _⟩ := HA1.out.three
  cases b1
  · go_wp2
    go_ret
    exact ⟨rfl, HB.out⟩
  go_wp2_with fail
  refine (HC2.out _ HB.out).mono ?_
  rintro e w2 ⟨rfl, hb⟩
  have HA2 := Lib.hid (HA1.out.call hb)
  replace HB := Lib.hid (below_then HB.out hb)
  clear hb a0 a1 a2
  obtain ⟨a0, a1, a2, _⟩ := HA2.out.three
  cases b2
  · go_wp2
    go_ret
    exact ⟨rfl, HB.out⟩
  go_wp2_with fail
  refine (HC3.out _ HB.out).mono ?_
  rintro e w3 ⟨rfl, hb⟩
  replace HB := Lib.hid (below_then HB.out hb)
  clear hb a0 a1 a2
  cases b3
  · go_wp2
    go_ret
    exact ⟨rfl, HB.out⟩
  · go_wp2
    go_ret
    exact ⟨rfl, HB.out⟩
set_option maxHeartbeats 1000000 in
set_option maxRecDepth 100000 in
theorem srcCheck_many (s : Src.S) (rv zv lv : Value) (evs : List Value) (w : World) (hR : Src.SrcR w w.heap.size s rv zv lv evs) (hL : ¬ Src.Lims s) :
    Calls Tryz.prog 9 #[.agg #[rv, zv, lv]] w fun e w' => e = .returned (.int .i64 2) ∧ Below w.heap.size w w' := by
  obtain ⟨rA, rc, rfl, hr1, hr2, _⟩ := hR.rules
  obtain ⟨zA, zc, rfl, hz1, hz2, _⟩ := hR.zones
  obtain ⟨lA, lc, rfl, hl1, hl2, _⟩ := hR.links
  obtain ⟨nr, hnr⟩ : ∃ n, s.rules.length = n := ⟨_, rfl⟩
  obtain ⟨nz, hnz⟩ : ∃ n, s.zones.length = n := ⟨_, rfl⟩
  obtain ⟨nl, hnl⟩ : ∃ n, s.links.length = n := ⟨_, rfl⟩
  have h3 : 4096 < nr ∨ 1024 < nz ∨ 4096 < nl := by
    rcases Nat.lt_or_ge 4096 nr with h | h
    · exact .inl h
    · rcases Nat.lt_or_ge 1024 nz with h' | h'
      · exact .inr (.inl h')
      · rcases Nat.lt_or_ge 4096 nl with h'' | h''
        · exact .inr (.inr h'')
        · exact absurd ⟨by omega, by omega, by omega⟩ hL
  rw [hnr] at hr1 ⊢
  rw [hnz] at hz1 ⊢
  rw [hnl] at hl1 ⊢
  unfold maxLen at hr2 hz2 hl2
  have HB := Lib.hid ((Below.refl w.heap.size w).alloc (Nat.le_refl _) (.cells #[.slice rA nr rc, .slice zA nz zc, .slice lA nl lc] 26))
  obtain ⟨c0, c1, c2, _⟩ := (At.new w #[.slice rA nr rc, .slice zA nz zc, .slice lA nl lc] 26).three
  clear hR hL hnr hnz hnl
  go_enter Tryz.func9, Tryz.ntmps9
  by_cases q1 : (4096 : Int) < (nr : Int)
  · go_wp2
    go_ret
    exact ⟨rfl, HB.out⟩
  by_cases q2 : (1024 : Int) < (nz : Int)
  · go_wp2
    go_ret
    exact ⟨rfl, HB.out⟩
  by_cases q3 : (4096 : Int) < (nl : Int)
  · go_wp2
    go_ret
    exact ⟨rfl, HB.out⟩
  exfalso
  omega
/-- source.Check, whatever comes in. -/
theorem srcCheck_all (s : Src.S) (rv zv lv : Value) (evs : List Value) (w : World) (hW : Wa w) (hR : Src.SrcR w w.heap.size s rv zv lv evs) (hw : Src.Wide s) :
    Calls Tryz.prog 9 #[.agg #[rv, zv, lv]] w fun e w' => ∃ k, e = .returned (.int .i64 k) ∧ Below w.heap.size w w' ∧ ((k = 0 ∧ Src.Lims s ∧ Src.srcB s = true) ∨ (k = 2 ∧ ¬ (Src.Lims s ∧ Src.srcB s = true))) := by
  by_cases hL : Src.Lims s
  · refine (srcCheck_anyW s rv zv lv evs w hW hR hL hw.smw).mono fun e w' ⟨he, hb⟩ => ?_
    cases hB : Src.srcB s with
    | true => rw [hB, if_pos rfl] at he; exact ⟨0, he, hb, .inl ⟨rfl, hL, rfl⟩⟩
    | false => rw [hB, if_neg (by decide)] at he; exact ⟨2, he, hb, .inr ⟨rfl, fun h => by cases h.2⟩⟩
  · exact (srcCheck_many s rv zv lv evs w hR hL).mono fun e w' ⟨he, hb⟩ => ⟨2, he, hb, .inr ⟨rfl, fun h => hL h.1⟩⟩
end Go.Proofs.YtlhoggalhjadgaaGreatDoor
