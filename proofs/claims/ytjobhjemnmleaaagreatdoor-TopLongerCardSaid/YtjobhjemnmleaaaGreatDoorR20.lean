/- The walk of finder.find. -/
import Derived.Test.YtjobhjemnmleaaaGreatDoorR13
set_option maxRecDepth 100000
set_option maxHeartbeats 16000000
namespace Go.Proofs.YtjobhjemnmleaaaGreatDoor
open Go.RowKit
theorem zero_found (W:World):(zeroValue 146).run Tryz.prog W=.ok (.agg #[.int .i64 0,.int .i64 0]) W:=by kernel_rfl
theorem zero_int (W:World):(zeroValue 3).run Tryz.prog W=.ok (.int .i64 0) W:=by kernel_rfl
theorem look_kf (w:World){ops:Array Oper}{rest:List Oper}{o:Oper}{a:Act}{Q:Exit→Act→World→Prop}(hg:o.guard=none)(m x:Operand)(b n:Nat)(K:Lk.Kn)(s:ByteArray)(hs:s.size≤maxLen)(hop:o.op=Op.lookup 214 m x true)
  (hm:a.eval m=.map (some b)) (hx:a.eval x=.string s) (h:MapF Tryz.prog 9 w b n (Lk.kf K))
  (hK:wpList Tryz.prog ops Q rest (a.put o.dst (.tuple #[.agg #[.int .i64 ((K s).getD (0,0)).1,.int .i64 ((K s).getD (0,0)).2],.bool (K s).isSome])) w):wpList Tryz.prog ops Q (o :: rest) a w:=by
 refine wpList_look_ok w hg m x 214 9 146 hop Tryz.underlying9 Tryz.underlying214 zero_found b n (Lk.kf K) s hs hm hx h ?_;have e1:(Lk.kf K s).getD (.agg #[.int .i64 0,.int .i64 0])=.agg #[.int .i64 ((K s).getD (0,0)).1,.int .i64 ((K s).getD (0,0)).2]:=by
  unfold Lk.kf;cases K s <;> rfl
 have e2:(Lk.kf K s).isSome=(K s).isSome:=by
  unfold Lk.kf;cases K s <;> rfl
 rw[e1,e2];exact hK
theorem look_pl_yes (w:World){ops:Array Oper}{rest:List Oper}{o:Oper}{a:Act}{Q:Exit→Act→World→Prop}(hg:o.guard=none)(m x:Operand)(b n:Nat)(ns:List ByteArray)(s:ByteArray)(hs:s.size≤maxLen)(i:Nat)(hi:Lk.first ns s=some i)(hop:o.op=Op.lookup 166 m x true)
  (hm:a.eval m=.map (some b)) (hx:a.eval x=.string s) (h:MapF Tryz.prog 9 w b n (Lk.places ns))
  (hK:wpList Tryz.prog ops Q rest (a.put o.dst (.tuple #[.int .i64 (i:Int),.bool true])) w):wpList Tryz.prog ops Q (o :: rest) a w:=
 wpList_look_yes w hg m x 166 9 3 hop Tryz.underlying9 Tryz.underlying166 zero_int b n _ s hs hm hx h (.int .i64 (i:Int)) (by unfold Lk.places;rw[hi];rfl) hK
theorem look_pl_no (w:World){ops:Array Oper}{rest:List Oper}{o:Oper}{a:Act}{Q:Exit→Act→World→Prop}(hg:o.guard=none)(m x:Operand)(b n:Nat)(ns:List ByteArray)(s:ByteArray)(hs:s.size≤maxLen)(hi:Lk.first ns s=none)(hop:o.op=Op.lookup 166 m x true)
  (hm:a.eval m=.map (some b)) (hx:a.eval x=.string s) (h:MapF Tryz.prog 9 w b n (Lk.places ns))
  (hK:wpList Tryz.prog ops Q rest (a.put o.dst (.tuple #[.int .i64 0,.bool false])) w):wpList Tryz.prog ops Q (o :: rest) a w:=
 wpList_look_no w hg m x 166 9 3 hop Tryz.underlying9 Tryz.underlying166 zero_int b n _ s hs hm hx h (by unfold Lk.places;rw[hi];rfl) hK
theorem store_kf (w:World){ops:Array Oper}{rest:List Oper}{o:Oper}{a:Act}{Q:Exit→Act→World→Prop}(hg:o.guard=none)(m x v:Operand)(b n:Nat)(K:Lk.Kn)(s:ByteArray)(hs:s.size≤maxLen)(hn:n<maxLen)(e:Lk.Fd)(hop:o.op=Op.mapUpdate 214 m x v)
  (hm:a.eval m=.map (some b)) (hx:a.eval x=.string s) (hv:a.eval v=.agg #[.int .i64 e.1,.int .i64 e.2]) (h:MapF Tryz.prog 9 w b n (Lk.kf K))
  (hK:∀w',MapF Tryz.prog 9 w' b (n+1) (Lk.kf (Lk.mark K s e))→w.grownBy w' (some b)→wpList Tryz.prog ops Q rest (a.put o.dst undef) w'):wpList Tryz.prog ops Q (o :: rest) a w:=by
 refine wpList_store w hg m x v 214 9 146 hop Tryz.underlying9 Tryz.underlying214 b n (Lk.kf K) s hs hn _ hm hx hv h ?_;intro w' hM hg';rw[Lk.kf_put] at hM;exact hK w' hM hg'
theorem find_any (s : Src.S) (lv : Value) (g bz bl bk n : Nat) (K : Lk.Kn) (x : ByteArray) (w : World) (hF : Lk.Fr s lv w g bz bl bk n (Lk.kf K)) (hR : Src.RowR w w.heap.size 2 s.links.length lv (s.links.flatMap Src.lc))
    (hl : s.links.length ≤ 1000000) (hn : n ≤ 1000000) (hx : x.size ≤ maxLen) (hsz : ∀ k ∈ s.links, k.1.length ≤ maxLen) :
    Calls Tryz.prog 63 #[.pointer (some ⟨g, 0, none⟩), .string x] w (Lk.FdR s lv g bz bl bk n K (Lk.find (Lk.zn s) (Lk.ln s) (Lk.tg s) (s.links.length + 1) K x) w) := by
  obtain ⟨hg, hz, hlm, hk, ne1, ne2⟩ := hF;obtain ⟨lA, lc, rfl, _, _, hrl⟩ := hR;obtain ⟨h, hh⟩ : ∃ h, w.heap.size = h := ⟨_, rfl⟩
  have hgm := hg.ne_map hk;have hgl := hg.lt;have hkl := hk.lt;have HGS : Hid (∀ W, w.grownBy W (some bk) → (W.cell? ⟨g, 0, none⟩ = some (.slice lA s.links.length lc) ∧ W.cell? ⟨g, 1, none⟩ = some (.map (some bz)) ∧ W.cell? ⟨g, 2, none⟩ = some (.map (some bl)) ∧ W.cell? ⟨g, 3, none⟩ = some (.map (some bk))) ∧
      MapF Tryz.prog 9 W bz s.zones.length (Lk.places (Lk.zn s)) ∧ MapF Tryz.prog 9 W bl s.links.length (Lk.places (Lk.ln s))) := fun W hgb =>
    ⟨⟨hk.keeps hgb (hg.cell 0 _ rfl), hk.keeps hgb (hg.cell 1 _ rfl), hk.keeps hgb (hg.cell 2 _ rfl), hk.keeps hgb (hg.cell 3 _ rfl)⟩, hz.kept hgb (fun e => by cases e; exact ne1 rfl), hlm.kept hgb (fun e => by cases e; exact ne2 rfl)⟩
  have HG := Lib.hid hg;have HZ := Lib.hid hz;have HLm := Lib.hid hlm;have HRl := Lib.hid hrl;have HK0 := Lib.hid hk;have HSz := Lib.hid hsz;obtain ⟨g0, g1, g2, g3⟩ := (HGS.out w (World.grownBy.refl w _)).1;have g3' : (w.alloc (.cells #[.int .i64 0, .int .i64 0] 146)).cell? ⟨g, 3, none⟩ = some (.map (some bk)) := (World.cell?_alloc_lt w _ ⟨g, 3, none⟩ hgl).trans g3;have hk1 := hk.alloc (.cells #[.int .i64 0, .int .i64 0] 146);obtain ⟨p0, hp0⟩ : ∃ p, (K x).getD (0, 0) = p := ⟨_, rfl⟩
  have HP0 := Lib.hid hp0;obtain ⟨R, hR⟩ : ∃ R, Lk.find (Lk.zn s) (Lk.ln s) (Lk.tg s) (s.links.length + 1) K x = R := ⟨_, rfl⟩
  have HRR := Lib.hid hR;rw [hR];have hA5 := (At.new w #[.int .i64 0, .int .i64 0] 146).allocO (.cells #[.int .i64 p0.1, .int .i64 p0.2] 146);have hA7 := At.new (w.alloc (.cells #[.int .i64 0, .int .i64 0] 146)) #[.int .i64 p0.1, .int .i64 p0.2] 146;rw [World.size_alloc] at hA7;rw [hh] at hA5 hA7;have hM7 := hk1.alloc (.cells #[.int .i64 p0.1, .int .i64 p0.2] 146);have hG7 := gb_alloc (gb_alloc (World.grownBy.refl w (some bk)) (.cells #[.int .i64 0, .int .i64 0] 146)) (.cells #[.int .i64 p0.1, .int .i64 p0.2] 146);have HA5 := Lib.hid hA5;have HA7 := Lib.hid hA7;have HM7 := Lib.hid hM7;have HG7 := Lib.hid hG7;have HK1 := Lib.hid hk1;clear hg hz hlm hrl hsz hR hA5 hA7 hM7 hG7 hk1 g0 g1 g2 g3 hk;go_enter Tryz.func63, Tryz.ntmps63
  go_upto_block 0 with (first | (at_lookup; refine look_kf _ rfl _ _ bk n K x hx rfl rfl rfl HK1.out ?_))
  go_cut [6] (fun v wx => Lk.FEnd s w h bk n K R v wx)
  case first =>
    have hne : ∀ g', (Value.slice none 0 0 : Value).ownBlock = some g' → g' ≠ h ∧ g' ≠ h + 1 := fun g' e => by cases e
    go_wp2;go_loopw [1, 6, 8] (fun y v b wr => Lk.FAt s w h bk n K x y v b wr) (fun _ v _ _ => s.links.length + 2 - nameLen v)
    case atStart =>
      refine ⟨⟨x, [], s.links.length + 1, rfl, hx, by simp, List.nodup_nil, (fun d hd => by cases hd), World.ownsRow_nil _ _ _ _, ?_, ?_, ?_, ?_⟩, HA5.out, hne, HG7.out⟩
      · rw [Lk.marks_nil]
        rfl
      · rw [Lk.marks_nil]
      · rw [Lk.marks_nil, HP0.out]
        exact HA7.out
      · rw [Lk.marks_nil]
        exact HM7.out
    case round =>
      obtain ⟨⟨name, done, f, rfl, hns, hf, hnd, hin, hO, hEq, rfl, hE, hM⟩, hRes, hOwn, hGb⟩ := hrel;have hdl : done.length ≤ s.links.length := by
        have h1 := Lk.nodup_len done (Lk.ln s) hnd hin;unfold Lk.ln at h1;simpa using h1
      obtain ⟨f, rfl⟩ : ∃ f', f = f' + 1 := ⟨f - 1, by omega⟩
      rw [HRR.out] at hEq;cases hKn : Lk.marks K done Lk.loop name with
      | some e0 =>
        have hfin : Lk.find (Lk.zn s) (Lk.ln s) (Lk.tg s) (f + 1) (Lk.marks K done Lk.loop) name = ([], e0) := by rw [Lk.find, hKn]
        rw [hfin, List.append_nil] at hEq;rw [hKn] at hE;have HEnd := Lib.hid (show Lk.FEnd s w h bk n K R u6 wr from by
          rw [hEq];exact ⟨hO, hE, hM, hRes, hOwn, hGb⟩)
        clear hfin hEq hE hO hM hRes hOwn hGb hKn hnd hin;simp only [Option.isSome_some];go_wp2;go_meet
        exact HEnd.out
      | none =>
        rw [hKn] at hE;simp only [Option.isSome_none, Option.getD_none] at hE ⊢;have hnot : name ∉ done := fun hm => by
          rw [Lk.marks_in hm] at hKn;cases hKn
        have hgk := fun W hgb => HGS.out W hgb
        have hkw : bk < w.heap.size := hkl;have hsz1 := hGb.size;have hrow : ∀ j, u6.ownBlock = some j → w.heap.size ≤ j ∨ some bk = some j := fun j e => .inl (hO.lt j e).1
        have hbn : n + done.length < maxLen := by unfold maxLen; omega
        have hdl6 : done.length ≤ 2000000 := by omega
        have hmk := Lk.marks_snoc K done name Lk.loop;cases hzi : Lk.first (Lk.zn s) name with
        | some i =>
          have hfin : Lk.find (Lk.zn s) (Lk.ln s) (Lk.tg s) (f + 1) (Lk.marks K done Lk.loop) name = ([name], ((i : Int), 0)) := by rw [Lk.find, hKn]; simp only [hzi]
          rw [hfin] at hEq;have hne7 : some (h + 1) ≠ some bk := fun e => by injection e with e; omega
          have hne5 : some h ≠ some bk := fun e => by injection e with e; omega
          go_wp2_with (first | (at_builtin; refine name_append wr w.heap.size done.length _ u6 name 26 28 hO hdl6 hsz1 rfl rfl rfl rfl ?_; intro v9 w9 hown9 hb9 hat9 hg9; have gba := gb_then (gb_alloc hGb (.cells #[.string name] 9)) hg9 (fun j e => .inl (hO.lt j e).1); have gsa := HGS.out w9 gba; obtain ⟨⟨k0a, k1a, k2a, k3a⟩, kza, kla⟩ := gsa; have hMa := (hM.alloc (.cells #[.string name] 9)).kept hg9 (fun e => by have := (hO.lt bk e.symm).1; omega); obtain ⟨hEa, hva⟩ := hat9 (h + 1) _ hE (fun e => (hOwn _ e).2 rfl); obtain ⟨hRa, hvb⟩ := hat9 h _ hRes (fun e => (hOwn _ e).1 rfl)) | (at_mapUpdate; refine store_kf _ rfl _ _ _ bk _ _ name hns hbn Lk.loop rfl rfl rfl rfl hMa ?_; intro w10 hMb hg10; have gbb := gb_then gba hg10 (fun j e => .inr e); have gsb := HGS.out w10 gbb; obtain ⟨⟨k0b, k1b, k2b, k3b⟩, kzb, klb⟩ := gsb; have hEb := Lk.at_kept hEa hg10 hne7; have hRb := Lk.at_kept hRa hg10 hne5; have hOb := hown9.kept hg10 (.inr (fun e => by have := (hown9.lt bk e).1; omega)); obtain ⟨e0b, e1b, f0b, f1b⟩ := hEb.two) | (at_lookup; refine look_pl_yes _ rfl _ _ bz _ _ name hns i hzi rfl rfl rfl kzb ?_))
          go_meet
          exact Lk.fend (e := ((i : Int), 0)) hh hkl hEq.symm hOb hMb hEb hRb hva hvb gbb
        | none =>
          cases hlj : Lk.first (Lk.ln s) name with
          | none =>
            have hfin : Lk.find (Lk.zn s) (Lk.ln s) (Lk.tg s) (f + 1) (Lk.marks K done Lk.loop) name = ([name], Lk.gone) := by rw [Lk.find, hKn]; simp only [hzi, hlj]
            rw [hfin] at hEq;have hne7 : some (h + 1) ≠ some bk := fun e => by injection e with e; omega
            have hne5 : some h ≠ some bk := fun e => by injection e with e; omega
            go_wp2_with (first | (at_builtin; refine name_append wr w.heap.size done.length _ u6 name 26 28 hO hdl6 hsz1 rfl rfl rfl rfl ?_; intro v9 w9 hown9 hb9 hat9 hg9; have gba := gb_then (gb_alloc hGb (.cells #[.string name] 9)) hg9 (fun j e => .inl (hO.lt j e).1); have gsa := HGS.out w9 gba; obtain ⟨⟨k0a, k1a, k2a, k3a⟩, kza, kla⟩ := gsa; have hMa := (hM.alloc (.cells #[.string name] 9)).kept hg9 (fun e => by have := (hO.lt bk e.symm).1; omega); obtain ⟨hEa, hva⟩ := hat9 (h + 1) _ hE (fun e => (hOwn _ e).2 rfl); obtain ⟨hRa, hvb⟩ := hat9 h _ hRes (fun e => (hOwn _ e).1 rfl)) | (at_mapUpdate; refine store_kf _ rfl _ _ _ bk _ _ name hns hbn Lk.loop rfl rfl rfl rfl hMa ?_; intro w10 hMb hg10; have gbb := gb_then gba hg10 (fun j e => .inr e); have gsb := HGS.out w10 gbb; obtain ⟨⟨k0b, k1b, k2b, k3b⟩, kzb, klb⟩ := gsb; have hEb := Lk.at_kept hEa hg10 hne7; have hRb := Lk.at_kept hRa hg10 hne5; have hOb := hown9.kept hg10 (.inr (fun e => by have := (hown9.lt bk e).1; omega)); obtain ⟨e0b, e1b, f0b, f1b⟩ := hEb.two) | (at_lookup; refine look_pl_no _ rfl _ _ bz _ _ name hns hzi rfl rfl rfl kzb ?_) | (at_lookup; refine look_pl_no _ rfl _ _ bl _ _ name hns hlj rfl rfl rfl klb ?_))
            go_meet
            exact Lk.fend (e := Lk.gone) hh hkl hEq.symm hOb hMb hEb hRb hva hvb gbb
          | some j =>
            have hjl : j < s.links.length := by
              have h1 := Lk.first_lt hlj;unfold Lk.ln at h1;simpa using h1
            obtain ⟨adl, xl, rfl, hab, Hx, HL⟩ := Ix.reads_cells (enc := Src.lc) (m := 2) (fun _ => rfl) rfl HRl.out hjl;have htg : (Lk.tg s).getD j ⟨#[]⟩ = Src.bts xl.1 := by
              unfold Lk.tg;rw [List.getD, List.getElem?_map, Hx.out];rfl
            have hts : (Src.bts xl.1).size ≤ maxLen := HSz.out xl (List.mem_of_getElem? Hx.out);have hfin : Lk.find (Lk.zn s) (Lk.ln s) (Lk.tg s) (f + 1) (Lk.marks K done Lk.loop) name = (name :: (Lk.find (Lk.zn s) (Lk.ln s) (Lk.tg s) f (Lk.marks K (done ++ [name]) Lk.loop) (Src.bts xl.1)).1, (Lk.find (Lk.zn s) (Lk.ln s) (Lk.tg s) f (Lk.marks K (done ++ [name]) Lk.loop) (Src.bts xl.1)).2) := by
              rw [Lk.find, hKn];simp only [hzi, hlj];rw [htg, hmk]
            rw [hfin] at hEq;have hcw : w.cell? (adl.add (j * 2)) = some (.string (Src.bts xl.1)) := HL.out 0 _ rfl;obtain ⟨tt, htt⟩ : ∃ t, Src.bts xl.1 = t := ⟨_, rfl⟩
            rw [htt] at hcw hts hEq;obtain ⟨p1, hp1⟩ : ∃ p, (Lk.mark (Lk.marks K done Lk.loop) name Lk.loop tt).getD (0, 0) = p := ⟨_, rfl⟩
            obtain ⟨b1, hb1⟩ : ∃ b, (Lk.mark (Lk.marks K done Lk.loop) name Lk.loop tt).isSome = b := ⟨_, rfl⟩
            have hln : name ∈ Lk.ln s := List.mem_of_getElem? (Lk.first_some hlj);have qj1 : (0 : Int) ≤ (j : Int) := by omega
            have qj2 : (j : Int) < (s.links.length : Int) := by omega
            have HEq := Lib.hid hEq;have HNd := Lib.hid (And.intro hnd (And.intro hin (And.intro hnot hln)));have HMk := Lib.hid hmk;have HF := Lib.hid hf;have HKw := Lib.hid hkw;have hne7 : some (h + 1) ≠ some bk := fun e => by injection e with e; omega
            have hne5 : some h ≠ some bk := fun e => by injection e with e; omega
            clear hfin hEq hKn hnd hin hnot hln htg htt Hx HL hmk hf;go_wp2_with (first | (at_builtin; refine name_append wr w.heap.size done.length _ u6 name 26 28 hO hdl6 hsz1 rfl rfl rfl rfl ?_; intro v9 w9 hown9 hb9 hat9 hg9; have gba := gb_then (gb_alloc hGb (.cells #[.string name] 9)) hg9 (fun j e => .inl (hO.lt j e).1); have gsa := HGS.out w9 gba; obtain ⟨⟨k0a, k1a, k2a, k3a⟩, kza, kla⟩ := gsa; have hMa := (hM.alloc (.cells #[.string name] 9)).kept hg9 (fun e => by have := (hO.lt bk e.symm).1; omega); obtain ⟨hEa, hva⟩ := hat9 (h + 1) _ hE (fun e => (hOwn _ e).2 rfl); obtain ⟨hRa, hvb⟩ := hat9 h _ hRes (fun e => (hOwn _ e).1 rfl)) | (at_mapUpdate; refine store_kf _ rfl _ _ _ bk _ _ name hns hbn Lk.loop rfl rfl rfl rfl hMa ?_; intro w10 hMb hg10; have gbb := gb_then gba hg10 (fun j e => .inr e); have gsb := HGS.out w10 gbb; obtain ⟨⟨k0b, k1b, k2b, k3b⟩, kzb, klb⟩ := gsb; have hEb := Lk.at_kept hEa hg10 hne7; have hRb := Lk.at_kept hRa hg10 hne5; have hOb := hown9.kept hg10 (.inr (fun e => by have := (hown9.lt bk e).1; omega)); obtain ⟨e0b, e1b, f0b, f1b⟩ := hEb.two) | (at_lookup; refine look_pl_no _ rfl _ _ bz _ _ name hns hzi rfl rfl rfl kzb ?_) | (at_lookup; refine look_pl_yes _ rfl _ _ bl _ _ name hns j hlj rfl rfl rfl klb ?_; have hcb := HK0.out.keeps gbb hcw) | (at_lookup; refine look_kf _ rfl _ _ bk _ _ tt hts rfl rfl rfl hMb ?_))
            go_roundw
            case rel =>
              have F := Lk.fend (s := s) (e := p1) (R := (done ++ [name], p1)) hh hkl rfl hOb hMb hEb hRb hva hvb gbb;obtain ⟨hnd, hin, hnot, hln⟩ := HNd.out;refine ⟨⟨tt, done ++ [name], f, rfl, hts, by have := HF.out; rw [List.length_append, List.length_singleton]; omega, ?_, ?_, F.row, ?_, ?_, ?_, F.map⟩, F.res, F.own, F.gb⟩
              · rw [List.nodup_append]
                exact ⟨hnd, by simp, fun a ha b hb e => hnot (by have : b = name := by simpa using hb
                                                                 rw [← this, ← e]; exact ha)⟩
              · intro d hd
                rcases List.mem_append.1 hd with hd | hd
                · exact hin d hd
                · have : d = name := by simpa using hd
                  rw [this];exact hln
              · rw [HRR.out, HEq.out, List.append_assoc]
                rfl
              · rw [← HMk.out, hb1]
              · rw [← HMk.out, hp1]
                exact F.end_
            case measure =>
              rw [nameLen_own hOb, nameLen_own hO];omega
  case rest =>
  as_aux_lemma =>
    obtain ⟨hRow, hE, hM, hRs, hOw, hGb⟩ := hcut;obtain ⟨A, c, rfl, hcm⟩ := own_slice hRow;obtain ⟨L, hL⟩ : ∃ L, R.1.length = L := ⟨_, rfl⟩
    rw [hL] at hRow hM ⊢;have hL2 : L ≤ s.links.length + 1 := by
      have h1 := Lk.find_len (Lk.zn s) (Lk.ln s) (Lk.tg s) (s.links.length + 1) K x;rw [HRR.out, hL] at h1;exact h1
    have hRz : ∀ y ∈ R.1, y.size ≤ maxLen := by
      have h1 := Lk.find_size (Lk.zn s) (Lk.ln s) (Lk.tg s) (s.links.length + 1) K x hx (fun y hy => by
        unfold Lk.tg at hy;obtain ⟨k, hk, rfl⟩ := List.mem_map.1 hy;exact HSz.out k hk)
      rwa [HRR.out] at h1
    have HL := Lib.hid hL;have HRow := Lib.hid hRow;have HE := Lib.hid hE;have HRs := Lib.hid hRs;have HOw := Lib.hid hOw;have HRz := Lib.hid hRz;have HM0 := Lib.hid hM;have HGb := Lib.hid hGb;clear hRow hE hM hRs hOw hGb hRz hL;go_wp2;go_loopw [79] (fun i wr => Lk.SAt s w h bk n K R A L c i wr) (fun i _ => L - (intOf i).toNat)
    case atStart => exact ⟨⟨0, Nat.zero_le _, rfl, by rw [List.take_zero, Lk.marks_nil]; exact HM0.out⟩, HRow.out, HE.out, HRs.out, HGb.out⟩
    case round =>
      obtain ⟨⟨k, hk, rfl, hM⟩, hRow, hE, hRs, hGb⟩ := hrel
      by_cases hlt : k < L
      · obtain ⟨nm, hnm⟩ : ∃ y, R.1[k]? = some y := ⟨_, List.getElem?_eq_getElem (by rw [HL.out]; exact hlt)⟩
        have hns := HRz.out nm (List.mem_of_getElem? hnm);obtain ⟨ad, u, rfl, hab, hu, hcu⟩ := (Reads.of_own hRow).at_ hlt;have hu2 : u = .string nm := by
          rw [List.getElem?_map, hnm] at hu;exact (Option.some.inj hu).symm
        rw [hu2] at hcu;have q1 : (0 : Int) ≤ (k : Int) := by omega
        have q2 : (k : Int) < (L : Int) := by omega
        have htk : R.1.take (k + 1) = R.1.take k ++ [nm] := by rw [List.take_add_one, hnm]; rfl
        have hbn : n + L + k < maxLen := by unfold maxLen; omega
        obtain ⟨w2, hrun, hM2, hg2⟩ := store_run (show MapF Tryz.prog 9 wr.drew bk (n + L + k) _ from hM) hns hbn R.2;rw [Lk.marks_snoc, ← htk] at hM2;have hne7 : some (h + 1) ≠ some bk := fun e => by injection e with e; omega
        have hne5 : some h ≠ some bk := fun e => by injection e with e; omega
        have gs := (HGS.out wr hGb).1;obtain ⟨k0, k1, k2, k3⟩ := gs;obtain ⟨e0, e1, _⟩ := hE.two;have HN : Hid (Lk.SAt s w h bk n K R (some ad) L c (.int .i64 ((k : Int) + 1)) w2) := by
          have hg3 : wr.grownBy w2 (some bk) := ⟨hg2.os, hg2.tape, hg2.output, hg2.size, hg2.block⟩
          exact ⟨⟨k + 1, by omega, by simp, hM2⟩, hRow.kept hg3 (.inr (fun e => by have := (hRow.lt bk e).1; omega)), Lk.at_kept hE hg3 hne7, Lk.at_kept hRs hg3 hne5, gb_then hGb hg3 (fun j e => .inr e)⟩
        clear hM hRow hE hRs hGb hu hu2 hnm htk hM2 hg2;go_wp2;go_region
        all_goals
          go_wp2;go_roundw
          case rel => exact HN.out
          case measure => simp [intOf]; omega
      · have hkL : k = L := by omega
        subst hkL;have q2 : ¬ (k : Int) < (k : Int) := by omega
        obtain ⟨e0, e1, _⟩ := hE.two;obtain ⟨r0, r1, f0, f1⟩ := hRs.two;have hMf := hM;rw [List.take_of_length_le (by rw [HL.out]; exact Nat.le_refl _), Lk.marks_twice] at hMf;have HFin : Hid (∀ W, W = ((wr.setCell ⟨h, 0, none⟩ (.int .i64 R.2.1)).setCell ⟨h, 1, none⟩ (.int .i64 R.2.2)).drew → Lk.FdR s (.slice lA s.links.length lc) g bz bl bk n K R w (.returned (.tuple #[.slice A R.1.length c, .agg #[.int .i64 R.2.1, .int .i64 R.2.2]])) W) := by
          rintro W rfl;have hgb := gb_drew (gb_set (gb_set hGb (p := ⟨h, 0, none⟩) (by show w.heap.size ≤ h; omega) (.int .i64 R.2.1)) (p := ⟨h, 1, none⟩) (by show w.heap.size ≤ h; omega) (.int .i64 R.2.2));have gs := HGS.out _ hgb;have hMe := (hMf.setCell (a := ⟨h, 0, none⟩) (by show bk ≠ h; omega) (.int .i64 R.2.1)).setCell (a := ⟨h, 1, none⟩) (by show bk ≠ h; omega) (.int .i64 R.2.2);have hAg := Lk.at_kept2 HG.out HK0.out hgb
          have hRd := Reads.of_own (ownsRow_setCell_other (ownsRow_setCell_other hRow (a := ⟨h, 0, none⟩) (fun e => (HOw.out h (by rw [HL.out]; exact e)).1 rfl) (.int .i64 R.2.1)) (a := ⟨h, 1, none⟩) (fun e => (HOw.out h (by rw [HL.out]; exact e)).1 rfl) (.int .i64 R.2.2));refine ⟨⟨A, c, rfl, ?_⟩, ⟨hAg, gs.2.1, gs.2.2, ?_, ne1, ne2⟩, hgb⟩
          · rw [HL.out]
            exact hRd
          · rw [HL.out]
            exact hMe
        have hLe := HL.out;clear hM hMf hRow hE hRs hGb;go_wp2;go_region
        all_goals
          go_wp2;refine bodyPost_ret (v := .tuple #[.slice A k c, .agg #[.int .i64 R.2.1, .int .i64 R.2.2]]) (by simp [results, Tryz.results63, go_sem, *]) rfl ?_;rw [← hLe];exact HFin.out _ rfl
namespace Lk
def walk (s:Src.S)(x:ByteArray):List ByteArray × Fd:=find (zn s) (ln s) (tg s) (s.links.length+1) (fun _=>none) x
theorem walk_zone {s:Src.S}{x:ByteArray}{i:Nat}(h:first (zn s) x=some i):walk s x=([x],((i:Int),0)):=by
 unfold walk find;simp only[h]
structure Nm (s:Src.S):Prop where
 nz:s.zones.length≤1000000
 nl:s.links.length≤1000000
 z:∀z∈s.zones,z.1.length≤maxLen
 l:∀k∈s.links,k.1.length≤maxLen∧k.2.length≤maxLen
theorem Nm.zn {s:Src.S}(h:Nm s):∀x∈Lk.zn s,x.size≤maxLen:=by
 intro x hx;unfold Lk.zn at hx;obtain⟨z,hz,rfl⟩:=List.mem_map.1 hx;exact h.z z hz
theorem Nm.ln {s:Src.S}(h:Nm s):∀x∈Lk.ln s,x.size≤maxLen:=by
 intro x hx;unfold Lk.ln at hx;obtain⟨k,hk,rfl⟩:=List.mem_map.1 hx;exact(h.l k hk).2
end Lk
theorem below_gb {a b c:World}{r:Nat}(h:Below a.heap.size a b)(k:b.grownBy c (some r))(hr:a.heap.size≤r):Below a.heap.size a c:=
 h.grown k h.size (fun j e=>by cases e;exact hr)
theorem chain_tail (s:Src.S)(rv zv lv:Value)(evs:List Value)(x:ByteArray)(hN:Lk.Nm s)(hx:x.size≤maxLen)(w:World)(hR:Src.SrcR w w.heap.size s rv zv lv evs)(g bz bl bk:Nat)(w':World)(hb:Below w.heap.size w w')(hF:Lk.Fr s lv w' g bz bl bk 0 (fun _=>none))(hbk:w.heap.size≤bk):
  Calls Tryz.prog 63 #[.pointer (some ⟨g,0,none⟩),.string x] w' fun e w2=>(∃A c,e=.returned (.tuple #[.slice A (Lk.walk s x).1.length c,.agg #[.int .i64 (Lk.walk s x).2.1,.int .i64 (Lk.walk s x).2.2]])∧Reads w2 w2.heap.size 1 A (Lk.walk s x).1.length ((Lk.walk s x).1.map Value.string))∧Below w.heap.size w w2:=by
 refine(find_any s lv g bz bl bk 0 (fun _=>none) x w' hF (hR.links.below hb |>.more hb.size) hN.nl (by omega) hx (fun k hk=>(hN.l k hk).1)).mono ?_;rintro e w2 ⟨h1,h2,h3⟩;exact⟨h1,below_gb hb h3 hbk⟩
def Lk.ZAt (s:Src.S)(w:World)(h:Nat)(rv zv lv:Value)(x:ByteArray)(i:Value)(wr:World):Prop:=
 ∃k:Nat,k≤s.zones.length∧i=.int .i64 k∧Hid (x∉(Lk.zn s).take k)∧Hid (At wr h [rv,zv,lv])∧Hid (Below w.heap.size w wr)
theorem first_take {l:List ByteArray}{x:ByteArray}:∀{k:Nat},x∉l.take k→l[k]?=some x→Lk.first l x=some k:=by
 induction l with
 |nil=>intro k _ h;simp at h
 |cons y l ih=>
  intro k hn h;unfold Lk.first;cases k with
  |zero=>
   have:y=x:=by simpa using h
   rw[if_pos this]
  |succ k=>
   rw[List.take_succ_cons,List.mem_cons,not_or] at hn;rw[if_neg (fun e=>hn.1 e.symm),ih hn.2 (by simpa using h)];rfl
theorem linkZone_any (s:Src.S)(rv zv lv:Value)(evs:List Value)(x:ByteArray)(w:World)(hR:Src.SrcR w w.heap.size s rv zv lv evs)(hN:Lk.Nm s)(hx:x.size≤maxLen):
  Calls Tryz.prog 21 #[.agg #[rv,zv,lv],.string x] w fun e w'=>e=.returned (.tuple #[.int .i64 (Lk.walk s x).2.1,.int .i64 (Lk.walk s x).2.2])∧Below w.heap.size w w':=by
 have hOf:=fun W hR=>linkOf_any s rv zv lv evs W hR ⟨hN.nz,hN.nl⟩ hN.zn hN.ln
 obtain⟨X,hX⟩:=aj (Lk.walk s x)
 have hfd:=fun W hR g bz bl bk W' hb hF hbk=>chain_tail s rv zv lv evs x hN hx W hR g bz bl bk W' hb hF hbk
 have hzn:=fun i hi=>Lk.walk_zone (s:=s) (x:=x) (i:=i) hi
 rw[hX] at hfd ⊢;simp only[hX] at hzn;have hlen:(s.zones.zip evs).length=s.zones.length:=by rw[List.length_zip,hR.len];omega
 have hers:=hR.eras;have hA0:=At.new w #[rv,zv,lv] 26;have hB0:=(Below.refl w.heap.size w).alloc (Nat.le_refl _) (.cells #[rv,zv,lv] 26);obtain⟨h,hh⟩:=aj (w.heap.size)
 rw[hh] at hA0;obtain⟨rA,rc,rfl,_⟩:=hR.rules;obtain⟨zA,zc,rfl,_,_,hrz⟩:=hR.zones;obtain⟨lA,lc,rfl,_⟩:=hR.links;have HOf:=ak hOf;have HFd:=ak hfd;have HZn:=ak hzn;have HLen:=ak hlen;have HEr:=ak hers;have HA0:=ak hA0;have HB0:=ak hB0;have HRz:=ak hrz;have HR:=ak hR;have hz6:s.zones.length≤1000000:=hN.nz;clear hOf hfd hzn hlen hers hA0 hB0 hrz hR hX hN;go_enter Tryz.func21,Tryz.ntmps21
 go_wp2;go_loopw [13] (fun i wr=>Lk.ZAt s w h (.slice rA s.rules.length rc) (.slice zA s.zones.length zc) (.slice lA s.links.length lc) x i wr) (fun i _=>s.zones.length - (intOf i).toNat)
 case atStart=>exact⟨0,Nat.zero_le _,rfl,(by show x∉_;simp),HA0.out,HB0.out⟩
 case round=>
  obtain⟨k,hk,rfl,HNo,HAr,HBr⟩:=hrel
  by_cases hlt:k<s.zones.length
  ·obtain⟨ad,z,rfl,hab,Hx,HL⟩:=Ix.reads_cells (enc:=Src.zc) (m:=2) (fun _=>rfl) HLen.out (HRz.out.below HBr.out) hlt;have hzk:(Lk.zn s)[k]?=some (Src.bts z.1.1):=by
    have h1:=Hx.out;rw[List.getElem?_zip_eq_some] at h1;unfold Lk.zn;rw[List.getElem?_map,h1.1];rfl
   obtain⟨zb,hzb⟩:=aj (Src.bts z.1.1)
   obtain⟨eA,ec,he2,_⟩:=HEr.out z (List.mem_of_getElem? Hx.out);have c0:wr.cell? (ad.add (k*2))=some (.string zb):=by rw[← hzb];exact HL.out 0 _ rfl
   have c1:wr.cell? ⟨(ad.add (k*2)).block,(ad.add (k*2)).off+1,none⟩=some (.slice eA z.1.2.length ec):=by rw[← he2];exact HL.out 1 _ rfl
   rw[hzb] at hzk;have q1:=am k
   have q2:(k:Int)<(s.zones.length:Int):=(by omega);have HA2:=ak (HAr.out.allocO (.cells #[.string zb,.slice eA z.1.2.length ec] 117));have HB2:=ak (HBr.out.alloc HBr.out.size (.cells #[.string zb,.slice eA z.1.2.length ec] 117))
   by_cases he:zb=x
   ·subst he;have HE:=ak (HZn.out k (first_take HNo.out hzk));clear hzk hzb he2 Hx HL;go_wp2;go_ret2
    exact⟨by rw[HE.out];rfl,HB2.out⟩
   ·have HN2:Hid (x∉(Lk.zn s).take (k+1)):=by
     show x∉_
     rw[List.take_add_one,hzk];intro hm;rcases List.mem_append.1 hm with hm|hm
     ·exact HNo.out hm
     ·have:x=zb:=by simpa using hm
      exact he this.symm
    have qe:(zb.toList == x.toList)=false:=by
     rw[beq_eq_false_iff_ne];intro e;rw[ByteArray.toList_eq,ByteArray.toList_eq] at e;exact he (ByteArray.ext (Array.ext' e))
    have qe':¬zb.toList=x.toList:=by simpa using qe
    clear hzk hzb he2 Hx HL he;go_wp2;go_roundw
    case rel=>exact⟨k+1,by omega,by go_num,HN2,HA2.out,HB2.out⟩
    case measure=>simp[intOf];omega
  ·have q2:¬(k:Int)<(s.zones.length:Int):=(by omega);have hR1:=HR.out.call HBr.out;have hcall:=HOf.out wr hR1;obtain⟨a0,a1,a2,_⟩:=HAr.out.three;have HCall:=ak hcall;have HR1:=ak hR1;clear hcall hR1;go_wp2_with fail
   refine HCall.out.mono ?_;rintro e w1 ⟨g,bz,bl,bk,rfl,hF,⟨hg0,hbk0⟩,hb⟩;have HC2:=ak (HFd.out wr HR1.out g bz bl bk w1 hb hF hbk0);have HB1:=ak HBr.out;clear hF hb hg0 hbk0;go_wp2_with fail
   refine HC2.out.mono ?_;rintro e w2 ⟨⟨A,c,rfl,_⟩,hb2⟩;have HB2:=ak (below_then HB1.out hb2);have HB3:=ak (HB2.out.alloc HB2.out.size (.cells #[.int .i64 X.2.1,.int .i64 X.2.2] 146));obtain⟨f0,f1,_⟩:=(At.new w2 #[.int .i64 X.2.1,.int .i64 X.2.2] 146).two;clear hb2;go_wp2_with fail
   obtain⟨W3,hW3⟩:=aj (w2.alloc (.cells #[.int .i64 X.2.1,.int .i64 X.2.2] 146))
   rw[hW3] at f0 f1 HB3 ⊢;clear hW3;go_quiet (fail)
   go_wp2;go_ret2
   exact⟨rfl,by first|exact HB3.out|exact below_drewN HB3.out _⟩
def Lk.ChRet (s:Src.S)(x:ByteArray)(w:World)(e:Ending)(w':World):Prop:=
 (∃A c,e=.returned (.slice A (Lk.walk s x).1.length c)∧Reads w' w'.heap.size 1 A (Lk.walk s x).1.length ((Lk.walk s x).1.map Value.string))∧Below w.heap.size w w'
theorem linkChain_any (s:Src.S)(rv zv lv:Value)(evs:List Value)(x:ByteArray)(w:World)(hR:Src.SrcR w w.heap.size s rv zv lv evs)(hN:Lk.Nm s)(hx:x.size≤maxLen):
  Calls Tryz.prog 135 #[.agg #[rv,zv,lv],.string x] w (Lk.ChRet s x w):=by
 have hA0:=At.new w #[rv,zv,lv] 26;have hB0:=(Below.refl w.heap.size w).alloc (Nat.le_refl _) (.cells #[rv,zv,lv] 26);have hR1:=(hR.below hB0).more hB0.size;have hOf:=linkOf_any s rv zv lv evs _ hR1 ⟨hN.nz,hN.nl⟩ hN.zn hN.ln;have hfd:=fun g bz bl bk W' hb hF hbk=>chain_tail s rv zv lv evs x hN hx _ hR1 g bz bl bk W' hb hF hbk
 unfold Lk.ChRet;obtain⟨X,hX⟩:=aj (Lk.walk s x)
 rw[hX];simp only[hX] at hfd;obtain⟨rA,rc,rfl,_⟩:=hR.rules;obtain⟨zA,zc,rfl,_⟩:=hR.zones;obtain⟨lA,lc,rfl,_⟩:=hR.links;have HOf:=ak hOf;have HFd:=ak hfd;have HB0:=ak hB0;have HC:Hid (∀A c (w2 w3:World),Reads w2 w2.heap.size 1 A X.1.length (X.1.map Value.string)→Below w.heap.size w w2→w3=w2.alloc (.cells #[.int .i64 X.2.1,.int .i64 X.2.2] 146)→
   ((∃A' c',Ending.returned (.slice A X.1.length c)=.returned (.slice A' X.1.length c')∧Reads w3 w3.heap.size 1 A' X.1.length (X.1.map Value.string))∧Below w.heap.size w w3)):=by
  rintro A c w2 w3 hr hb rfl;exact⟨⟨A,c,rfl,(hr.alloc (Nat.le_refl _) _).more (by simp)⟩,hb.alloc hb.size _⟩
 clear hOf hfd hA0 hB0 hR hR1 hX hN;go_enter Tryz.func135,Tryz.ntmps135
 go_wp2_with fail
 refine HOf.out.mono ?_;rintro e w1 ⟨g,bz,bl,bk,rfl,hF,⟨hg0,hbk0⟩,hb⟩;have HC2:=ak (HFd.out g bz bl bk w1 hb hF hbk0);clear hF hb hg0 hbk0;go_wp2_with fail
 refine HC2.out.mono ?_;rintro e w2 ⟨⟨A,c,rfl,hr⟩,hb2⟩;have HRes:=ak (HC.out A c w2 _ hr (HB0.out.trans (hb2.mono HB0.out.size)) rfl);clear hr hb2;go_wp2;refine bodyPost_ret (v:=.slice A X.1.length c) (by simp[results,Tryz.results135,go_sem, *]) rfl ?_;exact HRes.out
end Go.Proofs.YtjobhjemnmleaaaGreatDoor
namespace Go.Proofs.YtjobhjemnmleaaaGreatDoor
open Go.RowKit
namespace Vd
abbrev Fl :=Int × ByteArray
def fc (f:Fl):List Value:=[.int .i64 f.1,.string f.2]
def cells (l:List Fl):List Value:=l.flatMap fc
theorem cells_snoc (l:List Fl)(f:Fl):cells (l ++ [f])=cells l ++ fc f:=by unfold cells;simp
structure Fd (rv zv lv:Value)(B g:Nat)(fl:List Fl)(v:Value)(w:World):Prop where
 at_:At w g [rv,zv,lv,v]
 row:w.ownsRow B 289 2 v fl.length (cells fl)
 ne:v.ownBlock≠some g
structure Kp (g:Nat)(v v':Value)(w w':World):Prop where
 os:w'.os=w.os
 tape:w'.tape=w.tape
 output:w'.output=w.output
 size:w.heap.size≤w'.heap.size
 same:∀k,k<w.heap.size→k≠g→v.ownBlock≠some k→w'.heap[k]?=w.heap[k]?∧v'.ownBlock≠some k
section
variable {g:Nat} {v v' v'':Value} {a b c:World}
theorem Kp.refl (g:Nat)(v:Value)(a:World):Kp g v v a a:=⟨rfl,rfl,rfl,Nat.le_refl _,fun _ _ _ h=>⟨rfl,h⟩⟩
theorem Kp.trans (h:Kp g v v' a b)(k:Kp g v' v'' b c):Kp g v v'' a c:=
 ⟨k.os.trans h.os,k.tape.trans h.tape,k.output.trans h.output,Nat.le_trans h.size k.size,fun i hi hg hv=>by
  obtain⟨h1,h2⟩:=h.same i hi hg hv;obtain⟨k1,k2⟩:=k.same i (Nat.lt_of_lt_of_le hi h.size) hg h2;exact⟨k1.trans h1,k2⟩⟩
theorem Kp.below (h:Below a.heap.size a b):Kp g v v a b:=
 ⟨h.os,h.tape,h.output,h.size,fun k hk _ hn=>⟨h.block k hk,hn⟩⟩
theorem Kp.at_ (h:Kp g v v' a b){k:Nat}{xs:List Value}(hA:At a k xs)(hg:k≠g)(hv:v.ownBlock≠some k):At b k xs:=
 ⟨Nat.lt_of_lt_of_le hA.1 h.size,fun i u hi=>⟨(World.cell?_of_block (a:=⟨k,i,none⟩) (h.same k hA.1 hg hv).1).trans (hA.2 i u hi).1,(World.frozen?_of_block (a:=⟨k,i,none⟩) (h.same k hA.1 hg hv).1).trans (hA.2 i u hi).2⟩⟩
theorem Kp.map {P:Program}{k:TypeId}{m n:Nat}{f:Mp.Fn}(h:Kp g v v' a b)(hm:MapF P k a m n f)(hg:m≠g)(hv:v.ownBlock≠some m):MapF P k b m n f:=by
 obtain⟨D,⟨es,clock,hb,r⟩,hf⟩:=hm;have hlt:m<a.heap.size:=(Array.getElem?_eq_some_iff.1 hb).1;exact⟨D,⟨es,clock,(h.same m hlt hg hv).1.trans hb,r⟩,hf⟩
end
theorem Fd.kept {rv zv lv v:Value}{B g:Nat}{fl:List Fl}{w w':World}(h:Fd rv zv lv B g fl v w)(hb:Below w.heap.size w w'):Fd rv zv lv B g fl v w':=
 ⟨h.at_.call hb,h.row.kept (row:=none) ⟨hb.os,hb.tape,hb.output,hb.size,fun k hk _=>hb.block k hk⟩ (by cases v.ownBlock <;> simp),h.ne⟩
theorem Fd.map_ne {P:Program}{k:TypeId}{rv zv lv v:Value}{B g m n:Nat}{fl:List Fl}{f:Mp.Fn}{w:World}(h:Fd rv zv lv B g fl v w)(hm:MapF P k w m n f):m≠g∧v.ownBlock≠some m:=by
 refine⟨fun e=>h.at_.ne_map hm e.symm,fun e=>?_⟩;obtain⟨o,ho,hc⟩:=hm.not_cells;rcases h.row.2 with ⟨h1,_⟩|⟨g',cap,cur,hv,_,hh,_⟩
 ·rw[h1] at e;cases e
 ·rw[hv] at e;have e2:g'=m:=by simpa [Value.ownBlock] using e
  rw[e2,ho] at hh;cases hh
  cases hc
def PutRet (rv zv lv:Value)(B g:Nat)(fl:List Fl)(f:Fl)(v:Value)(w:World)(e:Ending)(w':World):Prop:=
 (∃x,e=.returned x)∧∃v',Fd rv zv lv B g (fl ++ [f]) v' w'∧Kp g v v' w w'
end Vd
theorem flaw_info : (Tryz.prog.info? 289).map (fun i=>(i.zero,i.size,i.bytes))=some (some (.agg #[.int .i64 0,.string ⟨#[]⟩]),2,24):=by kernel_rfl
theorem vdPut_any (rv zv lv v:Value)(B g:Nat)(fl:List Vd.Fl)(why:Int)(name:ByteArray)(w:World)(hF:Vd.Fd rv zv lv B g fl v w)(hn:fl.length≤1000000)(hB:B≤w.heap.size):
  Calls Tryz.prog 134 #[.pointer (some ⟨g,0,none⟩),.int .i64 why,.string name] w (Vd.PutRet rv zv lv B g fl (why,name) v w):=by
 obtain⟨hA,hO,hne⟩:=hF;have c3:=hA.cell 3 _ rfl;have hgl:=hA.lt;obtain⟨i0,hi0,hz0,hz1,hz2⟩:∃i,Tryz.prog.info? 289=some i∧i.zero=some (.agg #[.int .i64 0,.string ⟨#[]⟩])∧i.size=2∧i.bytes=24:=by
  have h:=flaw_info;cases hc:Tryz.prog.info? 289 with
  |none=>rw[hc] at h;cases h
  |some i=>
   rw[hc] at h;simp only[Option.map_some,Option.some.injEq,Prod.mk.injEq] at h;exact⟨i,rfl,h.1,h.2.1,h.2.2⟩
 have HI:=ak (And.intro hi0 (And.intro hz0 (And.intro hz1 hz2)));have hR:Reads (w.alloc (.cells #[.int .i64 why,.string name] 289)) (w.heap.size+1) 2 (some ⟨w.heap.size,0,none⟩) 1 [.int .i64 why,.string name]:=by
  refine⟨by simp,fun _=>⟨_,rfl,Nat.lt_succ_self _,fun j u hu=>?_⟩⟩;have e:(⟨w.heap.size,0,none⟩:Addr).add j=⟨w.heap.size,j,none⟩:=by
   unfold Addr.add;split
   ·subst_vars;rfl
   ·simp
  rw[e];exact(At.new w #[.int .i64 why,.string name] 289).cell j u hu
 have HR:=ak hR;have HA:=ak hA;have HO:=ak hO;have HNe:=ak hne;have HK:Hid (∀v' w',w'.ownsRow B 289 2 v' (fl.length+1) (Vd.cells fl ++ [.int .i64 why,.string name])→(w.alloc (.cells #[.int .i64 why,.string name] 289)).grownBy w' v.ownBlock→(v'.ownBlock=v.ownBlock∨v'.ownBlock=some (w.heap.size+1))→
   (w'.cell? ⟨g,3,none⟩=some v∧w'.frozen? ⟨g,3,none⟩=false)∧∀W,W=w'.setCell ⟨g,3,none⟩ v'→Vd.PutRet rv zv lv B g fl (why,name) v w (.returned (.tuple #[])) W):=by
  intro v' w' ho hg hat;have hA1:=Lk.at_kept (hA.allocO (.cells #[.int .i64 why,.string name] 289)) hg (fun e=>hne e.symm)
  have hvg:v'.ownBlock≠some g:=by
   rcases hat with e|e
   ·rw[e];exact hne
   ·rw[e];intro e2
    injection e2 with e2
    omega
  refine⟨⟨hA1.cell 3 _ rfl,hA1.free 3 _ rfl⟩,?_⟩;rintro W rfl;refine⟨⟨_,rfl⟩,v',⟨hA1.set 3 v',?_,hvg⟩,⟨hg.os,hg.tape,hg.output,by rw[heap_set];have:=hg.size;rw[World.size_alloc] at this;omega,fun k hk hkg hv=>⟨?_,?_⟩⟩⟩
  ·rw[Vd.cells_snoc,List.length_append];exact ownsRow_setCell_other ho (a:=⟨g,3,none⟩) hvg _
  ·rw[Below.heap_setCell w' ⟨g,3,none⟩ v' k hkg,hg.block k (by rw[World.size_alloc];omega) (fun e=>hv e.symm)];exact Below.heap_alloc w _ k hk
  ·rcases hat with e|e
   ·rw[e];exact hv
   ·rw[e];intro e2
    injection e2 with e2
    omega
 clear hi0 hz0 hz1 hz2 hR hA hO hne;go_enter Tryz.func134,Tryz.ntmps134
 have HAp:=fun {ops:Array Oper} {rest:List Oper} {o:Oper} {a:Act} {Q:Exit→Act→World→Prop} (hgd:o.guard=none) (ho:o.op=.call { callee:=.builtin .append,args:=#[.tmp 10,.tmp 14],argTypes:=#[136,136] }) (hs:a.eval (.tmp 10)=v) (hx:a.eval (.tmp 14)=.slice (some ⟨w.heap.size,0,none⟩) 1 1) h=>wpList_append_any (P:=Tryz.prog) (ops:=ops) (rest:=rest) (o:=o) (a:=a) (Q:=Q) (w.alloc (.cells #[.int .i64 why,.string name] 289)) hgd (.tmp 10) (.tmp 14) 136 ho B 289 i0 _ 2 24 Tryz.underlying136 HI.out.1 HI.out.2.1 HI.out.2.2.1 HI.out.2.2.2 rfl (by omega) v fl.length (Vd.cells fl) hs (HO.out.alloc _) (w.heap.size+1) _ 1 1 _ hx HR.out (by simp[Value.oneCell']) (by unfold maxLen;omega) (by omega) (by rw[World.size_alloc];omega) h
 go_wp2_with (first|(at_builtin;refine HAp rfl rfl rfl rfl ?_;intro v9 w9 hown9 hg9 hat9;obtain⟨⟨d3,f3⟩,hfin⟩:=HK.out v9 w9 hown9 hg9 (by rw[World.size_alloc] at hat9;exact hat9);have HFin:=ak hfin;obtain⟨A9,c9,rfl,_⟩:=own_slice hown9;clear hown9 hg9 hat9 hfin))
 refine bodyPost_ret (results_none rfl _ _ _) rfl ?_;exact HFin.out _ rfl
end Go.Proofs.YtjobhjemnmleaaaGreatDoor
namespace Go.Proofs.YtjobhjemnmleaaaGreatDoor
open Go.RowKit
namespace Vd
section
variable {P:Program} {k:TypeId} {g m n:Nat} {v v':Value} {a b c:World} {f:Mp.Fn}
theorem Kp.grown (h:Kp g v v' a b)(hg:b.grownBy c (some m))(hm:a.heap.size≤m):Kp g v v' a c:=
 ⟨hg.os.trans h.os,hg.tape.trans h.tape,hg.output.trans h.output,Nat.le_trans h.size hg.size,fun i hi hig hv=>
  ⟨(hg.block i (Nat.lt_of_lt_of_le hi h.size) (fun e=>by injection e with e;omega)).trans (h.same i hi hig hv).1,(h.same i hi hig hv).2⟩⟩
theorem Kp.then_ (h:Kp g v v' a b)(k:Below b.heap.size b c):Kp g v v' a c:=h.trans (Kp.below k)
theorem Kp.row (h:Kp g v v' a b){B size l:Nat}{e:TypeId}{nv:Value}{xs:List Value}(ho:a.ownsRow B e size nv l xs)(hb:∀j,nv.ownBlock=some j→j≠g∧v.ownBlock≠some j):
  b.ownsRow B e size nv l xs∧∀j,nv.ownBlock=some j→j≠g∧v'.ownBlock≠some j:=by
 have hlt:=ho.lt;refine⟨⟨ho.1,ho.2.imp id ?_⟩,fun j hj=>⟨(hb j hj).1,(h.same j (hlt j hj).2 (hb j hj).1 (hb j hj).2).2⟩⟩;rintro ⟨j,cap,cur,rfl,q2,q3,q4⟩;have hj:(Value.slice (some ⟨j,0,none⟩) l cap).ownBlock=some j:=rfl;exact⟨j,cap,cur,rfl,q2,(h.same j (hlt j hj).2 (hb j hj).1 (hb j hj).2).1.trans q3,q4⟩
theorem Kp.base (h:Kp g v v' a b){B:Nat}(hB:B≤g)(hv:∀j,v.ownBlock=some j→B≤j)(ha:B≤a.heap.size):Below B a b:=
 ⟨h.os,h.tape,h.output,h.size,fun i hi=>(h.same i (by omega) (by omega) (fun e=>by have:=hv i e;omega)).1⟩
end
section
variable {P:Program} {k:TypeId} {rv zv lv v:Value} {B g m n:Nat} {fl:List Fl} {f:Mp.Fn} {w w':World}
theorem Fd.grown (h:Fd rv zv lv B g fl v w)(hm:MapF P k w m n f)(hg:w.grownBy w' (some m)):Fd rv zv lv B g fl v w':=
 ⟨Lk.at_kept2 h.at_ hm hg,h.row.kept hg (.inr (fun e=>(h.map_ne hm).2 e)),h.ne⟩
theorem Fd.base (h:Fd rv zv lv B g fl v w):∀j,v.ownBlock=some j→B≤j:=fun j hj=>(h.row.lt j hj).1
theorem Fd.alloc (h:Fd rv zv lv B g fl v w)(o:Obj):Fd rv zv lv B g fl v (w.alloc o):=h.kept ((Below.refl _ _).alloc (Nat.le_refl _) o)
end
def Ret (rv zv lv:Value)(B g:Nat)(fl more:List Fl)(v:Value)(w:World)(e:Ending)(w':World):Prop:=
 (∃x,e=.returned x)∧∃v',Fd rv zv lv B g (fl ++ more) v' w'∧Kp g v v' w w'
def steps {α:Type}(f:Nat→α→List Fl)(l:List α):Nat→List Fl
 |0=>[]
 |k+1=>steps f l k ++ ((l[k]?).map (f k)).getD []
theorem steps_next {α:Type}{f:Nat→α→List Fl}{l:List α}{k:Nat}{x:α}(h:l[k]?=some x):steps f l (k+1)=steps f l k ++ f k x:=by
 rw[steps,h];rfl
theorem steps_one {α:Type}{f:Nat→α→List Fl}{l:List α}(h:∀k x,l[k]?=some x→(f k x).length≤1):∀k,(steps f l k).length≤k
 |0=>Nat.le_refl _
 |k+1=>by
  rw[steps,List.length_append];have:=steps_one h k;have h2:(((l[k]?).map (f k)).getD []).length≤1:=by
   cases hk:l[k]? with
   |none=>exact Nat.zero_le _
   |some x=>exact h k x hk
  omega
noncomputable def tw1 (l:List ByteArray)(k:Nat)(x:ByteArray):List Fl:=@ite _ (x∈l.take k) (Classical.propDecidable _) [(8,x)] []
theorem tw1_in {l:List ByteArray}{k:Nat}{x:ByteArray}(h:x∈l.take k):tw1 l k x=[(8,x)]:=by unfold tw1;rw[if_pos h]
theorem tw1_out {l:List ByteArray}{k:Nat}{x:ByteArray}(h:x∉l.take k):tw1 l k x=[]:=by unfold tw1;rw[if_neg h]
noncomputable def tw (l:List ByteArray):List Fl:=steps (tw1 l) l l.length
theorem tw_le (l:List ByteArray)(k:Nat):(steps (tw1 l) l k).length≤k:=steps_one (fun k x _=>by
 by_cases h:x∈l.take k
 ·rw[tw1_in h];exact Nat.le_refl _
 ·rw[tw1_out h];exact Nat.zero_le _) k
def Seen (f:Mp.Fn)(l:List ByteArray):Prop:=∀x,(f x).isSome=true↔x∈l
theorem Seen.nil : Seen (fun _=>none) []:=fun x=>by simp
theorem Seen.put {f:Mp.Fn}{l:List ByteArray}(h:Seen f l)(s:ByteArray)(u:Value):Seen (Mp.put f s u) (l ++ [s]):=by
 intro x
 by_cases e:x=s
 ·rw[e,Mp.put_same];simp
 ·rw[Mp.put_other _ _ _ e,h x];simp[e]
theorem Seen.again {f:Mp.Fn}{l:List ByteArray}(h:Seen f l){s:ByteArray}(hs:s∈l):Seen f (l ++ [s]):=by
 intro x;rw[h x,List.mem_append,List.mem_singleton];exact⟨.inl,fun q=>q.elim id (fun e=>e ▸ hs)⟩
theorem Seen.yes {f:Mp.Fn}{l:List ByteArray}(h:Seen f l){x:ByteArray}(hx:x∈l):(f x).isSome=true:=(h x).2 hx
theorem Seen.no {f:Mp.Fn}{l:List ByteArray}(h:Seen f l){x:ByteArray}(hx:x∉l):(f x).isSome=false:=by
 cases e:(f x).isSome
 ·rfl
 ·exact absurd ((h x).1 e) hx
structure TwAt (rv zv lv:Value)(B g:Nat)(fl:List Fl)(v0:Value)(w0:World)(bm:Nat)(A:Option Addr)(n c:Nat)(l:List ByteArray)(i:Value)(wr:World):Prop where
 st:∃k v f,k≤n∧i=.int .i64 (k:Int)∧Fd rv zv lv B g (fl ++ steps (tw1 l) l k) v wr∧Kp g v0 v w0 wr∧MapF Tryz.prog 9 wr bm k f∧Seen f (l.take k)∧(∀j,(Value.slice A n c).ownBlock=some j→j≠g∧v.ownBlock≠some j)
 row:wr.ownsRow (bm+1) 9 1 (.slice A n c) n (l.map Value.string)
end Vd
theorem store_int (w:World){ops:Array Oper}{rest:List Oper}{o:Oper}{a:Act}{Q:Exit→Act→World→Prop}(hg:o.guard=none)(m x v:Operand)(b n:Nat)(f:Mp.Fn)(s:ByteArray)(hs:s.size≤maxLen)(hn:n<maxLen)(e:Int)(hop:o.op=Op.mapUpdate 166 m x v)
  (hm:a.eval m=.map (some b)) (hx:a.eval x=.string s) (hv:a.eval v=.int .i64 e) (h:MapF Tryz.prog 9 w b n f)
  (hK:∀w',MapF Tryz.prog 9 w' b (n+1) (Mp.put f s (.int .i64 e))→w.grownBy w' (some b)→wpList Tryz.prog ops Q rest (a.put o.dst undef) w'):wpList Tryz.prog ops Q (o :: rest) a w:=
 wpList_store w hg m x v 166 9 3 hop Tryz.underlying9 Tryz.underlying166 b n f s hs hn _ hm hx hv h hK
theorem look_int (w:World){ops:Array Oper}{rest:List Oper}{o:Oper}{a:Act}{Q:Exit→Act→World→Prop}(hg:o.guard=none)(m x:Operand)(b n:Nat)(f:Mp.Fn)(s:ByteArray)(hs:s.size≤maxLen)(hop:o.op=Op.lookup 166 m x true)
  (hm:a.eval m=.map (some b)) (hx:a.eval x=.string s) (h:MapF Tryz.prog 9 w b n f) (u:Value) (hu:(f s).getD (.int .i64 0)=u) (q:Bool) (hq:(f s).isSome=q)
  (hK:wpList Tryz.prog ops Q rest (a.put o.dst (.tuple #[u,.bool q])) w):wpList Tryz.prog ops Q (o :: rest) a w:=by
 subst hu hq;exact wpList_look_ok w hg m x 166 9 3 hop Tryz.underlying9 Tryz.underlying166 zero_int b n f s hs hm hx h hK
end Go.Proofs.YtjobhjemnmleaaaGreatDoor
