/- compile.Zone: the plan of the years of a name's zone, or why there is none. -/
import Derived.Test.YtjobhjemnmleaaaGreatDoorR40
set_option maxRecDepth 200000
set_option maxHeartbeats 32000000
namespace Go.Proofs.YtjobhjemnmleaaaGreatDoor
open Go.RowKit Go.Sort
namespace Cm
def err (sb wl zn:Bool)(le lo hi:Int):Int:=
 if sb=false then 2 else if le≠0 then le else if wl=false then 2 else if zn=false then 3 else if ¬(1<lo∧hi<9999∧lo≤hi∧hi - lo<400) then 1 else if lo<1601 then 1 else 0
def Bad (s:Src.S)(nm:ByteArray)(lo hi er:Int):Prop:=er≠0∧err (Src.srcB s) (Vd.well s) (Eg.zoneAt s (Lk.walk s nm).2.1).isSome (Lk.walk s nm).2.2 lo hi=er
def ZoneRet (s : Src.S) (nm : ByteArray) (lo hi : Int) (w : World) (e : Ending) (w' : World) : Prop := Below w.heap.size w w' ∧
  ((∃ er, Bad s nm lo hi er ∧ e = .returned (.tuple #[.agg #[.int .i64 0, .slice none 0 0, .slice none 0 0], .int .i64 er])) ∨
   (∃ (x : Src.Txt × List Er.E) (n : Nat) (u1 u2 : Value), Src.srcB s = true ∧ (Lk.walk s nm).2.2 = 0 ∧ Vd.well s = true ∧ Eg.zoneAt s (Lk.walk s nm).2.1 = some x ∧ Ln.InY lo hi ∧ 1601 ≤ lo ∧ (n : Int) = hi - lo + 1 ∧ e = .returned (.tuple #[.agg #[.int .i64 lo, u1, u2], .int .i64 0]) ∧
     w'.ownsRow w.heap.size 49 19 u1 n (rc (run (yr s x.2) lo n).recs) ∧ w'.ownsRow w.heap.size 56 1 u2 n (wc (run (yr s x.2) lo n).why)))
end Cm
theorem cmZone_any (s:Src.S)(nm:ByteArray)(lo hi:Int)(rv zv lv:Value)(evs:List Value)(w:World)(hR:Src.SrcR w w.heap.size s rv zv lv evs)(hS:Vd.Sz s)(hW:Wo w)(hA:Wa w)(hnm:nm.size≤maxLen)
  (hlo:-9223372036854775808≤lo∧lo<9223372036854775808) (hhi:-9223372036854775808≤hi∧hi<9223372036854775808) (hcc:∀x∈s.zones,∀e∈x.2,0≤e.u.c) (hwc:∀r∈s.rules,0≤r.c):
  Calls Tryz.prog 19 #[.agg #[rv,zv,lv],.string nm,.int .i64 lo,.int .i64 hi] w (Cm.ZoneRet s nm lo hi w):=by
 have hzb:=walk_bd s nm hS.lims.zones;have HCk:=ak fun(W:World) (hb:Below w.heap.size w W)=>srcCheck_anyW s rv zv lv evs W (hA.below hb) (hR.call hb) hS.lims hS.smw
 have HLk:=ak fun(W:World) (hb:Below w.heap.size w W)=>linkZone_any s rv zv lv evs nm W (hR.call hb) hS.nm hnm
 have HLn:=ak fun(W:World) (hb:Below w.heap.size w W)=>lnOf_any s (Lk.walk s nm).2.1 lo hi rv zv lv evs W (hR.call hb) hS (hW.below hb) (hA.below hb) (by omega) hlo hhi hcc hwc
 have hX:∀er w',Below w.heap.size w w'→Cm.Bad s nm lo hi er→Cm.ZoneRet s nm lo hi w (.returned (.tuple #[.agg #[.int .i64 0,.slice none 0 0,.slice none 0 0],.int .i64 er])) w':=fun er w' hb h=>⟨hb,.inl ⟨er,h,rfl⟩⟩
 obtain⟨P,hP⟩:=aj (Cm.ZoneRet s nm lo hi w)
 rw[hP] at hX ⊢;have HX:=ak hX;have HP:=ak hP;have HR0:=ak hR;have HLe:Hid (Lens w):=by first|exact hW.lens|exact hW.l|exact hW.c.lens|exact hW.1
 have HBad:=ak (show ∀er,Cm.Bad s nm lo hi er↔(er≠0∧Cm.err (Src.srcB s) (Vd.well s) (Eg.zoneAt s (Lk.walk s nm).2.1).isSome (Lk.walk s nm).2.2 lo hi=er) from fun _=>Iff.rfl);clear hX hP hcc hwc hW hA hR hzb hlo hhi hnm;obtain⟨sb,hsb⟩:=aj (Src.srcB s)
 obtain⟨zi,hzi⟩:=aj ((Lk.walk s nm).2.1)
 obtain⟨le,hle⟩:=aj ((Lk.walk s nm).2.2)
 rw[hsb] at HCk;rw[hzi] at HLn;rw[hzi,hle] at HLk;rw[hsb,hzi,hle] at HBad;have HE1:=ak hsb;have HE2:=ak hzi;have HE3:=ak hle;clear hsb hzi hle;obtain⟨V1,gS,HEV1,HGgS,HS⟩:=(St.start w).lay2 #[rv,zv,lv] 26 #[.int .i64 0,.slice none 0 0,.slice none 0 0] 53;have S0:=(HS.out.get 1 rfl).cell 0 _ rfl;have S1:=(HS.out.get 1 rfl).cell 1 _ rfl;have S2:=(HS.out.get 1 rfl).cell 2 _ rfl;have zS:=(HS.out.get 1 rfl).lt;go_enter Tryz.func19,Tryz.ntmps19
 go_upto_region 1 with fail
 rw[HEV1.out]
 try rw[HGgS.out]
 go_wp2_with fail
 refine(HCk.out _ HS.out.b).mono ?_;rintro e V2 ⟨rfl,hb⟩;clear S0 S1 S2 zS;replace HS:=ak (HS.out.call hb);clear hb;have S0:=(HS.out.get 1 rfl).cell 0 _ rfl;have S1:=(HS.out.get 1 rfl).cell 1 _ rfl;have S2:=(HS.out.get 1 rfl).cell 2 _ rfl;have zS:=(HS.out.get 1 rfl).lt;cases sb with
 |false=>
  go_wp2_with (refine wpList_store_all rfl 53 _ _ rfl (gS+1) rfl #[.int .i64 0,.slice none 0 0,.slice none 0 0] rfl _ (HS.out.get 0 rfl) (by rfl) (by kernel_rfl) (by first|exact Sm.S.arr_one _|exact Rc.R.arr_one _|simp[Value.oneCell']) ?_;intro V3 hAn hMn)
  clear S0 S1 S2 zS;replace HS:Hid (St w V3 [(gS+1,[.int .i64 0,.slice none 0 0,.slice none 0 0]),(gS,[rv,zv,lv])]):=HS.out.put 0 rfl hMn hAn;clear hMn hAn;rw[← HP.out];refine bodyPost_ret (res_ct (p:=8) (q:=9) rfl (HS.out.get 0 rfl) _ Tryz.underlying53 rfl (by kernel_rfl) rfl rfl) rfl ?_;rw[HP.out];exact HX.out 2 _ HS.out.b ((HBad.out 2).2 ⟨by decide,rfl⟩)
 |true=>
  go_wp2_with fail
  refine(HLk.out _ HS.out.b).mono ?_;rintro e V3 ⟨rfl,hb⟩;clear S0 S1 S2 zS;replace HS:=ak (HS.out.call hb);clear hb;have S0:=(HS.out.get 1 rfl).cell 0 _ rfl;have S1:=(HS.out.get 1 rfl).cell 1 _ rfl;have S2:=(HS.out.get 1 rfl).cell 2 _ rfl;have zS:=(HS.out.get 1 rfl).lt
  by_cases hl0:le=0
  case neg=>
   have z1:(le == 0)=false:=by rw[beq_eq_false_iff_ne];exact hl0
   have z2:(le != 0)=true:=by rw[bne_iff_ne];exact hl0
   go_wp2_with (refine wpList_store_all rfl 53 _ _ rfl (gS+1) rfl #[.int .i64 0,.slice none 0 0,.slice none 0 0] rfl _ (HS.out.get 0 rfl) (by rfl) (by kernel_rfl) (by first|exact Sm.S.arr_one _|exact Rc.R.arr_one _|simp[Value.oneCell']) ?_;intro V4 hAn hMn)
   clear S0 S1 S2 zS;replace HS:Hid (St w V4 [(gS+1,[.int .i64 0,.slice none 0 0,.slice none 0 0]),(gS,[rv,zv,lv])]):=HS.out.put 0 rfl hMn hAn;clear hMn hAn;rw[← HP.out];refine bodyPost_ret (res_ct (p:=8) (q:=9) rfl (HS.out.get 0 rfl) _ Tryz.underlying53 rfl (by kernel_rfl) rfl rfl) rfl ?_;rw[HP.out];exact HX.out le _ HS.out.b ((HBad.out le).2 ⟨hl0,by simp[Cm.err,hl0]⟩)
  case pos=>
   subst hl0;go_wp2_with fail
   refine(HLn.out _ HS.out.b).mono ?_;rintro e V4 ⟨hb,h4⟩;clear S0 S1 S2 zS;replace HS:=ak (HS.out.call hb);clear hb;rcases h4 with ⟨hno,rfl⟩|⟨hwe,hno,rfl⟩|⟨x,hwe,hx,hin,rfl⟩|⟨x,v,hwe,hx,hin,rfl,ho4⟩
   ·have HA1:=ak hno;clear hno;go_wp2_with (refine wpList_store_all rfl 53 _ _ rfl (gS+1) rfl #[.int .i64 0,.slice none 0 0,.slice none 0 0] rfl _ (HS.out.get 0 rfl) (by rfl) (by kernel_rfl) (by first|exact Sm.S.arr_one _|exact Rc.R.arr_one _|simp[Value.oneCell']) ?_;intro V5 hAn hMn)
    replace HS:Hid (St w V5 [(gS+1,[.int .i64 0,.slice none 0 0,.slice none 0 0]),(gS,[rv,zv,lv])]):=HS.out.put 0 rfl hMn hAn;clear hMn hAn;rw[← HP.out];refine bodyPost_ret (res_ct (p:=8) (q:=9) rfl (HS.out.get 0 rfl) _ Tryz.underlying53 rfl (by kernel_rfl) rfl rfl) rfl ?_;rw[HP.out];exact HX.out 2 _ HS.out.b ((HBad.out 2).2 ⟨by decide,by simp[Cm.err,HA1.out]⟩)
   ·have HA1:=ak hwe;have HA2:=ak hno;clear hwe hno;go_wp2_with (refine wpList_store_all rfl 53 _ _ rfl (gS+1) rfl #[.int .i64 0,.slice none 0 0,.slice none 0 0] rfl _ (HS.out.get 0 rfl) (by rfl) (by kernel_rfl) (by first|exact Sm.S.arr_one _|exact Rc.R.arr_one _|simp[Value.oneCell']) ?_;intro V5 hAn hMn)
    replace HS:Hid (St w V5 [(gS+1,[.int .i64 0,.slice none 0 0,.slice none 0 0]),(gS,[rv,zv,lv])]):=HS.out.put 0 rfl hMn hAn;clear hMn hAn;rw[← HP.out];refine bodyPost_ret (res_ct (p:=8) (q:=9) rfl (HS.out.get 0 rfl) _ Tryz.underlying53 rfl (by kernel_rfl) rfl rfl) rfl ?_;rw[HP.out];exact HX.out 3 _ HS.out.b ((HBad.out 3).2 ⟨by decide,by simp[Cm.err,HA1.out,HA2.out]⟩)
   ·have HA1:=ak hwe;have HA2:=ak hx;have HA3:=ak hin;clear hwe hx hin;go_wp2_with (refine wpList_store_all rfl 53 _ _ rfl (gS+1) rfl #[.int .i64 0,.slice none 0 0,.slice none 0 0] rfl _ (HS.out.get 0 rfl) (by rfl) (by kernel_rfl) (by first|exact Sm.S.arr_one _|exact Rc.R.arr_one _|simp[Value.oneCell']) ?_;intro V5 hAn hMn)
    replace HS:Hid (St w V5 [(gS+1,[.int .i64 0,.slice none 0 0,.slice none 0 0]),(gS,[rv,zv,lv])]):=HS.out.put 0 rfl hMn hAn;clear hMn hAn;rw[← HP.out];refine bodyPost_ret (res_ct (p:=8) (q:=9) rfl (HS.out.get 0 rfl) _ Tryz.underlying53 rfl (by kernel_rfl) rfl rfl) rfl ?_;rw[HP.out];exact HX.out 1 _ HS.out.b ((HBad.out 1).2 ⟨by decide,by simp[Cm.err,HA1.out,HA2.out];exact fun a b c d=>absurd ⟨a,b,c,d⟩ HA3.out⟩)
   ·have hzo:=Eg.zone_ok hwe (show x∈s.zones by
     unfold Eg.zoneAt at hx;split at hx
     ·exact List.mem_of_getElem? hx
     ·cases hx)
    have hRu:=Eg.rules_ok2 hwe hS.lims.rules;have hlen:=Tp.len_le hRu hzo hin;obtain⟨vA,vc,rfl,hv1,hv2⟩:=own_slice_cap ho4;have HA1:=ak hwe;have HA2:=ak hx;have HA3:=ak hin;have HLl:=ak hlen;have HV:=ak (And.intro hv1 hv2);have HRd:=ak (Reads.of_own ho4);clear hwe hx hv1 hv2 ho4
    by_cases h16:lo<1601
    ·have d1:=decide_eq_true h16;go_wp2_with (refine wpList_store_all rfl 53 _ _ rfl (gS+1) rfl #[.int .i64 0,.slice none 0 0,.slice none 0 0] rfl _ (HS.out.get 0 rfl) (by rfl) (by kernel_rfl) (by first|exact Sm.S.arr_one _|exact Rc.R.arr_one _|simp[Value.oneCell']) ?_;intro V5 hAn hMn)
     replace HS:Hid (St w V5 [(gS+1,[.int .i64 0,.slice none 0 0,.slice none 0 0]),(gS,[rv,zv,lv])]):=HS.out.put 0 rfl hMn hAn;clear hMn hAn;rw[← HP.out];refine bodyPost_ret (res_ct (p:=8) (q:=9) rfl (HS.out.get 0 rfl) _ Tryz.underlying53 rfl (by kernel_rfl) rfl rfl) rfl ?_;rw[HP.out];exact HX.out 1 _ HS.out.b ((HBad.out 1).2 ⟨by decide,by have h1:=HA3.out;unfold Ln.InY at h1;simp[Cm.err,HA1.out,HA2.out,h1,h16]⟩)
    ·have d1:=decide_eq_false h16;go_upto_region 11 with fail
     have HS4:=HS;have hLy:=HS.out.lay #[.int .i64 0,.slice none 0 0,.slice none 0 0,.bool false] 143;clear HS;obtain⟨V5,gN,HEV5,HGgN,HS⟩:=hLy;go_upto_region 12 with fail
     rw[HEV5.out]
     try rw[HGgN.out]
     go_upto_region 13 with (refine wpList_store_one rfl 3 _ _ rfl gN 0 rfl (.int .i64 lo) rfl rfl _ (HS.out.get 0 rfl) (Nat.le_of_ble_eq_true rfl) (by kernel_rfl) rfl ?_;intro V6 hAn hMn)
     obtain⟨n,hn⟩:∃n:Nat,hi - lo+1=(n:Int):=⟨(hi - lo+1).toNat,by have:=HA3.out.2.2.1;omega⟩
     have HN:=ak hn;have HI0:Hid (Below gN V4 V6∧gN+1≤V6.heap.size∧∃u1 u2,Cm.Pl (gN+1) gN lo (Cm.run (Cm.yr s x.2) lo 0) u1 u2 V6):=by
      have hsz:V6.heap.size=V4.heap.size+1:=by
       obtain⟨o9,vs9,rfl⟩:=hMn;rw[size_cells,← HEV5.out,World.size_alloc]
      have h5:Below gN V4 V5:=by
       rw[← HGgN.out,← HEV5.out];exact al
      refine⟨hMn.below (Nat.le_refl _) h5,by have:=HGgN.out;omega,.slice none 0 0,.slice none 0 0,hAn,World.ownsRow_nil _ _ _ _,World.ownsRow_nil _ _ _ _,Nat.lt_succ_self _⟩
     clear hAn hMn HS hn;go_wp2_with fail
     go_loopw [14] (fun i wr=>∃k:Nat,k≤n∧i=.int .i64 (lo+(k:Int))∧Hid (Below gN V4 wr∧gN+1≤wr.heap.size∧∃u1 u2,Cm.Pl (gN+1) gN lo (Cm.run (Cm.yr s x.2) lo k) u1 u2 wr)) (fun i _=>(hi+1 - intOf i).toNat)
     case atStart=>exact⟨0,Nat.zero_le _,by rw[Int.natCast_zero,Int.add_zero],HI0.out⟩
     case round=>
      clear HI0;obtain⟨k,hk,rfl,HI⟩:=hrel
      by_cases hlt:k<n
      ·obtain⟨hbl,hsz,u1,u2,hpl⟩:=HI.out;have hnn:=HN.out;have hin:=HA3.out;have hgd:=Cm.good_zone hRu hzo hin (by omega) (n:=k) (by omega);have hbV:Below V4.heap.size V4 wr:=by rw[HGgN.out];exact hbl
       have hRl:=(HRd.out.below hbV).more hbV.size;have hLk:=lookLine_any hRu hzo hin (y:=lo+(k:Int)) (by omega) (by omega) vA _ vc wr rfl (by have:=HLl.out;omega) HV.out.1 HV.out.2 hRl;have hiy:Ln.InY (lo+(k:Int)) (lo+(k:Int)):=⟨by have:=hin.1;omega,by have:=hin.2.1;omega,Int.le_refl _,by omega⟩
       have HPY:=ak (plYear_any (Cm.yr s x.2) lo (lo+(k:Int)) (Cm.run (Cm.yr s x.2) lo k) u1 u2 gN (gN+1) vA _ vc wr hpl hsz (HLe.out.below (below_then HS4.out.b hbV)) ⟨by omega,by have:=hin.2.1;omega⟩ (Cm.of_line hRu hzo hiy) (by have:=Tp.len_le hRu hzo hiy;unfold Cm.yr;omega) (fun q hq=>by have:=Cm.off_bd hRu hzo hiy hq;omega) hgd.ok (by rw[hgd.lr];have:=hin.2.2.2;omega) (by rw[hgd.lw];have:=hin.2.2.2;omega) (fun h=>by rw[hgd.lr];exact Cm.found_pos h) hLk);have q1:lo+(k:Int)≤hi:=(by omega);have wk:IntKind.i64.wrap (lo+(k:Int)+1)=lo+(k:Int)+1:=by have:=hin.2.1;have:=hin.1;rw[IntKind.wrap_i64];omega
       have HBl:=ak hbl;have HSz:=ak hsz;clear hbl hsz hpl hnn hin hgd hbV hRl hLk hiy HI;go_wp2_with fail
       refine HPY.out.mono ?_;rintro e W7 ⟨rfl,hb7,hz7,v1',v2',hp7⟩;have HI7:Hid (Below gN V4 W7∧gN+1≤W7.heap.size∧∃u1 u2,Cm.Pl (gN+1) gN lo (Cm.run (Cm.yr s x.2) lo (k+1)) u1 u2 W7):=⟨HBl.out.trans hb7,Nat.le_trans HSz.out hz7,v1',v2',hp7⟩
       clear hb7 hz7 hp7 HPY HBl HSz;go_wp2_with fail
       go_roundw
       case rel=>exact⟨k+1,by omega,by simp only[Int.natCast_add,Int.natCast_one,Int.add_assoc],HI7.out⟩
       case measure=>simp[intOf];omega
      ·have hkn:k=n:=(by omega);subst hkn;have hnn:=HN.out;have q1:¬lo+(k:Int)≤hi:=(by omega);obtain⟨hbl,hsz,u1,u2,hpl⟩:=HI.out;have hgd:=Cm.good_zone hRu hzo HA3.out (by omega) (n:=k) (by omega);have h1:=hpl.r;have h2:=hpl.q;rw[hgd.lr] at h1;rw[hgd.lw] at h2;obtain⟨B1,d1',rfl,_,_⟩:=own_slice_cap h1;obtain⟨B2,d2',rfl,_,_⟩:=own_slice_cap h2;have HS:=ak (show St w wr [(gS+1,[.int .i64 0,.slice none 0 0,.slice none 0 0]),(gS,[rv,zv,lv])] from⟨HS4.out.b.trans (below_le hbl (by have:=HGgN.out;have:=HS4.out.b.size;omega)),Ats.below HS4.out.z hbl (fun q hq=>by have:=HS4.out.z.lts q hq;have:=HGgN.out;omega)⟩);have HAT:=ak hpl.at_;have HW1:=ak h1;have HW2:=ak h2;have HQN:Hid (gS+1<gN):=by
        have:=HS4.out.z.lts (gS+1,_) (List.mem_cons_self ..);have:=HGgN.out;show gS+1<gN
        omega
       clear hbl hsz hpl hgd h1 h2 HI hlt;go_wp2_with (first|(refine wpList_load_arr rfl 53 _ rfl gN 0 rfl #[.int .i64 lo,.slice B1 k d1',.slice B2 k d2'] (HAT.out.mid 0 _ (fun j v hv=>by rw[Nat.zero_add];match j,hv with|0,h=>exact h|1,h=>exact h|2,h=>exact h|_+3,h=>simp at h)) _ Tryz.underlying53 rfl (by kernel_rfl) ?_)|(refine wpList_store_all rfl 53 _ _ rfl (gS+1) rfl #[.int .i64 lo,.slice B1 k d1',.slice B2 k d2'] rfl _ (HS.out.get 0 rfl) (by rfl) (by kernel_rfl) (by first|exact Sm.S.arr_one _|exact Rc.R.arr_one _|simp[Value.oneCell']) ?_;intro Y1 hAn hMn))
       have HM:=ak hMn;replace HS:Hid (St w Y1 [(gS+1,[.int .i64 lo,.slice B1 k d1',.slice B2 k d2']),(gS,[rv,zv,lv])]):=HS.out.put 0 rfl hMn hAn;clear hMn hAn;rw[← HP.out];refine bodyPost_ret (res_ct (p:=8) (q:=9) rfl (HS.out.get 0 rfl) _ Tryz.underlying53 rfl (by kernel_rfl) rfl rfl) rfl ?_;refine⟨HS.out.b,.inr ⟨x,k,_,_,HE1.out,HE3.out,HA1.out,by rw[HE2.out];exact HA2.out,HA3.out,by omega,HN.out.symm,rfl,?_,?_⟩⟩
       ·exact Oc.own_low (HM.out.own (fun q=>by have:=(HW1.out.lt _ q).1;have:=HQN.out;omega) HW1.out) (by have:=HS4.out.b.size;have:=HGgN.out;omega)
       ·exact Oc.own_low (HM.out.own (fun q=>by have:=(HW2.out.lt _ q).1;have:=HQN.out;omega) HW2.out) (by have:=HS4.out.b.size;have:=HGgN.out;omega)
end Go.Proofs.YtjobhjemnmleaaaGreatDoor
namespace Go.Proofs.YtjobhjemnmleaaaGreatDoor
open Go.RowKit Go.Sort
theorem cmCheck_ok (lo:Int)(rs:List Rc.R)(ws:List Int)(g1:Nat)(a2:Addr)(n c1 c2:Nat)(w:World)(hL:Lens w)(h1:rs.length=n)(h2:ws.length=n)(hn:0<n)(hn2:n≤400)(hlo:1601≤lo)(hhi:lo+(n:Int)≤10000)(hok:∀r∈rs,Rc.Ok r∧Rc.I r)(hwb:∀x∈ws,0≤x∧x<6)
  (hR:∀(i:Nat) (r:Rc.R),rs[i]?=some r→w.rangeAt g1 (i*19) r.arr.toList) (hg1:g1<w.heap.size) (hW:Reads w w.heap.size 1 (some a2) n (Cm.wc ws)):
  Calls Tryz.prog 26 #[.agg #[.int .i64 lo,.slice (some ⟨g1,0,none⟩) n c1,.slice (some a2) n c2]] w fun e w'=>e=.returned (.int .i64 0)∧Below w.heap.size w w':=by
 have had:∀j,(⟨g1,0,none⟩:Addr).add j=⟨g1,j,none⟩:=add_zero_at g1;have p1:¬lo<1601:=by omega
 have p1':=decide_eq_false p1;have p2:((n:Int) == 0)=false:=bqf (by omega);have p3:¬(400:Int)<(n:Int):=by omega
 have p3':=decide_eq_false p3;have p4:((n:Int) == (n:Int))=true:=by rw[beq_iff_eq]
 have p5:((n:Int) != (n:Int))=false:=by rw[bne_eq_false_iff_eq]
 have w1:IntKind.i64.wrap (9999 - (n:Int))=9999 - (n:Int):=by rw[IntKind.wrap_i64];omega
 have w2:IntKind.i64.wrap (9999 - (n:Int)+1)=9999 - (n:Int)+1:=by rw[IntKind.wrap_i64];omega
 have p6:¬9999 - (n:Int)+1<lo:=by omega
 have HCk:=ak fun r (hr:r∈rs) W (hb:Below w.heap.size w W)=>rcCheck_any r W (hL.below hb) (hok r hr).2
 have HOk:=ak hok;have HWb:=ak hwb;have HR:=ak hR;have HW:=ak hW;have HG:=ak hg1;have H1:=ak h1;have H2:=ak h2;have HN2:=ak hn2;clear hL hok hwb hR hW hg1 h1 h2 hlo hhi hn2;obtain⟨V1,gP,HEV1,HGgP,HS⟩:=(St.start w).lay #[.int .i64 lo,.slice (some ⟨g1,0,none⟩) n c1,.slice (some a2) n c2] 53;have P0:=(HS.out.get 0 rfl).cell 0 _ rfl;have P1:=(HS.out.get 0 rfl).cell 1 _ rfl;have P2:=(HS.out.get 0 rfl).cell 2 _ rfl;have zP:=(HS.out.get 0 rfl).lt;go_enter Tryz.func26,Tryz.ntmps26
 go_upto_region 1 with fail
 rw[HEV1.out]
 try rw[HGgP.out]
 go_wp2_with fail
 clear P0 P1 P2 zP;go_loopw [36] (fun i wr=>∃k:Nat,k≤n∧i=.int .i64 (k:Int)∧Hid (St w wr [(gP,[.int .i64 lo,.slice (some ⟨g1,0,none⟩) n c1,.slice (some a2) n c2])])) (fun i _=>n - (intOf i).toNat)
 case atStart=>exact⟨0,Nat.zero_le _,rfl,by first|exact HS.out|exact HS.out.drewN _|exact HS.out.drew⟩
 case round=>
  clear HS;obtain⟨k,hk,rfl,HS⟩:=hrel
  by_cases hlt:k<n
  ·have q1:=am k
   have q2:(k:Int)<(n:Int):=(by omega);have wk:IntKind.i64.wrap ((k:Int)+1)=(k:Int)+1:=by have:=HN2.out;rw[IntKind.wrap_i64];omega
   obtain⟨r,hr⟩:∃r,rs[k]?=some r:=⟨_,List.getElem?_eq_getElem (by rw[H1.out];exact hlt)⟩
   obtain⟨x,hx⟩:∃x,ws[k]?=some x:=⟨_,List.getElem?_eq_getElem (by rw[H2.out];exact hlt)⟩
   have hxb:=HWb.out x (List.mem_of_getElem? hx);have hrt:Rc.right r=true:=by unfold Rc.right;rw[decide_eq_true_eq];exact(HOk.out r (List.mem_of_getElem? hr)).1
   have hck:=fun W hb=>HCk.out r (List.mem_of_getElem? hr) W hb
   simp only[hrt,Rc.R.v_arr] at hck;have HK:=ak hck;have HRk:Hid (wr.rangeAt g1 (k*19) r.arr.toList):=fun j v hv=>(HS.out.b.cell (p:=⟨g1,k*19+j,none⟩) HG.out).trans (HR.out k r hr j v hv)
   have HX:Hid (∀W,Below w.heap.size w W→W.cell? (a2.add k)=some (.int .u8 x)):=fun W hb=>by
    obtain⟨ad,e,hbk,hc⟩:=(HW.out.below hb).2 (by omega);obtain rfl:=Option.some.inj e;exact hc k _ (by unfold Cm.wc;rw[List.getElem?_map,hx];rfl)
   have x6:¬(6:Int)≤x:=(by omega);have x6':=decide_eq_false x6;clear hr hx hxb hrt hck;obtain⟨gE,HGgE⟩:∃q,Hid (wr.heap.size=q):=⟨_,rfl⟩
   go_upto_region 9 with (first|(refine wpList_load_arr rfl 49 _ rfl g1 (k*19) rfl r.arr HRk.out _ Tryz.underlying49 rfl (by kernel_rfl) ?_)|(refine wpList_store_all rfl 49 _ _ rfl wr.heap.size rfl (r.arr) rfl _ (At.new wr #[.int .i32 0,.int .i32 0,.int .i32 0,.int .u16 0,.int .u16 0,.int .u16 0,.int .u16 0,.int .u16 0,.int .u16 0,.int .u16 0,.int .u16 0,.int .u16 0,.int .u16 0,.int .u16 0,.int .u16 0,.int .u16 0,.int .u16 0,.int .u16 0,.int .u16 0] 49) (by rfl) (by kernel_rfl) (by first|exact Sm.S.arr_one _|exact Rc.R.arr_one _|simp[Value.oneCell']) ?_;intro W1 hAn hMn))
   rw[HGgE.out];replace HS:=ak (HS.out.laid #[.int .i32 0,.int .i32 0,.int .i32 0,.int .u16 0,.int .u16 0,.int .u16 0,.int .u16 0,.int .u16 0,.int .u16 0,.int .u16 0,.int .u16 0,.int .u16 0,.int .u16 0,.int .u16 0,.int .u16 0,.int .u16 0,.int .u16 0,.int .u16 0,.int .u16 0] 49 hMn hAn);rw[HGgE.out] at HS;clear hMn hAn;go_wp2_with (refine wpList_load_arr rfl 49 _ rfl (gE) 0 rfl (r.arr) (HS.out.get 0 rfl).range _ Tryz.underlying49 rfl (by kernel_rfl) ?_)
   refine(HK.out _ HS.out.b).mono ?_;rintro e W5 ⟨rfl,hb⟩;replace HS:=ak (HS.out.call hb);clear hb;have P0:=(HS.out.get 1 rfl).cell 0 _ rfl;have P1:=(HS.out.get 1 rfl).cell 1 _ rfl;have P2:=(HS.out.get 1 rfl).cell 2 _ rfl;have zP:=(HS.out.get 1 rfl).lt;have c0:=HX.out _ HS.out.b;clear HRk HK HX;go_wp2_with fail
   try go_quiet (fail)
   try go_wp2_with fail
   go_roundw
   case rel=>exact⟨k+1,by omega,by go_num,by first|exact⟨HS.out.b,HS.out.z.2.2.2⟩|exact⟨(HS.out.drewN _).b,(HS.out.drewN _).z.2.2.2⟩|exact⟨HS.out.drew.b,HS.out.drew.z.2.2.2⟩⟩
   case measure=>simp[intOf];omega
  ·have hkn:k=n:=(by omega);subst hkn;have q2:¬(k:Int)<(k:Int):=(by omega);go_wp2;go_ret
   exact⟨rfl,HS.out.b⟩
namespace Cm
open Od
end Cm
end Go.Proofs.YtjobhjemnmleaaaGreatDoor
namespace Go.Proofs.YtjobhjemnmleaaaGreatDoor
open Go.RowKit Go.Sort
theorem quiet_load_gar {ops:Array Oper}{Lq:Act→Prop}{rest:List Oper}{o:Oper}{a:Act}{w:World}(hwt:Region.wanted o (yielded ops a.tmps)=true)(ty:TypeId)(x:Operand)(ho:o.op=.load ty x)
  (g off:Nat) (hx:a.eval x=.pointer (some ⟨g,off,none⟩)) (ca:Array Value) (hA:w.rangeAt g off ca.toList) (d:TypeDesc)
  (hu:Tryz.prog.underlying ty=some d) (hd:d.isRow=true) (hi:(Tryz.prog.info? ty).map (·.size)=some ca.size)
  (h:wpQuiet Tryz.prog ops (fun w'=>∃p:Regrown,w'=grow (redrawn w p.d) p.os) Lq rest (a.put o.dst (.agg ca))):wpQuiet Tryz.prog ops (fun w'=>∃p:Regrown,w'=grow (redrawn w p.d) p.os) Lq (o :: rest) a:=by
 unfold wpQuiet;rw[if_pos hwt];refine⟨.agg ca,?_,h⟩;rintro w' ⟨p,rfl⟩;have hr:=run_loadVar_mid (P:=Tryz.prog) (grow (redrawn w p.d) p.os) g off ty ca.toList d (fun j v hv=>cell_regrown (hA j v hv) _ _) hu hd (by simpa using hi);unfold Oper.quietAt execOp;simp only[ho,hx,Instr.loadAt,Instr.sureAddr,Sem.run_bind,Sem.run_pure,Result.andThen_ok,hr];exact⟨rfl,by simp⟩
namespace Cm
structure Rd (B n g1 g2 c1 c2:Nat)(p:P)(w:World):Prop where
 r:w.ownsRow B 49 19 (.slice (some ⟨g1,0,none⟩) n c1) n (rc p.recs)
 q:w.ownsRow B 56 1 (.slice (some ⟨g2,0,none⟩) n c2) n (wc p.why)
 k1:n≤c1∧c1≤maxLen
 k2:n≤c2∧c2≤maxLen
section
variable {B n g1 g2 c1 c2:Nat} {p:P} {w w':World}
theorem Rd.call (h:Rd B n g1 g2 c1 c2 p w)(hb:Below w.heap.size w w'):Rd B n g1 g2 c1 c2 p w':=⟨own_below h.r hb,own_below h.q hb,h.k1,h.k2⟩
theorem Rd.lt1 (h:Rd B n g1 g2 c1 c2 p w):g1<w.heap.size:=(h.r.lt g1 rfl).2
theorem Rd.lt2 (h:Rd B n g1 g2 c1 c2 p w):g2<w.heap.size:=(h.q.lt g2 rfl).2
theorem Rd.row (h:Rd B n g1 g2 c1 c2 p w){i:Nat}{r:Rc.R}(hr:p.recs[i]?=some r):w.rangeAt g1 (i*19) r.arr.toList:=fun j v hv=>by
 obtain⟨_,_,e,_,_,_,_,hc⟩:=own_at_ h.r (by
  have h1:=(List.getElem?_eq_some_iff.1 hr).1;have h2:=h.r.1;rw[rc_len] at h2;omega)
 cases e
 exact(hc _ _ (rc_get hr j v hv)).1
theorem Rd.why (h:Rd B n g1 g2 c1 c2 p w):Reads w w.heap.size 1 (some ⟨g2,0,none⟩) n (wc p.why):=Reads.of_own h.q
theorem Rd.why_at (h:Rd B n g1 g2 c1 c2 p w){i:Nat}{x:Int}(hx:p.why[i]?=some x):w.cell? ⟨g2,i,none⟩=some (.int .u8 x):=by
 have hl:(wc p.why)[i]?=some (.int .u8 x):=by unfold wc;rw[List.getElem?_map,hx];rfl
 obtain⟨_,_,e,_,_,_,_,hc⟩:=own_at_ h.q (by
  have h1:=(List.getElem?_eq_some_iff.1 hl).1;have h2:=h.q.1;omega)
 cases e
 exact(hc _ _ hl).1
end
theorem rd_of {B n:Nat}{p:P}{u1 u2:Value}{w:World}(hn:0<n)(h1:w.ownsRow B 49 19 u1 n (rc p.recs))(h2:w.ownsRow B 56 1 u2 n (wc p.why)):
  ∃g1 g2 c1 c2,u1=.slice (some ⟨g1,0,none⟩) n c1∧u2=.slice (some ⟨g2,0,none⟩) n c2∧Rd B n g1 g2 c1 c2 p w∧B≤g1∧B≤g2:=by
 obtain⟨g1,c1,rfl,a1,a2,a3,_,_⟩:=own_at_ h1 hn;obtain⟨g2,c2,rfl,b1,b2,b3,_,_⟩:=own_at_ h2 hn;exact⟨g1,g2,c1,c2,rfl,rfl,⟨h1,h2,⟨a2,a3⟩,⟨b2,b3⟩⟩,a1,b1⟩
structure Zn (s:Src.S)(nm:ByteArray)(lo hi:Int)(x:Src.Txt × List Er.E)(n:Nat):Prop where
 sb:Src.srcB s=true
 le:(Lk.walk s nm).2.2=0
 wl:Vd.well s=true
 zn:Eg.zoneAt s (Lk.walk s nm).2.1=some x
 iny:Ln.InY lo hi
 n:(n:Int)=hi - lo+1
 lo:1601≤lo
theorem Zn.mem {s:Src.S}{nm:ByteArray}{lo hi:Int}{x:Src.Txt × List Er.E}{n:Nat}(h:Zn s nm lo hi x n):x∈s.zones:=by
 have hx:=h.zn;unfold Eg.zoneAt at hx;split at hx
 ·exact List.mem_of_getElem? hx
 ·cases hx
theorem Zn.zo {s:Src.S}{nm:ByteArray}{lo hi:Int}{x:Src.Txt × List Er.E}{n:Nat}(h:Zn s nm lo hi x n):Eg.ZoneOk x.2:=Eg.zone_ok h.wl h.mem
theorem Zn.pos {s:Src.S}{nm:ByteArray}{lo hi:Int}{x:Src.Txt × List Er.E}{n:Nat}(h:Zn s nm lo hi x n):0<n∧n≤400∧lo+(n:Int)=hi+1∧lo+(n:Int)≤10000:=by
 have h1:=h.n;obtain⟨k1,k2,k3,k4⟩:=h.iny;omega
theorem Zn.err {s:Src.S}{nm:ByteArray}{lo hi:Int}{x:Src.Txt × List Er.E}{n:Nat}(h:Zn s nm lo hi x n):Cm.err (Src.srcB s) (Vd.well s) (Eg.zoneAt s (Lk.walk s nm).2.1).isSome (Lk.walk s nm).2.2 lo hi=0:=by
 rw[h.sb,h.le,h.wl,h.zn];have h1:=h.iny;have h2:=h.lo;unfold Ln.InY at h1;simp[Cm.err,h1]
 omega
theorem Zn.good {s:Src.S}{nm:ByteArray}{lo hi:Int}{x:Src.Txt × List Er.E}{n:Nat}(h:Zn s nm lo hi x n)(hr:Eg.RulesOk s.rules):Good (yr s x.2) lo n (run (yr s x.2) lo n):=good_zone hr h.zo h.iny h.lo (by have:=h.pos.2.2.1;omega)
theorem ZoneRet.cases {s : Src.S} {nm : ByteArray} {lo hi : Int} {w w' : World} {e : Ending} (h : ZoneRet s nm lo hi w e w') : Below w.heap.size w w' ∧
    ((∃ er, Bad s nm lo hi er ∧ e = .returned (.tuple #[.agg #[.int .i64 0, .slice none 0 0, .slice none 0 0], .int .i64 er])) ∨
     (∃ x n g1 g2 c1 c2, Zn s nm lo hi x n ∧ e = .returned (.tuple #[.agg #[.int .i64 lo, .slice (some ⟨g1, 0, none⟩) n c1, .slice (some ⟨g2, 0, none⟩) n c2], .int .i64 0]) ∧ Rd w.heap.size n g1 g2 c1 c2 (run (yr s x.2) lo n) w')) := by
  obtain ⟨hb, h | ⟨x, n, u1, u2, a1, a2, a3, a4, a5, a6, a7, rfl, ho1, ho2⟩⟩ := h
  · exact ⟨hb, .inl h⟩
  · have hz : Zn s nm lo hi x n := ⟨a1, a2, a3, a4, a5, a7, a6⟩
    obtain ⟨g1, g2, c1, c2, rfl, rfl, hrd, _, _⟩ := rd_of hz.pos.1 ho1 ho2;exact ⟨hb, .inr ⟨x, n, g1, g2, c1, c2, hz, rfl, hrd⟩⟩
theorem ZoneRet.good {s:Src.S}{nm:ByteArray}{lo hi:Int}{w w':World}{e:Ending}(h:ZoneRet s nm lo hi w e w')(he:Cm.err (Src.srcB s) (Vd.well s) (Eg.zoneAt s (Lk.walk s nm).2.1).isSome (Lk.walk s nm).2.2 lo hi=0):
  ∃x n g1 g2 c1 c2,Zn s nm lo hi x n∧e=.returned (.tuple #[.agg #[.int .i64 lo,.slice (some ⟨g1,0,none⟩) n c1,.slice (some ⟨g2,0,none⟩) n c2],.int .i64 0])∧Rd w.heap.size n g1 g2 c1 c2 (run (yr s x.2) lo n) w'∧Below w.heap.size w w':=by
 obtain⟨hb,⟨er',hbd,rfl⟩|⟨x,n,g1,g2,c1,c2,hz,he,hrd⟩⟩:=h.cases
 ·exact absurd (hbd.2.symm.trans he) hbd.1
 ·exact⟨x,n,g1,g2,c1,c2,hz,he,hrd,hb⟩
theorem Rd.check {f:Int→List Ln.Sp}{B n g1 g2 c1 c2:Nat}{lo:Int}{p:P}{w:World}(h:Rd B n g1 g2 c1 c2 p w)(hg:Good f lo n p)(hn:0<n∧n≤400)(h1:1601≤lo)(h2:lo+(n:Int)≤10000)(hL:Lens w):
  Calls Tryz.prog 26 #[.agg #[.int .i64 lo,.slice (some ⟨g1,0,none⟩) n c1,.slice (some ⟨g2,0,none⟩) n c2]] w fun e w'=>e=.returned (.int .i64 0)∧Below w.heap.size w w':=
 cmCheck_ok lo p.recs p.why g1 _ n c1 c2 w hL hg.lr hg.lw hn.1 hn.2 h1 h2 hg.ok (why_get hg) (fun _ _ hr=>h.row hr) h.lt1 h.why
end Cm
end Go.Proofs.YtjobhjemnmleaaaGreatDoor
namespace Go.Proofs.YtjobhjemnmleaaaGreatDoor
open Go.RowKit
namespace Cp
def Near (s:Src.S)(lo hi:Int)(w:World)(e:Ending)(w':World):Prop:=(e=.returned (.int .i64 0)∨(e=.returned (.int .i64 1)∧Src.Few s∧hi≤2098∧1500≤lo∧(lo≤hi→hi - lo≤30)))∧Below w.heap.size w w'
end Cp
theorem near27_some (s:Src.S)(rv zv lv:Value)(evs:List Value)(lo hi:Int)(w:World)(hR:Src.SrcR w w.heap.size s rv zv lv evs)(hw:Src.Wide s)(hlo:-9223372036854775808≤lo∧lo<9223372036854775808)(hhi:-9223372036854775808≤hi∧hi<9223372036854775808):
  Calls Tryz.prog 12 #[.agg #[rv,zv,lv],.int .i64 lo,.int .i64 hi] w (Cp.Near s lo hi w):=by
 have HNe0:=ak fun W (hb:Below w.heap.size w W)=>near16_some s rv zv lv evs 2100 W (hR.call hb) hw (by omega)
 obtain⟨rA,rc,rfl,_⟩:=hR.rules;obtain⟨zA,zc,rfl,_⟩:=hR.zones;obtain⟨lA,lc,rfl,_⟩:=hR.links;obtain⟨n1,hn1⟩:=aj (s.rules.length)
 obtain⟨n2,hn2⟩:=aj (s.zones.length)
 obtain⟨n3,hn3⟩:=aj (s.links.length)
 rw[hn1,hn2,hn3] at HNe0;rw[hn1,hn2,hn3];clear hn1 hn2 hn3 hR hw;obtain⟨V1,hV1⟩:=aj ((w.alloc (.cells #[.slice rA n1 rc,.slice zA n2 zc,.slice lA n3 lc] 26)))
 obtain⟨gA,hgA⟩:=aj (w.heap.size)
 have hbn:Below w.heap.size w V1:=by rw[← hV1];exact al
 have hAA:At V1 gA [.slice rA n1 rc,.slice zA n2 zc,.slice lA n3 lc]:=by
  have h:=(At.new w #[.slice rA n1 rc,.slice zA n2 zc,.slice lA n3 lc] 26)
  rw[hV1] at h
  try rw[hgA] at h
  exact h
 have geA:w.heap.size≤gA:=by have:=(Below.refl w.heap.size w).size;omega
 have hBz:=below_then (Below.refl w.heap.size w) hbn;have HB:=ak hBz;clear hBz;have HAA:=ak hAA;have HEV1:=ak hV1;have HGgA:=ak hgA;clear hbn hV1 hgA hAA;have HNe:=ak (HNe0.out _ HB.out);clear HNe0;have A0:=HAA.out.cell 0 _ rfl;have A1:=HAA.out.cell 1 _ rfl;have A2:=HAA.out.cell 2 _ rfl;have zA:=HAA.out.lt;go_enter Tryz.func12,Tryz.ntmps12
 go_upto_region 1 with fail
 rw[HEV1.out]
 try rw[HGgA.out]
 go_wp2_with fail
 clear A0 A1 A2 zA;refine HNe.out.mono ?_;rintro e V2 ⟨he,hb⟩;have hBz:=below_then HB.out hb;clear HB;have HB:=ak hBz;clear hBz;have hAz:=HAA.out.call hb;clear HAA;have HAA:=ak hAz;clear hAz;clear hb;rcases he with rfl|⟨rfl,hf⟩
 ·have HF:Hid (Cp.Near s lo hi w (.returned (.int .i64 0)) V2):=⟨.inl rfl,HB.out⟩
  go_wp2;go_ret
  exact HF.out
 have HFw:=ak hf;clear hf;have hc:(2098<hi)∨(¬2098<hi∧lo<1500)∨(¬2098<hi∧¬lo<1500∧30<hi - lo)∨(¬2098<hi∧¬lo<1500∧¬30<hi - lo):=by omega
 have HF0:Hid (Cp.Near s lo hi w (.returned (.int .i64 0)) V2):=⟨.inl rfl,HB.out⟩
 rcases hc with p1|⟨p1,p2⟩|⟨p1,p2,p3⟩|⟨p1,p2,p3⟩
 ·go_wp2;go_ret
  exact HF0.out
 ·go_wp2;go_ret
  exact HF0.out
 ·go_wp2;go_ret
  exact HF0.out
 ·by_cases hw1:hi - lo < -9223372036854775808
  ·have u1:wrap64 (hi - lo)=hi - lo+18446744073709551616:=by unfold wrap64;omega
   have u2:IntKind.i64.wrap (hi - lo)=hi - lo+18446744073709551616:=by rw[IntKind.wrap_i64];omega
   have HF1:Hid (Cp.Near s lo hi w (.returned (.int .i64 1)) V2):=⟨.inr ⟨rfl,HFw.out,by omega,by omega,fun h=>by omega⟩,HB.out⟩
   obtain⟨q,hq⟩:=aj (hi - lo+18446744073709551616)
   rw[hq] at u1 u2;clear hq hw1 p3
   by_cases u3:30<q
   ·go_wp2;go_ret
    exact HF0.out
   ·go_wp2;go_ret
    exact HF1.out
  ·have HF1:Hid (Cp.Near s lo hi w (.returned (.int .i64 1)) V2):=⟨.inr ⟨rfl,HFw.out,by omega,by omega,fun _=>by omega⟩,HB.out⟩
   go_wp2;go_ret
   exact HF1.out
end Go.Proofs.YtjobhjemnmleaaaGreatDoor
namespace Go.Proofs.YtjobhjemnmleaaaGreatDoor
open Go.RowKit
namespace Ln
theorem take_more {α:Type}{l m:List α}{k:Nat}{a:α}(h:l.take k=m.take k)(h1:l[k]?=some a)(h2:m[k]?=some a):l.take (k+1)=m.take (k+1):=by
 rw[List.take_add_one,List.take_add_one,h,h1,h2]
def spSame (a b:Sp):Bool:=decide (a.fr=b.fr) && (decide (a.off=b.off) && decide (a.dst=b.dst))
theorem spSame_iff (a b:Sp):spSame a b=true↔a=b:=by
 obtain⟨x,y,z⟩:=a;obtain⟨x',y',z'⟩:=b;simp only[spSame,Bool.and_eq_true,decide_eq_true_eq,Sp.mk.injEq]
theorem and_if {p:Prop}[Decidable p]{q:Bool}{w:World}{R:Result Bool}(h:R=.ok q w):(if p then R else .ok false w)=.ok (decide p && q) w:=by
 by_cases hp:p
 ·rw[if_pos hp,h,decide_eq_true hp,Bool.true_and]
 ·rw[if_neg hp,decide_eq_false hp,Bool.false_and]
theorem last_if (p:Prop)[Decidable p](w:World):(if p then (.ok true w:Result Bool) else .ok false w)=.ok (decide p) w:=by
 by_cases hp:p
 ·rw[if_pos hp,decide_eq_true hp]
 ·rw[if_neg hp,decide_eq_false hp]
end Ln
theorem span_same (a b:Ln.Sp)(w:World):(Op.equalIn 10000 164 (.agg #[.int .i64 a.fr,.int .i64 a.off,.bool a.dst]) (.agg #[.int .i64 b.fr,.int .i64 b.off,.bool b.dst])).run Tryz.prog w=.ok (Ln.spSame a b) w:=by
 obtain⟨x,y,z⟩:=a;obtain⟨x',y',z'⟩:=b;unfold Ln.spSame;simp only;go_simp
 iterate 2 refine Ln.and_if ?_
 exact Ln.last_if _ _
theorem same18_any (A A':Option Addr)(n n' c c':Nat)(l l':List Ln.Sp)(w:World)(hn:n≤maxLen)(hn':n'≤maxLen)(h1:l.length=n)(h2:l'.length=n')(hr:Reads w w.heap.size 3 A n (l.flatMap Ln.Sp.cells))(hr':Reads w w.heap.size 3 A' n' (l'.flatMap Ln.Sp.cells)):
  Calls Tryz.prog 25 #[.slice A n c,.slice A' n' c'] w fun e w'=>e=.returned (.bool (decide (l=l')))∧Drew w w':=by
 unfold maxLen at hn hn'
 by_cases he:n=n'
 ·subst he;have q0:((n:Int) != (n:Int))=false:=by simp
  have H1:=ak h1;have H2:=ak h2;have HR:=ak hr;have HR':=ak hr';clear h1 h2 hr hr';go_enter Tryz.func25,Tryz.ntmps25
  go_wp2;go_loopw [13] (fun i wr=>∃k:Nat,k≤n∧i=.int .i64 k∧Hid (Drew w wr)∧Hid (l.take k=l'.take k)) (fun i _=>n - (intOf i).toNat)
  case atStart=>exact⟨0,Nat.zero_le _,rfl,Drew.refl w,rfl⟩
  case round=>
   obtain⟨k,hk,rfl,HD,HE⟩:=hrel
   by_cases hlt:k<n
   ·obtain⟨x,hx⟩:∃m,l[k]?=some m:=⟨_,List.getElem?_eq_getElem (by rw[H1.out];exact hlt)⟩
    obtain⟨y,hy⟩:∃m,l'[k]?=some m:=⟨_,List.getElem?_eq_getElem (by rw[H2.out];exact hlt)⟩
    obtain⟨ad,x',rfl,_,Hx,HL0⟩:=Ix.reads_cells (enc:=Ln.Sp.cells) (m:=3) (fun _=>rfl) H1.out (HR.out.of_drew HD.out) hlt;obtain⟨ad',y',rfl,_,Hy,HL0'⟩:=Ix.reads_cells (enc:=Ln.Sp.cells) (m:=3) (fun _=>rfl) H2.out (HR'.out.of_drew HD.out) hlt;have ex:x'=x:=by have:=Hx.out;rw[hx] at this;exact(Option.some.inj this).symm
    have ey:y'=y:=by have:=Hy.out;rw[hy] at this;exact(Option.some.inj this).symm
    have c0:wr.cell? (ad.add (k*3))=some (.int .i64 x.fr):=by rw[← ex];exact HL0.out 0 _ rfl
    have c1:wr.cell? ⟨(ad.add (k*3)).block,(ad.add (k*3)).off+1,none⟩=some (.int .i64 x.off):=by rw[← ex];exact HL0.out 1 _ rfl
    have c2:wr.cell? ⟨(ad.add (k*3)).block,(ad.add (k*3)).off+2,none⟩=some (.bool x.dst):=by rw[← ex];exact HL0.out 2 _ rfl
    have d0:wr.cell? (ad'.add (k*3))=some (.int .i64 y.fr):=by rw[← ey];exact HL0'.out 0 _ rfl
    have d1:wr.cell? ⟨(ad'.add (k*3)).block,(ad'.add (k*3)).off+1,none⟩=some (.int .i64 y.off):=by rw[← ey];exact HL0'.out 1 _ rfl
    have d2:wr.cell? ⟨(ad'.add (k*3)).block,(ad'.add (k*3)).off+2,none⟩=some (.bool y.dst):=by rw[← ey];exact HL0'.out 2 _ rfl
    clear ex ey Hx Hy HL0 HL0';have q1:=am k
    have q2:(k:Int)<(n:Int):=(by omega);have hq:=span_same x y
    by_cases hxy:x=y
    ·subst hxy;have HN:=ak (Ln.take_more HE.out hx hy);rw[(Ln.spSame_iff x x).2 rfl] at hq;clear hx hy;go_wp2;go_quiet (fail)
     go_wp2;go_roundw
     case rel=>exact⟨k+1,by omega,by go_num,by first|exact HD.out|exact HD.out.drewN _,HN⟩
     case measure=>simp[intOf];omega
    ·have hs:Ln.spSame x y=false:=by
      cases h:Ln.spSame x y with
      |false=>rfl
      |true=>exact absurd ((Ln.spSame_iff x y).1 h) hxy
     have HN:Hid (decide (l=l')=false):=by
      show decide (l=l')=false
      apply decide_eq_false;intro e;apply hxy;rw[e,hy] at hx;exact(Option.some.inj hx).symm
     rw[hs] at hq;clear hx hy hxy hs;go_wp2;go_quiet (fail)
     go_wp2;go_ret
     exact⟨by rw[HN.out];rfl,by first|exact HD.out|exact HD.out.drewN _⟩
   ·have q2:¬(k:Int)<(n:Int):=(by omega);have hkn:k=n:=(by omega);have HN:Hid (decide (l=l')=true):=by
     show decide (l=l')=true
     apply decide_eq_true;have:=HE.out
     rwa[List.take_of_length_le (by rw[H1.out];omega),List.take_of_length_le (by rw[H2.out];omega)] at this
    go_wp2;go_ret
    exact⟨by rw[HN.out];rfl,HD.out⟩
 ·have q0:((n:Int) != (n':Int))=true:=by simp;omega
  have q0':¬(n:Int)=(n':Int):=by omega
  have HN:Hid (decide (l=l')=false):=by
   show decide (l=l')=false
   apply decide_eq_false;intro e;apply he;rw[← h1,← h2,e]
  clear h1 h2 hr hr' he;go_enter Tryz.func25,Tryz.ntmps25
  go_wp2;go_ret
  exact⟨by rw[HN.out];rfl,Drew.refl w⟩
end Go.Proofs.YtjobhjemnmleaaaGreatDoor
