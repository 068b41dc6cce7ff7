/- compile.Zone: the plan of the years of a name's zone, or why there is none. -/
import Derived.Test.YtjobhjemnmleaaaGreatDoorQ40
set_option maxRecDepth 200000
set_option maxHeartbeats 32000000
namespace Go.Proofs.YtjobhjemnmleaaaGreatDoor
open Go.RowKit Go.Sort
namespace Cm
def err (sb wl zn:Bool)(le lo hi:Int):Int:=
 if sb=false then 2 else if le≠0 then le else if wl=false then 2 else if zn=false then 3 else if ¬(1<lo∧hi<9999∧lo≤hi∧hi - lo<400) then 1 else if lo<1601 then 1 else 0
def Bad (s:Src.S)(nm:ByteArray)(lo hi er:Int):Prop:=er≠0∧err (Src.srcB s) (Vd.well s) (Eg.zoneAt s (Lk.walk s nm).2.1).isSome (Lk.walk s nm).2.2 lo hi=er
def ZoneRet (s : Src.S) (nm : ByteArray) (lo hi : Int) (w : World) (e : Ending) (w' : World) : Prop := Below w.heap.size w w' ∧
  ((∃ er, Bad s nm lo hi er ∧ e = .returned (.tuple #[.agg #[.int .i64 0, .slice none 0 0, .slice none 0 0], .int .i64 er])) ∨
   (∃ (x : Src.Txt × List Er.E) (n : Nat) (u1 u2 : Value), Src.srcB s = true ∧ (Lk.walk s nm).2.2 = 0 ∧ Vd.well s = true ∧ Eg.zoneAt s (Lk.walk s nm).2.1 = some x ∧ Ln.InY lo hi ∧ 1601 ≤ lo ∧ (n : Int) = hi - lo + 1 ∧ e = .returned (.tuple #[.agg #[.int .i64 lo, u1, u2], .int .i64 0]) ∧
     w'.ownsRow w.heap.size 49 19 u1 n (rc (run (yr s x.2) lo n).recs) ∧ w'.ownsRow w.heap.size 56 1 u2 n (wc (run (yr s x.2) lo n).why)))
end Cm
theorem cmZone_any (s:Src.S)(nm:ByteArray)(lo hi:Int)(rv zv lv:Value)(evs:List Value)(w:World)(hR:Src.SrcR w w.heap.size s rv zv lv evs)(hS:Vd.Sz s)(hW:Wo w)(hA:Wa w)(hnm:nm.size≤maxLen)
  (hlo:-9223372036854775808≤lo∧lo<9223372036854775808) (hhi:-9223372036854775808≤hi∧hi<9223372036854775808) (hcc:∀x∈s.zones,∀e∈x.2,0≤e.u.c) (hwc:∀r∈s.rules,0≤r.c):
  Calls Tryz.prog 19 #[.agg #[rv,zv,lv],.string nm,.int .i64 lo,.int .i64 hi] w (Cm.ZoneRet s nm lo hi w):=by
 have hzb:=walk_bd s nm hS.lims.zones;have HCk:=ak fun(W:World) (hb:Below w.heap.size w W)=>srcCheck_anyW s rv zv lv evs W (hA.below hb) (hR.call hb) hS.lims hS.smw
 have HLk:=ak fun(W:World) (hb:Below w.heap.size w W)=>linkZone_any s rv zv lv evs nm W (hR.call hb) hS.nm hnm
 have HLn:=ak fun(W:World) (hb:Below w.heap.size w W)=>lnOf_any s (Lk.walk s nm).2.1 lo hi rv zv lv evs W (hR.call hb) hS (hW.below hb) (hA.below hb) (by omega) hlo hhi hcc hwc
 have hX:∀er w',Below w.heap.size w w'→Cm.Bad s nm lo hi er→Cm.ZoneRet s nm lo hi w (.returned (.tuple #[.agg #[.int .i64 0,.slice none 0 0,.slice none 0 0],.int .i64 er])) w':=fun er w' hb h=>⟨hb,.inl ⟨er,h,rfl⟩⟩
 obtain⟨P,hP⟩:=aj (Cm.ZoneRet s nm lo hi w)
 rw[hP] at hX ⊢;have HX:=ak hX;have HP:=ak hP;have HR0:=ak hR;have HLe:Hid (Lens w):=by first|exact hW.lens|exact hW.l|exact hW.c.lens|exact hW.1
 have HBad:=ak (show ∀er,Cm.Bad s nm lo hi er↔(er≠0∧Cm.err (Src.srcB s) (Vd.well s) (Eg.zoneAt s (Lk.walk s nm).2.1).isSome (Lk.walk s nm).2.2 lo hi=er) from fun _=>Iff.rfl);clear hX hP hcc hwc hW hA hR hzb hlo hhi hnm;obtain⟨sb,hsb⟩:=aj (Src.srcB s)
 obtain⟨zi,hzi⟩:=aj ((Lk.walk s nm).2.1)
 obtain⟨le,hle⟩:=aj ((Lk.walk s nm).2.2)
 rw[hsb] at HCk;rw[hzi] at HLn;rw[hzi,hle] at HLk;rw[hsb,hzi,hle] at HBad;have HE1:=ak hsb;have HE2:=ak hzi;have HE3:=ak hle;clear hsb hzi hle;obtain⟨V1,gS,HEV1,HGgS,HS⟩:=(St.start w).lay2 #[rv,zv,lv] 26 #[.int .i64 0,.slice none 0 0,.slice none 0 0] 53;have S0:=(HS.out.get 1 rfl).cell 0 _ rfl;have S1:=(HS.out.get 1 rfl).cell 1 _ rfl;have S2:=(HS.out.get 1 rfl).cell 2 _ rfl;have zS:=(HS.out.get 1 rfl).lt;go_enter Tryz.func19,Tryz.ntmps19
 go_upto_region 1 with fail
 rw[HEV1.out]
 try rw[HGgS.out]
 go_wp2_with fail
 refine(HCk.out _ HS.out.b).mono ?_;rintro e V2 ⟨rfl,hb⟩;clear S0 S1 S2 zS;replace HS:=ak (HS.out.call hb);clear hb;have S0:=(HS.out.get 1 rfl).cell 0 _ rfl;have S1:=(HS.out.get 1 rfl).cell 1 _ rfl;have S2:=(HS.out.get 1 rfl).cell 2 _ rfl;have zS:=(HS.out.get 1 rfl).lt;cases sb with
 |false=>
  go_wp2_with (refine wpList_store_all rfl 53 _ _ rfl (gS+1) rfl #[.int .i64 0,.slice none 0 0,.slice none 0 0] rfl _ (HS.out.get 0 rfl) (by rfl) (by kernel_rfl) (by first|exact Sm.S.arr_one _|exact Rc.R.arr_one _|simp[Value.oneCell']) ?_;intro V3 hAn hMn)
  clear S0 S1 S2 zS;replace HS:Hid (St w V3 [(gS+1,[.int .i64 0,.slice none 0 0,.slice none 0 0]),(gS,[rv,zv,lv])]):=HS.out.put 0 rfl hMn hAn;clear hMn hAn;rw[← HP.out];refine bodyPost_ret (res_ct (p:=8) (q:=9) rfl (HS.out.get 0 rfl) _ Tryz.underlying53 rfl (by kernel_rfl) rfl rfl) rfl ?_;rw[HP.out];exact HX.out 2 _ HS.out.b ((HBad.out 2).2 ⟨by decide,rfl⟩)
 |true=>
  go_wp2_with fail
  refine(HLk.out _ HS.out.b).mono ?_;rintro e V3 ⟨rfl,hb⟩;clear S0 S1 S2 zS;replace HS:=ak (HS.out.call hb);clear hb;have S0:=(HS.out.get 1 rfl).cell 0 _ rfl;have S1:=(HS.out.get 1 rfl).cell 1 _ rfl;have S2:=(HS.out.get 1 rfl).cell 2 _ rfl;have zS:=(HS.out.get 1 rfl).lt
  by_cases hl0:le=0
  case neg=>
   have z1:(le == 0)=false:=by rw[beq_eq_false_iff_ne];exact hl0
   have z2:(le != 0)=true:=by rw[bne_iff_ne];exact hl0
   go_wp2_with (refine wpList_store_all rfl 53 _ _ rfl (gS+1) rfl #[.int .i64 0,.slice none 0 0,.slice none 0 0] rfl _ (HS.out.get 0 rfl) (by rfl) (by kernel_rfl) (by first|exact Sm.S.arr_one _|exact Rc.R.arr_one _|simp[Value.oneCell']) ?_;intro V4 hAn hMn)
   clear S0 S1 S2 zS;replace HS:Hid (St w V4 [(gS+1,[.int .i64 0,.slice none 0 0,.slice none 0 0]),(gS,[rv,zv,lv])]):=HS.out.put 0 rfl hMn hAn;clear hMn hAn;rw[← HP.out];refine bodyPost_ret (res_ct (p:=8) (q:=9) rfl (HS.out.get 0 rfl) _ Tryz.underlying53 rfl (by kernel_rfl) rfl rfl) rfl ?_;rw[HP.out];exact HX.out le _ HS.out.b ((HBad.out le).2 ⟨hl0,by simp[Cm.err,hl0]⟩)
  case pos=>
   subst hl0;go_wp2_with fail
   refine(HLn.out _ HS.out.b).mono ?_;rintro e V4 ⟨hb,h4⟩;clear S0 S1 S2 zS;replace HS:=ak (HS.out.call hb);clear hb;rcases h4 with ⟨hno,rfl⟩|⟨hwe,hno,rfl⟩|⟨x,hwe,hx,hin,rfl⟩|⟨x,v,hwe,hx,hin,rfl,ho4⟩
   ·have HA1:=ak hno;clear hno;go_wp2_with (refine wpList_store_all rfl 53 _ _ rfl (gS+1) rfl #[.int .i64 0,.slice none 0 0,.slice none 0 0] rfl _ (HS.out.get 0 rfl) (by rfl) (by kernel_rfl) (by first|exact Sm.S.arr_one _|exact Rc.R.arr_one _|simp[Value.oneCell']) ?_;intro V5 hAn hMn)
    replace HS:Hid (St w V5 [(gS+1,[.int .i64 0,.slice none 0 0,.slice none 0 0]),(gS,[rv,zv,lv])]):=HS.out.put 0 rfl hMn hAn;clear hMn hAn;rw[← HP.out];refine bodyPost_ret (res_ct (p:=8) (q:=9) rfl (HS.out.get 0 rfl) _ Tryz.underlying53 rfl (by kernel_rfl) rfl rfl) rfl ?_;rw[HP.out];exact HX.out 2 _ HS.out.b ((HBad.out 2).2 ⟨by decide,by simp[Cm.err,HA1.out]⟩)
   ·have HA1:=ak hwe;have HA2:=ak hno;clear hwe hno;go_wp2_with (refine wpList_store_all rfl 53 _ _ rfl (gS+1) rfl #[.int .i64 0,.slice none 0 0,.slice none 0 0] rfl _ (HS.out.get 0 rfl) (by rfl) (by kernel_rfl) (by first|exact Sm.S.arr_one _|exact Rc.R.arr_one _|simp[Value.oneCell']) ?_;intro V5 hAn hMn)
    replace HS:Hid (St w V5 [(gS+1,[.int .i64 0,.slice none 0 0,.slice none 0 0]),(gS,[rv,zv,lv])]):=HS.out.put 0 rfl hMn hAn;clear hMn hAn;rw[← HP.out];refine bodyPost_ret (res_ct (p:=8) (q:=9) rfl (HS.out.get 0 rfl) _ Tryz.underlying53 rfl (by kernel_rfl) rfl rfl) rfl ?_;rw[HP.out];exact HX.out 3 _ HS.out.b ((HBad.out 3).2 ⟨by decide,by simp[Cm.err,HA1.out,HA2.out]⟩)
   ·have HA1:=ak hwe;have HA2:=ak hx;have HA3:=ak hin;clear hwe hx hin;go_wp2_with (refine wpList_store_all rfl 53 _ _ rfl (gS+1) rfl #[.int .i64 0,.slice none 0 0,.slice none 0 0] rfl _ (HS.out.get 0 rfl) (by rfl) (by kernel_rfl) (by first|exact Sm.S.arr_one _|exact Rc.R.arr_one _|simp[Value.oneCell']) ?_;intro V5 hAn hMn)
    replace HS:Hid (St w V5 [(gS+1,[.int .i64 0,.slice none 0 0,.slice none 0 0]),(gS,[rv,zv,lv])]):=HS.out.put 0 rfl hMn hAn;clear hMn hAn;rw[← HP.out];refine bodyPost_ret (res_ct (p:=8) (q:=9) rfl (HS.out.get 0 rfl) _ Tryz.underlying53 rfl (by kernel_rfl) rfl rfl) rfl ?_;rw[HP.out];exact HX.out 1 _ HS.out.b ((HBad.out 1).2 ⟨by decide,by simp[Cm.err,HA1.out,HA2.out];exact fun a b c d=>absurd ⟨a,b,c,d⟩ HA3.out⟩)
   ·have hzo:=Eg.zone_ok hwe (show x∈s.zones by
     unfold Eg.zoneAt at hx;split at hx
     ·exact List.mem_of_getElem? hx
     ·cases hx)
    have hRu:=Eg.rules_ok2 hwe hS.lims.rules;have hlen:=Tp.len_le hRu hzo hin;obtain⟨vA,vc,rfl,hv1,hv2⟩:=own_slice_cap ho4;have HA1:=ak hwe;have HA2:=ak hx;have HA3:=ak hin;have HLl:=ak hlen;have HV:=ak (And.intro hv1 hv2);have HRd:=ak (Reads.of_own ho4);clear hwe hx hv1 hv2 ho4
    by_cases h16:lo<1601
    ·have d1:=decide_eq_true h16;go_wp2_with (refine wpList_store_all rfl 53 _ _ rfl (gS+1) rfl #[.int .i64 0,.slice none 0 0,.slice none 0 0] rfl _ (HS.out.get 0 rfl) (by rfl) (by kernel_rfl) (by first|exact Sm.S.arr_one _|exact Rc.R.arr_one _|simp[Value.oneCell']) ?_;intro V5 hAn hMn)
     replace HS:Hid (St w V5 [(gS+1,[.int .i64 0,.slice none 0 0,.slice none 0 0]),(gS,[rv,zv,lv])]):=HS.out.put 0 rfl hMn hAn;clear hMn hAn;rw[← HP.out];refine bodyPost_ret (res_ct (p:=8) (q:=9) rfl (HS.out.get 0 rfl) _ Tryz.underlying53 rfl (by kernel_rfl) rfl rfl) rfl ?_;rw[HP.out];exact HX.out 1 _ HS.out.b ((HBad.out 1).2 ⟨by decide,by have h1:=HA3.out;unfold Ln.InY at h1;simp[Cm.err,HA1.out,HA2.out,h1,h16]⟩)
    ·have d1:=decide_eq_false h16;go_upto_region 11 with fail
     have HS4:=HS;have hLy:=HS.out.lay #[.int .i64 0,.slice none 0 0,.slice none 0 0,.bool false] 143;clear HS;obtain⟨V5,gN,HEV5,HGgN,HS⟩:=hLy;go_upto_region 12 with fail
     rw[HEV5.out]
     try rw[HGgN.out]
     go_upto_region 13 with (refine wpList_store_one rfl 3 _ _ rfl gN 0 rfl (.int .i64 lo) rfl rfl _ (HS.out.get 0 rfl) (Nat.le_of_ble_eq_true rfl) (by kernel_rfl) rfl ?_;intro V6 hAn hMn)
     obtain⟨n,hn⟩:∃n:Nat,hi - lo+1=(n:Int):=⟨(hi - lo+1).toNat,by have:=HA3.out.2.2.1;omega⟩
     have HN:=ak hn;have HI0:Hid (Below gN V4 V6∧gN+1≤V6.heap.size∧∃u1 u2,Cm.Pl (gN+1) gN lo (Cm.run (Cm.yr s x.2) lo 0) u1 u2 V6):=by
      have hsz:V6.heap.size=V4.heap.size+1:=by
       obtain⟨o9,vs9,rfl⟩:=hMn;rw[size_cells,← HEV5.out,World.size_alloc]
      have h5:Below gN V4 V5:=by
       rw[← HGgN.out,← HEV5.out];exact al
      refine⟨hMn.below (Nat.le_refl _) h5,by have:=HGgN.out;omega,.slice none 0 0,.slice none 0 0,hAn,World.ownsRow_nil _ _ _ _,World.ownsRow_nil _ _ _ _,Nat.lt_succ_self _⟩
     clear hAn hMn HS hn;go_wp2_with fail
     go_loopw [14] (fun i wr=>∃k:Nat,k≤n∧i=.int .i64 (lo+(k:Int))∧Hid (Below gN V4 wr∧gN+1≤wr.heap.size∧∃u1 u2,Cm.Pl (gN+1) gN lo (Cm.run (Cm.yr s x.2) lo k) u1 u2 wr)) (fun i _=>(hi+1 - intOf i).toNat)
     case atStart=>exact⟨0,Nat.zero_le _,by rw[Int.natCast_zero,Int.add_zero],HI0.out⟩
     case round=>
      clear HI0;obtain⟨k,hk,rfl,HI⟩:=hrel
      by_cases hlt:k<n
      ·obtain⟨hbl,hsz,u1,u2,hpl⟩:=HI.out;have hnn:=HN.out;have hin:=HA3.out;have hgd:=Cm.good_zone hRu hzo hin (by omega) (n:=k) (by omega);have hbV:Below V4.heap.size V4 wr:=by rw[HGgN.out];exact hbl
       have hRl:=(HRd.out.below hbV).more hbV.size;have hLk:=lookLine_any hRu hzo hin (y:=lo+(k:Int)) (by omega) (by omega) vA _ vc wr rfl (by have:=HLl.out;omega) HV.out.1 HV.out.2 hRl;have hiy:Ln.InY (lo+(k:Int)) (lo+(k:Int)):=⟨by have:=hin.1;omega,by have:=hin.2.1;omega,Int.le_refl _,by omega⟩
       have HPY:=ak (plYear_any (Cm.yr s x.2) lo (lo+(k:Int)) (Cm.run (Cm.yr s x.2) lo k) u1 u2 gN (gN+1) vA _ vc wr hpl hsz (HLe.out.below (below_then HS4.out.b hbV)) ⟨by omega,by have:=hin.2.1;omega⟩ (Cm.of_line hRu hzo hiy) (by have:=Tp.len_le hRu hzo hiy;unfold Cm.yr;omega) (fun q hq=>by have:=Cm.off_bd hRu hzo hiy hq;omega) hgd.ok (by rw[hgd.lr];have:=hin.2.2.2;omega) (by rw[hgd.lw];have:=hin.2.2.2;omega) (fun h=>by rw[hgd.lr];exact Cm.found_pos h) hLk);have q1:lo+(k:Int)≤hi:=(by omega);have wk:IntKind.i64.wrap (lo+(k:Int)+1)=lo+(k:Int)+1:=by have:=hin.2.1;have:=hin.1;rw[IntKind.wrap_i64];omega
       have HBl:=ak hbl;have HSz:=ak hsz;clear hbl hsz hpl hnn hin hgd hbV hRl hLk hiy HI;go_wp2_with fail
       refine HPY.out.mono ?_;rintro e W7 ⟨rfl,hb7,hz7,v1',v2',hp7⟩;have HI7:Hid (Below gN V4 W7∧gN+1≤W7.heap.size∧∃u1 u2,Cm.Pl (gN+1) gN lo (Cm.run (Cm.yr s x.2) lo (k+1)) u1 u2 W7):=⟨HBl.out.trans hb7,Nat.le_trans HSz.out hz7,v1',v2',hp7⟩
       clear hb7 hz7 hp7 HPY HBl HSz;go_wp2_with fail
       go_roundw
       case rel=>exact⟨k+1,by omega,by simp only[Int.natCast_add,Int.natCast_one,Int.add_assoc],HI7.out⟩
       case measure=>simp[intOf];omega
      ·have hkn:k=n:=(by omega);subst hkn;have hnn:=HN.out;have q1:¬lo+(k:Int)≤hi:=(by omega);obtain⟨hbl,hsz,u1,u2,hpl⟩:=HI.out;have hgd:=Cm.good_zone hRu hzo HA3.out (by omega) (n:=k) (by omega);have h1:=hpl.r;have h2:=hpl.q;rw[hgd.lr] at h1;rw[hgd.lw] at h2;obtain⟨B1,d1',rfl,_,_⟩:=own_slice_cap h1;obtain⟨B2,d2',rfl,_,_⟩:=own_slice_cap h2;have HS:=ak (show St w wr [(gS+1,[.int .i64 0,.slice none 0 0,.slice none 0 0]),(gS,[rv,zv,lv])] from⟨HS4.out.b.trans (below_le hbl (by have:=HGgN.out;have:=HS4.out.b.size;omega)),Ats.below HS4.out.z hbl (fun q hq=>by have:=HS4.out.z.lts q hq;have:=HGgN.out;omega)⟩);have HAT:=ak hpl.at_;have HW1:=ak h1;have HW2:=ak h2;have HQN:Hid (gS+1<gN):=by
        have:=HS4.out.z.lts (gS+1,_) (List.mem_cons_self ..);have:=HGgN.out;show gS+1<gN
        omega
       clear hbl hsz hpl hgd h1 h2 HI hlt;go_wp2_with (first|(refine wpList_load_arr rfl 53 _ rfl gN 0 rfl #[.int .i64 lo,.slice B1 k d1',.slice B2 k d2'] (HAT.out.mid 0 _ (fun j v hv=>by rw[Nat.zero_add];match j,hv with|0,h=>exact h|1,h=>exact h|2,h=>exact h|_+3,h=>simp at h)) _ Tryz.underlying53 rfl (by kernel_rfl) ?_)|(refine wpList_store_all rfl 53 _ _ rfl (gS+1) rfl #[.int .i64 lo,.slice B1 k d1',.slice B2 k d2'] rfl _ (HS.out.get 0 rfl) (by rfl) (by kernel_rfl) (by first|exact Sm.S.arr_one _|exact Rc.R.arr_one _|simp[Value.oneCell']) ?_;intro Y1 hAn hMn))
       have HM:=ak hMn;replace HS:Hid (St w Y1 [(gS+1,[.int .i64 lo,.slice B1 k d1',.slice B2 k d2']),(gS,[rv,zv,lv])]):=HS.out.put 0 rfl hMn hAn;clear hMn hAn;rw[← HP.out];refine bodyPost_ret (res_ct (p:=8) (q:=9) rfl (HS.out.get 0 rfl) _ Tryz.underlying53 rfl (by kernel_rfl) rfl rfl) rfl ?_;refine⟨HS.out.b,.inr ⟨x,k,_,_,HE1.out,HE3.out,HA1.out,by rw[HE2.out];exact HA2.out,HA3.out,by omega,HN.out.symm,rfl,?_,?_⟩⟩
       ·exact Oc.own_low (HM.out.own (fun q=>by have:=(HW1.out.lt _ q).1;have:=HQN.out;omega) HW1.out) (by have:=HS4.out.b.size;have:=HGgN.out;omega)
       ·exact Oc.own_low (HM.out.own (fun q=>by have:=(HW2.out.lt _ q).1;have:=HQN.out;omega) HW2.out) (by have:=HS4.out.b.size;have:=HGgN.out;omega)
end Go.Proofs.YtjobhjemnmleaaaGreatDoor
namespace Go.Proofs.YtjobhjemnmleaaaGreatDoor
open Go.RowKit Go.Sort
theorem cmCheck_ok (lo:Int)(rs:List Rc.R)(ws:List Int)(g1:Nat)(a2:Addr)(n c1 c2:Nat)(w:World)(hL:Lens w)(h1:rs.length=n)(h2:ws.length=n)(hn:0<n)(hn2:n≤400)(hlo:1601≤lo)(hhi:lo+(n:Int)≤10000)(hok:∀r∈rs,Rc.Ok r∧Rc.I r)(hwb:∀x∈ws,0≤x∧x<6)
  (hR:∀(i:Nat) (r:Rc.R),rs[i]?=some r→w.rangeAt g1 (i*19) r.arr.toList) (hg1:g1<w.heap.size) (hW:Reads w w.heap.size 1 (some a2) n (Cm.wc ws)):
  Calls Tryz.prog 26 #[.agg #[.int .i64 lo,.slice (some ⟨g1,0,none⟩) n c1,.slice (some a2) n c2]] w fun e w'=>e=.returned (.int .i64 0)∧Below w.heap.size w w':=by
 have had:∀j,(⟨g1,0,none⟩:Addr).add j=⟨g1,j,none⟩:=add_zero_at g1;have p1:¬lo<1601:=by omega
 have p1':=decide_eq_false p1;have p2:((n:Int) == 0)=false:=bqf (by omega);have p3:¬(400:Int)<(n:Int):=by omega
 have p3':=decide_eq_false p3;have p4:((n:Int) == (n:Int))=true:=by rw[beq_iff_eq]
 have p5:((n:Int) != (n:Int))=false:=by rw[bne_eq_false_iff_eq]
 have w1:IntKind.i64.wrap (9999 - (n:Int))=9999 - (n:Int):=by rw[IntKind.wrap_i64];omega
 have w2:IntKind.i64.wrap (9999 - (n:Int)+1)=9999 - (n:Int)+1:=by rw[IntKind.wrap_i64];omega
 have p6:¬9999 - (n:Int)+1<lo:=by omega
 have HCk:=ak fun r (hr:r∈rs) W (hb:Below w.heap.size w W)=>rcCheck_any r W (hL.below hb) (hok r hr).2
 have HOk:=ak hok;have HWb:=ak hwb;have HR:=ak hR;have HW:=ak hW;have HG:=ak hg1;have H1:=ak h1;have H2:=ak h2;have HN2:=ak hn2;clear hL hok hwb hR hW hg1 h1 h2 hlo hhi hn2;obtain⟨V1,gP,HEV1,HGgP,HS⟩:=(St.start w).lay #[.int .i64 lo,.slice (some ⟨g1,0,none⟩) n c1,.slice (some a2) n c2] 53;have P0:=(HS.out.get 0 rfl).cell 0 _ rfl;have P1:=(HS.out.get 0 rfl).cell 1 _ rfl;have P2:=(HS.out.get 0 rfl).cell 2 _ rfl;have zP:=(HS.out.get 0 rfl).lt;go_enter Tryz.func26,Tryz.ntmps26
 go_upto_region 1 with fail
 rw[HEV1.out]
 try rw[HGgP.out]
 go_wp2_with fail
 clear P0 P1 P2 zP;go_loopw [36] (fun i wr=>∃k:Nat,k≤n∧i=.int .i64 (k:Int)∧Hid (St w wr [(gP,[.int .i64 lo,.slice (some ⟨g1,0,none⟩) n c1,.slice (some a2) n c2])])) (fun i _=>n - (intOf i).toNat)
 case atStart=>exact⟨0,Nat.zero_le _,rfl,by first|exact HS.out|exact HS.out.drewN _|exact HS.out.drew⟩
 case round=>
  clear HS;obtain⟨k,hk,rfl,HS⟩:=hrel
  by_cases hlt:k<n
  ·have q1:=am k
   have q2:(k:Int)<(n:Int):=(by omega);have wk:IntKind.i64.wrap ((k:Int)+1)=(k:Int)+1:=by have:=HN2.out;rw[IntKind.wrap_i64];omega
   obtain⟨r,hr⟩:∃r,rs[k]?=some r:=⟨_,List.getElem?_eq_getElem (by rw[H1.out];exact hlt)⟩
   obtain⟨x,hx⟩:∃x,ws[k]?=some x:=⟨_,List.getElem?_eq_getElem (by rw[H2.out];exact hlt)⟩
   have hxb:=HWb.out x (List.mem_of_getElem? hx);have hrt:Rc.right r=true:=by unfold Rc.right;rw[decide_eq_true_eq];exact(HOk.out r (List.mem_of_getElem? hr)).1
   have hck:=fun W hb=>HCk.out r (List.mem_of_getElem? hr) W hb
   simp only[hrt,Rc.R.v_arr] at hck;have HK:=ak hck;have HRk:Hid (wr.rangeAt g1 (k*19) r.arr.toList):=fun j v hv=>(HS.out.b.cell (p:=⟨g1,k*19+j,none⟩) HG.out).trans (HR.out k r hr j v hv)
   have HX:Hid (∀W,Below w.heap.size w W→W.cell? (a2.add k)=some (.int .u8 x)):=fun W hb=>by
    obtain⟨ad,e,hbk,hc⟩:=(HW.out.below hb).2 (by omega);obtain rfl:=Option.some.inj e;exact hc k _ (by unfold Cm.wc;rw[List.getElem?_map,hx];rfl)
   have x6:¬(6:Int)≤x:=(by omega);have x6':=decide_eq_false x6;clear hr hx hxb hrt hck;obtain⟨gE,HGgE⟩:∃q,Hid (wr.heap.size=q):=⟨_,rfl⟩
   go_upto_region 9 with (first|(refine wpList_load_arr rfl 49 _ rfl g1 (k*19) rfl r.arr HRk.out _ Tryz.underlying49 rfl (by kernel_rfl) ?_)|(refine wpList_store_all rfl 49 _ _ rfl wr.heap.size rfl (r.arr) rfl _ (At.new wr #[.int .i32 0,.int .i32 0,.int .i32 0,.int .u16 0,.int .u16 0,.int .u16 0,.int .u16 0,.int .u16 0,.int .u16 0,.int .u16 0,.int .u16 0,.int .u16 0,.int .u16 0,.int .u16 0,.int .u16 0,.int .u16 0,.int .u16 0,.int .u16 0,.int .u16 0] 49) (by rfl) (by kernel_rfl) (by first|exact Sm.S.arr_one _|exact Rc.R.arr_one _|simp[Value.oneCell']) ?_;intro W1 hAn hMn))
   rw[HGgE.out];replace HS:=ak (HS.out.laid #[.int .i32 0,.int .i32 0,.int .i32 0,.int .u16 0,.int .u16 0,.int .u16 0,.int .u16 0,.int .u16 0,.int .u16 0,.int .u16 0,.int .u16 0,.int .u16 0,.int .u16 0,.int .u16 0,.int .u16 0,.int .u16 0,.int .u16 0,.int .u16 0,.int .u16 0] 49 hMn hAn);rw[HGgE.out] at HS;clear hMn hAn;go_wp2_with (refine wpList_load_arr rfl 49 _ rfl (gE) 0 rfl (r.arr) (HS.out.get 0 rfl).range _ Tryz.underlying49 rfl (by kernel_rfl) ?_)
   refine(HK.out _ HS.out.b).mono ?_;rintro e W5 ⟨rfl,hb⟩;replace HS:=ak (HS.out.call hb);clear hb;have P0:=(HS.out.get 1 rfl).cell 0 _ rfl;have P1:=(HS.out.get 1 rfl).cell 1 _ rfl;have P2:=(HS.out.get 1 rfl).cell 2 _ rfl;have zP:=(HS.out.get 1 rfl).lt;have c0:=HX.out _ HS.out.b;clear HRk HK HX;go_wp2_with fail
   try go_quiet (fail)
   try go_wp2_with fail
   go_roundw
   case rel=>exact⟨k+1,by omega,by go_num,by first|exact⟨HS.out.b,HS.out.z.2.2.2⟩|exact⟨(HS.out.drewN _).b,(HS.out.drewN _).z.2.2.2⟩|exact⟨HS.out.drew.b,HS.out.drew.z.2.2.2⟩⟩
   case measure=>simp[intOf];omega
  ·have hkn:k=n:=(by omega);subst hkn;have q2:¬(k:Int)<(k:Int):=(by omega);go_wp2;go_ret
   exact⟨rfl,HS.out.b⟩
namespace Cm
def yrV (lo y:Int)(rs:List Rc.R)(ws:List Int):Value:=if lo≤y∧y<lo+(rs.length:Int) then .tuple #[(rs.getD (y - lo).toNat Rc.R.zero).v,.int .u8 (ws.getD (y - lo).toNat 0),.int .i64 0] else .tuple #[Rc.R.zero.v,.int .u8 0,.int .i64 3]
open Od
def yrQ (lo y:Int)(j:Nat)(gP g1 n c1 c2:Nat)(a2:Addr)(r:Rc.R)(x:Int):Nat→Value→Prop
 |0,v=>v=.pointer (some ⟨gP,1,none⟩)
 |1,v=>v=.slice (some ⟨g1,0,none⟩) n c1
 |2,v=>v=.int .i64 y
 |3,v=>v=.pointer (some ⟨gP,0,none⟩)
 |4,v=>v=.int .i64 lo
 |5,v=>v=.int .i64 (j:Int)
 |6,v=>v=.pointer (some ⟨g1,j*19,none⟩)
 |7,v=>v=.agg r.arr
 |8,v=>v=.pointer (some ⟨gP,2,none⟩)
 |9,v=>v=.slice (some a2) n c2
 |10,v=>v=.int .i64 y
 |11,v=>v=.pointer (some ⟨gP,0,none⟩)
 |12,v=>v=.int .i64 lo
 |13,v=>v=.int .i64 (j:Int)
 |14,v=>v=.pointer (some (a2.add j))
 |_,v=>v=.int .u8 x
structure YrJ (Q:Nat→Value→Prop)(w0:World)(gP:Nat)(pl zr ra:List Value)(x:Int)(u0:Nat→Value)(b:Nat→Bool)(u:Nat→Value)(w:World):Prop where
 st:St w0 w [(gP+1,if b 16=true then ra else zr),(gP,pl)]
 val:∀k,k<16→b k=true→Q k (u (30+k))
 v5:b 17=true→u 5=.int .u8 x
 v6:b 18=true→u 6=.int .i64 0
 old:∀j,j≠5→j≠6→(j<30∨45<j)→u j=u0 j
section
variable {Q:Nat→Value→Prop} {w0 w w':World} {gP:Nat} {pl zr ra:List Value} {x:Int} {u0 u:Nat→Value} {b:Nat→Bool}
theorem YrJ.start (h:St w0 w [(gP+1,zr),(gP,pl)]):YrJ Q w0 gP pl zr ra x u0 (fun _=>false) u0 w:=⟨h,fun _ _ q=>(nomatch q),fun q=>(nomatch q),fun q=>(nomatch q),fun _ _ _ _=>rfl⟩
theorem YrJ.put (h:YrJ Q w0 gP pl zr ra x u0 b u w){k:Nat}(hk:k<16){v:Value}(hv:Q k v):YrJ Q w0 gP pl zr ra x u0 (upd b k true) (upd u (30+k) v) w:=by
 refine⟨by rw[upd_ne b true (show 16≠k by omega)];exact h.st,fun j hj hb=>?_,?_,?_,fun j h1 h2 h3=>?_⟩
 ·by_cases e:j=k
  ·subst e;rw[upd_eq];exact hv
  ·rw[upd_ne u v (show 30+j≠30+k by omega)];rw[upd_ne b true e] at hb;exact h.val j hj hb
 ·rw[upd_ne b true (show 17≠k by omega),upd_ne u v (show 5≠30+k by omega)];exact h.v5
 ·rw[upd_ne b true (show 18≠k by omega),upd_ne u v (show 6≠30+k by omega)];exact h.v6
 ·rw[upd_ne u v (show j≠30+k by omega)];exact h.old j h1 h2 h3
theorem YrJ.sto (h:YrJ Q w0 gP pl zr ra x u0 b u w)(hb:b 16=false)(hM:Moved (gP+1) w w')(hA:At w' (gP+1) ra):YrJ Q w0 gP pl zr ra x u0 (upd b 16 true) u w':=by
 have hs:=h.st;rw[hb] at hs;refine⟨by rw[upd_eq];exact hs.put 0 rfl hM hA,fun j hj hbj=>?_,?_,?_,h.old⟩
 ·rw[upd_ne b true (show j≠16 by omega)] at hbj;exact h.val j hj hbj
 ·rw[upd_ne b true (show 17≠16 by decide)];exact h.v5
 ·rw[upd_ne b true (show 18≠16 by decide)];exact h.v6
theorem YrJ.as5 (h:YrJ Q w0 gP pl zr ra x u0 b u w):YrJ Q w0 gP pl zr ra x u0 (upd b 17 true) (upd u 5 (.int .u8 x)) w:=by
 refine⟨by rw[upd_ne b true (show 16≠17 by decide)];exact h.st,fun j hj hbj=>?_,fun _=>upd_eq _ _ _,?_,fun j h1 h2 h3=>?_⟩
 ·rw[upd_ne b true (show j≠17 by omega)] at hbj;rw[upd_ne u _ (show 30+j≠5 by omega)];exact h.val j hj hbj
 ·rw[upd_ne b true (show 18≠17 by decide),upd_ne u _ (show 6≠5 by decide)];exact h.v6
 ·rw[upd_ne u _ h1];exact h.old j h1 h2 h3
theorem YrJ.as6 (h:YrJ Q w0 gP pl zr ra x u0 b u w):YrJ Q w0 gP pl zr ra x u0 (upd b 18 true) (upd u 6 (.int .i64 0)) w:=by
 refine⟨by rw[upd_ne b true (show 16≠18 by decide)];exact h.st,fun j hj hbj=>?_,?_,fun _=>upd_eq _ _ _,fun j h1 h2 h3=>?_⟩
 ·rw[upd_ne b true (show j≠18 by omega)] at hbj;rw[upd_ne u _ (show 30+j≠6 by omega)];exact h.val j hj hbj
 ·rw[upd_ne b true (show 17≠18 by decide),upd_ne u _ (show 5≠6 by decide)];exact h.v5
 ·rw[upd_ne u _ h2];exact h.old j h1 h2 h3
end
end Cm
theorem cmYear_ok (lo y:Int)(rs:List Rc.R)(ws:List Int)(g1:Nat)(a2:Addr)(n c1 c2:Nat)(w:World)(hL:Lens w)(h1:rs.length=n)(h2:ws.length=n)(hn:0<n)(hn2:n≤400)(hlo:1601≤lo)(hhi:lo+(n:Int)≤10000)(hok:∀r∈rs,Rc.Ok r∧Rc.I r)(hwb:∀x∈ws,0≤x∧x<6)
  (hR:∀(i:Nat) (r:Rc.R),rs[i]?=some r→w.rangeAt g1 (i*19) r.arr.toList) (hg1:g1<w.heap.size) (hW:Reads w w.heap.size 1 (some a2) n (Cm.wc ws)):
  Calls Tryz.prog 20 #[.agg #[.int .i64 lo,.slice (some ⟨g1,0,none⟩) n c1,.slice (some a2) n c2],.int .i64 y] w fun e w'=>e=.returned (Cm.yrV lo y rs ws)∧Below w.heap.size w w':=by
 have HCk:=ak fun W (hb:Below w.heap.size w W)=>cmCheck_ok lo rs ws g1 a2 n c1 c2 W (hL.below hb) h1 h2 hn hn2 hlo hhi hok hwb (fun i r hr j v hv=>(hb.cell (p:=⟨g1,i*19+j,none⟩) hg1).trans (hR i r hr j v hv)) (Nat.lt_of_lt_of_le hg1 hb.size) ((hW.below hb).more hb.size)
 have hc:(y<lo∧Cm.yrV lo y rs ws=.tuple #[.agg Rc.R.zero.arr,.int .u8 0,.int .i64 3])∨((¬y<lo∧lo+(n:Int) - 1<y)∧Cm.yrV lo y rs ws=.tuple #[.agg Rc.R.zero.arr,.int .u8 0,.int .i64 3])∨(¬y<lo∧¬lo+(n:Int) - 1<y):=by
  by_cases k1:y<lo
  ·exact .inl ⟨k1,if_neg (by omega)⟩
  ·by_cases k2:lo+(n:Int) - 1<y
   ·exact .inr (.inl ⟨⟨k1,k2⟩,if_neg (by omega)⟩)
   ·exact .inr (.inr ⟨k1,k2⟩)
 have w1:IntKind.i64.wrap (lo+(n:Int))=lo+(n:Int):=by rw[IntKind.wrap_i64];omega
 have w2:IntKind.i64.wrap (lo+(n:Int) - 1)=lo+(n:Int) - 1:=by rw[IntKind.wrap_i64];omega
 rcases hc with ⟨k1,hE⟩|⟨⟨k1,k2⟩,hE⟩|⟨k1,k2⟩
 ·have d1:=decide_eq_true k1;rw[hE];clear hE hL h1 h2 hn hn2 hlo hhi hok hwb hR hg1 hW;obtain⟨V1,gP,HEV1,HGgP,HS⟩:=(St.start w).lay2 #[.int .i64 lo,.slice (some ⟨g1,0,none⟩) n c1,.slice (some a2) n c2] 53 #[.int .i32 0,.int .i32 0,.int .i32 0,.int .u16 0,.int .u16 0,.int .u16 0,.int .u16 0,.int .u16 0,.int .u16 0,.int .u16 0,.int .u16 0,.int .u16 0,.int .u16 0,.int .u16 0,.int .u16 0,.int .u16 0,.int .u16 0,.int .u16 0,.int .u16 0] 49;have P0:=(HS.out.get 1 rfl).cell 0 _ rfl;have P1:=(HS.out.get 1 rfl).cell 1 _ rfl;have P2:=(HS.out.get 1 rfl).cell 2 _ rfl;have zP:=(HS.out.get 1 rfl).lt;go_enter Tryz.func20,Tryz.ntmps20
  go_upto_region 1 with fail
  rw[HEV1.out]
  try rw[HGgP.out]
  go_wp2_with fail
  refine(HCk.out _ HS.out.b).mono ?_;rintro e V2 ⟨rfl,hb⟩;clear P0 P1 P2 zP;replace HS:=ak (HS.out.call hb);clear hb;have P0:=(HS.out.get 1 rfl).cell 0 _ rfl;have P1:=(HS.out.get 1 rfl).cell 1 _ rfl;have P2:=(HS.out.get 1 rfl).cell 2 _ rfl;have zP:=(HS.out.get 1 rfl).lt;go_wp2_with (refine wpList_store_all rfl 49 _ _ rfl (gP+1) rfl (Rc.R.zero.arr) rfl _ (HS.out.get 0 rfl) (by rfl) (by kernel_rfl) (by first|exact Sm.S.arr_one _|exact Rc.R.arr_one _|simp[Value.oneCell']) ?_;intro V3 hAn hMn)
  clear P0 P1 P2 zP;replace HS:Hid (St w V3 [(gP+1,Rc.R.zero.arr.toList),(gP,[.int .i64 lo,.slice (some ⟨g1,0,none⟩) n c1,.slice (some a2) n c2])]):=HS.out.put 0 rfl hMn hAn;clear hMn hAn;refine bodyPost_ret (res_ctt (p:=4) (q:=5) (q2:=6) rfl (HS.out.get 0 rfl) _ Tryz.underlying49 rfl (by kernel_rfl) rfl rfl rfl) rfl ⟨rfl,HS.out.b⟩
 ·have d1:=decide_eq_false k1;have d2:=decide_eq_true k2;rw[hE];clear hE hL h1 h2 hn hn2 hlo hhi hok hwb hR hg1 hW;obtain⟨V1,gP,HEV1,HGgP,HS⟩:=(St.start w).lay2 #[.int .i64 lo,.slice (some ⟨g1,0,none⟩) n c1,.slice (some a2) n c2] 53 #[.int .i32 0,.int .i32 0,.int .i32 0,.int .u16 0,.int .u16 0,.int .u16 0,.int .u16 0,.int .u16 0,.int .u16 0,.int .u16 0,.int .u16 0,.int .u16 0,.int .u16 0,.int .u16 0,.int .u16 0,.int .u16 0,.int .u16 0,.int .u16 0,.int .u16 0] 49;have P0:=(HS.out.get 1 rfl).cell 0 _ rfl;have P1:=(HS.out.get 1 rfl).cell 1 _ rfl;have P2:=(HS.out.get 1 rfl).cell 2 _ rfl;have zP:=(HS.out.get 1 rfl).lt;go_enter Tryz.func20,Tryz.ntmps20
  go_upto_region 1 with fail
  rw[HEV1.out]
  try rw[HGgP.out]
  go_wp2_with fail
  refine(HCk.out _ HS.out.b).mono ?_;rintro e V2 ⟨rfl,hb⟩;clear P0 P1 P2 zP;replace HS:=ak (HS.out.call hb);clear hb;have P0:=(HS.out.get 1 rfl).cell 0 _ rfl;have P1:=(HS.out.get 1 rfl).cell 1 _ rfl;have P2:=(HS.out.get 1 rfl).cell 2 _ rfl;have zP:=(HS.out.get 1 rfl).lt;go_wp2_with (refine wpList_store_all rfl 49 _ _ rfl (gP+1) rfl (Rc.R.zero.arr) rfl _ (HS.out.get 0 rfl) (by rfl) (by kernel_rfl) (by first|exact Sm.S.arr_one _|exact Rc.R.arr_one _|simp[Value.oneCell']) ?_;intro V3 hAn hMn)
  clear P0 P1 P2 zP;replace HS:Hid (St w V3 [(gP+1,Rc.R.zero.arr.toList),(gP,[.int .i64 lo,.slice (some ⟨g1,0,none⟩) n c1,.slice (some a2) n c2])]):=HS.out.put 0 rfl hMn hAn;clear hMn hAn;refine bodyPost_ret (res_ctt (p:=4) (q:=5) (q2:=6) rfl (HS.out.get 0 rfl) _ Tryz.underlying49 rfl (by kernel_rfl) rfl rfl rfl) rfl ⟨rfl,HS.out.b⟩
 ·have d1:=decide_eq_false k1;have d2:=decide_eq_false k2;obtain⟨j,hj⟩:∃j:Nat,y - lo=(j:Int):=⟨(y - lo).toNat,by omega⟩
  have hjn:j<n:=by omega
  obtain⟨r,hr⟩:∃r,rs[j]?=some r:=⟨_,List.getElem?_eq_getElem (by rw[h1];exact hjn)⟩
  obtain⟨x,hx⟩:∃x,ws[j]?=some x:=⟨_,List.getElem?_eq_getElem (by rw[h2];exact hjn)⟩
  have hE:Cm.yrV lo y rs ws=.tuple #[.agg r.arr,.int .u8 x,.int .i64 0]:=by
   unfold Cm.yrV;rw[if_pos (by omega),show (y - lo).toNat=j by omega,List.getD_eq_getElem?_getD,List.getD_eq_getElem?_getD,hr,hx];rfl
  rw[hE];have HRk:Hid (∀W,Below w.heap.size w W→W.rangeAt g1 (j*19) r.arr.toList):=fun W hb i v hv=>(hb.cell (p:=⟨g1,j*19+i,none⟩) hg1).trans (hR j r hr i v hv)
  have HX:Hid (∀W,Below w.heap.size w W→W.cell? (a2.add j)=some (.int .u8 x)∧(a2.add j).block<W.heap.size):=fun W hb=>by
   obtain⟨ad,e,hbk,hc⟩:=(hW.below hb).2 (by omega);obtain rfl:=Option.some.inj e;have h:=hc j (.int .u8 x) (by unfold Cm.wc;rw[List.getElem?_map,hx];rfl);exact⟨h,block_lt_of_cell h⟩
  have wy:IntKind.i64.wrap (y - lo)=(j:Int):=by rw[hj,IntKind.wrap_i64];omega
  have wj:IntKind.i64.wrap (j:Int)=(j:Int):=by rw[IntKind.wrap_i64];omega
  have q1:=am j
  have q2:(j:Int)<(n:Int):=by omega
  have had:∀j,(⟨g1,0,none⟩:Addr).add j=⟨g1,j,none⟩:=add_zero_at g1;have HJ:=ak hj;clear hE hL h1 h2 hn hn2 hlo hhi hok hwb hR hg1 hW hr hx hjn hj;obtain⟨V1,gP,HEV1,HGgP,HS⟩:=(St.start w).lay2 #[.int .i64 lo,.slice (some ⟨g1,0,none⟩) n c1,.slice (some a2) n c2] 53 #[.int .i32 0,.int .i32 0,.int .i32 0,.int .u16 0,.int .u16 0,.int .u16 0,.int .u16 0,.int .u16 0,.int .u16 0,.int .u16 0,.int .u16 0,.int .u16 0,.int .u16 0,.int .u16 0,.int .u16 0,.int .u16 0,.int .u16 0,.int .u16 0,.int .u16 0] 49;have P0:=(HS.out.get 1 rfl).cell 0 _ rfl;have P1:=(HS.out.get 1 rfl).cell 1 _ rfl;have P2:=(HS.out.get 1 rfl).cell 2 _ rfl;have zP:=(HS.out.get 1 rfl).lt;go_enter Tryz.func20,Tryz.ntmps20
  go_upto_region 1 with fail
  rw[HEV1.out]
  try rw[HGgP.out]
  go_wp2_with fail
  refine(HCk.out _ HS.out.b).mono ?_;rintro e V2 ⟨rfl,hb⟩;clear P0 P1 P2 zP;replace HS:=ak (HS.out.call hb);clear hb;have P0:=(HS.out.get 1 rfl).cell 0 _ rfl;have P1:=(HS.out.get 1 rfl).cell 1 _ rfl;have P2:=(HS.out.get 1 rfl).cell 2 _ rfl;have zP:=(HS.out.get 1 rfl).lt;go_upto_region 6 with fail
  clear P0 P1 P2 zP;replace HS:=ak (show St w V2 [(gP+1,[.int .i32 0,.int .i32 0,.int .i32 0,.int .u16 0,.int .u16 0,.int .u16 0,.int .u16 0,.int .u16 0,.int .u16 0,.int .u16 0,.int .u16 0,.int .u16 0,.int .u16 0,.int .u16 0,.int .u16 0,.int .u16 0,.int .u16 0,.int .u16 0,.int .u16 0]),(gP,[.int .i64 lo,.slice (some ⟨g1,0,none⟩) n c1,.slice (some a2) n c2])] from HS.out);refine Od.wp_region_inv 46 (by kernel_rfl) (by rfl) (by rfl) (Od.ord_of (by kernel_rfl)) (Od.dst_of (by kernel_rfl)) (Cm.YrJ (Cm.yrQ lo y j gP g1 n c1 c2 a2 r x) w gP [.int .i64 lo,.slice (some ⟨g1,0,none⟩) n c1,.slice (some a2) n c2] [.int .i32 0,.int .i32 0,.int .i32 0,.int .u16 0,.int .u16 0,.int .u16 0,.int .u16 0,.int .u16 0,.int .u16 0,.int .u16 0,.int .u16 0,.int .u16 0,.int .u16 0,.int .u16 0,.int .u16 0,.int .u16 0,.int .u16 0,.int .u16 0,.int .u16 0] r.arr.toList x (Od.slots _)) (Cm.YrJ.start (by first|exact HS.out.drew|exact(HS.out.drewN _).drew)) ?_ ?_
  ·intro i o hi b' a' wv hJ hb hdep hdf K hK;obtain⟨tm,df⟩:=a';simp only at hdf;subst hdf;have hiN:i<19:=(Array.getElem?_eq_some_iff.1 hi).1;have h1:tm.getD 1 undef=.int .i64 y:=(hJ.old 1 (by decide) (by decide) (by decide)).trans rfl;have h1':=(Array.getD_eq_getD_getElem? (xs:=tm) (i:=1) (d:=undef)).symm.trans h1;have h2:tm.getD 2 undef=.pointer (some ⟨gP,0,none⟩):=(hJ.old 2 (by decide) (by decide) (by decide)).trans rfl;have h2':=(Array.getD_eq_getD_getElem? (xs:=tm) (i:=2) (d:=undef)).symm.trans h2;have h4:tm.getD 4 undef=.pointer (some ⟨gP+1,0,none⟩):=(hJ.old 4 (by decide) (by decide) (by decide)).trans rfl;have hsplit:i=0∨i=1∨i=2∨i=3∨i=4∨i=5∨i=6∨i=7∨i=8∨i=9∨i=10∨i=11∨i=12∨i=13∨i=14∨i=15∨i=16∨i=17∨i=18:=(by omega);rcases hsplit with rfl|rfl|rfl|rfl|rfl|rfl|rfl|rfl|rfl|rfl|rfl|rfl|rfl|rfl|rfl|rfl|rfl|rfl|rfl
   ·obtain rfl:=sji (show some _=some o from hi);rw[if_pos (show Region.wanted _ _=true from rfl)];go_simp;exact hK _ _ (hJ.put (k:=0) (by decide) rfl)
   ·obtain rfl:=sji (show some _=some o from hi);rw[if_pos (show Region.wanted _ _=true from rfl)];have x0:tm.getD 30 undef=.pointer (some ⟨gP,1,none⟩):=hJ.val 0 (by decide) (hdep ⟨0,.data⟩ (by simp) rfl);have y0:=(Array.getD_eq_getD_getElem? (xs:=tm) (i:=30) (d:=undef)).symm.trans x0;have c1:=(hJ.st.get 1 rfl).cell 1 _ rfl;go_simp;exact hK _ _ (hJ.put (k:=1) (by decide) rfl)
   ·obtain rfl:=sji (show some _=some o from hi);rw[if_pos (show Region.wanted _ _=true from rfl)];go_simp;exact hK _ _ (hJ.put (k:=2) (by decide) rfl)
   ·obtain rfl:=sji (show some _=some o from hi);rw[if_pos (show Region.wanted _ _=true from rfl)];go_simp;exact hK _ _ (hJ.put (k:=3) (by decide) rfl)
   ·obtain rfl:=sji (show some _=some o from hi);rw[if_pos (show Region.wanted _ _=true from rfl)];have x3:tm.getD 33 undef=.pointer (some ⟨gP,0,none⟩):=hJ.val 3 (by decide) (hdep ⟨3,.data⟩ (by simp) rfl);have y3:=(Array.getD_eq_getD_getElem? (xs:=tm) (i:=33) (d:=undef)).symm.trans x3;have c0:=(hJ.st.get 1 rfl).cell 0 _ rfl;go_simp;exact hK _ _ (hJ.put (k:=4) (by decide) rfl)
   ·obtain rfl:=sji (show some _=some o from hi);rw[if_pos (show Region.wanted _ _=true from rfl)];have x2:tm.getD 32 undef=.int .i64 y:=hJ.val 2 (by decide) (hdep ⟨2,.data⟩ (by simp) rfl);have y2:=(Array.getD_eq_getD_getElem? (xs:=tm) (i:=32) (d:=undef)).symm.trans x2;have x4:tm.getD 34 undef=.int .i64 lo:=hJ.val 4 (by decide) (hdep ⟨4,.data⟩ (by simp) rfl);have y4:=(Array.getD_eq_getD_getElem? (xs:=tm) (i:=34) (d:=undef)).symm.trans x4;go_simp;exact hK _ _ (hJ.put (k:=5) (by decide) rfl)
   ·obtain rfl:=sji (show some _=some o from hi);rw[if_pos (show Region.wanted _ _=true from rfl)];have x1:tm.getD 31 undef=.slice (some ⟨g1,0,none⟩) n c1:=hJ.val 1 (by decide) (hdep ⟨1,.data⟩ (by simp) rfl);have y1:=(Array.getD_eq_getD_getElem? (xs:=tm) (i:=31) (d:=undef)).symm.trans x1;have x5:tm.getD 35 undef=.int .i64 (j:Int):=hJ.val 5 (by decide) (hdep ⟨5,.data⟩ (by simp) rfl);have y5:=(Array.getD_eq_getD_getElem? (xs:=tm) (i:=35) (d:=undef)).symm.trans x5;go_simp;exact hK _ _ (hJ.put (k:=6) (by decide) rfl)
   ·obtain rfl:=sji (show some _=some o from hi);rw[if_pos (show Region.wanted _ _=true from rfl)];have x6:tm.getD 36 undef=.pointer (some ⟨g1,j*19,none⟩):=hJ.val 6 (by decide) (hdep ⟨6,.data⟩ (by simp) rfl);have y6:=(Array.getD_eq_getD_getElem? (xs:=tm) (i:=36) (d:=undef)).symm.trans x6;refine wp_load_mid 49 _ rfl g1 (j*19) x6 r.arr.toList _ (HRk.out _ hJ.st.b) Tryz.underlying49 rfl (by kernel_rfl) ?_;exact hK _ _ (hJ.put (k:=7) (by decide) (by simp[Cm.yrQ]))
   ·obtain rfl:=sji (show some _=some o from hi);rw[if_pos (show Region.wanted _ _=true from rfl)];go_simp;exact hK _ _ (hJ.put (k:=8) (by decide) rfl)
   ·obtain rfl:=sji (show some _=some o from hi);rw[if_pos (show Region.wanted _ _=true from rfl)];have x8:tm.getD 38 undef=.pointer (some ⟨gP,2,none⟩):=hJ.val 8 (by decide) (hdep ⟨8,.data⟩ (by simp) rfl);have y8:=(Array.getD_eq_getD_getElem? (xs:=tm) (i:=38) (d:=undef)).symm.trans x8;have c2:=(hJ.st.get 1 rfl).cell 2 _ rfl;go_simp;exact hK _ _ (hJ.put (k:=9) (by decide) rfl)
   ·obtain rfl:=sji (show some _=some o from hi);rw[if_pos (show Region.wanted _ _=true from rfl)];go_simp;exact hK _ _ (hJ.put (k:=10) (by decide) rfl)
   ·obtain rfl:=sji (show some _=some o from hi);rw[if_pos (show Region.wanted _ _=true from rfl)];go_simp;exact hK _ _ (hJ.put (k:=11) (by decide) rfl)
   ·obtain rfl:=sji (show some _=some o from hi);rw[if_pos (show Region.wanted _ _=true from rfl)];have x11:tm.getD 41 undef=.pointer (some ⟨gP,0,none⟩):=hJ.val 11 (by decide) (hdep ⟨11,.data⟩ (by simp) rfl);have y11:=(Array.getD_eq_getD_getElem? (xs:=tm) (i:=41) (d:=undef)).symm.trans x11;have c0:=(hJ.st.get 1 rfl).cell 0 _ rfl;go_simp;exact hK _ _ (hJ.put (k:=12) (by decide) rfl)
   ·obtain rfl:=sji (show some _=some o from hi);rw[if_pos (show Region.wanted _ _=true from rfl)];have x10:tm.getD 40 undef=.int .i64 y:=hJ.val 10 (by decide) (hdep ⟨10,.data⟩ (by simp) rfl);have y10:=(Array.getD_eq_getD_getElem? (xs:=tm) (i:=40) (d:=undef)).symm.trans x10;have x12:tm.getD 42 undef=.int .i64 lo:=hJ.val 12 (by decide) (hdep ⟨12,.data⟩ (by simp) rfl);have y12:=(Array.getD_eq_getD_getElem? (xs:=tm) (i:=42) (d:=undef)).symm.trans x12;go_simp;exact hK _ _ (hJ.put (k:=13) (by decide) rfl)
   ·obtain rfl:=sji (show some _=some o from hi);rw[if_pos (show Region.wanted _ _=true from rfl)];have x9:tm.getD 39 undef=.slice (some a2) n c2:=hJ.val 9 (by decide) (hdep ⟨9,.data⟩ (by simp) rfl);have y9:=(Array.getD_eq_getD_getElem? (xs:=tm) (i:=39) (d:=undef)).symm.trans x9;have x13:tm.getD 43 undef=.int .i64 (j:Int):=hJ.val 13 (by decide) (hdep ⟨13,.data⟩ (by simp) rfl);have y13:=(Array.getD_eq_getD_getElem? (xs:=tm) (i:=43) (d:=undef)).symm.trans x13;go_simp;exact hK _ _ (hJ.put (k:=14) (by decide) rfl)
   ·obtain rfl:=sji (show some _=some o from hi);rw[if_pos (show Region.wanted _ _=true from rfl)];have x14:tm.getD 44 undef=.pointer (some (a2.add j)):=hJ.val 14 (by decide) (hdep ⟨14,.data⟩ (by simp) rfl);have y14:=(Array.getD_eq_getD_getElem? (xs:=tm) (i:=44) (d:=undef)).symm.trans x14;obtain⟨cx,zx⟩:=HX.out _ hJ.st.b;go_simp;exact hK _ _ (hJ.put (k:=15) (by decide) rfl)
   ·obtain rfl:=sji (show some _=some o from hi);rw[if_pos (show Region.wanted _ _=true from rfl)];have x7:tm.getD 37 undef=.agg r.arr:=hJ.val 7 (by decide) (hdep ⟨7,.data⟩ (by simp) rfl);have y7:=(Array.getD_eq_getD_getElem? (xs:=tm) (i:=37) (d:=undef)).symm.trans x7;have hs:=hJ.st;rw[hb] at hs;have hA:=hs.get 0 rfl;refine wp_store_mid 49 _ _ rfl (gP+1) 0 r.arr h4 x7 (hA.there 0 19 (Nat.le_of_ble_eq_true rfl)) (by kernel_rfl) (Rc.R.arr_one r) ?_;have hsp:=hA.splice r.arr.toList 0 (Nat.le_of_ble_eq_true rfl);exact hK _ _ (hJ.sto hb ⟨0,r.arr.toList,rfl⟩ hsp)
   ·obtain rfl:=sji (show some _=some o from hi);rw[if_pos (show Region.wanted _ _=true from rfl)];have x15:tm.getD 45 undef=.int .u8 x:=hJ.val 15 (by decide) (hdep ⟨15,.data⟩ (by simp) rfl);have y15:=(Array.getD_eq_getD_getElem? (xs:=tm) (i:=45) (d:=undef)).symm.trans x15;go_simp;exact hK _ _ hJ.as5
   ·obtain rfl:=sji (show some _=some o from hi);rw[if_pos (show Region.wanted _ _=true from rfl)];go_simp;exact hK _ _ hJ.as6
  ·intro a' V9 hJ hN hdf;have s4:a'.tmps.getD 4 undef=.pointer (some ⟨gP+1,0,none⟩):=(hJ.old 4 (by decide) (by decide) (by decide)).trans rfl;have s5:a'.tmps.getD 5 undef=.int .u8 x:=hJ.v5 rfl;have s6:a'.tmps.getD 6 undef=.int .i64 0:=hJ.v6 rfl;have hst:=hJ.st;have HS:=ak (show St w V9 [(gP+1,r.arr.toList),(gP,[.int .i64 lo,.slice (some ⟨g1,0,none⟩) n c1,.slice (some a2) n c2])] from hst);have ef:a'={ tmps:=((List.range 46).map fun i=>a'.tmps.getD i undef).toArray,defers:=[] }:=Rg.frame_of 46 a' hN hdf;obtain⟨u,hu⟩:∃u:Nat→Value,(fun i=>a'.tmps.getD i undef)=u:=⟨_,rfl⟩
   rw[hu] at ef;have e4:u 4=.pointer (some ⟨gP+1,0,none⟩):=by rw[← hu];exact s4
   have e5:u 5=.int .u8 x:=by rw[← hu];exact s5
   have e6:u 6=.int .i64 0:=by rw[← hu];exact s6
   have ef2:a'={ tmps:=(u 0 :: u 1 :: u 2 :: u 3 :: u 4 :: u 5 :: u 6 :: u 7 :: u 8 :: u 9 :: u 10 :: u 11 :: u 12 :: u 13 :: u 14 :: u 15 :: u 16 :: u 17 :: u 18 :: u 19 :: u 20 :: u 21 :: u 22 :: u 23 :: u 24 :: u 25 :: u 26 :: u 27 :: u 28 :: u 29 :: u 30 :: u 31 :: u 32 :: u 33 :: u 34 :: u 35 :: u 36 :: u 37 :: u 38 :: u 39 :: u 40 :: u 41 :: u 42 :: u 43 :: u 44 :: u 45 :: []:List Value).toArray,defers:=[] }:=ef;rw[e4,e5,e6] at ef2;rw[ef2];clear hJ hN hdf ef ef2 hu e4 e5 e6 s4 s5 s6 hst;go_wp2_with fail
   refine bodyPost_ret (res_ctt (p:=4) (q:=5) (q2:=6) rfl (HS.out.get 0 rfl) _ Tryz.underlying49 rfl (by kernel_rfl) rfl rfl rfl) rfl ⟨rfl,HS.out.b⟩
end Go.Proofs.YtjobhjemnmleaaaGreatDoor
