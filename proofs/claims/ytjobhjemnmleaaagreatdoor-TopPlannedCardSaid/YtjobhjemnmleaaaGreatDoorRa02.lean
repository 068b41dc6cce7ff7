/- TopPlanned: the walk. -/
import Derived.Test.YtjobhjemnmleaaaGreatDoorR44
import Derived.Test.YtjobhjemnmleaaaGreatDoorRa01
import Derived.Test.YtjobhjemnmleaaaGreatDoorCards
import Derived.Test.YtjobhjemnmleaaaGreatDoorTie
import Derived.ShutString
import Derived.ChangeOld
import Derived.LaidMore
import Derived.Stop.LaidErr
import Derived.Deep.DeepHandedRow
set_option maxRecDepth 200000
set_option maxHeartbeats 40000000
namespace Go.Proofs.YtjobhjemnmleaaaGreatDoor
open Go.RowKit Go.Sort
theorem tail_reads {w:World}{B m:Nat}{ad:Addr}{a rest:List Value}(ha:a.length=3)(h:Reads w B 3 (some ad) (m+1) (a ++ rest)):Reads w B 3 (some (ad.add 3)) m rest:=by
 obtain⟨h1,h2⟩:=h;rw[List.length_append,ha] at h1;refine⟨by omega,fun hlt=>?_⟩;obtain⟨ad',e',hb,hc⟩:=h2 (by omega);obtain rfl:=Option.some.inj e';refine⟨_,rfl,by rw[block_of_add];exact hb,fun j u hu=>?_⟩;rw[add_of_add];refine hc _ _ ?_;rw[List.getElem?_append_right (by omega),ha,show 3+j - 3=j by omega];exact hu
namespace Cm
theorem missed_step {lo x:Int}{k:Nat}{ws:List Int}(h:ws[k]?=some x):missed (lo+(k:Int)) (ws.drop k)=(if x≠0 then [(lo+(k:Int),x)] else []) ++ missed (lo+((k+1:Nat):Int)) (ws.drop (k+1)):=by
 rw[List.drop_eq_getElem_cons (List.getElem?_eq_some_iff.1 h).1,(List.getElem?_eq_some_iff.1 h).2];show _ ++ missed (lo+(k:Int)+1) _=_
 rw[show lo+(k:Int)+1=lo+((k+1:Nat):Int) by omega]
theorem missed_ge : ∀(l:List Int) (lo:Int),∀q∈missed lo l,lo≤q.1
 |[],_,_,h=>by cases h
 |x :: l,lo,q,h=>by
  unfold missed at h;rcases List.mem_append.1 h with h|h
  ·split at h
   ·rw[List.mem_singleton.1 h];exact Int.le_refl _
   ·cases h
  ·have:=missed_ge l (lo+1) q h;omega
end Cm
theorem topPlanned_any (s:Src.S)(nm:ByteArray)(lo hi:Int)(rv zv lv:Value)(evs:List Value)(w:World)(hR:Src.SrcR w w.heap.size s rv zv lv evs)(hw:Src.Wide s)(hW:Wo w)(hA:Wa w)(hnm:nm.size≤maxLen)
  (hlo:-9223372036854775808≤lo∧lo<9223372036854775808) (hhi:-9223372036854775808≤hi∧hi<9223372036854775808):
  Calls Tryz.prog 8 #[.agg #[rv,zv,lv],.string nm,.int .i64 lo,.int .i64 hi] w fun e w'=>e=.returned (.bool true)∧Below w.heap.size w w':=by
 have HU:=ak (Cp.use s rv zv lv evs w hR hw hW hA);have HLv:=ak fun V (hb:Below w.heap.size w V)=>begins14_any V (hW.below hb) (hA.below hb)
 have HNe:=ak fun V (hb:Below w.heap.size w V)=>HU.out.near lo hi hlo hhi V hb
 have HZ:=ak fun(hf:Src.Few s) V (hb:Below w.heap.size w V)=>HU.out.zone hf nm hnm lo hi hlo hhi V hb
 have HLk:=ak fun(hf:Src.Few s) V (hb:Below w.heap.size w V)=>HU.out.link hf nm hnm V hb
 clear hR hw hW hA hnm hlo hhi;obtain⟨V1,gS,HEV1,HGgS,HS⟩:=(St.start w).lay #[rv,zv,lv] 26;go_enter Tryz.func8,Tryz.ntmps8
 go_upto_region 1 with fail
 rw[HEV1.out]
 try rw[HGgS.out]
 go_wp2_with fail
 refine(HLv.out _ HS.out.b).mono ?_;rintro e V2 ⟨rfl,hb⟩;replace HS:=ak (HS.out.call hb);clear hb;have S0:=(HS.out.get 0 rfl).cell 0 _ rfl;have S1:=(HS.out.get 0 rfl).cell 1 _ rfl;have S2:=(HS.out.get 0 rfl).cell 2 _ rfl;have zS:=(HS.out.get 0 rfl).lt;go_wp2_with fail
 refine(HNe.out _ HS.out.b).mono ?_;rintro e V3 ⟨he,hb⟩;clear S0 S1 S2 zS;replace HS:=ak (HS.out.call hb);clear hb;rcases he with rfl|⟨rfl,hfew,_⟩
 ·go_wp2;go_ret
  exact⟨rfl,HS.out.b⟩
 by_cases h1000:(1000:Int)<(nm.size:Int)
 ·have d1:=decide_eq_true h1000;go_wp2;go_ret
  exact⟨rfl,HS.out.b⟩
 have d1:=decide_eq_false h1000;have S0:=(HS.out.get 0 rfl).cell 0 _ rfl;have S1:=(HS.out.get 0 rfl).cell 1 _ rfl;have S2:=(HS.out.get 0 rfl).cell 2 _ rfl;have zS:=(HS.out.get 0 rfl).lt;go_wp2_with fail
 refine(HZ.out hfew _ HS.out.b).mono ?_;intro e V4 hz;obtain⟨hb,hz⟩:=hz.cases;clear S0 S1 S2 zS;replace HS:=ak (HS.out.call hb);clear hb;rcases hz with ⟨er,hbad,rfl⟩|⟨x,n,g1,g2,c1,c2,hzn,rfl,hrd⟩
 ·have z1:(er == 0)=false:=by rw[beq_eq_false_iff_ne];exact hbad.1
  have z2:(er != 0)=true:=by rw[bne_iff_ne];exact hbad.1
  clear hbad;have hLy:=HS.out.lay #[.int .i64 0,.slice none 0 0,.slice none 0 0] 53;clear HS;obtain⟨V5,gP,HEV5,HGgP,HS⟩:=hLy;go_upto_region 6 with fail
  rw[HEV5.out]
  try rw[HGgP.out]
  have P0:=(HS.out.get 0 rfl).cell 0 _ rfl;have P1:=(HS.out.get 0 rfl).cell 1 _ rfl;have P2:=(HS.out.get 0 rfl).cell 2 _ rfl;have zP:=(HS.out.get 0 rfl).lt;have HTb:=ak (sqTable_none cmCheck_none V5);go_wp2_with fail
  refine HTb.out.mono ?_;rintro e V6 ⟨rfl,hb⟩;clear P0 P1 P2 zP;replace HS:=ak (HS.out.call hb);clear hb;clear HTb;have hLy:=HS.out.lay #[.int .i64 0,.int .i64 0,.slice none 0 0] 73;clear HS;obtain⟨V7,gT,HEV7,HGgT,HS⟩:=hLy;go_upto_region 7 with fail
  rw[HEV7.out]
  try rw[HGgT.out]
  go_wp2;go_ret
  exact⟨rfl,HS.out.b⟩
 have HZn:=ak hzn;have HRd:=ak hrd;have HV4:=ak (Below.refl V4.heap.size V4);have HS4:=ak HS.out.b;have HGo:=ak (hzn.good (HU.out.rules hfew hzn.wl));have hp:=hzn.pos;have hlo:=hzn.lo;have HLn:=ak fun V (hb:Below w.heap.size w V)=>HU.out.lineOk hfew hzn V hb
 have HLe:=ak hzn.le;obtain⟨zi,hzi⟩:=aj ((Lk.walk s nm).2.1)
 have HLk2:Hid (∀V,Below w.heap.size w V→Calls Tryz.prog 21 #[.agg #[rv,zv,lv],.string nm] V fun e w'=>e=.returned (.tuple #[.int .i64 zi,.int .i64 0])∧Below V.heap.size V w'):=fun V hb=>(HLk.out hfew V hb).mono fun e w' h=>⟨by rw[h.1,hzi,HLe.out],h.2⟩
 rw[hzi] at HLn;have HPo:=ak hp;have HLo:=ak hlo;obtain⟨f,hf0⟩:=aj (Cm.yr s x.2)
 have HF:=ak hf0;rw[hf0] at HGo HRd;obtain⟨p,hp0⟩:=aj (Cm.run f lo n)
 rw[hp0] at HGo HRd;clear hzn hrd hp hlo hzi HLk HZ HNe HLv hf0 hp0;have hLy:=HS.out.lay #[.int .i64 lo,.slice (some ⟨g1,0,none⟩) n c1,.slice (some ⟨g2,0,none⟩) n c2] 53;clear HS;obtain⟨V5,gP,HEV5,HGgP,HS⟩:=hLy;have hbn:Below V4.heap.size V4 V5:=by rw[← HEV5.out];exact al
 replace HV4:=ak (below_then HV4.out hbn);clear hbn;go_upto_region 6 with fail
 rw[HEV5.out]
 try rw[HGgP.out]
 have P0:=(HS.out.get 0 rfl).cell 0 _ rfl;have P1:=(HS.out.get 0 rfl).cell 1 _ rfl;have P2:=(HS.out.get 0 rfl).cell 2 _ rfl;have zP:=(HS.out.get 0 rfl).lt;have HTb:=ak (sqTable_ok lo p _ n g1 g2 c1 c2 V5 (HRd.out.call HV4.out) HGo.out ⟨HPo.out.1,HPo.out.2.1⟩ HLo.out HPo.out.2.2.2 (HU.out.lens V5 HS.out.b));go_wp2_with fail
 refine HTb.out.mono ?_;rintro e V6 ⟨⟨a,b,tv,hcut,rfl,ho⟩,hb⟩;clear P0 P1 P2 zP;replace HV4:=ak (below_then HV4.out hb);replace HS:=ak (HS.out.call hb);clear hb;obtain⟨tA,tc,rfl,_,_⟩:=own_slice_cap ho;obtain⟨tn,htn⟩:=aj (b - a+1)
 rw[htn] at ho;rw[htn];have HCut:=ak hcut;have HS6:=ak HS.out.b;have HTb2:Hid (Sq.TabR V6 (Sq.table lo p.recs a b) (.slice tA tn tc)∧∀V,Below V6.heap.size V6 V→Lens V):=⟨Sq.tabR_own hcut (by rw[htn];exact ho) HLo.out HPo.out.2.2.2 HGo.out,fun V hb=>HU.out.lens V (below_then HS6.out hb)⟩
 have HTok:=ak (Sq.table_ok (lo:=lo) hcut HLo.out (by rw[HGo.out.lr];exact HPo.out.2.2.2) (by rw[HGo.out.lr];exact HPo.out.2.1) (fun r hr=>(HGo.out.ok r hr).1));have HV6:=ak (Below.refl V6.heap.size V6);clear hcut ho HTb htn;have hLy:=HS.out.lay #[.int .i64 (lo+(a:Int)),.int .i64 (lo+(b:Int)),.slice tA tn tc] 73;clear HS;obtain⟨V7,gT,HEV7,HGgT,HS⟩:=hLy;have hbn:Below V6.heap.size V6 V7:=by rw[← HEV7.out];exact al
 replace HV4:=ak (below_then HV4.out hbn);replace HV6:=ak (below_then HV6.out hbn);clear hbn;go_upto_region 7 with fail
 rw[HEV7.out]
 try rw[HGgT.out]
 have S0:=(HS.out.get 2 rfl).cell 0 _ rfl;have S1:=(HS.out.get 2 rfl).cell 1 _ rfl;have S2:=(HS.out.get 2 rfl).cell 2 _ rfl;have zS:=(HS.out.get 2 rfl).lt;go_wp2_with fail
 refine(HLk2.out _ HS.out.b).mono ?_;rintro e V8 ⟨rfl,hb⟩;clear S0 S1 S2 zS;replace HV4:=ak (below_then HV4.out hb);replace HV6:=ak (below_then HV6.out hb);replace HS:=ak (HS.out.call hb);clear hb;have S0:=(HS.out.get 2 rfl).cell 0 _ rfl;have S1:=(HS.out.get 2 rfl).cell 1 _ rfl;have S2:=(HS.out.get 2 rfl).cell 2 _ rfl;have zS:=(HS.out.get 2 rfl).lt;go_wp2_with fail
 refine(HLn.out _ HS.out.b).mono ?_;rintro e V9 ⟨⟨lA,m,lc,rfl,hm,hm2,hmc,hcm,hRl⟩,hb⟩;clear S0 S1 S2 zS;replace HV4:=ak (below_then HV4.out hb);replace HV6:=ak (below_then HV6.out hb);replace HS:=ak (HS.out.call hb);clear hb;have HLl:=ak (And.intro hm (And.intro hm2 (And.intro hmc hcm)));have HRl:=ak hRl;have HV9:=ak (Below.refl V9.heap.size V9);clear hm hm2 hmc hcm hRl HLn HLk2;have P0:=(HS.out.get 1 rfl).cell 0 _ rfl;have P1:=(HS.out.get 1 rfl).cell 1 _ rfl;have P2:=(HS.out.get 1 rfl).cell 2 _ rfl;have zP:=(HS.out.get 1 rfl).lt;have HMs:=ak (sqMissed_ok nm lo p _ n g1 g2 c1 c2 V9 (HRd.out.call HV4.out) HGo.out.lw HPo.out.2.1 HLo.out HPo.out.2.2.2);go_wp2_with fail
 refine HMs.out.mono ?_;rintro e V10 ⟨⟨mv,rfl,hmo⟩,hb⟩;clear P0 P1 P2 zP;replace HV4:=ak (below_then HV4.out hb);replace HV6:=ak (below_then HV6.out hb);replace HV9:=ak (below_then HV9.out hb);replace HS:=ak (HS.out.call hb);clear hb;obtain⟨mA,mc,rfl,hmc1,hmc2⟩:=own_slice_cap hmo;have HMr:=ak (Reads.of_own hmo);obtain⟨ws,hws⟩:=aj (p.why)
 have hml:=Cm.missed_len p.why lo;rw[HGo.out.lw] at hml;rw[hws] at HMr hmc1 hml;rw[hws];have HWs:=ak hws;have HMc:=ak (And.intro hml (And.intro hmc1 hmc2));clear hmo hmc1 hmc2 hws hml HMs;go_wp2_with fail
 go_loopw [17,18] (fun v i wr=>∃k:Nat,k≤n∧i=.int .i64 (lo+(k:Int))∧∃A c,v=.slice A (Cm.missed (lo+(k:Int)) (ws.drop k)).length c∧Hid ((Cm.missed (lo+(k:Int)) (ws.drop k)).length≤n∧(Cm.missed (lo+(k:Int)) (ws.drop k)).length≤c∧c≤maxLen)∧Hid (Reads wr wr.heap.size 3 A (Cm.missed (lo+(k:Int)) (ws.drop k)).length (Cm.mcs nm (Cm.missed (lo+(k:Int)) (ws.drop k))))∧Hid (St w wr [(gT,[.int .i64 (lo+(a:Int)),.int .i64 (lo+(b:Int)),.slice tA tn tc]),(gP,[.int .i64 lo,.slice (some ⟨g1,0,none⟩) n c1,.slice (some ⟨g2,0,none⟩) n c2]),(gS,[rv,zv,lv])])∧Hid (Below V4.heap.size V4 wr)∧Hid (Below V6.heap.size V6 wr)∧Hid (Below V9.heap.size V9 wr)) (fun _ i _=>(hi+1 - intOf i).toNat)
 case atStart=>exact⟨0,Nat.zero_le _,by rw[Int.natCast_zero,Int.add_zero],mA,mc,by rw[Int.natCast_zero,Int.add_zero,List.drop_zero],by rw[Int.natCast_zero,Int.add_zero,List.drop_zero];exact HMc.out,by rw[Int.natCast_zero,Int.add_zero,List.drop_zero];exact HMr.out,HS.out,HV4.out,HV6.out,HV9.out⟩
 case round=>
  clear HS HV4 HV6 HV9 HMr HMc;obtain⟨k,hk,rfl,mA,mc,rfl,HMc,HMr,HS,HV4,HV6,HV9⟩:=hrel
  by_cases hlt:k<n
  ·have hp:=HPo.out;have q1:lo+(k:Int)≤hi:=(by omega);have q1':=decide_eq_true q1;have wk:IntKind.i64.wrap (lo+(k:Int)+1)=lo+(k:Int)+1:=by have:=HLo.out;rw[IntKind.wrap_i64];omega
   have hyb:1601≤lo+(k:Int)∧lo+(k:Int)≤9999:=⟨by have:=HLo.out;omega,by omega⟩
   have hwk:=HGo.out.why k hlt;rw[HWs.out] at hwk;have hmst:=Cm.missed_step (lo:=lo) hwk;obtain⟨r,hrk⟩:∃r,p.recs[k]?=some r:=⟨_,List.getElem?_eq_getElem (by rw[HGo.out.lr];exact hlt)⟩
   have hof:=Sq.table_of (lo:=lo) HCut.out (i:=k) (by rw[HGo.out.lr];exact hlt);rw[hrk] at hof;have hre:=Option.some.inj hof;have hok:=HGo.out.ok r (List.mem_of_getElem? hrk);have hyl:=fun V (hb:Below V9.heap.size V9 V)=>HU.out.yearOk hfew HZn.out (y:=lo+(k:Int)) (by omega) q1 HLl.out.1 HLl.out.2.1 HLl.out.2.2.1 HLl.out.2.2.2 V ((HRl.out.below hb).more hb.size)
   rw[HF.out] at hyl;have hsp:=fun V (hb:Below V6.heap.size V6 V)=>tbSpans_ok (Sq.table lo p.recs a b) (.slice tA tn tc) (lo+(k:Int)) V (HTb2.out.2 V hb) (HTb2.out.1.call hb) HTok.out hyb
   rw[← hre] at hsp;have hnv:=Cm.never (f:=f) (y:=lo+(k:Int)) (r:=r) hyb hok.1 hok.2;have hown:=HGo.out.own k hlt;obtain⟨no,hno⟩:=aj (Cm.no f (lo+(k:Int)))
   rw[hno] at hmst hnv hown;obtain⟨L1,hL1⟩:=aj (f (lo+(k:Int)))
   obtain⟨L2,hL2⟩:=aj (Rc.spans r (lo+(k:Int)))
   rw[hL1] at hnv hown hyl;rw[hL2] at hnv hsp;have hyes:no=0→L1=L2:=fun q=>by
    obtain⟨r2,k1,k2⟩:=hown q;rw[hrk] at k1;obtain rfl:=Option.some.inj k1;rw[← k2,hL2]
   have HYes:=ak hyes;have HNv:=ak hnv;have HYL:=ak hyl;have HSp:=ak hsp;have hge:=Cm.missed_ge (ws.drop (k+1)) (lo+((k+1:Nat):Int));obtain⟨M2,hM2⟩:=aj (Cm.missed (lo+((k+1:Nat):Int)) (ws.drop (k+1)))
   rw[hM2] at hmst hge;obtain⟨M1,hM1⟩:=aj (Cm.missed (lo+(k:Int)) (ws.drop k))
   rw[hM1] at hmst HMc HMr;rw[hM1];have HM2:=ak hM2;have q9:((lo+(k:Int)) == (lo+(k:Int)))=true:=by rw[beq_iff_eq]
   clear hp hyb hwk hrk hof hre hok hyl hsp hnv hown hno hL1 hL2 hyes hM1 hM2
   by_cases hn0:no=0
   ·rw[if_neg (fun q=>q hn0),List.nil_append] at hmst;subst hmst;have hLL:=decide_eq_true (HYes.out hn0);clear hn0;obtain⟨mn,hmn⟩:=aj (M1.length)
    rw[hmn] at HMc HMr;rw[hmn];have HMn:=ak hmn;rcases Nat.eq_zero_or_pos mn with h0|h0
    ·subst h0;clear hmn hge;go_upto_region 20 with fail
     go_wp2_with fail
     refine(HYL.out _ HV9.out).mono ?_;rintro e U1 ⟨⟨A1,m1,d1q,rfl,hm1,hn1,hr1⟩,hb⟩;replace HV4:=ak (below_then HV4.out hb);replace HV6:=ak (below_then HV6.out hb);replace HV9:=ak (below_then HV9.out hb);replace HMr:=ak ((HMr.out.below hb).more (hb).size);replace HS:=ak (HS.out.call hb);clear hb;clear HYL;have HV1:=ak (Below.refl U1.heap.size U1);have HR1:=ak hr1;clear hr1;have T0:=(HS.out.get 0 rfl).cell 0 _ rfl;have T1:=(HS.out.get 0 rfl).cell 1 _ rfl;have T2:=(HS.out.get 0 rfl).cell 2 _ rfl;have zT:=(HS.out.get 0 rfl).lt;go_wp2_with fail
     refine(HSp.out _ HV6.out).mono ?_;rintro e U2 ⟨⟨A2,m2,d2q,rfl,hm2,hn2,hr2⟩,hb⟩;clear T0 T1 T2 zT;replace HV4:=ak (below_then HV4.out hb);replace HV6:=ak (below_then HV6.out hb);replace HV9:=ak (below_then HV9.out hb);replace HMr:=ak ((HMr.out.below hb).more (hb).size);replace HV1:=ak (below_then HV1.out hb);replace HS:=ak (HS.out.call hb);clear hb;clear HSp;have HSm:=ak (same18_any A1 A2 m1 m2 d1q d2q L1 L2 U2 hn1 hn2 hm1 hm2 ((HR1.out.below HV1.out).more HV1.out.size) hr2);rw[hLL] at HSm;clear hm1 hn1 hm2 hn2 hr2 HV1 HR1;go_wp2_with fail
     refine HSm.out.mono ?_;rintro e U3 ⟨rfl,hdr⟩;have hb:=hdr.below U2.heap.size;clear hdr HSm;replace HV4:=ak (below_then HV4.out hb);replace HV6:=ak (below_then HV6.out hb);replace HV9:=ak (below_then HV9.out hb);replace HMr:=ak ((HMr.out.below hb).more (hb).size);replace HS:=ak (HS.out.call hb);clear hb;go_wp2;go_roundw
     case rel=>
      refine⟨k+1,by omega,by simp only[Int.natCast_add,Int.natCast_one,Int.add_assoc],mA,mc,?_,?_,?_,HS.out,HV4.out,HV6.out,HV9.out⟩
      ·rw[HM2.out,HMn.out]
      ·rw[HM2.out,HMn.out];exact HMc.out
      ·rw[HM2.out,HMn.out];exact HMr.out
     case measure=>simp[intOf];omega
    ·obtain⟨q0,ql,hq0⟩:∃a l,M1=a :: l:=by
      cases M1 with
      |nil=>simp at hmn;omega
      |cons a l=>exact⟨a,l,rfl⟩
     have hqy:=hge q0 (by rw[hq0];exact List.mem_cons_self ..);obtain⟨ad,e0,hbk,hcc⟩:=HMr.out.2 h0;subst e0;have c1:wr.cell? ⟨ad.block,ad.off+1,none⟩=some (.int .i64 q0.1):=hcc 1 _ (by rw[hq0];rfl);have q2:(0:Int)<(mn:Int):=(by omega);have q3:(q0.1 == lo+(k:Int))=false:=bqf (by omega);clear hcc hq0 hge hqy hmn;go_upto_region 20 with fail
     clear c1;go_upto_region 20 with fail
     go_wp2_with fail
     refine(HYL.out _ HV9.out).mono ?_;rintro e U1 ⟨⟨A1,m1,d1q,rfl,hm1,hn1,hr1⟩,hb⟩;replace HV4:=ak (below_then HV4.out hb);replace HV6:=ak (below_then HV6.out hb);replace HV9:=ak (below_then HV9.out hb);replace HMr:=ak ((HMr.out.below hb).more (hb).size);replace HS:=ak (HS.out.call hb);clear hb;clear HYL;have HV1:=ak (Below.refl U1.heap.size U1);have HR1:=ak hr1;clear hr1;have T0:=(HS.out.get 0 rfl).cell 0 _ rfl;have T1:=(HS.out.get 0 rfl).cell 1 _ rfl;have T2:=(HS.out.get 0 rfl).cell 2 _ rfl;have zT:=(HS.out.get 0 rfl).lt;go_wp2_with fail
     refine(HSp.out _ HV6.out).mono ?_;rintro e U2 ⟨⟨A2,m2,d2q,rfl,hm2,hn2,hr2⟩,hb⟩;clear T0 T1 T2 zT;replace HV4:=ak (below_then HV4.out hb);replace HV6:=ak (below_then HV6.out hb);replace HV9:=ak (below_then HV9.out hb);replace HMr:=ak ((HMr.out.below hb).more (hb).size);replace HV1:=ak (below_then HV1.out hb);replace HS:=ak (HS.out.call hb);clear hb;clear HSp;have HSm:=ak (same18_any A1 A2 m1 m2 d1q d2q L1 L2 U2 hn1 hn2 hm1 hm2 ((HR1.out.below HV1.out).more HV1.out.size) hr2);rw[hLL] at HSm;clear hm1 hn1 hm2 hn2 hr2 HV1 HR1;go_wp2_with fail
     refine HSm.out.mono ?_;rintro e U3 ⟨rfl,hdr⟩;have hb:=hdr.below U2.heap.size;clear hdr HSm;replace HV4:=ak (below_then HV4.out hb);replace HV6:=ak (below_then HV6.out hb);replace HV9:=ak (below_then HV9.out hb);replace HMr:=ak ((HMr.out.below hb).more (hb).size);replace HS:=ak (HS.out.call hb);clear hb;go_wp2;go_roundw
     case rel=>
      refine⟨k+1,by omega,by simp only[Int.natCast_add,Int.natCast_one,Int.add_assoc],some ad,mc,?_,?_,?_,HS.out,HV4.out,HV6.out,HV9.out⟩
      ·rw[HM2.out,HMn.out]
      ·rw[HM2.out,HMn.out];exact HMc.out
      ·rw[HM2.out,HMn.out];exact HMr.out
     case measure=>simp[intOf];omega
   ·rw[if_pos hn0] at hmst;have hLL:=decide_eq_false (HNv.out hn0 ∘ Eq.symm);subst hmst;obtain⟨mn,hmn⟩:=aj (M2.length)
    have hl1:([(lo+(k:Int),no)] ++ M2).length=mn+1:=by rw[List.length_append,hmn];simp;omega
    rw[hl1] at HMc HMr;rw[hl1];have HMn:=ak hmn;obtain⟨ad,e0,hbk,hcc⟩:=HMr.out.2 (Nat.succ_pos _);subst e0;have c1:wr.cell? ⟨ad.block,ad.off+1,none⟩=some (.int .i64 (lo+(k:Int))):=hcc 1 _ rfl;have hmc:=HMc.out;have q2:(0:Int)<((mn:Int)+1):=(by omega);have q3:(1:Int)≤((mn:Int)+1):=(by omega);have q4:mn+1≤mc:=hmc.2.1;have q5:((mn:Int)+1)≤(mc:Int):=(by omega);have HMq:Hid (Reads wr wr.heap.size 3 (some (ad.add 3)) mn (Cm.mcs nm M2)):=tail_reads (a:=Cm.mc nm (lo+(k:Int),no)) rfl HMr.out;rcases(show mc=1∨∃z,mc=z+2 from by rcases(by omega:mc=1∨2≤mc) with h|h;exact .inl h;exact .inr ⟨mc - 2,by omega⟩) with rfl|⟨cz,rfl⟩
    ·have h0:mn=0:=(by omega);subst h0;have HMq2:Hid (Reads wr wr.heap.size 3 (some ad) 0 (Cm.mcs nm M2)):=by
      obtain rfl:=List.eq_nil_of_length_eq_zero hmn;exact⟨rfl,fun h=>absurd h (by omega)⟩
     have HMz:Hid (0≤n∧0≤0∧0≤maxLen):=⟨Nat.zero_le _,Nat.zero_le _,Nat.zero_le _⟩
     clear hcc hge hmn hl1 hn0 hmc HMr HMc HMq q2 q3 q5 q4;have HMr:=HMq2;have HMc:=HMz;clear HMq2 HMz;go_upto_region 20 with fail
     clear c1;go_upto_region 20 with fail
     go_wp2_with fail
     refine(HYL.out _ HV9.out).mono ?_;rintro e U1 ⟨⟨A1,m1,d1q,rfl,hm1,hn1,hr1⟩,hb⟩;replace HV4:=ak (below_then HV4.out hb);replace HV6:=ak (below_then HV6.out hb);replace HV9:=ak (below_then HV9.out hb);replace HMr:=ak ((HMr.out.below hb).more (hb).size);replace HS:=ak (HS.out.call hb);clear hb;clear HYL;have HV1:=ak (Below.refl U1.heap.size U1);have HR1:=ak hr1;clear hr1;have T0:=(HS.out.get 0 rfl).cell 0 _ rfl;have T1:=(HS.out.get 0 rfl).cell 1 _ rfl;have T2:=(HS.out.get 0 rfl).cell 2 _ rfl;have zT:=(HS.out.get 0 rfl).lt;go_wp2_with fail
     refine(HSp.out _ HV6.out).mono ?_;rintro e U2 ⟨⟨A2,m2,d2q,rfl,hm2,hn2,hr2⟩,hb⟩;clear T0 T1 T2 zT;replace HV4:=ak (below_then HV4.out hb);replace HV6:=ak (below_then HV6.out hb);replace HV9:=ak (below_then HV9.out hb);replace HMr:=ak ((HMr.out.below hb).more (hb).size);replace HV1:=ak (below_then HV1.out hb);replace HS:=ak (HS.out.call hb);clear hb;clear HSp;have HSm:=ak (same18_any A1 A2 m1 m2 d1q d2q L1 L2 U2 hn1 hn2 hm1 hm2 ((HR1.out.below HV1.out).more HV1.out.size) hr2);rw[hLL] at HSm;clear hm1 hn1 hm2 hn2 hr2 HV1 HR1;go_wp2_with fail
     refine HSm.out.mono ?_;rintro e U3 ⟨rfl,hdr⟩;have hb:=hdr.below U2.heap.size;clear hdr HSm;replace HV4:=ak (below_then HV4.out hb);replace HV6:=ak (below_then HV6.out hb);replace HV9:=ak (below_then HV9.out hb);replace HMr:=ak ((HMr.out.below hb).more (hb).size);replace HS:=ak (HS.out.call hb);clear hb;go_wp2;go_roundw
     case rel=>
      refine⟨k+1,by omega,by simp only[Int.natCast_add,Int.natCast_one,Int.add_assoc],some ad,0,?_,?_,?_,HS.out,HV4.out,HV6.out,HV9.out⟩
      ·rw[HM2.out,HMn.out]
      ·rw[HM2.out,HMn.out];exact HMc.out
      ·rw[HM2.out,HMn.out];exact HMr.out
     case measure=>simp[intOf];omega
    ·have HMz:Hid (mn≤n∧mn≤cz+1∧cz+1≤maxLen):=⟨by omega,by omega,by omega⟩
     clear hcc hge hmn hl1 hn0 hmc HMr HMc;have HMr:=HMq;have HMc:=HMz;clear HMq HMz;go_upto_region 20 with fail
     clear c1;go_upto_region 20 with fail
     go_wp2_with fail
     refine(HYL.out _ HV9.out).mono ?_;rintro e U1 ⟨⟨A1,m1,d1q,rfl,hm1,hn1,hr1⟩,hb⟩;replace HV4:=ak (below_then HV4.out hb);replace HV6:=ak (below_then HV6.out hb);replace HV9:=ak (below_then HV9.out hb);replace HMr:=ak ((HMr.out.below hb).more (hb).size);replace HS:=ak (HS.out.call hb);clear hb;clear HYL;have HV1:=ak (Below.refl U1.heap.size U1);have HR1:=ak hr1;clear hr1;have T0:=(HS.out.get 0 rfl).cell 0 _ rfl;have T1:=(HS.out.get 0 rfl).cell 1 _ rfl;have T2:=(HS.out.get 0 rfl).cell 2 _ rfl;have zT:=(HS.out.get 0 rfl).lt;go_wp2_with fail
     refine(HSp.out _ HV6.out).mono ?_;rintro e U2 ⟨⟨A2,m2,d2q,rfl,hm2,hn2,hr2⟩,hb⟩;clear T0 T1 T2 zT;replace HV4:=ak (below_then HV4.out hb);replace HV6:=ak (below_then HV6.out hb);replace HV9:=ak (below_then HV9.out hb);replace HMr:=ak ((HMr.out.below hb).more (hb).size);replace HV1:=ak (below_then HV1.out hb);replace HS:=ak (HS.out.call hb);clear hb;clear HSp;have HSm:=ak (same18_any A1 A2 m1 m2 d1q d2q L1 L2 U2 hn1 hn2 hm1 hm2 ((HR1.out.below HV1.out).more HV1.out.size) hr2);rw[hLL] at HSm;clear hm1 hn1 hm2 hn2 hr2 HV1 HR1;go_wp2_with fail
     refine HSm.out.mono ?_;rintro e U3 ⟨rfl,hdr⟩;have hb:=hdr.below U2.heap.size;clear hdr HSm;replace HV4:=ak (below_then HV4.out hb);replace HV6:=ak (below_then HV6.out hb);replace HV9:=ak (below_then HV9.out hb);replace HMr:=ak ((HMr.out.below hb).more (hb).size);replace HS:=ak (HS.out.call hb);clear hb;go_wp2;go_roundw
     case rel=>
      refine⟨k+1,by omega,by simp only[Int.natCast_add,Int.natCast_one,Int.add_assoc],some ⟨ad.block,ad.off+3,none⟩,cz+1,?_,?_,?_,HS.out,HV4.out,HV6.out,HV9.out⟩
      ·rw[HM2.out,HMn.out]
      ·rw[HM2.out,HMn.out];exact HMc.out
      ·rw[HM2.out,HMn.out];exact HMr.out
     case measure=>simp[intOf];omega
  ·have hkn:k=n:=(by omega);have hp:=HPo.out;have q1:¬lo+(k:Int)≤hi:=(by omega);have q1':=decide_eq_false q1;have hd:ws.drop k=[]:=List.drop_of_length_le (by rw[← HWs.out,HGo.out.lw];omega);rw[hd];clear hp hkn hlt hk hd;go_wp2;go_ret
   exact⟨rfl,HS.out.b⟩
end Go.Proofs.YtjobhjemnmleaaaGreatDoor
namespace Go.Proofs.YtjobhjemnmleaaaGreatDoor
open Go.RowKit
theorem topPlanned_row (s:Src.S)(rv zv lv:Value)(evs:List Value)(nm:ByteArray)(lo:Int)(hi:Int)(w:World)(hT:Wo w∧Wa w)(hR:Src.SrcR w w.heap.size s rv zv lv evs)(hw:Src.Wide s)(hnm:nm.size≤maxLen)(hlo:(Lit.int .i64 lo).wf=true)(hhi:(Lit.int .i64 hi).wf=true):
  Calls Tryz.prog 8 #[.agg #[rv,zv,lv],.string nm,.int .i64 lo,.int .i64 hi] w fun e w'=>e=.returned (.bool true)∧Below w.heap.size w w':=
 topPlanned_any s nm lo hi rv zv lv evs w hR hw hT.1 hT.2 hnm (by have:=i64_range hlo;omega) (by have:=i64_range hhi;omega)
end Go.Proofs.YtjobhjemnmleaaaGreatDoor
namespace Go.Proofs.YtjobhjemnmleaaaGreatDoor.topPlanned
open Go.ChangeShapes Go.WideShapes Go.ChangeAt Go.RowKit Go.Joins
open Go.ChangeMaps (open_string shut_string)
theorem own : ownKnob Tryz.prog.godebug=none:=by kernel_rfl
theorem laidOut : laidOutB Tryz.prog=true:=by kernel_rfl
theorem g_places : Tryz.prog.globalNamed "solstice/abbr.places" = some 1:=by kernel_rfl
theorem t_places : (Tryz.prog.globals[1]?).map (·.type)=some 336:=by kernel_rfl
theorem g_lens : Tryz.prog.globalNamed "solstice/civil.lengths" = some 0:=by kernel_rfl
theorem t_lens : (Tryz.prog.globals[0]?).map (·.type)=some 323:=by kernel_rfl
theorem wo_of {W:World}(h:laidMetH Tryz.prog Rows.topPlannedRow.laid W)(hS:W.ShapedOpen Tryz.prog):Wo W∧Wa W:=by
 have h0:laidMet Tryz.prog Rows.topPlannedRow.laid W:=h;have h1:=h0.tail;have x_lens:Lib.TabIs Tryz.prog W "solstice/civil.lengths" .i64 Cv.lens:=Lib.tabIs_of_head g_lens t_lens Tryz.underlying323 Tryz.underlying3 (by kernel_rfl) (by kernel_rfl) h0;have x_places:=strs_of_head (ls:=[[37,115],[37,122]]) (rest:=[]) g_places t_places Tryz.underlying336 Tryz.underlying9 (by kernel_rfl) (by kernel_rfl) h1;exact⟨⟨fun k hk=>x_lens.cell g_lens k hk,Tryz.laysM145.s1_3 W hS⟩,⟨x_places 0 _ rfl,x_places 1 _ rfl,Tryz.laysM145.s1_3 W hS⟩⟩
noncomputable def laidWorld (os:Os):World:=World.doorLaid Tryz.prog 4000 os
theorem laid_met (os:Os):laidMet Tryz.prog Rows.topPlannedRow.laid ((laidWorld os).forCall (fun _ _=>0) ⟨#[],#[.agg #[.slice none 0 0,.slice none 0 0,.slice none 0 0],.string ⟨#[]⟩,.int .i64 0,.int .i64 0],[]⟩).memory:=
 laidMet_of_run' 8 (by kernel_rfl) (by kernel_rfl)
theorem reads (os:Os){H:Type}(enc:TypeId × Value→H):∃places,DataW.whole enc Tryz.prog ((laidWorld os).forCall (fun _ _=>0) ⟨#[],#[.agg #[.slice none 0 0,.slice none 0 0,.slice none 0 0],.string ⟨#[]⟩,.int .i64 0,.int .i64 0],[]⟩).memory Tryz.f8.params.toList Rows.topPlannedSpec.vars false #[Value.agg #[.slice none 0 0,.slice none 0 0,.slice none 0 0],.string ⟨#[]⟩,.int .i64 0,.int .i64 0].toList 8=some ([.agg [.nil,.nil,.nil],.lit (.string []),.lit (.int .i64 0),.lit (.int .i64 0)],[],places):=
 ⟨[],by kernel_rfl⟩
theorem contract (H:Type)(enc:TypeId × Value→H)(W:World)(base:Nat)(args:Array Value)(ds gs:List (DataW H))(before:List MemPlace)
  (hval:∀(j:Nat) t v,Tryz.f8.params[j]?=some t→args[j]?=some v→Value.okWide Tryz.prog W .any base t v)
  (hW:DataW.Whole enc Tryz.prog Tryz.f8.params.toList Rows.topPlannedSpec.vars false W args.toList ds gs before) (hL:laidMetH Tryz.prog Rows.topPlannedRow.laid W) (hS:W.ShapedOpen Tryz.prog):
  Calls Tryz.prog 8 args W fun e W'=>∃v,e=.returned v∧Rows.topPlannedSpec.post enc Tryz.prog Tryz.f8 false true false false W args v W':=by
 have hW':=hW;obtain⟨p,q,hA0,hV,rfl,hfz,hnd⟩:=hW;have hA:DataW.TrodAll enc Tryz.prog W 0 (fun _=>true) true Tryz.f8.params.toList args.toList ds p:=hA0;rw[Tryz.params8] at hA hval;obtain⟨v0,vs0,d0,ds0,p0,q0,hargs,rfl,rfl,h0,r0⟩:=trodAll_cons hA;obtain⟨v1,vs1,d1,ds1,p1,q1,rfl,rfl,rfl,h1,r1⟩:=trodAll_cons r0;obtain⟨v2,vs2,d2,ds2,p2,q2,rfl,rfl,rfl,h2,r2⟩:=trodAll_cons r1;obtain⟨v3,vs3,d3,ds3,p3,q3,rfl,rfl,rfl,h3,r3⟩:=trodAll_cons r2;obtain⟨rfl,rfl,rfl⟩:=trodAll_nil r3;obtain rfl:args=#[v0,v1,v2,v3]:=by cases args;simp_all
 obtain⟨rfl,rfl⟩:=trodVars_none hV;have k0:=h0;have lt0:∀x∈p0,x.block<W.heap.size:=by obtain⟨m,hm⟩:=k0;exact DataW.trod_lt m _ _ _ hm
 obtain⟨s0,rv0,zv0,lv0,evs0,rfl,hsr0,hsw0⟩:=open_source (hval 0 26 v0 rfl rfl) h0;obtain⟨nm,rfl,rfl,rfl,wnm⟩:=open_string Tryz.underlying9 (hval 1 9 v1 rfl rfl) h1;obtain⟨lo,rfl,rfl,rfl,wlo⟩:=open_int Tryz.underlying3 (hval 2 3 v2 rfl rfl) h2;obtain⟨hi,rfl,rfl,rfl,whi⟩:=open_int Tryz.underlying3 (hval 3 3 v3 rfl rfl) h3;clear hA0;refine(topPlanned_row s0 rv0 zv0 lv0 evs0 nm lo hi W (wo_of hL hS) hsr0 hsw0 wnm wlo whi).mono fun e W' ⟨he,bel⟩=>?_
 subst he;exact⟨_,rfl,_,_,_,[],_,[],hW',trodAll_mk1 (shut_bool Tryz.underlying4 _),(trodAll_cons_mk (Below.trod laidOut (by kernel_rfl) (of_decide_eq_true (by kernel_rfl)) k0 bel lt0) (trodAll_cons_mk (shut_string Tryz.underlying9 wnm) (trodAll_cons_mk (shut_int Tryz.underlying3 wlo) (trodAll_cons_mk (shut_int Tryz.underlying3 whi) trodAll_mk0)))),rfl,bel.frame _,fun h=>by cases h⟩
theorem lifted (os:Os)(started:os.Started)(H:Type)(enc:TypeId × Value→H)(F:Stop.Interp):
  ReturnsInHanded {} Tryz.checked os 8 .any ((OpenSpec.ofChange Rows.topPlannedSpec).preRow enc Tryz.prog Tryz.f8 Rows.topPlannedRow.domain false Rows.topPlannedRow.laid) (((OpenSpec.ofChange Rows.topPlannedSpec).at F).post enc Tryz.prog Tryz.f8 false true false false):=by
 obtain⟨places,hx⟩:=reads os enc;refine returnsInHanded_of_row (C:=Tryz.checked) (s:=OpenSpec.ofChange Rows.topPlannedSpec) own started (by kernel_rfl) Tryz.func8
  (witness_row_at (enc:=enc) (C:=Tryz.checked) false (laidWorld os) #[.agg #[.slice none 0 0,.slice none 0 0,.slice none 0 0],.string ⟨#[]⟩,.int .i64 0,.int .i64 0] rfl (by kernel_rfl) (by kernel_rfl) (by kernel_rfl)
   (OpenSpec.preRow_of_cond 8 hx (by kernel_rfl) (fun k hk=>by cases hk) (by kernel_rfl) (laid_met os))) ?_
 intro W base args ds gs before hval hW _ _ _ hL hS _;exact contract H enc W base args ds gs before hval hW hL hS
theorem closed_and {a b:Bool}(ha:a=true)(hb:b=true):(a && b)=true:=by rw[ha,hb];rfl
theorem closed : joinedFacts Tryz.prog 8 Tryz.f8 (OpenSpec.ofChange Rows.topPlannedSpec).bare Rows.topPlannedRow=true:=by
 unfold joinedFacts
 repeat' with_reducible refine closed_and ?_ ?_
 all_goals as_aux_lemma=>kernel_rfl
theorem said : Rows.TopPlannedSaid:=
 OpenClaim.holds_of_cond 8 Tryz.f8 rfl rfl rfl rfl rfl rfl rfl ⟨rfl,rfl,rfl,rfl,rfl⟩ rfl rfl rfl rfl rfl (by kernel_rfl) Tryz.func8 closed
  (of_decide_eq_true (by kernel_rfl)) (by unfold Func.isWrapper;first|(rw[if_pos (by decide +kernel)];kernel_rfl)|(rw[if_neg (by decide +kernel)];exact⟨rfl,rfl⟩))
  (fun os started H enc _ F=>by rw[OpenClaim.pre_eq_preRow];exact lifted os started H enc F)
theorem plain (f:FuncId)(fn:Func)(hf:Tryz.pinned.checked.prog.funcNamed "solstice/solsticetop.TopPlanned" = some f)(hfn:Tryz.pinned.checked.prog.funcs[f]?=some fn):
  false=Tryz.pinned.checked.prog.looks []∧∀(j:Nat) t,fn.params[j]?=some t→Tryz.pinned.checked.prog.wantsStandIn t=false:=by
 obtain rfl:f=8:=Option.some.inj ((show Tryz.prog.funcNamed "solstice/solsticetop.TopPlanned" = some 8 by kernel_rfl).symm.trans hf) |>.symm;obtain rfl:fn=Tryz.f8:=(Option.some.inj (Tryz.func8.symm.trans hfn)).symm;refine⟨by kernel_rfl,fun j t ht=>?_⟩;rw[Tryz.params8] at ht;have hm:t∈[26,9,3]:=by
  have:=Array.mem_of_getElem? ht;simp at this ⊢
  first|omega|(rcases this with h|h|h|h <;> simp[h])|(rcases this with h|h|h <;> simp[h])|(rcases this with h|h|h|h|h <;> simp[h])
 simp only[List.mem_cons,List.not_mem_nil,or_false] at hm;rcases hm with rfl|rfl|rfl
 ·exact(show Tryz.prog.wantsStandIn 26=false by kernel_rfl)
 ·exact(show Tryz.prog.wantsStandIn 9=false by kernel_rfl)
 ·exact(show Tryz.prog.wantsStandIn 3=false by kernel_rfl)
theorem card : Rows.TopPlannedCardSaid:=
 Claim7.holds_tied_plain_at .later [] _ _ _ _ said (fun _ h=>by cases h) (by kernel_rfl) (fun _ h=>by cases h) topPlanned_row_tie rfl ⟨rfl,rfl⟩ (by kernel_rfl) rfl plain (by kernel_rfl)
end Go.Proofs.YtjobhjemnmleaaaGreatDoor.topPlanned
