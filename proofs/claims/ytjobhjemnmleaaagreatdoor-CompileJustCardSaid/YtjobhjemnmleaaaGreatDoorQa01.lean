/- solsticeref27.Same: two plans that hold the same are the same. -/
import Derived.Test.YtjobhjemnmleaaaGreatDoorQ45
import Derived.Test.YtjobhjemnmleaaaGreatDoorCards
import Derived.Test.YtjobhjemnmleaaaGreatDoorTie
import Derived.ShutString
import Derived.ChangeOld
import Derived.LaidMore
import Derived.Stop.LaidErr
import Derived.Deep.DeepHandedRow
set_option maxRecDepth 200000
set_option maxHeartbeats 40000000
namespace Go.Proofs.YtjobhjemnmleaaaGreatDoor
open Go.RowKit Go.Sort
theorem cmSame_ok (lo:Int)(p:Cm.P)(B n g1 g2 c1 c2 B' g1' g2' c1' c2':Nat)(w:World)(h:Cm.Rd B n g1 g2 c1 c2 p w)(h':Cm.Rd B' n g1' g2' c1' c2' p w)(hn:n≤400)(h1:p.recs.length=n)(h2:p.why.length=n):
  Calls Tryz.prog 28 #[.agg #[.int .i64 lo,.slice (some ⟨g1,0,none⟩) n c1,.slice (some ⟨g2,0,none⟩) n c2],.agg #[.int .i64 lo,.slice (some ⟨g1',0,none⟩) n c1',.slice (some ⟨g2',0,none⟩) n c2']] w fun e w'=>e=.returned (.bool true)∧Below w.heap.size w w':=by
 have had1:∀j,(⟨g1,0,none⟩:Addr).add j=⟨g1,j,none⟩:=add_zero_at g1;have had2:∀j,(⟨g2,0,none⟩:Addr).add j=⟨g2,j,none⟩:=add_zero_at g2;have had3:∀j,(⟨g1',0,none⟩:Addr).add j=⟨g1',j,none⟩:=add_zero_at g1';have had4:∀j,(⟨g2',0,none⟩:Addr).add j=⟨g2',j,none⟩:=add_zero_at g2';have p1:(lo != lo)=false:=by rw[bne_eq_false_iff_eq]
 have p2:((n:Int) != (n:Int))=false:=by rw[bne_eq_false_iff_eq]
 have p3:(n != n)=false:=by rw[bne_eq_false_iff_eq]
 have H:=ak h;have H':=ak h';have H1:=ak h1;have H2:=ak h2;clear h h' h1 h2;obtain⟨V1,gP,HEV1,HGgP,HS⟩:=(St.start w).lay2 #[.int .i64 lo,.slice (some ⟨g1,0,none⟩) n c1,.slice (some ⟨g2,0,none⟩) n c2] 53 #[.int .i64 lo,.slice (some ⟨g1',0,none⟩) n c1',.slice (some ⟨g2',0,none⟩) n c2'] 53;have P0:=(HS.out.get 1 rfl).cell 0 _ rfl;have P1:=(HS.out.get 1 rfl).cell 1 _ rfl;have P2:=(HS.out.get 1 rfl).cell 2 _ rfl;have zP:=(HS.out.get 1 rfl).lt;have Q0:=(HS.out.get 0 rfl).cell 0 _ rfl;have Q1:=(HS.out.get 0 rfl).cell 1 _ rfl;have Q2:=(HS.out.get 0 rfl).cell 2 _ rfl;have zQ:=(HS.out.get 0 rfl).lt;go_enter Tryz.func28,Tryz.ntmps28
 go_upto_region 1 with fail
 rw[HEV1.out]
 try rw[HGgP.out]
 go_upto_region 4 with fail
 clear P0 P1 P2 zP Q0 Q1 Q2 zQ;go_loopw [33] (fun i wr=>∃k:Nat,k≤n∧i=.int .i64 (k:Int)∧Hid (St w wr [(gP+1,[.int .i64 lo,.slice (some ⟨g1',0,none⟩) n c1',.slice (some ⟨g2',0,none⟩) n c2']),(gP,[.int .i64 lo,.slice (some ⟨g1,0,none⟩) n c1,.slice (some ⟨g2,0,none⟩) n c2])])) (fun i _=>n - (intOf i).toNat)
 case atStart=>exact⟨0,Nat.zero_le _,rfl,by first|exact HS.out|exact HS.out.drewN _|exact HS.out.drew⟩
 case round=>
  clear HS;obtain⟨k,hk,rfl,HS⟩:=hrel
  by_cases hlt:k<n
  ·have q1:=am k
   have q2:(k:Int)<(n:Int):=(by omega);have wk:IntKind.i64.wrap ((k:Int)+1)=(k:Int)+1:=by rw[IntKind.wrap_i64];omega
   obtain⟨r,hr⟩:∃r,p.recs[k]?=some r:=⟨_,List.getElem?_eq_getElem (by rw[H1.out];exact hlt)⟩
   have HR1:Hid (wr.rangeAt g1 (k*19) r.arr.toList):=fun j v hv=>(HS.out.b.cell (p:=⟨g1,k*19+j,none⟩) H.out.lt1).trans (H.out.row hr j v hv)
   have HR2:Hid (wr.rangeAt g1' (k*19) r.arr.toList):=fun j v hv=>(HS.out.b.cell (p:=⟨g1',k*19+j,none⟩) H'.out.lt1).trans (H'.out.row hr j v hv)
   have hEq:∀W,(Op.equalIn 10000 49 (.agg r.arr) (.agg r.arr)).run Tryz.prog W=.ok true W:=fun W=>by rw[rec_same,decide_eq_true rfl]
   have P1:=cell_regrown ((HS.out.get 1 rfl).cell 1 _ rfl);have Q1:=cell_regrown ((HS.out.get 0 rfl).cell 1 _ rfl);have zP:=(HS.out.get 1 rfl).lt;have zQ:=(HS.out.get 0 rfl).lt;clear hr;go_upto_region 6 with fail
   refine wp_region_tail 10 (by kernel_rfl) (by kernel_rfl) ?_
   repeat (first|(refine quiet_load_arr rfl 49 _ rfl g1 (k*19) rfl r.arr HR1.out _ Tryz.underlying49 rfl (by kernel_rfl) ?_)|(refine quiet_load_arr rfl 49 _ rfl g1' (k*19) rfl r.arr HR2.out _ Tryz.underlying49 rfl (by kernel_rfl) ?_)|quiet_step (fail))
   refine wpQuiet_nil ?_;intro V9 hwz;obtain⟨⟨dq,osq⟩,hwz⟩:=hwz;have hb:Below wr.heap.size wr V9:=by rw[hwz];exact below_regrown _ _ _
   have HS9:=ak (HS.out.call hb);clear hwz P1 Q1 zP zQ hb HS HR1 HR2;show wpList _ _ _ (_ :: _) _ _
   go_wp2_with fail
   go_roundw
   case rel=>exact⟨k+1,by omega,by go_num,HS9.out⟩
   case measure=>simp[intOf];omega
  ·have hkn:k=n:=(by omega);subst hkn;have q2:¬(k:Int)<(k:Int):=(by omega);have P0:=(HS.out.get 1 rfl).cell 0 _ rfl;have P1:=(HS.out.get 1 rfl).cell 1 _ rfl;have P2:=(HS.out.get 1 rfl).cell 2 _ rfl;have zP:=(HS.out.get 1 rfl).lt;have Q0:=(HS.out.get 0 rfl).cell 0 _ rfl;have Q1:=(HS.out.get 0 rfl).cell 1 _ rfl;have Q2:=(HS.out.get 0 rfl).cell 2 _ rfl;have zQ:=(HS.out.get 0 rfl).lt;go_upto_region 10 with fail
   clear P0 P1 P2 zP Q0 Q1 Q2 zQ;go_loopw [51] (fun i wr=>∃j:Nat,j≤k∧i=.int .i64 (j:Int)∧Hid (St w wr [(gP+1,[.int .i64 lo,.slice (some ⟨g1',0,none⟩) k c1',.slice (some ⟨g2',0,none⟩) k c2']),(gP,[.int .i64 lo,.slice (some ⟨g1,0,none⟩) k c1,.slice (some ⟨g2,0,none⟩) k c2])])) (fun i _=>k - (intOf i).toNat)
   case atStart=>exact⟨0,Nat.zero_le _,rfl,by first|exact HS.out|exact HS.out.drewN _|exact HS.out.drew⟩
   case round=>
    clear HS;obtain⟨j,hj,rfl,HS⟩:=hrel
    by_cases hlt2:j<k
    ·have q3:=am j
     have q4:(j:Int)<(k:Int):=(by omega);have wj:IntKind.i64.wrap ((j:Int)+1)=(j:Int)+1:=by rw[IntKind.wrap_i64];omega
     obtain⟨x,hx⟩:∃x,p.why[j]?=some x:=⟨_,List.getElem?_eq_getElem (by rw[H2.out];exact hlt2)⟩
     have X1:=cell_regrown ((HS.out.b.cell (p:=⟨g2,j,none⟩) H.out.lt2).trans (H.out.why_at hx));have X2:=cell_regrown ((HS.out.b.cell (p:=⟨g2',j,none⟩) H'.out.lt2).trans (H'.out.why_at hx));have z1:g2<wr.heap.size:=Nat.lt_of_lt_of_le H.out.lt2 HS.out.b.size;have z2:g2'<wr.heap.size:=Nat.lt_of_lt_of_le H'.out.lt2 HS.out.b.size;have P2:=cell_regrown ((HS.out.get 1 rfl).cell 2 _ rfl);have Q2:=cell_regrown ((HS.out.get 0 rfl).cell 2 _ rfl);have zP:=(HS.out.get 1 rfl).lt;have zQ:=(HS.out.get 0 rfl).lt;have x1:(x != x)=false:=by rw[bne_eq_false_iff_eq]
     clear hx;go_upto_region 12 with fail
     refine wp_region_tail 10 (by kernel_rfl) (by kernel_rfl) ?_
     repeat quiet_step (fail)
     refine wpQuiet_nil ?_;intro V9 hwz;obtain⟨⟨dq,osq⟩,hwz⟩:=hwz;have hb:Below wr.heap.size wr V9:=by rw[hwz];exact below_regrown _ _ _
     have HS9:=ak (HS.out.call hb);clear hwz P2 Q2 zP zQ hb HS X1 X2 z1 z2;show wpList _ _ _ (_ :: _) _ _
     go_wp2_with fail
     go_roundw
     case rel=>exact⟨j+1,by omega,by go_num,HS9.out⟩
     case measure=>simp[intOf];omega
    ·have hjk:j=k:=(by omega);subst hjk;have q4:¬(j:Int)<(j:Int):=(by omega);go_wp2;go_ret
     exact⟨rfl,HS.out.b⟩
theorem compileJust_any (s:Src.S)(nm:ByteArray)(lo hi:Int)(rv zv lv:Value)(evs:List Value)(w:World)(hR:Src.SrcR w w.heap.size s rv zv lv evs)(hw:Src.Wide s)(hW:Wo w)(hA:Wa w)(hnm:nm.size≤maxLen)
  (hlo:-9223372036854775808≤lo∧lo<9223372036854775808) (hhi:-9223372036854775808≤hi∧hi<9223372036854775808):
  Calls Tryz.prog 5 #[.agg #[rv,zv,lv],.string nm,.int .i64 lo,.int .i64 hi] w fun e w'=>e=.returned (.bool true)∧Below w.heap.size w w':=by
 have HU:=ak (Cp.use s rv zv lv evs w hR hw hW hA);have HLv:=ak fun V (hb:Below w.heap.size w V)=>lives27 V (hW.below hb) (hA.below hb)
 have HNe:=ak fun V (hb:Below w.heap.size w V)=>HU.out.near lo hi hlo hhi V hb
 have HZ:=ak fun(hf:Src.Few s) V (hb:Below w.heap.size w V)=>HU.out.zone hf nm hnm lo hi hlo hhi V hb
 have HLk:=ak fun(hf:Src.Few s) V (hb:Below w.heap.size w V)=>HU.out.link hf nm hnm V hb
 have HNm:=ak hnm;clear hR hw hW hA hnm hlo hhi;obtain⟨V1,gS,HEV1,HGgS,HS⟩:=(St.start w).lay #[rv,zv,lv] 26;go_enter Tryz.func5,Tryz.ntmps5
 go_upto_region 1 with fail
 rw[HEV1.out]
 try rw[HGgS.out]
 go_wp2_with fail
 refine(HLv.out _ HS.out.b).mono ?_;rintro e V2 ⟨rfl,hb⟩;replace HS:=ak (HS.out.call hb);clear hb;have S0:=(HS.out.get 0 rfl).cell 0 _ rfl;have S1:=(HS.out.get 0 rfl).cell 1 _ rfl;have S2:=(HS.out.get 0 rfl).cell 2 _ rfl;have zS:=(HS.out.get 0 rfl).lt;go_wp2_with fail
 refine(HNe.out _ HS.out.b).mono ?_;rintro e V3 ⟨he,hb⟩;clear S0 S1 S2 zS;replace HS:=ak (HS.out.call hb);clear hb;rcases he with rfl|⟨rfl,hfew,_⟩
 ·go_wp2;go_ret
  exact⟨rfl,HS.out.b⟩
 by_cases h1000:(1000:Int)<(nm.size:Int)
 ·have d1:=decide_eq_true h1000;go_wp2;go_ret
  exact⟨rfl,HS.out.b⟩
 have d1:=decide_eq_false h1000;have S0:=(HS.out.get 0 rfl).cell 0 _ rfl;have S1:=(HS.out.get 0 rfl).cell 1 _ rfl;have S2:=(HS.out.get 0 rfl).cell 2 _ rfl;have zS:=(HS.out.get 0 rfl).lt;go_wp2_with fail
 refine(HZ.out hfew _ HS.out.b).mono ?_;intro e V4 hz;obtain⟨hb,hz⟩:=hz.cases;clear S0 S1 S2 zS;replace HS:=ak (HS.out.call hb);clear hb;rcases hz with ⟨er,hbad,rfl⟩|⟨x,n,g1,g2,c1,c2,hzn,rfl,hrd⟩
 ·have z1:(er == 0)=false:=by rw[beq_eq_false_iff_ne];exact hbad.1
  have z2:(er != 0)=true:=by rw[bne_iff_ne];exact hbad.1
  clear hbad;have hLy:=HS.out.lay #[.int .i64 0,.slice none 0 0,.slice none 0 0] 53;clear HS;obtain⟨V5,gP,HEV5,HGgP,HS⟩:=hLy;go_upto_region 6 with fail
  rw[HEV5.out]
  try rw[HGgP.out]
  have P0:=(HS.out.get 0 rfl).cell 0 _ rfl;have P1:=(HS.out.get 0 rfl).cell 1 _ rfl;have P2:=(HS.out.get 0 rfl).cell 2 _ rfl;have zP:=(HS.out.get 0 rfl).lt;go_wp2;go_ret
  exact⟨rfl,HS.out.b⟩
 have HZn:=ak hzn;have HRd:=ak hrd;have HV4:=ak (Below.refl V4.heap.size V4);have HS4:=ak HS.out.b;have HGo:=ak (hzn.good (HU.out.rules hfew hzn.wl));have hp:=hzn.pos;have hlo:=hzn.lo;have hin:=hzn.iny;unfold Ln.InY at hin;have HLn:=ak fun V (hb:Below w.heap.size w V)=>HU.out.lineOk hfew hzn V hb
 have HAl:=ak fun V (hb:Below w.heap.size w V)=>HU.out.alias hfew hzn.wl nm HNm.out hzn.le V hb
 have HLe:=ak hzn.le;obtain⟨zi,hzi⟩:=aj ((Lk.walk s nm).2.1)
 have HLk2:Hid (∀V,Below w.heap.size w V→Calls Tryz.prog 21 #[.agg #[rv,zv,lv],.string nm] V fun e w'=>e=.returned (.tuple #[.int .i64 zi,.int .i64 0])∧Below V.heap.size V w'):=fun V hb=>(HLk.out hfew V hb).mono fun e w' h=>⟨by rw[h.1,hzi,HLe.out],h.2⟩
 rw[hzi] at HLn;have wq1:IntKind.i64.wrap (hi - lo)=hi - lo:=by rw[IntKind.wrap_i64];omega
 have wq2:IntKind.i64.wrap (hi - lo+1)=(n:Int):=by rw[IntKind.wrap_i64];omega
 have e1:(lo != lo)=false:=by rw[bne_eq_false_iff_eq]
 have e2:((n:Int) != (n:Int))=false:=by rw[bne_eq_false_iff_eq]
 have e3:(n != n)=false:=by rw[bne_eq_false_iff_eq]
 have HIn:=ak hin;have HPo:=ak hp;have HLo:=ak hlo;clear hzn hrd hin hp hlo hzi HLk HZ HNe HLv;have hLy:=HS.out.lay #[.int .i64 lo,.slice (some ⟨g1,0,none⟩) n c1,.slice (some ⟨g2,0,none⟩) n c2] 53;clear HS;obtain⟨V5,gP,HEV5,HGgP,HS⟩:=hLy;have hbn:Below V4.heap.size V4 V5:=by rw[← HEV5.out];exact al
 replace HV4:=ak (below_then HV4.out hbn);clear hbn;go_upto_region 6 with fail
 rw[HEV5.out]
 try rw[HGgP.out]
 have S0:=(HS.out.get 1 rfl).cell 0 _ rfl;have S1:=(HS.out.get 1 rfl).cell 1 _ rfl;have S2:=(HS.out.get 1 rfl).cell 2 _ rfl;have zS:=(HS.out.get 1 rfl).lt;have P0:=(HS.out.get 0 rfl).cell 0 _ rfl;have P1:=(HS.out.get 0 rfl).cell 1 _ rfl;have P2:=(HS.out.get 0 rfl).cell 2 _ rfl;have zP:=(HS.out.get 0 rfl).lt;go_wp2_with fail
 refine(HLk2.out _ HS.out.b).mono ?_;rintro e V6 ⟨rfl,hb⟩;clear S0 S1 S2 zS P0 P1 P2 zP;replace HV4:=ak (below_then HV4.out hb);replace HS:=ak (HS.out.call hb);clear hb;have S0:=(HS.out.get 1 rfl).cell 0 _ rfl;have S1:=(HS.out.get 1 rfl).cell 1 _ rfl;have S2:=(HS.out.get 1 rfl).cell 2 _ rfl;have zS:=(HS.out.get 1 rfl).lt;go_wp2_with fail
 refine(HLn.out _ HS.out.b).mono ?_;rintro e V7 ⟨⟨lA,m,lc,rfl,hm,hm2,hmc,hcm,hRl⟩,hb⟩;clear S0 S1 S2 zS;replace HV4:=ak (below_then HV4.out hb);replace HS:=ak (HS.out.call hb);clear hb;have P0:=(HS.out.get 0 rfl).cell 0 _ rfl;have P1:=(HS.out.get 0 rfl).cell 1 _ rfl;have P2:=(HS.out.get 0 rfl).cell 2 _ rfl;have zP:=(HS.out.get 0 rfl).lt;have HLl:=ak (And.intro hm (And.intro hm2 (And.intro hmc hcm)));have HRl:=ak hRl;have HV7:=ak (Below.refl V7.heap.size V7);clear hm hm2 hmc hcm hRl HLn HLk2;have HCk:Hid (∀V,Below V4.heap.size V4 V→Calls Tryz.prog 26 #[.agg #[.int .i64 lo,.slice (some ⟨g1,0,none⟩) n c1,.slice (some ⟨g2,0,none⟩) n c2]] V fun e w'=>e=.returned (.int .i64 0)∧Below V.heap.size V w'):=fun V hb=>(HRd.out.call hb).check HGo.out ⟨HPo.out.1,HPo.out.2.1⟩ HLo.out HPo.out.2.2.2 (HU.out.lens V (below_then HS4.out hb))
 go_wp2_with fail
 refine(HCk.out _ HV4.out).mono ?_;rintro e V8 ⟨rfl,hb⟩;clear P0 P1 P2 zP;replace HV4:=ak (below_then HV4.out hb);replace HV7:=ak (below_then HV7.out hb);replace HS:=ak (HS.out.call hb);clear hb;have P0:=(HS.out.get 0 rfl).cell 0 _ rfl;have P1:=(HS.out.get 0 rfl).cell 1 _ rfl;have P2:=(HS.out.get 0 rfl).cell 2 _ rfl;have zP:=(HS.out.get 0 rfl).lt;clear HCk;go_upto_region 13 with fail
 clear P0 P1 P2 zP;go_loopw [15] (fun i wr=>∃k:Nat,k≤n∧i=.int .i64 (lo+(k:Int))∧Hid (St w wr [(gP,[.int .i64 lo,.slice (some ⟨g1,0,none⟩) n c1,.slice (some ⟨g2,0,none⟩) n c2]),(gS,[rv,zv,lv])])∧Hid (Below V4.heap.size V4 wr)∧Hid (Below V7.heap.size V7 wr)) (fun i _=>(hi+1 - intOf i).toNat)
 case atStart=>exact⟨0,Nat.zero_le _,by rw[Int.natCast_zero,Int.add_zero],HS.out,HV4.out,HV7.out⟩
 case round=>
  clear HS HV4 HV7;obtain⟨k,hk,rfl,HS,HV4,HV7⟩:=hrel
  by_cases hlt:k<n
  ·have hp:=HPo.out;have q1:lo+(k:Int)≤hi:=(by omega);have q1':=decide_eq_true q1;have wk:IntKind.i64.wrap (lo+(k:Int)+1)=lo+(k:Int)+1:=by have:=HLo.out;rw[IntKind.wrap_i64];omega
   obtain⟨r,hyv,hok,hri,hsp⟩:=Cm.yr_in HGo.out (y:=lo+(k:Int)) (by omega) (by omega);have HYL:=ak fun V (hb:Below V7.heap.size V7 V)=>HU.out.yearOk hfew HZn.out (y:=lo+(k:Int)) (by omega) q1 HLl.out.1 HLl.out.2.1 HLl.out.2.2.1 HLl.out.2.2.2 V ((HRl.out.below hb).more hb.size)
   have hyr:=fun V (hb:Below V4.heap.size V4 V)=>(HRd.out.call hb).year HGo.out ⟨HPo.out.1,HPo.out.2.1⟩ HLo.out HPo.out.2.2.2 (HU.out.lens V (below_then HS4.out hb)) (lo+(k:Int))
   simp only[hyv] at hyr;have hss:=fun V (hb:Below w.heap.size w V)=>yrSpans_any r (lo+(k:Int)) V (HU.out.lens V hb) hri ⟨by have:=HLo.out;omega,by omega⟩
   simp only[Rc.R.v_arr] at hss;have hnv:=Cm.never (f:=Cm.yr s x.2) (y:=lo+(k:Int)) (r:=r) ⟨by have:=HLo.out;omega,by omega⟩ hok hri;have hrt:Rc.right r=true:=by unfold Rc.right;rw[decide_eq_true_eq];exact hok
   obtain⟨no,hno⟩:=aj (Cm.no (Cm.yr s x.2) (lo+(k:Int)))
   obtain⟨L1,hL1⟩:=aj (Cm.yr s x.2 (lo+(k:Int)))
   obtain⟨L2,hL2⟩:=aj (Rc.spans r (lo+(k:Int)))
   rw[hno] at hyr hnv hsp;rw[hL1] at hnv hsp HYL;rw[hL2] at hnv hsp;have hbe:(no == 0)=decide (L1=L2):=by
    by_cases hn0:no=0
    ·rw[decide_eq_true (hsp hn0).symm,beq_iff_eq];exact hn0
    ·rw[decide_eq_false (fun q=>hnv hn0 q.symm),beq_eq_false_iff_ne];exact hn0
   obtain⟨b,hb0⟩:=aj (decide (L1=L2))
   rw[hb0] at hbe;have hbb:(b != b)=false:=by rw[bne_eq_false_iff_eq]
   have HYr:=ak hyr;have HSs:=ak hss;have HRt:=ak hrt;have HL2:=ak hL2;have HB0:=ak hb0;clear hyv hok hri hsp hyr hss hnv hrt hno hL1 hL2 hb0 hp;have P0:=(HS.out.get 0 rfl).cell 0 _ rfl;have P1:=(HS.out.get 0 rfl).cell 1 _ rfl;have P2:=(HS.out.get 0 rfl).cell 2 _ rfl;have zP:=(HS.out.get 0 rfl).lt;go_wp2_with fail
   refine(HYr.out _ HV4.out).mono ?_;rintro e U1 ⟨rfl,hb⟩;clear P0 P1 P2 zP;replace HV4:=ak (below_then HV4.out hb);replace HV7:=ak (below_then HV7.out hb);replace HS:=ak (HS.out.call hb);clear hb;clear HYr;obtain⟨gE,HGgE⟩:∃q,Hid (U1.heap.size=q):=⟨_,rfl⟩
   go_upto_region 16 with (refine wpList_store_all rfl 49 _ _ rfl U1.heap.size rfl (r.arr) rfl _ (At.new U1 #[.int .i32 0,.int .i32 0,.int .i32 0,.int .u16 0,.int .u16 0,.int .u16 0,.int .u16 0,.int .u16 0,.int .u16 0,.int .u16 0,.int .u16 0,.int .u16 0,.int .u16 0,.int .u16 0,.int .u16 0,.int .u16 0,.int .u16 0,.int .u16 0,.int .u16 0] 49) (by rfl) (by kernel_rfl) (by first|exact Sm.S.arr_one _|exact Rc.R.arr_one _|simp[Value.oneCell']) ?_;intro U2 hAn hMn)
   rw[HGgE.out];have HBn:=ak (hMn.below (Nat.le_refl _) (al));replace HS:=ak (HS.out.laid #[.int .i32 0,.int .i32 0,.int .i32 0,.int .u16 0,.int .u16 0,.int .u16 0,.int .u16 0,.int .u16 0,.int .u16 0,.int .u16 0,.int .u16 0,.int .u16 0,.int .u16 0,.int .u16 0,.int .u16 0,.int .u16 0,.int .u16 0,.int .u16 0,.int .u16 0] 49 hMn hAn);rw[HGgE.out] at HS;clear hMn hAn;have hbn:Below U1.heap.size U1 U2:=HBn.out;clear HBn;replace HV4:=ak (below_then HV4.out hbn);replace HV7:=ak (below_then HV7.out hbn);clear hbn;go_wp2_with fail
   refine(HYL.out _ HV7.out).mono ?_;rintro e U3 ⟨⟨A1,m1,d1,rfl,hm1,hn1,hr1⟩,hb⟩;replace HV4:=ak (below_then HV4.out hb);replace HV7:=ak (below_then HV7.out hb);replace HS:=ak (HS.out.call hb);clear hb;clear HYL;have HV3:=ak (Below.refl U3.heap.size U3);have HR1:=ak hr1;clear hr1;go_upto_region 17 with fail
   go_wp2_with (refine wpList_load_arr rfl 49 _ rfl (gE) 0 rfl (r.arr) (HS.out.get 0 rfl).range _ Tryz.underlying49 rfl (by kernel_rfl) ?_)
   refine(HSs.out _ HS.out.b).mono ?_;intro e U4 hsr;obtain⟨hb,hsr⟩:=hsr;replace HV4:=ak (below_then HV4.out hb);replace HV7:=ak (below_then HV7.out hb);replace HV3:=ak (below_then HV3.out hb);replace HS:=ak (HS.out.call hb);clear hb;clear HSs;rcases hsr with ⟨q,_⟩|⟨_,v,rfl,ho⟩
   ·rw[HRt.out] at q;cases q
   obtain⟨A2,d2,rfl,k1,k2⟩:=own_slice_cap ho;rw[HL2.out] at ho k1;obtain⟨m2,hm2⟩:=aj (L2.length)
   rw[HL2.out,hm2];rw[hm2] at ho k1;have HSm:=ak (same18_any A1 A2 m1 m2 d1 d2 L1 L2 U4 hn1 (Nat.le_trans k1 k2) hm1 hm2 ((HR1.out.below HV3.out).more HV3.out.size) (Reads.of_own ho));rw[HB0.out] at HSm;clear ho k1 k2 hm1 hn1 hm2 HV3 HR1;go_wp2_with fail
   refine HSm.out.mono ?_;rintro e U5 ⟨rfl,hdr⟩;have hb:=hdr.below U4.heap.size;clear hdr HSm;replace HV4:=ak (below_then HV4.out hb);replace HV7:=ak (below_then HV7.out hb);replace HS:=ak (HS.out.call hb);clear hb;go_wp2_with fail
   go_roundw
   case rel=>exact⟨k+1,by omega,by simp only[Int.natCast_add,Int.natCast_one,Int.add_assoc],⟨HS.out.b,HS.out.z.2.2.2⟩,HV4.out,HV7.out⟩
   case measure=>simp[intOf];omega
  ·have hkn:k=n:=(by omega);have hp:=HPo.out;have q1:¬lo+(k:Int)≤hi:=(by omega);have q1':=decide_eq_false q1;clear hp hkn hlt hk;have S0:=(HS.out.get 1 rfl).cell 0 _ rfl;have S1:=(HS.out.get 1 rfl).cell 1 _ rfl;have S2:=(HS.out.get 1 rfl).cell 2 _ rfl;have zS:=(HS.out.get 1 rfl).lt;go_upto_region 20 with fail
   go_wp2_with fail
   refine(HAl.out _ HS.out.b).mono ?_;rintro e X1 ⟨⟨nA,ns,nc,rfl,hnl,hnr,hnn⟩,hb⟩;clear S0 S1 S2 zS;replace HV4:=ak (below_then HV4.out hb);replace HS:=ak (HS.out.call hb);clear hb;obtain⟨mm,hmm⟩:=aj (ns.length)
   rw[hmm] at hnl hnr;rw[hmm];have HNr:=ak hnr;have HNq:=ak hnn;have HMm:=ak hmm;have HVx:=ak (Below.refl X1.heap.size X1);clear hnr hnn hmm HAl q1 q1';go_wp2_with fail
   go_loopw [146] (fun i wr=>∃j:Nat,j≤mm∧i=.int .i64 (j:Int)∧Hid (St w wr [(gP,[.int .i64 lo,.slice (some ⟨g1,0,none⟩) n c1,.slice (some ⟨g2,0,none⟩) n c2]),(gS,[rv,zv,lv])])∧Hid (Below V4.heap.size V4 wr)∧Hid (Below X1.heap.size X1 wr)) (fun i _=>mm - (intOf i).toNat)
   case atStart=>exact⟨0,Nat.zero_le _,rfl,HS.out,HV4.out,HVx.out⟩
   case round=>
    clear HS HV4 HVx HV7;obtain⟨j,hj,rfl,HS,HV4,HVx⟩:=hrel
    by_cases hlt:j<mm
    ·obtain⟨y,hy⟩:∃y,ns[j]?=some y:=⟨_,List.getElem?_eq_getElem (by rw[HMm.out];exact hlt)⟩
     obtain⟨ad,u1,rfl,hab,hu,hcu⟩:=(HNr.out.below HVx.out).at_ hlt;have hu2:u1=.string y:=by
      rw[List.getElem?_map,hy] at hu;exact(Option.some.inj hu).symm
     rw[hu2] at hcu;obtain⟨hyn,hyw⟩:=HNq.out y (List.mem_of_getElem? hy);have HZy:=ak fun V (hb:Below w.heap.size w V)=>HU.out.zoneOk hfew HZn.out (HU.out.names hfew y hyn) hyw V hb
     have q1:=am j
     have q2:(j:Int)<(mm:Int):=(by omega);have wj:IntKind.i64.wrap ((j:Int)+1)=(j:Int)+1:=by rw[IntKind.wrap_i64];omega
     clear hu hu2 hy hyn hyw;have S0:=(HS.out.get 1 rfl).cell 0 _ rfl;have S1:=(HS.out.get 1 rfl).cell 1 _ rfl;have S2:=(HS.out.get 1 rfl).cell 2 _ rfl;have zS:=(HS.out.get 1 rfl).lt;go_wp2_with fail
     refine(HZy.out _ HS.out.b).mono ?_;rintro e Y1 ⟨⟨h1,h2,f1,f2,rfl,hrd⟩,hb⟩;clear S0 S1 S2 zS;replace HV4:=ak (below_then HV4.out hb);replace HVx:=ak (below_then HVx.out hb);replace HS:=ak (HS.out.call hb);clear hb;have HRd2:=ak hrd;clear hrd HZy hcu;have hLy:=HS.out.lay #[.int .i64 lo,.slice (some ⟨h1,0,none⟩) n f1,.slice (some ⟨h2,0,none⟩) n f2] 53;clear HS;obtain⟨Y2,gQ,HEY2,HGgQ,HS⟩:=hLy;have hbn:Below Y1.heap.size Y1 Y2:=by rw[← HEY2.out];exact al
     replace HRd2:=ak (HRd2.out.call hbn);replace HV4:=ak (below_then HV4.out hbn);replace HVx:=ak (below_then HVx.out hbn);clear hbn;go_upto_region 24 with fail
     rw[HEY2.out]
     try rw[HGgQ.out]
     have P0:=(HS.out.get 1 rfl).cell 0 _ rfl;have P1:=(HS.out.get 1 rfl).cell 1 _ rfl;have P2:=(HS.out.get 1 rfl).cell 2 _ rfl;have zP:=(HS.out.get 1 rfl).lt;have Q0:=(HS.out.get 0 rfl).cell 0 _ rfl;have Q1:=(HS.out.get 0 rfl).cell 1 _ rfl;have Q2:=(HS.out.get 0 rfl).cell 2 _ rfl;have zQ:=(HS.out.get 0 rfl).lt;have HSm:=ak (cmSame_ok lo (Cm.run (Cm.yr s x.2) lo n) _ n g1 g2 c1 c2 _ h1 h2 f1 f2 Y2 (HRd.out.call HV4.out) HRd2.out HPo.out.2.1 HGo.out.lr HGo.out.lw);go_wp2_with fail
     refine HSm.out.mono ?_;rintro e Y3 ⟨rfl,hb⟩;clear P0 P1 P2 zP Q0 Q1 Q2 zQ;replace HV4:=ak (below_then HV4.out hb);replace HVx:=ak (below_then HVx.out hb);replace HS:=ak (HS.out.call hb);clear hb;clear HSm;go_wp2_with fail
     go_roundw
     case rel=>exact⟨j+1,by omega,by go_num,⟨HS.out.b,HS.out.z.2.2.2⟩,HV4.out,HVx.out⟩
     case measure=>simp[intOf];omega
    ·have q2:¬(j:Int)<(mm:Int):=(by omega);go_wp2;go_ret
     exact⟨rfl,HS.out.b⟩
open Go.RowKit
theorem compileJust_row (s:Src.S)(rv zv lv:Value)(evs:List Value)(nm:ByteArray)(lo:Int)(hi:Int)(w:World)(hT:Wo w∧Wa w)(hR:Src.SrcR w w.heap.size s rv zv lv evs)(hw:Src.Wide s)(hnm:nm.size≤maxLen)(hlo:(Lit.int .i64 lo).wf=true)(hhi:(Lit.int .i64 hi).wf=true):
  Calls Tryz.prog 5 #[.agg #[rv,zv,lv],.string nm,.int .i64 lo,.int .i64 hi] w fun e w'=>e=.returned (.bool true)∧Below w.heap.size w w':=
 compileJust_any s nm lo hi rv zv lv evs w hR hw hT.1 hT.2 hnm (by have:=i64_range hlo;omega) (by have:=i64_range hhi;omega)
end Go.Proofs.YtjobhjemnmleaaaGreatDoor
namespace Go.Proofs.YtjobhjemnmleaaaGreatDoor.compileJust
open Go.ChangeShapes Go.WideShapes Go.ChangeAt Go.RowKit Go.Joins
open Go.ChangeMaps (open_string shut_string)
theorem own : ownKnob Tryz.prog.godebug=none:=by kernel_rfl
theorem laidOut : laidOutB Tryz.prog=true:=by kernel_rfl
theorem g_places : Tryz.prog.globalNamed "solstice/abbr.places" = some 1:=by kernel_rfl
theorem t_places : (Tryz.prog.globals[1]?).map (·.type)=some 336:=by kernel_rfl
theorem g_lens : Tryz.prog.globalNamed "solstice/civil.lengths" = some 0:=by kernel_rfl
theorem t_lens : (Tryz.prog.globals[0]?).map (·.type)=some 323:=by kernel_rfl
theorem wo_of {W:World}(h:laidMetH Tryz.prog Rows.compileJustRow.laid W)(hS:W.ShapedOpen Tryz.prog):Wo W∧Wa W:=by
 have h0:laidMet Tryz.prog Rows.compileJustRow.laid W:=h;have h1:=h0.tail;have x_lens:Lib.TabIs Tryz.prog W "solstice/civil.lengths" .i64 Cv.lens:=Lib.tabIs_of_head g_lens t_lens Tryz.underlying323 Tryz.underlying3 (by kernel_rfl) (by kernel_rfl) h0;have x_places:=strs_of_head (ls:=[[37,115],[37,122]]) (rest:=[]) g_places t_places Tryz.underlying336 Tryz.underlying9 (by kernel_rfl) (by kernel_rfl) h1;exact⟨⟨fun k hk=>x_lens.cell g_lens k hk,Tryz.laysM145.s1_3 W hS⟩,⟨x_places 0 _ rfl,x_places 1 _ rfl,Tryz.laysM145.s1_3 W hS⟩⟩
noncomputable def laidWorld (os:Os):World:=World.doorLaid Tryz.prog 4000 os
theorem laid_met (os:Os):laidMet Tryz.prog Rows.compileJustRow.laid ((laidWorld os).forCall (fun _ _=>0) ⟨#[],#[.agg #[.slice none 0 0,.slice none 0 0,.slice none 0 0],.string ⟨#[]⟩,.int .i64 0,.int .i64 0],[]⟩).memory:=
 laidMet_of_run' 8 (by kernel_rfl) (by kernel_rfl)
theorem reads (os:Os){H:Type}(enc:TypeId × Value→H):∃places,DataW.whole enc Tryz.prog ((laidWorld os).forCall (fun _ _=>0) ⟨#[],#[.agg #[.slice none 0 0,.slice none 0 0,.slice none 0 0],.string ⟨#[]⟩,.int .i64 0,.int .i64 0],[]⟩).memory Tryz.f5.params.toList Rows.compileJustSpec.vars false #[Value.agg #[.slice none 0 0,.slice none 0 0,.slice none 0 0],.string ⟨#[]⟩,.int .i64 0,.int .i64 0].toList 8=some ([.agg [.nil,.nil,.nil],.lit (.string []),.lit (.int .i64 0),.lit (.int .i64 0)],[],places):=
 ⟨[],by kernel_rfl⟩
theorem contract (H:Type)(enc:TypeId × Value→H)(W:World)(base:Nat)(args:Array Value)(ds gs:List (DataW H))(before:List MemPlace)
  (hval:∀(j:Nat) t v,Tryz.f5.params[j]?=some t→args[j]?=some v→Value.okWide Tryz.prog W .any base t v)
  (hW:DataW.Whole enc Tryz.prog Tryz.f5.params.toList Rows.compileJustSpec.vars false W args.toList ds gs before) (hL:laidMetH Tryz.prog Rows.compileJustRow.laid W) (hS:W.ShapedOpen Tryz.prog):
  Calls Tryz.prog 5 args W fun e W'=>∃v,e=.returned v∧Rows.compileJustSpec.post enc Tryz.prog Tryz.f5 false true false false W args v W':=by
 have hW':=hW;obtain⟨p,q,hA0,hV,rfl,hfz,hnd⟩:=hW;have hA:DataW.TrodAll enc Tryz.prog W 0 (fun _=>true) true Tryz.f5.params.toList args.toList ds p:=hA0;rw[Tryz.params5] at hA hval;obtain⟨v0,vs0,d0,ds0,p0,q0,hargs,rfl,rfl,h0,r0⟩:=trodAll_cons hA;obtain⟨v1,vs1,d1,ds1,p1,q1,rfl,rfl,rfl,h1,r1⟩:=trodAll_cons r0;obtain⟨v2,vs2,d2,ds2,p2,q2,rfl,rfl,rfl,h2,r2⟩:=trodAll_cons r1;obtain⟨v3,vs3,d3,ds3,p3,q3,rfl,rfl,rfl,h3,r3⟩:=trodAll_cons r2;obtain⟨rfl,rfl,rfl⟩:=trodAll_nil r3;obtain rfl:args=#[v0,v1,v2,v3]:=by cases args;simp_all
 obtain⟨rfl,rfl⟩:=trodVars_none hV;have k0:=h0;have lt0:∀x∈p0,x.block<W.heap.size:=by obtain⟨m,hm⟩:=k0;exact DataW.trod_lt m _ _ _ hm
 obtain⟨s0,rv0,zv0,lv0,evs0,rfl,hsr0,hsw0⟩:=open_source (hval 0 26 v0 rfl rfl) h0;obtain⟨nm,rfl,rfl,rfl,wnm⟩:=open_string Tryz.underlying9 (hval 1 9 v1 rfl rfl) h1;obtain⟨lo,rfl,rfl,rfl,wlo⟩:=open_int Tryz.underlying3 (hval 2 3 v2 rfl rfl) h2;obtain⟨hi,rfl,rfl,rfl,whi⟩:=open_int Tryz.underlying3 (hval 3 3 v3 rfl rfl) h3;clear hA0;refine(compileJust_row s0 rv0 zv0 lv0 evs0 nm lo hi W (wo_of hL hS) hsr0 hsw0 wnm wlo whi).mono fun e W' ⟨he,bel⟩=>?_
 subst he;exact⟨_,rfl,_,_,_,[],_,[],hW',trodAll_mk1 (shut_bool Tryz.underlying4 _),(trodAll_cons_mk (Below.trod laidOut (by kernel_rfl) (of_decide_eq_true (by kernel_rfl)) k0 bel lt0) (trodAll_cons_mk (shut_string Tryz.underlying9 wnm) (trodAll_cons_mk (shut_int Tryz.underlying3 wlo) (trodAll_cons_mk (shut_int Tryz.underlying3 whi) trodAll_mk0)))),rfl,bel.frame _,fun h=>by cases h⟩
theorem lifted (os:Os)(started:os.Started)(H:Type)(enc:TypeId × Value→H)(F:Stop.Interp):
  ReturnsInHanded {} Tryz.checked os 5 .any ((OpenSpec.ofChange Rows.compileJustSpec).preRow enc Tryz.prog Tryz.f5 Rows.compileJustRow.domain false Rows.compileJustRow.laid) (((OpenSpec.ofChange Rows.compileJustSpec).at F).post enc Tryz.prog Tryz.f5 false true false false):=by
 obtain⟨places,hx⟩:=reads os enc;refine returnsInHanded_of_row (C:=Tryz.checked) (s:=OpenSpec.ofChange Rows.compileJustSpec) own started (by kernel_rfl) Tryz.func5
  (witness_row_at (enc:=enc) (C:=Tryz.checked) false (laidWorld os) #[.agg #[.slice none 0 0,.slice none 0 0,.slice none 0 0],.string ⟨#[]⟩,.int .i64 0,.int .i64 0] rfl (by kernel_rfl) (by kernel_rfl) (by kernel_rfl)
   (OpenSpec.preRow_of_cond 8 hx (by kernel_rfl) (fun k hk=>by cases hk) (by kernel_rfl) (laid_met os))) ?_
 intro W base args ds gs before hval hW _ _ _ hL hS _;exact contract H enc W base args ds gs before hval hW hL hS
theorem closed_and {a b:Bool}(ha:a=true)(hb:b=true):(a && b)=true:=by rw[ha,hb];rfl
theorem closed : joinedFacts Tryz.prog 5 Tryz.f5 (OpenSpec.ofChange Rows.compileJustSpec).bare Rows.compileJustRow=true:=by
 unfold joinedFacts
 repeat' with_reducible refine closed_and ?_ ?_
 all_goals as_aux_lemma=>kernel_rfl
theorem said : Rows.CompileJustSaid:=
 OpenClaim.holds_of_cond 5 Tryz.f5 rfl rfl rfl rfl rfl rfl rfl ⟨rfl,rfl,rfl,rfl,rfl⟩ rfl rfl rfl rfl rfl (by kernel_rfl) Tryz.func5 closed
  (of_decide_eq_true (by kernel_rfl)) (by unfold Func.isWrapper;first|(rw[if_pos (by decide +kernel)];kernel_rfl)|(rw[if_neg (by decide +kernel)];exact⟨rfl,rfl⟩))
  (fun os started H enc _ F=>by rw[OpenClaim.pre_eq_preRow];exact lifted os started H enc F)
theorem plain (f:FuncId)(fn:Func)(hf:Tryz.pinned.checked.prog.funcNamed "solstice/solsticelaw27.CompileJust" = some f)(hfn:Tryz.pinned.checked.prog.funcs[f]?=some fn):
  false=Tryz.pinned.checked.prog.looks []∧∀(j:Nat) t,fn.params[j]?=some t→Tryz.pinned.checked.prog.wantsStandIn t=false:=by
 obtain rfl:f=5:=Option.some.inj ((show Tryz.prog.funcNamed "solstice/solsticelaw27.CompileJust" = some 5 by kernel_rfl).symm.trans hf) |>.symm;obtain rfl:fn=Tryz.f5:=(Option.some.inj (Tryz.func5.symm.trans hfn)).symm;refine⟨by kernel_rfl,fun j t ht=>?_⟩;rw[Tryz.params5] at ht;have hm:t∈[26,9,3]:=by
  have:=Array.mem_of_getElem? ht;simp at this ⊢
  first|omega|(rcases this with h|h|h|h <;> simp[h])|(rcases this with h|h|h <;> simp[h])|(rcases this with h|h|h|h|h <;> simp[h])
 simp only[List.mem_cons,List.not_mem_nil,or_false] at hm;rcases hm with rfl|rfl|rfl
 ·exact(show Tryz.prog.wantsStandIn 26=false by kernel_rfl)
 ·exact(show Tryz.prog.wantsStandIn 9=false by kernel_rfl)
 ·exact(show Tryz.prog.wantsStandIn 3=false by kernel_rfl)
theorem card : Rows.CompileJustCardSaid:=
 Claim7.holds_tied_plain_at .later [] _ _ _ _ said (fun _ h=>by cases h) (by kernel_rfl) (fun _ h=>by cases h) compileJust_row_tie rfl ⟨rfl,rfl⟩ (by kernel_rfl) rfl plain (by kernel_rfl)
end Go.Proofs.YtjobhjemnmleaaaGreatDoor.compileJust
