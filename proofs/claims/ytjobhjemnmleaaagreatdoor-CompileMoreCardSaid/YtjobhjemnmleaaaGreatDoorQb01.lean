/- CompileMore: the walk. -/
import Derived.Test.YtjobhjemnmleaaaGreatDoorQ45
import Derived.Test.YtjobhjemnmleaaaGreatDoorCards
import Derived.Test.YtjobhjemnmleaaaGreatDoorTie
import Derived.ShutString
import Derived.ChangeOld
import Derived.LaidMore
import Derived.Stop.LaidErr
import Derived.Deep.DeepHandedRow
set_option maxRecDepth 200000
set_option maxHeartbeats 40000000
namespace Go.Proofs.YtjobhjemnmleaaaGreatDoor
open Go.RowKit Go.Sort
namespace Cm
theorem yr_any (lo y:Int)(rs:List Rc.R)(ws:List Int):∃r x er,yrV lo y rs ws=.tuple #[.agg (Rc.R.arr r),.int .u8 x,.int .i64 er]:=by
 unfold yrV;split
 ·exact⟨_,_,_,rfl⟩
 ·exact⟨_,_,_,rfl⟩
theorem more_err {sb wl zn:Bool}{le lo hi L D:Int}(hlo:-9223372036854775808≤lo)(hD:0≤D∧D≤7)(hL:L=lo - D∨(L=lo - D+18446744073709551616∧lo<0))(h1:1601≤L)(h2:hi≤2098)(h3:L≤hi→hi - L≤30):err sb wl zn le lo hi=err sb wl zn le L hi∨hi<lo:=by
 by_cases h:hi<lo
 ·exact .inr h
 left
 have hc:(1<lo∧hi<9999∧lo≤hi∧hi - lo<400)↔(1<L∧hi<9999∧L≤hi∧hi - L<400):=by omega
 have hd:(1<lo∧hi<9999∧lo≤hi∧hi - lo<400)→(lo<1601↔L<1601):=by omega
 unfold err
 repeat' split
 all_goals first|rfl|omega
end Cm
theorem compileMore_any (s:Src.S)(nm:ByteArray)(lo hi y:Int)(r:Rc.R)(more:Int)(rv zv lv:Value)(evs:List Value)(w:World)(hR:Src.SrcR w w.heap.size s rv zv lv evs)(hw:Src.Wide s)(hW:Wo w)(hA:Wa w)(hnm:nm.size≤maxLen)
  (hlo:-9223372036854775808≤lo∧lo<9223372036854775808) (hhi:-9223372036854775808≤hi∧hi<9223372036854775808) (hri:Rc.I r) (hmo:0≤more∧more<256):
  Calls Tryz.prog 4 #[.agg #[rv,zv,lv],.string nm,.int .i64 lo,.int .i64 hi,.int .i64 y,.agg r.arr,.int .u8 more] w fun e w'=>e=.returned (.bool true)∧Below w.heap.size w w':=by
 have HU:=ak (Cp.use s rv zv lv evs w hR hw hW hA);have HLv:=ak fun V (hb:Below w.heap.size w V)=>lives27 V (hW.below hb) (hA.below hb)
 obtain⟨D,hD⟩:=aj (more % 8)
 have hD2:0≤D∧D≤7:=by omega
 have hD3:more.tmod 8=D:=by rw[Int.tmod_eq_emod_of_nonneg hmo.1];exact hD
 have hD4:IntKind.u8.wrap D=D:=by rw[IntKind.wrap_u8];omega
 have hD5:IntKind.i64.wrap D=D:=by rw[IntKind.wrap_i64];omega
 obtain⟨L,hl1⟩:=aj (IntKind.i64.wrap (lo - D))
 have hl0:=hl1;rw[IntKind.wrap_i64] at hl0;have hl2:wrap64 (lo - D)=L:=by unfold wrap64;omega
 have hL1:-9223372036854775808≤L∧L<9223372036854775808:=by omega
 have hL2:L=lo - D∨(L=lo - D+18446744073709551616∧lo<0):=by omega
 have HNe:=ak fun V (hb:Below w.heap.size w V)=>HU.out.near L hi hL1 hhi V hb
 have HZ:=ak fun(hf:Src.Few s) V (hb:Below w.heap.size w V)=>HU.out.zone hf nm hnm lo hi hlo hhi V hb
 have HZ2:=ak fun(hf:Src.Few s) V (hb:Below w.heap.size w V)=>HU.out.zone hf nm hnm L hi hL1 hhi V hb
 have HLk:=ak fun(hf:Src.Few s) V (hb:Below w.heap.size w V)=>HU.out.link hf nm hnm V hb
 have HDL:=ak (And.intro hD2 (And.intro hL2 hlo.1));have HRi:=ak hri;clear hR hw hW hA hnm hlo hhi hD hD2 hL2 hL1 hmo hl0 hri;obtain⟨V1,gS,HEV1,HGgS,HS⟩:=(St.start w).lay2 #[rv,zv,lv] 26 (r.arr) 49;go_enter Tryz.func4,Tryz.ntmps4
 go_upto_region 1 with fail
 rw[HEV1.out]
 try rw[HGgS.out]
 go_wp2_with fail
 refine(HLv.out _ HS.out.b).mono ?_;rintro e V2 ⟨rfl,hb⟩;replace HS:=ak (HS.out.call hb);clear hb;have S0:=(HS.out.get 1 rfl).cell 0 _ rfl;have S1:=(HS.out.get 1 rfl).cell 1 _ rfl;have S2:=(HS.out.get 1 rfl).cell 2 _ rfl;have zS:=(HS.out.get 1 rfl).lt;go_wp2_with fail
 refine(HNe.out _ HS.out.b).mono ?_;rintro e V3 ⟨he,hb⟩;clear S0 S1 S2 zS;replace HS:=ak (HS.out.call hb);clear hb;rcases he with rfl|⟨rfl,hfew,hb1,hb2,hb3⟩
 ·go_wp2;go_ret
  exact⟨rfl,HS.out.b⟩
 by_cases h1000:(1000:Int)<(nm.size:Int)
 ·have d1:=decide_eq_true h1000;go_wp2;go_ret
  exact⟨rfl,HS.out.b⟩
 have d1:=decide_eq_false h1000
 by_cases hL16:L<1601
 ·have d2:=decide_eq_true hL16;go_wp2;go_ret
  exact⟨rfl,HS.out.b⟩
 have d2:=decide_eq_false hL16;have HEr:=ak fun(sb wl zn:Bool) (le:Int)=>Cm.more_err (sb:=sb) (wl:=wl) (zn:=zn) (le:=le) HDL.out.2.2 HDL.out.1 HDL.out.2.1 (show 1601≤L by omega) hb1 hb3
 have S0:=(HS.out.get 1 rfl).cell 0 _ rfl;have S1:=(HS.out.get 1 rfl).cell 1 _ rfl;have S2:=(HS.out.get 1 rfl).cell 2 _ rfl;have zS:=(HS.out.get 1 rfl).lt;go_wp2_with fail
 refine(HZ.out hfew _ HS.out.b).mono ?_;intro e V4 hz;obtain⟨hb,hz⟩:=hz.cases;clear S0 S1 S2 zS;replace HS:=ak (HS.out.call hb);clear hb;rcases hz with ⟨er,hbad,rfl⟩|⟨x,n,g1,g2,c1,c2,hzn,rfl,hrd⟩
 ·have hLy:=HS.out.lay #[.int .i64 0,.slice none 0 0,.slice none 0 0] 53;clear HS;obtain⟨V5,gP,HEV5,HGgP,HS⟩:=hLy;go_upto_region 7 with fail
  rw[HEV5.out]
  try rw[HGgP.out]
  have S0:=(HS.out.get 2 rfl).cell 0 _ rfl;have S1:=(HS.out.get 2 rfl).cell 1 _ rfl;have S2:=(HS.out.get 2 rfl).cell 2 _ rfl;have zS:=(HS.out.get 2 rfl).lt;go_wp2_with fail
  refine(HZ2.out hfew _ HS.out.b).mono ?_;intro e V6 hz2;obtain⟨hb,hz2⟩:=hz2.cases;clear S0 S1 S2 zS;replace HS:=ak (HS.out.call hb);clear hb;rcases hz2 with ⟨er2,hbad2,rfl⟩|⟨x2,m,h1,h2,f1,f2,hzm,rfl,hrm⟩
  ·have he:=HEr.out (Src.srcB s) (Vd.well s) (Eg.zoneAt s (Lk.walk s nm).2.1).isSome (Lk.walk s nm).2.2;rw[hbad.2,hbad2.2] at he;have z1:(er == 0)=false:=by rw[beq_eq_false_iff_ne];exact hbad.1
   have z2:(er != 0)=true:=by rw[bne_iff_ne];exact hbad.1
   by_cases heq:er=er2
   ·subst heq;have z3:(er != er)=false:=by rw[bne_eq_false_iff_eq]
    have z4:(er == er)=true:=by rw[beq_iff_eq]
    clear hbad hbad2 he;have hLy:=HS.out.lay #[.int .i64 0,.slice none 0 0,.slice none 0 0] 53;clear HS;obtain⟨V7,gQ,HEV7,HGgQ,HS⟩:=hLy;go_upto_region 8 with fail
    rw[HEV7.out]
    try rw[HGgQ.out]
    go_wp2;go_ret
    exact⟨rfl,HS.out.b⟩
   ·have hlt:=he.resolve_left heq;have z3:(er != er2)=true:=by rw[bne_iff_ne];exact heq
    have z4:(er == er2)=false:=by rw[beq_eq_false_iff_ne];exact heq
    have d3:=decide_eq_true hlt;clear hbad hbad2 he;have hLy:=HS.out.lay #[.int .i64 0,.slice none 0 0,.slice none 0 0] 53;clear HS;obtain⟨V7,gQ,HEV7,HGgQ,HS⟩:=hLy;go_upto_region 8 with fail
    rw[HEV7.out]
    try rw[HGgQ.out]
    go_wp2;go_ret
    exact⟨rfl,HS.out.b⟩
  ·have he:=HEr.out (Src.srcB s) (Vd.well s) (Eg.zoneAt s (Lk.walk s nm).2.1).isSome (Lk.walk s nm).2.2;rw[hbad.2,hzm.err] at he;have hlt:=he.resolve_left hbad.1;have z1:(er == 0)=false:=by rw[beq_eq_false_iff_ne];exact hbad.1
   have z2:(er != 0)=true:=by rw[bne_iff_ne];exact hbad.1
   have d3:=decide_eq_true hlt;clear hbad hzm hrm he;have hLy:=HS.out.lay #[.int .i64 L,.slice (some ⟨h1,0,none⟩) m f1,.slice (some ⟨h2,0,none⟩) m f2] 53;clear HS;obtain⟨V7,gQ,HEV7,HGgQ,HS⟩:=hLy;go_upto_region 8 with fail
   rw[HEV7.out]
   try rw[HGgQ.out]
   go_wp2;go_ret
   exact⟨rfl,HS.out.b⟩
 have HZn:=ak hzn;have HRd:=ak hrd;have HV4:=ak (Below.refl V4.heap.size V4);have HS4:=ak HS.out.b;clear hrd;have hLy:=HS.out.lay #[.int .i64 lo,.slice (some ⟨g1,0,none⟩) n c1,.slice (some ⟨g2,0,none⟩) n c2] 53;clear HS;obtain⟨V5,gP,HEV5,HGgP,HS⟩:=hLy;have hbn:Below V4.heap.size V4 V5:=by rw[← HEV5.out];exact al
 replace HV4:=ak (below_then HV4.out hbn);clear hbn;go_upto_region 7 with fail
 rw[HEV5.out]
 try rw[HGgP.out]
 have S0:=(HS.out.get 2 rfl).cell 0 _ rfl;have S1:=(HS.out.get 2 rfl).cell 1 _ rfl;have S2:=(HS.out.get 2 rfl).cell 2 _ rfl;have zS:=(HS.out.get 2 rfl).lt;go_wp2_with fail
 refine(HZ2.out hfew _ HS.out.b).mono ?_;intro e V6 hz2;obtain⟨hb,hz2⟩:=hz2.cases;clear S0 S1 S2 zS;replace HV4:=ak (below_then HV4.out hb);replace HS:=ak (HS.out.call hb);clear hb;rcases hz2 with ⟨er2,hbad2,rfl⟩|⟨x2,m,h1,h2,f1,f2,hzm,rfl,hrm⟩
 ·have he:=HEr.out (Src.srcB s) (Vd.well s) (Eg.zoneAt s (Lk.walk s nm).2.1).isSome (Lk.walk s nm).2.2;rw[hzn.err,hbad2.2] at he;have hlt:=he.resolve_left (fun q=>hbad2.1 q.symm);have z1:(0 == er2)=false:=by rw[beq_eq_false_iff_ne];exact fun q=>hbad2.1 q.symm
  have z2:(0 != er2)=true:=by rw[bne_iff_ne];exact fun q=>hbad2.1 q.symm
  have d3:=decide_eq_true hlt;clear hbad2 hzn he;have hLy:=HS.out.lay #[.int .i64 0,.slice none 0 0,.slice none 0 0] 53;clear HS;obtain⟨V7,gQ,HEV7,HGgQ,HS⟩:=hLy;go_upto_region 8 with fail
  rw[HEV7.out]
  try rw[HGgQ.out]
  go_wp2;go_ret
  exact⟨rfl,HS.out.b⟩
 obtain rfl:x2=x:=by
  have q1:=hzn.zn;rw[hzm.zn] at q1;exact Option.some.inj q1
 have HZm:=ak hzm;have HRm:=ak hrm;have HV6:=ak (Below.refl V6.heap.size V6);have HS6:=ak HS.out.b;have hru:=HU.out.rules hfew hzn.wl;have HGo:=ak (hzn.good hru);have HGm:=ak (hzm.good hru);have hp:=hzn.pos;have hpm:=hzm.pos;have hlo:=hzn.lo;have hLl:L≤lo:=by have:=HDL.out;omega
 have HLn:=ak fun V (hb:Below w.heap.size w V)=>HU.out.lineOk hfew hzn V hb
 have HLe:=ak hzn.le;obtain⟨zi,hzi⟩:=aj ((Lk.walk s nm).2.1)
 have HLk2:Hid (∀V,Below w.heap.size w V→Calls Tryz.prog 21 #[.agg #[rv,zv,lv],.string nm] V fun e w'=>e=.returned (.tuple #[.int .i64 zi,.int .i64 0])∧Below V.heap.size V w'):=fun V hb=>(HLk.out hfew V hb).mono fun e w' h=>⟨by rw[h.1,hzi,HLe.out],h.2⟩
 rw[hzi] at HLn;have HPo:=ak hp;have HPm:=ak hpm;have HLo:=ak hlo;have HLl:=ak hLl;have HYn:=ak fun V (hb:Below V4.heap.size V4 V)=>(HRd.out.call hb).year HGo.out ⟨HPo.out.1,HPo.out.2.1⟩ HLo.out HPo.out.2.2.2 (HU.out.lens V (below_then HS4.out hb)) y
 have HYm:=ak fun V (hb:Below V6.heap.size V6 V)=>(HRm.out.call hb).year HGm.out ⟨HPm.out.1,HPm.out.2.1⟩ HZm.out.lo HPm.out.2.2.2 (HU.out.lens V (below_then HS6.out hb)) y
 clear hzn hzm hrm hp hpm hlo hLl hzi HLk HZ HZ2 HNe HLv hru HEr;have hLy:=HS.out.lay #[.int .i64 L,.slice (some ⟨h1,0,none⟩) m f1,.slice (some ⟨h2,0,none⟩) m f2] 53;clear HS;obtain⟨V7,gQ,HEV7,HGgQ,HS⟩:=hLy;have hbn:Below V6.heap.size V6 V7:=by rw[← HEV7.out];exact al
 replace HV4:=ak (below_then HV4.out hbn);replace HV6:=ak (below_then HV6.out hbn);clear hbn;go_upto_region 8 with fail
 rw[HEV7.out]
 try rw[HGgQ.out]
 by_cases hin:lo≤y∧y<lo+(n:Int)
 ·skip
  obtain⟨r1,hy1,_,_,_⟩:=Cm.yr_in HGo.out hin.1 hin.2;obtain⟨r2,hy2,_,_,_⟩:=Cm.yr_in HGm.out (y:=y) (by have:=HLl.out;omega) (by have:=HPo.out;have:=HPm.out;omega);obtain⟨no,hno⟩:=aj (Cm.no (Cm.yr s x2.2) y)
  rw[hno] at hy1 hy2;rw[hy1] at HYn;rw[hy2] at HYm;have n1:(no != no)=false:=by rw[bne_eq_false_iff_eq]
  have n2:(no == no)=true:=by rw[beq_iff_eq]
  have HNo:=ak hno;have HIn:=ak hin;clear hy1 hy2 hno;have P0:=(HS.out.get 1 rfl).cell 0 _ rfl;have P1:=(HS.out.get 1 rfl).cell 1 _ rfl;have P2:=(HS.out.get 1 rfl).cell 2 _ rfl;have zP:=(HS.out.get 1 rfl).lt;go_wp2_with fail
  refine(HYn.out _ HV4.out).mono ?_;rintro e V8 ⟨rfl,hb⟩;clear P0 P1 P2 zP;replace HV4:=ak (below_then HV4.out hb);replace HV6:=ak (below_then HV6.out hb);replace HS:=ak (HS.out.call hb);clear hb;obtain⟨gE,HGgE⟩:∃q,Hid (V8.heap.size=q):=⟨_,rfl⟩
  go_upto_region 13 with (refine wpList_store_all rfl 49 _ _ rfl V8.heap.size rfl (r1.arr) rfl _ (At.new V8 #[.int .i32 0,.int .i32 0,.int .i32 0,.int .u16 0,.int .u16 0,.int .u16 0,.int .u16 0,.int .u16 0,.int .u16 0,.int .u16 0,.int .u16 0,.int .u16 0,.int .u16 0,.int .u16 0,.int .u16 0,.int .u16 0,.int .u16 0,.int .u16 0,.int .u16 0] 49) (by rfl) (by kernel_rfl) (by first|exact Sm.S.arr_one _|exact Rc.R.arr_one _|simp[Value.oneCell']) ?_;intro V9 hAn hMn)
  rw[HGgE.out];have HBn:=ak (hMn.below (Nat.le_refl _) (al));replace HS:=ak (HS.out.laid #[.int .i32 0,.int .i32 0,.int .i32 0,.int .u16 0,.int .u16 0,.int .u16 0,.int .u16 0,.int .u16 0,.int .u16 0,.int .u16 0,.int .u16 0,.int .u16 0,.int .u16 0,.int .u16 0,.int .u16 0,.int .u16 0,.int .u16 0,.int .u16 0,.int .u16 0] 49 hMn hAn);rw[HGgE.out] at HS;clear hMn hAn;have hbn:Below V8.heap.size V8 V9:=HBn.out;clear HBn;replace HV4:=ak (below_then HV4.out hbn);replace HV6:=ak (below_then HV6.out hbn);clear hbn;have Q0:=(HS.out.get 1 rfl).cell 0 _ rfl;have Q1:=(HS.out.get 1 rfl).cell 1 _ rfl;have Q2:=(HS.out.get 1 rfl).cell 2 _ rfl;have zQ:=(HS.out.get 1 rfl).lt;go_wp2_with fail
  refine(HYm.out _ HV6.out).mono ?_;rintro e V10 ⟨rfl,hb⟩;clear Q0 Q1 Q2 zQ;replace HV4:=ak (below_then HV4.out hb);replace HV6:=ak (below_then HV6.out hb);replace HS:=ak (HS.out.call hb);clear hb;obtain⟨gG,HGgG⟩:∃q,Hid (V10.heap.size=q):=⟨_,rfl⟩
  go_upto_region 14 with (refine wpList_store_all rfl 49 _ _ rfl V10.heap.size rfl (r2.arr) rfl _ (At.new V10 #[.int .i32 0,.int .i32 0,.int .i32 0,.int .u16 0,.int .u16 0,.int .u16 0,.int .u16 0,.int .u16 0,.int .u16 0,.int .u16 0,.int .u16 0,.int .u16 0,.int .u16 0,.int .u16 0,.int .u16 0,.int .u16 0,.int .u16 0,.int .u16 0,.int .u16 0] 49) (by rfl) (by kernel_rfl) (by first|exact Sm.S.arr_one _|exact Rc.R.arr_one _|simp[Value.oneCell']) ?_;intro V11 hAn hMn)
  rw[HGgG.out];have HBn:=ak (hMn.below (Nat.le_refl _) (al));replace HS:=ak (HS.out.laid #[.int .i32 0,.int .i32 0,.int .i32 0,.int .u16 0,.int .u16 0,.int .u16 0,.int .u16 0,.int .u16 0,.int .u16 0,.int .u16 0,.int .u16 0,.int .u16 0,.int .u16 0,.int .u16 0,.int .u16 0,.int .u16 0,.int .u16 0,.int .u16 0,.int .u16 0] 49 hMn hAn);rw[HGgG.out] at HS;clear hMn hAn;clear HBn
  by_cases hn0:no=0
  ·have n3:(no == 0)=true:=by rw[beq_iff_eq];exact hn0
   clear hn0;go_wp2;go_ret
   exact⟨rfl,HS.out.b⟩
  have n3:(no == 0)=false:=by rw[beq_eq_false_iff_ne];exact hn0
  have HN0:=ak hn0;clear hn0;have S0:=(HS.out.get 5 rfl).cell 0 _ rfl;have S1:=(HS.out.get 5 rfl).cell 1 _ rfl;have S2:=(HS.out.get 5 rfl).cell 2 _ rfl;have zS:=(HS.out.get 5 rfl).lt;go_wp2_with fail
  refine(HLk2.out _ HS.out.b).mono ?_;rintro e V12 ⟨rfl,hb⟩;clear S0 S1 S2 zS;replace HS:=ak (HS.out.call hb);clear hb;have S0:=(HS.out.get 5 rfl).cell 0 _ rfl;have S1:=(HS.out.get 5 rfl).cell 1 _ rfl;have S2:=(HS.out.get 5 rfl).cell 2 _ rfl;have zS:=(HS.out.get 5 rfl).lt;go_wp2_with fail
  refine(HLn.out _ HS.out.b).mono ?_;rintro e V13 ⟨⟨lA,lm,lc,rfl,hm,hm2,hmc,hcm,hRl⟩,hb⟩;clear S0 S1 S2 zS;replace HS:=ak (HS.out.call hb);clear hb;have HYL:=ak (HU.out.yearOk hfew HZn.out (y:=y) HIn.out.1 (by have:=HIn.out;have:=HPo.out;omega) hm hm2 hmc hcm V13 hRl);clear hm hm2 hmc hcm hRl HLn HLk2;go_wp2_with fail
  refine HYL.out.mono ?_;rintro e V14 ⟨⟨A1,m1,d1q,rfl,hm1,hn1,hr1⟩,hb⟩;replace HS:=ak (HS.out.call hb);clear hb;have HR1:=ak hr1;have HV14:=ak (Below.refl V14.heap.size V14);clear hr1 HYL;have hss:=yrSpans_any r y V14 (HU.out.lens V14 HS.out.b) HRi.out ⟨by have:=HLo.out;have:=HIn.out;omega,by have:=HPo.out;have:=HIn.out;omega⟩;simp only[Rc.R.v_arr] at hss;have HSs:=ak hss;clear hss;go_wp2_with (refine wpList_load_arr rfl 49 _ rfl (gS+1) 0 rfl (r.arr) (HS.out.get 4 rfl).range _ Tryz.underlying49 rfl (by kernel_rfl) ?_)
  refine HSs.out.mono ?_;intro e V15 hsr;obtain⟨hb,hsr⟩:=hsr;replace HV14:=ak (below_then HV14.out hb);replace HS:=ak (HS.out.call hb);clear hb;clear HSs;rcases hsr with ⟨_,rfl⟩|⟨hrt,v,rfl,ho⟩
  ·go_wp2;go_ret
   exact⟨rfl,HS.out.b⟩
  have hok:Rc.Ok r:=by unfold Rc.right at hrt;rw[decide_eq_true_eq] at hrt;exact hrt
  have hnv:=Cm.never (f:=Cm.yr s x2.2) (y:=y) (r:=r) ⟨by have:=HLo.out;have:=HIn.out;omega,by have:=HPo.out;have:=HIn.out;omega⟩ hok HRi.out (by rw[HNo.out];exact HN0.out);obtain⟨A2,d2q,rfl,k1,k2⟩:=own_slice_cap ho;obtain⟨L1,hL1⟩:=aj (Cm.yr s x2.2 y)
  obtain⟨L2,hL2⟩:=aj (Rc.spans r y)
  rw[hL1] at hnv hm1 HR1;rw[hL2] at hnv ho k1;obtain⟨m2,hm2⟩:=aj (L2.length)
  rw[hL2,hm2];rw[hm2] at ho k1;have HSm:=ak (same18_any A1 A2 m1 m2 d1q d2q L1 L2 V15 hn1 (Nat.le_trans k1 k2) hm1 hm2 ((HR1.out.below HV14.out).more HV14.out.size) (Reads.of_own ho));rw[decide_eq_false (fun q=>hnv q.symm)] at HSm;clear ho k1 k2 hm1 hn1 hm2 HV14 HR1 hrt hok hnv hL1 hL2;go_wp2_with fail
  refine HSm.out.mono ?_;rintro e V16 ⟨rfl,hdr⟩;have hb:=hdr.below V15.heap.size;clear hdr HSm;replace HS:=ak (HS.out.call hb);clear hb;go_wp2;go_ret
  exact⟨rfl,HS.out.b⟩
 ·skip
  rw[Cm.yr_out HGo.out hin] at HYn;obtain⟨r2,x9,er9,hy2⟩:=Cm.yr_any L y (Cm.run (Cm.yr s x2.2) L m).recs (Cm.run (Cm.yr s x2.2) L m).why;rw[hy2] at HYm;clear hy2 hin;have P0:=(HS.out.get 1 rfl).cell 0 _ rfl;have P1:=(HS.out.get 1 rfl).cell 1 _ rfl;have P2:=(HS.out.get 1 rfl).cell 2 _ rfl;have zP:=(HS.out.get 1 rfl).lt;go_wp2_with fail
  refine(HYn.out _ HV4.out).mono ?_;rintro e V8 ⟨rfl,hb⟩;clear P0 P1 P2 zP;replace HV4:=ak (below_then HV4.out hb);replace HV6:=ak (below_then HV6.out hb);replace HS:=ak (HS.out.call hb);clear hb;obtain⟨gE,HGgE⟩:∃q,Hid (V8.heap.size=q):=⟨_,rfl⟩
  go_upto_region 13 with (refine wpList_store_all rfl 49 _ _ rfl V8.heap.size rfl (Rc.R.zero.arr) rfl _ (At.new V8 #[.int .i32 0,.int .i32 0,.int .i32 0,.int .u16 0,.int .u16 0,.int .u16 0,.int .u16 0,.int .u16 0,.int .u16 0,.int .u16 0,.int .u16 0,.int .u16 0,.int .u16 0,.int .u16 0,.int .u16 0,.int .u16 0,.int .u16 0,.int .u16 0,.int .u16 0] 49) (by rfl) (by kernel_rfl) (by first|exact Sm.S.arr_one _|exact Rc.R.arr_one _|simp[Value.oneCell']) ?_;intro V9 hAn hMn)
  rw[HGgE.out];have HBn:=ak (hMn.below (Nat.le_refl _) (al));replace HS:=ak (HS.out.laid #[.int .i32 0,.int .i32 0,.int .i32 0,.int .u16 0,.int .u16 0,.int .u16 0,.int .u16 0,.int .u16 0,.int .u16 0,.int .u16 0,.int .u16 0,.int .u16 0,.int .u16 0,.int .u16 0,.int .u16 0,.int .u16 0,.int .u16 0,.int .u16 0,.int .u16 0] 49 hMn hAn);rw[HGgE.out] at HS;clear hMn hAn;have hbn:Below V8.heap.size V8 V9:=HBn.out;clear HBn;replace HV4:=ak (below_then HV4.out hbn);replace HV6:=ak (below_then HV6.out hbn);clear hbn;have Q0:=(HS.out.get 1 rfl).cell 0 _ rfl;have Q1:=(HS.out.get 1 rfl).cell 1 _ rfl;have Q2:=(HS.out.get 1 rfl).cell 2 _ rfl;have zQ:=(HS.out.get 1 rfl).lt;go_wp2_with fail
  refine(HYm.out _ HV6.out).mono ?_;rintro e V10 ⟨rfl,hb⟩;clear Q0 Q1 Q2 zQ;replace HV4:=ak (below_then HV4.out hb);replace HV6:=ak (below_then HV6.out hb);replace HS:=ak (HS.out.call hb);clear hb;obtain⟨gG,HGgG⟩:∃q,Hid (V10.heap.size=q):=⟨_,rfl⟩
  go_upto_region 14 with (refine wpList_store_all rfl 49 _ _ rfl V10.heap.size rfl (r2.arr) rfl _ (At.new V10 #[.int .i32 0,.int .i32 0,.int .i32 0,.int .u16 0,.int .u16 0,.int .u16 0,.int .u16 0,.int .u16 0,.int .u16 0,.int .u16 0,.int .u16 0,.int .u16 0,.int .u16 0,.int .u16 0,.int .u16 0,.int .u16 0,.int .u16 0,.int .u16 0,.int .u16 0] 49) (by rfl) (by kernel_rfl) (by first|exact Sm.S.arr_one _|exact Rc.R.arr_one _|simp[Value.oneCell']) ?_;intro V11 hAn hMn)
  rw[HGgG.out];have HBn:=ak (hMn.below (Nat.le_refl _) (al));replace HS:=ak (HS.out.laid #[.int .i32 0,.int .i32 0,.int .i32 0,.int .u16 0,.int .u16 0,.int .u16 0,.int .u16 0,.int .u16 0,.int .u16 0,.int .u16 0,.int .u16 0,.int .u16 0,.int .u16 0,.int .u16 0,.int .u16 0,.int .u16 0,.int .u16 0,.int .u16 0,.int .u16 0] 49 hMn hAn);rw[HGgG.out] at HS;clear hMn hAn;clear HBn;go_wp2;go_ret
  exact⟨rfl,HS.out.b⟩
end Go.Proofs.YtjobhjemnmleaaaGreatDoor
namespace Go.Proofs.YtjobhjemnmleaaaGreatDoor
open Go.RowKit
theorem u8_rangeCompileMore {c:Int}(h:(Lit.int .u8 c).wf=true):0≤c∧c≤255:=by
 simpa [Lit.wf,IntKind.min,IntKind.max,IntKind.signed,IntKind.bits] using h
theorem compileMore_row (s:Src.S)(rv zv lv:Value)(evs:List Value)(nm:ByteArray)(lo:Int)(hi:Int)(y:Int)(r:Rc.R)(more:Int)(w:World)(hT:Wo w∧Wa w)(hR:Src.SrcR w w.heap.size s rv zv lv evs)(hw:Src.Wide s)(hnm:nm.size≤maxLen)(hlo:(Lit.int .i64 lo).wf=true)(hhi:(Lit.int .i64 hi).wf=true)(_:(Lit.int .i64 y).wf=true)(hr:Rc.I r)(hmore:(Lit.int .u8 more).wf=true):
  Calls Tryz.prog 4 #[.agg #[rv,zv,lv],.string nm,.int .i64 lo,.int .i64 hi,.int .i64 y,.agg r.arr,.int .u8 more] w fun e w'=>e=.returned (.bool true)∧Below w.heap.size w w':=
 compileMore_any s nm lo hi y r more rv zv lv evs w hR hw hT.1 hT.2 hnm (by have:=i64_range hlo;omega) (by have:=i64_range hhi;omega) hr (by have:=u8_rangeCompileMore hmore;omega)
open Go.RowKit Go.Sort
namespace Sq
end Sq
end Go.Proofs.YtjobhjemnmleaaaGreatDoor
namespace Go.Proofs.YtjobhjemnmleaaaGreatDoor
open Go.Deep
open Go.ChangeShapes Go.WideShapes Go.ChangeAt Go.RowKit Go.Joins
theorem u16_bound {c:Int}(h:(Lit.int .u16 c).wf=true):0≤c∧c≤65535:=by
 have:0≤c∧c≤65535:=by simpa [Lit.wf,IntKind.min,IntKind.max,IntKind.signed,IntKind.bits] using h
 omega
theorem i32_bound {c:Int}(h:(Lit.int .i32 c).wf=true):-2147483648≤c∧c≤2147483647:=by
 simpa [Lit.wf,IntKind.min,IntKind.max,IntKind.signed,IntKind.bits] using h
theorem list8 {α:Type}{l:List α}(h:l.length=8):∃c0 c1 c2 c3 c4 c5 c6 c7,l=[c0,c1,c2,c3,c4,c5,c6,c7]:=by
 match l,h with
 |[c0,c1,c2,c3,c4,c5,c6,c7],_=>exact⟨c0,c1,c2,c3,c4,c5,c6,c7,rfl⟩
theorem list19 {α:Type}{l:List α}(h:l.length=19):∃a b c x y,l=[a,b,c] ++ x ++ y∧x.length=8∧y.length=8:=by
 match l,h with
 |[a,b,c,x0,x1,x2,x3,x4,x5,x6,x7,y0,y1,y2,y3,y4,y5,y6,y7],_=>exact⟨a,b,c,[x0,x1,x2,x3,x4,x5,x6,x7],[y0,y1,y2,y3,y4,y5,y6,y7],rfl,rfl,rfl⟩
section
variable {H:Type} {enc:TypeId × Value→H} {w:World} {base:Nat} {spare:Nat→Bool} {held:Bool}
theorem trod_struct5 {P:Program}{t:TypeId}{f0 f1 f2 f3 f4:Field}{fuel:Nat}{cs:List Value}{x:DataW H × List MemPlace}(ht:P.underlying t=some (.struct #[f0,f1,f2,f3,f4]))(h:DataW.trod enc P w base spare held fuel t cs=some x):
  ∃y0 y1 y2 y3 y4 n,DataW.trod enc P w base spare held n f0.type ((cs.drop f0.offset).take (P.cellsOf f0.type))=some y0∧
   DataW.trod enc P w base spare held n f1.type ((cs.drop f1.offset).take (P.cellsOf f1.type))=some y1∧DataW.trod enc P w base spare held n f2.type ((cs.drop f2.offset).take (P.cellsOf f2.type))=some y2∧
   DataW.trod enc P w base spare held n f3.type ((cs.drop f3.offset).take (P.cellsOf f3.type))=some y3∧DataW.trod enc P w base spare held n f4.type ((cs.drop f4.offset).take (P.cellsOf f4.type))=some y4:=by
 obtain⟨xs,n,_,rfl,hl,hlen,hf⟩:=DataW.trod_struct ht h
 match xs,hlen with
 |[y0,y1,y2,y3,y4],_=>exact⟨y0,y1,y2,y3,y4,n,by simpa using hf 0 f0 rfl,by simpa using hf 1 f1 rfl,by simpa using hf 2 f2 rfl,by simpa using hf 3 f3 rfl,by simpa using hf 4 f4 rfl⟩
theorem open_stamp_cells {fuel:Nat}{cs:List Value}{x:DataW H × List MemPlace}(hl:cs.length=8)(h:DataW.trod enc Tryz.prog w base spare held fuel 47 cs=some x):∃s:Sm.S,cs=s.arr.toList∧Sm.U s:=by
 have q0:Tryz.prog.cellsOf 45=1:=by kernel_rfl
 obtain⟨c0,c1,c2,c3,c4,c5,c6,c7,rfl⟩:=list8 hl;obtain⟨y0,y1,y2,y3,y4,y5,y6,y7,n,h0,h1,h2,h3,h4,h5,h6,h7⟩:=trod_struct8 Tryz.underlying47 h;simp only[q0,List.drop,List.take] at h0 h1 h2 h3 h4 h5 h6 h7;obtain⟨a0,e0,_,w0⟩:=DataW.trod_int Tryz.underlying45 h0;obtain⟨a1,e1,_,w1⟩:=DataW.trod_int Tryz.underlying45 h1;obtain⟨a2,e2,_,w2⟩:=DataW.trod_int Tryz.underlying45 h2;obtain⟨a3,e3,_,w3⟩:=DataW.trod_int Tryz.underlying45 h3;obtain⟨a4,e4,_,w4⟩:=DataW.trod_int Tryz.underlying45 h4;obtain⟨a5,e5,_,w5⟩:=DataW.trod_int Tryz.underlying45 h5;obtain⟨a6,e6,_,w6⟩:=DataW.trod_int Tryz.underlying45 h6;obtain⟨a7,e7,_,w7⟩:=DataW.trod_int Tryz.underlying45 h7;simp only[List.cons.injEq,and_true] at e0 e1 e2 e3 e4 e5 e6 e7;subst e0 e1 e2 e3 e4 e5 e6 e7;exact⟨⟨a0,a1,a2,a3,a4,a5,a6,a7⟩,rfl,u16_bound w0,u16_bound w1,u16_bound w2,u16_bound w3,u16_bound w4,u16_bound w5,u16_bound w6,u16_bound w7⟩
theorem open_record_cells {fuel:Nat}{cs:List Value}{x:DataW H × List MemPlace}(hl:cs.length=19)(h:DataW.trod enc Tryz.prog w base spare held fuel 49 cs=some x):∃r:Rc.R,cs=r.arr.toList∧Rc.I r:=by
 have q0:Tryz.prog.cellsOf 21=1:=by kernel_rfl
 have q1:Tryz.prog.cellsOf 47=8:=by kernel_rfl
 obtain⟨c0,c1,c2,xs,ys,rfl,hx,hy⟩:=list19 hl;obtain⟨y0,y1,y2,y3,y4,n,h0,h1,h2,h3,h4⟩:=trod_struct5 Tryz.underlying49 h;simp only[q0,q1,List.cons_append,List.nil_append,List.drop,List.take] at h0 h1 h2 h3 h4;obtain⟨a0,e0,_,w0⟩:=DataW.trod_int Tryz.underlying21 h0;obtain⟨a1,e1,_,w1⟩:=DataW.trod_int Tryz.underlying21 h1;obtain⟨a2,e2,_,w2⟩:=DataW.trod_int Tryz.underlying21 h2;have k3:List.take 8 (xs ++ ys)=xs:=by rw[← hx,List.take_left]
 have k4:List.take 8 (List.drop 8 (xs ++ ys))=ys:=by rw[← hx,List.drop_left,hx,← hy,List.take_length]
 rw[k3] at h3;have h4':DataW.trod enc Tryz.prog w base spare held n 47 ys=some y4:=by rw[← k4];exact h4
 obtain⟨s,rfl,hs⟩:=open_stamp_cells hx h3;obtain⟨d,rfl,hd⟩:=open_stamp_cells hy h4';simp only[List.cons.injEq,and_true] at e0 e1 e2;subst e0 e1 e2;exact⟨⟨a0,a1,a2,s,d⟩,rfl,i32_bound w0,i32_bound w1,i32_bound w2,hs,hd⟩
end
theorem open_record {H:Type}{enc:TypeId × Value→H}{w:World}{base:Nat}{spare:Nat→Bool}{held:Bool}{r:Reach}{b0:Nat}{v:Value}{d:DataW H}{p:List MemPlace}
  (hv:Value.okWide Tryz.prog w r b0 49 v) (h:DataW.Trod enc Tryz.prog w base spare held 49 v d p):∃r:Rc.R,v=.agg r.arr∧Rc.I r:=by
 have q19:Tryz.prog.cellsOf 49=19:=by kernel_rfl
 obtain⟨cs,rfl,hsz⟩:=okWide_struct Tryz.underlying49 hv;obtain⟨fuel,hf⟩:=h;obtain⟨r,hr,hi⟩:=open_record_cells (show cs.toList.length=19 by simpa using hsz.trans q19) hf;have e:cs=r.arr:=Array.toList_inj.1 hr;exact⟨r,by rw[e],hi⟩
end Go.Proofs.YtjobhjemnmleaaaGreatDoor
namespace Go.Proofs.YtjobhjemnmleaaaGreatDoor.compileMore
open Go.ChangeShapes Go.WideShapes Go.ChangeAt Go.RowKit Go.Joins
open Go.ChangeMaps (open_string shut_string)
theorem own : ownKnob Tryz.prog.godebug=none:=by kernel_rfl
theorem laidOut : laidOutB Tryz.prog=true:=by kernel_rfl
theorem g_places : Tryz.prog.globalNamed "solstice/abbr.places" = some 1:=by kernel_rfl
theorem t_places : (Tryz.prog.globals[1]?).map (·.type)=some 336:=by kernel_rfl
theorem g_lens : Tryz.prog.globalNamed "solstice/civil.lengths" = some 0:=by kernel_rfl
theorem t_lens : (Tryz.prog.globals[0]?).map (·.type)=some 323:=by kernel_rfl
theorem wo_of {W:World}(h:laidMetH Tryz.prog Rows.compileMoreRow.laid W)(hS:W.ShapedOpen Tryz.prog):Wo W∧Wa W:=by
 have h0:laidMet Tryz.prog Rows.compileMoreRow.laid W:=h;have h1:=h0.tail;have x_lens:Lib.TabIs Tryz.prog W "solstice/civil.lengths" .i64 Cv.lens:=Lib.tabIs_of_head g_lens t_lens Tryz.underlying323 Tryz.underlying3 (by kernel_rfl) (by kernel_rfl) h0;have x_places:=strs_of_head (ls:=[[37,115],[37,122]]) (rest:=[]) g_places t_places Tryz.underlying336 Tryz.underlying9 (by kernel_rfl) (by kernel_rfl) h1;exact⟨⟨fun k hk=>x_lens.cell g_lens k hk,Tryz.laysM145.s1_3 W hS⟩,⟨x_places 0 _ rfl,x_places 1 _ rfl,Tryz.laysM145.s1_3 W hS⟩⟩
noncomputable def laidWorld (os:Os):World:=World.doorLaid Tryz.prog 4000 os
theorem laid_met (os:Os):laidMet Tryz.prog Rows.compileMoreRow.laid ((laidWorld os).forCall (fun _ _=>0) ⟨#[],#[.agg #[.slice none 0 0,.slice none 0 0,.slice none 0 0],.string ⟨#[]⟩,.int .i64 0,.int .i64 0,.int .i64 0,.agg #[.int .i32 0,.int .i32 0,.int .i32 0,.int .u16 0,.int .u16 0,.int .u16 0,.int .u16 0,.int .u16 0,.int .u16 0,.int .u16 0,.int .u16 0,.int .u16 0,.int .u16 0,.int .u16 0,.int .u16 0,.int .u16 0,.int .u16 0,.int .u16 0,.int .u16 0],.int .u8 0],[]⟩).memory:=
 laidMet_of_run' 8 (by kernel_rfl) (by kernel_rfl)
theorem reads (os:Os){H:Type}(enc:TypeId × Value→H):∃places,DataW.whole enc Tryz.prog ((laidWorld os).forCall (fun _ _=>0) ⟨#[],#[.agg #[.slice none 0 0,.slice none 0 0,.slice none 0 0],.string ⟨#[]⟩,.int .i64 0,.int .i64 0,.int .i64 0,.agg #[.int .i32 0,.int .i32 0,.int .i32 0,.int .u16 0,.int .u16 0,.int .u16 0,.int .u16 0,.int .u16 0,.int .u16 0,.int .u16 0,.int .u16 0,.int .u16 0,.int .u16 0,.int .u16 0,.int .u16 0,.int .u16 0,.int .u16 0,.int .u16 0,.int .u16 0],.int .u8 0],[]⟩).memory Tryz.f4.params.toList Rows.compileMoreSpec.vars false #[Value.agg #[.slice none 0 0,.slice none 0 0,.slice none 0 0],.string ⟨#[]⟩,.int .i64 0,.int .i64 0,.int .i64 0,.agg #[.int .i32 0,.int .i32 0,.int .i32 0,.int .u16 0,.int .u16 0,.int .u16 0,.int .u16 0,.int .u16 0,.int .u16 0,.int .u16 0,.int .u16 0,.int .u16 0,.int .u16 0,.int .u16 0,.int .u16 0,.int .u16 0,.int .u16 0,.int .u16 0,.int .u16 0],.int .u8 0].toList 8=some ([.agg [.nil,.nil,.nil],.lit (.string []),.lit (.int .i64 0),.lit (.int .i64 0),.lit (.int .i64 0),.agg [.lit (.int .i32 0),.lit (.int .i32 0),.lit (.int .i32 0),.agg [.lit (.int .u16 0),.lit (.int .u16 0),.lit (.int .u16 0),.lit (.int .u16 0),.lit (.int .u16 0),.lit (.int .u16 0),.lit (.int .u16 0),.lit (.int .u16 0)],.agg [.lit (.int .u16 0),.lit (.int .u16 0),.lit (.int .u16 0),.lit (.int .u16 0),.lit (.int .u16 0),.lit (.int .u16 0),.lit (.int .u16 0),.lit (.int .u16 0)]],.lit (.int .u8 0)],[],places):=
 ⟨[],by kernel_rfl⟩
theorem contract (H:Type)(enc:TypeId × Value→H)(W:World)(base:Nat)(args:Array Value)(ds gs:List (DataW H))(before:List MemPlace)
  (hval:∀(j:Nat) t v,Tryz.f4.params[j]?=some t→args[j]?=some v→Value.okWide Tryz.prog W .any base t v)
  (hW:DataW.Whole enc Tryz.prog Tryz.f4.params.toList Rows.compileMoreSpec.vars false W args.toList ds gs before) (hL:laidMetH Tryz.prog Rows.compileMoreRow.laid W) (hS:W.ShapedOpen Tryz.prog):
  Calls Tryz.prog 4 args W fun e W'=>∃v,e=.returned v∧Rows.compileMoreSpec.post enc Tryz.prog Tryz.f4 false true false false W args v W':=by
 have hW':=hW;obtain⟨p,q,hA0,hV,rfl,hfz,hnd⟩:=hW;have hA:DataW.TrodAll enc Tryz.prog W 0 (fun _=>true) true Tryz.f4.params.toList args.toList ds p:=hA0;rw[Tryz.params4] at hA hval;obtain⟨v0,vs0,d0,ds0,p0,q0,hargs,rfl,rfl,h0,r0⟩:=trodAll_cons hA;obtain⟨v1,vs1,d1,ds1,p1,q1,rfl,rfl,rfl,h1,r1⟩:=trodAll_cons r0;obtain⟨v2,vs2,d2,ds2,p2,q2,rfl,rfl,rfl,h2,r2⟩:=trodAll_cons r1;obtain⟨v3,vs3,d3,ds3,p3,q3,rfl,rfl,rfl,h3,r3⟩:=trodAll_cons r2;obtain⟨v4,vs4,d4,ds4,p4,q4,rfl,rfl,rfl,h4,r4⟩:=trodAll_cons r3;obtain⟨v5,vs5,d5,ds5,p5,q5,rfl,rfl,rfl,h5,r5⟩:=trodAll_cons r4;obtain⟨v6,vs6,d6,ds6,p6,q6,rfl,rfl,rfl,h6,r6⟩:=trodAll_cons r5;obtain⟨rfl,rfl,rfl⟩:=trodAll_nil r6;obtain rfl:args=#[v0,v1,v2,v3,v4,v5,v6]:=by cases args;simp_all
 obtain⟨rfl,rfl⟩:=trodVars_none hV;have k0:=h0;have lt0:∀x∈p0,x.block<W.heap.size:=by obtain⟨m,hm⟩:=k0;exact DataW.trod_lt m _ _ _ hm
 obtain⟨s0,rv0,zv0,lv0,evs0,rfl,hsr0,hsw0⟩:=open_source (hval 0 26 v0 rfl rfl) h0;obtain⟨nm,rfl,rfl,rfl,wnm⟩:=open_string Tryz.underlying9 (hval 1 9 v1 rfl rfl) h1;obtain⟨lo,rfl,rfl,rfl,wlo⟩:=open_int Tryz.underlying3 (hval 2 3 v2 rfl rfl) h2;obtain⟨hi,rfl,rfl,rfl,whi⟩:=open_int Tryz.underlying3 (hval 3 3 v3 rfl rfl) h3;obtain⟨y,rfl,rfl,rfl,wy⟩:=open_int Tryz.underlying3 (hval 4 3 v4 rfl rfl) h4;have k5:=h5;have lt5:∀x∈p5,x.block<W.heap.size:=by obtain⟨m,hm⟩:=k5;exact DataW.trod_lt m _ _ _ hm
 obtain⟨rc5,rfl,hrci5⟩:=open_record (hval 5 49 v5 rfl rfl) h5;obtain⟨more,rfl,rfl,rfl,wmore⟩:=open_int Tryz.underlying5 (hval 6 5 v6 rfl rfl) h6;clear hA0;refine(compileMore_row s0 rv0 zv0 lv0 evs0 nm lo hi y rc5 more W (wo_of hL hS) hsr0 hsw0 wnm wlo whi wy hrci5 wmore).mono fun e W' ⟨he,bel⟩=>?_
 subst he;exact⟨_,rfl,_,_,_,[],_,[],hW',trodAll_mk1 (shut_bool Tryz.underlying4 _),(trodAll_cons_mk (Below.trod laidOut (by kernel_rfl) (of_decide_eq_true (by kernel_rfl)) k0 bel lt0) (trodAll_cons_mk (shut_string Tryz.underlying9 wnm) (trodAll_cons_mk (shut_int Tryz.underlying3 wlo) (trodAll_cons_mk (shut_int Tryz.underlying3 whi) (trodAll_cons_mk (shut_int Tryz.underlying3 wy) (trodAll_cons_mk (Below.trod laidOut (by kernel_rfl) (of_decide_eq_true (by kernel_rfl)) k5 bel lt5) (trodAll_cons_mk (shut_int Tryz.underlying5 wmore) trodAll_mk0))))))),rfl,bel.frame _,fun h=>by cases h⟩
theorem lifted (os:Os)(started:os.Started)(H:Type)(enc:TypeId × Value→H)(F:Stop.Interp):
  ReturnsInHanded {} Tryz.checked os 4 .any ((OpenSpec.ofChange Rows.compileMoreSpec).preRow enc Tryz.prog Tryz.f4 Rows.compileMoreRow.domain false Rows.compileMoreRow.laid) (((OpenSpec.ofChange Rows.compileMoreSpec).at F).post enc Tryz.prog Tryz.f4 false true false false):=by
 obtain⟨places,hx⟩:=reads os enc;refine returnsInHanded_of_row (C:=Tryz.checked) (s:=OpenSpec.ofChange Rows.compileMoreSpec) own started (by kernel_rfl) Tryz.func4
  (witness_row_at (enc:=enc) (C:=Tryz.checked) false (laidWorld os) #[.agg #[.slice none 0 0,.slice none 0 0,.slice none 0 0],.string ⟨#[]⟩,.int .i64 0,.int .i64 0,.int .i64 0,.agg #[.int .i32 0,.int .i32 0,.int .i32 0,.int .u16 0,.int .u16 0,.int .u16 0,.int .u16 0,.int .u16 0,.int .u16 0,.int .u16 0,.int .u16 0,.int .u16 0,.int .u16 0,.int .u16 0,.int .u16 0,.int .u16 0,.int .u16 0,.int .u16 0,.int .u16 0],.int .u8 0] rfl (by kernel_rfl) (by kernel_rfl) (by kernel_rfl)
   (OpenSpec.preRow_of_cond 8 hx (by kernel_rfl) (fun k hk=>by cases hk) (by kernel_rfl) (laid_met os))) ?_
 intro W base args ds gs before hval hW _ _ _ hL hS _;exact contract H enc W base args ds gs before hval hW hL hS
theorem closed_and {a b:Bool}(ha:a=true)(hb:b=true):(a && b)=true:=by rw[ha,hb];rfl
theorem closed : joinedFacts Tryz.prog 4 Tryz.f4 (OpenSpec.ofChange Rows.compileMoreSpec).bare Rows.compileMoreRow=true:=by
 unfold joinedFacts
 repeat' with_reducible refine closed_and ?_ ?_
 all_goals as_aux_lemma=>kernel_rfl
theorem said : Rows.CompileMoreSaid:=
 OpenClaim.holds_of_cond 4 Tryz.f4 rfl rfl rfl rfl rfl rfl rfl ⟨rfl,rfl,rfl,rfl,rfl⟩ rfl rfl rfl rfl rfl (by kernel_rfl) Tryz.func4 closed
  (of_decide_eq_true (by kernel_rfl)) (by unfold Func.isWrapper;first|(rw[if_pos (by decide +kernel)];kernel_rfl)|(rw[if_neg (by decide +kernel)];exact⟨rfl,rfl⟩))
  (fun os started H enc _ F=>by rw[OpenClaim.pre_eq_preRow];exact lifted os started H enc F)
theorem plain (f:FuncId)(fn:Func)(hf:Tryz.pinned.checked.prog.funcNamed "solstice/solsticelaw27.CompileMore" = some f)(hfn:Tryz.pinned.checked.prog.funcs[f]?=some fn):
  false=Tryz.pinned.checked.prog.looks []∧∀(j:Nat) t,fn.params[j]?=some t→Tryz.pinned.checked.prog.wantsStandIn t=false:=by
 obtain rfl:f=4:=Option.some.inj ((show Tryz.prog.funcNamed "solstice/solsticelaw27.CompileMore" = some 4 by kernel_rfl).symm.trans hf) |>.symm;obtain rfl:fn=Tryz.f4:=(Option.some.inj (Tryz.func4.symm.trans hfn)).symm;refine⟨by kernel_rfl,fun j t ht=>?_⟩;rw[Tryz.params4] at ht;have hm:t∈[26,9,3,49,5]:=by
  have:=Array.mem_of_getElem? ht;simp at this ⊢
  first|omega|(rcases this with h|h|h|h <;> simp[h])|(rcases this with h|h|h <;> simp[h])|(rcases this with h|h|h|h|h <;> simp[h])
 simp only[List.mem_cons,List.not_mem_nil,or_false] at hm;rcases hm with rfl|rfl|rfl|rfl|rfl
 ·exact(show Tryz.prog.wantsStandIn 26=false by kernel_rfl)
 ·exact(show Tryz.prog.wantsStandIn 9=false by kernel_rfl)
 ·exact(show Tryz.prog.wantsStandIn 3=false by kernel_rfl)
 ·exact(show Tryz.prog.wantsStandIn 49=false by kernel_rfl)
 ·exact(show Tryz.prog.wantsStandIn 5=false by kernel_rfl)
theorem card : Rows.CompileMoreCardSaid:=
 Claim7.holds_tied_plain_at .later [] _ _ _ _ said (fun _ h=>by cases h) (by kernel_rfl) (fun _ h=>by cases h) compileMore_row_tie rfl ⟨rfl,rfl⟩ (by kernel_rfl) rfl plain (by kernel_rfl)
end Go.Proofs.YtjobhjemnmleaaaGreatDoor.compileMore
