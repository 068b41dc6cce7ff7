/- Package fit: the kind of a span, the bounds of a year, the stamp of a clock's time, the ends of a year. -/
import Derived.Test.YtjobhjemnmleaaaGreatDoorR29
import Derived.Test.YtjobhjemnmleaaaGreatDoorR30
set_option maxRecDepth 100000
set_option maxHeartbeats 16000000
namespace Go.Proofs.YtjobhjemnmleaaaGreatDoor
open Go.RowKit Go.Sort
theorem ftKind_any (p:Ln.Sp)(w:World):Calls Tryz.prog 174 #[.agg #[.int .i64 p.fr,.int .i64 p.off,.bool p.dst]] w fun e w'=>e=.returned (.int .i64 (if p.dst=true then 1 else 0))∧Below w.heap.size w w':=by
 obtain⟨fr,off,dst⟩:=p;simp only;cases dst
 case false=>
  obtain⟨V1,gP,HEV1,HGgP,HS⟩:=(St.start w).lay #[.int .i64 fr,.int .i64 off,.bool false] 164;have P0:=(HS.out.get 0 rfl).cell 0 _ rfl;have P1:=(HS.out.get 0 rfl).cell 1 _ rfl;have P2:=(HS.out.get 0 rfl).cell 2 _ rfl;have zP:=(HS.out.get 0 rfl).lt;go_enter Tryz.func174,Tryz.ntmps174
  go_upto_region 1 with fail
  rw[HEV1.out]
  try rw[HGgP.out]
  go_wp2;go_ret
  exact⟨rfl,HS.out.b⟩
 case true=>
  obtain⟨V1,gP,HEV1,HGgP,HS⟩:=(St.start w).lay #[.int .i64 fr,.int .i64 off,.bool true] 164;have P0:=(HS.out.get 0 rfl).cell 0 _ rfl;have P1:=(HS.out.get 0 rfl).cell 1 _ rfl;have P2:=(HS.out.get 0 rfl).cell 2 _ rfl;have zP:=(HS.out.get 0 rfl).lt;go_enter Tryz.func174,Tryz.ntmps174
  go_upto_region 1 with fail
  rw[HEV1.out]
  try rw[HGgP.out]
  go_wp2;go_ret
  exact⟨rfl,HS.out.b⟩
theorem ftBounds_any (y:Int)(w:World)(hy:1601≤y∧y≤9999):Calls Tryz.prog 140 #[.int .i64 y] w fun e w'=>e=.returned (.tuple #[.int .i64 (Oc.D y*86400),.int .i64 (Oc.D (y+1)*86400),.int .i64 0])∧Below w.heap.size w w':=by
 have e1:Ln.begin_ y=(Oc.D y*86400,0):=by unfold Ln.begin_;rw[if_pos (by omega)]
 have e2:Ln.begin_ (y+1)=(Oc.D (y+1)*86400,0):=by unfold Ln.begin_;rw[if_pos (by omega)]
 have HB1:=ak fun W=>e1 ▸ lnBegin_any y W
 have HB2:=ak fun W=>e2 ▸ lnBegin_any (y+1) W
 obtain⟨fr,hfr⟩:=aj (Oc.D y*86400)
 obtain⟨te,hte⟩:=aj (Oc.D (y+1)*86400)
 rw[hfr] at HB1;rw[hte] at HB2;rw[hfr,hte];have wy:IntKind.i64.wrap (y+1)=y+1:=by rw[IntKind.wrap_i64];omega
 have y1:¬y<1601:=by omega
 have y2:¬9999<y:=by omega
 have y1':decide (y<1601)=false:=by rw[decide_eq_false_iff_not];exact y1
 have y2':decide (9999<y)=false:=by rw[decide_eq_false_iff_not];exact y2
 clear e1 e2 hfr hte hy;go_enter Tryz.func140,Tryz.ntmps140
 go_wp2_with fail
 try go_quiet (fail)
 try go_wp2_with fail
 refine(HB1.out _).mono ?_;rintro e _ ⟨rfl,rfl⟩;go_wp2_with fail
 refine(HB2.out _).mono ?_;rintro e _ ⟨rfl,rfl⟩;go_wp2;refine bodyPost_ret (v:=.tuple #[.int .i64 fr,.int .i64 te,.int .i64 0]) (by simp[results,Tryz.results140,go_sem]) rfl ⟨rfl,?_⟩
 first|exact Below.refl _ _|exact below_drewN (Below.refl _ _) _|exact(Below.refl _ _).drew
theorem Sm.ofClock_v (c:Int):(Sm.ofClock c).v=.agg #[.int .u16 0,.int .u16 (Cv.monthOf (c / 86400)),.int .u16 (dow (c / 86400)),.int .u16 (if Cv.len (Cv.yearOf (c / 86400)) (Cv.monthOf (c / 86400)) - 7<Cv.dayOf (c / 86400) then 5 else (Cv.dayOf (c / 86400) - 1) / 7+1),.int .u16 (c % 86400 / 3600),.int .u16 (c % 86400 / 60 % 60),.int .u16 (c % 86400 % 60),.int .u16 0]:=rfl
theorem quo_pos (n d:Int)(h:0≤n):n.tdiv d=n / d:=Int.tdiv_eq_ediv_of_nonneg h
theorem rem_pos (n d:Int)(h:0≤n):n.tmod d=n % d:=Int.tmod_eq_emod_of_nonneg h
theorem ftStamp_any (y c:Int)(w:World)(hL:Lens w)(hy:1601≤y∧y≤9999)(h1:Oc.D y*86400≤c)(h2:c<Oc.D (y+1)*86400):Calls Tryz.prog 175 #[.int .i64 c] w fun e w'=>e=.returned (.tuple #[(Sm.ofClock c).v,.int .i64 0])∧Below w.heap.size w w':=by
 have hc1:Oc.D y≤c / 86400:=by omega
 have hc2:c / 86400<Oc.D (y+1):=by omega
 obtain⟨n1,n2,hyr⟩:=Sm.year_in hy hc1 hc2;obtain⟨hv,d1,d2,m1,m2,_⟩:=Sm.day_in n1 n2;have hd3:=hv.2.2.2.2.2;have hli:=Sm.len_in (y:=Cv.yearOf (c / 86400)) m1 m2;have hw:=Sm.dow_in (c / 86400);have hob:0≤c % 86400∧c % 86400<86400:=by omega
 obtain⟨X,hX⟩:=aj ((Sm.ofClock c).v)
 rw[hX];rw[Sm.ofClock_v] at hX;have hci:-9223372036854775808≤c∧c≤9223372036854775807:=by omega
 have HY:=ak fun W=>year_ok c W n1 n2
 have HSp:=ak fun W=>split_any c W hci.1 hci.2
 have hO:=fun W=>of_ok (c / 86400) W n1 n2
 have hLn:=fun W (hb:Below w.heap.size w W)=>length_ok (Cv.yearOf (c / 86400)) (Cv.monthOf (c / 86400)) W (hL.below hb) (by rw[hyr];exact⟨by omega,by omega,m1,m2⟩)
 have hWd:=fun W=>civWeekday_any (c / 86400) W
 have hY1:1601≤Cv.yearOf (c / 86400):=by rw[hyr];omega
 obtain⟨n,hn⟩:=aj (c / 86400)
 obtain⟨o,hoo⟩:=aj (c % 86400)
 rw[hn] at HY HSp;simp only[hn] at hO hLn hWd hX hY1 d1 d2 m1 m2 hd3 hli hw;rw[hoo] at hob hX HSp;obtain⟨t0,ta,tb,tc,td,tE,tf⟩:=Sm.clock_parts o hob;obtain⟨yy,hyy⟩:=aj (Cv.yearOf n)
 obtain⟨m,hm⟩:=aj (Cv.monthOf n)
 obtain⟨d,hd⟩:=aj (Cv.dayOf n)
 obtain⟨ww,hww⟩:=aj (dow n)
 obtain⟨L,hLL⟩:=aj (Cv.len yy m)
 simp only[hyy,hm,hd,hww,hLL] at HY hO hLn hWd hX hY1 d1 d2 m1 m2 hd3 hli hw;have u1:IntKind.u16.wrap m=m:=Sm.wr16 (by omega) (by omega);have u2:IntKind.u16.wrap ww=ww:=Sm.wr16 (by omega) (by omega);have v1:IntKind.i64.wrap (d - 1)=d - 1:=by rw[IntKind.wrap_i64];omega
 have v2:(d - 1).tdiv 7=(d - 1) / 7:=quo_pos _ _ (by omega);have v2':IntKind.i64.wrap ((d - 1) / 7)=(d - 1) / 7:=by rw[IntKind.wrap_i64];omega
 have v3:IntKind.i64.wrap ((d - 1) / 7+1)=(d - 1) / 7+1:=by rw[IntKind.wrap_i64];omega
 have v4:IntKind.i64.wrap (L - 7)=L - 7:=by rw[IntKind.wrap_i64];omega
 have x1:o.tdiv 3600=o / 3600:=quo_pos _ _ hob.1;have x2:o.tdiv 60=o / 60:=quo_pos _ _ hob.1;have x3:o.tmod 60=o % 60:=rem_pos _ _ hob.1;have x4:(o / 60).tmod 60=o / 60 % 60:=rem_pos _ _ (by omega);have z1:IntKind.i64.wrap (o / 3600)=o / 3600:=by rw[IntKind.wrap_i64];omega
 have z2:IntKind.i64.wrap (o / 60)=o / 60:=by rw[IntKind.wrap_i64];omega
 have z3:IntKind.i64.wrap (o % 60)=o % 60:=by rw[IntKind.wrap_i64];omega
 have z4:IntKind.i64.wrap (o / 60 % 60)=o / 60 % 60:=by rw[IntKind.wrap_i64];omega
 have u4:IntKind.u16.wrap (o / 3600)=o / 3600:=Sm.wr16 (by omega) (by omega);have u5:IntKind.u16.wrap (o / 60 % 60)=o / 60 % 60:=Sm.wr16 (by omega) (by omega);have u6:IntKind.u16.wrap (o % 60)=o % 60:=Sm.wr16 (by omega) (by omega);have y1:¬yy<1601:=by omega
 have y1':decide (yy<1601)=false:=by rw[decide_eq_false_iff_not];exact y1
 obtain⟨hh,hhh⟩:=aj (o / 3600)
 obtain⟨mi,hmi⟩:=aj (o / 60 % 60)
 obtain⟨ss,hss⟩:=aj (o % 60)
 rw[hhh,hmi,hss] at hX;rw[hhh] at x1 z1 u4;rw[hmi] at x4 z4 u5;rw[hss] at x3 z3 u6;obtain⟨o6,ho6⟩:=aj (o / 60)
 rw[ho6] at x2 x4 z2;obtain⟨q7,hq7⟩:=aj ((d - 1) / 7)
 rw[hq7] at hX v2 v2' v3;have u3:IntKind.u16.wrap (q7+1)=q7+1:=Sm.wr16 (by omega) (by omega);have u3':IntKind.u16.wrap 5=5:=Sm.wr16 (by omega) (by omega);have HO:=ak hO;have HLn:=ak hLn;have HWd:=ak hWd;clear hO hLn hWd hL hy h1 h2 hc1 hc2 n1 n2 hyr hv hci hn hoo hyy hm hd hww hLL hhh hmi hss ho6 hq7 t0 ta tb tc td tE tf hob hd3 hli hw d1 d2 m1 m2 hY1
 by_cases hlast:L - 7<d
 case pos=>
  rw[if_pos hlast] at hX;have HX:=ak hX;clear hX;obtain⟨V1,gT,HEV1,HGgT,HS⟩:=(St.start w).lay #[.int .u16 0,.int .u16 0,.int .u16 0,.int .u16 0,.int .u16 0,.int .u16 0,.int .u16 0,.int .u16 0] 47;go_enter Tryz.func175,Tryz.ntmps175
  go_upto_region 1 with fail
  rw[HEV1.out]
  try rw[HGgT.out]
  go_wp2_with fail
  refine(HY.out _).mono ?_;rintro e V2 ⟨rfl,hb⟩;replace HS:=ak (HS.out.call hb);clear hb;go_wp2_with fail
  try go_quiet (fail)
  try go_wp2_with fail
  refine(HSp.out _).mono ?_;rintro e _ ⟨rfl,rfl⟩;go_wp2_with fail
  refine(HO.out _).mono ?_;rintro e V3 ⟨rfl,hb⟩;replace HS:=ak (HS.out.call hb);clear hb;have hLy:=HS.out.lay #[.int .i64 yy,.int .i64 m,.int .i64 d] 174;clear HS;obtain⟨V4,gD,HEV4,HGgD,HS⟩:=hLy;go_upto_region 6 with fail
  rw[HEV4.out]
  try rw[HGgD.out]
  have D0:=(HS.out.get 0 rfl).cell 0 _ rfl;have D1:=(HS.out.get 0 rfl).cell 1 _ rfl;have D2:=(HS.out.get 0 rfl).cell 2 _ rfl;have zD:=(HS.out.get 0 rfl).lt;go_wp2_with fail
  refine(HLn.out _ HS.out.b).mono ?_;rintro e _ ⟨rfl,rfl⟩;go_upto_region 14 with fail
  have r0:=cell_regrown D0;have r1:=cell_regrown D1;have r2:=cell_regrown D2;have cW:∀dd os,Calls Tryz.prog 179 #[.int .i64 n] (grow (redrawn V4 dd) os) fun e w''=>e=.returned (.int .i64 ww)∧∃p:Regrown,w''=grow (redrawn V4 p.d) p.os:=fun dd os=>Calls.regrown_of ((HWd.out _).mono fun e w' he=>⟨he.1,by rw[← he.2];exact Below.refl _ _⟩)
  refine wp_region_tail 19 (by kernel_rfl) (by kernel_rfl) ?_
  repeat (quiet_step (with_reducible exact cW _ _))
  refine wpQuiet_nil ?_;intro V9 hwz;obtain⟨⟨dq,osq⟩,hwz⟩:=hwz;have hb:Below V4.heap.size V4 V9:=by rw[hwz];exact below_regrown _ _ _
  clear hwz cW r0 r1 r2;clear D0 D1 D2 zD;replace HS:=ak (HS.out.call hb);clear hb;show wpList _ _ _ (_ :: _) _ _
  go_wp2_with (refine wpList_store_all rfl 47 _ _ rfl (gT) rfl #[.int .u16 0,.int .u16 m,.int .u16 ww,.int .u16 5,.int .u16 hh,.int .u16 mi,.int .u16 ss,.int .u16 0] rfl _ (HS.out.get 1 rfl) (by rfl) (by kernel_rfl) (by first|exact Sm.S.arr_one _|exact Rc.R.arr_one _|simp[Value.oneCell']) ?_;intro V10 hAn hMn)
  replace HS:Hid (St w V10 [(gD,[.int .i64 yy,.int .i64 m,.int .i64 d]),(gT,[.int .u16 0,.int .u16 m,.int .u16 ww,.int .u16 5,.int .u16 hh,.int .u16 mi,.int .u16 ss,.int .u16 0])]):=HS.out.put 1 rfl hMn hAn;clear hMn hAn;go_wp2_with fail
  refine bodyPost_ret (res_ct (p:=2) (q:=3) rfl (HS.out.get 1 rfl) _ Tryz.underlying47 rfl (by kernel_rfl) rfl rfl) rfl ⟨by first|(rw[← HX.out];rfl)|rw[← HX.out],HS.out.b⟩
 case neg=>
  rw[if_neg hlast] at hX;have HX:=ak hX;clear hX;obtain⟨V1,gT,HEV1,HGgT,HS⟩:=(St.start w).lay #[.int .u16 0,.int .u16 0,.int .u16 0,.int .u16 0,.int .u16 0,.int .u16 0,.int .u16 0,.int .u16 0] 47;go_enter Tryz.func175,Tryz.ntmps175
  go_upto_region 1 with fail
  rw[HEV1.out]
  try rw[HGgT.out]
  go_wp2_with fail
  refine(HY.out _).mono ?_;rintro e V2 ⟨rfl,hb⟩;replace HS:=ak (HS.out.call hb);clear hb;go_wp2_with fail
  try go_quiet (fail)
  try go_wp2_with fail
  refine(HSp.out _).mono ?_;rintro e _ ⟨rfl,rfl⟩;go_wp2_with fail
  refine(HO.out _).mono ?_;rintro e V3 ⟨rfl,hb⟩;replace HS:=ak (HS.out.call hb);clear hb;have hLy:=HS.out.lay #[.int .i64 yy,.int .i64 m,.int .i64 d] 174;clear HS;obtain⟨V4,gD,HEV4,HGgD,HS⟩:=hLy;go_upto_region 6 with fail
  rw[HEV4.out]
  try rw[HGgD.out]
  have D0:=(HS.out.get 0 rfl).cell 0 _ rfl;have D1:=(HS.out.get 0 rfl).cell 1 _ rfl;have D2:=(HS.out.get 0 rfl).cell 2 _ rfl;have zD:=(HS.out.get 0 rfl).lt;go_wp2_with fail
  refine(HLn.out _ HS.out.b).mono ?_;rintro e _ ⟨rfl,rfl⟩;go_upto_region 14 with fail
  have r0:=cell_regrown D0;have r1:=cell_regrown D1;have r2:=cell_regrown D2;have cW:∀dd os,Calls Tryz.prog 179 #[.int .i64 n] (grow (redrawn V4 dd) os) fun e w''=>e=.returned (.int .i64 ww)∧∃p:Regrown,w''=grow (redrawn V4 p.d) p.os:=fun dd os=>Calls.regrown_of ((HWd.out _).mono fun e w' he=>⟨he.1,by rw[← he.2];exact Below.refl _ _⟩)
  refine wp_region_tail 19 (by kernel_rfl) (by kernel_rfl) ?_
  repeat (quiet_step (with_reducible exact cW _ _))
  refine wpQuiet_nil ?_;intro V9 hwz;obtain⟨⟨dq,osq⟩,hwz⟩:=hwz;have hb:Below V4.heap.size V4 V9:=by rw[hwz];exact below_regrown _ _ _
  clear hwz cW r0 r1 r2;clear D0 D1 D2 zD;replace HS:=ak (HS.out.call hb);clear hb;show wpList _ _ _ (_ :: _) _ _
  go_wp2_with (refine wpList_store_all rfl 47 _ _ rfl (gT) rfl #[.int .u16 0,.int .u16 m,.int .u16 ww,.int .u16 (q7+1),.int .u16 hh,.int .u16 mi,.int .u16 ss,.int .u16 0] rfl _ (HS.out.get 1 rfl) (by rfl) (by kernel_rfl) (by first|exact Sm.S.arr_one _|exact Rc.R.arr_one _|simp[Value.oneCell']) ?_;intro V10 hAn hMn)
  replace HS:Hid (St w V10 [(gD,[.int .i64 yy,.int .i64 m,.int .i64 d]),(gT,[.int .u16 0,.int .u16 m,.int .u16 ww,.int .u16 (q7+1),.int .u16 hh,.int .u16 mi,.int .u16 ss,.int .u16 0])]):=HS.out.put 1 rfl hMn hAn;clear hMn hAn;go_wp2_with fail
  refine bodyPost_ret (res_ct (p:=2) (q:=3) rfl (HS.out.get 1 rfl) _ Tryz.underlying47 rfl (by kernel_rfl) rfl rfl) rfl ⟨by first|(rw[← HX.out];rfl)|rw[← HX.out],HS.out.b⟩
namespace Rc
open Od
structure EnJ (w0:World)(gP gQ gA gC:Nat)(a c:Sm.S)(u0:Nat→Value)(b:Nat→Bool)(u:Nat→Value)(w:World):Prop where
 st:St w0 w [(gC,c.arr.toList),(gA,a.arr.toList),(gQ,if b 3=true then c.arr.toList else [.int .u16 0,.int .u16 0,.int .u16 0,.int .u16 0,.int .u16 0,.int .u16 0,.int .u16 0,.int .u16 0]),(gP,if b 2=true then a.arr.toList else [.int .u16 0,.int .u16 0,.int .u16 0,.int .u16 0,.int .u16 0,.int .u16 0,.int .u16 0,.int .u16 0])]
 x:b 0=true→u 43=.agg a.arr
 y:b 1=true→u 44=.agg c.arr
 z:b 4=true→u 4=.int .i64 0
 old:∀j,j≠43→j≠44→j≠4→u j=u0 j
theorem en_len (q:Bool)(s:Sm.S):8=(if q=true then s.arr.toList else [.int .u16 0,.int .u16 0,.int .u16 0,.int .u16 0,.int .u16 0,.int .u16 0,.int .u16 0,.int .u16 0]).length:=by cases q <;> rfl
end Rc
theorem ftEnds_any (y:Int)(w:World)(hL:Lens w)(hy:1601≤y∧y≤9999):Calls Tryz.prog 173 #[.int .i64 y] w fun e w'=>e=.returned (.tuple #[(Rc.first y).v,(Rc.last y).v,.int .i64 0])∧Below w.heap.size w w':=by
 have hp:=Rc.year_pos y;have HBd:=ak fun W=>ftBounds_any y W hy
 have hS1:=fun W (hb:Below w.heap.size w W)=>ftStamp_any y (Oc.D y*86400) W (hL.below hb) hy (Int.le_refl _) hp
 have hS2:=fun W (hb:Below w.heap.size w W)=>ftStamp_any y (Oc.D (y+1)*86400 - 1) W (hL.below hb) hy (by omega) (by omega)
 have hb1:=Oc.D_mono (y:=1601) (z:=y) (by omega);have hb2:=Oc.D_mono (y:=y+1) (z:=10000) (by omega);have e1:Oc.D 1601=-134774:=by decide
 have e2:Oc.D 10000=2932897:=by decide
 have wt:IntKind.i64.wrap (Oc.D (y+1)*86400 - 1)=Oc.D (y+1)*86400 - 1:=by
  obtain⟨q,hq⟩:=aj (Oc.D (y+1))
  obtain⟨p,hpp⟩:=aj (Oc.D y)
  rw[hq,hpp] at hp;rw[hq] at hb2 ⊢;rw[hpp] at hb1;rw[IntKind.wrap_i64];omega
 unfold Rc.first Rc.last;obtain⟨fr,hfr⟩:=aj (Oc.D y*86400)
 obtain⟨te,hte⟩:=aj (Oc.D (y+1)*86400)
 rw[hfr,hte] at HBd;rw[hte] at wt;simp only[hfr] at hS1;simp only[hte] at hS2;rw[hfr,hte];clear hfr hte hp hb1 hb2 e1 e2 hy hL;obtain⟨a,ha⟩:=aj (Sm.ofClock fr)
 obtain⟨⟨by_,bmo,bdw,bd,bh,bmi,bs,bms⟩,hb⟩:∃q,Sm.ofClock (te - 1)=q:=⟨_,rfl⟩
 simp only[ha] at hS1;simp only[hb] at hS2;rw[ha,hb];clear ha hb;simp only[Sm.S.v_arr] at hS1 hS2 ⊢;have HS1:=ak hS1;have HS2:=ak hS2;clear hS1 hS2;obtain⟨V1,gP,HEV1,HGgP,HS⟩:=(St.start w).lay2 #[.int .u16 0,.int .u16 0,.int .u16 0,.int .u16 0,.int .u16 0,.int .u16 0,.int .u16 0,.int .u16 0] 47 #[.int .u16 0,.int .u16 0,.int .u16 0,.int .u16 0,.int .u16 0,.int .u16 0,.int .u16 0,.int .u16 0] 47;go_enter Tryz.func173,Tryz.ntmps173
 go_upto_region 1 with fail
 rw[HEV1.out]
 try rw[HGgP.out]
 go_wp2_with fail
 refine(HBd.out _).mono ?_;rintro e V2 ⟨rfl,hb⟩;replace HS:=ak (HS.out.call hb);clear hb;go_wp2_with fail
 refine(HS1.out _ HS.out.b).mono ?_;rintro e V3 ⟨rfl,hb⟩;replace HS:=ak (HS.out.call hb);clear hb;obtain⟨gA,HGgA⟩:∃q,Hid (V3.heap.size=q):=⟨_,rfl⟩
 go_upto_region 5 with (refine wpList_store_all rfl 47 _ _ rfl V3.heap.size rfl (a.arr) rfl _ (At.new V3 #[.int .u16 0,.int .u16 0,.int .u16 0,.int .u16 0,.int .u16 0,.int .u16 0,.int .u16 0,.int .u16 0] 47) (by rfl) (by kernel_rfl) (by first|exact Sm.S.arr_one _|exact Rc.R.arr_one _|simp[Value.oneCell']) ?_;intro V4 hAn hMn)
 rw[HGgA.out];replace HS:=ak (HS.out.laid #[.int .u16 0,.int .u16 0,.int .u16 0,.int .u16 0,.int .u16 0,.int .u16 0,.int .u16 0,.int .u16 0] 47 hMn hAn);rw[HGgA.out] at HS;clear hMn hAn;go_wp2_with fail
 refine(HS2.out _ HS.out.b).mono ?_;rintro e V5 ⟨rfl,hb⟩;replace HS:=ak (HS.out.call hb);clear hb;obtain⟨gC,HGgC⟩:∃q,Hid (V5.heap.size=q):=⟨_,rfl⟩
 go_upto_region 8 with (refine wpList_store_all rfl 47 _ _ rfl V5.heap.size rfl (Sm.S.arr ⟨by_,bmo,bdw,bd,bh,bmi,bs,bms⟩) rfl _ (At.new V5 #[.int .u16 0,.int .u16 0,.int .u16 0,.int .u16 0,.int .u16 0,.int .u16 0,.int .u16 0,.int .u16 0] 47) (by rfl) (by kernel_rfl) (by first|exact Sm.S.arr_one _|exact Rc.R.arr_one _|simp[Value.oneCell']) ?_;intro V6 hAn hMn)
 rw[HGgC.out];replace HS:=ak (HS.out.laid #[.int .u16 0,.int .u16 0,.int .u16 0,.int .u16 0,.int .u16 0,.int .u16 0,.int .u16 0,.int .u16 0] 47 hMn hAn);rw[HGgC.out] at HS;clear hMn hAn;go_upto_region 10 with fail
 have C7:=(HS.out.get 0 rfl).cell 7 _ rfl;have f7:=(HS.out.get 0 rfl).free 7 _ rfl;have zC:=(HS.out.get 0 rfl).lt;obtain⟨V7,HEV7⟩:∃X,Hid (V6.setCell ⟨gC,7,none⟩ (.int .u16 999)=X):=⟨_,rfl⟩
 have hMn:Moved gC V6 V7:=by rw[← HEV7.out];exact⟨7,[.int .u16 999],rfl⟩
 have hAn:At V7 gC ((Sm.S.arr ⟨by_,bmo,bdw,bd,bh,bmi,bs,999⟩).toList):=by rw[← HEV7.out];exact(HS.out.get 0 rfl).set 7 _
 go_upto_region 11 with fail
 rw[HEV7.out];clear C7 f7 zC;replace HS:Hid (St w V7 [(gC,(Sm.S.arr ⟨by_,bmo,bdw,bd,bh,bmi,bs,999⟩).toList),(gA,a.arr.toList),(gP+1,[.int .u16 0,.int .u16 0,.int .u16 0,.int .u16 0,.int .u16 0,.int .u16 0,.int .u16 0,.int .u16 0]),(gP,[.int .u16 0,.int .u16 0,.int .u16 0,.int .u16 0,.int .u16 0,.int .u16 0,.int .u16 0,.int .u16 0])]):=HS.out.put 0 rfl hMn hAn;clear hMn hAn;refine Od.wp_region_inv 45 (by kernel_rfl) (by rfl) (by rfl) (Od.ord_of (by kernel_rfl)) (Od.dst_of (by kernel_rfl)) (Rc.EnJ w gP (gP+1) gA gC a (⟨by_,bmo,bdw,bd,bh,bmi,bs,999⟩) (Od.slots _)) ⟨HS.out.drew,by simp,by simp,by simp,fun _ _ _ _=>rfl⟩ ?stepR ?finR
 case stepR=>
  intro i o hi b' a' wv hJ hb hdep hdf K hK;obtain⟨tm,df⟩:=a';simp only at hdf;subst hdf;have hiN:i<5:=(Array.getElem?_eq_some_iff.1 hi).1;have h2:tm.getD 2 undef=.pointer (some ⟨gP,0,none⟩):=(hJ.old 2 (by decide) (by decide) (by decide)).trans rfl;have h3:tm.getD 3 undef=.pointer (some ⟨gP+1,0,none⟩):=(hJ.old 3 (by decide) (by decide) (by decide)).trans rfl;have h8:tm.getD 8 undef=.pointer (some ⟨gA,0,none⟩):=(hJ.old 8 (by decide) (by decide) (by decide)).trans rfl;have h9:tm.getD 9 undef=.pointer (some ⟨gC,0,none⟩):=(hJ.old 9 (by decide) (by decide) (by decide)).trans rfl;have hsplit:i=0∨i=1∨i=2∨i=3∨i=4:=by omega
  rcases hsplit with rfl|rfl|rfl|rfl|rfl
  ·obtain rfl:=sji (show some _=some o from hi);rw[if_pos (show Region.wanted _ _=true from rfl)];refine wp_load_mid 47 _ rfl gA 0 h8 a.arr.toList _ (hJ.st.get 1 rfl).range Tryz.underlying47 rfl (by kernel_rfl) ?_;refine hK _ _ ⟨hJ.st,fun _=>rfl,fun q=>hJ.y q,fun q=>hJ.z q,fun j j1 j2 j3=>?_⟩;show (if j=43 then _ else _)=_
   rw[if_neg j1];exact hJ.old j j1 j2 j3
  ·obtain rfl:=sji (show some _=some o from hi);rw[if_pos (show Region.wanted _ _=true from rfl)];refine wp_load_mid 47 _ rfl gC 0 h9 (Sm.S.arr (⟨by_,bmo,bdw,bd,bh,bmi,bs,999⟩)).toList _ (hJ.st.get 0 rfl).range Tryz.underlying47 rfl (by kernel_rfl) ?_;refine hK _ _ ⟨hJ.st,fun q=>hJ.x q,fun _=>rfl,fun q=>hJ.z q,fun j j1 j2 j3=>?_⟩;show (if j=44 then _ else _)=_
   rw[if_neg j2];exact hJ.old j j1 j2 j3
  ·obtain rfl:=sji (show some _=some o from hi);rw[if_pos (show Region.wanted _ _=true from rfl)];have hx:tm.getD 43 undef=.agg a.arr:=hJ.x (hdep ⟨0,.data⟩ (by simp) rfl);have hA:=hJ.st.get 3 rfl;refine wp_store_mid 47 _ _ rfl gP 0 a.arr h2 hx (hA.there 0 8 (by rw[Nat.zero_add,← Rc.en_len];exact Nat.le_refl _)) (by kernel_rfl) (Sm.S.arr_one _) ?_;have hsp:=hA.splice a.arr.toList 0 (by rw[← Rc.en_len];exact Nat.le_refl _);rw[List.drop_of_length_le (by rw[← Rc.en_len];exact Nat.le_refl _)] at hsp;simp only[List.take_zero,List.nil_append,List.append_nil] at hsp;exact hK _ _ ⟨hJ.st.put 3 rfl ⟨0,a.arr.toList,rfl⟩ hsp,fun q=>hJ.x q,fun q=>hJ.y q,fun q=>hJ.z q,fun j j1 j2 j3=>hJ.old j j1 j2 j3⟩
  ·obtain rfl:=sji (show some _=some o from hi);rw[if_pos (show Region.wanted _ _=true from rfl)];have hx:tm.getD 44 undef=.agg (Sm.S.arr (⟨by_,bmo,bdw,bd,bh,bmi,bs,999⟩)):=hJ.y (hdep ⟨1,.data⟩ (by simp) rfl);have hA:=hJ.st.get 2 rfl;refine wp_store_mid 47 _ _ rfl (gP+1) 0 (Sm.S.arr (⟨by_,bmo,bdw,bd,bh,bmi,bs,999⟩)) h3 hx (hA.there 0 8 (by rw[Nat.zero_add,← Rc.en_len];exact Nat.le_refl _)) (by kernel_rfl) (Sm.S.arr_one _) ?_;have hsp:=hA.splice (Sm.S.arr (⟨by_,bmo,bdw,bd,bh,bmi,bs,999⟩)).toList 0 (by rw[← Rc.en_len];exact Nat.le_refl _);rw[List.drop_of_length_le (by rw[← Rc.en_len];exact Nat.le_refl _)] at hsp;simp only[List.take_zero,List.nil_append,List.append_nil] at hsp;exact hK _ _ ⟨hJ.st.put 2 rfl ⟨0,(Sm.S.arr (⟨by_,bmo,bdw,bd,bh,bmi,bs,999⟩)).toList,rfl⟩ hsp,fun q=>hJ.x q,fun q=>hJ.y q,fun q=>hJ.z q,fun j j1 j2 j3=>hJ.old j j1 j2 j3⟩
  ·obtain rfl:=sji (show some _=some o from hi);rw[if_pos (show Region.wanted _ _=true from rfl)];go_simp;refine hK _ _ ⟨hJ.st,fun q=>hJ.x q,fun q=>hJ.y q,fun _=>rfl,fun j j1 j2 j3=>?_⟩;show (if j=4 then _ else _)=_
   rw[if_neg j3];exact hJ.old j j1 j2 j3
 case finR=>
  intro a' W5 hJ hN hdf;have s2:a'.tmps.getD 2 undef=.pointer (some ⟨gP,0,none⟩):=(hJ.old 2 (by decide) (by decide) (by decide)).trans rfl;have s3:a'.tmps.getD 3 undef=.pointer (some ⟨gP+1,0,none⟩):=(hJ.old 3 (by decide) (by decide) (by decide)).trans rfl;have s4:a'.tmps.getD 4 undef=.int .i64 0:=hJ.z rfl;have hst:=hJ.st;have HS:Hid (St w W5 [(gC,(Sm.S.arr (⟨by_,bmo,bdw,bd,bh,bmi,bs,999⟩)).toList),(gA,a.arr.toList),(gP+1,(Sm.S.arr (⟨by_,bmo,bdw,bd,bh,bmi,bs,999⟩)).toList),(gP,a.arr.toList)]):=hst;have ef:a'={ tmps:=((List.range 45).map fun i=>a'.tmps.getD i undef).toArray,defers:=[] }:=Rg.frame_of 45 a' hN hdf;obtain⟨u,hu⟩:∃u:Nat→Value,(fun i=>a'.tmps.getD i undef)=u:=⟨_,rfl⟩
  rw[hu] at ef;have e2:u 2=.pointer (some ⟨gP,0,none⟩):=by rw[← hu];exact s2
  have e3:u 3=.pointer (some ⟨gP+1,0,none⟩):=by rw[← hu];exact s3
  have e4:u 4=.int .i64 0:=by rw[← hu];exact s4
  have ef2:a'={ tmps:=(u 0 :: u 1 :: u 2 :: u 3 :: u 4 :: u 5 :: u 6 :: u 7 :: u 8 :: u 9 :: u 10 :: u 11 :: u 12 :: u 13 :: u 14 :: u 15 :: u 16 :: u 17 :: u 18 :: u 19 :: u 20 :: u 21 :: u 22 :: u 23 :: u 24 :: u 25 :: u 26 :: u 27 :: u 28 :: u 29 :: u 30 :: u 31 :: u 32 :: u 33 :: u 34 :: u 35 :: u 36 :: u 37 :: u 38 :: u 39 :: u 40 :: u 41 :: u 42 :: u 43 :: u 44 :: []:List Value).toArray,defers:=[] }:=ef;rw[e2,e3,e4] at ef2;rw[ef2];clear hJ hN hdf ef ef2 hu e2 e3 e4 s2 s3 s4 hst;go_wp2_with fail
  refine bodyPost_ret (res_cct (p:=2) (p2:=3) (q:=4) rfl (HS.out.get 3 rfl) (HS.out.get 2 rfl) _ _ Tryz.underlying47 rfl (by kernel_rfl) Tryz.underlying47 rfl (by kernel_rfl) rfl rfl rfl) rfl ⟨rfl,HS.out.b⟩
end Go.Proofs.YtjobhjemnmleaaaGreatDoor
