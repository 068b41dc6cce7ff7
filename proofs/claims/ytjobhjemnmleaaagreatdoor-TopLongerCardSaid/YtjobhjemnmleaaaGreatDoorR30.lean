/- Package stamp: the date of any stamp in a year. -/
import Derived.Test.YtjobhjemnmleaaaGreatDoorR08
set_option maxRecDepth 100000
set_option maxHeartbeats 16000000
namespace Go.Proofs.YtjobhjemnmleaaaGreatDoor
open Go.RowKit
namespace Sm
def dateV (s:S)(y:Int):Value:=if no s y=0 then .tuple #[.agg #[.int .i64 y,.int .i64 s.mo,.int .i64 (day s y)],.int .i64 0] else .tuple #[.agg #[.int .i64 0,.int .i64 0,.int .i64 0],.int .i64 (no s y)]
def locV (s:S)(y:Int):Value:=if no s y=0 then .tuple #[.int .i64 (loc s y),.int .i64 0] else .tuple #[.int .i64 0,.int .i64 (no s y)]
end Sm
theorem date_res {tmps:Array Value}{w:World}{a:Nat}{y m d er:Int}(h4:tmps[4]?.getD undef=.pointer (some ⟨a,0,none⟩))(h5:tmps[5]?.getD undef=.int .i64 er)(c0:w.cell? ⟨a,0,none⟩=some (.int .i64 y))(c1:w.cell? ⟨a,1,none⟩=some (.int .i64 m))(c2:w.cell? ⟨a,2,none⟩=some (.int .i64 d)):
  (results Tryz.f188 tmps).run Tryz.prog w=.ok (.tuple #[.agg #[.int .i64 y,.int .i64 m,.int .i64 d],.int .i64 er]) w:=by
 simp[results,Tryz.f188,go_sem,h4,h5,c0,c1,c2]
theorem stampDate_all (s:Sm.S)(y:Int)(w:World)(hL:Lens w)(hu:Sm.U s)(hy:1601≤y∧y≤9999):Calls Tryz.prog 188 #[s.v,.int .i64 y] w fun e w'=>e=.returned (Sm.dateV s y)∧Below w.heap.size w w':=by
 have hCk:=fun W (hb:Below w.heap.size w W)=>stampCheck_all s W (hL.below hb) hu
 have hq0:=fun W=>stamp_same s Sm.S.zero W
 obtain⟨X,hX⟩:=aj (Sm.dateV s y)
 rw[hX];unfold Sm.dateV at hX;have hy0:=hy;obtain⟨y1,y2⟩:=hy;have p10:¬y<1601:=by omega
 have p11:¬9999<y:=by omega
 by_cases hr:Sm.right s=true
 case neg=>
  have hr2:Sm.right s=false:=by simpa using hr
  have hno:Sm.no s y=2:=by unfold Sm.no;rw[if_pos hr2]
  rw[hno,if_neg (by decide)] at hX;have HX:=ak hX;simp only[if_neg hr] at hCk;obtain⟨sy,mo,dw,d,h,mi,ss,ms⟩:=s;unfold Sm.S.v at hCk hq0 ⊢;simp only at hCk hq0 ⊢;obtain⟨V1,hV1⟩:=aj (((w.alloc (.cells #[.int .u16 sy,.int .u16 mo,.int .u16 dw,.int .u16 d,.int .u16 h,.int .u16 mi,.int .u16 ss,.int .u16 ms] 47)).alloc (.cells #[.int .i64 0,.int .i64 0,.int .i64 0] 174)))
  obtain⟨gA,hgA⟩:=aj (w.heap.size)
  have hbn:Below w.heap.size w V1:=by rw[← hV1];exact(al).alloc (by first|(simp;done)|(simp;omega)) _
  have hAA:At V1 gA [.int .u16 sy,.int .u16 mo,.int .u16 dw,.int .u16 d,.int .u16 h,.int .u16 mi,.int .u16 ss,.int .u16 ms]:=by
   have h:=(At.new w #[.int .u16 sy,.int .u16 mo,.int .u16 dw,.int .u16 d,.int .u16 h,.int .u16 mi,.int .u16 ss,.int .u16 ms] 47).allocO (.cells #[.int .i64 0,.int .i64 0,.int .i64 0] 174);rw[hV1] at h
   try rw[hgA] at h
   exact h
  have geA:w.heap.size≤gA:=by have:=(Below.refl w.heap.size w).size;omega
  have hAX:At V1 (gA+1) [.int .i64 0,.int .i64 0,.int .i64 0]:=by
   have h:=(At.new (w.alloc (.cells #[.int .u16 sy,.int .u16 mo,.int .u16 dw,.int .u16 d,.int .u16 h,.int .u16 mi,.int .u16 ss,.int .u16 ms] 47)) #[.int .i64 0,.int .i64 0,.int .i64 0] 174)
   simp only[World.size_alloc] at h;rw[hV1] at h
   try rw[hgA] at h
   exact h
  have geX:w.heap.size≤(gA+1):=by have:=(Below.refl w.heap.size w).size;omega
  have neX_A:(gA+1)≠gA:=by omega
  have neA_X:gA≠(gA+1):=by omega
  have hBz:=below_then (Below.refl w.heap.size w) hbn;have HB:=ak hBz;clear hBz;have HAA:=ak hAA;have HAX:=ak hAX;have HEV1:=ak hV1;have HGgA:=ak hgA;clear hbn hV1 hgA hAA hAX;have HCk:=ak (hCk _ HB.out);clear hCk hX hr hr2 hno hL hu hq0;have A0:=HAA.out.cell 0 _ rfl;have A1:=HAA.out.cell 1 _ rfl;have A2:=HAA.out.cell 2 _ rfl;have A3:=HAA.out.cell 3 _ rfl;have A4:=HAA.out.cell 4 _ rfl;have A5:=HAA.out.cell 5 _ rfl;have A6:=HAA.out.cell 6 _ rfl;have A7:=HAA.out.cell 7 _ rfl;have zA:=HAA.out.lt;have X0:=HAX.out.cell 0 _ rfl;have fX0:=HAX.out.free 0 _ rfl;have X1:=HAX.out.cell 1 _ rfl;have fX1:=HAX.out.free 1 _ rfl;have X2:=HAX.out.cell 2 _ rfl;have fX2:=HAX.out.free 2 _ rfl;have zX:=HAX.out.lt;go_enter Tryz.func188,Tryz.ntmps188
  go_upto_region 1 with fail
  rw[HEV1.out]
  try rw[HGgA.out]
  go_wp2_with fail
  clear A0 A1 A2 A3 A4 A5 A6 A7 zA X0 fX0 X1 fX1 X2 fX2 zX;refine(HCk.out).mono ?_;rintro e V2 ⟨rfl,hb⟩;have hBz:=below_then HB.out hb;clear HB;have HB:=ak hBz;clear hBz;have hAz:=HAA.out.call hb;clear HAA;have HAA:=ak hAz;clear hAz;have hAz:=HAX.out.call hb;clear HAX;have HAX:=ak hAz;clear hAz;clear hb;have A0:=HAA.out.cell 0 _ rfl;have A1:=HAA.out.cell 1 _ rfl;have A2:=HAA.out.cell 2 _ rfl;have A3:=HAA.out.cell 3 _ rfl;have A4:=HAA.out.cell 4 _ rfl;have A5:=HAA.out.cell 5 _ rfl;have A6:=HAA.out.cell 6 _ rfl;have A7:=HAA.out.cell 7 _ rfl;have zA:=HAA.out.lt;have X0:=HAX.out.cell 0 _ rfl;have fX0:=HAX.out.free 0 _ rfl;have X1:=HAX.out.cell 1 _ rfl;have fX1:=HAX.out.free 1 _ rfl;have X2:=HAX.out.cell 2 _ rfl;have fX2:=HAX.out.free 2 _ rfl;have zX:=HAX.out.lt;go_wp2_with fail
  try rw[HGgA.out]
  have hF:=((HAX.out.set 0 (.int .i64 0)).set 1 (.int .i64 0)).set 2 (.int .i64 0);refine bodyPost_ret (date_res rfl rfl (hF.cell 0 _ rfl) (hF.cell 1 _ rfl) (hF.cell 2 _ rfl)) rfl ⟨by rw[← HX.out],?_⟩;have hz:=((HB.out.setCell (p:=⟨gA+1,0,none⟩) geX (.int .i64 0)).setCell (p:=⟨gA+1,1,none⟩) geX (.int .i64 0)).setCell (p:=⟨gA+1,2,none⟩) geX (.int .i64 0)
  first|exact hz|(rw[HGgA.out] at hz;exact hz)
 simp only[if_pos hr] at hCk
 by_cases hz:s=Sm.S.zero
 case pos=>
  have hno:Sm.no s y=3:=by unfold Sm.no;rw[if_neg (by rw[hr];decide),if_pos (.inl hz)]
  rw[hno,if_neg (by decide)] at hX;have HX:=ak hX;simp only[decide_eq_true hz] at hq0;subst hz;unfold Sm.S.v Sm.S.zero at hCk hq0 ⊢;simp only at hCk hq0 ⊢;obtain⟨V1,hV1⟩:=aj (((w.alloc (.cells #[.int .u16 0,.int .u16 0,.int .u16 0,.int .u16 0,.int .u16 0,.int .u16 0,.int .u16 0,.int .u16 0] 47)).alloc (.cells #[.int .i64 0,.int .i64 0,.int .i64 0] 174)))
  obtain⟨gA,hgA⟩:=aj (w.heap.size)
  have hbn:Below w.heap.size w V1:=by rw[← hV1];exact(al).alloc (by first|(simp;done)|(simp;omega)) _
  have hAA:At V1 gA [.int .u16 0,.int .u16 0,.int .u16 0,.int .u16 0,.int .u16 0,.int .u16 0,.int .u16 0,.int .u16 0]:=by
   have h:=(At.new w #[.int .u16 0,.int .u16 0,.int .u16 0,.int .u16 0,.int .u16 0,.int .u16 0,.int .u16 0,.int .u16 0] 47).allocO (.cells #[.int .i64 0,.int .i64 0,.int .i64 0] 174);rw[hV1] at h
   try rw[hgA] at h
   exact h
  have geA:w.heap.size≤gA:=by have:=(Below.refl w.heap.size w).size;omega
  have hAX:At V1 (gA+1) [.int .i64 0,.int .i64 0,.int .i64 0]:=by
   have h:=(At.new (w.alloc (.cells #[.int .u16 0,.int .u16 0,.int .u16 0,.int .u16 0,.int .u16 0,.int .u16 0,.int .u16 0,.int .u16 0] 47)) #[.int .i64 0,.int .i64 0,.int .i64 0] 174)
   simp only[World.size_alloc] at h;rw[hV1] at h
   try rw[hgA] at h
   exact h
  have geX:w.heap.size≤(gA+1):=by have:=(Below.refl w.heap.size w).size;omega
  have neX_A:(gA+1)≠gA:=by omega
  have neA_X:gA≠(gA+1):=by omega
  have hBz:=below_then (Below.refl w.heap.size w) hbn;have HB:=ak hBz;clear hBz;have HAA:=ak hAA;have HAX:=ak hAX;have HEV1:=ak hV1;have HGgA:=ak hgA;clear hbn hV1 hgA hAA hAX;have HCk:=ak (hCk _ HB.out);clear hCk hX hr hno hL hu;have A0:=HAA.out.cell 0 _ rfl;have A1:=HAA.out.cell 1 _ rfl;have A2:=HAA.out.cell 2 _ rfl;have A3:=HAA.out.cell 3 _ rfl;have A4:=HAA.out.cell 4 _ rfl;have A5:=HAA.out.cell 5 _ rfl;have A6:=HAA.out.cell 6 _ rfl;have A7:=HAA.out.cell 7 _ rfl;have zA:=HAA.out.lt;have X0:=HAX.out.cell 0 _ rfl;have fX0:=HAX.out.free 0 _ rfl;have X1:=HAX.out.cell 1 _ rfl;have fX1:=HAX.out.free 1 _ rfl;have X2:=HAX.out.cell 2 _ rfl;have fX2:=HAX.out.free 2 _ rfl;have zX:=HAX.out.lt;go_enter Tryz.func188,Tryz.ntmps188
  go_upto_region 1 with fail
  rw[HEV1.out]
  try rw[HGgA.out]
  go_wp2_with fail
  clear A0 A1 A2 A3 A4 A5 A6 A7 zA X0 fX0 X1 fX1 X2 fX2 zX;refine(HCk.out).mono ?_;rintro e V2 ⟨rfl,hb⟩;have hBz:=below_then HB.out hb;clear HB;have HB:=ak hBz;clear hBz;have hAz:=HAA.out.call hb;clear HAA;have HAA:=ak hAz;clear hAz;have hAz:=HAX.out.call hb;clear HAX;have HAX:=ak hAz;clear hAz;clear hb;have A0:=HAA.out.cell 0 _ rfl;have A1:=HAA.out.cell 1 _ rfl;have A2:=HAA.out.cell 2 _ rfl;have A3:=HAA.out.cell 3 _ rfl;have A4:=HAA.out.cell 4 _ rfl;have A5:=HAA.out.cell 5 _ rfl;have A6:=HAA.out.cell 6 _ rfl;have A7:=HAA.out.cell 7 _ rfl;have zA:=HAA.out.lt;have X0:=HAX.out.cell 0 _ rfl;have fX0:=HAX.out.free 0 _ rfl;have X1:=HAX.out.cell 1 _ rfl;have fX1:=HAX.out.free 1 _ rfl;have X2:=HAX.out.cell 2 _ rfl;have fX2:=HAX.out.free 2 _ rfl;have zX:=HAX.out.lt;go_wp2_with fail
  try rw[HGgA.out]
  have hF:=((HAX.out.set 0 (.int .i64 0)).set 1 (.int .i64 0)).set 2 (.int .i64 0);refine bodyPost_ret (date_res rfl rfl (hF.cell 0 _ rfl) (hF.cell 1 _ rfl) (hF.cell 2 _ rfl)) rfl ⟨by rw[← HX.out],?_⟩;have hz:=((HB.out.setCell (p:=⟨gA+1,0,none⟩) geX (.int .i64 0)).setCell (p:=⟨gA+1,1,none⟩) geX (.int .i64 0)).setCell (p:=⟨gA+1,2,none⟩) geX (.int .i64 0)
  first|exact hz|(rw[HGgA.out] at hz;exact hz)
 simp only[decide_eq_false hz] at hq0;have hfi:Sm.Fine s:=(Sm.right_iff.1 hr).resolve_left hz
 by_cases hm:s.y≠0∧s.y≠y
 case pos=>
  have hno:Sm.no s y=3:=by unfold Sm.no;rw[if_neg (by rw[hr];decide),if_pos (.inr hm)]
  rw[hno,if_neg (by decide)] at hX;have HX:=ak hX;obtain⟨m1,m2⟩:=hm;obtain⟨u1,u2⟩:=hu.y;have r1:(s.y != 0)=true:=by rw[bne_iff_ne];exact m1
  have r2:(s.y != y)=true:=by rw[bne_iff_ne];exact m2
  clear hfi hz hr hno hX hu m1 m2;obtain⟨sy,mo,dw,d,h,mi,ss,ms⟩:=s;unfold Sm.S.v Sm.S.zero at hq0;unfold Sm.S.v at hCk ⊢;simp only at hCk hq0 u1 u2 r1 r2 ⊢;obtain⟨V1,hV1⟩:=aj (((w.alloc (.cells #[.int .u16 sy,.int .u16 mo,.int .u16 dw,.int .u16 d,.int .u16 h,.int .u16 mi,.int .u16 ss,.int .u16 ms] 47)).alloc (.cells #[.int .i64 0,.int .i64 0,.int .i64 0] 174)))
  obtain⟨gA,hgA⟩:=aj (w.heap.size)
  have hbn:Below w.heap.size w V1:=by rw[← hV1];exact(al).alloc (by first|(simp;done)|(simp;omega)) _
  have hAA:At V1 gA [.int .u16 sy,.int .u16 mo,.int .u16 dw,.int .u16 d,.int .u16 h,.int .u16 mi,.int .u16 ss,.int .u16 ms]:=by
   have h:=(At.new w #[.int .u16 sy,.int .u16 mo,.int .u16 dw,.int .u16 d,.int .u16 h,.int .u16 mi,.int .u16 ss,.int .u16 ms] 47).allocO (.cells #[.int .i64 0,.int .i64 0,.int .i64 0] 174);rw[hV1] at h
   try rw[hgA] at h
   exact h
  have geA:w.heap.size≤gA:=by have:=(Below.refl w.heap.size w).size;omega
  have hAX:At V1 (gA+1) [.int .i64 0,.int .i64 0,.int .i64 0]:=by
   have h:=(At.new (w.alloc (.cells #[.int .u16 sy,.int .u16 mo,.int .u16 dw,.int .u16 d,.int .u16 h,.int .u16 mi,.int .u16 ss,.int .u16 ms] 47)) #[.int .i64 0,.int .i64 0,.int .i64 0] 174)
   simp only[World.size_alloc] at h;rw[hV1] at h
   try rw[hgA] at h
   exact h
  have geX:w.heap.size≤(gA+1):=by have:=(Below.refl w.heap.size w).size;omega
  have neX_A:(gA+1)≠gA:=by omega
  have neA_X:gA≠(gA+1):=by omega
  have hBz:=below_then (Below.refl w.heap.size w) hbn;have HB:=ak hBz;clear hBz;have HAA:=ak hAA;have HAX:=ak hAX;have HEV1:=ak hV1;have HGgA:=ak hgA;clear hbn hV1 hgA hAA hAX;have HCk:=ak (hCk _ HB.out);clear hCk hL;have A0:=HAA.out.cell 0 _ rfl;have A1:=HAA.out.cell 1 _ rfl;have A2:=HAA.out.cell 2 _ rfl;have A3:=HAA.out.cell 3 _ rfl;have A4:=HAA.out.cell 4 _ rfl;have A5:=HAA.out.cell 5 _ rfl;have A6:=HAA.out.cell 6 _ rfl;have A7:=HAA.out.cell 7 _ rfl;have zA:=HAA.out.lt;have X0:=HAX.out.cell 0 _ rfl;have fX0:=HAX.out.free 0 _ rfl;have X1:=HAX.out.cell 1 _ rfl;have fX1:=HAX.out.free 1 _ rfl;have X2:=HAX.out.cell 2 _ rfl;have fX2:=HAX.out.free 2 _ rfl;have zX:=HAX.out.lt;go_enter Tryz.func188,Tryz.ntmps188
  go_upto_region 1 with fail
  rw[HEV1.out]
  try rw[HGgA.out]
  go_wp2_with fail
  clear A0 A1 A2 A3 A4 A5 A6 A7 zA X0 fX0 X1 fX1 X2 fX2 zX;refine(HCk.out).mono ?_;rintro e V2 ⟨rfl,hb⟩;have hBz:=below_then HB.out hb;clear HB;have HB:=ak hBz;clear hBz;have hAz:=HAA.out.call hb;clear HAA;have HAA:=ak hAz;clear hAz;have hAz:=HAX.out.call hb;clear HAX;have HAX:=ak hAz;clear hAz;clear hb;have A0:=HAA.out.cell 0 _ rfl;have A1:=HAA.out.cell 1 _ rfl;have A2:=HAA.out.cell 2 _ rfl;have A3:=HAA.out.cell 3 _ rfl;have A4:=HAA.out.cell 4 _ rfl;have A5:=HAA.out.cell 5 _ rfl;have A6:=HAA.out.cell 6 _ rfl;have A7:=HAA.out.cell 7 _ rfl;have zA:=HAA.out.lt;have X0:=HAX.out.cell 0 _ rfl;have fX0:=HAX.out.free 0 _ rfl;have X1:=HAX.out.cell 1 _ rfl;have fX1:=HAX.out.free 1 _ rfl;have X2:=HAX.out.cell 2 _ rfl;have fX2:=HAX.out.free 2 _ rfl;have zX:=HAX.out.lt;go_wp2_with fail
  try rw[HGgA.out]
  have hF:=((HAX.out.set 0 (.int .i64 0)).set 1 (.int .i64 0)).set 2 (.int .i64 0);refine bodyPost_ret (date_res rfl rfl (hF.cell 0 _ rfl) (hF.cell 1 _ rfl) (hF.cell 2 _ rfl)) rfl ⟨by rw[← HX.out],?_⟩;have hz:=((HB.out.setCell (p:=⟨gA+1,0,none⟩) geX (.int .i64 0)).setCell (p:=⟨gA+1,1,none⟩) geX (.int .i64 0)).setCell (p:=⟨gA+1,2,none⟩) geX (.int .i64 0)
  first|exact hz|(rw[HGgA.out] at hz;exact hz)
 have hh:s.y=0∨s.y=y:=by omega
 have hno:Sm.no s y=0:=Sm.no_iff.2 ⟨hfi,hh⟩;have hdv:=Sm.day_val hfi hy0 hh;have HFi:=ak hfi;rw[hno,if_pos rfl] at hX;obtain⟨dd,hdd⟩:=aj (Sm.day s y)
 rw[hdd] at hX hdv;have HX:=ak hX;have m1:=hfi.m1;have m2:=hfi.m2;have n1:=hfi.d1;have n2:=hfi.d2;have w1:=hu.dw.1;have w2:=hfi.w2
 by_cases hs:s.y=0
 case neg=>
  have hsy:=hh.resolve_left hs;unfold Sm.day at hdd;rw[if_neg hs] at hdd;subst hdd;obtain⟨u1,u2⟩:=hu.d;have r1:(s.y != 0)=true:=by rw[bne_iff_ne];exact hs
  have r2:(s.y != y)=false:=by rw[hsy];simp
  clear hfi hz hr hno hX hu hm hh hs n2 hdv HFi hy0;obtain⟨sy,mo,dw,d,h,mi,ss,ms⟩:=s;simp only at hsy;subst hsy;unfold Sm.S.v Sm.S.zero at hq0;unfold Sm.S.v at hCk ⊢;simp only at hCk hq0 u1 u2 r1 r2 m1 m2 n1 w1 w2 HX ⊢;obtain⟨V1,hV1⟩:=aj (((w.alloc (.cells #[.int .u16 sy,.int .u16 mo,.int .u16 dw,.int .u16 d,.int .u16 h,.int .u16 mi,.int .u16 ss,.int .u16 ms] 47)).alloc (.cells #[.int .i64 0,.int .i64 0,.int .i64 0] 174)))
  obtain⟨gA,hgA⟩:=aj (w.heap.size)
  have hbn:Below w.heap.size w V1:=by rw[← hV1];exact(al).alloc (by first|(simp;done)|(simp;omega)) _
  have hAA:At V1 gA [.int .u16 sy,.int .u16 mo,.int .u16 dw,.int .u16 d,.int .u16 h,.int .u16 mi,.int .u16 ss,.int .u16 ms]:=by
   have h:=(At.new w #[.int .u16 sy,.int .u16 mo,.int .u16 dw,.int .u16 d,.int .u16 h,.int .u16 mi,.int .u16 ss,.int .u16 ms] 47).allocO (.cells #[.int .i64 0,.int .i64 0,.int .i64 0] 174);rw[hV1] at h
   try rw[hgA] at h
   exact h
  have geA:w.heap.size≤gA:=by have:=(Below.refl w.heap.size w).size;omega
  have hAX:At V1 (gA+1) [.int .i64 0,.int .i64 0,.int .i64 0]:=by
   have h:=(At.new (w.alloc (.cells #[.int .u16 sy,.int .u16 mo,.int .u16 dw,.int .u16 d,.int .u16 h,.int .u16 mi,.int .u16 ss,.int .u16 ms] 47)) #[.int .i64 0,.int .i64 0,.int .i64 0] 174)
   simp only[World.size_alloc] at h;rw[hV1] at h
   try rw[hgA] at h
   exact h
  have geX:w.heap.size≤(gA+1):=by have:=(Below.refl w.heap.size w).size;omega
  have neX_A:(gA+1)≠gA:=by omega
  have neA_X:gA≠(gA+1):=by omega
  have hBz:=below_then (Below.refl w.heap.size w) hbn;have HB:=ak hBz;clear hBz;have HAA:=ak hAA;have HAX:=ak hAX;have HEV1:=ak hV1;have HGgA:=ak hgA;clear hbn hV1 hgA hAA hAX;have HCk:=ak (hCk _ HB.out);clear hCk hL;have A0:=HAA.out.cell 0 _ rfl;have A1:=HAA.out.cell 1 _ rfl;have A2:=HAA.out.cell 2 _ rfl;have A3:=HAA.out.cell 3 _ rfl;have A4:=HAA.out.cell 4 _ rfl;have A5:=HAA.out.cell 5 _ rfl;have A6:=HAA.out.cell 6 _ rfl;have A7:=HAA.out.cell 7 _ rfl;have zA:=HAA.out.lt;have X0:=HAX.out.cell 0 _ rfl;have fX0:=HAX.out.free 0 _ rfl;have X1:=HAX.out.cell 1 _ rfl;have fX1:=HAX.out.free 1 _ rfl;have X2:=HAX.out.cell 2 _ rfl;have fX2:=HAX.out.free 2 _ rfl;have zX:=HAX.out.lt;go_enter Tryz.func188,Tryz.ntmps188
  go_upto_region 1 with fail
  rw[HEV1.out]
  try rw[HGgA.out]
  go_wp2_with fail
  clear A0 A1 A2 A3 A4 A5 A6 A7 zA X0 fX0 X1 fX1 X2 fX2 zX;refine(HCk.out).mono ?_;rintro e V2 ⟨rfl,hb⟩;have hBz:=below_then HB.out hb;clear HB;have HB:=ak hBz;clear hBz;have hAz:=HAA.out.call hb;clear HAA;have HAA:=ak hAz;clear hAz;have hAz:=HAX.out.call hb;clear HAX;have HAX:=ak hAz;clear hAz;clear hb;have A0:=HAA.out.cell 0 _ rfl;have A1:=HAA.out.cell 1 _ rfl;have A2:=HAA.out.cell 2 _ rfl;have A3:=HAA.out.cell 3 _ rfl;have A4:=HAA.out.cell 4 _ rfl;have A5:=HAA.out.cell 5 _ rfl;have A6:=HAA.out.cell 6 _ rfl;have A7:=HAA.out.cell 7 _ rfl;have zA:=HAA.out.lt;have X0:=HAX.out.cell 0 _ rfl;have fX0:=HAX.out.free 0 _ rfl;have X1:=HAX.out.cell 1 _ rfl;have fX1:=HAX.out.free 1 _ rfl;have X2:=HAX.out.cell 2 _ rfl;have fX2:=HAX.out.free 2 _ rfl;have zX:=HAX.out.lt;go_upto_region 9 with fail
  obtain⟨V3,hV3⟩:=aj ((V2.alloc (.cells #[.int .i64 sy,.int .i64 mo,.int .i64 d] 174)))
  obtain⟨gD,hgD⟩:=aj (V2.heap.size)
  have hbn:Below V2.heap.size V2 V3:=by rw[← hV3];exact al
  have hAD:At V3 gD [.int .i64 sy,.int .i64 mo,.int .i64 d]:=by
   have h:=(At.new V2 #[.int .i64 sy,.int .i64 mo,.int .i64 d] 174)
   rw[hV3] at h
   try rw[hgD] at h
   exact h
  have geD:w.heap.size≤gD:=by have:=HB.out.size;omega
  have neD_A:gD≠gA:=by have:=HAA.out.lt;omega
  have neA_D:gA≠gD:=by have:=HAA.out.lt;omega
  have neD_X:gD≠(gA+1):=by have:=HAX.out.lt;omega
  have neX_D:(gA+1)≠gD:=by have:=HAX.out.lt;omega
  have hBz:=below_then HB.out hbn;clear HB;have HB:=ak hBz;clear hBz;have hAz:=HAA.out.call hbn;clear HAA;have HAA:=ak hAz;clear hAz;have hAz:=HAX.out.call hbn;clear HAX;have HAX:=ak hAz;clear hAz;have HAD:=ak hAD;have HEV3:=ak hV3;have HGgD:=ak hgD;clear hbn hV3 hgD hAD;rw[HEV3.out]
  try rw[HGgD.out]
  clear A0 A1 A2 A3 A4 A5 A6 A7 zA X0 fX0 X1 fX1 X2 fX2 zX;have A0:=HAA.out.cell 0 _ rfl;have A1:=HAA.out.cell 1 _ rfl;have A2:=HAA.out.cell 2 _ rfl;have A3:=HAA.out.cell 3 _ rfl;have A4:=HAA.out.cell 4 _ rfl;have A5:=HAA.out.cell 5 _ rfl;have A6:=HAA.out.cell 6 _ rfl;have A7:=HAA.out.cell 7 _ rfl;have zA:=HAA.out.lt;have X0:=HAX.out.cell 0 _ rfl;have fX0:=HAX.out.free 0 _ rfl;have X1:=HAX.out.cell 1 _ rfl;have fX1:=HAX.out.free 1 _ rfl;have X2:=HAX.out.cell 2 _ rfl;have fX2:=HAX.out.free 2 _ rfl;have zX:=HAX.out.lt;have D0:=HAD.out.cell 0 _ rfl;have D1:=HAD.out.cell 1 _ rfl;have D2:=HAD.out.cell 2 _ rfl;have zD:=HAD.out.lt;go_wp2_with fail
  try rw[HGgA.out]
  have hF:=((HAX.out.set 0 (.int .i64 sy)).set 1 (.int .i64 mo)).set 2 (.int .i64 d);refine bodyPost_ret (date_res rfl rfl (hF.cell 0 _ rfl) (hF.cell 1 _ rfl) (hF.cell 2 _ rfl)) rfl ⟨by rw[← HX.out],?_⟩;have hz:=((HB.out.setCell (p:=⟨gA+1,0,none⟩) geX (.int .i64 sy)).setCell (p:=⟨gA+1,1,none⟩) geX (.int .i64 mo)).setCell (p:=⟨gA+1,2,none⟩) geX (.int .i64 d)
  first|exact hz|(rw[HGgA.out] at hz;exact hz)
 unfold Sm.day at hdd;rw[if_pos hs] at hdd;unfold Sm.most at n2;rw[if_pos hs] at n2;have HDy:=ak fun W (hb:Below w.heap.size w W)=>days_ok y s.mo 1 W (hL.below hb) ⟨by omega,y2,m1,m2,by omega,by have:=Sm.len_in (y:=y) m1 m2;omega⟩
 have HLn:=ak fun W (hb:Below w.heap.size w W)=>length_ok y s.mo W (hL.below hb) ⟨by omega,y2,m1,m2⟩
 have hli:=Sm.len_in (y:=y) m1 m2;have HWd:=ak fun n W=>(civWeekday_any n W).mono fun e w' h=>(⟨h.1,h.2.symm⟩:_∧w'=W)
 obtain⟨L,hL2⟩:=aj (Cv.len y s.mo)
 obtain⟨f0,hf0⟩:=aj (Cv.num y s.mo 1)
 rw[hL2] at hli HLn hdd;rw[hf0] at HDy hdd;have HW2:=ak (HWd.out f0);have hdi:=Sm.dow_in f0;obtain⟨f,hf⟩:=aj (dow f0)
 rw[hf] at HW2 hdi hdd;obtain⟨q7,hq7⟩:=aj ((s.dw+7 - f) % 7)
 rw[hq7] at hdd;have hq8:0≤q7∧q7≤6:=by omega
 have t1:IntKind.i64.wrap (s.dw+7)=s.dw+7:=by rw[IntKind.wrap_i64];omega
 have t2:IntKind.i64.wrap (s.dw+7 - f)=s.dw+7 - f:=by rw[IntKind.wrap_i64];omega
 have t3:(s.dw+7 - f).tmod 7=q7:=by rw[Int.tmod_eq_emod_of_nonneg (by omega),hq7]
 have t4:IntKind.i64.wrap q7=q7:=by rw[IntKind.wrap_i64];omega
 have t5:IntKind.i64.wrap (1+q7)=1+q7:=by rw[IntKind.wrap_i64];omega
 have HT:=ak (And.intro t1 (And.intro t2 (And.intro t3 (And.intro t4 t5))));obtain⟨u1,u2⟩:=hu.d;obtain⟨e7,he7⟩:=aj (1+q7)
 obtain⟨s9,hs9⟩:=aj (7*(s.d - 1))
 have hs10:0≤s9∧s9≤28:=by omega
 have HQ7:=ak hq7;have HE7:=ak he7;have HS9:=ak hs9;have he1:1≤e7∧e7≤7:=by omega
 have HD:Hid ((if L<1+q7+s9 then 1+q7+s9 - 7 else 1+q7+s9)=dd):=by rw[← hs9];exact hdd
 clear t1 t2 t3 t4 t5 hdd he7 hq8 hs9 hfi hz hr hno hX hu hm hh hL hdv hL2 hf0 hf hq7 HWd HFi hy0;obtain⟨sy,mo,dw,d,h,mi,ss,ms⟩:=s;simp only at hs;subst hs;unfold Sm.S.v Sm.S.zero at hq0;unfold Sm.S.v at hCk ⊢;simp only at hCk hq0 u1 u2 m1 m2 n1 n2 w1 w2 HX HT HDy HLn HQ7 HS9 ⊢;obtain⟨V1,hV1⟩:=aj (((w.alloc (.cells #[.int .u16 0,.int .u16 mo,.int .u16 dw,.int .u16 d,.int .u16 h,.int .u16 mi,.int .u16 ss,.int .u16 ms] 47)).alloc (.cells #[.int .i64 0,.int .i64 0,.int .i64 0] 174)))
 obtain⟨gA,hgA⟩:=aj (w.heap.size)
 have hbn:Below w.heap.size w V1:=by rw[← hV1];exact(al).alloc (by first|(simp;done)|(simp;omega)) _
 have hAA:At V1 gA [.int .u16 0,.int .u16 mo,.int .u16 dw,.int .u16 d,.int .u16 h,.int .u16 mi,.int .u16 ss,.int .u16 ms]:=by
  have h:=(At.new w #[.int .u16 0,.int .u16 mo,.int .u16 dw,.int .u16 d,.int .u16 h,.int .u16 mi,.int .u16 ss,.int .u16 ms] 47).allocO (.cells #[.int .i64 0,.int .i64 0,.int .i64 0] 174);rw[hV1] at h
  try rw[hgA] at h
  exact h
 have geA:w.heap.size≤gA:=by have:=(Below.refl w.heap.size w).size;omega
 have hAX:At V1 (gA+1) [.int .i64 0,.int .i64 0,.int .i64 0]:=by
  have h:=(At.new (w.alloc (.cells #[.int .u16 0,.int .u16 mo,.int .u16 dw,.int .u16 d,.int .u16 h,.int .u16 mi,.int .u16 ss,.int .u16 ms] 47)) #[.int .i64 0,.int .i64 0,.int .i64 0] 174)
  simp only[World.size_alloc] at h;rw[hV1] at h
  try rw[hgA] at h
  exact h
 have geX:w.heap.size≤(gA+1):=by have:=(Below.refl w.heap.size w).size;omega
 have neX_A:(gA+1)≠gA:=by omega
 have neA_X:gA≠(gA+1):=by omega
 have hBz:=below_then (Below.refl w.heap.size w) hbn;have HB:=ak hBz;clear hBz;have HAA:=ak hAA;have HAX:=ak hAX;have HEV1:=ak hV1;have HGgA:=ak hgA;clear hbn hV1 hgA hAA hAX;have HCk:=ak (hCk _ HB.out);clear hCk;have A0:=HAA.out.cell 0 _ rfl;have A1:=HAA.out.cell 1 _ rfl;have A2:=HAA.out.cell 2 _ rfl;have A3:=HAA.out.cell 3 _ rfl;have A4:=HAA.out.cell 4 _ rfl;have A5:=HAA.out.cell 5 _ rfl;have A6:=HAA.out.cell 6 _ rfl;have A7:=HAA.out.cell 7 _ rfl;have zA:=HAA.out.lt;have X0:=HAX.out.cell 0 _ rfl;have fX0:=HAX.out.free 0 _ rfl;have X1:=HAX.out.cell 1 _ rfl;have fX1:=HAX.out.free 1 _ rfl;have X2:=HAX.out.cell 2 _ rfl;have fX2:=HAX.out.free 2 _ rfl;have zX:=HAX.out.lt;go_enter Tryz.func188,Tryz.ntmps188
 go_upto_region 1 with fail
 rw[HEV1.out]
 try rw[HGgA.out]
 go_wp2_with fail
 clear A0 A1 A2 A3 A4 A5 A6 A7 zA X0 fX0 X1 fX1 X2 fX2 zX;refine(HCk.out).mono ?_;rintro e V2 ⟨rfl,hb⟩;have hBz:=below_then HB.out hb;clear HB;have HB:=ak hBz;clear hBz;have hAz:=HAA.out.call hb;clear HAA;have HAA:=ak hAz;clear hAz;have hAz:=HAX.out.call hb;clear HAX;have HAX:=ak hAz;clear hAz;clear hb;have A0:=HAA.out.cell 0 _ rfl;have A1:=HAA.out.cell 1 _ rfl;have A2:=HAA.out.cell 2 _ rfl;have A3:=HAA.out.cell 3 _ rfl;have A4:=HAA.out.cell 4 _ rfl;have A5:=HAA.out.cell 5 _ rfl;have A6:=HAA.out.cell 6 _ rfl;have A7:=HAA.out.cell 7 _ rfl;have zA:=HAA.out.lt;have X0:=HAX.out.cell 0 _ rfl;have fX0:=HAX.out.free 0 _ rfl;have X1:=HAX.out.cell 1 _ rfl;have fX1:=HAX.out.free 1 _ rfl;have X2:=HAX.out.cell 2 _ rfl;have fX2:=HAX.out.free 2 _ rfl;have zX:=HAX.out.lt;go_upto_region 9 with fail
 obtain⟨V3,hV3⟩:=aj ((V2.alloc (.cells #[.int .i64 y,.int .i64 mo,.int .i64 d] 174)))
 obtain⟨gD,hgD⟩:=aj (V2.heap.size)
 have hbn:Below V2.heap.size V2 V3:=by rw[← hV3];exact al
 have hAD:At V3 gD [.int .i64 y,.int .i64 mo,.int .i64 d]:=by
  have h:=(At.new V2 #[.int .i64 y,.int .i64 mo,.int .i64 d] 174)
  rw[hV3] at h
  try rw[hgD] at h
  exact h
 have geD:w.heap.size≤gD:=by have:=HB.out.size;omega
 have neD_A:gD≠gA:=by have:=HAA.out.lt;omega
 have neA_D:gA≠gD:=by have:=HAA.out.lt;omega
 have neD_X:gD≠(gA+1):=by have:=HAX.out.lt;omega
 have neX_D:(gA+1)≠gD:=by have:=HAX.out.lt;omega
 have hBz:=below_then HB.out hbn;clear HB;have HB:=ak hBz;clear hBz;have hAz:=HAA.out.call hbn;clear HAA;have HAA:=ak hAz;clear hAz;have hAz:=HAX.out.call hbn;clear HAX;have HAX:=ak hAz;clear hAz;have HAD:=ak hAD;have HEV3:=ak hV3;have HGgD:=ak hgD;clear hbn hV3 hgD hAD;rw[HEV3.out]
 try rw[HGgD.out]
 clear A0 A1 A2 A3 A4 A5 A6 A7 zA X0 fX0 X1 fX1 X2 fX2 zX;have A0:=HAA.out.cell 0 _ rfl;have A1:=HAA.out.cell 1 _ rfl;have A2:=HAA.out.cell 2 _ rfl;have A3:=HAA.out.cell 3 _ rfl;have A4:=HAA.out.cell 4 _ rfl;have A5:=HAA.out.cell 5 _ rfl;have A6:=HAA.out.cell 6 _ rfl;have A7:=HAA.out.cell 7 _ rfl;have zA:=HAA.out.lt;have X0:=HAX.out.cell 0 _ rfl;have fX0:=HAX.out.free 0 _ rfl;have X1:=HAX.out.cell 1 _ rfl;have fX1:=HAX.out.free 1 _ rfl;have X2:=HAX.out.cell 2 _ rfl;have fX2:=HAX.out.free 2 _ rfl;have zX:=HAX.out.lt;have D0:=HAD.out.cell 0 _ rfl;have fD0:=HAD.out.free 0 _ rfl;have D1:=HAD.out.cell 1 _ rfl;have fD1:=HAD.out.free 1 _ rfl;have D2:=HAD.out.cell 2 _ rfl;have fD2:=HAD.out.free 2 _ rfl;have zD:=HAD.out.lt;go_upto_region 12 with fail
 clear A0 A1 A2 A3 A4 A5 A6 A7 zA X0 fX0 X1 fX1 X2 fX2 zX D0 fD0 D1 fD1 D2 fD2 zD;obtain⟨V4,hV4⟩:=aj (V3.setCell ⟨gD,2,none⟩ (.int .i64 1))
 have hBz:Below w.heap.size w V4:=by rw[← hV4];exact HB.out.setCell (p:=⟨gD,2,none⟩) geD (.int .i64 1)
 clear HB;have HB:=ak hBz;clear hBz;have hAz:At V4 gD [.int .i64 y,.int .i64 mo,.int .i64 1]:=by rw[← hV4];exact HAD.out.set 2 (.int .i64 1)
 clear HAD;have HAD:=ak hAz;clear hAz;have hAz:At V4 gA [.int .u16 0,.int .u16 mo,.int .u16 dw,.int .u16 d,.int .u16 h,.int .u16 mi,.int .u16 ss,.int .u16 ms]:=by rw[← hV4];exact HAA.out.set_other ⟨gD,2,none⟩ (.int .i64 1) neD_A
 clear HAA;have HAA:=ak hAz;clear hAz;have hAz:At V4 (gA+1) [.int .i64 0,.int .i64 0,.int .i64 0]:=by rw[← hV4];exact HAX.out.set_other ⟨gD,2,none⟩ (.int .i64 1) neD_X
 clear HAX;have HAX:=ak hAz;clear hAz;have HEV4:=ak hV4;clear hV4;rw[HEV4.out];have A0:=HAA.out.cell 0 _ rfl;have A1:=HAA.out.cell 1 _ rfl;have A2:=HAA.out.cell 2 _ rfl;have A3:=HAA.out.cell 3 _ rfl;have A4:=HAA.out.cell 4 _ rfl;have A5:=HAA.out.cell 5 _ rfl;have A6:=HAA.out.cell 6 _ rfl;have A7:=HAA.out.cell 7 _ rfl;have zA:=HAA.out.lt;have D0:=HAD.out.cell 0 _ rfl;have fD0:=HAD.out.free 0 _ rfl;have D1:=HAD.out.cell 1 _ rfl;have fD1:=HAD.out.free 1 _ rfl;have D2:=HAD.out.cell 2 _ rfl;have fD2:=HAD.out.free 2 _ rfl;have zD:=HAD.out.lt;go_wp2_with fail
 clear A0 A1 A2 A3 A4 A5 A6 A7 zA D0 fD0 D1 fD1 D2 fD2 zD;refine(HDy.out _ HB.out).mono ?_;rintro e V5 ⟨rfl,hb⟩;have hBz:=below_then HB.out hb;clear HB;have HB:=ak hBz;clear hBz;have hAz:=HAA.out.call hb;clear HAA;have HAA:=ak hAz;clear hAz;have hAz:=HAX.out.call hb;clear HAX;have HAX:=ak hAz;clear hAz;have hAz:=HAD.out.call hb;clear HAD;have HAD:=ak hAz;clear hAz;clear hb;have A0:=HAA.out.cell 0 _ rfl;have A1:=HAA.out.cell 1 _ rfl;have A2:=HAA.out.cell 2 _ rfl;have A3:=HAA.out.cell 3 _ rfl;have A4:=HAA.out.cell 4 _ rfl;have A5:=HAA.out.cell 5 _ rfl;have A6:=HAA.out.cell 6 _ rfl;have A7:=HAA.out.cell 7 _ rfl;have zA:=HAA.out.lt;have D0:=HAD.out.cell 0 _ rfl;have fD0:=HAD.out.free 0 _ rfl;have D1:=HAD.out.cell 1 _ rfl;have fD1:=HAD.out.free 1 _ rfl;have D2:=HAD.out.cell 2 _ rfl;have fD2:=HAD.out.free 2 _ rfl;have zD:=HAD.out.lt;go_wp2_with fail
 refine(HLn.out _ HB.out).mono ?_;rintro e _ ⟨rfl,rfl⟩;go_upto_region 18 with fail
 obtain⟨t1,t2,t3,t4,t5⟩:=HT.out;refine wp_region_quiet_tail (C:=fun w'=>∃j,w'=V5.drewN j) 12 (by kernel_rfl) (by kernel_rfl) ⟨1,rfl⟩ ?_
 repeat (quiet_step (first|(go_at_call 179;exact Calls.quiet_of_same (HW2.out _))))
 refine wpQuiet_nil ?_;intro wz hwz;obtain⟨nq,rfl⟩:=hwz;obtain⟨WD,hWD⟩:=aj (V5.drewN nq)
 have hbd:Below V5.heap.size V5 WD:=by rw[← hWD];exact(show Drew V5 (V5.drewN nq) from⟨nq,rfl⟩).below _
 rw[hWD];clear hWD t1 t2 t3 t4 t5;clear A0 A1 A2 A3 A4 A5 A6 A7 zA D0 fD0 D1 fD1 D2 fD2 zD;have hBz:=below_then HB.out hbd;clear HB;have HB:=ak hBz;clear hBz;have hAz:=HAA.out.call hbd;clear HAA;have HAA:=ak hAz;clear hAz;have hAz:=HAX.out.call hbd;clear HAX;have HAX:=ak hAz;clear hAz;have hAz:=HAD.out.call hbd;clear HAD;have HAD:=ak hAz;clear hAz;clear hbd;have A0:=HAA.out.cell 0 _ rfl;have A1:=HAA.out.cell 1 _ rfl;have A2:=HAA.out.cell 2 _ rfl;have A3:=HAA.out.cell 3 _ rfl;have A4:=HAA.out.cell 4 _ rfl;have A5:=HAA.out.cell 5 _ rfl;have A6:=HAA.out.cell 6 _ rfl;have A7:=HAA.out.cell 7 _ rfl;have zA:=HAA.out.lt;have D0:=HAD.out.cell 0 _ rfl;have fD0:=HAD.out.free 0 _ rfl;have D1:=HAD.out.cell 1 _ rfl;have fD1:=HAD.out.free 1 _ rfl;have D2:=HAD.out.cell 2 _ rfl;have fD2:=HAD.out.free 2 _ rfl;have zD:=HAD.out.lt;show wpList _ _ _ (_ :: _) _ _
 go_upto_region 19 with fail
 rw[HQ7.out,HE7.out];clear A0 A1 A2 A3 A4 A5 A6 A7 zA D0 fD0 D1 fD1 D2 fD2 zD;obtain⟨V6,hV6⟩:=aj (WD.setCell ⟨gD,2,none⟩ (.int .i64 e7))
 have hBz:Below w.heap.size w V6:=by rw[← hV6];exact HB.out.setCell (p:=⟨gD,2,none⟩) geD (.int .i64 e7)
 clear HB;have HB:=ak hBz;clear hBz;have hAz:At V6 gD [.int .i64 y,.int .i64 mo,.int .i64 e7]:=by rw[← hV6];exact HAD.out.set 2 (.int .i64 e7)
 clear HAD;have HAD:=ak hAz;clear hAz;have hAz:At V6 gA [.int .u16 0,.int .u16 mo,.int .u16 dw,.int .u16 d,.int .u16 h,.int .u16 mi,.int .u16 ss,.int .u16 ms]:=by rw[← hV6];exact HAA.out.set_other ⟨gD,2,none⟩ (.int .i64 e7) neD_A
 clear HAA;have HAA:=ak hAz;clear hAz;have hAz:At V6 (gA+1) [.int .i64 0,.int .i64 0,.int .i64 0]:=by rw[← hV6];exact HAX.out.set_other ⟨gD,2,none⟩ (.int .i64 e7) neD_X
 clear HAX;have HAX:=ak hAz;clear hAz;have HEV6:=ak hV6;clear hV6;rw[HEV6.out];have A0:=HAA.out.cell 0 _ rfl;have A1:=HAA.out.cell 1 _ rfl;have A2:=HAA.out.cell 2 _ rfl;have A3:=HAA.out.cell 3 _ rfl;have A4:=HAA.out.cell 4 _ rfl;have A5:=HAA.out.cell 5 _ rfl;have A6:=HAA.out.cell 6 _ rfl;have A7:=HAA.out.cell 7 _ rfl;have zA:=HAA.out.lt;have D0:=HAD.out.cell 0 _ rfl;have fD0:=HAD.out.free 0 _ rfl;have D1:=HAD.out.cell 1 _ rfl;have fD1:=HAD.out.free 1 _ rfl;have D2:=HAD.out.cell 2 _ rfl;have fD2:=HAD.out.free 2 _ rfl;have zD:=HAD.out.lt;go_upto_region 20 with fail
 rw[HS9.out];clear A0 A1 A2 A3 A4 A5 A6 A7 zA D0 fD0 D1 fD1 D2 fD2 zD;obtain⟨V7,hV7⟩:=aj (V6.setCell ⟨gD,2,none⟩ (.int .i64 (e7+s9)))
 have hBz:Below w.heap.size w V7:=by rw[← hV7];exact HB.out.setCell (p:=⟨gD,2,none⟩) geD (.int .i64 (e7+s9))
 clear HB;have HB:=ak hBz;clear hBz;have hAz:At V7 gD [.int .i64 y,.int .i64 mo,.int .i64 (e7+s9)]:=by rw[← hV7];exact HAD.out.set 2 (.int .i64 (e7+s9))
 clear HAD;have HAD:=ak hAz;clear hAz;have hAz:At V7 gA [.int .u16 0,.int .u16 mo,.int .u16 dw,.int .u16 d,.int .u16 h,.int .u16 mi,.int .u16 ss,.int .u16 ms]:=by rw[← hV7];exact HAA.out.set_other ⟨gD,2,none⟩ (.int .i64 (e7+s9)) neD_A
 clear HAA;have HAA:=ak hAz;clear hAz;have hAz:At V7 (gA+1) [.int .i64 0,.int .i64 0,.int .i64 0]:=by rw[← hV7];exact HAX.out.set_other ⟨gD,2,none⟩ (.int .i64 (e7+s9)) neD_X
 clear HAX;have HAX:=ak hAz;clear hAz;have HEV7:=ak hV7;clear hV7;rw[HEV7.out];have A0:=HAA.out.cell 0 _ rfl;have A1:=HAA.out.cell 1 _ rfl;have A2:=HAA.out.cell 2 _ rfl;have A3:=HAA.out.cell 3 _ rfl;have A4:=HAA.out.cell 4 _ rfl;have A5:=HAA.out.cell 5 _ rfl;have A6:=HAA.out.cell 6 _ rfl;have A7:=HAA.out.cell 7 _ rfl;have zA:=HAA.out.lt;have D0:=HAD.out.cell 0 _ rfl;have fD0:=HAD.out.free 0 _ rfl;have D1:=HAD.out.cell 1 _ rfl;have fD1:=HAD.out.free 1 _ rfl;have D2:=HAD.out.cell 2 _ rfl;have fD2:=HAD.out.free 2 _ rfl;have zD:=HAD.out.lt;have X0:=HAX.out.cell 0 _ rfl;have fX0:=HAX.out.free 0 _ rfl;have X1:=HAX.out.cell 1 _ rfl;have fX1:=HAX.out.free 1 _ rfl;have X2:=HAX.out.cell 2 _ rfl;have fX2:=HAX.out.free 2 _ rfl;have zX:=HAX.out.lt
 by_cases hq:L<e7+s9
 ·have hdd:dd=e7+s9 - 7:=by
   have h:=HD.out;rw[HE7.out,if_pos hq] at h;exact h.symm
  have HX2:Hid (Value.tuple #[.agg #[.int .i64 y,.int .i64 mo,.int .i64 (e7+s9 - 7)],.int .i64 0]=X):=by show _=_;rw[← HX.out,hdd]
  clear hdd;go_upto_region 22 with fail
  clear A0 A1 A2 A3 A4 A5 A6 A7 zA D0 fD0 D1 fD1 D2 fD2 zD X0 fX0 X1 fX1 X2 fX2 zX;obtain⟨Vb8,hVb8⟩:=aj (V7.setCell ⟨gD,2,none⟩ (.int .i64 (e7+s9 - 7)))
  have hBz:Below w.heap.size w Vb8:=by rw[← hVb8];exact HB.out.setCell (p:=⟨gD,2,none⟩) geD (.int .i64 (e7+s9 - 7))
  clear HB;have HB:=ak hBz;clear hBz;have hAz:At Vb8 gD [.int .i64 y,.int .i64 mo,.int .i64 (e7+s9 - 7)]:=by rw[← hVb8];exact HAD.out.set 2 (.int .i64 (e7+s9 - 7))
  clear HAD;have HAD:=ak hAz;clear hAz;have hAz:At Vb8 gA [.int .u16 0,.int .u16 mo,.int .u16 dw,.int .u16 d,.int .u16 h,.int .u16 mi,.int .u16 ss,.int .u16 ms]:=by rw[← hVb8];exact HAA.out.set_other ⟨gD,2,none⟩ (.int .i64 (e7+s9 - 7)) neD_A
  clear HAA;have HAA:=ak hAz;clear hAz;have hAz:At Vb8 (gA+1) [.int .i64 0,.int .i64 0,.int .i64 0]:=by rw[← hVb8];exact HAX.out.set_other ⟨gD,2,none⟩ (.int .i64 (e7+s9 - 7)) neD_X
  clear HAX;have HAX:=ak hAz;clear hAz;have HEVb8:=ak hVb8;clear hVb8;rw[HEVb8.out];have D0:=HAD.out.cell 0 _ rfl;have fD0:=HAD.out.free 0 _ rfl;have D1:=HAD.out.cell 1 _ rfl;have fD1:=HAD.out.free 1 _ rfl;have D2:=HAD.out.cell 2 _ rfl;have fD2:=HAD.out.free 2 _ rfl;have zD:=HAD.out.lt;have X0:=HAX.out.cell 0 _ rfl;have fX0:=HAX.out.free 0 _ rfl;have X1:=HAX.out.cell 1 _ rfl;have fX1:=HAX.out.free 1 _ rfl;have X2:=HAX.out.cell 2 _ rfl;have fX2:=HAX.out.free 2 _ rfl;have zX:=HAX.out.lt;go_wp2_with fail
  try rw[HGgA.out]
  have hF:=((HAX.out.set 0 (.int .i64 y)).set 1 (.int .i64 mo)).set 2 (.int .i64 (e7+s9 - 7));refine bodyPost_ret (date_res rfl rfl (hF.cell 0 _ rfl) (hF.cell 1 _ rfl) (hF.cell 2 _ rfl)) rfl ⟨by rw[← HX2.out],?_⟩;have hz:=((HB.out.setCell (p:=⟨gA+1,0,none⟩) geX (.int .i64 y)).setCell (p:=⟨gA+1,1,none⟩) geX (.int .i64 mo)).setCell (p:=⟨gA+1,2,none⟩) geX (.int .i64 (e7+s9 - 7))
  first|exact hz|(rw[HGgA.out] at hz;exact hz)
 ·have hdd:dd=e7+s9:=by
   have h:=HD.out;rw[HE7.out,if_neg hq] at h;exact h.symm
  have HX2:Hid (Value.tuple #[.agg #[.int .i64 y,.int .i64 mo,.int .i64 (e7+s9)],.int .i64 0]=X):=by show _=_;rw[← HX.out,hdd]
  clear hdd;go_wp2_with fail
  try rw[HGgA.out]
  have hF:=((HAX.out.set 0 (.int .i64 y)).set 1 (.int .i64 mo)).set 2 (.int .i64 (e7+s9));refine bodyPost_ret (date_res rfl rfl (hF.cell 0 _ rfl) (hF.cell 1 _ rfl) (hF.cell 2 _ rfl)) rfl ⟨by rw[← HX2.out],?_⟩;have hz:=((HB.out.setCell (p:=⟨gA+1,0,none⟩) geX (.int .i64 y)).setCell (p:=⟨gA+1,1,none⟩) geX (.int .i64 mo)).setCell (p:=⟨gA+1,2,none⟩) geX (.int .i64 (e7+s9))
  first|exact hz|(rw[HGgA.out] at hz;exact hz)
end Go.Proofs.YtjobhjemnmleaaaGreatDoor
namespace Go.Proofs.YtjobhjemnmleaaaGreatDoor
open Go.RowKit
theorem stampLocal_all (s:Sm.S)(y:Int)(w:World)(hL:Lens w)(hu:Sm.U s)(hy:1601≤y∧y≤9999):Calls Tryz.prog 154 #[s.v,.int .i64 y] w fun e w'=>e=.returned (Sm.locV s y)∧Below w.heap.size w w':=by
 have hDt:=fun W (hb:Below w.heap.size w W)=>stampDate_all s y W (hL.below hb) hu hy
 obtain⟨X,hX⟩:=aj (Sm.locV s y)
 rw[hX];unfold Sm.locV at hX;unfold Sm.dateV at hDt;unfold Sm.S.v at hDt ⊢
 by_cases hno:Sm.no s y=0
 case neg=>
  rw[if_neg hno] at hX;simp only[if_neg hno] at hDt;obtain⟨n,hn⟩:=aj (Sm.no s y)
  rw[hn] at hX hno;simp only[hn] at hDt;have p1:(n == 0)=false:=by rw[beq_eq_false_iff_ne];exact hno
  have p2:(n != 0)=true:=by rw[bne_iff_ne];exact hno
  have HX:=ak hX;have HDt:=ak hDt;clear hX hDt hL hu hy hn hno;obtain⟨V1,hV1⟩:=aj ((w.alloc (.cells #[.int .u16 s.y,.int .u16 s.mo,.int .u16 s.dw,.int .u16 s.d,.int .u16 s.h,.int .u16 s.mi,.int .u16 s.s,.int .u16 s.ms] 47)))
  obtain⟨gS,hgS⟩:=aj (w.heap.size)
  have hbn:Below w.heap.size w V1:=by rw[← hV1];exact al
  have hAS:At V1 gS [.int .u16 s.y,.int .u16 s.mo,.int .u16 s.dw,.int .u16 s.d,.int .u16 s.h,.int .u16 s.mi,.int .u16 s.s,.int .u16 s.ms]:=by
   have h:=(At.new w #[.int .u16 s.y,.int .u16 s.mo,.int .u16 s.dw,.int .u16 s.d,.int .u16 s.h,.int .u16 s.mi,.int .u16 s.s,.int .u16 s.ms] 47)
   rw[hV1] at h
   try rw[hgS] at h
   exact h
  have geS:w.heap.size≤gS:=by have:=(Below.refl w.heap.size w).size;omega
  have hBz:=below_then (Below.refl w.heap.size w) hbn;have HB:=ak hBz;clear hBz;have HAS:=ak hAS;have HEV1:=ak hV1;have HGgS:=ak hgS;clear hbn hV1 hgS hAS;have S0:=HAS.out.cell 0 _ rfl;have S1:=HAS.out.cell 1 _ rfl;have S2:=HAS.out.cell 2 _ rfl;have S3:=HAS.out.cell 3 _ rfl;have S4:=HAS.out.cell 4 _ rfl;have S5:=HAS.out.cell 5 _ rfl;have S6:=HAS.out.cell 6 _ rfl;have S7:=HAS.out.cell 7 _ rfl;have zS:=HAS.out.lt;go_enter Tryz.func154,Tryz.ntmps154
  go_upto_region 1 with fail
  rw[HEV1.out]
  try rw[HGgS.out]
  go_wp2_with fail
  refine(HDt.out _ HB.out).mono ?_;rintro e V2 ⟨rfl,hb⟩;have hBz:=below_then HB.out hb;clear HB;have HB:=ak hBz;clear hBz;have hAz:=HAS.out.call hb;clear HAS;have HAS:=ak hAz;clear hAz;clear hb;clear S0 S1 S2 S3 S4 S5 S6 S7 zS;obtain⟨V3,hV3⟩:=aj ((V2.alloc (.cells #[.int .i64 0,.int .i64 0,.int .i64 0] 174)))
  obtain⟨gQ,hgQ⟩:=aj (V2.heap.size)
  have hbn:Below V2.heap.size V2 V3:=by rw[← hV3];exact al
  have hAQ:At V3 gQ [.int .i64 0,.int .i64 0,.int .i64 0]:=by
   have h:=(At.new V2 #[.int .i64 0,.int .i64 0,.int .i64 0] 174)
   rw[hV3] at h
   try rw[hgQ] at h
   exact h
  have geQ:w.heap.size≤gQ:=by have:=HB.out.size;omega
  have neQ_S:gQ≠gS:=by have:=HAS.out.lt;omega
  have neS_Q:gS≠gQ:=by have:=HAS.out.lt;omega
  have hBz:=below_then HB.out hbn;clear HB;have HB:=ak hBz;clear hBz;have hAz:=HAS.out.call hbn;clear HAS;have HAS:=ak hAz;clear hAz;have HAQ:=ak hAQ;have HEV3:=ak hV3;have HGgQ:=ak hgQ;clear hbn hV3 hgQ hAQ;go_upto_region 2 with fail
  rw[HEV3.out]
  try rw[HGgQ.out]
  go_wp2;go_ret2
  exact⟨by rw[← HX.out];rfl,HB.out⟩
 rw[if_pos hno] at hX;simp only[if_pos hno] at hDt;obtain⟨hf,hh⟩:=Sm.no_iff.1 hno;have hv:=Sm.day_val hf hy hh;have hn:=num_bd _ _ _ hv;have hDy:=fun W (hb:Below w.heap.size w W)=>days_ok y s.mo (Sm.day s y) W (hL.below hb) hv
 unfold Sm.loc at hX;obtain⟨q,hq⟩:=aj (Sm.day s y)
 rw[hq] at hX hn;simp only[hq] at hDt hDy;obtain⟨n,hnn⟩:=aj (Cv.num y s.mo q)
 rw[hnn] at hX hn;simp only[hnn] at hDy;obtain⟨n1,n2⟩:=hn;obtain⟨⟨y1,y2⟩,⟨m1,m2⟩,⟨w1,w2⟩,⟨d1,d2⟩,⟨h1,h2⟩,⟨i1,i2⟩,⟨s1,s2⟩,⟨k1,k2⟩⟩:=hu;have h3:=hf.h2;have i3:=hf.i2;have s3:=hf.s2;have k3:=hf.k2;have HX:=ak hX;have HDt:=ak hDt;have HDy:=ak hDy;clear hX hDt hDy hL hy hnn hno hf hh hv hq y1 y2 m1 m2 w1 w2 d1 d2;obtain⟨V1,hV1⟩:=aj ((w.alloc (.cells #[.int .u16 s.y,.int .u16 s.mo,.int .u16 s.dw,.int .u16 s.d,.int .u16 s.h,.int .u16 s.mi,.int .u16 s.s,.int .u16 s.ms] 47)))
 obtain⟨gS,hgS⟩:=aj (w.heap.size)
 have hbn:Below w.heap.size w V1:=by rw[← hV1];exact al
 have hAS:At V1 gS [.int .u16 s.y,.int .u16 s.mo,.int .u16 s.dw,.int .u16 s.d,.int .u16 s.h,.int .u16 s.mi,.int .u16 s.s,.int .u16 s.ms]:=by
  have h:=(At.new w #[.int .u16 s.y,.int .u16 s.mo,.int .u16 s.dw,.int .u16 s.d,.int .u16 s.h,.int .u16 s.mi,.int .u16 s.s,.int .u16 s.ms] 47)
  rw[hV1] at h
  try rw[hgS] at h
  exact h
 have geS:w.heap.size≤gS:=by have:=(Below.refl w.heap.size w).size;omega
 have hBz:=below_then (Below.refl w.heap.size w) hbn;have HB:=ak hBz;clear hBz;have HAS:=ak hAS;have HEV1:=ak hV1;have HGgS:=ak hgS;clear hbn hV1 hgS hAS;have S0:=HAS.out.cell 0 _ rfl;have S1:=HAS.out.cell 1 _ rfl;have S2:=HAS.out.cell 2 _ rfl;have S3:=HAS.out.cell 3 _ rfl;have S4:=HAS.out.cell 4 _ rfl;have S5:=HAS.out.cell 5 _ rfl;have S6:=HAS.out.cell 6 _ rfl;have S7:=HAS.out.cell 7 _ rfl;have zS:=HAS.out.lt;go_enter Tryz.func154,Tryz.ntmps154
 go_upto_region 1 with fail
 rw[HEV1.out]
 try rw[HGgS.out]
 go_wp2_with fail
 refine(HDt.out _ HB.out).mono ?_;rintro e V2 ⟨rfl,hb⟩;have hBz:=below_then HB.out hb;clear HB;have HB:=ak hBz;clear hBz;have hAz:=HAS.out.call hb;clear HAS;have HAS:=ak hAz;clear hAz;clear hb;clear S0 S1 S2 S3 S4 S5 S6 S7 zS;obtain⟨V3,hV3⟩:=aj ((V2.alloc (.cells #[.int .i64 y,.int .i64 s.mo,.int .i64 q] 174)))
 obtain⟨gQ,hgQ⟩:=aj (V2.heap.size)
 have hbn:Below V2.heap.size V2 V3:=by rw[← hV3];exact al
 have hAQ:At V3 gQ [.int .i64 y,.int .i64 s.mo,.int .i64 q]:=by
  have h:=(At.new V2 #[.int .i64 y,.int .i64 s.mo,.int .i64 q] 174)
  rw[hV3] at h
  try rw[hgQ] at h
  exact h
 have geQ:w.heap.size≤gQ:=by have:=HB.out.size;omega
 have neQ_S:gQ≠gS:=by have:=HAS.out.lt;omega
 have neS_Q:gS≠gQ:=by have:=HAS.out.lt;omega
 have hBz:=below_then HB.out hbn;clear HB;have HB:=ak hBz;clear hBz;have hAz:=HAS.out.call hbn;clear HAS;have HAS:=ak hAz;clear hAz;have HAQ:=ak hAQ;have HEV3:=ak hV3;have HGgQ:=ak hgQ;clear hbn hV3 hgQ hAQ;have Q0:=HAQ.out.cell 0 _ rfl;have Q1:=HAQ.out.cell 1 _ rfl;have Q2:=HAQ.out.cell 2 _ rfl;have zQ:=HAQ.out.lt;go_upto_region 2 with fail
 rw[HEV3.out]
 try rw[HGgQ.out]
 go_wp2_with fail
 refine(HDy.out _ HB.out).mono ?_;rintro e V4 ⟨rfl,hb⟩;have hBz:=below_then HB.out hb;clear HB;have HB:=ak hBz;clear hBz;have hAz:=HAS.out.call hb;clear HAS;have HAS:=ak hAz;clear hAz;have hAz:=HAQ.out.call hb;clear HAQ;have HAQ:=ak hAz;clear hAz;clear hb;clear Q0 Q1 Q2 zQ;have S0:=HAS.out.cell 0 _ rfl;have S1:=HAS.out.cell 1 _ rfl;have S2:=HAS.out.cell 2 _ rfl;have S3:=HAS.out.cell 3 _ rfl;have S4:=HAS.out.cell 4 _ rfl;have S5:=HAS.out.cell 5 _ rfl;have S6:=HAS.out.cell 6 _ rfl;have S7:=HAS.out.cell 7 _ rfl;have zS:=HAS.out.lt;go_wp2;go_ret2
 exact⟨by rw[← HX.out];first|rfl|(congr 1),HB.out⟩
end Go.Proofs.YtjobhjemnmleaaaGreatDoor
