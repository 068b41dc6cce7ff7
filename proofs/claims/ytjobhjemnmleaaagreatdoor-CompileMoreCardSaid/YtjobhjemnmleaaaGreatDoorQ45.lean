/- What law 27 asks first. -/
import Derived.Test.YtjobhjemnmleaaaGreatDoorQ44
set_option maxRecDepth 200000
set_option maxHeartbeats 32000000
namespace Go.Proofs.YtjobhjemnmleaaaGreatDoor
open Go.RowKit Go.Sort
theorem lives27 (w:World)(hW:Wo w)(hA:Wa w):Calls Tryz.prog 18 #[] w fun e w'=>e=.returned (.bool true)∧Below w.heap.size w w':=by
 have hLe:Lens w:=by first|exact hW.lens|exact hW.l|exact hW.c.lens|exact hW.1
 have HWo:=ak hW;have HWa:=ak hA;have HLe:=ak hLe;have HE1:=ak (europe_at w);clear hW hA hLe;go_enter Tryz.func18,Tryz.ntmps18
 go_wp2_with fail
 refine HE1.out.mono ?_;rintro e w1 ⟨g,rfl,hi1,hg1,hb1⟩;have HI:=ak hi1;have HB:=ak hb1;have HGo:=ak (eu_good (lo:=1995) (hi:=1998) (by unfold Ln.InY;omega) (by omega) (n:=4) (by omega));have HZ1:=ak fun V (hb:Below w1.heap.size w1 V)=>eu_zone (HI.out.call hb) (HWo.out.below (below_then HB.out hb)) (HWa.out.below (below_then HB.out hb)) ⟨#[67]⟩ (by decide) L27.walkC 1995 1998 (by unfold Ln.InY;omega) (by omega) 4 (by omega)
 have HZ2:=ak fun V (hb:Below w1.heap.size w1 V)=>eu_bad (HI.out.call hb) (HWo.out.below (below_then HB.out hb)) (HWa.out.below (below_then HB.out hb)) ⟨#[68]⟩ (by decide) 1995 1998 (by omega) (by omega) 3 (by decide) (by
  rw[L27.walkD,L46.right];rfl)
 have HZ3:=ak fun V (hb:Below w1.heap.size w1 V)=>eu_bad (HI.out.call hb) (HWo.out.below (below_then HB.out hb)) (HWa.out.below (below_then HB.out hb)) ⟨#[67]⟩ (by decide) 1600 1601 (by omega) (by omega) 1 (by decide) (by
  rw[L46.right,L46.well,L27.walkC,L27.zone];rfl)
 clear hi1 hb1 hg1 HE1;obtain⟨V1,gS,HEV1,HGgS,HS⟩:=(St.start w1).lay #[.slice (some ⟨g+1,0,none⟩) 2 2,.slice (some ⟨g+1+1+1+1,0,none⟩) 1 1,.slice (some ⟨g+1+1+1+1+1,0,none⟩) 1 1] 26;go_upto_region 2 with fail
 rw[HEV1.out]
 try rw[HGgS.out]
 have S0:=(HS.out.get 0 rfl).cell 0 _ rfl;have S1:=(HS.out.get 0 rfl).cell 1 _ rfl;have S2:=(HS.out.get 0 rfl).cell 2 _ rfl;have zS:=(HS.out.get 0 rfl).lt;go_wp2_with fail
 refine(HZ1.out _ HS.out.b).mono ?_;rintro e V2 ⟨⟨a1,a2,c1,c2,rfl,hrd⟩,hb⟩;clear S0 S1 S2 zS;replace HS:=ak (HS.out.call hb);clear hb;have HRd:=ak hrd;have HS2:=ak HS.out.b;have HV2:=ak (Below.refl V2.heap.size V2);clear hrd;have hLy:=HS.out.lay #[.int .i64 1995,.slice (some ⟨a1,0,none⟩) 4 c1,.slice (some ⟨a2,0,none⟩) 4 c2] 53;clear HS;obtain⟨V3,gP,HEV3,HGgP,HS⟩:=hLy;have hbn:Below V2.heap.size V2 V3:=by rw[← HEV3.out];exact al
 replace HV2:=ak (below_then HV2.out hbn);clear hbn;go_upto_region 3 with fail
 rw[HEV3.out]
 try rw[HGgP.out]
 have S0:=(HS.out.get 1 rfl).cell 0 _ rfl;have S1:=(HS.out.get 1 rfl).cell 1 _ rfl;have S2:=(HS.out.get 1 rfl).cell 2 _ rfl;have zS:=(HS.out.get 1 rfl).lt;go_wp2_with fail
 refine(HZ2.out _ HS.out.b).mono ?_;rintro e V4 ⟨rfl,hb⟩;clear S0 S1 S2 zS;replace HV2:=ak (below_then HV2.out hb);replace HS:=ak (HS.out.call hb);clear hb;have hLy:=HS.out.lay #[.int .i64 0,.slice none 0 0,.slice none 0 0] 53;clear HS;obtain⟨V5,gQ,HEV5,HGgQ,HS⟩:=hLy;have hbn:Below V4.heap.size V4 V5:=by rw[← HEV5.out];exact al
 replace HV2:=ak (below_then HV2.out hbn);clear hbn;go_upto_region 4 with fail
 rw[HEV5.out]
 try rw[HGgQ.out]
 have S0:=(HS.out.get 2 rfl).cell 0 _ rfl;have S1:=(HS.out.get 2 rfl).cell 1 _ rfl;have S2:=(HS.out.get 2 rfl).cell 2 _ rfl;have zS:=(HS.out.get 2 rfl).lt;go_wp2_with fail
 refine(HZ3.out _ HS.out.b).mono ?_;rintro e V6 ⟨rfl,hb⟩;clear S0 S1 S2 zS;replace HV2:=ak (below_then HV2.out hb);replace HS:=ak (HS.out.call hb);clear hb;have hLy:=HS.out.lay #[.int .i64 0,.slice none 0 0,.slice none 0 0] 53;clear HS;obtain⟨V7,gT,HEV7,HGgT,HS⟩:=hLy;have hbn:Below V6.heap.size V6 V7:=by rw[← HEV7.out];exact al
 replace HV2:=ak (below_then HV2.out hbn);clear hbn;go_upto_region 5 with fail
 rw[HEV7.out]
 try rw[HGgT.out]
 have P0:=(HS.out.get 2 rfl).cell 0 _ rfl;have P1:=(HS.out.get 2 rfl).cell 1 _ rfl;have P2:=(HS.out.get 2 rfl).cell 2 _ rfl;have zP:=(HS.out.get 2 rfl).lt;go_upto_region 7 with fail
 have HY:Hid (∀V,Below V2.heap.size V2 V→Calls Tryz.prog 20 #[.agg #[.int .i64 1995,.slice (some ⟨a1,0,none⟩) 4 c1,.slice (some ⟨a2,0,none⟩) 4 c2],.int .i64 1996] V fun e w'=>e=.returned (.tuple #[.agg (L27.want).arr,.int .u8 0,.int .i64 0])∧Below V.heap.size V w'):=fun V hb=>(Cm.Rd.year (HRd.out.call hb) HGo.out (by omega) (by omega) (by omega) (HLe.out.below (below_then HB.out (below_then HS2.out hb))) 1996).mono fun e w' h=>⟨h.1.trans (by unfold Cm.yrV;rw[L27.recs,L27.why];rfl),h.2⟩
 go_wp2_with fail
 refine(HY.out _ HV2.out).mono ?_;rintro e U7 ⟨rfl,hb⟩;clear P0 P1 P2 zP;replace HV2:=ak (below_then HV2.out hb);replace HS:=ak (HS.out.call hb);clear hb;clear HY;obtain⟨gA,HGgA⟩:∃q,Hid (U7.heap.size=q):=⟨_,rfl⟩
 go_upto_region 8 with (refine wpList_store_all rfl 49 _ _ rfl U7.heap.size rfl (L27.want).arr rfl _ (At.new U7 #[.int .i32 0,.int .i32 0,.int .i32 0,.int .u16 0,.int .u16 0,.int .u16 0,.int .u16 0,.int .u16 0,.int .u16 0,.int .u16 0,.int .u16 0,.int .u16 0,.int .u16 0,.int .u16 0,.int .u16 0,.int .u16 0,.int .u16 0,.int .u16 0,.int .u16 0] 49) (by rfl) (by kernel_rfl) (by first|exact Sm.S.arr_one _|exact Rc.R.arr_one _|simp[Value.oneCell']) ?_;intro V8 hAn hMn)
 rw[HGgA.out];have HBn:=ak (hMn.below (Nat.le_refl _) (al));replace HS:=ak (HS.out.laid #[.int .i32 0,.int .i32 0,.int .i32 0,.int .u16 0,.int .u16 0,.int .u16 0,.int .u16 0,.int .u16 0,.int .u16 0,.int .u16 0,.int .u16 0,.int .u16 0,.int .u16 0,.int .u16 0,.int .u16 0,.int .u16 0,.int .u16 0,.int .u16 0,.int .u16 0] 49 hMn hAn);rw[HGgA.out] at HS;clear hMn hAn;have hbn:Below U7.heap.size U7 V8:=HBn.out;clear HBn;replace HV2:=ak (below_then HV2.out hbn);clear hbn;have P0:=(HS.out.get 3 rfl).cell 0 _ rfl;have P1:=(HS.out.get 3 rfl).cell 1 _ rfl;have P2:=(HS.out.get 3 rfl).cell 2 _ rfl;have zP:=(HS.out.get 3 rfl).lt;have HY:Hid (∀V,Below V2.heap.size V2 V→Calls Tryz.prog 20 #[.agg #[.int .i64 1995,.slice (some ⟨a1,0,none⟩) 4 c1,.slice (some ⟨a2,0,none⟩) 4 c2],.int .i64 1995] V fun e w'=>e=.returned (.tuple #[.agg (L27.want).arr,.int .u8 1,.int .i64 0])∧Below V.heap.size V w'):=fun V hb=>(Cm.Rd.year (HRd.out.call hb) HGo.out (by omega) (by omega) (by omega) (HLe.out.below (below_then HB.out (below_then HS2.out hb))) 1995).mono fun e w' h=>⟨h.1.trans (by unfold Cm.yrV;rw[L27.recs,L27.why];rfl),h.2⟩
 go_wp2_with fail
 refine(HY.out _ HV2.out).mono ?_;rintro e U8 ⟨rfl,hb⟩;clear P0 P1 P2 zP;replace HV2:=ak (below_then HV2.out hb);replace HS:=ak (HS.out.call hb);clear hb;clear HY;obtain⟨gB,HGgB⟩:∃q,Hid (U8.heap.size=q):=⟨_,rfl⟩
 go_upto_region 9 with (refine wpList_store_all rfl 49 _ _ rfl U8.heap.size rfl (L27.want).arr rfl _ (At.new U8 #[.int .i32 0,.int .i32 0,.int .i32 0,.int .u16 0,.int .u16 0,.int .u16 0,.int .u16 0,.int .u16 0,.int .u16 0,.int .u16 0,.int .u16 0,.int .u16 0,.int .u16 0,.int .u16 0,.int .u16 0,.int .u16 0,.int .u16 0,.int .u16 0,.int .u16 0] 49) (by rfl) (by kernel_rfl) (by first|exact Sm.S.arr_one _|exact Rc.R.arr_one _|simp[Value.oneCell']) ?_;intro V9 hAn hMn)
 rw[HGgB.out];have HBn:=ak (hMn.below (Nat.le_refl _) (al));replace HS:=ak (HS.out.laid #[.int .i32 0,.int .i32 0,.int .i32 0,.int .u16 0,.int .u16 0,.int .u16 0,.int .u16 0,.int .u16 0,.int .u16 0,.int .u16 0,.int .u16 0,.int .u16 0,.int .u16 0,.int .u16 0,.int .u16 0,.int .u16 0,.int .u16 0,.int .u16 0,.int .u16 0] 49 hMn hAn);rw[HGgB.out] at HS;clear hMn hAn;have hbn:Below U8.heap.size U8 V9:=HBn.out;clear HBn;replace HV2:=ak (below_then HV2.out hbn);clear hbn;have P0:=(HS.out.get 4 rfl).cell 0 _ rfl;have P1:=(HS.out.get 4 rfl).cell 1 _ rfl;have P2:=(HS.out.get 4 rfl).cell 2 _ rfl;have zP:=(HS.out.get 4 rfl).lt;have HY:Hid (∀V,Below V2.heap.size V2 V→Calls Tryz.prog 20 #[.agg #[.int .i64 1995,.slice (some ⟨a1,0,none⟩) 4 c1,.slice (some ⟨a2,0,none⟩) 4 c2],.int .i64 1999] V fun e w'=>e=.returned (.tuple #[.agg (Rc.R.zero).arr,.int .u8 0,.int .i64 3])∧Below V.heap.size V w'):=fun V hb=>(Cm.Rd.year (HRd.out.call hb) HGo.out (by omega) (by omega) (by omega) (HLe.out.below (below_then HB.out (below_then HS2.out hb))) 1999).mono fun e w' h=>⟨h.1.trans (by unfold Cm.yrV;rw[L27.recs,L27.why];rfl),h.2⟩
 go_wp2_with fail
 refine(HY.out _ HV2.out).mono ?_;rintro e U9 ⟨rfl,hb⟩;clear P0 P1 P2 zP;replace HV2:=ak (below_then HV2.out hb);replace HS:=ak (HS.out.call hb);clear hb;clear HY;obtain⟨gC,HGgC⟩:∃q,Hid (U9.heap.size=q):=⟨_,rfl⟩
 go_upto_region 10 with (refine wpList_store_all rfl 49 _ _ rfl U9.heap.size rfl (Rc.R.zero).arr rfl _ (At.new U9 #[.int .i32 0,.int .i32 0,.int .i32 0,.int .u16 0,.int .u16 0,.int .u16 0,.int .u16 0,.int .u16 0,.int .u16 0,.int .u16 0,.int .u16 0,.int .u16 0,.int .u16 0,.int .u16 0,.int .u16 0,.int .u16 0,.int .u16 0,.int .u16 0,.int .u16 0] 49) (by rfl) (by kernel_rfl) (by first|exact Sm.S.arr_one _|exact Rc.R.arr_one _|simp[Value.oneCell']) ?_;intro V10 hAn hMn)
 rw[HGgC.out];have HBn:=ak (hMn.below (Nat.le_refl _) (al));replace HS:=ak (HS.out.laid #[.int .i32 0,.int .i32 0,.int .i32 0,.int .u16 0,.int .u16 0,.int .u16 0,.int .u16 0,.int .u16 0,.int .u16 0,.int .u16 0,.int .u16 0,.int .u16 0,.int .u16 0,.int .u16 0,.int .u16 0,.int .u16 0,.int .u16 0,.int .u16 0,.int .u16 0] 49 hMn hAn);rw[HGgC.out] at HS;clear hMn hAn;have hbn:Below U9.heap.size U9 V10:=HBn.out;clear HBn;replace HV2:=ak (below_then HV2.out hbn);clear hbn;have P0:=(HS.out.get 5 rfl).cell 0 _ rfl;have P1:=(HS.out.get 5 rfl).cell 1 _ rfl;have P2:=(HS.out.get 5 rfl).cell 2 _ rfl;have zP:=(HS.out.get 5 rfl).lt;clear P0 P1 P2 zP;obtain⟨gW,HGgW⟩:∃q,Hid (V10.heap.size=q):=⟨_,rfl⟩
 go_upto_region 11 with (refine wpList_store_all rfl 49 _ _ rfl V10.heap.size rfl (L27.want.arr) rfl _ (At.new V10 #[.int .i32 0,.int .i32 0,.int .i32 0,.int .u16 0,.int .u16 0,.int .u16 0,.int .u16 0,.int .u16 0,.int .u16 0,.int .u16 0,.int .u16 0,.int .u16 0,.int .u16 0,.int .u16 0,.int .u16 0,.int .u16 0,.int .u16 0,.int .u16 0,.int .u16 0] 49) (by rfl) (by kernel_rfl) (by first|exact Sm.S.arr_one _|exact Rc.R.arr_one _|simp[Value.oneCell']) ?_;intro V11 hAn hMn)
 rw[HGgW.out];have HBn:=ak (hMn.below (Nat.le_refl _) (al));replace HS:=ak (HS.out.laid #[.int .i32 0,.int .i32 0,.int .i32 0,.int .u16 0,.int .u16 0,.int .u16 0,.int .u16 0,.int .u16 0,.int .u16 0,.int .u16 0,.int .u16 0,.int .u16 0,.int .u16 0,.int .u16 0,.int .u16 0,.int .u16 0,.int .u16 0,.int .u16 0,.int .u16 0] 49 hMn hAn);rw[HGgW.out] at HS;clear hMn hAn;have hbn:Below V10.heap.size V10 V11:=HBn.out;clear HBn;replace HV2:=ak (below_then HV2.out hbn);clear hbn;have P1:=cell_regrown ((HS.out.get 6 rfl).cell 1 _ rfl);have P0:=cell_regrown ((HS.out.get 6 rfl).cell 0 _ rfl);have P2:=cell_regrown ((HS.out.get 6 rfl).cell 2 _ rfl);have zP:=(HS.out.get 6 rfl).lt;have had:∀j,(⟨a1,0,none⟩:Addr).add j=⟨a1,j,none⟩:=add_zero_at a1;have HR0:Hid (V11.rangeAt a1 0 L27.want.arr.toList):=by
  have h:=(HRd.out.call HV2.out).row (i:=0) (r:=L27.want) (by rw[L27.recs];rfl);exact h
 have HR3:Hid (V11.rangeAt a1 57 L27.want.arr.toList):=by
  have h:=(HRd.out.call HV2.out).row (i:=3) (r:=L27.want) (by rw[L27.recs];rfl);exact h
 have hEq:∀W,(Op.equalIn 10000 49 (.agg L27.want.arr) (.agg L27.want.arr)).run Tryz.prog W=.ok true W:=fun W=>by rw[rec_same,decide_eq_true rfl]
 have cK:∀dd os,Calls Tryz.prog 26 #[.agg #[.int .i64 1995,.slice (some ⟨a1,0,none⟩) 4 c1,.slice (some ⟨a2,0,none⟩) 4 c2]] (grow (redrawn V11 dd) os) fun e w''=>e=.returned (.int .i64 0)∧∃p:Regrown,w''=grow (redrawn V11 p.d) p.os:=fun dd os=>Calls.regrown_of (by
  have hbq:=below_then HV2.out (below_regrown V11 dd os);exact Cm.Rd.check (HRd.out.call hbq) HGo.out (by omega) (by omega) (by omega) (HLe.out.below (below_then HB.out (below_then HS2.out hbq))))
 have cN:∀dd os,Calls Tryz.prog 26 #[.agg #[.int .i64 0,.slice none 0 0,.slice none 0 0]] (grow (redrawn V11 dd) os) fun e w''=>e=.returned (.int .i64 2)∧∃p:Regrown,w''=grow (redrawn V11 p.d) p.os:=fun dd os=>Calls.regrown_of (cmCheck_none _)
 go_upto_region 11 with fail
 refine wp_region_tail 61 (by kernel_rfl) (by kernel_rfl) ?_
 repeat (first|(refine quiet_load_gar rfl 49 _ rfl (gA) 0 rfl L27.want.arr (HS.out.get 3 rfl).range _ Tryz.underlying49 rfl (by kernel_rfl) ?_)|(refine quiet_load_gar rfl 49 _ rfl (gW) 0 rfl L27.want.arr (HS.out.get 0 rfl).range _ Tryz.underlying49 rfl (by kernel_rfl) ?_)|(refine quiet_load_gar rfl 49 _ rfl (a1) 0 rfl L27.want.arr HR0.out _ Tryz.underlying49 rfl (by kernel_rfl) ?_)|(refine quiet_load_gar rfl 49 _ rfl (a1) 57 rfl L27.want.arr HR3.out _ Tryz.underlying49 rfl (by kernel_rfl) ?_)|quiet_step (first|with_reducible exact cK _ _|with_reducible exact cN _ _))
 refine wpQuiet_nil ?_;intro V9 hwz;obtain⟨⟨dq,osq⟩,hwz⟩:=hwz;have hb:Below V11.heap.size V11 V9:=by rw[hwz];exact below_regrown _ _ _
 have hbz:=below_then HB.out (below_then HS.out.b hb);clear hwz cK cN;show wpList _ _ _ (_ :: _) _ _
 go_wp2;go_ret
 exact⟨rfl,hbz⟩
open Go.RowKit
theorem i64_range {z:Int}(h:(Lit.int .i64 z).wf=true):-9223372036854775808≤z∧z≤9223372036854775807:=by
 simpa [Lit.wf,IntKind.min,IntKind.max,IntKind.signed,IntKind.bits] using h
end Go.Proofs.YtjobhjemnmleaaaGreatDoor
