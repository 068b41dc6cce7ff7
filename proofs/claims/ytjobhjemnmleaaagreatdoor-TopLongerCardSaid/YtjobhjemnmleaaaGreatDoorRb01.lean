/- TopLonger: the walk. -/
import Derived.Test.YtjobhjemnmleaaaGreatDoorR44
import Derived.Test.YtjobhjemnmleaaaGreatDoorCards
import Derived.Test.YtjobhjemnmleaaaGreatDoorTie
import Derived.ShutString
import Derived.ChangeOld
import Derived.LaidMore
import Derived.Stop.LaidErr
import Derived.Deep.DeepHandedRow
set_option maxRecDepth 200000
set_option maxHeartbeats 40000000
namespace Go.Proofs.YtjobhjemnmleaaaGreatDoor
open Go.RowKit Go.Sort
namespace Cm
theorem longer_err {sb wl zn:Bool}{le lo hi L:Int}(h1:lo≤hi)(h2:hi≤L)(_:1500≤lo)(h3:L≤2098)(h4:L - lo≤30):err sb wl zn le lo hi=err sb wl zn le lo L:=by
 unfold err
 repeat' split
 all_goals first|rfl|omega
theorem found_step (f:Int→List Ln.Sp)(lo:Int)(k:Nat):(run f lo (k+1)).found=((run f lo k).found || (no f (lo+(k:Int)) == 0)):=by
 show (step f (lo+(k:Int)) (run f lo k)).found=_
 unfold step
 by_cases hn:no f (lo+(k:Int))=0
 ·rw[if_neg (fun q=>q hn),(beq_iff_eq).2 hn,Bool.or_true];split <;> rfl
 ·rw[if_pos hn,(beq_eq_false_iff_ne).2 hn,Bool.or_false]
theorem found_up {f:Int→List Ln.Sp}{lo:Int}{k n:Nat}(h:(run f lo k).found=true)(hk:k≤n):(run f lo n).found=true:=by
 obtain⟨i,h1,h2⟩:=found_iff.1 h;exact found_iff.2 ⟨i,by omega,h2⟩
end Cm
theorem topLonger_any (s:Src.S)(nm:ByteArray)(lo hi more:Int)(rv zv lv:Value)(evs:List Value)(w:World)(hR:Src.SrcR w w.heap.size s rv zv lv evs)(hw:Src.Wide s)(hW:Wo w)(hA:Wa w)(hnm:nm.size≤maxLen)
  (hlo:-9223372036854775808≤lo∧lo<9223372036854775808) (hhi:-9223372036854775808≤hi∧hi<9223372036854775808) (hmo:0≤more∧more<256):
  Calls Tryz.prog 7 #[.agg #[rv,zv,lv],.string nm,.int .i64 lo,.int .i64 hi,.int .u8 more] w fun e w'=>e=.returned (.bool true)∧Below w.heap.size w w':=by
 have HU:=ak (Cp.use s rv zv lv evs w hR hw hW hA);have HLv:=ak fun V (hb:Below w.heap.size w V)=>begins14_any V (hW.below hb) (hA.below hb)
 obtain⟨D,hD⟩:=aj (more % 8)
 have hD2:0≤D∧D≤7:=by omega
 have hD3:more.tmod 8=D:=by rw[Int.tmod_eq_emod_of_nonneg hmo.1];exact hD
 have hD4:IntKind.u8.wrap D=D:=by rw[IntKind.wrap_u8];omega
 have hD5:IntKind.i64.wrap D=D:=by rw[IntKind.wrap_i64];omega
 have HNe:=ak fun V (hb:Below w.heap.size w V)=>HU.out.near lo hi hlo hhi V hb
 have HZ:=ak fun(hf:Src.Few s) V (hb:Below w.heap.size w V)=>HU.out.zone hf nm hnm lo hi hlo hhi V hb
 have HNm:=ak hnm;have HLB:=ak (And.intro hlo hhi);clear hR hw hW hA hnm hlo hhi hD hmo;obtain⟨V1,gS,HEV1,HGgS,HS⟩:=(St.start w).lay #[rv,zv,lv] 26;go_enter Tryz.func7,Tryz.ntmps7
 go_upto_region 1 with fail
 rw[HEV1.out]
 try rw[HGgS.out]
 go_wp2_with fail
 refine(HLv.out _ HS.out.b).mono ?_;rintro e V2 ⟨rfl,hb⟩;replace HS:=ak (HS.out.call hb);clear hb;have S0:=(HS.out.get 0 rfl).cell 0 _ rfl;have S1:=(HS.out.get 0 rfl).cell 1 _ rfl;have S2:=(HS.out.get 0 rfl).cell 2 _ rfl;have zS:=(HS.out.get 0 rfl).lt;go_wp2_with fail
 refine(HNe.out _ HS.out.b).mono ?_;rintro e V3 ⟨he,hb⟩;clear S0 S1 S2 zS;replace HS:=ak (HS.out.call hb);clear hb;rcases he with rfl|⟨rfl,hfew,hb1,hb2,hb3⟩
 ·go_wp2;go_ret
  exact⟨rfl,HS.out.b⟩
 obtain⟨L,hL⟩:=aj (hi+D)
 have hlb:=HLB.out;have hl1:IntKind.i64.wrap (hi+D)=L:=by rw[IntKind.wrap_i64];omega
 have HNe2:=ak fun V (hb:Below w.heap.size w V)=>HU.out.near lo L hlb.1 (by omega) V hb
 have HZ2:=ak fun V (hb:Below w.heap.size w V)=>HU.out.zone hfew nm HNm.out lo L hlb.1 (by omega) V hb
 have HL:=ak hL;have HBs:=ak (And.intro hb1 (And.intro hb2 hb3));clear hlb hb1 hb2 hb3 hL;have S0:=(HS.out.get 0 rfl).cell 0 _ rfl;have S1:=(HS.out.get 0 rfl).cell 1 _ rfl;have S2:=(HS.out.get 0 rfl).cell 2 _ rfl;have zS:=(HS.out.get 0 rfl).lt;go_wp2_with fail
 refine(HNe2.out _ HS.out.b).mono ?_;rintro e V4 ⟨he,hb⟩;clear S0 S1 S2 zS;replace HS:=ak (HS.out.call hb);clear hb;rcases he with rfl|⟨rfl,_,hc1,hc2,hc3⟩
 ·go_wp2;go_ret
  exact⟨rfl,HS.out.b⟩
 have HCs:=ak (And.intro hc1 (And.intro hc2 hc3));clear hc1 hc2 hc3
 by_cases h1000:(1000:Int)<(nm.size:Int)
 ·have d1:=decide_eq_true h1000;go_wp2;go_ret
  exact⟨rfl,HS.out.b⟩
 have d1:=decide_eq_false h1000
 by_cases hlh:hi<lo
 ·have d2:=decide_eq_true hlh;go_wp2;go_ret
  exact⟨rfl,HS.out.b⟩
 have d2:=decide_eq_false hlh;have hcs:=HCs.out;have HEr:=ak fun(sb wl zn:Bool) (le:Int)=>Cm.longer_err (sb:=sb) (wl:=wl) (zn:=zn) (le:=le) (L:=L) (show lo≤hi by omega) (by have:=HL.out;omega) (show 1500≤lo from hcs.2.1) hcs.1 (hcs.2.2 (by have:=HL.out;omega))
 clear hcs;have S0:=(HS.out.get 0 rfl).cell 0 _ rfl;have S1:=(HS.out.get 0 rfl).cell 1 _ rfl;have S2:=(HS.out.get 0 rfl).cell 2 _ rfl;have zS:=(HS.out.get 0 rfl).lt;go_wp2_with fail
 refine(HZ.out hfew _ HS.out.b).mono ?_;intro e V5 hz;obtain⟨hb,hz⟩:=hz.cases;clear S0 S1 S2 zS;replace HS:=ak (HS.out.call hb);clear hb;rcases hz with ⟨er,hbad,rfl⟩|⟨x,n,g1,g2,c1,c2,hzn,rfl,hrd⟩
 ·have hLy:=HS.out.lay #[.int .i64 0,.slice none 0 0,.slice none 0 0] 53;clear HS;obtain⟨V6,gP,HEV6,HGgP,HS⟩:=hLy;go_upto_region 7 with fail
  rw[HEV6.out]
  try rw[HGgP.out]
  have S0:=(HS.out.get 1 rfl).cell 0 _ rfl;have S1:=(HS.out.get 1 rfl).cell 1 _ rfl;have S2:=(HS.out.get 1 rfl).cell 2 _ rfl;have zS:=(HS.out.get 1 rfl).lt;go_wp2_with fail
  refine(HZ2.out _ HS.out.b).mono ?_;intro e V7 hz2;obtain⟨hb,hz2⟩:=hz2.cases;clear S0 S1 S2 zS;replace HS:=ak (HS.out.call hb);clear hb;rcases hz2 with ⟨er2,hbad2,rfl⟩|⟨x2,m,h1,h2,f1,f2,hzm,rfl,hrm⟩
  ·have he:=HEr.out (Src.srcB s) (Vd.well s) (Eg.zoneAt s (Lk.walk s nm).2.1).isSome (Lk.walk s nm).2.2;rw[hbad.2,hbad2.2] at he;subst he;have z1:(er == 0)=false:=by rw[beq_eq_false_iff_ne];exact hbad.1
   have z2:(er != 0)=true:=by rw[bne_iff_ne];exact hbad.1
   have z3:(er != er)=false:=by rw[bne_eq_false_iff_eq]
   clear hbad hbad2;have hLy:=HS.out.lay #[.int .i64 0,.slice none 0 0,.slice none 0 0] 53;clear HS;obtain⟨V8,gQ,HEV8,HGgQ,HS⟩:=hLy;go_upto_region 8 with fail
   rw[HEV8.out]
   try rw[HGgQ.out]
   go_wp2;go_ret
   exact⟨rfl,HS.out.b⟩
  ·have he:=HEr.out (Src.srcB s) (Vd.well s) (Eg.zoneAt s (Lk.walk s nm).2.1).isSome (Lk.walk s nm).2.2;rw[hbad.2,hzm.err] at he;exact absurd he hbad.1
 have HZn:=ak hzn;have HRd:=ak hrd;have HV5:=ak (Below.refl V5.heap.size V5);have HS5:=ak HS.out.b;clear hrd;have hLy:=HS.out.lay #[.int .i64 lo,.slice (some ⟨g1,0,none⟩) n c1,.slice (some ⟨g2,0,none⟩) n c2] 53;clear HS;obtain⟨V6,gP,HEV6,HGgP,HS⟩:=hLy;have hbn:Below V5.heap.size V5 V6:=by rw[← HEV6.out];exact al
 replace HV5:=ak (below_then HV5.out hbn);clear hbn;go_upto_region 7 with fail
 rw[HEV6.out]
 try rw[HGgP.out]
 have S0:=(HS.out.get 1 rfl).cell 0 _ rfl;have S1:=(HS.out.get 1 rfl).cell 1 _ rfl;have S2:=(HS.out.get 1 rfl).cell 2 _ rfl;have zS:=(HS.out.get 1 rfl).lt;go_wp2_with fail
 refine(HZ2.out _ HS.out.b).mono ?_;intro e V7 hz2;obtain⟨hb,hz2⟩:=hz2.cases;clear S0 S1 S2 zS;replace HV5:=ak (below_then HV5.out hb);replace HS:=ak (HS.out.call hb);clear hb;rcases hz2 with ⟨er2,hbad2,rfl⟩|⟨x2,m,h1,h2,f1,f2,hzm,rfl,hrm⟩
 ·have he:=HEr.out (Src.srcB s) (Vd.well s) (Eg.zoneAt s (Lk.walk s nm).2.1).isSome (Lk.walk s nm).2.2;rw[hzn.err,hbad2.2] at he;exact absurd he.symm hbad2.1
 obtain rfl:x2=x:=by
  have q1:=hzn.zn;rw[hzm.zn] at q1;exact Option.some.inj q1
 have HZm:=ak hzm;have HRm:=ak hrm;have HV7:=ak (Below.refl V7.heap.size V7);have HS7:=ak HS.out.b;have hru:=HU.out.rules hfew hzn.wl;have HPo:=ak hzn.pos;have HPm:=ak hzm.pos;have HLo:=ak hzn.lo;obtain⟨f,hf0⟩:=aj (Cm.yr s x2.2)
 have hgo:=hzn.good hru;have hgm:=hzm.good hru;rw[hf0] at HRd HRm hgo hgm;have hnm:(n:Int)+D=(m:Int):=by have:=HPo.out;have:=HPm.out;have:=HL.out;omega
 have HNM:=ak hnm;have hnl:n≤m:=by omega
 have hn4:(n:Int)≤400:=by have:=HPo.out;omega
 have hm4:(m:Int)≤400:=by have:=HPm.out;omega
 have e1:((m:Int) != (m:Int))=false:=by rw[bne_eq_false_iff_eq]
 have e2:((n:Int) != (n:Int))=false:=by rw[bne_eq_false_iff_eq]
 have e3:(m != m)=false:=by rw[bne_eq_false_iff_eq]
 have e4:(n != n)=false:=by rw[bne_eq_false_iff_eq]
 have e5:IntKind.i64.wrap ((n:Int)+D)=(m:Int):=by rw[IntKind.wrap_i64];omega
 have hmore:(Cm.run f lo n).found=true→∃t,(Cm.run f lo m).recs=(Cm.run f lo n).recs ++ t:=fun q=>by
  obtain⟨t,h1,_⟩:=Cm.run_more q (m - n);rw[show n+(m - n)=m by omega] at h1;exact⟨t,h1⟩
 have HMo:=ak hmore;have HGo:=ak hgo;have HGm:=ak hgm;have HNl:=ak hnl;clear hzn hzm hrm hru hf0 hgo hgm hmore hnl HZ HZ2 HNe HNe2 HLv HEr HLB;have hLy:=HS.out.lay #[.int .i64 lo,.slice (some ⟨h1,0,none⟩) m f1,.slice (some ⟨h2,0,none⟩) m f2] 53;clear HS;obtain⟨V8,gQ,HEV8,HGgQ,HS⟩:=hLy;have hbn:Below V7.heap.size V7 V8:=by rw[← HEV8.out];exact al
 replace HV5:=ak (below_then HV5.out hbn);replace HV7:=ak (below_then HV7.out hbn);clear hbn;go_upto_region 8 with fail
 rw[HEV8.out]
 try rw[HGgQ.out]
 have P0:=(HS.out.get 1 rfl).cell 0 _ rfl;have P1:=(HS.out.get 1 rfl).cell 1 _ rfl;have P2:=(HS.out.get 1 rfl).cell 2 _ rfl;have zP:=(HS.out.get 1 rfl).lt;have Q0:=(HS.out.get 0 rfl).cell 0 _ rfl;have Q1:=(HS.out.get 0 rfl).cell 1 _ rfl;have Q2:=(HS.out.get 0 rfl).cell 2 _ rfl;have zQ:=(HS.out.get 0 rfl).lt;go_wp2_with fail
 clear P0 P1 P2 zP Q0 Q1 Q2 zQ;have had1:∀j,(⟨g1,0,none⟩:Addr).add j=⟨g1,j,none⟩:=add_zero_at g1;have had2:∀j,(⟨g2,0,none⟩:Addr).add j=⟨g2,j,none⟩:=add_zero_at g2;have had3:∀j,(⟨h1,0,none⟩:Addr).add j=⟨h1,j,none⟩:=add_zero_at h1;have had4:∀j,(⟨h2,0,none⟩:Addr).add j=⟨h2,j,none⟩:=add_zero_at h2;clear hnm e1 e2 e3 e4 e5 hD3 hD4 hD5 hl1 hD2;go_loopw [16,105] (fun v i wr=>∃k:Nat,k≤n∧i=.int .i64 (k:Int)∧v=.bool (Cm.run f lo k).found∧Hid (St w wr [(gQ,[.int .i64 lo,.slice (some ⟨h1,0,none⟩) m f1,.slice (some ⟨h2,0,none⟩) m f2]),(gP,[.int .i64 lo,.slice (some ⟨g1,0,none⟩) n c1,.slice (some ⟨g2,0,none⟩) n c2]),(gS,[rv,zv,lv])])∧Hid (Below V5.heap.size V5 wr)∧Hid (Below V7.heap.size V7 wr)) (fun _ i _=>n - (intOf i).toNat)
 case atStart=>exact⟨0,Nat.zero_le _,rfl,rfl,HS.out,HV5.out,HV7.out⟩
 case round=>
  clear HS HV5 HV7;obtain⟨k,hk,rfl,rfl,HS,HV5,HV7⟩:=hrel
  by_cases hlt:k<n
  ·have q1:=am k
   have q2:(k:Int)<(n:Int):=(by omega);have q3:(k:Int)<(m:Int):=by have:=HNl.out;omega
   have wk:IntKind.i64.wrap ((k:Int)+1)=(k:Int)+1:=by rw[IntKind.wrap_i64];omega
   have hw1:=HGo.out.why k hlt;have hw2:=HGm.out.why k (by have:=HNl.out;omega);have hfs:=Cm.found_step f lo k;obtain⟨r,hr⟩:∃r,(Cm.run f lo n).recs[k]?=some r:=⟨_,List.getElem?_eq_getElem (by rw[HGo.out.lr];exact hlt)⟩
   obtain⟨no,hno⟩:=aj (Cm.no f (lo+(k:Int)))
   rw[hno] at hw1 hw2 hfs;have X1:=cell_regrown ((HRd.out.call HV5.out).why_at hw1);have X2:=cell_regrown ((HRm.out.call HV7.out).why_at hw2);have Y1:=(HRd.out.call HV5.out).why_at hw1;have Y2:=(HRm.out.call HV7.out).why_at hw2;have z1:g2<wr.heap.size:=(HRd.out.call HV5.out).lt2;have z2:h2<wr.heap.size:=(HRm.out.call HV7.out).lt2;have HR1:=ak ((HRd.out.call HV5.out).row hr);have hfu:(Cm.run f lo (k+1)).found=true→(Cm.run f lo m).recs[k]?=some r:=fun q=>by
    obtain⟨t,ht⟩:=HMo.out (Cm.found_up q (show k+1≤n by omega));rw[ht,List.getElem?_append_left (by rw[HGo.out.lr];exact hlt)];exact hr
   have hR2:(Cm.run f lo (k+1)).found=true→wr.rangeAt h1 (k*19) r.arr.toList:=fun q=>(HRm.out.call HV7.out).row (hfu q)
   have HRq:=ak hR2;have hEq:∀W,(Op.equalIn 10000 49 (.agg r.arr) (.agg r.arr)).run Tryz.prog W=.ok true W:=fun W=>by rw[rec_same,decide_eq_true rfl]
   have xx:(no != no)=false:=by rw[bne_eq_false_iff_eq]
   obtain⟨a0,ha0⟩:=aj ((Cm.run f lo k).found)
   obtain⟨a1,ha1⟩:=aj ((Cm.run f lo (k+1)).found)
   rw[ha0,ha1] at hfs;rw[ha1] at HRq;rw[ha0];have HA1:=ak ha1;obtain⟨b0,hb0⟩:=aj ((no == 0))
   rw[hb0] at hfs;clear hw1 hw2 hr hno hfu hR2 ha0 ha1;have P1:=cell_regrown ((HS.out.get 1 rfl).cell 1 _ rfl);have Q1:=cell_regrown ((HS.out.get 0 rfl).cell 1 _ rfl);have Q2:=cell_regrown ((HS.out.get 0 rfl).cell 2 _ rfl);have zP:=(HS.out.get 1 rfl).lt;have zQ:=(HS.out.get 0 rfl).lt;have hab:(a0=false∧b0=false∧a1=false)∨(a0=false∧b0=true∧a1=true)∨(a0=true∧a1=true):=by
    cases a0 <;> cases b0 <;> simp at hfs <;> simp[hfs]
   clear hfs;rcases hab with ⟨rfl,rfl,rfl⟩|⟨rfl,rfl,rfl⟩|⟨rfl,rfl⟩
   ·clear X1 X2 P1 Q1 Q2 HR1 HRq hEq;have q4:=(HS.out.get 1 rfl).cell 1 _ rfl;have q5:=(HS.out.get 0 rfl).cell 1 _ rfl;have q6:=(HS.out.get 0 rfl).cell 2 _ rfl;go_upto_region 19 with fail
    go_quiet (fail)
    go_wp2;go_roundw
    case rel=>exact⟨k+1,by omega,by go_num,by rw[HA1.out],by first|exact HS.out.drewN _|exact HS.out,by first|exact below_then HV5.out (below_drewN (Below.refl _ _) _)|exact HV5.out,by first|exact below_then HV7.out (below_drewN (Below.refl _ _) _)|exact HV7.out⟩
    case measure=>simp[intOf];omega
   ·have HR2:=ak (HRq.out rfl);go_upto_region 19 with fail
    clear Y1 Y2;refine wp_region_tail 22 (by kernel_rfl) (by kernel_rfl) ?_
    repeat (first|(refine quiet_load_gar rfl 49 _ rfl g1 (k*19) rfl r.arr HR1.out _ Tryz.underlying49 rfl (by kernel_rfl) ?_)|(refine quiet_load_gar rfl 49 _ rfl h1 (k*19) rfl r.arr HR2.out _ Tryz.underlying49 rfl (by kernel_rfl) ?_)|quiet_step (fail))
    refine wpQuiet_nil ?_;intro V9 hwz;obtain⟨⟨dq,osq⟩,hwz⟩:=hwz;have hb:Below wr.heap.size wr V9:=by rw[hwz];exact below_regrown _ _ _
    have HS9:=ak (HS.out.call hb);have HV59:=ak (below_then HV5.out hb);have HV79:=ak (below_then HV7.out hb);clear HR2 hwz P1 Q1 Q2 zP zQ hb HS HR1 HRq X1 X2 z1 z2 HV5 HV7;show wpList _ _ _ (_ :: _) _ _
    go_wp2;go_roundw
    case rel=>exact⟨k+1,by omega,by go_num,by rw[HA1.out],HS9.out,HV59.out,HV79.out⟩
    case measure=>simp[intOf];omega
   ·have HR2:=ak (HRq.out rfl);go_upto_region 19 with fail
    clear Y1 Y2;refine wp_region_tail 22 (by kernel_rfl) (by kernel_rfl) ?_
    repeat (first|(refine quiet_load_gar rfl 49 _ rfl g1 (k*19) rfl r.arr HR1.out _ Tryz.underlying49 rfl (by kernel_rfl) ?_)|(refine quiet_load_gar rfl 49 _ rfl h1 (k*19) rfl r.arr HR2.out _ Tryz.underlying49 rfl (by kernel_rfl) ?_)|quiet_step (fail))
    refine wpQuiet_nil ?_;intro V9 hwz;obtain⟨⟨dq,osq⟩,hwz⟩:=hwz;have hb:Below wr.heap.size wr V9:=by rw[hwz];exact below_regrown _ _ _
    have HS9:=ak (HS.out.call hb);have HV59:=ak (below_then HV5.out hb);have HV79:=ak (below_then HV7.out hb);clear HR2 hwz P1 Q1 Q2 zP zQ hb HS HR1 HRq X1 X2 z1 z2 HV5 HV7;show wpList _ _ _ (_ :: _) _ _
    go_wp2;go_roundw
    case rel=>exact⟨k+1,by omega,by go_num,by rw[HA1.out],HS9.out,HV59.out,HV79.out⟩
    case measure=>simp[intOf];omega
  ·have hkn:k=n:=(by omega);subst hkn;have q2:¬(k:Int)<(k:Int):=(by omega);clear hlt hk;have HT1:=ak fun V (hb:Below V5.heap.size V5 V)=>sqTable_ok lo _ _ k g1 g2 c1 c2 V (HRd.out.call hb) HGo.out ⟨HPo.out.1,HPo.out.2.1⟩ HLo.out HPo.out.2.2.2 (HU.out.lens V (below_then HS5.out hb))
   have HT2:=ak fun V (hb:Below V7.heap.size V7 V)=>sqTable_ok lo _ _ m h1 h2 f1 f2 V (HRm.out.call hb) HGm.out ⟨HPm.out.1,HPm.out.2.1⟩ HLo.out HPm.out.2.2.2 (HU.out.lens V (below_then HS7.out hb))
   have P0:=(HS.out.get 1 rfl).cell 0 _ rfl;have P1:=(HS.out.get 1 rfl).cell 1 _ rfl;have P2:=(HS.out.get 1 rfl).cell 2 _ rfl;have zP:=(HS.out.get 1 rfl).lt;go_upto_region 22 with fail
   go_wp2_with fail
   refine(HT1.out _ HV5.out).mono ?_;rintro e X1 ⟨⟨a,b,tv,hcut,rfl,ho⟩,hb⟩;clear P0 P1 P2 zP;replace HV5:=ak (below_then HV5.out hb);replace HV7:=ak (below_then HV7.out hb);replace HS:=ak (HS.out.call hb);clear hb;obtain⟨tA,tc,rfl,_,_⟩:=own_slice_cap ho;have HC1:=ak hcut;clear hcut ho HT1;have hLy:=HS.out.lay #[.int .i64 (lo+(a:Int)),.int .i64 (lo+(b:Int)),.slice tA (b - a+1) tc] 73;clear HS;obtain⟨X2,gT,HEX2,HGgT,HS⟩:=hLy;have hbn:Below X1.heap.size X1 X2:=by rw[← HEX2.out];exact al
   replace HV5:=ak (below_then HV5.out hbn);replace HV7:=ak (below_then HV7.out hbn);clear hbn;go_upto_region 23 with fail
   rw[HEX2.out]
   try rw[HGgT.out]
   have Q0:=(HS.out.get 1 rfl).cell 0 _ rfl;have Q1:=(HS.out.get 1 rfl).cell 1 _ rfl;have Q2:=(HS.out.get 1 rfl).cell 2 _ rfl;have zQ:=(HS.out.get 1 rfl).lt;go_wp2_with fail
   refine(HT2.out _ HV7.out).mono ?_;rintro e X3 ⟨⟨c,d,uv,hcut,rfl,ho⟩,hb⟩;clear Q0 Q1 Q2 zQ;replace HV5:=ak (below_then HV5.out hb);replace HV7:=ak (below_then HV7.out hb);replace HS:=ak (HS.out.call hb);clear hb;obtain⟨uA,uc,rfl,_,_⟩:=own_slice_cap ho;have hlong:(Cm.run f lo k).found=true→b - a+1≤d - c+1:=fun q=>by
    obtain⟨t,ht⟩:=HMo.out q;have h2:=hcut;rw[ht] at h2;have:=HC1.out.longer h2;omega
   have HLg:=ak hlong;obtain⟨l1,hl1⟩:=aj (b - a+1)
   obtain⟨l2,hl2⟩:=aj (d - c+1)
   rw[hl1,hl2] at HLg;have HQl:=ak hl1;rw[hl2];clear hcut ho HT2 hlong hl1 hl2;have hLy:=HS.out.lay #[.int .i64 (lo+(c:Int)),.int .i64 (lo+(d:Int)),.slice uA l2 uc] 73;clear HS;obtain⟨X4,gU,HEX4,HGgU,HS⟩:=hLy;go_upto_region 24 with fail
   rw[HEX4.out]
   try rw[HGgU.out]
   rw[HQl.out] at HS;have T0:=(HS.out.get 1 rfl).cell 0 _ rfl;have T1:=(HS.out.get 1 rfl).cell 1 _ rfl;have T2:=(HS.out.get 1 rfl).cell 2 _ rfl;have zT:=(HS.out.get 1 rfl).lt;have U0:=(HS.out.get 0 rfl).cell 0 _ rfl;have U1:=(HS.out.get 0 rfl).cell 1 _ rfl;have U2:=(HS.out.get 0 rfl).cell 2 _ rfl;have zU:=(HS.out.get 0 rfl).lt;obtain⟨fd,hfd⟩:=aj ((Cm.run f lo k).found)
   rw[hfd] at HLg;rw[hfd];clear hfd;cases fd with
   |false=>
    go_wp2;go_ret
    exact⟨rfl,HS.out.b⟩
   |true=>
    have hl:=HLg.out rfl;have q5:(l1:Int)≤(l2:Int):=(by omega);have q6:=decide_eq_true q5;have q7:decide (l1≤l2)=true:=decide_eq_true hl;clear hl;go_wp2;go_ret
    exact⟨rfl,HS.out.b⟩
end Go.Proofs.YtjobhjemnmleaaaGreatDoor
namespace Go.Proofs.YtjobhjemnmleaaaGreatDoor
open Go.RowKit
theorem u8_rangeTopLonger {c:Int}(h:(Lit.int .u8 c).wf=true):0≤c∧c≤255:=by
 simpa [Lit.wf,IntKind.min,IntKind.max,IntKind.signed,IntKind.bits] using h
theorem topLonger_row (s:Src.S)(rv zv lv:Value)(evs:List Value)(nm:ByteArray)(lo:Int)(hi:Int)(more:Int)(w:World)(hT:Wo w∧Wa w)(hR:Src.SrcR w w.heap.size s rv zv lv evs)(hw:Src.Wide s)(hnm:nm.size≤maxLen)(hlo:(Lit.int .i64 lo).wf=true)(hhi:(Lit.int .i64 hi).wf=true)(hmore:(Lit.int .u8 more).wf=true):
  Calls Tryz.prog 7 #[.agg #[rv,zv,lv],.string nm,.int .i64 lo,.int .i64 hi,.int .u8 more] w fun e w'=>e=.returned (.bool true)∧Below w.heap.size w w':=
 topLonger_any s nm lo hi more rv zv lv evs w hR hw hT.1 hT.2 hnm (by have:=i64_range hlo;omega) (by have:=i64_range hhi;omega) (by have:=u8_rangeTopLonger hmore;omega)
end Go.Proofs.YtjobhjemnmleaaaGreatDoor
namespace Go.Proofs.YtjobhjemnmleaaaGreatDoor.topLonger
open Go.ChangeShapes Go.WideShapes Go.ChangeAt Go.RowKit Go.Joins
open Go.ChangeMaps (open_string shut_string)
theorem own : ownKnob Tryz.prog.godebug=none:=by kernel_rfl
theorem laidOut : laidOutB Tryz.prog=true:=by kernel_rfl
theorem g_places : Tryz.prog.globalNamed "solstice/abbr.places" = some 1:=by kernel_rfl
theorem t_places : (Tryz.prog.globals[1]?).map (·.type)=some 336:=by kernel_rfl
theorem g_lens : Tryz.prog.globalNamed "solstice/civil.lengths" = some 0:=by kernel_rfl
theorem t_lens : (Tryz.prog.globals[0]?).map (·.type)=some 323:=by kernel_rfl
theorem wo_of {W:World}(h:laidMetH Tryz.prog Rows.topLongerRow.laid W)(hS:W.ShapedOpen Tryz.prog):Wo W∧Wa W:=by
 have h0:laidMet Tryz.prog Rows.topLongerRow.laid W:=h;have h1:=h0.tail;have x_lens:Lib.TabIs Tryz.prog W "solstice/civil.lengths" .i64 Cv.lens:=Lib.tabIs_of_head g_lens t_lens Tryz.underlying323 Tryz.underlying3 (by kernel_rfl) (by kernel_rfl) h0;have x_places:=strs_of_head (ls:=[[37,115],[37,122]]) (rest:=[]) g_places t_places Tryz.underlying336 Tryz.underlying9 (by kernel_rfl) (by kernel_rfl) h1;exact⟨⟨fun k hk=>x_lens.cell g_lens k hk,Tryz.laysM145.s1_3 W hS⟩,⟨x_places 0 _ rfl,x_places 1 _ rfl,Tryz.laysM145.s1_3 W hS⟩⟩
noncomputable def laidWorld (os:Os):World:=World.doorLaid Tryz.prog 4000 os
theorem laid_met (os:Os):laidMet Tryz.prog Rows.topLongerRow.laid ((laidWorld os).forCall (fun _ _=>0) ⟨#[],#[.agg #[.slice none 0 0,.slice none 0 0,.slice none 0 0],.string ⟨#[]⟩,.int .i64 0,.int .i64 0,.int .u8 0],[]⟩).memory:=
 laidMet_of_run' 8 (by kernel_rfl) (by kernel_rfl)
theorem reads (os:Os){H:Type}(enc:TypeId × Value→H):∃places,DataW.whole enc Tryz.prog ((laidWorld os).forCall (fun _ _=>0) ⟨#[],#[.agg #[.slice none 0 0,.slice none 0 0,.slice none 0 0],.string ⟨#[]⟩,.int .i64 0,.int .i64 0,.int .u8 0],[]⟩).memory Tryz.f7.params.toList Rows.topLongerSpec.vars false #[Value.agg #[.slice none 0 0,.slice none 0 0,.slice none 0 0],.string ⟨#[]⟩,.int .i64 0,.int .i64 0,.int .u8 0].toList 8=some ([.agg [.nil,.nil,.nil],.lit (.string []),.lit (.int .i64 0),.lit (.int .i64 0),.lit (.int .u8 0)],[],places):=
 ⟨[],by kernel_rfl⟩
theorem contract (H:Type)(enc:TypeId × Value→H)(W:World)(base:Nat)(args:Array Value)(ds gs:List (DataW H))(before:List MemPlace)
  (hval:∀(j:Nat) t v,Tryz.f7.params[j]?=some t→args[j]?=some v→Value.okWide Tryz.prog W .any base t v)
  (hW:DataW.Whole enc Tryz.prog Tryz.f7.params.toList Rows.topLongerSpec.vars false W args.toList ds gs before) (hL:laidMetH Tryz.prog Rows.topLongerRow.laid W) (hS:W.ShapedOpen Tryz.prog):
  Calls Tryz.prog 7 args W fun e W'=>∃v,e=.returned v∧Rows.topLongerSpec.post enc Tryz.prog Tryz.f7 false true false false W args v W':=by
 have hW':=hW;obtain⟨p,q,hA0,hV,rfl,hfz,hnd⟩:=hW;have hA:DataW.TrodAll enc Tryz.prog W 0 (fun _=>true) true Tryz.f7.params.toList args.toList ds p:=hA0;rw[Tryz.params7] at hA hval;obtain⟨v0,vs0,d0,ds0,p0,q0,hargs,rfl,rfl,h0,r0⟩:=trodAll_cons hA;obtain⟨v1,vs1,d1,ds1,p1,q1,rfl,rfl,rfl,h1,r1⟩:=trodAll_cons r0;obtain⟨v2,vs2,d2,ds2,p2,q2,rfl,rfl,rfl,h2,r2⟩:=trodAll_cons r1;obtain⟨v3,vs3,d3,ds3,p3,q3,rfl,rfl,rfl,h3,r3⟩:=trodAll_cons r2;obtain⟨v4,vs4,d4,ds4,p4,q4,rfl,rfl,rfl,h4,r4⟩:=trodAll_cons r3;obtain⟨rfl,rfl,rfl⟩:=trodAll_nil r4;obtain rfl:args=#[v0,v1,v2,v3,v4]:=by cases args;simp_all
 obtain⟨rfl,rfl⟩:=trodVars_none hV;have k0:=h0;have lt0:∀x∈p0,x.block<W.heap.size:=by obtain⟨m,hm⟩:=k0;exact DataW.trod_lt m _ _ _ hm
 obtain⟨s0,rv0,zv0,lv0,evs0,rfl,hsr0,hsw0⟩:=open_source (hval 0 26 v0 rfl rfl) h0;obtain⟨nm,rfl,rfl,rfl,wnm⟩:=open_string Tryz.underlying9 (hval 1 9 v1 rfl rfl) h1;obtain⟨lo,rfl,rfl,rfl,wlo⟩:=open_int Tryz.underlying3 (hval 2 3 v2 rfl rfl) h2;obtain⟨hi,rfl,rfl,rfl,whi⟩:=open_int Tryz.underlying3 (hval 3 3 v3 rfl rfl) h3;obtain⟨more,rfl,rfl,rfl,wmore⟩:=open_int Tryz.underlying5 (hval 4 5 v4 rfl rfl) h4;clear hA0;refine(topLonger_row s0 rv0 zv0 lv0 evs0 nm lo hi more W (wo_of hL hS) hsr0 hsw0 wnm wlo whi wmore).mono fun e W' ⟨he,bel⟩=>?_
 subst he;exact⟨_,rfl,_,_,_,[],_,[],hW',trodAll_mk1 (shut_bool Tryz.underlying4 _),(trodAll_cons_mk (Below.trod laidOut (by kernel_rfl) (of_decide_eq_true (by kernel_rfl)) k0 bel lt0) (trodAll_cons_mk (shut_string Tryz.underlying9 wnm) (trodAll_cons_mk (shut_int Tryz.underlying3 wlo) (trodAll_cons_mk (shut_int Tryz.underlying3 whi) (trodAll_cons_mk (shut_int Tryz.underlying5 wmore) trodAll_mk0))))),rfl,bel.frame _,fun h=>by cases h⟩
theorem lifted (os:Os)(started:os.Started)(H:Type)(enc:TypeId × Value→H)(F:Stop.Interp):
  ReturnsInHanded {} Tryz.checked os 7 .any ((OpenSpec.ofChange Rows.topLongerSpec).preRow enc Tryz.prog Tryz.f7 Rows.topLongerRow.domain false Rows.topLongerRow.laid) (((OpenSpec.ofChange Rows.topLongerSpec).at F).post enc Tryz.prog Tryz.f7 false true false false):=by
 obtain⟨places,hx⟩:=reads os enc;refine returnsInHanded_of_row (C:=Tryz.checked) (s:=OpenSpec.ofChange Rows.topLongerSpec) own started (by kernel_rfl) Tryz.func7
  (witness_row_at (enc:=enc) (C:=Tryz.checked) false (laidWorld os) #[.agg #[.slice none 0 0,.slice none 0 0,.slice none 0 0],.string ⟨#[]⟩,.int .i64 0,.int .i64 0,.int .u8 0] rfl (by kernel_rfl) (by kernel_rfl) (by kernel_rfl)
   (OpenSpec.preRow_of_cond 8 hx (by kernel_rfl) (fun k hk=>by cases hk) (by kernel_rfl) (laid_met os))) ?_
 intro W base args ds gs before hval hW _ _ _ hL hS _;exact contract H enc W base args ds gs before hval hW hL hS
theorem closed_and {a b:Bool}(ha:a=true)(hb:b=true):(a && b)=true:=by rw[ha,hb];rfl
theorem closed : joinedFacts Tryz.prog 7 Tryz.f7 (OpenSpec.ofChange Rows.topLongerSpec).bare Rows.topLongerRow=true:=by
 unfold joinedFacts
 repeat' with_reducible refine closed_and ?_ ?_
 all_goals as_aux_lemma=>kernel_rfl
theorem said : Rows.TopLongerSaid:=
 OpenClaim.holds_of_cond 7 Tryz.f7 rfl rfl rfl rfl rfl rfl rfl ⟨rfl,rfl,rfl,rfl,rfl⟩ rfl rfl rfl rfl rfl (by kernel_rfl) Tryz.func7 closed
  (of_decide_eq_true (by kernel_rfl)) (by unfold Func.isWrapper;first|(rw[if_pos (by decide +kernel)];kernel_rfl)|(rw[if_neg (by decide +kernel)];exact⟨rfl,rfl⟩))
  (fun os started H enc _ F=>by rw[OpenClaim.pre_eq_preRow];exact lifted os started H enc F)
theorem plain (f:FuncId)(fn:Func)(hf:Tryz.pinned.checked.prog.funcNamed "solstice/solsticetop.TopLonger" = some f)(hfn:Tryz.pinned.checked.prog.funcs[f]?=some fn):
  false=Tryz.pinned.checked.prog.looks []∧∀(j:Nat) t,fn.params[j]?=some t→Tryz.pinned.checked.prog.wantsStandIn t=false:=by
 obtain rfl:f=7:=Option.some.inj ((show Tryz.prog.funcNamed "solstice/solsticetop.TopLonger" = some 7 by kernel_rfl).symm.trans hf) |>.symm;obtain rfl:fn=Tryz.f7:=(Option.some.inj (Tryz.func7.symm.trans hfn)).symm;refine⟨by kernel_rfl,fun j t ht=>?_⟩;rw[Tryz.params7] at ht;have hm:t∈[26,9,3,5]:=by
  have:=Array.mem_of_getElem? ht;simp at this ⊢
  first|omega|(rcases this with h|h|h|h <;> simp[h])|(rcases this with h|h|h <;> simp[h])|(rcases this with h|h|h|h|h <;> simp[h])
 simp only[List.mem_cons,List.not_mem_nil,or_false] at hm;rcases hm with rfl|rfl|rfl|rfl
 ·exact(show Tryz.prog.wantsStandIn 26=false by kernel_rfl)
 ·exact(show Tryz.prog.wantsStandIn 9=false by kernel_rfl)
 ·exact(show Tryz.prog.wantsStandIn 3=false by kernel_rfl)
 ·exact(show Tryz.prog.wantsStandIn 5=false by kernel_rfl)
theorem card : Rows.TopLongerCardSaid:=
 Claim7.holds_tied_plain_at .later [] _ _ _ _ said (fun _ h=>by cases h) (by kernel_rfl) (fun _ h=>by cases h) topLonger_row_tie rfl ⟨rfl,rfl⟩ (by kernel_rfl) rfl plain (by kernel_rfl)
end Go.Proofs.YtjobhjemnmleaaaGreatDoor.topLonger
