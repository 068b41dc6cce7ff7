/- squeeze.Table: a plan's table. -/
import Derived.Test.YtjobhjemnmleaaaGreatDoorR43
import Derived.Lib.SlBuf
set_option maxRecDepth 200000
set_option maxHeartbeats 32000000
namespace Go.Proofs.YtjobhjemnmleaaaGreatDoor
open Go.RowKit Go.Sort
theorem run_copy_rows (w:World)(dT sT ty elem:TypeId)(size g n dcap m scap:Nat)(ad:Addr)(cs:List Value)(hu:Tryz.prog.underlying dT=some (.slice elem))(hs:(Tryz.prog.info? elem).map (·.size)=some size)(hnm:n≤m)
  (hc:∀j v,cs[j]?=some v→w.cell? (ad.add j)=some v) (hl:cs.length=n*size) (ht:w.there g 0 (n*size)) (h1:∀u∈cs,u.oneCell'=true):
  (Builtin.copy_ #[dT,sT] ty #[.slice (some ⟨g,0,none⟩) n dcap,.slice (some ad) m scap]).run Tryz.prog w=.ok (goInt n) (w.setCells g 0 cs):=by
 have hld:(loadCells ad (n*size)).run Tryz.prog w=.ok cs.toArray w:=by
  rw[← hl];exact run_loadCells_list (P:=Tryz.prog) w ad cs hc
 have hst:=run_storeCells_cells (P:=Tryz.prog) g 0 cs 0 w (fun j hj=>by simpa using (ht j (by omega)).1) (fun j hj=>by simpa using (ht j (by omega)).2) h1;simp only[Nat.add_zero] at hst;have hmin:Nat.min m n=n:=Nat.min_eq_right hnm;cases hq:Tryz.prog.info? elem with
 |none=>simp[hq] at hs
 |some i=>
  have hs':i.size=size:=by simpa [hq] using hs
  simp[Builtin.copy_,run_underlying hu,Builtin.lenOf,Builtin.firstCells,sizeOf,typeInfo,hq,hs',hmin,hld,hst,Result.andThen]
namespace Sq
def TbRet (lo:Int)(l:List Rc.R)(w:World)(e:Ending)(w':World):Prop:=(∃a b v,Cut l a b∧e=.returned (.tuple #[.agg #[.int .i64 (lo+(a:Int)),.int .i64 (lo+(b:Int)),v],.int .i64 0])∧w'.ownsRow w.heap.size 49 19 v (b - a+1) (Cm.rc (table lo l a b).recs))∧Below w.heap.size w w'
def Up (l:List Rc.R)(n:Nat)(w0:World)(LS:List (Nat × List Value))(v:Value)(w:World):Prop:=∃k:Nat,v=.int .i64 (k:Int)∧k<n∧Hid (∀i,i≤k→l[i]?=l[0]?)∧Hid (k+1<n→l[k+1]?≠l[0]?)∧Hid (St w0 w LS)
def Down (l:List Rc.R)(n:Nat)(w0:World)(LS:List (Nat × List Value))(v:Value)(w:World):Prop:=∃k:Nat,v=.int .i64 (k:Int)∧k<n∧Hid (∀i,k≤i→i<n→l[i]?=l[n - 1]?)∧Hid (0<k→l[k - 1]?≠l[n - 1]?)∧Hid (St w0 w LS)
def Kept (l:List Rc.R)(w0:World)(LS:List (Nat × List Value))(v u:Value)(w:World):Prop:=∃a b:Nat,v=.int .i64 (a:Int)∧u=.int .i64 (b:Int)∧Hid (Cut l a b)∧Hid (St w0 w LS)
end Sq
theorem sqTable_ok {f:Int→List Ln.Sp}(lo:Int)(p:Cm.P)(B n g1 g2 c1 c2:Nat)(w:World)(h:Cm.Rd B n g1 g2 c1 c2 p w)(hg:Cm.Good f lo n p)(hn:0<n∧n≤400)(hlo:1601≤lo)(hhi:lo+(n:Int)≤10000)(hL:Lens w):
  Calls Tryz.prog 35 #[.agg #[.int .i64 lo,.slice (some ⟨g1,0,none⟩) n c1,.slice (some ⟨g2,0,none⟩) n c2]] w (Sq.TbRet lo p.recs w):=by
 have HCk:=ak fun W (hb:Below w.heap.size w W)=>(h.call hb).check hg hn hlo hhi (hL.below hb)
 have hnn:=hn;obtain⟨P,hP⟩:=aj (Sq.TbRet lo p.recs w)
 have HX:Hid (∀e w',Sq.TbRet lo p.recs w e w'→P e w'):=fun e w' q=>by rw[← hP];exact q
 rw[hP];obtain⟨l,hl⟩:=aj (p.recs)
 have hlr:=hg.lr;rw[hl] at hlr;have HR:Hid (∀W,Below w.heap.size w W→∀i r,l[i]?=some r→W.rangeAt g1 (i*19) r.arr.toList):=fun W hb i r hr=>(h.call hb).row (by rw[hl];exact hr)
 have HP:=ak hP;have HLl:=ak hl;have HLr:=ak hlr;have HH:=ak h;have w0:IntKind.i64.wrap ((n:Int) - 1)=(((n - 1:Nat):Nat):Int):=by rw[IntKind.wrap_i64];omega
 obtain⟨m,hm⟩:=aj (n - 1)
 rw[hm] at w0;have HNm:Hid (n=m+1):=show n=m+1 by omega
 have had:∀j,(⟨g1,0,none⟩:Addr).add j=⟨g1,j,none⟩:=add_zero_at g1;have HM:=ak hm;clear h hg hL hl hlr hP hm hn;obtain⟨V1,gP,HEV1,HGgP,HS⟩:=(St.start w).lay2 #[.int .i64 lo,.slice (some ⟨g1,0,none⟩) n c1,.slice (some ⟨g2,0,none⟩) n c2] 53 #[.int .i64 0,.int .i64 0,.slice none 0 0] 73;have P0:=(HS.out.get 1 rfl).cell 0 _ rfl;have P1:=(HS.out.get 1 rfl).cell 1 _ rfl;have P2:=(HS.out.get 1 rfl).cell 2 _ rfl;have zP:=(HS.out.get 1 rfl).lt;go_enter Tryz.func35,Tryz.ntmps35
 go_upto_region 1 with fail
 rw[HEV1.out]
 try rw[HGgP.out]
 go_wp2_with fail
 refine(HCk.out _ HS.out.b).mono ?_;rintro e V2 ⟨rfl,hb⟩;clear P0 P1 P2 zP;replace HS:=ak (HS.out.call hb);clear hb;have P0:=(HS.out.get 1 rfl).cell 0 _ rfl;have P1:=(HS.out.get 1 rfl).cell 1 _ rfl;have P2:=(HS.out.get 1 rfl).cell 2 _ rfl;have zP:=(HS.out.get 1 rfl).lt;go_upto_block 0 with fail
 clear P0 P1 P2 zP;go_cut [6] (fun v wx=>Sq.Up l n w [(gP+1,[.int .i64 0,.int .i64 0,.slice none 0 0]),(gP,[.int .i64 lo,.slice (some ⟨g1,0,none⟩) n c1,.slice (some ⟨g2,0,none⟩) n c2])] v wx)
 case first=>
  go_wp2_with fail
  go_loopw [6] (fun i wr=>∃k:Nat,k<n∧i=.int .i64 (k:Int)∧Hid (∀j,j≤k→l[j]?=l[0]?)∧Hid (St w wr [(gP+1,[.int .i64 0,.int .i64 0,.slice none 0 0]),(gP,[.int .i64 lo,.slice (some ⟨g1,0,none⟩) n c1,.slice (some ⟨g2,0,none⟩) n c2])])) (fun i _=>n - (intOf i).toNat)
  case atStart=>exact⟨0,hnn.1,rfl,(fun j hj=>by rw[Nat.le_zero.1 hj]),HS.out⟩
  case round=>
   clear HS;obtain⟨k,hk,rfl,HE,HS⟩:=hrel
   by_cases hlt:k<m
   ·have q1:(k:Int)<(m:Int):=by have:=HNm.out;omega
    have q1':=decide_eq_true q1;have q2:(0:Int)≤(k:Int)+1:=by have:=HNm.out;omega
    have q3:(k:Int)+1<(n:Int):=by have:=HNm.out;omega
    have q4:(0:Int)<(n:Int):=by have:=HNm.out;omega
    have wk:IntKind.i64.wrap ((k:Int)+1)=((k+1:Nat):Int):=by have:=HNm.out;rw[IntKind.wrap_i64];omega
    have q5:(0:Int)≤((k+1:Nat):Int):=by have:=HNm.out;omega
    have q6:((k+1:Nat):Int)<(n:Int):=by have:=HNm.out;omega
    obtain⟨r,hr⟩:∃r,l[k+1]?=some r:=⟨_,List.getElem?_eq_getElem (by have:=HNm.out;rw[HLr.out];omega)⟩
    obtain⟨r0,hr0⟩:∃r,l[0]?=some r:=⟨_,List.getElem?_eq_getElem (by have:=HNm.out;rw[HLr.out];omega)⟩
    have HR1:=ak (HR.out wr HS.out.b (k+1) r hr);have HR2:Hid (wr.rangeAt g1 0 r0.arr.toList):=by
     have q:=HR.out wr HS.out.b 0 r0 hr0;rw[Nat.zero_mul] at q;exact q
    have hEq:∀W,(Op.equalIn 10000 49 (.agg r.arr) (.agg r0.arr)).run Tryz.prog W=.ok (decide (r=r0)) W:=fun W=>rec_same r r0 W
    have P1:=cell_regrown ((HS.out.get 1 rfl).cell 1 _ rfl);have zP:=(HS.out.get 1 rfl).lt;obtain⟨b,hb0⟩:=aj (decide (r=r0))
    rw[hb0] at hEq;have HB0:=ak hb0;have HQ:=ak (And.intro hr hr0);clear hr hr0 hb0;go_upto_region 6 with fail
    refine wp_region_tail 15 (by kernel_rfl) (by kernel_rfl) ?_
    repeat (first|(refine quiet_load_gar rfl 49 _ rfl g1 ((k+1)*19) rfl r.arr HR1.out _ Tryz.underlying49 rfl (by kernel_rfl) ?_)|(refine quiet_load_gar rfl 49 _ rfl g1 (0) rfl r0.arr HR2.out _ Tryz.underlying49 rfl (by kernel_rfl) ?_)|quiet_step (fail))
    refine wpQuiet_nil ?_;intro V9 hwz;obtain⟨⟨dq,osq⟩,hwz⟩:=hwz;have hb:Below wr.heap.size wr V9:=by rw[hwz];exact below_regrown _ _ _
    have HS9:=ak (HS.out.call hb);clear hwz P1 zP hb HS HR1 HR2 hEq;show wpList _ _ _ (_ :: _) _ _
    cases b with
    |true=>
     have hrr:r=r0:=of_decide_eq_true HB0.out;have HE2:Hid (∀j,j≤k+1→l[j]?=l[0]?):=fun j hj=>by
      by_cases e:j=k+1
      ·rw[e,HQ.out.1,HQ.out.2,hrr]
      ·exact HE.out j (by have:=HNm.out;omega)
     go_wp2;go_roundw
     case rel=>exact⟨k+1,by have:=HNm.out;omega,by go_num,HE2.out,HS9.out⟩
     case measure=>simp[intOf];omega
    |false=>
     have hrr:r≠r0:=of_decide_eq_false HB0.out;have HE2:Hid (k+1<n→l[k+1]?≠l[0]?):=fun _ e=>by
      rw[HQ.out.1,HQ.out.2] at e;exact hrr (Option.some.inj e)
     go_wp2;go_meet
     exact⟨k,rfl,hk,HE.out,HE2.out,HS9.out⟩
   ·have hkm:k=m:=by have:=HNm.out;omega
    have q1:¬(k:Int)<(m:Int):=by have:=HNm.out;omega
    have q1':=decide_eq_false q1;have HE2:Hid (k+1<n→l[k+1]?≠l[0]?):=fun q=>by have:=HNm.out;omega
    have HKm:=ak hkm;clear hkm;go_upto_region 6 with fail
    go_quiet (fail)
    go_wp2;go_meet
    exact⟨k,rfl,hk,HE.out,HE2.out,by first|exact HS.out|exact HS.out.drewN _|exact HS.out.drew⟩
 case rest=>
  obtain⟨a,rfl,ha,HUa,HUb,HS⟩:=hcut
  apply_assumption
  refine wp_seq_k fun _ _=>?_
  go_cut [7] (fun v wx=>Sq.Down l n w [(gP+1,[.int .i64 0,.int .i64 0,.slice none 0 0]),(gP,[.int .i64 lo,.slice (some ⟨g1,0,none⟩) n c1,.slice (some ⟨g2,0,none⟩) n c2])] v wx)
  case first=>
   go_wp2_with fail
   go_loopw [7] (fun i wr=>∃k:Nat,k<n∧i=.int .i64 (k:Int)∧Hid (∀j,k≤j→j<n→l[j]?=l[n - 1]?)∧Hid (St w wr [(gP+1,[.int .i64 0,.int .i64 0,.slice none 0 0]),(gP,[.int .i64 lo,.slice (some ⟨g1,0,none⟩) n c1,.slice (some ⟨g2,0,none⟩) n c2])])) (fun i _=>(intOf i).toNat)
   case atStart=>exact⟨m,by have:=HNm.out;omega,rfl,(fun j h1 h2=>by rw[show j=n - 1 by have:=HNm.out;omega]),HS.out⟩
   case round=>
    clear HS;obtain⟨k,hk,rfl,HE,HS⟩:=hrel
    by_cases hlt:0<k
    ·obtain⟨k',hk'⟩:∃q,k=q+1:=⟨k - 1,by omega⟩
     have q1:(0:Int)<(k:Int):=(by omega);have q1':=decide_eq_true q1;have q2':decide (0<k)=true:=decide_eq_true hlt;have wk:IntKind.i64.wrap ((k:Int) - 1)=(k':Int):=by rw[IntKind.wrap_i64];omega
     have wk2:(k:Int) - 1=(k':Int):=(by omega);have wk3:IntKind.i64.wrap (k':Int)=(k':Int):=by rw[IntKind.wrap_i64];omega
     have q5:(0:Int)≤(k':Int):=(by omega);have q6:(k':Int)<(n:Int):=(by omega);have q7:=am m
     have q8:(m:Int)<(n:Int):=by have:=HNm.out;omega
     obtain⟨r,hr⟩:∃r,l[k']?=some r:=⟨_,List.getElem?_eq_getElem (by rw[HLr.out];omega)⟩
     obtain⟨r0,hr0⟩:∃r,l[m]?=some r:=⟨_,List.getElem?_eq_getElem (by have:=HNm.out;rw[HLr.out];omega)⟩
     have HR1:=ak (HR.out wr HS.out.b k' r hr);have HR2:=ak (HR.out wr HS.out.b m r0 hr0);have hEq:∀W,(Op.equalIn 10000 49 (.agg r.arr) (.agg r0.arr)).run Tryz.prog W=.ok (decide (r=r0)) W:=fun W=>rec_same r r0 W
     have P1:=cell_regrown ((HS.out.get 1 rfl).cell 1 _ rfl);have zP:=(HS.out.get 1 rfl).lt;obtain⟨b,hb0⟩:=aj (decide (r=r0))
     rw[hb0] at hEq;have HB0:=ak hb0;have HQ:=ak (And.intro hr (And.intro hr0 hk'));clear hr hr0 hb0 hk';go_upto_region 8 with fail
     refine wp_region_tail 15 (by kernel_rfl) (by kernel_rfl) ?_
     repeat (first|(refine quiet_load_gar rfl 49 _ rfl g1 (k'*19) rfl r.arr HR1.out _ Tryz.underlying49 rfl (by kernel_rfl) ?_)|(refine quiet_load_gar rfl 49 _ rfl g1 (m*19) rfl r0.arr HR2.out _ Tryz.underlying49 rfl (by kernel_rfl) ?_)|quiet_step (fail))
     refine wpQuiet_nil ?_;intro V9 hwz;obtain⟨⟨dq,osq⟩,hwz⟩:=hwz;have hb:Below wr.heap.size wr V9:=by rw[hwz];exact below_regrown _ _ _
     have HS9:=ak (HS.out.call hb);clear hwz P1 zP hb HS HR1 HR2 hEq;show wpList _ _ _ (_ :: _) _ _
     cases b with
     |true=>
      have hrr:r=r0:=of_decide_eq_true HB0.out;have HE2:Hid (∀j,k'≤j→j<n→l[j]?=l[n - 1]?):=fun j h1 h2=>by
       by_cases e:j=k'
       ·rw[e,HQ.out.1,HM.out,HQ.out.2.1,hrr]
       ·exact HE.out j (by have:=HQ.out.2.2;omega) h2
      go_wp2;go_roundw
      case rel=>exact⟨k',by omega,rfl,HE2.out,HS9.out⟩
      case measure=>have:=HQ.out.2.2;simp[intOf];omega
     |false=>
      have hrr:r≠r0:=of_decide_eq_false HB0.out;have HE2:Hid (0<k→l[k - 1]?≠l[n - 1]?):=fun _ e=>by
       rw[show k - 1=k' by have:=HQ.out.2.2;omega,HQ.out.1,HM.out,HQ.out.2.1] at e;exact hrr (Option.some.inj e)
      go_wp2;go_meet
      exact⟨k,rfl,hk,HE.out,HE2.out,HS9.out⟩
    ·have q1:¬(0:Int)<(k:Int):=(by omega);have q1':=decide_eq_false q1;have HE2:Hid (0<k→l[k - 1]?≠l[n - 1]?):=fun q=>absurd q hlt
     have q2:decide (0<k)=false:=by rw[decide_eq_false_iff_not];exact hlt
     go_upto_region 8 with fail
     go_quiet (fail)
     go_wp2;go_meet
     exact⟨k,rfl,hk,HE.out,HE2.out,by first|exact HS.out|exact HS.out.drewN _|exact HS.out.drew⟩
  case rest=>
   obtain⟨b,rfl,hb,HDa,HDb,HS⟩:=hcut
   apply_assumption
   refine wp_seq_k fun _ _=>?_
   go_cut [6,7] (fun v u wx=>Sq.Kept l w [(gP+1,[.int .i64 0,.int .i64 0,.slice none 0 0]),(gP,[.int .i64 lo,.slice (some ⟨g1,0,none⟩) n c1,.slice (some ⟨g2,0,none⟩) n c2])] v u wx)
   case first=>
    by_cases ham:a=m
    ·have q1:((a:Int) == (m:Int))=true:=by rw[beq_iff_eq];omega
     have HCt:Hid (Sq.Cut l 0 0):=Sq.cut_all (by rw[HLr.out];exact hnn.1) (fun i hi=>HUa.out i (by rw[HLr.out] at hi;have:=HNm.out;omega));clear ham;go_wp2;go_meet
     exact⟨0,0,rfl,rfl,HCt.out,HS.out⟩
    ·have q1:((a:Int) == (m:Int))=false:=bqf (by omega);have hn1:n=l.length:=HLr.out.symm;have HCt:Hid (Sq.Cut l a b):=Sq.cut_some (by rw[HLr.out];have:=HNm.out;omega) (by rw[HLr.out];exact hb) HUa.out (HUb.out (by have:=HNm.out;omega)) (fun i h1 h2=>by rw[HLr.out] at h2 ⊢;exact HDa.out i h1 h2) (fun h=>by rw[HLr.out];exact HDb.out h);clear ham hn1;go_wp2;go_meet
     exact⟨a,b,rfl,rfl,HCt.out,HS.out⟩
   case rest=>
    obtain⟨x,y,rfl,rfl,HCt,HS⟩:=hcut
    apply_assumption
    clear HUa HUb HDa HDb ha hb;obtain⟨q,hq⟩:=aj (y - x)
    have hxy:=HCt.out.le;have hyl:=HCt.out.lt;rw[HLr.out] at hyl;have hyq:y=x+q:=(by omega);obtain⟨i0,i1,i2,i3,i4⟩:=info_parts Cm.rec_info;have HI:=ak (And.intro i1 (And.intro i2 (And.intro i3 i4)));clear i1 i2 i3 i4;have hmk:=fun W:World=>run_make (P:=Tryz.prog) W 50 49 i0 _ Tryz.underlying50 HI.out.1 HI.out.2.1 .i64 .i64 ((y:Int) - (x:Int)+1) ((y:Int) - (x:Int)+1) (by omega) (by omega) (by rw[HI.out.2.2.2];omega) (by omega)
    rw[HI.out.2.2.1,show ((y:Int) - (x:Int)+1).toNat=q+1 by omega] at hmk;obtain⟨MC,hMC⟩:=aj (madeCells (Rc.R.zero.v).cells ((q+1)*19))
    rw[hMC] at hmk;have hMs:MC.size=(q+1)*19:=by
     rw[← hMC,size_madeCells]
    clear hMC;have s1:(x:Int)≤(y:Int):=(by omega);have s2:(y:Int)≤400:=(by omega);have s4:IntKind.i64.wrap ((y:Int)+1)=(y:Int)+1:=by rw[IntKind.wrap_i64];omega
    have s5:IntKind.i64.wrap (lo+(x:Int))=lo+(x:Int):=by rw[IntKind.wrap_i64];omega
    have s6:IntKind.i64.wrap (lo+(y:Int))=lo+(y:Int):=by rw[IntKind.wrap_i64];omega
    have hc1:=HH.out.k1;have s7:=am x
    have s8:(x:Int)≤(y:Int)+1:=(by omega);have s9:(y:Int)+1≤(c1:Int):=(by omega);have HXY:=ak (And.intro hxy (And.intro hyl (And.intro hyq hc1)));clear hxy hyl hyq hc1 hq;obtain⟨gN,HGgN⟩:∃z,Hid (wc.heap.size=z):=⟨_,rfl⟩
    obtain⟨W5,HEW5⟩:∃X,Hid (wc.alloc (.cells MC 49)=X):=⟨_,rfl⟩
    have HO5:Hid (W5.ownsRow gN 49 19 (.slice (some ⟨gN,0,none⟩) (q+1) (q+1)) (q+1) MC.toList):=by
     rw[← HEW5.out,← HGgN.out];refine⟨by rw[Array.length_toList];exact hMs,.inr ⟨wc.heap.size,q+1,MC,rfl,Nat.le_refl _,heap_alloc_new wc _,Nat.le_refl _,by have:=HXY.out;unfold maxLen;omega,hMs,?_⟩⟩;rw[List.take_of_length_le (by rw[Array.length_toList,hMs];exact Nat.le_refl _)]
    have HB5:Hid (Below gN wc W5):=by
     rw[← HEW5.out,← HGgN.out];exact al
    have HS5:Hid (St w W5 [(gP+1,[.int .i64 0,.int .i64 0,.slice none 0 0]),(gP,[.int .i64 lo,.slice (some ⟨g1,0,none⟩) n c1,.slice (some ⟨g2,0,none⟩) n c2])]):=⟨by rw[← HEW5.out];exact HS.out.b.alloc HS.out.b.size _,Ats.below HS.out.z HB5.out (fun z hz=>by rw[← HGgN.out];exact HS.out.z.lts z hz)⟩
    have HSN:Hid (w.heap.size≤gN):=by rw[← HGgN.out];exact HS.out.b.size
    have HLT:Hid (gP+1<gN):=by have h:=HS.out.z.lts _ (List.mem_cons_self ..);rw[← HGgN.out];exact h
    clear HS;go_upto_region 13 with fail
    rw[HEW5.out]
    try rw[HGgN.out]
    obtain⟨CS,hCS⟩:=aj (Cm.rc ((l.drop x).take (q+1)))
    have hCl:CS.length=(q+1)*19:=by
     have h:=HXY.out;rw[← hCS,Cm.rc_len,List.length_take,List.length_drop,HLr.out,Nat.min_eq_left (by omega)]
    have HCc:Hid (∀j v,CS[j]?=some v→W5.cell? ((⟨g1,x*19,none⟩:Addr).add j)=some v):=fun j v hv=>by
     rw[Addr.add_mid];obtain⟨i,k,hj,hk⟩:∃i k,j=i*19+k∧k<19:=⟨j / 19,j % 19,by omega,by omega⟩
     have hjl:=(List.getElem?_eq_some_iff.1 hv).1;have hi:i<q+1:=(by omega);obtain⟨r,hr⟩:∃r,((l.drop x).take (q+1))[i]?=some r:=⟨_,List.getElem?_eq_getElem (by have h:=HXY.out;rw[List.length_take,List.length_drop,HLr.out,Nat.min_eq_left (by omega)];exact hi)⟩
     obtain⟨u,hu⟩:∃u,r.arr.toList[k]?=some u:=⟨_,List.getElem?_eq_getElem (show k<19 from hk)⟩
     have h1:=Cm.rc_get hr k u hu;rw[hCS,← hj,hv] at h1;obtain rfl:=Option.some.inj h1;rw[List.getElem?_take_of_lt hi,List.getElem?_drop] at hr;have h2:=HR.out W5 HS5.out.b (x+i) r hr k v hu;rw[show x*19+j=(x+i)*19+k by rw[hj,Nat.add_mul];omega];exact h2
    have HC1:Hid (∀u∈CS,u.oneCell'=true):=fun u hu=>by
     rw[← hCS] at hu;unfold Cm.rc at hu;obtain⟨r,_,hr⟩:=List.mem_flatMap.1 hu;have h:=Rc.R.arr_one r;rw[Array.all_eq_true_iff_forall_mem] at h;exact h u (by simpa using hr)
    have HCl:=ak hCl;have HCS:=ak hCS;obtain⟨V6,HEV6⟩:∃X,Hid (W5.setCells gN 0 CS=X):=⟨_,rfl⟩
    have hcp:=run_copy_rows W5 50 50 3 49 19 gN (q+1) (q+1) (y+1 - x) (c1 - x) ⟨g1,x*19,none⟩ CS Tryz.underlying50 (by kernel_rfl) (by have:=HXY.out;omega) HCc.out hCl (own_there HO5.out (by rw[HO5.out.1];omega)) HC1.out;rw[HEV6.out] at hcp;have HM6:Hid (Moved gN W5 V6):=⟨0,CS,HEV6.out.symm⟩
    have HB6:Hid (Below gN W5 V6):=HM6.out.below (Nat.le_refl _) (Below.refl _ _);have HS:Hid (St w V6 [(gP+1,[.int .i64 0,.int .i64 0,.slice none 0 0]),(gP,[.int .i64 lo,.slice (some ⟨g1,0,none⟩) n c1,.slice (some ⟨g2,0,none⟩) n c2])]):=⟨HM6.out.below HSN.out HS5.out.b,Ats.below HS5.out.z HB6.out (fun z hz=>by have h:=HLT.out;simp only[List.mem_cons,List.not_mem_nil,or_false] at hz;rcases hz with rfl|rfl <;> show _<gN <;> omega)⟩
    have HO6:Hid (V6.ownsRow gN 49 19 (.slice (some ⟨gN,0,none⟩) (q+1) (q+1)) (q+1) CS):=by
     have h:=own_store HO5.out 0 CS (by rw[HO5.out.1,hCl];omega);rw[HEV6.out,List.take_zero,List.nil_append,List.drop_of_length_le (by rw[HO5.out.1,hCl];omega),List.append_nil] at h;exact h
    have HCS:=ak hCS;have P0:=(HS.out.get 1 rfl).cell 0 _ rfl;have P0':=(HS5.out.get 1 rfl).cell 0 _ rfl;have P1:=(HS5.out.get 1 rfl).cell 1 _ rfl;have zP:=(HS.out.get 1 rfl).lt;clear hCl hCS hMs hmk;go_wp2_with (refine wpList_store_all rfl 73 _ _ rfl (gP+1) rfl #[.int .i64 (lo+(x:Int)),.int .i64 (lo+(y:Int)),.slice (some ⟨gN,0,none⟩) (q+1) (q+1)] rfl _ (HS.out.get 0 rfl) (by rfl) (by kernel_rfl) (by simp[Value.oneCell']) ?_;intro V7 hAn hMn)
    have HO7:=ak (hMn.own (fun e=>by have h:=HLT.out;have h2:=(HO6.out.lt _ e).1;omega) HO6.out);have HS7:=ak (HS.out.put 0 rfl hMn hAn);rw[← HP.out];refine bodyPost_ret (res_ct (p:=2) (q:=3) rfl (HS7.out.get 0 rfl) _ Tryz.underlying73 rfl (by kernel_rfl) rfl rfl) rfl ?_;refine⟨⟨x,y,_,by rw[HLl.out];exact HCt.out,rfl,?_⟩,HS7.out.b⟩;have h:=Oc.own_low HO7.out HSN.out;rw[← HCS.out] at h;have hy:=HXY.out;unfold Sq.table;rw[HLl.out,show y - x+1=q+1 by omega];exact h
namespace Sq
theorem tabR_own {f:Int→List Ln.Sp}{lo:Int}{p:Cm.P}{n a b B:Nat}{v:Value}{w:World}(hc:Cut p.recs a b)(ho:w.ownsRow B 49 19 v (b - a+1) (Cm.rc (table lo p.recs a b).recs))(hlo:1601≤lo)(hhi:lo+(n:Int)≤10000)(hg:Cm.Good f lo n p):TabR w (table lo p.recs a b) v:=by
 have h1:=hc.le;have h2:=hc.lt;rw[hg.lr] at h2;obtain⟨A,c,rfl,k1,k2⟩:=own_slice_cap ho;refine⟨?_,?_,⟨A,c,?_,?_,k2,?_⟩,fun r hr=>?_⟩
 ·show _≤lo+(a:Int)∧lo+(a:Int)<_
  omega
 ·show _≤lo+(b:Int)∧lo+(b:Int)<_
  omega
 ·rw[table_len hc]
 ·rw[table_len hc];exact k1
 ·rw[table_len hc];exact Reads.of_own ho
 ·exact(hg.ok r (List.mem_of_mem_drop (List.mem_of_mem_take hr))).2
end Sq
theorem sqTable_none (hC:∀w,Calls Tryz.prog 26 #[.agg #[.int .i64 0,.slice none 0 0,.slice none 0 0]] w fun e w'=>e=.returned (.int .i64 2)∧Below w.heap.size w w')(w:World):Calls Tryz.prog 35 #[.agg #[.int .i64 0,.slice none 0 0,.slice none 0 0]] w fun e w'=>e=.returned (.tuple #[.agg #[.int .i64 0,.int .i64 0,.slice none 0 0],.int .i64 2])∧Below w.heap.size w w':=by
 have HC:=ak hC;clear hC;obtain⟨V1,gP,HEV1,HGgP,HS⟩:=(St.start w).lay2 #[.int .i64 0,.slice none 0 0,.slice none 0 0] 53 #[.int .i64 0,.int .i64 0,.slice none 0 0] 73;have P0:=(HS.out.get 1 rfl).cell 0 _ rfl;have P1:=(HS.out.get 1 rfl).cell 1 _ rfl;have P2:=(HS.out.get 1 rfl).cell 2 _ rfl;have zP:=(HS.out.get 1 rfl).lt;go_enter Tryz.func35,Tryz.ntmps35
 go_upto_region 1 with fail
 rw[HEV1.out]
 try rw[HGgP.out]
 go_wp2_with fail
 refine(HC.out _).mono ?_;rintro e V2 ⟨rfl,hb⟩;clear P0 P1 P2 zP;replace HS:=ak (HS.out.call hb);clear hb;go_wp2_with (refine wpList_store_all rfl 73 _ _ rfl (gP+1) rfl #[.int .i64 0,.int .i64 0,.slice none 0 0] rfl _ (HS.out.get 0 rfl) (by rfl) (by kernel_rfl) (by first|exact Sm.S.arr_one _|exact Rc.R.arr_one _|simp[Value.oneCell']) ?_;intro V3 hAn hMn)
 replace HS:Hid (St w V3 [(gP+1,[.int .i64 0,.int .i64 0,.slice none 0 0]),(gP,[.int .i64 0,.slice none 0 0,.slice none 0 0])]):=HS.out.put 0 rfl hMn hAn;clear hMn hAn;refine bodyPost_ret (res_ct (p:=2) (q:=3) rfl (HS.out.get 0 rfl) _ Tryz.underlying73 rfl (by kernel_rfl) rfl rfl) rfl ⟨rfl,HS.out.b⟩
end Go.Proofs.YtjobhjemnmleaaaGreatDoor
namespace Go.Proofs.YtjobhjemnmleaaaGreatDoor
open Go.RowKit Go.Sort
namespace L27
theorem recs96 : (Cm.run (Cm.yr L46.s es) 1996 4).recs=[want,want,want,want]:=by decide +kernel
theorem cut0 {l:List Rc.R}{a b:Nat}(h:Sq.Cut l a b){r:Rc.R}(hl:∀i,i<l.length→l[i]?=some r):a=0∧b=0:=by
 have h1:=h.le;have h2:=h.lt;have h3:a=b:=by
  rcases Nat.lt_or_ge a b with q|q
  ·exfalso
   exact h.up q (by rw[hl (a+1) (by omega),hl a (by omega)])
  ·omega
 have h4:=h.zero h3;omega
theorem four (r:Rc.R):∀i,i<[r,r,r,r].length→[r,r,r,r][i]?=some r:=by
 intro i hi;have hi':i<4:=hi;rcases(by omega:i=0∨i=1∨i=2∨i=3) with rfl|rfl|rfl|rfl <;> rfl
end L27
theorem begins14_any (w:World)(hW:Wo w)(hA:Wa w):Calls Tryz.prog 37 #[] w fun e w'=>e=.returned (.bool true)∧Below w.heap.size w w':=by
 have hLe:Lens w:=by first|exact hW.lens|exact hW.l|exact hW.c.lens|exact hW.1
 have HE1:=ak (europe_at w);go_enter Tryz.func37,Tryz.ntmps37
 go_wp2_with fail
 refine HE1.out.mono ?_;rintro e w1 ⟨g,rfl,hi1,hg1,hb1⟩;have HZ:=ak (eu_zone hi1 (hW.below hb1) (hA.below hb1) ⟨#[67]⟩ (by decide) L27.walkC 1996 1999 (by unfold Ln.InY;omega) (by omega) 4 (by omega));have HGo:=ak (eu_good (lo:=1996) (hi:=1999) (by unfold Ln.InY;omega) (by omega) (n:=4) (by omega));have HLe:=ak hLe;have HB:=ak hb1;clear hi1 hb1 hg1 HE1 hW hA hLe;go_wp2_with fail
 refine HZ.out.mono ?_;rintro e V0 ⟨⟨a1,a2,c1,c2,rfl,hrd⟩,hb⟩;replace HB:=ak (below_then HB.out hb);have HRd:=ak hrd;clear hrd hb HZ;obtain⟨V1,gP,HEV1,HGgP,HS⟩:=(St.start V0).lay #[.int .i64 1996,.slice (some ⟨a1,0,none⟩) 4 c1,.slice (some ⟨a2,0,none⟩) 4 c2] 53;go_upto_region 2 with fail
 rw[HEV1.out]
 try rw[HGgP.out]
 have P0:=(HS.out.get 0 rfl).cell 0 _ rfl;have P1:=(HS.out.get 0 rfl).cell 1 _ rfl;have P2:=(HS.out.get 0 rfl).cell 2 _ rfl;have zP:=(HS.out.get 0 rfl).lt;have HTb:=ak (sqTable_ok 1996 _ _ 4 a1 a2 c1 c2 V1 (HRd.out.call HS.out.b) HGo.out (by omega) (by omega) (by omega) (HLe.out.below (below_then HB.out HS.out.b)));go_wp2_with fail
 refine HTb.out.mono ?_;rintro e V2 ⟨⟨a,b,v,hcut,he,ho⟩,hb⟩;clear P0 P1 P2 zP;replace HS:=ak (HS.out.call hb);clear hb;rw[L27.recs96] at hcut;obtain⟨rfl,rfl⟩:=L27.cut0 hcut (L27.four _);rw[show (1996:Int)+((0:Nat):Int)=1996 from rfl] at he;obtain⟨vA,vc,rfl,_,_⟩:=own_slice_cap ho;subst he;clear hcut HTb ho;have hLy:=HS.out.lay #[.int .i64 1996,.int .i64 1996,.slice vA (0 - 0+1) vc] 73;clear HS;obtain⟨V3,gT,HEV3,HGgT,HS⟩:=hLy;go_upto_region 3 with fail
 rw[HEV3.out]
 try rw[HGgT.out]
 have P0:=(HS.out.get 1 rfl).cell 0 _ rfl;have P1:=(HS.out.get 1 rfl).cell 1 _ rfl;have P2:=(HS.out.get 1 rfl).cell 2 _ rfl;have zP:=(HS.out.get 1 rfl).lt;have T0:=(HS.out.get 0 rfl).cell 0 _ rfl;have T1:=(HS.out.get 0 rfl).cell 1 _ rfl;have T2:=(HS.out.get 0 rfl).cell 2 _ rfl;have zT:=(HS.out.get 0 rfl).lt;go_wp2;go_ret
 exact⟨rfl,below_then HB.out HS.out.b⟩
end Go.Proofs.YtjobhjemnmleaaaGreatDoor
namespace Go.Proofs.YtjobhjemnmleaaaGreatDoor
open Go.RowKit
theorem i64_range {z:Int}(h:(Lit.int .i64 z).wf=true):-9223372036854775808≤z∧z≤9223372036854775807:=by
 simpa [Lit.wf,IntKind.min,IntKind.max,IntKind.signed,IntKind.bits] using h
end Go.Proofs.YtjobhjemnmleaaaGreatDoor
