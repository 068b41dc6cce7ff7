/- fit.fitted: the record of a year's spans of which there is one. -/
import Derived.Test.YtjobhjemnmleaaaGreatDoorR37
set_option maxRecDepth 200000
set_option maxHeartbeats 32000000
namespace Go.Proofs.YtjobhjemnmleaaaGreatDoor
open Go.RowKit Go.Sort
namespace Rc
def pr (a b:Sm.S):List Value:=a.arr.toList ++ b.arr.toList
theorem pr_at0 (a b:Sm.S)(j:Nat)(v:Value)(h:a.arr.toList[j]?=some v):(pr a b)[0+j]?=some v:=by
 unfold pr;rw[Nat.zero_add,List.getElem?_append_left (List.getElem?_eq_some_iff.1 h).1];exact h
theorem pr_at8 (a b:Sm.S)(j:Nat)(v:Value)(h:b.arr.toList[j]?=some v):(pr a b)[8+j]?=some v:=by
 unfold pr;rw[List.getElem?_append_right (by show 8≤8+j;omega)];show b.arr.toList[8+j - 8]?=some v
 rw[show 8+j - 8=j by omega];exact h
theorem off_step {d:Bool}{l:List Ln.Sp}{k:Nat}{p:Ln.Sp}(h:l[k]?=some p):offOf d (l.take (k+1))=if p.dst=d then p.off else offOf d (l.take k):=by
 unfold offOf;rw[List.take_add_one,h,List.foldl_append];rfl
theorem off_all {d:Bool}{l:List Ln.Sp}{n:Nat}(h:l.length=n):offOf d (l.take n)=offOf d l:=by rw[List.take_of_length_le (by omega)]
def FJ (l:List Ln.Sp)(y:Int)(w:World)(gA:Nat)(rest:List (Nat × List Value))(fa fb:Sm.S)(k:Nat)(wr:World):Prop:=
 ∃a b p,St w wr ((gA,pr a b) :: rest)∧l[k]?=some p∧puts y p (l.drop (k+1)) (a,b)=(fa,fb)∧(Sm.U a∧Sm.Fine a)∧(Sm.U b∧Sm.Fine b)
theorem FJ.drew {l:List Ln.Sp}{y:Int}{w:World}{gA:Nat}{rest:List (Nat × List Value)}{fa fb:Sm.S}{k:Nat}{wr:World}(h:FJ l y w gA rest fa fb k wr){n:Nat}:FJ l y w gA rest fa fb k (wr.drewN n):=by
 obtain⟨a,b,p,h1,h2⟩:=h;exact⟨a,b,p,h1.drewN n,h2⟩
theorem puts_step {y:Int}{l:List Ln.Sp}{k:Nat}{p q:Ln.Sp}{x:Sm.S × Sm.S}(hq:l[k+1]?=some q):
  puts y p (l.drop (k+1)) x=puts y q (l.drop (k+2)) (if q.dst=true then (x.1,stampAt y (q.fr+p.off)) else (stampAt y (q.fr+p.off),x.2)):=by
 rw[List.drop_eq_getElem_cons (List.getElem?_eq_some_iff.1 hq).1,(List.getElem?_eq_some_iff.1 hq).2];rfl
theorem ats_start {y:Int}{l:List Ln.Sp}{p:Ln.Sp}(h:l[0]?=some p):ats l y=puts y p (l.drop 1) (begun l y):=by
 cases l with
 |nil=>cases h
 |cons a l=>
  obtain rfl:a=p:=by simpa using h
  rfl
theorem puts_end {y:Int}{l:List Ln.Sp}{k:Nat}{p:Ln.Sp}{x:Sm.S × Sm.S}(h:l.length≤k+1):puts y p (l.drop (k+1)) x=x:=by
 rw[List.drop_of_length_le h];rfl
end Rc
theorem ftFitted_ok (l:List Ln.Sp)(y:Int)(A:Option Addr)(n c:Nat)(w:World)(hL:Lens w)(hy:1601≤y∧y≤9999)(ho:Rc.Of l y)(hn:l.length=n)(hw:Rc.why l (Oc.D y*86400) (Oc.D (y+1)*86400)=0)(hnc:n≤c)(hR:Reads w w.heap.size 3 A n (l.flatMap Ln.Sp.cells)):
  Calls Tryz.prog 142 #[.slice A n c,.int .i64 y,.int .i64 (Oc.D (y+1)*86400)] w fun e w'=>e=.returned (.tuple #[(Rc.fitted l y).v,.int .i64 0])∧Below w.heap.size w w':=by
 have hft:=Rc.why_fit hw;have hn0:0<n:=by rw[← hn];exact List.length_pos_iff.2 ho.right.ne
 obtain⟨ad,x0,rfl,hab0,Hx0,HL0⟩:=Ix.reads_cells (enc:=Ln.Sp.cells) (m:=3) (fun _=>rfl) hn hR hn0;have hfew:n≤3:=by rw[← hn];exact hft.few
 obtain⟨X,hX⟩:=aj ((Rc.fitted l y).v)
 rw[hX];have e00:ad.add (0*3)=ad:=by cases ad;rfl
 have HC0:Hid (∀W,Below w.heap.size w W→W.cell? ⟨ad.block,ad.off+1,none⟩=some (.int .i64 x0.off)):=fun W hb=>(hb.cell (p:=⟨ad.block,ad.off+1,none⟩) hab0).trans (by have h:=HL0.out 1 _ rfl;rw[e00] at h;exact h)
 have HD0:Hid (∀W,Below w.heap.size w W→W.cell? ⟨ad.block,ad.off+2,none⟩=some (.bool x0.dst)):=fun W hb=>(hb.cell (p:=⟨ad.block,ad.off+2,none⟩) hab0).trans (by have h:=HL0.out 2 _ rfl;rw[e00] at h;exact h)
 by_cases hone:n=1∧x0.dst=false
 ·obtain⟨h1,h2⟩:=hone;have hl1:l.length=1:=by rw[hn,h1]
  have hfd:Rc.fitted l y=Rc.plain x0.off:=by
   unfold Rc.fitted;rw[Rc.getD_some Hx0.out,if_pos ⟨hl1,h2⟩]
  have hm0:x0∈l:=List.mem_of_getElem? Hx0.out;have h60:=hft.min x0 hm0;have hnr:=hft.near x0 hm0;have HPl:=ak fun W=>rcPlain_ok x0.off W h60 (by unfold Rc.near;simp;omega)
  have hlt:(0:Int)<(n:Int):=by omega
  rw[← hX,hfd];simp only[Rc.R.v_arr] at HPl ⊢;have p1:((n:Int) == 1)=true:=by rw[beq_iff_eq];omega
  rw[h2] at HD0;clear hX hfd hm0 h60 hnr hl1 hft hn0 hfew hw ho hn hR HL0 hL hy h1 h2;obtain⟨V1,gR,HEV1,HGgR,HS⟩:=(St.start w).lay #[.int .i32 0,.int .i32 0,.int .i32 0,.int .u16 0,.int .u16 0,.int .u16 0,.int .u16 0,.int .u16 0,.int .u16 0,.int .u16 0,.int .u16 0,.int .u16 0,.int .u16 0,.int .u16 0,.int .u16 0,.int .u16 0,.int .u16 0,.int .u16 0,.int .u16 0] 49;have c1:=HC0.out _ HS.out.b;have d1:=HD0.out _ HS.out.b;go_enter Tryz.func142,Tryz.ntmps142
  go_upto_region 1 with fail
  rw[HEV1.out]
  try rw[HGgR.out]
  go_wp2_with fail
  refine(HPl.out _).mono ?_;rintro e V2 ⟨rfl,hb⟩;replace HS:=ak (HS.out.call hb);clear hb;go_wp2_with (refine wpList_store_all rfl 49 _ _ rfl (gR) rfl (Rc.plain x0.off).arr rfl _ (HS.out.get 0 rfl) (by rfl) (by kernel_rfl) (by first|exact Sm.S.arr_one _|exact Rc.R.arr_one _|simp[Value.oneCell']) ?_;intro V3 hAn hMn)
  replace HS:Hid (St w V3 [(gR,(Rc.plain x0.off).arr.toList)]):=HS.out.put 0 rfl hMn hAn;clear hMn hAn;refine bodyPost_ret (res_ct (p:=6) (q:=7) rfl (HS.out.get 0 rfl) _ Tryz.underlying49 rfl (by kernel_rfl) rfl rfl) rfl ⟨rfl,HS.out.b⟩
 ·have hfd:Rc.fitted l y=Rc.make (Rc.offOf false l) (Rc.offOf true l) (Rc.ats l y).1 (Rc.ats l y).2:=by
   unfold Rc.fitted;rw[Rc.getD_some Hx0.out,hn,if_neg hone]
  have hal:∀d,(Rc.offOf d l) % 60=0∧-86400≤Rc.offOf d l∧Rc.offOf d l≤86400:=fun d=>by
   have key:∀(m:List Ln.Sp) (a:Int),(∀p∈m,p.off % 60=0∧-86400≤p.off∧p.off≤86400)→(a % 60=0∧-86400≤a∧a≤86400)→(m.foldl (fun a p=>if p.dst=d then p.off else a) a % 60=0∧-86400≤m.foldl (fun a p=>if p.dst=d then p.off else a) a∧m.foldl (fun a p=>if p.dst=d then p.off else a) a≤86400):=by
    intro m
    induction m with
    |nil=>exact fun a _ h=>h
    |cons p m ih=>
     intro a hm h;refine ih _ (fun q hq=>hm q (by simp[hq])) ?_
     by_cases hd:p.dst=d
     ·simp only[if_pos hd];exact hm p (by simp)
     ·simp only[if_neg hd];exact h
   exact key l 0 (fun p hp=>⟨hft.min p hp,hft.near p hp⟩) (by decide)
  have hEn:=fun W (hb:Below w.heap.size w W)=>ftEnds_any y W (hL.below hb) hy
  have hSp:=fun(k:Nat) (p q:Ln.Sp) (W:World) (hb:Below w.heap.size w W) (h1:l[k]?=some p) (h2:l[k+1]?=some q) (hne:q.fr+p.off≠Oc.D (y+1)*86400)=>ftStamp_any y (q.fr+p.off) W (hL.below hb) hy (hft.date k q p h1 h2).1 (by have:=(hft.date k q p h1 h2).2;omega)
  have hfst:=Rc.first_fine hy;have hlst:=(⟨(Rc.last_fine hy).1,(Rc.last_fine hy).2.1⟩:Sm.U (Rc.last y)∧Sm.Fine (Rc.last y))
  have hsat:=fun(k:Nat) (p q:Ln.Sp) (h1:l[k]?=some p) (h2:l[k+1]?=some q)=>Rc.at_fine hy (hft.date k q p h1 h2).1 (hft.date k q p h1 h2).2
  have hMk:=fun W (a b:Sm.S) (hb:Below w.heap.size w W) ha hb'=>rcMake_ok (Rc.offOf false l) (Rc.offOf true l) a b W (hL.below hb) (hal false).1 (hal false).2 (hal true).1 (hal true).2 ha hb'
  have hobd:∀d,-86400≤Rc.offOf d l∧Rc.offOf d l≤86400:=fun d=>(hal d).2
  have hst0:=Rc.ats_start (y:=y) Hx0.out;have hbeg:Rc.begun l y=(if 0<Rc.offOf true l then Rc.first y else Rc.last y,if 0≤Rc.offOf false l then Rc.first y else Rc.last y):=rfl;have hbd:=fun(p:Ln.Sp) (hp:p∈l)=>(hft.near p hp)
  have hfrb:∀p∈l,-20000000000≤p.fr∧p.fr≤300000000000:=fun p hp=>by
   have a:=Oc.D_mono (y:=1601) (z:=y) (by omega);have b:=Oc.D_mono (y:=y+1) (z:=10000) (by omega);have e1:Oc.D 1601=-134774:=(by decide);have e2:Oc.D 10000=2932897:=(by decide);have h2:=ho.te p hp;obtain⟨j,hj⟩:=List.mem_iff_getElem?.1 hp;have h1:=ho.right.mono j 0 x0 p Hx0.out (by rw[Nat.zero_add];exact hj);have h0:=ho.fr x0 Hx0.out;omega
  rw[← hX,hfd];simp only[Rc.R.v_arr,Sm.S.v_arr] at hMk hEn hSp ⊢;obtain⟨te,hte⟩:=aj (Oc.D (y+1)*86400)
  have hpt:∀c,Rc.stampAt y c=if c=te then Rc.last y else Sm.ofClock c:=fun c=>by rw[← hte];rfl
  rw[hte];simp only[hte] at hSp;have HBd:=ak hbd;have HFb0:=ak hfrb;have HEn:=ak hEn;have HSp:=ak hSp;have HMk:=ak hMk;have HOb:=ak hobd;have HFst:=ak hfst;have HLst:=ak hlst;have HSat:=ak hsat;have HSt0:=ak hst0;have HBeg:=ak hbeg;have HPt:=ak hpt;have HN:=ak hn;have HR:=ak hR;have HC:Hid (n≤c):=hnc;obtain⟨F,hF⟩:=aj (Rc.first y)
  obtain⟨L,hL2⟩:=aj (Rc.last y)
  obtain⟨⟨fa,fb⟩,hats⟩:∃q,Rc.ats l y=q:=⟨_,rfl⟩
  rw[hF,hL2] at HBeg;rw[hF] at HEn HFst;rw[hL2] at HEn HLst HPt;rw[hats] at HSt0 ⊢;simp only;have hb0:=hobd false;have hb1:=hobd true;obtain⟨o0,ho0⟩:=aj (Rc.offOf false l)
  obtain⟨o1,ho1⟩:=aj (Rc.offOf true l)
  rw[ho0,ho1] at HBeg ⊢;simp only[ho0,ho1] at HMk hb0 hb1;have HO0:=ak ho0;have HO1:=ak ho1;clear ho0 ho1;clear hbd hfrb hEn hSp hMk hobd hfst hlst hsat hst0 hbeg hpt hn hR hnc hF hL2 hats hX hfd hal hft hw ho hL hy HL0 hte;have hlt:(0:Int)<(n:Int):=by omega
  have hg:(n=1∧x0.dst=true)∨(¬n=1):=by
   by_cases h1:n=1
   ·cases h2:x0.dst
    ·exact absurd ⟨h1,h2⟩ hone
    ·exact .inl ⟨h1,rfl⟩
   ·exact .inr h1
  clear hone;obtain⟨Lc,hLc⟩:=aj (L.arr)
  have HLc:=ak hLc;clear hLc;have HG:=ak hg;clear hg;obtain⟨V1,gR,HEV1,HGgR,HS⟩:=(St.start w).lay #[.int .i32 0,.int .i32 0,.int .i32 0,.int .u16 0,.int .u16 0,.int .u16 0,.int .u16 0,.int .u16 0,.int .u16 0,.int .u16 0,.int .u16 0,.int .u16 0,.int .u16 0,.int .u16 0,.int .u16 0,.int .u16 0,.int .u16 0,.int .u16 0,.int .u16 0] 49;go_enter Tryz.func142,Tryz.ntmps142
  go_upto_region 1 with fail
  rw[HEV1.out]
  try rw[HGgR.out]
  go_cut [27] (fun v wx=>v=.bool false∧St w wx [(gR,[.int .i32 0,.int .i32 0,.int .i32 0,.int .u16 0,.int .u16 0,.int .u16 0,.int .u16 0,.int .u16 0,.int .u16 0,.int .u16 0,.int .u16 0,.int .u16 0,.int .u16 0,.int .u16 0,.int .u16 0,.int .u16 0,.int .u16 0,.int .u16 0,.int .u16 0])])
  case first=>
   rcases HG.out with ⟨h1,h2⟩|h1
   ·have p1:((n:Int) == 1)=true:=by rw[beq_iff_eq];omega
    have d1:=HD0.out _ HS.out.b;rw[h2] at d1;clear h1 h2;go_wp2_with fail
    try go_quiet (fail)
    try go_wp2
    go_meet
    exact⟨rfl,by first|exact HS.out|exact HS.out.drewN _|exact HS.out.drew⟩
   ·have p1:((n:Int) == 1)=false:=bqf (by omega);clear h1;go_wp2_with fail
    try go_quiet (fail)
    try go_wp2
    go_meet
    exact⟨rfl,by first|exact HS.out|exact HS.out.drewN _|exact HS.out.drew⟩
  case rest=>
   obtain⟨rfl,hs⟩:=hcut;replace HS:=ak hs;clear hs HG HC0 HD0;go_wp2_with fail
   refine(HEn.out _ HS.out.b).mono ?_;rintro e V2 ⟨rfl,hb⟩;replace HS:=ak (HS.out.call hb);clear hb;obtain⟨gF,HGF⟩:∃q,Hid (V2.heap.size=q):=⟨_,rfl⟩
   have HZ:=ak ((HS.out.new #[.int .u16 0,.int .u16 0,.int .u16 0,.int .u16 0,.int .u16 0,.int .u16 0,.int .u16 0,.int .u16 0] 47).new #[.int .u16 0,.int .u16 0,.int .u16 0,.int .u16 0,.int .u16 0,.int .u16 0,.int .u16 0,.int .u16 0] 47);rw[World.size_alloc] at HZ;go_upto_region 4 with (first|(refine wpList_store_all rfl 47 _ _ rfl V2.heap.size rfl F.arr rfl _ (HZ.out.get 1 rfl) (by rfl) (by kernel_rfl) (by first|exact Sm.S.arr_one _|exact Rc.R.arr_one _|simp[Value.oneCell']) ?_;intro V3 hAn hMn)|(refine wpList_store_all rfl 47 _ _ rfl (V2.heap.size+1) rfl L.arr rfl _ ((HZ.out.put 1 rfl hMn hAn).get 0 rfl) (by rfl) (by kernel_rfl) (by first|exact Sm.S.arr_one _|exact Rc.R.arr_one _|simp[Value.oneCell']) ?_;intro V4 hAm hMm))
   replace HS:=ak ((HZ.out.put 1 rfl hMn hAn).put 0 rfl hMm hAm);rw[HGF.out] at HS;rw[HGF.out];clear HZ hAn hMn hAm hMm;have hLy:=HS.out.lay #[.int .i64 0,.int .i64 0] 159;clear HS;obtain⟨V5,gO,HEV5,HGgO,HS⟩:=hLy;go_wp2_with fail
   rw[HEV5.out]
   try rw[HGgO.out]
   go_loopw [47] (fun i wr=>∃k:Nat,k≤n∧i=.int .i64 (k:Int)∧Hid (St w wr [(gO,[.int .i64 (Rc.offOf false (l.take k)),.int .i64 (Rc.offOf true (l.take k))]),(gF+1,L.arr.toList),(gF,F.arr.toList),(gR,[.int .i32 0,.int .i32 0,.int .i32 0,.int .u16 0,.int .u16 0,.int .u16 0,.int .u16 0,.int .u16 0,.int .u16 0,.int .u16 0,.int .u16 0,.int .u16 0,.int .u16 0,.int .u16 0,.int .u16 0,.int .u16 0,.int .u16 0,.int .u16 0,.int .u16 0])])) (fun i _=>n - (intOf i).toNat)
   case atStart=>exact⟨0,Nat.zero_le _,rfl,by first|exact HS.out|exact HS.out.drewN _|exact HS.out.drew⟩
   case round=>
    clear HS;obtain⟨k,hk,rfl,HS⟩:=hrel
    by_cases hlt:k<n
    ·have q1:=am k
     have q2:(k:Int)<(n:Int):=(by omega);have wk:IntKind.i64.wrap ((k:Int)+1)=(k:Int)+1:=by rw[IntKind.wrap_i64];omega
     obtain⟨_,x,e1,habx,Hx,HLx⟩:=Ix.reads_cells (enc:=Ln.Sp.cells) (m:=3) (fun _=>rfl) HN.out (HR.out.below HS.out.b) hlt;obtain rfl:=Option.some.inj e1;obtain⟨xf,xo,xd⟩:=x;have hs0:=Rc.off_step (d:=false) Hx.out;have hs1:=Rc.off_step (d:=true) Hx.out;simp only at hs0 hs1;have c0:wr.cell? (ad.add (k*3))=some (.int .i64 xf):=HLx.out 0 _ rfl;have c1:wr.cell? ⟨(ad.add (k*3)).block,(ad.add (k*3)).off+1,none⟩=some (.int .i64 xo):=HLx.out 1 _ rfl;have c2:wr.cell? ⟨(ad.add (k*3)).block,(ad.add (k*3)).off+2,none⟩=some (.bool xd):=HLx.out 2 _ rfl;obtain⟨a0,ha0⟩:=aj (Rc.offOf false (l.take k))
     obtain⟨a1,ha1⟩:=aj (Rc.offOf true (l.take k))
     rw[ha0,ha1] at HS;rw[ha0] at hs0;rw[ha1] at hs1;clear HLx ha0 ha1 Hx habx;cases xd with
     |false=>
      rw[if_pos rfl] at hs0;rw[if_neg (by decide)] at hs1;have HS0:=ak hs0;have HS1:=ak hs1;clear hs0 hs1;have hLy:=HS.out.lay #[.int .i64 xf,.int .i64 xo,.bool false] 164;clear HS;obtain⟨Wf1,gP,HEWf1,HGgP,HS⟩:=hLy;go_upto_region 10 with fail
      rw[HEWf1.out]
      try rw[HGgP.out]
      have p0:=cell_regrown ((HS.out.get 0 rfl).cell 0 _ rfl);have p1:=cell_regrown ((HS.out.get 0 rfl).cell 1 _ rfl);have p2:=cell_regrown ((HS.out.get 0 rfl).cell 2 _ rfl);have zP:=(HS.out.get 0 rfl).lt;have zO:=(HS.out.get 1 rfl).lt;have cK:∀dd os,Calls Tryz.prog 174 #[.agg #[.int .i64 xf,.int .i64 xo,.bool false]] (grow (redrawn Wf1 dd) os) fun e w''=>e=.returned (.int .i64 0)∧∃p:Regrown,w''=grow (redrawn Wf1 p.d) p.os:=fun dd os=>Calls.regrown_of (ftKind_any ⟨xf,xo,false⟩ _)
      refine wp_region_tail 5 (by kernel_rfl) (by kernel_rfl) ?_
      repeat (quiet_step (with_reducible exact cK _ _))
      refine wpQuiet_nil ?_;intro V9 hwz;obtain⟨⟨dq,osq⟩,hwz⟩:=hwz;have hb:Below Wf1.heap.size Wf1 V9:=by rw[hwz];exact below_regrown _ _ _
      clear hwz cK p0 p1 p2 zP zO c0 c1 c2;replace HS:=ak (HS.out.call hb);clear hb;have O0:=(HS.out.get 1 rfl).cell 0 _ rfl;have fO0:=(HS.out.get 1 rfl).free 0 _ rfl;have zO:=(HS.out.get 1 rfl).lt;show wpList _ _ _ (_ :: _) _ _
      go_wp2_with fail
      go_roundw
      case rel=>
       refine⟨k+1,by omega,by go_num,?_⟩;rw[HS0.out,HS1.out];have h:=HS.out.put 1 rfl (w':=V9.setCell ⟨gO,0,none⟩ (.int .i64 xo)) ⟨0,[.int .i64 xo],rfl⟩ ((HS.out.get 1 rfl).set 0 (.int .i64 xo));exact⟨h.b,h.z.2.2.2⟩
      case measure=>simp[intOf];omega
     |true=>
      rw[if_neg (by decide)] at hs0;rw[if_pos rfl] at hs1;have HS0:=ak hs0;have HS1:=ak hs1;clear hs0 hs1;have hLy:=HS.out.lay #[.int .i64 xf,.int .i64 xo,.bool true] 164;clear HS;obtain⟨Wt1,gP,HEWt1,HGgP,HS⟩:=hLy;go_upto_region 10 with fail
      rw[HEWt1.out]
      try rw[HGgP.out]
      have p0:=cell_regrown ((HS.out.get 0 rfl).cell 0 _ rfl);have p1:=cell_regrown ((HS.out.get 0 rfl).cell 1 _ rfl);have p2:=cell_regrown ((HS.out.get 0 rfl).cell 2 _ rfl);have zP:=(HS.out.get 0 rfl).lt;have zO:=(HS.out.get 1 rfl).lt;have cK:∀dd os,Calls Tryz.prog 174 #[.agg #[.int .i64 xf,.int .i64 xo,.bool true]] (grow (redrawn Wt1 dd) os) fun e w''=>e=.returned (.int .i64 1)∧∃p:Regrown,w''=grow (redrawn Wt1 p.d) p.os:=fun dd os=>Calls.regrown_of (ftKind_any ⟨xf,xo,true⟩ _)
      refine wp_region_tail 5 (by kernel_rfl) (by kernel_rfl) ?_
      repeat (quiet_step (with_reducible exact cK _ _))
      refine wpQuiet_nil ?_;intro V9 hwz;obtain⟨⟨dq,osq⟩,hwz⟩:=hwz;have hb:Below Wt1.heap.size Wt1 V9:=by rw[hwz];exact below_regrown _ _ _
      clear hwz cK p0 p1 p2 zP zO c0 c1 c2;replace HS:=ak (HS.out.call hb);clear hb;have O1:=(HS.out.get 1 rfl).cell 1 _ rfl;have fO1:=(HS.out.get 1 rfl).free 1 _ rfl;have zO:=(HS.out.get 1 rfl).lt;show wpList _ _ _ (_ :: _) _ _
      go_wp2_with fail
      go_roundw
      case rel=>
       refine⟨k+1,by omega,by go_num,?_⟩;rw[HS0.out,HS1.out];have h:=HS.out.put 1 rfl (w':=V9.setCell ⟨gO,1,none⟩ (.int .i64 xo)) ⟨1,[.int .i64 xo],rfl⟩ ((HS.out.get 1 rfl).set 1 (.int .i64 xo));exact⟨h.b,h.z.2.2.2⟩
      case measure=>simp[intOf];omega
    ·have hkn:k=n:=(by omega);subst hkn;have q2:¬(k:Int)<(k:Int):=(by omega);clear hlt;rw[Rc.off_all HN.out,Rc.off_all HN.out,HO0.out,HO1.out] at HS;go_upto_region 12 with fail
     obtain⟨Ly,Lmo,Ldw,Ld,Lh,Lmi,Ls,Lms⟩:=L;obtain⟨gA,HGgA⟩:∃q,Hid (wr.heap.size=q):=⟨_,rfl⟩
     go_upto_region 13 with (first|(refine wpList_load_arr rfl 47 _ rfl (gF+1) 0 rfl #[.int .u16 Ly,.int .u16 Lmo,.int .u16 Ldw,.int .u16 Ld,.int .u16 Lh,.int .u16 Lmi,.int .u16 Ls,.int .u16 Lms] (HS.out.get 1 rfl).range _ Tryz.underlying47 rfl (by kernel_rfl) ?_)|(refine wpList_store_all rfl 303 _ _ rfl wr.heap.size rfl #[.int .u16 Ly,.int .u16 Lmo,.int .u16 Ldw,.int .u16 Ld,.int .u16 Lh,.int .u16 Lmi,.int .u16 Ls,.int .u16 Lms,.int .u16 Ly,.int .u16 Lmo,.int .u16 Ldw,.int .u16 Ld,.int .u16 Lh,.int .u16 Lmi,.int .u16 Ls,.int .u16 Lms] rfl _ (At.new wr #[.int .u16 0,.int .u16 0,.int .u16 0,.int .u16 0,.int .u16 0,.int .u16 0,.int .u16 0,.int .u16 0,.int .u16 0,.int .u16 0,.int .u16 0,.int .u16 0,.int .u16 0,.int .u16 0,.int .u16 0,.int .u16 0] 303) (by rfl) (by kernel_rfl) (by first|exact Sm.S.arr_one _|exact Rc.R.arr_one _|simp[Value.oneCell']) ?_;intro U1 hAn hMn))
     rw[HGgA.out];replace HS:=ak (HS.out.laid #[.int .u16 0,.int .u16 0,.int .u16 0,.int .u16 0,.int .u16 0,.int .u16 0,.int .u16 0,.int .u16 0,.int .u16 0,.int .u16 0,.int .u16 0,.int .u16 0,.int .u16 0,.int .u16 0,.int .u16 0,.int .u16 0] 303 hMn hAn);rw[HGgA.out] at HS;clear hMn hAn;have hq:(0≤o0∧0<o1)∨(0≤o0∧¬0<o1)∨(¬0≤o0∧0<o1)∨(¬0≤o0∧¬0<o1):=(by omega);rcases hq with ⟨h0,h1⟩|⟨h0,h1⟩|⟨h0,h1⟩|⟨h0,h1⟩
     case' inl=>
      have O0:=(HS.out.get 1 rfl).cell 0 _ rfl;have zO:=(HS.out.get 1 rfl).lt;go_upto_region 15 with (first|(refine wpList_load_arr rfl 47 _ rfl (gF) 0 rfl (F.arr) (HS.out.get 3 rfl).range _ Tryz.underlying47 rfl (by kernel_rfl) ?_)|(refine wpList_store_arr rfl 47 _ _ rfl (gA) 8 rfl (F.arr) rfl _ (HS.out.get 0 rfl) (Nat.le_of_ble_eq_true rfl) (by kernel_rfl) (by first|exact Sm.S.arr_one _|exact Rc.R.arr_one _|simp[Value.oneCell']) ?_;intro T111 hAn hMn))
      replace HS:Hid (St w T111 [(gA,Rc.pr (Sm.S.mk Ly Lmo Ldw Ld Lh Lmi Ls Lms) F),(gO,[.int .i64 o0,.int .i64 o1]),(gF+1,(Sm.S.arr (Sm.S.mk Ly Lmo Ldw Ld Lh Lmi Ls Lms)).toList),(gF,F.arr.toList),(gR,[.int .i32 0,.int .i32 0,.int .i32 0,.int .u16 0,.int .u16 0,.int .u16 0,.int .u16 0,.int .u16 0,.int .u16 0,.int .u16 0,.int .u16 0,.int .u16 0,.int .u16 0,.int .u16 0,.int .u16 0,.int .u16 0,.int .u16 0,.int .u16 0,.int .u16 0])]):=HS.out.put 0 rfl hMn hAn;clear hMn hAn;clear O0 zO;have O1:=(HS.out.get 1 rfl).cell 1 _ rfl;have zO:=(HS.out.get 1 rfl).lt;go_upto_region 17 with (first|(refine wpList_load_arr rfl 47 _ rfl (gF) 0 rfl (F.arr) (HS.out.get 3 rfl).range _ Tryz.underlying47 rfl (by kernel_rfl) ?_)|(refine wpList_store_arr rfl 47 _ _ rfl (gA) 0 rfl (F.arr) rfl _ (HS.out.get 0 rfl) (Nat.le_of_ble_eq_true rfl) (by kernel_rfl) (by first|exact Sm.S.arr_one _|exact Rc.R.arr_one _|simp[Value.oneCell']) ?_;intro T112 hAn hMn))
      replace HS:Hid (St w T112 [(gA,Rc.pr F F),(gO,[.int .i64 o0,.int .i64 o1]),(gF+1,(Sm.S.arr (Sm.S.mk Ly Lmo Ldw Ld Lh Lmi Ls Lms)).toList),(gF,F.arr.toList),(gR,[.int .i32 0,.int .i32 0,.int .i32 0,.int .u16 0,.int .u16 0,.int .u16 0,.int .u16 0,.int .u16 0,.int .u16 0,.int .u16 0,.int .u16 0,.int .u16 0,.int .u16 0,.int .u16 0,.int .u16 0,.int .u16 0,.int .u16 0,.int .u16 0,.int .u16 0])]):=HS.out.put 0 rfl hMn hAn;clear hMn hAn;clear O1 zO;obtain⟨X,hX⟩:=aj (T112)
      rw[hX] at HS ⊢;clear hX;have HFJ:Hid (Rc.FJ l y w gA [(gO,[.int .i64 o0,.int .i64 o1]),(gF+1,(Sm.S.arr (Sm.S.mk Ly Lmo Ldw Ld Lh Lmi Ls Lms)).toList),(gF,F.arr.toList),(gR,[.int .i32 0,.int .i32 0,.int .i32 0,.int .u16 0,.int .u16 0,.int .u16 0,.int .u16 0,.int .u16 0,.int .u16 0,.int .u16 0,.int .u16 0,.int .u16 0,.int .u16 0,.int .u16 0,.int .u16 0,.int .u16 0,.int .u16 0,.int .u16 0,.int .u16 0])] fa fb 0 X):=⟨F,F,x0,HS.out,Hx0.out,by rw[HSt0.out,HBeg.out,if_pos h1,if_pos h0],HFst.out,HFst.out⟩
      clear HS h0 h1
     case' inr.inl=>
      have O0:=(HS.out.get 1 rfl).cell 0 _ rfl;have zO:=(HS.out.get 1 rfl).lt;go_upto_region 15 with (first|(refine wpList_load_arr rfl 47 _ rfl (gF) 0 rfl (F.arr) (HS.out.get 3 rfl).range _ Tryz.underlying47 rfl (by kernel_rfl) ?_)|(refine wpList_store_arr rfl 47 _ _ rfl (gA) 8 rfl (F.arr) rfl _ (HS.out.get 0 rfl) (Nat.le_of_ble_eq_true rfl) (by kernel_rfl) (by first|exact Sm.S.arr_one _|exact Rc.R.arr_one _|simp[Value.oneCell']) ?_;intro T101 hAn hMn))
      replace HS:Hid (St w T101 [(gA,Rc.pr (Sm.S.mk Ly Lmo Ldw Ld Lh Lmi Ls Lms) F),(gO,[.int .i64 o0,.int .i64 o1]),(gF+1,(Sm.S.arr (Sm.S.mk Ly Lmo Ldw Ld Lh Lmi Ls Lms)).toList),(gF,F.arr.toList),(gR,[.int .i32 0,.int .i32 0,.int .i32 0,.int .u16 0,.int .u16 0,.int .u16 0,.int .u16 0,.int .u16 0,.int .u16 0,.int .u16 0,.int .u16 0,.int .u16 0,.int .u16 0,.int .u16 0,.int .u16 0,.int .u16 0,.int .u16 0,.int .u16 0,.int .u16 0])]):=HS.out.put 0 rfl hMn hAn;clear hMn hAn;clear O0 zO;have O1:=(HS.out.get 1 rfl).cell 1 _ rfl;have zO:=(HS.out.get 1 rfl).lt;go_upto_region 17 with fail
      clear O1 zO;obtain⟨X,hX⟩:=aj (T101)
      rw[hX] at HS ⊢;clear hX;have HFJ:Hid (Rc.FJ l y w gA [(gO,[.int .i64 o0,.int .i64 o1]),(gF+1,(Sm.S.arr (Sm.S.mk Ly Lmo Ldw Ld Lh Lmi Ls Lms)).toList),(gF,F.arr.toList),(gR,[.int .i32 0,.int .i32 0,.int .i32 0,.int .u16 0,.int .u16 0,.int .u16 0,.int .u16 0,.int .u16 0,.int .u16 0,.int .u16 0,.int .u16 0,.int .u16 0,.int .u16 0,.int .u16 0,.int .u16 0,.int .u16 0,.int .u16 0,.int .u16 0,.int .u16 0])] fa fb 0 X):=⟨(Sm.S.mk Ly Lmo Ldw Ld Lh Lmi Ls Lms),F,x0,HS.out,Hx0.out,by rw[HSt0.out,HBeg.out,if_neg h1,if_pos h0],HLst.out,HFst.out⟩
      clear HS h0 h1
     case' inr.inr.inl=>
      have O0:=(HS.out.get 1 rfl).cell 0 _ rfl;have zO:=(HS.out.get 1 rfl).lt;go_upto_region 15 with fail
      clear O0 zO;have O1:=(HS.out.get 1 rfl).cell 1 _ rfl;have zO:=(HS.out.get 1 rfl).lt;go_upto_region 17 with (first|(refine wpList_load_arr rfl 47 _ rfl (gF) 0 rfl (F.arr) (HS.out.get 3 rfl).range _ Tryz.underlying47 rfl (by kernel_rfl) ?_)|(refine wpList_store_arr rfl 47 _ _ rfl (gA) 0 rfl (F.arr) rfl _ (HS.out.get 0 rfl) (Nat.le_of_ble_eq_true rfl) (by kernel_rfl) (by first|exact Sm.S.arr_one _|exact Rc.R.arr_one _|simp[Value.oneCell']) ?_;intro T011 hAn hMn))
      replace HS:Hid (St w T011 [(gA,Rc.pr F (Sm.S.mk Ly Lmo Ldw Ld Lh Lmi Ls Lms)),(gO,[.int .i64 o0,.int .i64 o1]),(gF+1,(Sm.S.arr (Sm.S.mk Ly Lmo Ldw Ld Lh Lmi Ls Lms)).toList),(gF,F.arr.toList),(gR,[.int .i32 0,.int .i32 0,.int .i32 0,.int .u16 0,.int .u16 0,.int .u16 0,.int .u16 0,.int .u16 0,.int .u16 0,.int .u16 0,.int .u16 0,.int .u16 0,.int .u16 0,.int .u16 0,.int .u16 0,.int .u16 0,.int .u16 0,.int .u16 0,.int .u16 0])]):=HS.out.put 0 rfl hMn hAn;clear hMn hAn;clear O1 zO;obtain⟨X,hX⟩:=aj (T011)
      rw[hX] at HS ⊢;clear hX;have HFJ:Hid (Rc.FJ l y w gA [(gO,[.int .i64 o0,.int .i64 o1]),(gF+1,(Sm.S.arr (Sm.S.mk Ly Lmo Ldw Ld Lh Lmi Ls Lms)).toList),(gF,F.arr.toList),(gR,[.int .i32 0,.int .i32 0,.int .i32 0,.int .u16 0,.int .u16 0,.int .u16 0,.int .u16 0,.int .u16 0,.int .u16 0,.int .u16 0,.int .u16 0,.int .u16 0,.int .u16 0,.int .u16 0,.int .u16 0,.int .u16 0,.int .u16 0,.int .u16 0,.int .u16 0])] fa fb 0 X):=⟨F,(Sm.S.mk Ly Lmo Ldw Ld Lh Lmi Ls Lms),x0,HS.out,Hx0.out,by rw[HSt0.out,HBeg.out,if_pos h1,if_neg h0],HFst.out,HLst.out⟩
      clear HS h0 h1
     case' inr.inr.inr=>
      have O0:=(HS.out.get 1 rfl).cell 0 _ rfl;have zO:=(HS.out.get 1 rfl).lt;go_upto_region 15 with fail
      clear O0 zO;have O1:=(HS.out.get 1 rfl).cell 1 _ rfl;have zO:=(HS.out.get 1 rfl).lt;go_upto_region 17 with fail
      clear O1 zO;obtain⟨X,hX⟩:=aj (U1)
      rw[hX] at HS ⊢;clear hX;have HFJ:Hid (Rc.FJ l y w gA [(gO,[.int .i64 o0,.int .i64 o1]),(gF+1,(Sm.S.arr (Sm.S.mk Ly Lmo Ldw Ld Lh Lmi Ls Lms)).toList),(gF,F.arr.toList),(gR,[.int .i32 0,.int .i32 0,.int .i32 0,.int .u16 0,.int .u16 0,.int .u16 0,.int .u16 0,.int .u16 0,.int .u16 0,.int .u16 0,.int .u16 0,.int .u16 0,.int .u16 0,.int .u16 0,.int .u16 0,.int .u16 0,.int .u16 0,.int .u16 0,.int .u16 0])] fa fb 0 X):=⟨(Sm.S.mk Ly Lmo Ldw Ld Lh Lmi Ls Lms),(Sm.S.mk Ly Lmo Ldw Ld Lh Lmi Ls Lms),x0,HS.out,Hx0.out,by rw[HSt0.out,HBeg.out,if_neg h1,if_neg h0],HLst.out,HLst.out⟩
      clear HS h0 h1
     all_goals
      clear HSt0 HBeg;go_wp2_with fail
      go_loopw [15] (fun i wr=>∃j:Nat,j+1≤k∧i=.int .i64 ((j:Int)+1)∧Hid (Rc.FJ l y w gA [(gO,[.int .i64 o0,.int .i64 o1]),(gF+1,(Sm.S.arr (Sm.S.mk Ly Lmo Ldw Ld Lh Lmi Ls Lms)).toList),(gF,F.arr.toList),(gR,[.int .i32 0,.int .i32 0,.int .i32 0,.int .u16 0,.int .u16 0,.int .u16 0,.int .u16 0,.int .u16 0,.int .u16 0,.int .u16 0,.int .u16 0,.int .u16 0,.int .u16 0,.int .u16 0,.int .u16 0,.int .u16 0,.int .u16 0,.int .u16 0,.int .u16 0])] fa fb j wr)) (fun i _=>k - (intOf i).toNat)
      case atStart=>exact⟨0,by omega,rfl,by first|exact HFJ.out|exact(Rc.FJ.drew HFJ.out)⟩
      case round=>
       clear HFJ;obtain⟨j,hj,rfl,HFJ⟩:=hrel;obtain⟨a,b,x,hst,hx,hpu,hfa,hfb⟩:=HFJ.out;have HS:=ak hst;have HX:=ak hx;have HPu:=ak hpu;have HFa:=ak hfa;have HFb:=ak hfb;clear HFJ hst hx hpu hfa hfb
       by_cases hlt:j+1<k
       ·have q1:=am j
        have q4:(0:Int)≤(j:Int)+1:=(by omega);have q3:(j:Int)+1<(k:Int):=(by omega);have q5:(j:Int)<(k:Int):=(by omega);have wk:IntKind.i64.wrap ((j:Int)+1+1)=(j:Int)+1+1:=by rw[IntKind.wrap_i64];omega
        have wm:IntKind.i64.wrap ((j:Int)+1 - 1)=(j:Int):=by rw[IntKind.wrap_i64];omega
        have wj:IntKind.i64.wrap (j:Int)=(j:Int):=by rw[IntKind.wrap_i64];omega
        have tn:((j:Int)+1).toNat=j+1:=(by omega);obtain⟨_,x2,e1,habx2,Hx2,HLx2⟩:=Ix.reads_cells (enc:=Ln.Sp.cells) (m:=3) (fun _=>rfl) HN.out (HR.out.below HS.out.b) (show j<k by omega);obtain rfl:=Option.some.inj e1;have c0:wr.cell? (ad.add (j*3))=some (.int .i64 x2.fr):=HLx2.out 0 _ rfl;have c1:wr.cell? ⟨(ad.add (j*3)).block,(ad.add (j*3)).off+1,none⟩=some (.int .i64 x2.off):=HLx2.out 1 _ rfl;have c2:wr.cell? ⟨(ad.add (j*3)).block,(ad.add (j*3)).off+2,none⟩=some (.bool x2.dst):=HLx2.out 2 _ rfl;obtain rfl:x2=x:=Option.some.inj (Hx2.out.symm.trans HX.out);obtain⟨_,z,e1,habz,Hz,HLz⟩:=Ix.reads_cells (enc:=Ln.Sp.cells) (m:=3) (fun _=>rfl) HN.out (HR.out.below HS.out.b) hlt;obtain rfl:=Option.some.inj e1;have d0:wr.cell? (ad.add ((j+1)*3))=some (.int .i64 z.fr):=HLz.out 0 _ rfl;have d1:wr.cell? ⟨(ad.add ((j+1)*3)).block,(ad.add ((j+1)*3)).off+1,none⟩=some (.int .i64 z.off):=HLz.out 1 _ rfl;have d2:wr.cell? ⟨(ad.add ((j+1)*3)).block,(ad.add ((j+1)*3)).off+2,none⟩=some (.bool z.dst):=HLz.out 2 _ rfl;have b1:=HBd.out _ (List.mem_of_getElem? HX.out);have b2:=HFb0.out _ (List.mem_of_getElem? Hz.out);have wc:IntKind.i64.wrap (z.fr+x2.off)=z.fr+x2.off:=by rw[IntKind.wrap_i64];omega
        have hne:=fun W hb (h:z.fr+x2.off≠te)=>HSp.out j x2 z W hb HX.out Hz.out h
        have hsf:=HSat.out j x2 z HX.out Hz.out;have hps:=Rc.puts_step (y:=y) (p:=x2) (x:=(a,b)) Hz.out;rw[HPu.out] at hps;have hpt:=HPt.out (z.fr+x2.off);obtain⟨cc,hcc⟩:=aj (z.fr+x2.off)
        rw[hcc] at wc hps hpt hsf;simp only[hcc] at hne;have HNe:=ak hne;have HSf:=ak hsf;have HPs:=ak hps;have HPt1:=ak hpt;have zx:=block_lt_of_cell c1;have zz:=block_lt_of_cell d0;have g1:=cell_regrown c1;have g0:=cell_regrown d0;clear HLx2 HLz b1 b2 hne hsf hps hpt HPu Hx2;go_upto_region 20 with fail
        refine wp_region_tail 12 (by kernel_rfl) (by kernel_rfl) ?_
        repeat (quiet_step (fail))
        refine wpQuiet_nil ?_;intro V9 hwz;obtain⟨⟨dq,osq⟩,hwz⟩:=hwz;have hb:Below wr.heap.size wr V9:=by rw[hwz];exact below_regrown _ _ _
        have e0:=(hb.cell (p:=ad.add ((j+1)*3)) zz).trans d0;have e1:=(hb.cell (p:=⟨(ad.add ((j+1)*3)).block,(ad.add ((j+1)*3)).off+1,none⟩) zz).trans d1;have e2:=(hb.cell (p:=⟨(ad.add ((j+1)*3)).block,(ad.add ((j+1)*3)).off+2,none⟩) zz).trans d2;have HZV:Hid ((ad.add ((j+1)*3)).block<V9.heap.size):=Nat.lt_of_lt_of_le zz hb.size;clear hwz g1 g0 c0 c1 c2 d0 d1 d2 zx zz habx2 habz hcc;show wpList _ _ _ (_ :: _) _ _
        replace HS:=ak (HS.out.call hb);clear hb;obtain⟨gS,HGgS⟩:∃q,Hid (V9.heap.size=q):=⟨_,rfl⟩
        go_upto_region 22 with (first|(refine wpList_load_arr rfl 47 _ rfl (gF+1) 0 rfl #[.int .u16 Ly,.int .u16 Lmo,.int .u16 Ldw,.int .u16 Ld,.int .u16 Lh,.int .u16 Lmi,.int .u16 Ls,.int .u16 Lms] (HS.out.get 2 rfl).range _ Tryz.underlying47 rfl (by kernel_rfl) ?_)|(refine wpList_store_all rfl 47 _ _ rfl V9.heap.size rfl #[.int .u16 Ly,.int .u16 Lmo,.int .u16 Ldw,.int .u16 Ld,.int .u16 Lh,.int .u16 Lmi,.int .u16 Ls,.int .u16 Lms] rfl _ (At.new V9 #[.int .u16 0,.int .u16 0,.int .u16 0,.int .u16 0,.int .u16 0,.int .u16 0,.int .u16 0,.int .u16 0] 47) (by rfl) (by kernel_rfl) (by first|exact Sm.S.arr_one _|exact Rc.R.arr_one _|simp[Value.oneCell']) ?_;intro X1 hAn hMn))
        rw[HGgS.out];replace HS:=ak (HS.out.laid #[.int .u16 0,.int .u16 0,.int .u16 0,.int .u16 0,.int .u16 0,.int .u16 0,.int .u16 0,.int .u16 0] 47 hMn hAn);rw[HGgS.out] at HS;clear hMn hAn
        skip
        by_cases hct:cc=te
        case' pos=>
         have b1:(cc == te)=true:=by rw[beq_iff_eq];exact hct
         have b2:(cc != te)=false:=by rw[bne_eq_false_iff_eq];exact hct
         have HE:Hid (Rc.stampAt y cc=⟨Ly,Lmo,Ldw,Ld,Lh,Lmi,Ls,Lms⟩):=by
          show _=_
          rw[HPt1.out,if_pos hct]
         go_upto_region 26 with fail
         obtain⟨X2,hX2⟩:=aj (X1)
         rw[hX2] at HS ⊢;clear hX2 b1 b2 hct;have HS2:Hid (∃s:Sm.S,Rc.stampAt y cc=s∧St w X2 ((gS,s.arr.toList) :: (gA,Rc.pr a b) :: [(gO,[.int .i64 o0,.int .i64 o1]),(gF+1,(Sm.S.arr (Sm.S.mk Ly Lmo Ldw Ld Lh Lmi Ls Lms)).toList),(gF,F.arr.toList),(gR,[.int .i32 0,.int .i32 0,.int .i32 0,.int .u16 0,.int .u16 0,.int .u16 0,.int .u16 0,.int .u16 0,.int .u16 0,.int .u16 0,.int .u16 0,.int .u16 0,.int .u16 0,.int .u16 0,.int .u16 0,.int .u16 0,.int .u16 0,.int .u16 0,.int .u16 0])])):=⟨_,HE.out,HS.out⟩
         clear HS HE HNe
        case' neg=>
         have b1:(cc == te)=false:=by rw[beq_eq_false_iff_ne];exact hct
         have b2:(cc != te)=true:=by rw[bne_iff_ne];exact hct
         have HE:Hid (Rc.stampAt y cc=Sm.ofClock cc):=by
          show _=_
          rw[HPt1.out,if_neg hct]
         go_wp2_with fail
         refine(HNe.out _ HS.out.b hct).mono ?_;rintro e Y1 ⟨rfl,hb⟩;have HZ9:=HZV;replace HS:=ak (HS.out.call hb);clear hb;go_upto_region 26 with (refine wpList_store_all rfl 47 _ _ rfl (gS) rfl (Sm.ofClock cc).arr rfl _ (HS.out.get 0 rfl) (by rfl) (by kernel_rfl) (by first|exact Sm.S.arr_one _|exact Rc.R.arr_one _|simp[Value.oneCell']) ?_;intro Y2 hAn hMn)
         replace HS:Hid (St w Y2 [(gS,(Sm.ofClock cc).arr.toList),(gA,Rc.pr a b),(gO,[.int .i64 o0,.int .i64 o1]),(gF+1,(Sm.S.arr (Sm.S.mk Ly Lmo Ldw Ld Lh Lmi Ls Lms)).toList),(gF,F.arr.toList),(gR,[.int .i32 0,.int .i32 0,.int .i32 0,.int .u16 0,.int .u16 0,.int .u16 0,.int .u16 0,.int .u16 0,.int .u16 0,.int .u16 0,.int .u16 0,.int .u16 0,.int .u16 0,.int .u16 0,.int .u16 0,.int .u16 0,.int .u16 0,.int .u16 0,.int .u16 0])]):=HS.out.put 0 rfl hMn hAn;clear hMn hAn;obtain⟨X2,hX2⟩:=aj (Y2)
         rw[hX2] at HS ⊢;clear hX2 b1 b2 hct HZ9;have HS2:Hid (∃s:Sm.S,Rc.stampAt y cc=s∧St w X2 ((gS,s.arr.toList) :: (gA,Rc.pr a b) :: [(gO,[.int .i64 o0,.int .i64 o1]),(gF+1,(Sm.S.arr (Sm.S.mk Ly Lmo Ldw Ld Lh Lmi Ls Lms)).toList),(gF,F.arr.toList),(gR,[.int .i32 0,.int .i32 0,.int .i32 0,.int .u16 0,.int .u16 0,.int .u16 0,.int .u16 0,.int .u16 0,.int .u16 0,.int .u16 0,.int .u16 0,.int .u16 0,.int .u16 0,.int .u16 0,.int .u16 0,.int .u16 0,.int .u16 0,.int .u16 0,.int .u16 0])])):=⟨_,HE.out,HS.out⟩
         clear HS HE HNe
        all_goals
         obtain⟨⟨sy,smo,sdw,sd,sh,smi,ss,sms⟩,hse,hss⟩:=HS2.out;have HS:=ak hss;rw[hse] at HPs HSf;have HSE:=ak hse;clear hss hse HS2 HPt1;have hrd:=HR.out.below HS.out.b;obtain⟨_,z2,e4,habz2,Hz2,HLz2⟩:=Ix.reads_cells (enc:=Ln.Sp.cells) (m:=3) (fun _=>rfl) HN.out hrd hlt;obtain rfl:=Option.some.inj e4;obtain rfl:z2=z:=Option.some.inj (Hz2.out.symm.trans Hz.out);clear e0 e1 e2;obtain⟨zf,zo,zd⟩:=z2;have d0:X2.cell? (ad.add ((j+1)*3))=some (.int .i64 zf):=HLz2.out 0 _ rfl;have d1:X2.cell? ⟨(ad.add ((j+1)*3)).block,(ad.add ((j+1)*3)).off+1,none⟩=some (.int .i64 zo):=HLz2.out 1 _ rfl;have d2:X2.cell? ⟨(ad.add ((j+1)*3)).block,(ad.add ((j+1)*3)).off+2,none⟩=some (.bool zd):=HLz2.out 2 _ rfl;have zz:=block_lt_of_cell d0;clear HLz2 habz2 hrd Hz2;simp only at HPs;cases zd with
         |false=>
          rw[if_neg (by decide)] at HPs;have s0:=cell_regrown ((HS.out.get 0 rfl).cell 0 _ rfl);have s1:=cell_regrown ((HS.out.get 0 rfl).cell 1 _ rfl);have s2:=cell_regrown ((HS.out.get 0 rfl).cell 2 _ rfl);have s3:=cell_regrown ((HS.out.get 0 rfl).cell 3 _ rfl);have s4:=cell_regrown ((HS.out.get 0 rfl).cell 4 _ rfl);have s5:=cell_regrown ((HS.out.get 0 rfl).cell 5 _ rfl);have s6:=cell_regrown ((HS.out.get 0 rfl).cell 6 _ rfl);have s7:=cell_regrown ((HS.out.get 0 rfl).cell 7 _ rfl);have g0:=cell_regrown d0;have g1:=cell_regrown d1;have g2:=cell_regrown d2;have zS:=(HS.out.get 0 rfl).lt;have zA:=(HS.out.get 1 rfl).lt;have cK:∀dd os,Calls Tryz.prog 174 #[.agg #[.int .i64 zf,.int .i64 zo,.bool false]] (grow (redrawn X2 dd) os) fun e w''=>e=.returned (.int .i64 0)∧∃p:Regrown,w''=grow (redrawn X2 p.d) p.os:=fun dd os=>Calls.regrown_of (ftKind_any ⟨zf,zo,false⟩ _)
          refine wp_region_tail 7 (by kernel_rfl) (by kernel_rfl) ?_
          repeat (quiet_step (with_reducible exact cK _ _))
          refine wpQuiet_nil ?_;intro V9 hwz;obtain⟨⟨dq,osq⟩,hwz⟩:=hwz;have hb:Below X2.heap.size X2 V9:=by rw[hwz];exact below_regrown _ _ _
          clear hwz cK g0 g1 g2 zS zA zz d0 d1 d2 s0 s1 s2 s3 s4 s5 s6 s7;replace HS:=ak (HS.out.call hb);clear hb;show wpList _ _ _ (_ :: _) _ _
          go_wp2_with (refine wpList_store_arr rfl 47 _ _ rfl (gA) 0 rfl (Sm.S.arr ⟨sy,smo,sdw,sd,sh,smi,ss,sms⟩) rfl _ (HS.out.get 1 rfl) (Nat.le_of_ble_eq_true rfl) (by kernel_rfl) (by first|exact Sm.S.arr_one _|exact Rc.R.arr_one _|simp[Value.oneCell']) ?_;intro Rf1 hAn hMn)
          replace HS:Hid (St w Rf1 [(gS,(Sm.S.arr ⟨sy,smo,sdw,sd,sh,smi,ss,sms⟩).toList),(gA,Rc.pr ⟨sy,smo,sdw,sd,sh,smi,ss,sms⟩ b),(gO,[.int .i64 o0,.int .i64 o1]),(gF+1,(Sm.S.arr (Sm.S.mk Ly Lmo Ldw Ld Lh Lmi Ls Lms)).toList),(gF,F.arr.toList),(gR,[.int .i32 0,.int .i32 0,.int .i32 0,.int .u16 0,.int .u16 0,.int .u16 0,.int .u16 0,.int .u16 0,.int .u16 0,.int .u16 0,.int .u16 0,.int .u16 0,.int .u16 0,.int .u16 0,.int .u16 0,.int .u16 0,.int .u16 0,.int .u16 0,.int .u16 0])]):=HS.out.put 1 rfl hMn hAn;clear hMn hAn;go_roundw
          case rel=>exact⟨j+1,by omega,by go_num,⟨sy,smo,sdw,sd,sh,smi,ss,sms⟩,b,_,⟨HS.out.b,HS.out.z.2.2.2⟩,Hz.out,HPs.out.symm,HSf.out,HFb.out⟩
          case measure=>simp[intOf];omega
         |true=>
          rw[if_pos rfl] at HPs;have s0:=cell_regrown ((HS.out.get 0 rfl).cell 0 _ rfl);have s1:=cell_regrown ((HS.out.get 0 rfl).cell 1 _ rfl);have s2:=cell_regrown ((HS.out.get 0 rfl).cell 2 _ rfl);have s3:=cell_regrown ((HS.out.get 0 rfl).cell 3 _ rfl);have s4:=cell_regrown ((HS.out.get 0 rfl).cell 4 _ rfl);have s5:=cell_regrown ((HS.out.get 0 rfl).cell 5 _ rfl);have s6:=cell_regrown ((HS.out.get 0 rfl).cell 6 _ rfl);have s7:=cell_regrown ((HS.out.get 0 rfl).cell 7 _ rfl);have g0:=cell_regrown d0;have g1:=cell_regrown d1;have g2:=cell_regrown d2;have zS:=(HS.out.get 0 rfl).lt;have zA:=(HS.out.get 1 rfl).lt;have cK:∀dd os,Calls Tryz.prog 174 #[.agg #[.int .i64 zf,.int .i64 zo,.bool true]] (grow (redrawn X2 dd) os) fun e w''=>e=.returned (.int .i64 1)∧∃p:Regrown,w''=grow (redrawn X2 p.d) p.os:=fun dd os=>Calls.regrown_of (ftKind_any ⟨zf,zo,true⟩ _)
          refine wp_region_tail 7 (by kernel_rfl) (by kernel_rfl) ?_
          repeat (quiet_step (with_reducible exact cK _ _))
          refine wpQuiet_nil ?_;intro V9 hwz;obtain⟨⟨dq,osq⟩,hwz⟩:=hwz;have hb:Below X2.heap.size X2 V9:=by rw[hwz];exact below_regrown _ _ _
          clear hwz cK g0 g1 g2 zS zA zz d0 d1 d2 s0 s1 s2 s3 s4 s5 s6 s7;replace HS:=ak (HS.out.call hb);clear hb;show wpList _ _ _ (_ :: _) _ _
          go_wp2_with (refine wpList_store_arr rfl 47 _ _ rfl (gA) 8 rfl (Sm.S.arr ⟨sy,smo,sdw,sd,sh,smi,ss,sms⟩) rfl _ (HS.out.get 1 rfl) (Nat.le_of_ble_eq_true rfl) (by kernel_rfl) (by first|exact Sm.S.arr_one _|exact Rc.R.arr_one _|simp[Value.oneCell']) ?_;intro Rt1 hAn hMn)
          replace HS:Hid (St w Rt1 [(gS,(Sm.S.arr ⟨sy,smo,sdw,sd,sh,smi,ss,sms⟩).toList),(gA,Rc.pr a ⟨sy,smo,sdw,sd,sh,smi,ss,sms⟩),(gO,[.int .i64 o0,.int .i64 o1]),(gF+1,(Sm.S.arr (Sm.S.mk Ly Lmo Ldw Ld Lh Lmi Ls Lms)).toList),(gF,F.arr.toList),(gR,[.int .i32 0,.int .i32 0,.int .i32 0,.int .u16 0,.int .u16 0,.int .u16 0,.int .u16 0,.int .u16 0,.int .u16 0,.int .u16 0,.int .u16 0,.int .u16 0,.int .u16 0,.int .u16 0,.int .u16 0,.int .u16 0,.int .u16 0,.int .u16 0,.int .u16 0])]):=HS.out.put 1 rfl hMn hAn;clear hMn hAn;go_roundw
          case rel=>exact⟨j+1,by omega,by go_num,a,⟨sy,smo,sdw,sd,sh,smi,ss,sms⟩,_,⟨HS.out.b,HS.out.z.2.2.2⟩,Hz.out,HPs.out.symm,HFa.out,HSf.out⟩
          case measure=>simp[intOf];omega
       ·have hjk:j+1=k:=(by omega);have q3:¬(j:Int)+1<(k:Int):=(by omega);have hpe:=HPu.out;rw[Rc.puts_end (by rw[HN.out];omega)] at hpe;obtain⟨rfl,rfl⟩:a=fa∧b=fb:=⟨congrArg Prod.fst hpe,congrArg Prod.snd hpe⟩
        clear hpe hjk HPu;have O0:=(HS.out.get 1 rfl).cell 0 _ rfl;have O1:=(HS.out.get 1 rfl).cell 1 _ rfl;have zO:=(HS.out.get 1 rfl).lt;have zA:=(HS.out.get 0 rfl).lt;go_wp2_with (first|(refine wpList_load_arr rfl 47 _ rfl (gA) 0 rfl (a.arr) ((HS.out.get 0 rfl).mid 0 _ (Rc.pr_at0 a b)) _ Tryz.underlying47 rfl (by kernel_rfl) ?_)|(refine wpList_load_arr rfl 47 _ rfl (gA) 8 rfl (b.arr) ((HS.out.get 0 rfl).mid 8 _ (Rc.pr_at8 a b)) _ Tryz.underlying47 rfl (by kernel_rfl) ?_))
        refine(HMk.out _ a b HS.out.b HFa.out HFb.out).mono ?_;rintro e V9 ⟨rfl,hb⟩;clear zA;clear O0 O1 zO;replace HS:=ak (HS.out.call hb);clear hb;go_wp2_with (refine wpList_store_all rfl 49 _ _ rfl (gR) rfl (Rc.make o0 o1 a b).arr rfl _ (HS.out.get 4 rfl) (by rfl) (by kernel_rfl) (by first|exact Sm.S.arr_one _|exact Rc.R.arr_one _|simp[Value.oneCell']) ?_;intro Z1 hAn hMn)
        replace HS:Hid (St w Z1 [(gA,Rc.pr a b),(gO,[.int .i64 o0,.int .i64 o1]),(gF+1,(Sm.S.arr (Sm.S.mk Ly Lmo Ldw Ld Lh Lmi Ls Lms)).toList),(gF,F.arr.toList),(gR,(Rc.make o0 o1 a b).arr.toList)]):=HS.out.put 4 rfl hMn hAn;clear hMn hAn;refine bodyPost_ret (res_ct (p:=6) (q:=7) rfl (HS.out.get 4 rfl) _ Tryz.underlying49 rfl (by kernel_rfl) rfl rfl) rfl ⟨rfl,HS.out.b⟩
end Go.Proofs.YtjobhjemnmleaaaGreatDoor
