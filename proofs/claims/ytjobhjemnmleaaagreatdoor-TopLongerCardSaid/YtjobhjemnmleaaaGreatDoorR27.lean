/- inEra's iterator as a sequence; marks of deferred calls; a yield at any depth. -/
import Derived.Test.YtjobhjemnmleaaaGreatDoorR26
set_option maxRecDepth 200000
set_option maxHeartbeats 16000000
namespace Go.Proofs.YtjobhjemnmleaaaGreatDoor
open Go.RowKit Go.Shelf
attribute [local go_sem] Oper.semAt_some
namespace Ln
theorem room_wide_any (k:Nat):Fence.wide.room k:=room_wide k
theorem round_any {m m':Nat}{P:Program}{l:Nat}{f:FuncId}{tmps:Array Value}{assign body:Code}{w:World}{R:Ending→World→Prop}(h:RoundIn Fence.wide m P l f tmps assign body w R):RoundIn Fence.wide m' P l f tmps assign body w R:=
 ⟨h.1,fun c cs _=>h.2 c cs (room_wide_any _)⟩
theorem round_in {m l':Nat}{P:Program}{l:Nat}{f:FuncId}{tmps:Array Value}{assign body:Code}{w:World}{R:Ending→World→Prop}(h:RoundIn Fence.wide m P l f tmps assign body w R):RoundIn (Fence.wide.inRound l') m P l f tmps assign body w R:=h
def marks (Ds:List Nat):List Deferred:=Ds.map fun D=>{ target:=.collected D,args:=#[] }
structure Mk (B:Nat)(Ds:List Nat)(W:World):Prop where
 nd:Ds.Nodup
 at_:∀D∈Ds,B≤D∧W.heap[D]?=some (.deferred (some []))
theorem Mk.nil (B:Nat)(W:World):Mk B [] W:=⟨List.nodup_nil,fun D h=>(by cases h)⟩
theorem Mk.call {B:Nat}{Ds:List Nat}{W W':World}(h:Mk B Ds W)(hb:Below W.heap.size W W'):Mk B Ds W':=
 ⟨h.nd,fun D hD=>⟨(h.at_ D hD).1,(hb.block D (Array.getElem?_eq_some_iff.1 (h.at_ D hD).2).1).trans (h.at_ D hD).2⟩⟩
theorem Mk.keeps {B:Nat}{Ds:List Nat}{W W':World}(h:Mk B Ds W)(hk:KeepsFrom B W W'):Mk B Ds W':=
 ⟨h.nd,fun D hD=>⟨(h.at_ D hD).1,hk.same D _ (h.at_ D hD).1 (h.at_ D hD).2 rfl⟩⟩
theorem Mk.lt {B:Nat}{Ds:List Nat}{W:World}(h:Mk B Ds W):∀D∈Ds,D<W.heap.size:=fun D hD=>(Array.getElem?_eq_some_iff.1 (h.at_ D hD).2).1
theorem leaves_marks {F:Fence}{n:Nat}{P:Program}{fn:Func}{tmps:Array Value}{R:Ending→World→Prop}{B:Nat}(R':World→Prop)(hput:∀w D,R' w→B≤D→w.heap[D]?=some (.deferred (some []))→R' (w.putObj D (.deferred none)))
  (hend:∀w,R' w→LeavesInM F n P fn tmps R [] .returning w):∀(Ds:List Nat) (w:World),Mk B Ds w→R' w→LeavesInM F n P fn tmps R (marks Ds) .returning w
 |[],w,_,h=>hend w h
 |D :: Ds,w,hm,h=>by
  have hnd:=List.nodup_cons.1 hm.nd;obtain⟨h1,h2⟩:=hm.at_ D List.mem_cons_self;refine⟨by simp,.inl ⟨D,_,rfl,run_takeDeferred h2,?_⟩⟩;refine leaves_marks R' hput hend Ds _ ⟨hnd.2,fun E hE=>⟨(hm.at_ E (List.mem_cons_of_mem _ hE)).1,?_⟩⟩ (hput w D h h1 h2);exact(World.putObj_heap_other (fun e=>hnd.1 (by rw[← e];exact hE))).trans (hm.at_ E (List.mem_cons_of_mem _ hE)).2
end Ln
theorem inEra_stops (n:Nat)(bE bF bD bT gd:Nat)(s:Src.S)(rv zv lv:Value)(evs:List Value)(z:Int)(eA:Option Addr)(m ec:Nat)(fr0 te0:Int)(e:Er.E)(fr te:Int)(w0:World)
  (hD:Ln.Dr s rv zv lv evs z eA m ec fr0 te0 gd w0) (h1:IsTime e.std) (h2:IsTime e.sv) (hlt:fr<te) (hd1:Ln.InDays fr) (hd2:Ln.InDays (te - 1)) (hy1:2≤Ln.yr fr) (hy2:Ln.yr (te - 1)≤9998)
  (W0:World) (hB:Ln.EB bE bF bD bT gd w0.heap.size e fr te w0 W0):
  SeqStopsK Fence.wide (n+1) Tryz.prog 185 #[.pointer (some ⟨bE,0,none⟩),.pointer (some ⟨bF,0,none⟩),.pointer (some ⟨bD,0,none⟩),.pointer (some ⟨bT,0,none⟩)] (fun x:Ln.Sp=>#[x.v]) (Ln.Kp w0.heap.size) (fun ys=>ys=Ln.inEra s.rules e fr te) (fun _=>True) (Ln.inEra s.rules e fr te).length W0:=by
 intro l J Jx W hW hJ _ hY h0;have hJ':∀pre W W',J pre W→Below W.heap.size W W'→J pre W':=fun pre W W' h hb=>hJ pre W W' none h (grown_of_ hb none) (fun r e=>(by cases e))
 have hY':∀pre x W1,J pre W1→pre.length<(Ln.inEra s.rules e fr te).length→YieldAt Fence.wide n Tryz.prog l #[x.v] W1 (Ln.Yd w0.heap.size J Jx pre x W1):=fun pre x W1 h hl=>(hY pre x W1 h hl).mono fun e W' h=>by
  rcases h with ⟨rfl,h1,h2⟩|⟨rfl,h1⟩
  ·exact⟨true,rfl,.inl ⟨rfl,h1,h2⟩⟩
  ·exact⟨false,rfl,.inr ⟨rfl,h1⟩⟩
 have hB':=hB.call hW (Nat.le_refl _)
 by_cases hk:e.k=2
 ·exact inEra1_rules n l bE bF bD bT gd s rv zv lv evs z eA m ec fr0 te0 e fr te w0 J Jx hD hk h1 hlt hd1 hd2 hy1 hy2 _ (Nat.le_refl _) hY' hJ' W hB' h0
 ·have hin:Ln.inEra s.rules e fr te=[Ln.piece fr e.std e.sv]:=by unfold Ln.inEra;rw[if_neg hk]
  rw[hin] at hY' ⊢;exact inEra1_one n l bE bF bD bT gd w0.heap.size e fr te w0 J Jx hk h1 h2 hY' hJ' W hB' h0
theorem pieces_any (gd:Nat)(w:World):
  Calls Tryz.prog 111 #[.pointer (some ⟨gd,0,none⟩)] w fun r w'=>r=.returned (.func (.func 149) #[] #[.pointer (some ⟨w.heap.size,0,none⟩)])∧w.alloc (.cells #[.pointer (some ⟨gd,0,none⟩)] 221)=w':=by
 go_enter Tryz.func111,Tryz.ntmps111
 go_wp2;go_ret
 exact⟨rfl,rfl⟩
end Go.Proofs.YtjobhjemnmleaaaGreatDoor
namespace Go.Proofs.YtjobhjemnmleaaaGreatDoor
open Go.RowKit Go.Shelf
attribute [local go_sem] Oper.semAt_some
end Go.Proofs.YtjobhjemnmleaaaGreatDoor
namespace Go.Proofs.YtjobhjemnmleaaaGreatDoor
open Go.RowKit Go.Shelf Go.Sort
attribute [local go_sem] Oper.semAt_some
namespace Ln
theorem keeps_mono {B B':Nat}{W W':World}(h:KeepsFrom B W W')(hb:B≤B'):KeepsFrom B' W W':=⟨h.size,fun k o hk=>h.same k o (Nat.le_trans hb hk)⟩
theorem keeps_below {B:Nat}{W W':World}(hb:Below W.heap.size W W'):KeepsFrom B W W':=⟨hb.size,fun k _ _ hk _=>(hb.block k (Array.getElem?_eq_some_iff.1 hk).1).trans hk⟩
theorem frame_all (n:Nat)(a:Act)(hs:a.tmps.size=n):a={ tmps:=((List.range n).map fun i=>a.tmps.getD i undef).toArray,defers:=a.defers }:=by
 obtain⟨t,d⟩:=a;simp only at hs
 congr 1
 apply Array.ext
 ·simp[hs]
 ·intro i h1 h2;simp[h1]
theorem ownFrom_mono {β:Type}{B B':Nat}{I:β→World→Prop}(h:OwnFrom B I)(hb:B≤B'):OwnFrom B' I:=fun s W W' row hs hg hr=>h s W W' row hs hg (fun r e=>⟨Nat.le_trans hb (hr r e).1,(hr r e).2⟩)
structure PB (bD h gd l n:Nat)(w0 W:World):Prop where
 below:Below n w0 W
 d:Bk W bD #[.pointer (some ⟨gd,0,none⟩)] 221
 y:Bk W h #[.func (.yield l) #[] #[]] 276
theorem PB.call {bD h gd l n:Nat}{w0 W W':World}(q:PB bD h gd l n w0 W)(hb:Below W.heap.size W W')(hn:n≤w0.heap.size):PB bD h gd l n w0 W':=
 ⟨q.below.trans (hb.mono (Nat.le_trans hn q.below.size)),q.d.call hb,q.y.call hb⟩
theorem PB.kp {bD h gd l n:Nat}{w0 W W':World}(q:PB bD h gd l n w0 W)(hk:Kp n W W'):PB bD h gd l n w0 W':=
 ⟨q.below.trans hk.below,q.d.kp hk (by decide) (by decide),q.y.kp hk (by decide) (by decide)⟩
theorem PB.grown {bD h gd l n B:Nat}{w0 W W':World}{row:Option Nat}(q:PB bD h gd l n w0 W)(hg:W.grownBy W' row)(hr:∀r,row=some r→B≤r∧∃o:Obj,W.heap[r]?=some o∧o.isCells=false)(hn:n≤B)(hn2:n≤w0.heap.size):PB bD h gd l n w0 W':=
 ⟨q.below.grown hg (Nat.le_trans hn2 q.below.size) (fun r e=>Nat.le_trans hn (hr r e).1),q.d.grown hg (fun r e=>(hr r e).2),q.y.grown hg (fun r e=>(hr r e).2)⟩
theorem Mk.grown {B B':Nat}{Ds:List Nat}{W W':World}{row:Option Nat}(h:Mk B Ds W)(hg:W.grownBy W' row)(hr:∀r,row=some r→B'≤r)(hlt:∀D∈Ds,D<B'):Mk B Ds W':=
 ⟨h.nd,fun D hD=>⟨(h.at_ D hD).1,(hg.block D (h.lt D hD) (fun e=>by have:=hr D e.symm;have:=hlt D hD;omega)).trans (h.at_ D hD).2⟩⟩
def PI (rules:List Ru.R)(es:List Er.E)(ends:List Int)(fr te:Int)(m l bD h gd:Nat)(eA2:Option Addr)(ec2:Nat)(w0:World)(BW:Nat)(JY:List Sp→World→Prop)(a:Act)(w:World):Prop:=
 ∃(r:Nat) (done:List Sp) (Ds:List Nat),r≤m+1∧a.tmps.size=49∧a.defers=marks Ds∧a.tmps.getD 0 undef=.func (.yield l) #[] #[]∧a.tmps.getD 1 undef=.pointer (some ⟨bD,0,none⟩)∧a.tmps.getD 2 undef=.pointer (some ⟨h,0,none⟩)∧
  a.tmps.getD 3 undef=.slice eA2 (m+1) ec2∧a.tmps.getD 4 undef=.int .i64 ((r:Int) - 1)∧Hid (pieces rules es ends fr te (m+1)=done ++ pieces rules es ends fr te r)∧Hid (JY done w)∧Hid (PB bD h gd l w0.heap.size w0 w)∧Hid (Mk BW Ds w)
end Ln
theorem pieces1_in (l bD gd B N:Nat)(s:Src.S)(rv zv lv:Value)(evs:List Value)(kz:Nat)(eA:Option Addr)(m ec:Nat)(fr te:Int)(ends:List Int)(w0:World)(x:Src.Txt × List Er.E)(JY:List Ln.Sp→World→Prop)
  (hD:Ln.Dr s rv zv lv evs (kz:Int) eA m ec fr te gd w0) (hx:s.zones[kz]?=some x) (hxl:x.2.length=m+1) (hm:m≤1000)
  (hends:ends.length=m) (hmc:m≤ec) (hec:ec≤maxLen) (h0c:eA=none→ec=0) (hRe:Reads w0 w0.heap.size 1 eA m (Ln.i64s ends)) (hE:∀e∈x.2,IsTime e.std∧IsTime e.sv)
  (hd1:Ln.InDays fr) (hd2:Ln.InDays (te - 1)) (hy1:2≤Ln.yr fr) (hy2:Ln.yr (te - 1)≤9998) (hN:(Ln.pieces s.rules x.2 ends fr te (m+1)).length≤N)
  (hY:∀pre p W,JY pre W→pre.length<N→YieldAt Fence.wide 4 Tryz.prog l #[p.v] W fun e W'=>e=.returned (.bool true)∧JY (pre ++ [p]) W'∧Ln.Kp w0.heap.size W W'∧KeepsFrom B W W')
  (W:World) (hJO:OwnFrom W.heap.size JY) (hBW:B≤W.heap.size) (hb:Below w0.heap.size w0 W) (hBk:Ln.Bk W bD #[.pointer (some ⟨gd,0,none⟩)] 221) (h0:JY [] W):
  CallsIn Fence.wide 5 Tryz.prog 149 #[.func (.yield l) #[] #[],.pointer (some ⟨bD,0,none⟩)] W fun e W'=>(∃v,e=.returned v)∧JY (Ln.pieces s.rules x.2 ends fr te (m+1)) W':=by
 have hlen:(s.zones.zip evs).length=s.zones.length:=by rw[List.length_zip,hD.src.len];omega
 have hkz:kz<s.zones.length:=(List.getElem?_eq_some_iff.1 hx).1;obtain⟨zA,zc,rfl,hz1,hzc,hrz⟩:=hD.src.zones;obtain⟨adz,x1,rfl,hab,Hx1,HL⟩:=Ix.reads_cells (enc:=Src.zc) (m:=2) (fun _=>rfl) hlen hrz hkz;obtain⟨hzk,hzm⟩:s.zones[kz]?=some x1.1∧x1∈s.zones.zip evs:=⟨(List.getElem?_zip_eq_some.1 Hx1.out).1,List.mem_of_getElem? Hx1.out⟩
 obtain rfl:x1.1=x:=by rw[hzk] at hx;exact Option.some.inj hx
 obtain⟨eA2,ec2,he2,hmec,hec2,hre⟩:=hD.src.eras x1 hzm;obtain⟨es,hes⟩:=aj (x1.1.2)
 rw[hes] at he2 hre hmec hxl hE hN ⊢;rw[hxl] at he2 hre hmec;unfold maxLen at hec2 hzc;have HC0:Hid (∀W',Below w0.heap.size w0 W'→W'.cell? ⟨gd,1,none⟩=some (.slice (some adz) s.zones.length zc)∧W'.cell? ⟨gd,3,none⟩=some (.int .i64 (kz:Int))∧W'.cell? ⟨(adz.add (kz*2)).block,(adz.add (kz*2)).off+1,none⟩=some (.slice eA2 (m+1) ec2)∧gd<W'.heap.size∧(adz.add (kz*2)).block<W'.heap.size):=fun W' hb'=>by
  have hA:=(hD.call hb').at_;have hg:=hb'.block (adz.add (kz*2)).block (by rw[block_of_add];exact hab);refine⟨hA.cell 1 _ rfl,hA.cell 3 _ rfl,(World.cell?_of_block (by exact hg)).trans (by rw[← he2];exact HL.out 1 _ rfl),hA.lt,?_⟩;rw[block_of_add];exact Nat.lt_of_lt_of_le hab hb'.size
 obtain⟨n2,hn2⟩:=aj (s.zones.length)
 rw[hn2] at HC0 hkz hz1;have HN2:=ak hn2;have HWh:Hid (∀W' k,Below w0.heap.size w0 W'→k≤m→Calls Tryz.prog 150 #[.pointer (some ⟨gd,0,none⟩),.int .i64 (k:Int)] W' fun e w'=>e=.returned (.tuple #[.int .i64 (Ln.maxs ends fr k),.int .i64 (Ln.upto ends te k)])∧Below W'.heap.size W' w'):=fun W' k hb' hk=>lnWhile_any ends fr te k m ec gd _ _ _ _ eA W' hends hk hmc hec h0c (hD.call hb').at_ ((hRe.below hb').more hb'.size)
 obtain⟨h,hh⟩:=aj (W.heap.size)
 obtain⟨W1,hW1⟩:=aj (W.alloc (.cells #[.func (.yield l) #[] #[]] 276))
 have hb1:Below W.heap.size W W1:=by rw[← hW1];exact al
 have hy1':Ln.Bk W1 h #[.func (.yield l) #[] #[]] 276:=by rw[← hW1,← hh];exact Ln.Bk.new _ _ _
 have hP1:Ln.PB bD h gd l w0.heap.size w0 W1:=⟨hb.trans (hb1.mono hb.size),hBk.call hb1,hy1'⟩
 have hJb:∀pre X X',JY pre X→Below X.heap.size X X'→JY pre X':=fun pre X X' hj hbx=>hJO pre X X' none hj (grown_of_ hbx none) (fun r e=>(by cases e))
 have HJ1:=ak (hJb [] W W1 h0 hb1);have HP1:=ak hP1;have HW1:=ak hW1;have HH:=ak hh;have HJb:=ak hJb;have HJO:=ak hJO;have HY:=ak hY;have HN:=ak hN;have HD:=ak hD;have HE:=ak hE;have HRe:=ak hre;have HXl:=ak hxl;have HEn:=ak hends;have HDs:=ak (And.intro hd1 (And.intro hd2 (And.intro hy1 hy2)));have q1:=am kz
 have q2:(kz:Int)<(n2:Int):=by omega
 have d0:=hP1.d.at_.cell 0 _ rfl;have zd:=hP1.d.lt;obtain⟨g1,g3,gz,zg,zz⟩:=HC0.out W1 hP1.below;clear hD hx hxl hends hRe hE hd1 hd2 hy1 hy2 hN hY hJO hb hBk h0 hlen hrz Hx1 HL hzk hzm he2 hre hes hh hW1 hb1 hy1' hP1 hJb hn2 h0c;refine callsIn_of_wp_marks Tryz.func149 rfl trivial ?_ rfl;simp only[Tryz.ntmps149,List.size_toArray,List.length_cons,List.length_nil,Nat.reduceAdd,Nat.reduceSub,Array.replicate_succ,Array.replicate_zero,List.push_toArray,List.append_toArray,List.nil_append,List.cons_append];refine wpIn_wide.2 ?_;go_wp2_with fail
 rw[HW1.out,HH.out];go_quiet (fail)
 obtain⟨Wd,hWd⟩:=aj (W1.drewN nq)
 have hbd:Below W1.heap.size W1 Wd:=by rw[← hWd];exact(show Drew W1 (W1.drewN nq) from⟨nq,rfl⟩).below _
 rw[hWd];have HPd:=ak (HP1.out.call hbd (Nat.le_refl _));have HJd:=ak (HJb.out _ _ _ HJ1.out hbd);have w1:IntKind.i64.wrap (((m:Int)+1) - 1)=(m:Int):=by rw[IntKind.wrap_i64];omega
 have w2:wrap64 (((m:Int)+1) - 1)=(m:Int):=by unfold wrap64;omega
 clear hWd hbd d0 zd g1 g3 gz zg zz;go_wp2_with fail
 clear w1 w2;refine(wpIn_wide (n:=5)).1 ?_;refine wpIn_loop (Ln.PI s.rules es ends fr te m l bD h gd eA2 ec2 w0 W.heap.size JY) (fun a _=>(intOf (a.tmps.getD 4 undef)+1).toNat) ?start ?round
 case start=>exact⟨m+1,[],[],Nat.le_refl _,rfl,rfl,rfl,rfl,rfl,rfl,by show _=Value.int .i64 (((m+1:Nat):Int) - 1);rw[show (((m+1:Nat):Int) - 1)=(m:Int) by omega];rfl,rfl,HJd.out,HPd.out,Ln.Mk.nil _ _⟩
 case round=>
  rintro a wr ⟨r,done,Ds,hr,hsz,hdf,s0,s1,s2,s3,s4,HEq,HJr,HPr,HMr⟩;have hmu:(intOf (a.tmps.getD 4 undef)+1).toNat=r:=by
   rw[s4];show (((r:Int) - 1)+1).toNat=r
   omega
  rw[hmu];have ef:=Ln.frame_all 49 a hsz;obtain⟨u,hu⟩:∃u:Nat→Value,(fun i=>a.tmps.getD i undef)=u:=⟨_,rfl⟩
  rw[hu,hdf] at ef;have e0:u 0=_:=(congrFun hu 0).symm.trans s0;have e1:u 1=_:=(congrFun hu 1).symm.trans s1;have e2:u 2=_:=(congrFun hu 2).symm.trans s2;have e3:u 3=_:=(congrFun hu 3).symm.trans s3;have e4:u 4=_:=(congrFun hu 4).symm.trans s4;have ef2:a={ tmps:=(u 0 :: u 1 :: u 2 :: u 3 :: u 4 :: u 5 :: u 6 :: u 7 :: u 8 :: u 9 :: u 10 :: u 11 :: u 12 :: u 13 :: u 14 :: u 15 :: u 16 :: u 17 :: u 18 :: u 19 :: u 20 :: u 21 :: u 22 :: u 23 :: u 24 :: u 25 :: u 26 :: u 27 :: u 28 :: u 29 :: u 30 :: u 31 :: u 32 :: u 33 :: u 34 :: u 35 :: u 36 :: u 37 :: u 38 :: u 39 :: u 40 :: u 41 :: u 42 :: u 43 :: u 44 :: u 45 :: u 46 :: u 47 :: u 48 :: []:List Value).toArray,defers:=Ln.marks Ds }:=ef;rw[e0,e1,e2,e3,e4] at ef2;rw[ef2];clear hmu ef hu e0 e1 e2 e3 e4 ef2 s0 s1 s2 s3 s4 hsz hdf;rcases Nat.eq_zero_or_pos r with h0r|h0r
  ·subst h0r;have p1:¬(0:Int)≤((0:Nat):Int) - 1:=(by omega);have hfull:Ln.pieces s.rules es ends fr te (m+1)=done:=by
    have:=HEq.out;rw[this];simp[Ln.pieces]
   gi_wp2
   exact Ln.leaves_marks (B:=W.heap.size) (fun w=>JY done w) (fun w D hj hB hk=>HJO.out.putObj _ hj hB hk rfl) (fun w hj=>⟨_,results_none rfl _ _ _,⟨_,rfl⟩,hj⟩) Ds wr HMr.out HJr.out
  ·obtain⟨r,rfl⟩:∃k,r=k+1:=⟨r - 1,by omega⟩
   have e1':(((r+1:Nat):Int) - 1)=(r:Int):=(by omega);rw[e1'];have p1:=am r
   have p2:(r:Int)<(m:Int)+1:=(by omega);have d0:=HPr.out.d.at_.cell 0 _ rfl;have zd:=HPr.out.d.lt;have hWh:=HWh.out wr r HPr.out.below (by omega);obtain⟨f,hf⟩:=aj (Ln.maxs ends fr r)
   obtain⟨t,ht⟩:=aj (Ln.upto ends te r)
   have hEq:=HEq.out;rw[show Ln.pieces s.rules es ends fr te (r+1)=(if Ln.upto ends te r≤Ln.maxs ends fr r then [] else Ln.inEra s.rules (es.getD r Er.E.zero) (Ln.maxs ends fr r) (Ln.upto ends te r)) ++ Ln.pieces s.rules es ends fr te r from rfl,hf,ht] at hEq;rw[hf,ht] at hWh;have hfb:fr≤f:=by rw[← hf];exact(Ln.maxs_ge ends fr r).1
   have htb:t≤te:=by rw[← ht];unfold Ln.upto;split <;> omega
   have HW:=ak hWh;have HEq2:=ak hEq;clear hWh hf ht hEq HEq
   gi_wp2_with fail
   refine⟨trivial,(callsIn_wide.2 HW.out).mono ?_⟩;rintro e w3 ⟨rfl,hb3⟩;have HP3:=ak (HPr.out.call hb3 (Nat.le_refl _));have HJ3:=ak (HJb.out _ _ _ HJr.out hb3);have HM3:=ak (HMr.out.call hb3);have hws:W.heap.size≤w3.heap.size∨True:=.inr trivial;clear hb3 d0 zd HPr HJr HMr hws
   by_cases htf:t≤f
   ·have hEq:=HEq2.out;rw[if_pos htf,List.nil_append] at hEq;have HEq3:=ak hEq;have w4:IntKind.i64.wrap ((r:Int) - 1)=(r:Int) - 1:=by rw[IntKind.wrap_i64];omega
    clear hEq
    gi_wp2
    refine⟨⟨r,done,Ds,by omega,rfl,rfl,rfl,rfl,rfl,rfl,rfl,HEq3.out,HJ3.out,HP3.out,HM3.out⟩,?_⟩;show (((r:Int) - 1)+1).toNat<r+1
    omega
   ·have hEq:=HEq2.out;rw[if_neg htf] at hEq;have hft:f<t:=(by omega);obtain⟨ad2,xe,rfl,habe,Hxe,HLe⟩:=Ix.reads_cells (enc:=Er.E.cells) (m:=13) (fun _=>rfl) HXl.out (HRe.out.below HP3.out.below) (show r<m+1 by omega);have hxe:es.getD r Er.E.zero=xe:=by rw[List.getD,Hxe.out];rfl
    rw[hxe] at hEq;obtain⟨hxs,hxv⟩:=HE.out xe (List.mem_of_getElem? Hxe.out);have hab3:(ad2.add (r*13)).block<w3.heap.size:=by rw[block_of_add];exact Nat.lt_of_lt_of_le habe HP3.out.below.size
    have d0:=HP3.out.d.at_.cell 0 _ rfl;have zd:=HP3.out.d.lt;have HEq3:=ak hEq;have HXe:=ak (And.intro hxs hxv);clear hEq hxe hxs hxv htf Hxe;obtain⟨std,ek,esv,ru,fm,en,⟨y,mm,dk,dn,dd,sc,cc⟩⟩:=xe;simp only at HXe;have y0:w3.cell? (ad2.add (r*13))=some (.int .i64 std):=HLe.out 0 _ rfl;have y1:w3.cell? ⟨(ad2.add (r*13)).block,(ad2.add (r*13)).off+1,none⟩=some (.int .u8 ek):=HLe.out 1 _ rfl;have y2:w3.cell? ⟨(ad2.add (r*13)).block,(ad2.add (r*13)).off+2,none⟩=some (.int .i64 esv):=HLe.out 2 _ rfl;have y3:w3.cell? ⟨(ad2.add (r*13)).block,(ad2.add (r*13)).off+3,none⟩=some (.string ru):=HLe.out 3 _ rfl;have y4:w3.cell? ⟨(ad2.add (r*13)).block,(ad2.add (r*13)).off+4,none⟩=some (.string fm):=HLe.out 4 _ rfl;have y5:w3.cell? ⟨(ad2.add (r*13)).block,(ad2.add (r*13)).off+5,none⟩=some (.bool en):=HLe.out 5 _ rfl;have y6:w3.cell? ⟨(ad2.add (r*13)).block,(ad2.add (r*13)).off+6,none⟩=some (.int .i64 y):=HLe.out 6 _ rfl;have y7:w3.cell? ⟨(ad2.add (r*13)).block,(ad2.add (r*13)).off+7,none⟩=some (.int .i64 mm):=HLe.out 7 _ rfl;have y8:w3.cell? ⟨(ad2.add (r*13)).block,(ad2.add (r*13)).off+8,none⟩=some (.int .u8 dk):=HLe.out 8 _ rfl;have y9:w3.cell? ⟨(ad2.add (r*13)).block,(ad2.add (r*13)).off+9,none⟩=some (.int .i64 dn):=HLe.out 9 _ rfl;have y10:w3.cell? ⟨(ad2.add (r*13)).block,(ad2.add (r*13)).off+10,none⟩=some (.int .i64 dd):=HLe.out 10 _ rfl
    have y11:w3.cell? ⟨(ad2.add (r*13)).block,(ad2.add (r*13)).off+11,none⟩=some (.int .i64 sc):=HLe.out 11 _ rfl;have y12:w3.cell? ⟨(ad2.add (r*13)).block,(ad2.add (r*13)).off+12,none⟩=some (.int .u8 cc):=HLe.out 12 _ rfl
    gi_wp2_with fail
    refine wpIn_wide.2 ?_;refine wp_region_quiet_tail (C:=fun w'=>∃j,w'=w3.drewN j) 7 (by kernel_rfl) (by kernel_rfl) ⟨1,rfl⟩ ?_
    repeat (quiet_step (fail))
    refine wpQuiet_nil ?_;intro wz hwz;obtain⟨nq2,rfl⟩:=hwz;obtain⟨wd,hwd⟩:=aj (w3.drewN nq2)
    have hbd2:Below w3.heap.size w3 wd:=by rw[← hwd];exact(show Drew w3 (w3.drewN nq2) from⟨nq2,rfl⟩).below _
    rw[hwd];show wpList _ _ _ (_ :: _) _ _
    go_wp2_with fail
    refine(inEra_any gd ⟨std,ek,esv,ru,fm,en,⟨y,mm,dk,dn,dd,sc,cc⟩⟩ f t _).mono ?_;rintro e Wi ⟨rfl,hWi⟩;obtain⟨hz,hhz⟩:=aj (wd.heap.size)
    have hbi:Below wd.heap.size wd Wi:=by
     rw[← hWi];exact((((Below.refl wd.heap.size wd).alloc (Nat.le_refl _) _).alloc (by simp) _).alloc (by simp;omega) _).alloc (by simp;omega) _
    have b1:Ln.Bk Wi hz #[.pointer (some ⟨gd,0,none⟩)] 221:=by rw[← hWi,← hhz];exact(((Ln.Bk.new _ _ _).alloc _).alloc _).alloc _
    have b2:Ln.Bk Wi (hz+1) (Er.E.cells ⟨std,ek,esv,ru,fm,en,⟨y,mm,dk,dn,dd,sc,cc⟩⟩).toArray 191:=by
     have:=((Ln.Bk.new (wd.alloc (.cells #[.pointer (some ⟨gd,0,none⟩)] 221)) (Er.E.cells ⟨std,ek,esv,ru,fm,en,⟨y,mm,dk,dn,dd,sc,cc⟩⟩).toArray 191).alloc (.cells #[.int .i64 f] 2)).alloc (.cells #[.int .i64 t] 2);rw[hWi,World.size_alloc,hhz] at this;exact this
    have b3:Ln.Bk Wi (hz+2) #[.int .i64 f] 2:=by
     have:=(Ln.Bk.new ((wd.alloc (.cells #[.pointer (some ⟨gd,0,none⟩)] 221)).alloc (.cells (Er.E.cells ⟨std,ek,esv,ru,fm,en,⟨y,mm,dk,dn,dd,sc,cc⟩⟩).toArray 191)) #[.int .i64 f] 2).alloc (.cells #[.int .i64 t] 2);rw[hWi,World.size_alloc,World.size_alloc,hhz] at this;exact this
    have b4:Ln.Bk Wi (hz+3) #[.int .i64 t] 2:=by
     have:=Ln.Bk.new (((wd.alloc (.cells #[.pointer (some ⟨gd,0,none⟩)] 221)).alloc (.cells (Er.E.cells ⟨std,ek,esv,ru,fm,en,⟨y,mm,dk,dn,dd,sc,cc⟩⟩).toArray 191)).alloc (.cells #[.int .i64 f] 2)) #[.int .i64 t] 2;rw[hWi,World.size_alloc,World.size_alloc,World.size_alloc,hhz] at this;exact this
    have hbw:=below_then hbd2 hbi;have HPi:=ak (HP3.out.call hbw (Nat.le_refl _));have HJi:=ak (HJb.out _ _ _ HJ3.out hbw);have HMi:=ak (HM3.out.call hbw);have hDlt:∀D∈Ds,D<Wi.heap.size:=HMi.out.lt;have hBWi:W.heap.size≤Wi.heap.size:=by
     have:=HPi.out.y.lt;have:=HH.out;omega
    have hw0i:w0.heap.size≤Wi.heap.size:=HPi.out.below.size;have hEB:Ln.EB (hz+1) (hz+2) hz (hz+3) gd w0.heap.size ⟨std,ek,esv,ru,fm,en,⟨y,mm,dk,dn,dd,sc,cc⟩⟩ f t w0 Wi:=⟨HPi.out.below,b2,b3,b1,b4⟩
    obtain⟨hd1,hd2,hy1,hy2⟩:=HDs.out;have hdf:Ln.InDays f:=hd1.of hd2 hfb (by omega);have hdt:Ln.InDays (t - 1):=hd1.of hd2 (by omega) (by omega);have hyf:2≤Ln.yr f:=by
     have a:=Ln.yr_bd hdf;have b:=Ln.yr_bd hd1;rcases Int.lt_or_le (Ln.yr f) (Ln.yr fr) with q|q
     ·have:=Oc.D_mono (show Ln.yr f+1≤Ln.yr fr by omega);omega
     ·omega
    have hyt:Ln.yr (t - 1)≤9998:=by
     have a:=Ln.yr_bd hdt;have b:=Ln.yr_bd hd2;rcases Int.lt_or_le (Ln.yr (te - 1)) (Ln.yr (t - 1)) with q|q
     ·have:=Oc.D_mono (show Ln.yr (te - 1)+1≤Ln.yr (t - 1) by omega);omega
     ·omega
    have hseq:=inEra_stops 3 (hz+1) (hz+2) hz (hz+3) gd s rv (.slice (some adz) n2 zc) lv evs (kz:Int) eA m ec fr te ⟨std,ek,esv,ru,fm,en,⟨y,mm,dk,dn,dd,sc,cc⟩⟩ f t w0 (by rw[← HN2.out];exact HD.out) HXe.out.1 HXe.out.2 hft hdf hdt hyf hyt Wi hEB;obtain⟨xs,hxs⟩:=aj (Ln.inEra s.rules ⟨std,ek,esv,ru,fm,en,⟨y,mm,dk,dn,dd,sc,cc⟩⟩ f t)
    have hEq:=HEq3.out;rw[hxs] at hseq hEq;have hlenN:∀pre:List Ln.Sp,pre.length<xs.length→(done ++ pre).length<N:=fun pre hl=>by
     have:=HN.out;rw[hEq,List.length_append,List.length_append] at this;rw[List.length_append];omega
    have HEq4:=ak hEq;have HSq:=ak hseq;have HLn:=ak hlenN;have HDl:=ak hDlt;rw[hhz];clear hWi hbi b1 b2 b3 b4 hbw hbd2 hwd hDlt hEB hd1 hd2 hy1 hy2 hdf hdt hyf hyt hseq hxs hEq hlenN d0 zd;go_wp2_with fail
    gi_wp2_with fail
    refine wpIn_rangeFunc_ownH (F:=Fence.wide) (n:=5) rfl (by decide) (gf:=185) (lb:=#[.pointer (some ⟨hz+1,0,none⟩),.pointer (some ⟨hz+2,0,none⟩),.pointer (some ⟨hz,0,none⟩),.pointer (some ⟨hz+3,0,none⟩)]) rfl trivial (enters_of Tryz.func185 (by kernel_rfl) rfl)
     HSq.out (fun h k=>h.trans k) (fun X l' o o' h1 h2 h3 h4=>Ln.Kp.put hw0i X l' o o' h1 h2 h3 h4) (Below.refl _ _) (fun _=>rfl)
     (fun pre X=>JY (done ++ pre) X∧Ln.PB bD h gd l w0.heap.size w0 X∧Ln.Mk W.heap.size Ds X) (fun _ _ _=>False)
     (fun pre X X' row hs hg hr=>⟨(Ln.ownFrom_mono HJO.out hBWi) _ X X' row hs.1 hg hr,hs.2.1.grown hg hr hw0i (Nat.le_refl _),hs.2.2.grown hg (fun r e=>(hr r e).1) HDl.out⟩)
     (fun _ _ _ _ _ hs _ _=>hs)
     ⟨by show JY _ _;rw[List.append_nil];exact HJi.out,HPi.out,HMi.out⟩
     (fun p a' X=>∃Bx,Ln.Bk X Bx #[.int .i64 p.fr,.int .i64 p.off,.bool p.dst] 164∧a'.tmps.size=49∧a'.defers=[]∧a'.tmps.getD 2 undef=.pointer (some ⟨h,0,none⟩)∧a'.tmps.getD 7 undef=.pointer (some ⟨Bx,0,none⟩))
     (fun p a' _ X X' row hs hg hr=>by obtain⟨Bx,h1,h2⟩:=hs;exact⟨Bx,h1.grown hg (fun r e=>(hr r e).2),h2⟩)
     ?assign ?body ?done ?stop
    case assign=>
     rintro l' pre p X K ⟨i1,i2,i3⟩ hK;have hal:Below X.heap.size X (X.alloc (.cells #[.int .i64 p.fr,.int .i64 p.off,.bool p.dst] 164)):=al;unfold Ln.Sp.v
     gi_wp2
     exact hK _ _ (Ln.keeps_below hal) (Ln.Kp.of_below hal i2.below.size) ⟨HJb.out _ _ _ i1 hal,i2.call hal (Nat.le_refl _),i3.call hal⟩ ⟨X.heap.size,Ln.Bk.new _ _ _,rfl,rfl,rfl,rfl⟩
    case body=>
     rintro l' pre p a' X hl' _ ⟨i1,i2,i3⟩ ⟨Bx,hBx,hsz,hdf,s2,s7⟩ hlen;have ef:=Ln.frame_all 49 a' hsz;obtain⟨v,hu⟩:∃v:Nat→Value,(fun i=>a'.tmps.getD i undef)=v:=⟨_,rfl⟩
     rw[hu,hdf] at ef;have e2:v 2=_:=(congrFun hu 2).symm.trans s2;have e7:v 7=_:=(congrFun hu 7).symm.trans s7;have ef2:a'={ tmps:=(v 0 :: v 1 :: v 2 :: v 3 :: v 4 :: v 5 :: v 6 :: v 7 :: v 8 :: v 9 :: v 10 :: v 11 :: v 12 :: v 13 :: v 14 :: v 15 :: v 16 :: v 17 :: v 18 :: v 19 :: v 20 :: v 21 :: v 22 :: v 23 :: v 24 :: v 25 :: v 26 :: v 27 :: v 28 :: v 29 :: v 30 :: v 31 :: v 32 :: v 33 :: v 34 :: v 35 :: v 36 :: v 37 :: v 38 :: v 39 :: v 40 :: v 41 :: v 42 :: v 43 :: v 44 :: v 45 :: v 46 :: v 47 :: v 48 :: []:List Value).toArray,defers:=[] }:=ef;rw[e2,e7] at ef2;rw[ef2];have c0:=hBx.at_.cell 0 _ rfl;have c1:=hBx.at_.cell 1 _ rfl;have c2:=hBx.at_.cell 2 _ rfl;have zx:=hBx.lt;have y0:=i2.y.at_.cell 0 _ rfl;have zy:=i2.y.lt;obtain⟨fn,tmps,assign,body,hy,hR⟩:=HY.out _ p X i1 (HLn.out pre hlen);unfold Ln.Sp.v at hy;have HI2:=ak i2;have HI3:=ak i3;clear ef hu e2 e7 ef2 s2 s7 hsz hdf hBx i1 i2 i3
     gi_wp2_with fail
     refine(Ln.round_in (Ln.round_any hR)).mono ?_;rintro e X3 ⟨rfl,hj,hkp,hkf⟩;have HE1:Hid (KeepsFrom Wi.heap.size X X3∧Ln.Kp w0.heap.size X X3∧JY (done ++ (pre ++ [p])) X3∧Ln.PB bD h gd l w0.heap.size w0 X3∧Ln.Mk W.heap.size Ds X3):=⟨Ln.keeps_mono hkf (Nat.le_trans hBW hBWi),hkp,by rw[← List.append_assoc];exact hj,HI2.out.kp hkp,HI3.out.keeps (Ln.keeps_mono hkf hBW)⟩
     clear hj hkp hkf
     gi_wp2
     exact HE1.out
    case stop=>
     rintro D c pre X _ _ hs _;exact hs.elim
    case done=>
     rintro D ys X hDD rfl ⟨i1,i2,i3⟩ hK;have HE1:=ak (And.intro i1 i2);have hMk:Ln.Mk W.heap.size (D :: Ds) X:=⟨List.nodup_cons.2 ⟨fun hm=>by have:=HDl.out D hm;omega,i3.nd⟩,fun E hE=>by
      rcases List.mem_cons.1 hE with rfl|hE
      ·exact⟨Nat.le_trans hBWi hDD,hK⟩
      ·exact i3.at_ E hE⟩
     have HMk:=ak hMk;have w4:IntKind.i64.wrap ((r:Int) - 1)=(r:Int) - 1:=by rw[IntKind.wrap_i64];omega
     clear i1 i2 i3 hMk hK
     gi_wp2
     refine⟨⟨r,done ++ ys,D :: Ds,by omega,rfl,rfl,rfl,rfl,rfl,rfl,rfl,by show _=_;rw[HEq4.out,List.append_assoc],HE1.out.1,HE1.out.2,HMk.out⟩,?_⟩;show (((r:Int) - 1)+1).toNat<r+1
     omega
end Go.Proofs.YtjobhjemnmleaaaGreatDoor
namespace Go.Proofs.YtjobhjemnmleaaaGreatDoor
open Go.RowKit Go.Shelf
attribute [local go_sem] Oper.semAt_some
namespace Ln
def savedAt (rules:List Ru.R)(e:Er.E)(t:Int):Int × ByteArray:=
 if e.k=1 then (e.sv,⟨#[]⟩) else match occAt rules e t with
  |none=>(0,⟨#[]⟩)
  |some o=>(o.sv,o.lt)
theorem savedAt_one (rules:List Ru.R)(e:Er.E)(t:Int):(savedAt rules e t).1=saveAt rules e t:=by
 unfold savedAt saveAt;split
 ·rfl
 ·cases occAt rules e t <;> rfl
end Ln
namespace IdS
end IdS
end Go.Proofs.YtjobhjemnmleaaaGreatDoor
namespace Go.Proofs.YtjobhjemnmleaaaGreatDoor
open Go.RowKit Go.Shelf
namespace Ab
end Ab
end Go.Proofs.YtjobhjemnmleaaaGreatDoor
namespace Go.Proofs.YtjobhjemnmleaaaGreatDoor
open Go.RowKit Go.Shelf
namespace Ab
end Ab
end Go.Proofs.YtjobhjemnmleaaaGreatDoor
namespace Go.Proofs.YtjobhjemnmleaaaGreatDoor
open Go.RowKit Go.Shelf
namespace Ln
structure St where
 off:Int
 dst:Bool
 ab:ByteArray
def St.v (s:St):Value:=.agg #[.int .i64 s.off,.bool s.dst,.string s.ab]
end Ln
end Go.Proofs.YtjobhjemnmleaaaGreatDoor
namespace Go.Proofs.YtjobhjemnmleaaaGreatDoor
open Go.RowKit
namespace Rg
open Od
end Rg
end Go.Proofs.YtjobhjemnmleaaaGreatDoor
namespace Go.Proofs.YtjobhjemnmleaaaGreatDoor
open Go.RowKit Go.Shelf Go.Sort
attribute [local go_sem] Oper.semAt_some
namespace Ln
theorem saved_ok {rules:List Ru.R}{e:Er.E}(hr:Eg.RulesOk rules)(h2:IsTime e.sv)(t:Int):IsTime (savedAt rules e t).1∧(savedAt rules e t).2.size≤1000000:=by
 unfold savedAt;split
 ·exact⟨h2,Nat.zero_le _⟩
 ·have key:∀o,occAt rules e t=some o→IsTime o.sv∧o.lt.size≤1000000:=fun o ho=>by
   unfold occAt at ho;split at ho
   ·unfold Oc.lastP at ho;have hm:=(List.mem_filter.1 (List.mem_of_getLast? ho)).1;unfold Oc.of at hm;obtain⟨q,hq,rfl⟩:=List.mem_map.1 hm;have hev:Oc.Ev (Src.ofName e.ru rules) q:=((Oc.mem_ofU q).1 ((Oc.mem_isort q _).1 hq)).1;obtain⟨r,h4,h5,h6⟩:=hev;have hm:=(hr.of e.ru).ok r (List.mem_of_getElem? h4);refine⟨?_,?_⟩
    ·show IsTime q.sv
     rw[h6];exact hm.1.2.2.2.2.2.1
    ·show q.lt.size≤1000000
     rw[h6];exact hm.2.2
   ·cases ho
  cases ho:occAt rules e t with
  |none=>exact⟨by decide,Nat.zero_le _⟩
  |some o=>exact key o ho
theorem ok_sv {e:Er.E}(h:e.Ok):IsTime e.sv:=by
 obtain⟨h1,_,h3,_⟩:=h;rcases h3 with q|q|q
 ·rw[q.2.1];decide
 ·exact q.2.1
 ·rw[q.2.1];decide
end Ln
theorem at_results {tmps:Array Value}{w:World}{a:Nat}{s:Ln.St}{k:Int}(h6:tmps[6]?.getD undef=.pointer (some ⟨a,0,none⟩))(h7:tmps[7]?.getD undef=.int .i64 k)(c0:w.cell? ⟨a,0,none⟩=some (.int .i64 s.off))(c1:w.cell? ⟨a,1,none⟩=some (.bool s.dst))(c2:w.cell? ⟨a,2,none⟩=some (.string s.ab)):
  (results Tryz.f60 tmps).run Tryz.prog w=.ok (.tuple #[s.v,.int .i64 k]) w:=by
 unfold Ln.St.v;simp[results,Tryz.f60,go_sem,h6,h7,c0,c1,c2]
namespace IdA
end IdA
end Go.Proofs.YtjobhjemnmleaaaGreatDoor
namespace Go.Proofs.YtjobhjemnmleaaaGreatDoor
open Go.RowKit
namespace Ln
theorem Cov.in_ {f:Int→Int × Bool}{te:Int}:∀{A:List Sp} {c:Int},Cov f te c A→∀(k:Nat) (x:Sp),A[k]?=some x→c≤x.fr∧x.fr<te∧f x.fr=(x.off,x.dst)
 |[],_,_,k,x,hx=>by cases hx
 |a :: A,c,⟨h0,d,h1,h2,h3,h4,_⟩,0,x,hx=>by
  obtain rfl:a=x:=by simpa using hx
  rw[h0];exact⟨Int.le_refl _,by omega,h3 c (Int.le_refl _) h1⟩
 |a :: A,c,⟨h0,d,h1,h2,h3,h4,_⟩,k+1,x,hx=>by
  obtain⟨i1,i2,i3⟩:=Cov.in_ h4 k x (by simpa using hx);exact⟨by omega,i2,i3⟩
theorem Cov.two {f:Int→Int × Bool}{te:Int}:∀{A:List Sp} {c:Int},Cov f te c A→∀(k:Nat) (x y:Sp),A[k]?=some x→A[k+1]?=some y→x.fr<y.fr∧alike x y=false∧f (y.fr - 1)=(x.off,x.dst)
 |[],_,_,k,x,y,hx,_=>by cases hx
 |a :: A,c,⟨h0,d,h1,h2,h3,h4,h5⟩,0,x,y,hx,hy=>by
  obtain rfl:a=x:=by simpa using hx
  cases A with
  |nil=>cases hy
  |cons b A=>
   obtain rfl:b=y:=by simpa using hy
   obtain⟨k0,_⟩:=h4;exact⟨by omega,h5 b rfl,h3 _ (by omega) (by omega)⟩
 |a :: A,c,⟨h0,d,h1,h2,h3,h4,_⟩,k+1,x,y,hx,hy=>Cov.two h4 k x y (by simpa using hx) (by simpa using hy)
end Ln
end Go.Proofs.YtjobhjemnmleaaaGreatDoor
namespace Go.Proofs.YtjobhjemnmleaaaGreatDoor
open Go.RowKit
namespace Lo
open Ln
structure Right (l:List Sp):Prop where
 ne:l≠[]
 up:∀(k:Nat) (x y:Sp),l[k]?=some x→l[k+1]?=some y→x.fr<y.fr∧alike x y=false
theorem right_cov {f:Int→Int × Bool}{te c:Int}{l:List Sp}(h:Cov f te c l)(hlt:c<te):Right l:=
 ⟨fun e=>by
  rw[e] at h;have:c=te:=h;omega,fun k x y hx hy=>⟨(Cov.two h k x y hx hy).1,(Cov.two h k x y hx hy).2.1⟩⟩
theorem Right.mono {l:List Sp}(h:Right l):∀(d i:Nat) (x y:Sp),l[i]?=some x→l[i+d]?=some y→x.fr≤y.fr
 |0,i,x,y,hx,hy=>by
  rw[Nat.add_zero,hx] at hy;cases hy
  exact Int.le_refl _
 |d+1,i,x,y,hx,hy=>by
  have hlt:=(List.getElem?_eq_some_iff.1 hy).1;obtain⟨z,hz⟩:∃z,l[i+d]?=some z:=⟨_,List.getElem?_eq_getElem (by omega)⟩
  have h1:=h.mono d i x z hx hz;have h2:=(h.up (i+d) z y hz (by rw[show i+d+1=i+(d+1) by omega];exact hy)).1;omega
structure Ab (l:List Sp)(t:Int)(r:Nat):Prop where
 le:r≤l.length
 lo:∀(i:Nat) (x:Sp),i<r→l[i]?=some x→x.fr≤t
 hi:∀(i:Nat) (x:Sp),r≤i→l[i]?=some x→t<x.fr
theorem Ab.tail {a:Sp}{l:List Sp}{t:Int}{r:Nat}(h:Ab (a :: l) t (r+1)):Ab l t r:=
 ⟨by have:=h.le;simpa using this,fun i x hi hx=>h.lo (i+1) x (by omega) (by simpa using hx),fun i x hi hx=>h.hi (i+1) x (by omega) (by simpa using hx)⟩
theorem cov_from {f:Int→Int × Bool}{te:Int}:∀{A:List Sp} {c t:Int} {r:Nat},Cov f te c A→c≤t→t<te→Ab A t r→∃(n:Nat) (x:Sp),r=n+1∧A[n]?=some x∧f t=(x.off,x.dst)∧Cov f te t (⟨t,x.off,x.dst⟩ :: A.drop r)
 |[],c,t,r,h,h1,h2,_=>by
  have:c=te:=h;omega
 |a :: A,c,t,0,⟨h0,_⟩,h1,h2,hA=>by
  have:=hA.hi 0 a (Nat.le_refl _) rfl;omega
 |a :: A,c,t,r+1,⟨h0,d,k1,k2,k3,k4,k5⟩,h1,h2,hA=>by
  by_cases hd:t<d
  ·have hr:r=0:=by
    rcases Nat.eq_zero_or_pos r with q|q
    ·exact q
    ·cases A with
     |nil=>
      have:=hA.le;simp at this
      exact this
     |cons x A=>
      have:=hA.lo 1 x (by omega) rfl;obtain⟨e,_⟩:=k4;omega
   subst hr;exact⟨0,a,rfl,rfl,k3 t h1 hd,rfl,d,hd,k2,fun u q1 q2=>k3 u (by omega) q2,k4,k5⟩
  ·obtain⟨n,x,e1,e2,e3,e4⟩:=cov_from k4 (show d≤t by omega) h2 hA.tail;exact⟨n+1,x,by omega,e2,e3,e4⟩
theorem cov_upto {f:Int→Int × Bool}{te m:Int}:∀{A:List Sp} {c:Int},Cov f te c A→c<m→m≤te→Cov f m c (A.takeWhile fun x=>decide (x.fr<m))
 |[],c,h,h1,h2=>by
  have:c=te:=h;omega
 |a :: A,c,⟨h0,d,k1,k2,k3,k4,k5⟩,h1,h2=>by
  rw[List.takeWhile_cons_of_pos (by rw[decide_eq_true_eq];omega)]
  by_cases hd:d<m
  ·refine⟨h0,d,k1,by omega,k3,cov_upto k4 hd h2,fun b hb=>?_⟩;cases A with
   |nil=>cases hb
   |cons x A=>
    obtain⟨e,_⟩:=k4;rw[List.takeWhile_cons_of_pos (by rw[decide_eq_true_eq];omega)] at hb;exact k5 b hb
  ·have e:A.takeWhile (fun x=>decide (x.fr<m))=[]:=by
    cases A with
    |nil=>rfl
    |cons x A=>
     obtain⟨e,_⟩:=k4;rw[List.takeWhile_cons_of_neg (by rw[decide_eq_true_eq];omega)]
   rw[e];exact⟨h0,m,h1,Int.le_refl _,fun u q1 q2=>k3 u q1 (by omega),rfl,fun b hb=>by cases hb⟩
def cutL (l:List Sp)(fr te:Int)(r:Nat)(x:Sp):List Sp:=⟨fr,x.off,x.dst⟩ :: (l.drop r).takeWhile fun x=>decide (x.fr<te)
theorem cov_cut {f:Int→Int × Bool}{te c fr m:Int}{A:List Sp}{n:Nat}{x:Sp}(h:Cov f te c A)(h1:c≤fr)(h2:fr<m)(h3:m≤te)(hA:Ab A fr (n+1))(hx:A[n]?=some x):Cov f m fr (cutL A fr m (n+1) x):=by
 obtain⟨k,y,e1,e2,_,e3⟩:=cov_from h h1 (by omega) hA;obtain rfl:k=n:=by omega
 rw[hx] at e2;cases e2
 have:=cov_upto e3 h2 h3;rw[List.takeWhile_cons_of_pos (by rw[decide_eq_true_eq];exact h2)] at this;exact this
end Lo
end Go.Proofs.YtjobhjemnmleaaaGreatDoor
