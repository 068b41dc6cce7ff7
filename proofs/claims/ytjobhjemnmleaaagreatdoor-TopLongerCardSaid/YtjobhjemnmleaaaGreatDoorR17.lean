/- almanac.told: occurrences with what is saved ahead of them. -/
import Derived.Test.YtjobhjemnmleaaaGreatDoorR16
set_option maxRecDepth 200000
set_option maxHeartbeats 8000000
namespace Go.Proofs.YtjobhjemnmleaaaGreatDoor
open Go.RowKit
theorem row_append {ops:Array Oper}{rest:List Oper}{o:Oper}{a:Act}{Q:Exit→Act→World→Prop}(ts te:TypeId)(k bytes:Nat)(z:Value)(cs:Array Value)(hu:Tryz.prog.underlying ts=some (.slice te))(hi:(Tryz.prog.info? te).map (fun i=>(i.zero,i.size,i.bytes))=some (some z,k,bytes))(hzs:z.cells.size=k)(hk:0<k)(hcs:cs.size=k)(h1:∀u∈cs.toList,u.oneCell'=true)(hby:bytes≤1000)
  (W:World) (B n:Nat) (xs:List Value) (v:Value) (p q g:Nat) (hgw:g=W.heap.size)
  (hO:W.ownsRow B te k v n xs) (hl:n≤1000000000) (hB:B≤W.heap.size) (hgd:o.guard=none)
  (ho:o.op=.call { callee:=.builtin .append,args:=#[.tmp p,.tmp q],argTypes:=#[ts,ts] }) (hs:a.eval (.tmp p)=v) (hx:a.eval (.tmp q)=.slice (some ⟨g,0,none⟩) 1 1)
  (h:∀v' w',w'.ownsRow B te k v' (n+1) (xs ++ cs.toList)→Below B W w'→W.grownBy w' v.ownBlock→(v'.ownBlock=v.ownBlock∨v'.ownBlock=some (W.heap.size+1))→wpList Tryz.prog ops Q rest (a.put o.dst v') w'):
  wpList Tryz.prog ops Q (o :: rest) a (W.alloc (.cells cs te)):=by
 subst hgw;obtain⟨i0,hi0,hz0,hz1,hz2⟩:=info_parts hi;have hR:Reads (W.alloc (.cells cs te)) (W.heap.size+1) k (some ⟨W.heap.size,0,none⟩) 1 cs.toList:=by
  have:=reads_cells_at W W.heap.size cs k te rfl hcs;rw[World.size_alloc] at this;exact this
 have hnb:(n+1)*bytes≤140737488355328:=Nat.le_trans (Nat.mul_le_mul (show n+1≤1000000001 by omega) hby) (by decide);refine wpList_append_any (P:=Tryz.prog) _ hgd (.tmp p) (.tmp q) ts ho B te i0 _ k bytes hu hi0 hz0 hz1 hz2 hzs hk v n xs hs (hO.alloc _) (W.heap.size+1) _ 1 1 _ hx hR h1 (by unfold maxLen;omega) hnb (by rw[World.size_alloc];omega) ?_;intro v' w' hown hg hat;refine h v' w' hown (((Below.refl B W).alloc hB _).grown hg (by rw[World.size_alloc];omega) (fun g e=>(hO.lt g e).1)) ?_ (by rw[World.size_alloc] at hat;exact hat);exact gb_then (World.grownBy_alloc W _ _) hg (fun j e=>by
  rcases Nat.lt_or_ge j W.heap.size with q|q
  ·exact .inr e
  ·exact .inl q)
theorem occ_info : (Tryz.prog.info? 272).map (fun i=>(i.zero,i.size,i.bytes))=some (some (.agg #[.int .i64 0,.int .u8 0,.int .i64 0,.int .i64 0,.string ⟨#[]⟩]),5,48):=by kernel_rfl
namespace Oc
def E.occ (e:E):List Value:=[.int .i64 e.n,.int .u8 e.c,.int .i64 e.sv,.int .i64 e.bf,.string e.lt]
def E.occv (e:E):Value:=.agg #[.int .i64 e.n,.int .u8 e.c,.int .i64 e.sv,.int .i64 e.bf,.string e.lt]
def TdRet (l:List Ru.R)(rA:Option Addr)(rc:Nat)(pA:Option Addr)(pc g b:Nat)(T:Nat→Prop)(x:List E)(w:World)(e:Ending)(w':World):Prop:=
 ∃v,e=.returned v∧w'.ownsRow w.heap.size 272 5 v x.length ((x.map (tell l)).flatMap E.occ)∧Alm l rA rc pA pc w' g b T∧w.grownBy w' (some b)
theorem Pl.bd {T:Nat→Prop}{w:World}{B size m:Nat}{A:Option Addr}{xs:List Value}(h:Pl T A m)(hr:Reads w B size A m xs){w':World}{row:Option Nat}(hg:w.grownBy w' row)(ht:∀j,row=some j→¬T j)(hB:B≤w.heap.size):Reads w' B size A m xs:=
 ⟨hr.1,fun hn=>by
  obtain⟨ad,e,hb,hc⟩:=hr.2 hn;refine⟨ad,e,hb,fun j u hu=>?_⟩;rw[World.cell?_of_block (hg.block (ad.add j).block (by rw[block_of_add];omega) (fun e2=>ht _ e2.symm (by rw[block_of_add];exact h ad e hn)))];exact hc j u hu⟩
theorem Alm.row {l:List Ru.R}{rA pA:Option Addr}{rc pc:Nat}{w w':World}{g b:Nat}{T:Nat→Prop}{row:Option Nat}(h:Alm l rA rc pA pc w g b T)(hg:w.grownBy w' row)(ht:∀j,row=some j→¬T j):Alm l rA rc pA pc w' g b T:=by
 refine⟨Lk.at_kept h.at_ hg (fun e=>ht g e.symm h.gT.1),(h.rT.bd h.rules hg ht (Nat.le_refl _)).more hg.size,(h.pT.bd h.places hg ht (Nat.le_refl _)).more hg.size,?_,h.gT,h.rT,h.pT⟩;obtain⟨n,f,ks,h1,h2,h3,h4,h5⟩:=h.memo;refine⟨n,f,ks,h1.kept hg (fun e=>ht b e.symm h.gT.2),h2,h3,h4,fun k v hk=>?_⟩;obtain⟨k1,A,c,k2,k3,k4⟩:=h5 k v hk;exact⟨k1,A,c,k2,(k4.bd k3 hg ht (Nat.le_refl _)).more hg.size,k4⟩
theorem down_less {l:List Ru.R}(e:E):Down l (fun o=>lessB o e):=fun _ _ _ _ h k=>less_trans h k
theorem sv_get (o:Option E):(o.getD E.zero).sv=svO o:=by cases o <;> rfl
end Oc
theorem toldC_any (o e:Oc.E)(h7:Nat)(w:World)(hA:At w h7 e.cells):
  Calls Tryz.prog 206 #[o.v,.pointer (some ⟨h7,0,none⟩)] w fun r w'=>r=.returned (.bool (Oc.lessB o e))∧Below w.heap.size w w':=by
 have hO:=fun W=>order_any o e W
 obtain⟨z,hz⟩:=aj (Oc.cf o e)
 have hcl:=Oc.cf_less o e;rw[hz] at hO hcl;rw[← hcl];obtain⟨⟨c0,c1,c2,c3,c4,c5,c6⟩,_⟩:=hA.seven;have zA:=hA.lt;unfold Oc.E.v at hO ⊢;have HO:=ak hO;clear hO hz hcl hA;go_enter Tryz.func206,Tryz.ntmps206
 go_wp2_with fail
 refine(HO.out _).mono ?_;rintro r w3 ⟨rfl,hg⟩;have HB:=ak (below_then ((Below.refl w.heap.size w).alloc (Nat.le_refl _) (.cells #[.int .i64 o.n,.int .u8 o.c,.int .i64 o.sv,.int .i64 o.bf,.string o.lt,.int .i64 o.pl,.int .i64 o.y] 314)) hg.below);clear hg;go_wp2;go_ret
 exact⟨rfl,HB.out⟩
theorem told_any (l:List Ru.R)(rA pA:Option Addr)(rc pc g b:Nat)(x:List Oc.E)(A:Option Addr)(c:Nat)(w:World)(hM:Oc.Alm l rA rc pA pc w g b (fun _=>True))(hW:Wo w)(hl:l.length≤4096)(hx:x.length≤100000000)(hev:∀e∈x,Oc.Ev l e)
  (hR:Reads w w.heap.size 7 A x.length (x.flatMap Oc.E.cells)):
  Calls Tryz.prog 184 #[.pointer (some ⟨g,0,none⟩),.slice A x.length c] w (Oc.TdRet l rA rc pA pc g b (fun _=>True) x w):=by
 have ec:=enters_of Tryz.func206 (by kernel_rfl) rfl;obtain⟨i0,i1,i2,i3,i4⟩:=info_parts occ_info;have HI:=ak (And.intro i1 (And.intro i2 (And.intro i3 i4)));clear i1 i2 i3 i4;obtain⟨m,hm⟩:∃m:Nat,x.length=m:=⟨_,rfl⟩
 rw[hm] at hx;have hmk:=fun W:World=>run_make (P:=Tryz.prog) W 290 272 i0 _ Tryz.underlying290 HI.out.1 HI.out.2.1 .i64 .i64 0 (m:Int) (by omega) (by omega) (by rw[HI.out.2.2.2];omega) (by omega)
 rw[HI.out.2.2.1] at hmk;obtain⟨MC,hMC⟩:=aj (madeCells (Value.agg #[.int .i64 0,.int .u8 0,.int .i64 0,.int .i64 0,.string ⟨#[]⟩]).cells ((m:Int).toNat*5))
 rw[hMC] at hmk;have hMs:MC.size=m*5:=by
  rw[← hMC,size_madeCells];simp
  try omega
 clear hMC;have hgw:∀(W:World),w.grownBy W (some b)→Wo W:=fun W hg=>hW.cells fun p v hc=>hM.memo.cell hc hg
 have HGW:=ak hgw;have hown0:(w.alloc (.cells MC 272)).ownsRow w.heap.size 272 5 (.slice (some ⟨w.heap.size,0,none⟩) 0 m) 0 []:=World.ownsRow_made w MC m (Nat.le_refl _) (by unfold maxLen;omega) hMs;have HO0:=ak hown0;have HM0:=ak hM;have HMl:=ak hM.memo.lt;have HR0:=ak hR;have HMm:=ak hm;have HEv:=ak hev;rw[hm];clear hM hW hR hm hev hgw hown0;go_enter Tryz.func184,Tryz.ntmps184
 go_wp2_with fail
 clear hmk hMs;go_loopw [5,16] (fun v i wr=>∃k:Nat,k≤m∧i=.int .i64 (k:Int)∧Hid (wr.ownsRow w.heap.size 272 5 v k (((x.take k).map (Oc.tell l)).flatMap Oc.E.occ))∧Hid (Oc.Alm l rA rc pA pc wr g b (fun k=>v.ownBlock≠some k))∧Hid (w.grownBy wr (some b))) (fun _ i _=>m - (intOf i).toNat)
 case atStart=>exact⟨0,Nat.zero_le _,rfl,HO0.out,(HM0.out.old.below (al)).mono (fun k hk e=>by have e2:some w.heap.size=some k:=e;injection e2 with e2;omega),grown_of_ (al) _⟩
 case round=>
  obtain⟨k,hk,rfl,HO,HM,HG⟩:=hrel;obtain⟨vA,vc,rfl,hv1,hv2⟩:=own_slice_cap HO.out;have hwr:=HG.out.size
  by_cases hlt:k<m
  ·have hRr:=HM0.out.memo.reads HR0.out HG.out;obtain⟨ad,e,rfl,hab,hxe,x0,x1,x2,x3,x4,x5,x6⟩:=Oc.ev_cells (x:=x) (n:=x.length) (k:=k) rfl hRr (by rw[HMm.out];exact hlt);have hab2:(ad.add (k*7)).block<wr.heap.size:=by rw[block_of_add];omega
   have hee:=HEv.out e (List.mem_of_getElem? hxe);have hey:=hee.inT.2.2;have q1:=am k
   have q2:(k:Int)<(m:Int):=(by omega);obtain⟨W1,hW1⟩:=aj (wr.alloc (.cells #[.int .i64 e.n,.int .u8 e.c,.int .i64 e.sv,.int .i64 e.bf,.string e.lt,.int .i64 e.pl,.int .i64 e.y] 314))
   have hb1:Below wr.heap.size wr W1:=by rw[← hW1];exact al
   have hA7:At W1 wr.heap.size e.cells:=by rw[← hW1];exact At.new _ _ _
   have hM1:=HM.out.below hb1;have hG1:=Oc.gb_below HG.out hb1;obtain⟨R,hR⟩:=aj (Oc.last l (e.y+1) (fun o=>Oc.lessB o e))
   have hL:=last_any l rA pA rc pc g b (e.y+1) (fun o=>Oc.lessB o e) 206 #[.pointer (some ⟨wr.heap.size,0,none⟩)] W1 hM1 (fun k hk e=>by have:=(HO.out.lt k e).2;have:=hb1.size;omega) (HGW.out _ hG1) hl (by omega) ec (fun W hg o _=>toldC_any o e wr.heap.size W (hM1.memo.at_ (x:=.int .i64 e.n) hA7 hg)) (Oc.down_less e);rw[hR] at hL;have hbf:Oc.before l e=(R.getD Oc.E.zero).sv:=by unfold Oc.before;rw[hR,Oc.sv_get]
   obtain⟨z,hz⟩:=aj (R.getD Oc.E.zero)
   unfold Oc.LastRet at hL;rw[hz] at hbf hL;have HBf:=ak hbf;have HL:=ak hL;have HA7:=ak hA7;have HM1:=ak hM1;have HG1:=ak hG1;have HW1:=ak hW1;have HO1:=ak (own_below HO.out hb1);have HXE:=ak hxe;have hz1:=hb1.size;clear hRr hxe hee hb1 hA7 hM1 hG1 hL hbf hW1 hR hz;go_wp2_with fail
   rw[HW1.out];refine HL.out.mono ?_;rintro r w3 ⟨rfl,hM3,hg3⟩;have hA3:=HM1.out.memo.at_ (x:=.int .i64 e.n) HA7.out hg3;obtain⟨⟨c0,c1,c2,c3,c4,c5,c6⟩,_⟩:=hA3.seven;have zA:=hA3.lt;have hO3:=HO1.out.kept hg3 (.inr (fun h=>by
    have:=(HO1.out.lt b h).1;have:=HMl.out;omega))
   have HO3:=ak hO3;have HM3:=ak hM3;have HG3:=ak (gb_then HG1.out hg3 (fun j hj=>.inr hj));have hz3:=hg3.size;clear hA3 hO3 hM3 hg3 x0 x1 x2 x3 x4 x5 x6;have hb4:Below w3.heap.size w3 ((w3.alloc (.cells #[.int .i64 z.n,.int .u8 z.c,.int .i64 z.sv,.int .i64 z.bf,.string z.lt,.int .i64 z.pl,.int .i64 z.y] 314)).alloc (.cells #[.int .i64 e.n,.int .u8 e.c,.int .i64 e.sv,.int .i64 z.sv,.string e.lt] 272)):=((Below.refl w3.heap.size w3).alloc (Nat.le_refl _) _).alloc (by simp) _;have HO4:=ak (own_below HO3.out hb4);have HM4:=ak (HM3.out.below hb4);have HG4:=ak (Oc.gb_below HG3.out hb4);have hz4:w.heap.size≤((w3.alloc (.cells #[.int .i64 z.n,.int .u8 z.c,.int .i64 z.sv,.int .i64 z.bf,.string z.lt,.int .i64 z.pl,.int .i64 z.y] 314)).alloc (.cells #[.int .i64 e.n,.int .u8 e.c,.int .i64 e.sv,.int .i64 z.sv,.string e.lt] 272)).heap.size:=HG4.out.size;have HAp:=fun {ops:Array Oper} {rest:List Oper} {o:Oper} {a:Act} {Q:Exit→Act→World→Prop} hgd ho hs hx h=>row_append (ops:=ops) (rest:=rest) (o:=o) (a:=a) (Q:=Q) 290 272 5 48 _ #[.int .i64 e.n,.int .u8 e.c,.int .i64 e.sv,.int .i64 z.sv,.string e.lt] Tryz.underlying290 occ_info rfl (by decide) rfl (by
    intro u hu;simp at hu
    rcases hu with rfl|rfl|rfl|rfl|rfl <;> rfl) (by decide) ((w3.alloc (.cells #[.int .i64 z.n,.int .u8 z.c,.int .i64 z.sv,.int .i64 z.bf,.string z.lt,.int .i64 z.pl,.int .i64 z.y] 314)).alloc (.cells #[.int .i64 e.n,.int .u8 e.c,.int .i64 e.sv,.int .i64 z.sv,.string e.lt] 272)) w.heap.size k _ (.slice vA k vc) 35 37 (w3.heap.size+1+1) (by simp) HO4.out (by omega) hz4 hgd ho hs hx h
   clear hb4 hz4;unfold Oc.E.v;go_wp2_with (at_builtin;refine HAp rfl rfl rfl rfl ?_;intro v9 w9 hown9 hb9 hg9 hat9)
   have hst:((x.take (k+1)).map (Oc.tell l)).flatMap Oc.E.occ=((x.take k).map (Oc.tell l)).flatMap Oc.E.occ ++ #[.int .i64 e.n,.int .u8 e.c,.int .i64 e.sv,.int .i64 z.sv,.string e.lt].toList:=by
    rw[List.take_add_one,HXE.out,List.map_append,List.flatMap_append]
    congr 1
    show [Value.int .i64 e.n,.int .u8 e.c,.int .i64 e.sv,.int .i64 (Oc.before l e),.string e.lt] ++ []=_
    rw[HBf.out];rfl
   have HO9:=ak (show w9.ownsRow w.heap.size 272 5 v9 (k+1) (((x.take (k+1)).map (Oc.tell l)).flatMap Oc.E.occ) by rw[hst];exact hown9);have HM9:=ak (show Oc.Alm l rA rc pA pc w9 g b (fun k=>v9.ownBlock≠some k) by
    rcases hat9 with e9|e9
    ·rw[e9];exact HM4.out.row hg9 (fun j hj hn=>hn hj)
    ·have h1:=HM4.out.old;refine(h1.row hg9 (fun j hj hn=>hn.1 hj)).mono (fun k hk e=>?_);rw[e9] at e
     injection e with e
     omega)
   have HG9:=ak (show w.grownBy w9 (some b) from gb_then HG4.out hg9 (fun j hj=>.inl (HO4.out.lt j hj).1));clear hown9 hb9 hg9 hat9 hst HAp;go_roundw
   case rel=>exact⟨k+1,by omega,by go_num,HO9.out,HM9.out,HG9.out⟩
   case measure=>simp[intOf];omega
  ·have hkm:k=m:=(by omega);subst hkm;have q2:¬(k:Int)<(k:Int):=(by omega);have ht:x.take k=x:=List.take_of_length_le (by rw[HMm.out];exact Nat.le_refl _);rw[ht] at HO;have HE:Hid (Oc.TdRet l rA rc pA pc g b (fun _=>True) x w (.returned (.slice vA k vc)) wr):=⟨_,rfl,by rw[HMm.out];exact HO.out,HM.out.mono (fun _ _=>trivial),HG.out⟩
   clear ht;go_wp2;go_ret
   exact HE.out
end Go.Proofs.YtjobhjemnmleaaaGreatDoor
namespace Go.Proofs.YtjobhjemnmleaaaGreatDoor
open Go.RowKit
theorem int_info : (Tryz.prog.info? 3).map (fun i=>(i.zero,i.size,i.bytes))=some (some (.int .i64 0),1,8):=by kernel_rfl
namespace Oc
theorem pls_snoc (r:Ru.R):∀(l:List Ru.R) (p:Nat),pls (l ++ [r]) p=pls l p ++ (if some_ r=true then [p+l.length] else [])
 |[],p=>by
  simp only[List.nil_append,List.length_nil,Nat.add_zero];unfold pls;split <;> rfl
 |q :: l,p=>by
  have ih:=pls_snoc r l (p+1);rw[List.cons_append];unfold pls;rw[ih,List.length_cons,show p+1+l.length=p+(l.length+1) by omega];split <;> rfl
def ints (x:List Nat):List Value:=x.map fun p:Nat=>.int .i64 (p:Int)
structure MAt (l:List Ru.R)(rA:Option Addr)(rc:Nat)(w:World)(h:Nat)(i:Value)(wr:World):Prop where
 st:∃(k:Nat) (pA:Option Addr) (pc:Nat),k≤l.length∧i=.int .i64 (k:Int)∧At wr (h+1) [.slice rA l.length rc,.slice pA (pls (l.take k) 0).length pc,.map (some h)]∧wr.ownsRow (h+2) 3 1 (.slice pA (pls (l.take k) 0).length pc) (pls (l.take k) 0).length (ints (pls (l.take k) 0))
 map:MapI Tryz.prog 3 wr h 0 (fun _=>none)
 bl:Below w.heap.size w wr
 sz:h+2≤wr.heap.size
def MkRet (l:List Ru.R)(rA:Option Addr)(rc:Nat)(w:World)(e:Ending)(w':World):Prop:=
 ∃g b pA pc,e=.returned (.tuple #[.pointer (some ⟨g,0,none⟩),.bool true])∧Alm l rA rc pA pc w' g b (fun _=>True)∧Below w.heap.size w w'∧w.heap.size≤b
end Oc
theorem ocOf_any (l:List Ru.R)(rA:Option Addr)(rc:Nat)(w:World)(hR:Reads w w.heap.size 11 rA l.length (l.flatMap Ru.R.cells))(hok:∀r∈l,r.Ok∧r.nm.size≤1000000∧r.lt.size≤1000000)(hW:Wo w)(hl:l.length≤4096):
  Calls Tryz.prog 181 #[.slice rA l.length rc] w (Oc.MkRet l rA rc w):=by
 obtain⟨n,hn⟩:=aj (l.length)
 obtain⟨h,hh⟩:=aj (w.heap.size)
 obtain⟨W2,hW2⟩:=aj ((w.alloc (.map #[] 0)).alloc (.cells #[.slice rA n rc,.slice none 0 0,.map (some h)] 329))
 have hb2:Below w.heap.size w W2:=by rw[← hW2];exact(al).alloc (by simp) _
 have hm2:MapI Tryz.prog 3 W2 h 0 (fun _=>none):=by rw[← hW2,← hh];exact(MapI.made w).alloc _
 have hA2:At W2 (h+1) [.slice rA n rc,.slice none 0 0,.map (some h)]:=by
  have:=At.new (w.alloc (.map #[] 0)) #[.slice rA n rc,.slice none 0 0,.map (some h)] 329;rw[hW2,World.size_alloc,hh] at this;exact this
 have hs2:W2.heap.size=h+2:=by rw[← hW2,World.size_alloc,World.size_alloc,hh]
 have hst:Hid (Oc.MAt l rA rc w h (.int .i64 0) W2):=⟨⟨0,none,0,Nat.zero_le _,rfl,by rw[hn];exact hA2,World.ownsRow_nil _ _ _ _⟩,hm2,hb2,by omega⟩
 have HR:=ak hR;have HOk:=ak hok;have HW:=ak hW;have HN:=ak hn;have HH:=ak hh;have HW2:=ak hW2;rw[hn] at hl ⊢;have hmk:=@run_makeMap Tryz.prog;clear hR hok hW hn hb2 hm2 hA2 hs2 hh hW2;go_enter Tryz.func181,Tryz.ntmps181
 go_wp2_with fail
 rw[HH.out,HW2.out];go_loopw [15] (fun i wr=>Oc.MAt l rA rc w h i wr) (fun i _=>n - (intOf i).toNat)
 case atStart=>exact hst.out
 case round=>
  obtain⟨⟨k,pA,pc,hk,rfl,hA,hO⟩,hmap,hB,hsz⟩:=hrel;rw[HN.out] at hk hA;obtain⟨q,hq⟩:=aj ((Oc.pls (l.take k) 0).length)
  have hqk:q≤k:=by rw[← hq];exact Nat.le_trans (Oc.pls_len _ _) (by simp;omega)
  rw[hq] at hA hO;have HQ:=ak hq;have HA:=ak hA;have HO:=ak hO;have HMap:=ak hmap;have HB:=ak hB;have hwr:=hB.size;clear hq hA hO hmap
  by_cases hlt:k<n
  ·obtain⟨ad,x,rfl,hab,Hx,HLc⟩:=Ix.reads_cells (enc:=Ru.R.cells) (m:=11) (fun _=>rfl) rfl (HR.out.below hB) (k:=k) (by rw[HN.out];exact hlt);obtain⟨hxok,hx1,hx2⟩:=HOk.out x (List.mem_of_getElem? Hx.out);have HCk:=ak fun W=>ruleCheck_ok x W hxok hx1 hx2
   have hst:Oc.pls (l.take (k+1)) 0=Oc.pls (l.take k) 0 ++ (if Oc.some_ x=true then [k] else []):=by
    rw[List.take_add_one,Hx.out];have:=Oc.pls_snoc x (l.take k) 0;rw[Nat.zero_add,List.length_take,HN.out,Nat.min_eq_left (by omega)] at this;exact this
   obtain⟨nm,fr,tt,mo,kk,nn,d,sc,cc,sv,lt⟩:=x;have hsm:Oc.some_ ⟨nm,fr,tt,mo,kk,nn,d,sc,cc,sv,lt⟩=decide ((Mo.nom kk nn d 2000 mo sc cc).2=0):=rfl;obtain⟨t1,t2,hnm⟩:∃a b,Mo.nom kk nn d 2000 mo sc cc=(a,b):=⟨_,_,rfl⟩
   rw[hnm] at hsm;rw[hsm] at hst;have HNm:=ak fun W hw=>by
    have:=nominal_any 2000 mo kk nn d sc cc W hw;rw[hnm] at this;exact this
   have HSt:=ak hst;unfold Ru.R.v at HCk;simp only at HCk;clear Hx hxok hx1 hx2 hst hsm hnm;have x0:wr.cell? (ad.add (k*11))=some (.string nm):=HLc.out 0 _ rfl;have x1:wr.cell? ⟨(ad.add (k*11)).block,(ad.add (k*11)).off+1,none⟩=some (.int .i64 fr):=HLc.out 1 _ rfl;have x2:wr.cell? ⟨(ad.add (k*11)).block,(ad.add (k*11)).off+2,none⟩=some (.int .i64 tt):=HLc.out 2 _ rfl;have x3:wr.cell? ⟨(ad.add (k*11)).block,(ad.add (k*11)).off+3,none⟩=some (.int .i64 mo):=HLc.out 3 _ rfl;have x4:wr.cell? ⟨(ad.add (k*11)).block,(ad.add (k*11)).off+4,none⟩=some (.int .u8 kk):=HLc.out 4 _ rfl;have x5:wr.cell? ⟨(ad.add (k*11)).block,(ad.add (k*11)).off+5,none⟩=some (.int .i64 nn):=HLc.out 5 _ rfl;have x6:wr.cell? ⟨(ad.add (k*11)).block,(ad.add (k*11)).off+6,none⟩=some (.int .i64 d):=HLc.out 6 _ rfl;have x7:wr.cell? ⟨(ad.add (k*11)).block,(ad.add (k*11)).off+7,none⟩=some (.int .i64 sc):=HLc.out 7 _ rfl;have x8:wr.cell? ⟨(ad.add (k*11)).block,(ad.add (k*11)).off+8,none⟩=some (.int .u8 cc):=HLc.out 8 _ rfl;have x9:wr.cell? ⟨(ad.add (k*11)).block,(ad.add (k*11)).off+9,none⟩=some (.int .i64 sv):=HLc.out 9 _ rfl;have x10:wr.cell? ⟨(ad.add (k*11)).block,(ad.add (k*11)).off+10,none⟩=some (.string lt):=HLc.out 10 _ rfl;have hab2:(ad.add (k*11)).block<wr.heap.size:=by rw[block_of_add];omega
   have q1:=am k
   have q2:(k:Int)<(n:Int):=(by omega);obtain⟨W3,hW3⟩:=aj (wr.alloc (.cells #[.string nm,.int .i64 fr,.int .i64 tt,.int .i64 mo,.int .u8 kk,.int .i64 nn,.int .i64 d,.int .i64 sc,.int .u8 cc,.int .i64 sv,.string lt] 112))
   have hb3:Below wr.heap.size wr W3:=by rw[← hW3];exact al
   have hR3:At W3 wr.heap.size [.string nm,.int .i64 fr,.int .i64 tt,.int .i64 mo,.int .u8 kk,.int .i64 nn,.int .i64 d,.int .i64 sc,.int .u8 cc,.int .i64 sv,.string lt]:=by rw[← hW3];exact At.new _ _ _
   have HR3:=ak hR3;have HB3:=ak hb3;have HW3:=ak hW3;clear hb3 hR3 hW3;go_wp2_with fail
   rw[HW3.out];refine(HCk.out _).mono ?_;rintro e w4 ⟨rfl,hb4⟩;have hb34:=below_then HB3.out hb4;have hR4:=HR3.out.call hb4;have r3:=hR4.cell 3 _ rfl;have r4:=hR4.cell 4 _ rfl;have r5:=hR4.cell 5 _ rfl;have r6:=hR4.cell 6 _ rfl;have r7:=hR4.cell 7 _ rfl;have r8:=hR4.cell 8 _ rfl;have zr:=hR4.lt;have HB4:=ak hb34;clear hb4 hb34 hR4 x0 x1 x2 x3 x4 x5 x6 x7 x8 x9 x10;go_wp2_with fail
   refine(HNm.out _ (HW.out.below (HB.out.trans (HB4.out.mono hwr)))).mono ?_;rintro e w5 ⟨rfl,hb5⟩;have hb45:=below_then HB4.out hb5;have HB5:=ak hb45;have HBw5:=ak (HB.out.trans (hb45.mono hwr));have HA5:=ak (HA.out.call hb45);have HO5:=ak (own_below HO.out hb45);have HM5:=ak (HMap.out.below hb45);have hsz5:h+2≤w5.heap.size:=Nat.le_trans hsz hb45.size;have HZ5:=ak hsz5;obtain⟨a0,a1,a2,f0,f1,f2⟩:=HA5.out.three;have za:=HA5.out.lt;clear hb5 hb45 r3 r4 r5 r6 r7 r8 zr
   by_cases ht2:t2=0
   ·subst ht2;rw[decide_eq_true rfl,if_pos rfl] at HSt;have HAp:=fun {ops:Array Oper} {rest:List Oper} {o:Oper} {a:Act} {Q:Exit→Act→World→Prop} hgd ho hs hx hK=>row_append (ops:=ops) (rest:=rest) (o:=o) (a:=a) (Q:=Q) 75 3 1 8 _ #[.int .i64 (k:Int)] Tryz.underlying75 int_info rfl (by decide) rfl (by
     intro u hu;simp at hu
     rw[hu];rfl) (by decide) w5 (h+2) q _ (.slice pA q pc) 39 41 w5.heap.size rfl HO5.out (by omega) hsz5 hgd ho hs hx hK
    have hArm:∀v9 w9,w9.ownsRow (h+2) 3 1 v9 (q+1) (Oc.ints (Oc.pls (l.take k) 0) ++ [.int .i64 (k:Int)])→w5.grownBy w9 (Value.slice pA q pc).ownBlock→At w9 (h+1) [.slice (some ad) n rc,.slice pA q pc,.map (some h)]∧MapI Tryz.prog 3 w9 h 0 (fun _=>none)∧Below w.heap.size w w9:=by
     intro v9 w9 _ hg9;refine⟨Lk.at_kept HA5.out hg9 (fun e=>?_),HM5.out.kept hg9 (fun e=>?_),HBw5.out.grown hg9 HBw5.out.size (fun j hj=>?_)⟩
     ·have:=(HO5.out.lt (h+1) e.symm).1;omega
     ·have:=(HO5.out.lt h e.symm).1;omega
     ·have:=(HO5.out.lt j hj).1;have:=HH.out;omega
    have HArm:=ak hArm;clear hArm;go_wp2_with (at_builtin;refine HAp rfl rfl rfl rfl ?_;intro v9 w9 hown9 hb9 hg9 hat9;obtain⟨vB,vd,rfl,_⟩:=own_slice hown9;obtain⟨hA9,hM9,hB9⟩:=HArm.out _ w9 hown9 hg9;have HA9:=ak hA9;have HM9:=ak hM9;have HB9:=ak hB9;have HOw9:=ak hown9;have hz9:=hg9.size;obtain⟨g0,g1,g2,g3,g4,g5⟩:=hA9.three;have zb:=hA9.lt;clear hA9 hown9 hb9 hg9 hat9 hM9 hB9)
    have hN:Oc.MAt l (some ad) rc w h (.int .i64 ((k:Int)+1)) (w9.setCell ⟨h+1,1,none⟩ (.slice vB (q+1) vd)):=by
     have e1:(Oc.pls (l.take (k+1)) 0).length=q+1:=by rw[HSt.out,List.length_append,HQ.out];rfl
     refine⟨⟨k+1,vB,vd,by rw[HN.out];omega,by simp,?_,?_⟩,HM9.out.setCell (a:=⟨h+1,1,none⟩) (by show h≠h+1;omega) _,HB9.out.setCell (p:=⟨h+1,1,none⟩) (by show w.heap.size≤h+1;have:=HH.out;omega) _,by rw[heap_set];have:=HZ5.out;omega⟩
     ·rw[HN.out,e1];exact HA9.out.set 1 _
     ·rw[e1];have h1:=ownsRow_setCell_other HOw9.out (a:=⟨h+1,1,none⟩) (fun e=>by have:=(HOw9.out.lt (h+1) e).1;omega) (.slice vB (q+1) vd);rw[HSt.out];unfold Oc.ints at h1 ⊢;rw[List.map_append];exact h1
    have HNx:=ak hN;clear hN;go_wp2;go_roundw
    case rel=>exact HNx.out
    case measure=>simp[intOf];omega
   ·have b1:(t2 == 0)=false:=by simpa using ht2
    rw[decide_eq_false ht2,if_neg (by decide),List.append_nil] at HSt;have hN:Oc.MAt l (some ad) rc w h (.int .i64 ((k:Int)+1)) w5:=by
     have e1:(Oc.pls (l.take (k+1)) 0).length=q:=by rw[HSt.out,HQ.out]
     refine⟨⟨k+1,pA,pc,by rw[HN.out];omega,by simp,?_,?_⟩,HM5.out,HBw5.out,HZ5.out⟩
     ·rw[HN.out,e1];exact HA5.out
     ·rw[e1,HSt.out];exact HO5.out
    have HNx:=ak hN;clear hN;go_wp2;go_roundw
    case rel=>exact HNx.out
    case measure=>simp[intOf];omega
  ·have hkn:k=n:=(by omega);subst hkn;have q2:¬(k:Int)<(k:Int):=(by omega);have ht:l.take k=l:=List.take_of_length_le (by rw[HN.out];exact Nat.le_refl _);have e1:Oc.Alm l rA rc pA pc wr (h+1) h (fun _=>True):=by
    have hA:=HA.out;have hO:=HO.out;have hQ:=HQ.out;rw[ht] at hQ hO;rw[← hQ] at hA hO;refine⟨by rw[HN.out];exact hA,(HR.out.below HB.out).more HB.out.size,Reads.of_own hO,⟨0,fun _=>none,[],HMap.out,List.nodup_nil,rfl,fun k hk=>(by cases hk),fun k v hk=>(by cases hk)⟩,⟨trivial,trivial⟩,fun _ _ _=>trivial,fun _ _ _=>trivial⟩
   have HE:Hid (Oc.MkRet l rA rc w (.returned (.tuple #[.pointer (some ⟨h+1,0,none⟩),.bool true])) wr):=⟨h+1,h,pA,pc,rfl,e1,HB.out,by have:=HH.out;omega⟩
   clear e1 ht;go_wp2;go_ret2
   exact HE.out
end Go.Proofs.YtjobhjemnmleaaaGreatDoor
