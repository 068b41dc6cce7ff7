/- almanac.year: the events of a year, noted. -/
import Derived.Test.YtjobhjemnmleaaaGreatDoorR14
import Derived.Laws.EntriesVeiled
set_option maxRecDepth 100000
set_option maxHeartbeats 8000000
namespace Go.Proofs.YtjobhjemnmleaaaGreatDoor
open Go.RowKit
theorem ev_info : (Tryz.prog.info? 314).map (fun i=>(i.zero,i.size,i.bytes))=some (some (.agg #[.int .i64 0,.int .u8 0,.int .i64 0,.int .i64 0,.string ⟨#[]⟩,.int .i64 0,.int .i64 0]),7,64):=by kernel_rfl
theorem ev_append {ops:Array Oper}{rest:List Oper}{o:Oper}{a:Act}{Q:Exit→Act→World→Prop}(W:World)(B n:Nat)(xs:List Value)(v:Value)(x:Oc.E)(p q g:Nat)(hgw:g=W.heap.size)
  (hO:W.ownsRow B 314 7 v n xs) (hl:n≤1000000000) (hB:B≤W.heap.size) (hgd:o.guard=none)
  (ho:o.op=.call { callee:=.builtin .append,args:=#[.tmp p,.tmp q],argTypes:=#[319,319] }) (hs:a.eval (.tmp p)=v) (hx:a.eval (.tmp q)=.slice (some ⟨g,0,none⟩) 1 1)
  (h:∀v' w',w'.ownsRow B 314 7 v' (n+1) (xs ++ x.cells)→Below B W w'→W.grownBy w' v.ownBlock→wpList Tryz.prog ops Q rest (a.put o.dst v') w'):
  wpList Tryz.prog ops Q (o :: rest) a (W.alloc (.cells #[.int .i64 x.n,.int .u8 x.c,.int .i64 x.sv,.int .i64 x.bf,.string x.lt,.int .i64 x.pl,.int .i64 x.y] 314)):=by
 subst hgw;obtain⟨i0,hi0,hz0,hz1,hz2⟩:=info_parts ev_info;have hR:Reads (W.alloc (.cells #[.int .i64 x.n,.int .u8 x.c,.int .i64 x.sv,.int .i64 x.bf,.string x.lt,.int .i64 x.pl,.int .i64 x.y] 314)) (W.heap.size+1) 7 (some ⟨W.heap.size,0,none⟩) 1 x.cells:=by
  have:=reads_cells_at W W.heap.size #[.int .i64 x.n,.int .u8 x.c,.int .i64 x.sv,.int .i64 x.bf,.string x.lt,.int .i64 x.pl,.int .i64 x.y] 7 314 rfl rfl;rw[World.size_alloc] at this;exact this
 refine wpList_append_any (P:=Tryz.prog) _ hgd (.tmp p) (.tmp q) 319 ho B 314 i0 _ 7 64 Tryz.underlying319 hi0 hz0 hz1 hz2 rfl (by omega) v n xs hs (hO.alloc _) (W.heap.size+1) _ 1 1 _ hx hR (by
  intro u hu;simp[Oc.E.cells] at hu
  rcases hu with rfl|rfl|rfl|rfl|rfl|rfl|rfl <;> rfl) (by unfold maxLen;omega) (by omega) (by rw[World.size_alloc];omega) ?_
 intro v' w' hown hg _;refine h v' w' hown (((Below.refl B W).alloc hB _).grown hg (by rw[World.size_alloc];omega) (fun g e=>(hO.lt g e).1)) ?_;exact gb_then (World.grownBy_alloc W _ _) hg (fun j e=>by
  rcases Nat.lt_or_ge j W.heap.size with q|q
  ·exact .inr e
  ·exact .inl q)
theorem Wo.cells {w w':World}(h:Wo w)(hc:∀p v,w.cell? p=some v→w'.cell? p=some v):Wo w':=by
 refine⟨fun k hk=>hc _ _ (h.lens k hk),?_⟩;obtain⟨m,hm⟩:=h.maxl;exact⟨m,hc _ _ hm⟩
theorem grown_of_ {w w1:World}(hb:Below w.heap.size w w1)(row:Option Nat):w.grownBy w1 row:=⟨hb.os,hb.tape,hb.output,hb.size,fun k hk _=>hb.block k hk⟩
namespace Oc
def YrRet (l:List Ru.R)(rA:Option Addr)(rc:Nat)(pA:Option Addr)(pc g b:Nat)(T:Nat→Prop)(y:Int)(w:World)(e:Ending)(w':World):Prop:=
 ∃A c,e=.returned (.slice A (year l y).length c)∧Reads w' w'.heap.size 7 A (year l y).length ((year l y).flatMap E.cells)∧Pl T A (year l y).length∧Alm l rA rc pA pc w' g b T∧w.grownBy w' (some b)
theorem pls_len : ∀(l:List Ru.R) (p:Nat),(pls l p).length≤l.length
 |[],_=>Nat.le_refl _
 |r :: l,p=>by
  have:=pls_len l (p+1);unfold pls;split <;> simp <;> omega
theorem atL_len (l:List Ru.R)(y:Int)(p:Nat):(atL l y p).length≤1:=by unfold atL;split <;> simp
theorem atLs_len (l:List Ru.R)(y:Int):∀x:List Nat,(x.flatMap (atL l y)).length≤x.length
 |[]=>Nat.le_refl _
 |p :: x=>by
  have:=atLs_len l y x;have:=atL_len l y p;rw[List.flatMap_cons,List.length_append,List.length_cons];omega
theorem year_len (l:List Ru.R)(y:Int):(year l y).length≤l.length:=by
 unfold year;rw[(perm_isort _).length_eq,← yearU_pls];exact Nat.le_trans (atLs_len l y _) (pls_len l 0)
theorem atLs_ev {l:List Ru.R}{y:Int}{e:E}(h:e∈(pls l 0).flatMap (atL l y)):Ev l e:=by
 rw[yearU_pls] at h;exact(mem_year.1 ((mem_isort e _).2 h)).1
end Oc
theorem sort_evs (l:List Ru.R)(x:List Oc.E)(hx:∀e∈x,Oc.Ev l e)(B:Nat)(v:Value)(w:World)(hO:w.ownsRow B 314 7 v x.length (x.flatMap Oc.E.cells))(hl:x.length≤1000000000):
  Calls Tryz.prog 198 #[v,.func (.func 199) #[] #[]] w fun e w'=>e=.returned (.tuple #[])∧(∃A c,v=.slice A (Oc.isort x).length c∧Reads w' w'.heap.size 7 A (Oc.isort x).length ((Oc.isort x).flatMap Oc.E.cells))∧w.grownBy w' v.ownBlock:=by
 have hlen:=(Oc.perm_isort x).length_eq;rcases hO.2 with ⟨rfl,h0⟩|⟨g,cap,cur,rfl,_⟩
 ·obtain rfl:x=[]:=List.eq_nil_of_length_eq_zero h0;refine(sortEv_none 0 w).mono ?_;rintro e w' ⟨rfl,rfl⟩;exact⟨rfl,⟨none,0,rfl,Reads.none_⟩,World.grownBy.refl _ _⟩
 ·refine(sortEv_some x g cap B w hO (by omega)).mono ?_;rintro e w' ⟨rfl,x',h1,h2,h3,h4⟩;have he:x'=Oc.isort x:=Oc.srt_one (l:=l) h1 (Oc.srt_isort x) (h2.trans (Oc.perm_isort x).symm) (fun e he=>hx e (h2.mem_iff.1 he));subst he;rw[← hlen] at h3;exact⟨rfl,⟨_,cap,by rw[hlen],h3⟩,h4⟩
namespace Oc
theorem Memo.put {l:List Ru.R}{w w':World}{b n:Nat}{f:Mi.Fn}{ks:List Int}{y:Int}{A:Option Addr}{c:Nat}{T:Nat→Prop}(hm:MapI Tryz.prog 3 w b n f)(h1:ks.Nodup)(h2:ks.length=n)(h3:∀k∈ks,0≤k∧k≤10000∧(f k).isSome=true)
  (h4:∀k v,f k=some v→k∈ks∧∃A c,v=.slice A (year l k).length c∧Reads w w.heap.size 7 A (year l k).length ((year l k).flatMap E.cells)∧Pl T A (year l k).length) (hy:0≤y∧y≤10000) (hf:f y=none)
  (hr:Reads w w.heap.size 7 A (year l y).length ((year l y).flatMap E.cells)) (hpl:Pl T A (year l y).length) (hm':MapI Tryz.prog 3 w' b (n+1) (Mi.put f y (.slice A (year l y).length c))) (hg:w.grownBy w' (some b)):Memo l w' b T:=by
 refine⟨n+1,_,y :: ks,hm',List.nodup_cons.2 ⟨fun h=>?_,h1⟩,by rw[List.length_cons,h2],fun k hk=>?_,fun k v hk=>?_⟩
 ·have:=(h3 y h).2.2;rw[hf] at this;cases this
 ·rcases List.mem_cons.1 hk with rfl|hk
  ·exact⟨hy.1,hy.2,by rw[Mi.put_same];rfl⟩
  ·obtain⟨a,c',d⟩:=h3 k hk;refine⟨a,c',?_⟩;unfold Mi.put;split
   ·rfl
   ·exact d
 ·unfold Mi.put at hk;split at hk
  ·rename_i e
   subst e;cases hk
   exact⟨List.mem_cons_self,A,c,rfl,(reads_besideI hr hm hg).more hg.size,hpl⟩
  ·obtain⟨k1,A',c',k2,k3,k4⟩:=h4 k v hk;exact⟨List.mem_cons_of_mem _ k1,A',c',k2,(reads_besideI k3 hm hg).more hg.size,k4⟩
end Oc
theorem year_any (l:List Ru.R)(rA pA:Option Addr)(rc pc g b:Nat)(y:Int)(w:World){T:Nat→Prop}(hM:Oc.Alm l rA rc pA pc w g b T)(hT:∀k,w.heap.size≤k→T k)(hW:Wo w)(hl:l.length≤4096)(hy:0≤y∧y≤10000):
  Calls Tryz.prog 197 #[.pointer (some ⟨g,0,none⟩),.int .i64 y] w (Oc.YrRet l rA rc pA pc g b T y w):=by
 obtain⟨mn,f,ks,hmap,hk1,hk2,hk3,hk4⟩:=hM.memo;have hkl:=Oc.keys_le hk1 (fun k hk=>⟨(hk3 k hk).1,(hk3 k hk).2.1⟩);have hwf:=Mi.wf (a:=y) (by omega) (by omega);have a0:=hM.at_.cell 0 _ rfl;have a1:=hM.at_.cell 1 _ rfl;have a2:=hM.at_.cell 2 _ rfl;have za:=hM.at_.lt;have hz:∀W,(zeroValue 319).run Tryz.prog W=.ok (.slice none 0 0) W:=fun W=>Tryz.zeroValue319 W
 cases hf:f y with
 |some v=>
  obtain⟨_,A,c,rfl,hrd,hpl⟩:=hk4 y v hf;have HPl:=ak hpl;have HR:=ak hrd;have HM:=ak hM;have HMap:=ak hmap;have HF:=ak hf;clear hM hmap hk1 hk2 hk3 hk4 hf hrd hpl a1 a0 hT;go_enter Tryz.func197,Tryz.ntmps197
  go_wp2_with (first|(at_lookup;refine wpList_lookI_ok _ rfl _ _ _ _ _ rfl Tryz.underlying3 Tryz.underlying327 hz b mn f y hwf rfl rfl HMap.out ?_;rw[HF.out];simp only[Option.getD_some,Option.isSome_some]))
  go_ret
  exact⟨A,c,rfl,HR.out,HPl.out,HM.out,World.grownBy.refl w _⟩
 |none=>
  obtain⟨P,hP⟩:=aj (Oc.pls l 0)
  obtain⟨np,hnp⟩:=aj (P.length)
  have hnl:np≤4096:=by rw[← hnp,← hP];exact Nat.le_trans (Oc.pls_len l 0) hl
  have hul:=Oc.yearU_pls l y;have hev:=fun e he=>Oc.atLs_ev (l:=l) (y:=y) (e:=e) he
  rw[hP] at a1 hul hev;rw[hnp] at a1;have HP:=ak hP;have HNP:=ak hnp;have HM:=ak hM;have HMp:=ak hmap;have HF:=ak hf;have HU:=ak hul;have HEv:=ak hev;have HW:=ak hW;have HK:=ak (And.intro hk1 (And.intro hk2 (And.intro hk3 hk4)));have HT:=ak hT;have HAt:=ak fun p W hA hWw hp=>ocAt_any (T:=T) l rA pA rc pc g b p y W hA hWw hp
  clear hM hmap hk1 hk2 hk3 hk4 hf hP hnp hul hev hW hT;go_enter Tryz.func197,Tryz.ntmps197
  go_wp2_with (first|(at_lookup;refine wpList_lookI_ok _ rfl _ _ _ _ _ rfl Tryz.underlying3 Tryz.underlying327 hz b mn f y hwf rfl rfl HMp.out ?_;rw[HF.out];simp only[Option.getD_none,Option.isSome_none]))
  clear a0 a1 a2 hz;go_loopw [7,28] (fun v i wr=>∃k:Nat,k≤np∧i=.int .i64 (k:Int)∧Hid (wr.ownsRow w.heap.size 314 7 v ((P.take k).flatMap (Oc.atL l y)).length (((P.take k).flatMap (Oc.atL l y)).flatMap Oc.E.cells))∧Hid (Below w.heap.size w wr)) (fun _ i _=>np - (intOf i).toNat)
  case atStart=>exact⟨0,Nat.zero_le _,rfl,World.ownsRow_nil _ _ _ _,Below.refl _ _⟩
  case round=>
   obtain⟨k,hk,rfl,HO,HB⟩:=hrel;obtain⟨q,hq⟩:=aj (((P.take k).flatMap (Oc.atL l y)).length)
   have hqk:q≤k:=by
    rw[← hq];exact Nat.le_trans (Oc.atLs_len l y _) (by simp;omega)
   rw[hq] at HO;have HQ:=ak hq;obtain⟨vA,vc,rfl,hv1,hv2⟩:=own_slice_cap HO.out;have hwr:=HB.out.size;clear hq
   by_cases hlt:k<np
   ·have hA:=HM.out.below HB.out;obtain⟨ap,p,rfl,hap,hpk,cp,hpl⟩:=Oc.place_at hA.places (k:=k) (by rw[HP.out,HNP.out];exact hlt);rw[HP.out] at hpk;have hst:(P.take (k+1)).flatMap (Oc.atL l y)=(P.take k).flatMap (Oc.atL l y) ++ Oc.atL l y p:=by
     rw[List.take_add_one,hpk,List.flatMap_append]
     congr 1
     simp
    have c0:=hA.at_.cell 0 _ rfl;have zg:=hA.at_.lt;have HC:=ak (HAt.out p wr hA (HW.out.below HB.out) hpl);have q1:=am k
    have q2:(k:Int)<(np:Int):=(by omega);have HSt:=ak hst;clear hA hpk hst
    by_cases hh:Oc.holds (Oc.rl l p) y=true
    ·obtain⟨x,hx⟩:=aj (Oc.mk (Oc.rl l p) p y)
     have e1:Oc.atL l y p=[x]:=by unfold Oc.atL;rw[if_pos hh,hx]
     have e2:Oc.atS l p y=x:=by unfold Oc.atS;rw[if_pos hh,hx]
     rw[e1] at HSt;rw[e2,hh] at HC;clear e1 e2 hh hx;go_wp2_with fail
     refine HC.out.mono ?_;rintro e w3 ⟨rfl,hb⟩;have HB3:=ak (HB.out.trans (hb.mono hwr));have HO3:=ak (show w3.ownsRow w.heap.size 314 7 (.slice vA q vc) q _ from own_below HO.out hb);have hw3:=hb.size;have h3:w.heap.size≤w3.heap.size:=Nat.le_trans hwr hw3;have HAp:=fun {ops:Array Oper} {rest:List Oper} {o:Oper} {a:Act} {Q:Exit→Act→World→Prop} hgd ho hs hx h=>ev_append (ops:=ops) (rest:=rest) (o:=o) (a:=a) (Q:=Q) (w3.alloc (.cells #[.int .i64 x.n,.int .u8 x.c,.int .i64 x.sv,.int .i64 x.bf,.string x.lt,.int .i64 x.pl,.int .i64 x.y] 314)) w.heap.size q _ (.slice vA q vc) x 40 42 (w3.heap.size+1) (by simp) (HO3.out.alloc _) (by omega) (by rw[World.size_alloc];omega) hgd ho hs hx h
     clear hb hw3 c0 cp;unfold Oc.E.v;go_wp2_with (at_builtin;refine HAp rfl rfl rfl rfl ?_;intro v9 w9 hown9 hb9 hg9)
     have HO9:=ak (show w9.ownsRow w.heap.size 314 7 v9 ((P.take (k+1)).flatMap (Oc.atL l y)).length (((P.take (k+1)).flatMap (Oc.atL l y)).flatMap Oc.E.cells) by
      rw[HSt.out,List.length_append,HQ.out,List.flatMap_append];simpa using hown9)
     have HB9:=ak ((HB3.out.alloc HB3.out.size (.cells #[.int .i64 x.n,.int .u8 x.c,.int .i64 x.sv,.int .i64 x.bf,.string x.lt,.int .i64 x.pl,.int .i64 x.y] 314)).trans hb9);clear hown9 hb9 hg9 HAp;go_wp2;go_roundw
     case rel=>exact⟨k+1,by omega,by go_num,HO9.out,HB9.out⟩
     case measure=>simp[intOf];omega
    ·have hh':Oc.holds (Oc.rl l p) y=false:=by simpa using hh
     have e1:Oc.atL l y p=[]:=by unfold Oc.atL;rw[if_neg hh]
     have e2:Oc.atS l p y=Oc.E.zero:=by unfold Oc.atS;rw[if_neg hh]
     rw[e1,List.append_nil] at HSt;rw[e2,hh'] at HC;clear e1 e2 hh hh';go_wp2_with fail
     refine HC.out.mono ?_;rintro e w3 ⟨rfl,hb⟩;have HB3:=ak (HB.out.trans (hb.mono hwr));have HB9:=ak (HB3.out.alloc HB3.out.size (.cells #[.int .i64 0,.int .u8 0,.int .i64 0,.int .i64 0,.string ⟨#[]⟩,.int .i64 0,.int .i64 0] 314));have HO9:=ak (show (w3.alloc (.cells #[.int .i64 0,.int .u8 0,.int .i64 0,.int .i64 0,.string ⟨#[]⟩,.int .i64 0,.int .i64 0] 314)).ownsRow w.heap.size 314 7 (.slice vA q vc) ((P.take (k+1)).flatMap (Oc.atL l y)).length (((P.take (k+1)).flatMap (Oc.atL l y)).flatMap Oc.E.cells) by
      rw[HSt.out,HQ.out];exact(own_below HO.out hb).alloc _)
     clear hb c0 cp;unfold Oc.E.v Oc.E.zero;go_wp2;go_roundw
     case rel=>exact⟨k+1,by omega,by go_num,HO9.out,HB9.out⟩
     case measure=>simp[intOf];omega
   ·have hkn:k=np:=(by omega);subst hkn;have q2:¬(k:Int)<(k:Int):=(by omega);have ht:P.take k=P:=List.take_of_length_le (by rw[HNP.out];exact Nat.le_refl _);have HO1:=HO.out;have HQ1:=HQ.out;rw[ht,HU.out] at HO1;rw[ht,HU.out] at HQ1;rw[← HQ1] at HO1;have hev2:∀e∈Oc.yearU l 0 y,Oc.Ev l e:=fun e he=>HEv.out e (by rw[HU.out];exact he)
    have hC:=sort_evs l (Oc.yearU l 0 y) hev2 w.heap.size (.slice vA (Oc.yearU l 0 y).length vc) wr HO1 (by omega);have hown:=HO1.lt;rw[HQ1] at hC hown;have HC:=ak hC;have HOw:=ak hown;clear ht HO1 hC hev2 HQ1 hown;go_wp2_with fail
    refine HC.out.mono ?_;rintro e w5 ⟨rfl,⟨A,c,hv,hrd⟩,hg⟩
    injection hv with hv1 hv2 hv3
    subst hv1 hv3;have hyl:(Oc.isort (Oc.yearU l 0 y)).length=(Oc.year l y).length:=rfl;have hb5:Below w.heap.size w w5:=HB.out.grown hg hwr (fun j hj=>(HOw.out j hj).1);have hA5:=HM.out.below hb5;have hm5:=HMp.out.below hb5;have b2:=hA5.at_.cell 2 _ rfl;have zb:=hA5.at_.lt;have HA5:=ak hA5;have HM5:=ak hm5;have HB5:=ak hb5;have HR5:=ak (show Reads w5 w5.heap.size 7 vA (Oc.year l y).length ((Oc.year l y).flatMap Oc.E.cells) from hrd);have HK5:=ak fun k v hk=>by
     obtain⟨k1,A,c,k2,k3,k4⟩:=HK.out.2.2.2 k v hk;exact(⟨k1,A,c,k2,(k3.below hb5).more hb5.size,k4⟩:k∈ks∧∃A c,v=.slice A (Oc.year l k).length c∧Reads w5 w5.heap.size 7 A (Oc.year l k).length ((Oc.year l k).flatMap Oc.E.cells)∧Oc.Pl T A (Oc.year l k).length)
    have hq5:q=(Oc.year l y).length:=hv2;have hmn:mn<maxLen:=by
     have:=HK.out.2.1;unfold maxLen;omega
    have HQ5:=ak hq5;have hpl5:Oc.Pl T vA (Oc.year l y).length:=fun ad ha _=>HT.out _ (HOw.out ad.block (by rw[ha];rfl)).1
    have HP5:=ak hpl5;have HEnd:Hid (∀w6,MapI Tryz.prog 3 w6 b (mn+1) (Mi.put f y (.slice vA q vc))→w5.grownBy w6 (some b)→Oc.YrRet l rA rc pA pc g b T y w (.returned (.slice vA q vc)) w6):=by
     intro w6 hM6 hg6;have hm6:Oc.Memo l w6 b T:=Oc.Memo.put (A:=vA) (c:=vc) HM5.out HK.out.1 HK.out.2.1 HK.out.2.2.1 HK5.out hy HF.out HR5.out HP5.out (by rw[← hq5];exact hM6) hg6;exact⟨vA,vc,by rw[hq5],(Oc.reads_besideI HR5.out HM5.out hg6).more hg6.size,HP5.out,HA5.out.grown hg6 hm6,gb_then (grown_of_ HB5.out (some b)) hg6 (fun j hj=>.inr hj)⟩
    clear hrd hg hb5 hA5 hm5 hv2 hq5 hpl5;go_wp2_with (first|(at_mapUpdate;refine wpList_storeI _ rfl _ _ _ _ _ _ rfl Tryz.underlying3 Tryz.underlying327 b mn f y hwf hmn (.slice vA q vc) rfl rfl rfl HM5.out ?_;intro w6 hM6 hg6;have HE6:=ak (HEnd.out w6 hM6 hg6);clear hM6 hg6))
    go_ret
    exact HE6.out
end Go.Proofs.YtjobhjemnmleaaaGreatDoor
namespace Go.Proofs.YtjobhjemnmleaaaGreatDoor
open Go.RowKit
namespace Oc
def SeRet (n:Nat)(p:Nat→Bool)(w:World)(e:Ending)(w':World):Prop:=
 ∃r:Nat,r≤n∧e=.returned (.int .i64 (r:Int))∧(∀i,i<r→p i=false)∧(∀i,r≤i→i<n→p i=true)∧Below w.heap.size w w'
end Oc
theorem search_any (n:Nat)(F:FuncId)(cb:Array Value)(p:Nat→Bool)(w:World)(hn:n≤1000000000)(eg:∀args w,(callFunc F args).run Tryz.prog w=.ok (.enter F args) w)
  (hf:∀W,Below w.heap.size w W→∀i:Nat,i<n→Calls Tryz.prog F (#[.int .i64 (i:Int)] ++ cb) W fun e w'=>e=.returned (.bool (p i))∧Below W.heap.size W w')
  (hm:∀i j,i≤j→j<n→p i=true→p j=true):
  Calls Tryz.prog 152 #[.int .i64 (n:Int),.func (.func F) #[] cb] w (Oc.SeRet n p w):=by
 have HF:=ak hf;have HM:=ak hm;clear hf hm;go_enter Tryz.func152,Tryz.ntmps152
 go_wp2;go_loopw [5,6] (fun a c wr=>∃i j:Nat,i≤j∧j≤n∧a=.int .i64 (i:Int)∧c=.int .i64 (j:Int)∧Hid (∀k,k<i→p k=false)∧Hid (∀k,j≤k→k<n→p k=true)∧Hid (Below w.heap.size w wr)) (fun a c _=>(intOf c).toNat - (intOf a).toNat)
 case atStart=>exact⟨0,n,Nat.zero_le _,Nat.le_refl _,rfl,rfl,fun k hk=>by omega,fun k h1 h2=>by omega,Below.refl _ _⟩
 case round=>
  obtain⟨i,j,hij,hjn,rfl,rfl,H1,H2,HB⟩:=hrel
  by_cases hlt:i<j
  ·have q1:(i:Int)<(j:Int):=(by omega);obtain⟨h,hh⟩:∃h:Nat,(i+j) / 2=h:=⟨_,rfl⟩
   have h1:i≤h:=(by omega);have h2:h<j:=(by omega);have hI:((i:Int)+(j:Int)) / 2=(h:Int):=(by omega);have HI:=ak hI;cases hp:p h with
   |true=>
    have HC:=ak (HF.out wr HB.out h (by omega));rw[hp] at HC;have HN:Hid (∀k,h≤k→k<n→p k=true):=fun k k1 k2=>HM.out h k k1 k2 hp
    clear hI hh hp;go_wp2_with fail
    rw[HI.out];refine HC.out.mono ?_;rintro e w3 ⟨rfl,hb⟩;have HB3:=ak (below_then HB.out hb);clear hb;go_wp2;go_roundw
    case rel=>exact⟨i,h,h1,by omega,rfl,rfl,H1.out,HN.out,HB3.out⟩
    case measure=>simp[intOf];omega
   |false=>
    have HC:=ak (HF.out wr HB.out h (by omega));rw[hp] at HC;have HN:Hid (∀k,k<h+1→p k=false):=fun k k1=>by
     cases hk:p k with
     |false=>rfl
     |true=>
      have:=HM.out k h (by omega) (by omega) hk;rw[hp] at this;cases this
    clear hI hh hp;go_wp2_with fail
    rw[HI.out];refine HC.out.mono ?_;rintro e w3 ⟨rfl,hb⟩;have HB3:=ak (below_then HB.out hb);clear hb;go_wp2;go_roundw
    case rel=>exact⟨h+1,j,by omega,hjn,by go_num,rfl,HN.out,H2.out,HB3.out⟩
    case measure=>simp[intOf];omega
  ·have hje:i=j:=(by omega);subst hje;have q1:¬(i:Int)<(i:Int):=(by omega);go_wp2;go_ret
   exact⟨i,hjn,rfl,H1.out,H2.out,HB.out⟩
end Go.Proofs.YtjobhjemnmleaaaGreatDoor
namespace Go.Proofs.YtjobhjemnmleaaaGreatDoor
open Go.RowKit
namespace Oc
theorem lastP_cut {x:List E}{P:E→Bool}{r:Nat}(h1:∀i e,i<r→x[i]?=some e→P e=true)(h2:∀i e,r≤i→x[i]?=some e→P e=false):lastP x P=(x.take r).getLast?:=by
 unfold lastP;have e:x.filter P=x.take r:=by
  have h:=List.take_append_drop r x;have ha:(x.take r).filter P=x.take r:=by
   rw[List.filter_eq_self];intro a ha;obtain⟨i,hi,rfl⟩:=List.getElem_of_mem ha;rw[List.length_take] at hi;exact h1 i _ (by omega) (by rw[List.getElem_take,List.getElem?_eq_getElem])
  have hb:(x.drop r).filter P=[]:=by
   rw[List.filter_eq_nil_iff];intro a ha;obtain⟨i,hi,rfl⟩:=List.getElem_of_mem ha;rw[List.length_drop] at hi;rw[h2 (r+i) _ (by omega) (by rw[List.getElem_drop,List.getElem?_eq_getElem])]
   decide
  calc x.filter P=(x.take r ++ x.drop r).filter P:=by rw[h]
   _=x.take r:=by rw[List.filter_append,ha,hb,List.append_nil]
 rw[e]
theorem take_last {x:List E}{r:Nat}(h0:0<r)(hr:r≤x.length):∃e,x[r - 1]?=some e∧(x.take r).getLast?=some e:=by
 refine⟨x[r - 1],List.getElem?_eq_getElem (by omega),?_⟩;rw[List.getLast?_eq_getElem?,List.length_take,List.getElem?_take,Nat.min_eq_left hr,if_pos (by omega),List.getElem?_eq_getElem (by omega)]
def Down (l:List Ru.R)(P:E→Bool):Prop:=∀a b,Ev l a→Ev l b→lessB a b=true→P b=true→P a=true
theorem year_ev {l:List Ru.R}{y:Int}{e:E}(h:e∈year l y):Ev l e:=(mem_year.1 h).1
theorem down_year {l:List Ru.R}{P:E→Bool}(hP:Down l P){y:Int}{i j:Nat}{a b:E}(hij:i≤j)(ha:(year l y)[i]?=some a)(hb:(year l y)[j]?=some b)(h:P b=true):P a=true:=by
 rcases Nat.eq_or_lt_of_le hij with e|e
 ·subst e;rw[ha] at hb;cases hb
  exact h
 ·have hs:=srt_year l y;unfold Srt at hs;rw[List.pairwise_iff_getElem] at hs;obtain⟨h1,h2⟩:=List.getElem?_eq_some_iff.1 ha;obtain⟨h3,h4⟩:=List.getElem?_eq_some_iff.1 hb;have h5:=hs i j h1 h3 e;rw[h2,h4] at h5;have hae:=year_ev (List.mem_of_getElem? ha);have hbe:=year_ev (List.mem_of_getElem? hb);rcases hae.total hbe with q|q|q
  ·exact hP a b hae hbe q h
  ·rw[q] at h5;cases h5
  ·rw[q];exact h
theorem ev_cells {x:List E}{w:World}{B n k:Nat}{A:Option Addr}(hn:x.length=n)(h:Reads w B 7 A n (x.flatMap E.cells))(hk:k<n):
  ∃ad e,A=some ad∧ad.block<B∧x[k]?=some e∧w.cell? (ad.add (k*7))=some (.int .i64 e.n)∧w.cell? ⟨(ad.add (k*7)).block,(ad.add (k*7)).off+1,none⟩=some (.int .u8 e.c)∧w.cell? ⟨(ad.add (k*7)).block,(ad.add (k*7)).off+2,none⟩=some (.int .i64 e.sv)∧
   w.cell? ⟨(ad.add (k*7)).block,(ad.add (k*7)).off+3,none⟩=some (.int .i64 e.bf)∧w.cell? ⟨(ad.add (k*7)).block,(ad.add (k*7)).off+4,none⟩=some (.string e.lt)∧w.cell? ⟨(ad.add (k*7)).block,(ad.add (k*7)).off+5,none⟩=some (.int .i64 e.pl)∧w.cell? ⟨(ad.add (k*7)).block,(ad.add (k*7)).off+6,none⟩=some (.int .i64 e.y):=by
 obtain⟨ad,e,rfl,hab,Hx,HLc⟩:=Ix.reads_cells (enc:=E.cells) (m:=7) (fun _=>rfl) hn h hk;exact⟨ad,e,rfl,hab,Hx.out,HLc.out 0 _ rfl,HLc.out 1 _ rfl,HLc.out 2 _ rfl,HLc.out 3 _ rfl,HLc.out 4 _ rfl,HLc.out 5 _ rfl,HLc.out 6 _ rfl⟩
end Oc
theorem lastC_any (x:List Oc.E)(P:Oc.E→Bool)(A:Option Addr)(n c i h0 h1:Nat)(F:FuncId)(cb:Array Value)(w:World)(hn:x.length=n)(hi:i<n)(eg:∀args w,(callFunc F args).run Tryz.prog w=.ok (.enter F args) w)
  (c0:w.cell? ⟨h0,0,none⟩=some (.func (.func F) #[] cb)) (c1:w.cell? ⟨h1,0,none⟩=some (.slice A n c)) (hR:Reads w w.heap.size 7 A n (x.flatMap Oc.E.cells))
  (hS:∀q e,x[i]?=some e→Calls Tryz.prog F (#[e.v] ++ cb) (w.drewN q) fun r w'=>r=.returned (.bool (P e))∧Below (w.drewN q).heap.size (w.drewN q) w'):
  Calls Tryz.prog 205 #[.int .i64 (i:Int),.pointer (some ⟨h0,0,none⟩),.pointer (some ⟨h1,0,none⟩)] w fun e w'=>(∃a,x[i]?=some a∧e=.returned (.bool (!P a)))∧Below w.heap.size w w':=by
 obtain⟨ad,e,rfl,hab,hx,x0,x1,x2,x3,x4,x5,x6⟩:=Oc.ev_cells hn hR hi;have hC:=fun q=>hS q e hx
 unfold Oc.E.v at hC;have HC:=ak hC;have HX:=ak hx;have z0:=block_lt_of_cell c0;have z1:=block_lt_of_cell c1;have hab2:(ad.add (i*7)).block<w.heap.size:=by rw[block_of_add];exact hab
 have q1:=am i
 have q2:(i:Int)<(n:Int):=by omega
 clear hS hC hx hR hn;go_enter Tryz.func205,Tryz.ntmps205
 go_wp2_with fail
 refine wp_region_quiet_tail (C:=fun w'=>∃j,w'=w.drewN j) 5 (by kernel_rfl) (by kernel_rfl) ⟨1,rfl⟩ ?_
 repeat (quiet_step (fail))
 refine wpQuiet_nil ?_;intro wz hwz;obtain⟨nq,rfl⟩:=hwz;show wpList _ _ _ (_ :: _) _ _
 go_wp2_with fail
 refine(HC.out nq).mono ?_;rintro r w3 ⟨rfl,hb⟩;have HB:=ak (show Below w.heap.size w w3 from(below_drewN (Below.refl _ w) nq).trans hb);clear hb;go_wp2;go_ret
 exact⟨⟨e,HX.out,rfl⟩,HB.out⟩
end Go.Proofs.YtjobhjemnmleaaaGreatDoor
