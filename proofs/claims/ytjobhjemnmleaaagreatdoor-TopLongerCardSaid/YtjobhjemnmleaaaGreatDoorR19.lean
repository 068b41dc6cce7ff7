/- occur.Of: the occurrences of some years, and the last one ahead of them of each rule. -/
import Derived.Test.YtjobhjemnmleaaaGreatDoorR18
set_option maxRecDepth 200000
set_option maxHeartbeats 16000000
namespace Go.Proofs.YtjobhjemnmleaaaGreatDoor
open Go.RowKit
namespace Oc
theorem backGo_len (r:Ru.R)(p:Nat):∀(f:Nat) (y:Int),(backGo r p f y).length≤1
 |0,_=>by simp[backGo]
 |f+1,y=>by
  unfold backGo;split
  ·simp
  ·split
   ·simp
   ·exact backGo_len r p f (y - 1)
theorem backs_len (l:List Ru.R)(lo:Int):∀x:List Nat,(x.flatMap (back l lo)).length≤x.length
 |[]=>Nat.le_refl _
 |p :: x=>by
  have h1:=backs_len l lo x;have h2:(back l lo p).length≤1:=backGo_len _ _ _ _;rw[List.flatMap_cons,List.length_append,List.length_cons];omega
theorem years_len (l:List Ru.R):∀x:List Int,(x.flatMap (year l)).length≤x.length*l.length
 |[]=>by simp
 |y :: x=>by
  have h1:=years_len l x;have h2:=year_len l y;rw[List.flatMap_cons,List.length_append,List.length_cons,Nat.succ_mul];omega
theorem yrs_len : ∀(k:Nat) (lo:Int),(yrs k lo).length=k
 |0,_=>rfl
 |k+1,lo=>by unfold yrs;rw[List.length_cons,yrs_len k (lo+1)]
theorem yrs_snoc : ∀(k:Nat) (lo:Int),yrs (k+1) lo=yrs k lo ++ [lo+k]
 |0,lo=>by simp[yrs]
 |k+1,lo=>by
  rw[yrs,yrs_snoc k (lo+1)];show _=lo :: yrs k (lo+1) ++ _
  rw[List.cons_append]
  congr 2
  simp only[List.cons.injEq,and_true];omega
theorem own_low {w:World}{base base':Nat}{e:TypeId}{size:Nat}{v:Value}{n:Nat}{xs:List Value}(h:w.ownsRow base e size v n xs)(hb:base'≤base):w.ownsRow base' e size v n xs:=by
 refine⟨h.1,?_⟩;rcases h.2 with hn|⟨g,cap,cur,hv,h1,rest⟩
 ·exact .inl hn
 ·exact .inr ⟨g,cap,cur,hv,Nat.le_trans hb h1,rest⟩
theorem cells_one (x:List E):∀u∈x.flatMap E.cells,u.oneCell'=true:=by
 intro u hu;obtain⟨e,_,h⟩:=List.mem_flatMap.1 hu;simp[E.cells] at h
 rcases h with rfl|rfl|rfl|rfl|rfl|rfl|rfl <;> rfl
def OfRet (l:List Ru.R)(lo hi:Int)(B:Nat)(e:Ending)(w':World):Prop:=
 ((lo<1∨9999<hi∨hi<lo)∧e=.returned (.tuple #[.slice none 0 0,.int .i64 1]))∨
 (¬(lo<1∨9999<hi∨hi<lo)∧∃v,e=.returned (.tuple #[v,.int .i64 0])∧w'.ownsRow B 272 5 v (of l lo hi).length ((of l lo hi).flatMap E.occ))
def P1 (l:List Ru.R)(P:List Nat)(np:Nat)(lo:Int)(w2:World)(v i:Value)(wr:World):Prop:=
 ∃k:Nat,k≤np∧i=.int .i64 (k:Int)∧Hid (wr.ownsRow w2.heap.size 314 7 v ((P.take k).flatMap (back l lo)).length (((P.take k).flatMap (back l lo)).flatMap E.cells))∧Hid (Below w2.heap.size w2 wr)
def P2 (x:Ru.R)(p:Nat)(R:List E)(top:Int)(vA:Option Addr)(q vc:Nat)(W3:World)(v yv:Value)(wi:World):Prop:=
 v=.slice vA q vc∧∃(y:Int) (f:Nat),yv=.int .i64 y∧0≤y∧y≤top∧y.toNat<f∧backGo x p f y=R∧Hid (Below W3.heap.size W3 wi)
def P3 (l:List Ru.R)(rA:Option Addr)(rc:Nat)(pA:Option Addr)(pc g b:Nat)(X:List E)(lo:Int)(N:Nat)(w2:World)(v yv:Value)(wr:World):Prop:=
 ∃j:Nat,j≤N∧yv=.int .i64 (lo+j)∧Hid (wr.ownsRow w2.heap.size 314 7 v (X ++ (yrs j lo).flatMap (year l)).length ((X ++ (yrs j lo).flatMap (year l)).flatMap E.cells))∧Hid (Alm l rA rc pA pc wr g b (fun k=>v.ownBlock≠some k))∧Hid (w2.grownBy wr (some b))
end Oc
theorem evs_append {ops:Array Oper}{rest:List Oper}{o:Oper}{a:Act}{Q:Exit→Act→World→Prop}(W:World)(B n:Nat)(xs:List Value)(v:Value)(x:List Oc.E)(A:Option Addr)(c p q:Nat)
  (hO:W.ownsRow B 314 7 v n xs) (hR:Reads W W.heap.size 7 A x.length (x.flatMap Oc.E.cells)) (hl:n+x.length≤1000000000) (hB:B≤W.heap.size) (hgd:o.guard=none)
  (ho:o.op=.call { callee:=.builtin .append,args:=#[.tmp p,.tmp q],argTypes:=#[319,319] }) (hs:a.eval (.tmp p)=v) (hx:a.eval (.tmp q)=.slice A x.length c)
  (h:∀v' w',w'.ownsRow B 314 7 v' (n+x.length) (xs ++ x.flatMap Oc.E.cells)→W.grownBy w' v.ownBlock→(v'.ownBlock=v.ownBlock∨v'.ownBlock=some W.heap.size)→wpList Tryz.prog ops Q rest (a.put o.dst v') w'):
  wpList Tryz.prog ops Q (o :: rest) a W:=by
 obtain⟨i0,hi0,hz0,hz1,hz2⟩:=info_parts ev_info;exact wpList_append_any (P:=Tryz.prog) _ hgd (.tmp p) (.tmp q) 319 ho B 314 i0 _ 7 64 Tryz.underlying319 hi0 hz0 hz1 hz2 rfl (by omega) v n xs hs hO W.heap.size A x.length c _ hx hR (Oc.cells_one x) (by unfold maxLen;omega) (by omega) hB h
theorem ocOfW_any (l:List Ru.R)(rA:Option Addr)(rc:Nat)(lo hi:Int)(w:World)(hR:Reads w w.heap.size 11 rA l.length (l.flatMap Ru.R.cells))(hok:∀r∈l,r.Ok∧r.nm.size≤1000000∧r.lt.size≤1000000)(hW:Wo w)(hl:l.length≤4096)(hlo:-9223372036854775808≤lo∧lo≤9223372036854775807)(hhi:-9223372036854775808≤hi∧hi≤9223372036854775807):
  Calls Tryz.prog 168 #[.slice rA l.length rc,.int .i64 lo,.int .i64 hi] w fun e w'=>Below w.heap.size w w'∧Oc.OfRet l lo hi w.heap.size e w':=by
 have HMk:=ak (ocOf_any l rA rc w hR hok hW hl);have HW:=ak hW;have HOk:=ak hok;obtain⟨NL,hNL⟩:=aj (l.length)
 have HNL:=ak hNL;rw[hNL] at HMk ⊢;have hl2:NL≤4096:=by rw[← hNL];exact hl
 have HL:=ak hl;clear hNL hR hok hW hl;unfold Oc.MkRet at HMk;go_enter Tryz.func168,Tryz.ntmps168
 go_wp2_with fail
 refine HMk.out.mono ?_;rintro e w2 ⟨g,b,pA,pc,rfl,hM,hb2,hwb⟩
 by_cases hbad:lo<1∨9999<hi∨hi<lo
 ·have HE:Hid (Below w.heap.size w w2∧Oc.OfRet l lo hi w.heap.size (.returned (.tuple #[.slice none 0 0,.int .i64 1])) w2):=⟨hb2,.inl ⟨hbad,rfl⟩⟩
  clear hM hwb hb2 HMk
  by_cases h1:lo<1
  ·clear hbad;go_wp2;go_ret2
   exact HE.out
  ·by_cases h2:9999<hi
   ·clear hbad;go_wp2;go_ret2
    exact HE.out
   ·have h3:hi<lo:=(by omega);clear hbad;go_wp2;go_ret2
    exact HE.out
 have h1:¬lo<1:=fun h=>hbad (.inl h)
 have h2:¬9999<hi:=fun h=>hbad (.inr (.inl h))
 have h3:¬hi<lo:=fun h=>hbad (.inr (.inr h))
 have HBad:=ak hbad;have hgw:∀(W:World),w2.grownBy W (some b)→Wo W:=fun W hg=>(HW.out.below hb2).cells fun p v hc=>hM.memo.cell hc hg
 obtain⟨P,hP⟩:=aj (Oc.pls l 0)
 obtain⟨np,hnp⟩:=aj (P.length)
 have hnl:np≤4096:=by rw[← hnp,← hP];exact Nat.le_trans (Oc.pls_len l 0) HL.out
 have a1:=hM.at_.cell 1 _ rfl;have za:=hM.at_.lt;have hbl:=hM.memo.lt;rw[hP] at a1;rw[hnp] at a1;have HGW:=ak hgw;have HP:=ak hP;have HNP:=ak hnp;have HM:=ak hM;have HB2:=ak hb2;have HWB:=ak hwb;have HMl:=ak hbl;clear hbad hgw hP hnp hM hb2 hwb HMk hbl;go_wp2_with fail
 clear a1;go_loopw [10,41] (fun v i wr=>Oc.P1 l P np lo w2 v i wr) (fun _ i _=>np - (intOf i).toNat)
 case atStart=>exact⟨0,Nat.zero_le _,rfl,World.ownsRow_nil _ _ _ _,Below.refl _ _⟩
 case round=>
  obtain⟨wq,rfl⟩:∃x,x=wr:=⟨_,rfl⟩
  obtain⟨k,hk,rfl,HO,HB⟩:=hrel;obtain⟨q,hq⟩:=aj (((P.take k).flatMap (Oc.back l lo)).length)
  have hqk:q≤k:=by
   rw[← hq];exact Nat.le_trans (Oc.backs_len l lo _) (by simp;omega)
  rw[hq] at HO;have HQ:=ak hq;obtain⟨vA,vc,rfl,hv1,hv2⟩:=own_slice_cap HO.out;have hwr:=HB.out.size;clear hq
  by_cases hlt:k<np
  ·have hA:=HM.out.below HB.out;obtain⟨ap,p,rfl,hap,hpk,cp,hpl⟩:=Oc.place_at hA.places (k:=k) (by rw[HP.out,HNP.out];exact hlt);rw[HP.out] at hpk;have hst:(P.take (k+1)).flatMap (Oc.back l lo)=(P.take k).flatMap (Oc.back l lo) ++ Oc.back l lo p:=by
    rw[List.take_add_one,hpk,List.flatMap_append]
    congr 1
    simp
   have c0:=hA.at_.cell 0 _ rfl;have zg:=hA.at_.lt;obtain⟨ad,x,rfl,hab,Hx,HLc⟩:=Ix.reads_cells (enc:=Ru.R.cells) (m:=11) (fun _=>rfl) rfl hA.rules hpl;have hr:Oc.rl l p=x:=Oc.rl_at Hx.out;obtain⟨⟨hx0,⟨fr1,fr2,fr3⟩,_⟩,_⟩:=HOk.out x (List.mem_of_getElem? Hx.out);rw[show Oc.back l lo p=Oc.backGo (Oc.rl l p) p ((min (Oc.rl l p).tt (lo - 1)).toNat+1) (min (Oc.rl l p).tt (lo - 1)) from rfl,hr] at hst;rw[HNL.out] at c0;have hpl2:p<NL:=by rw[← HNL.out];exact hpl
   obtain⟨xx,hxx⟩:=aj (x)
   have HXX:=ak hxx;have HRl:=ak hr;obtain⟨nm,fr,tt,mo,kk,nn,d,sc,cc,sv,lt⟩:=x;simp only at fr1 fr2 fr3 hst;rw[hxx] at hst hr;obtain⟨top,htop⟩:=aj (min tt (lo - 1))
   rw[htop] at hst;obtain⟨R,hRR⟩:=aj (Oc.backGo xx p (top.toNat+1) top)
   rw[hRR] at hst;have HSt:=ak hst;have HTop:=ak htop;have HHp:=ak hpl;have hfrx:xx.fr=fr:=by rw[← hxx]
   have HFx:=ak hfrx;have ht1:0≤top∧top≤9998∧fr - 1≤9998:=(by omega);have ht2:top<fr∨fr≤top:=(by omega);clear Hx hst htop hx0 hr hpk hpl hxx hfrx;have x0:wq.cell? (ad.add (p*11))=some (.string nm):=HLc.out 0 _ rfl;have x1:wq.cell? ⟨(ad.add (p*11)).block,(ad.add (p*11)).off+1,none⟩=some (.int .i64 fr):=HLc.out 1 _ rfl;have x2:wq.cell? ⟨(ad.add (p*11)).block,(ad.add (p*11)).off+2,none⟩=some (.int .i64 tt):=HLc.out 2 _ rfl;have x3:wq.cell? ⟨(ad.add (p*11)).block,(ad.add (p*11)).off+3,none⟩=some (.int .i64 mo):=HLc.out 3 _ rfl;have x4:wq.cell? ⟨(ad.add (p*11)).block,(ad.add (p*11)).off+4,none⟩=some (.int .u8 kk):=HLc.out 4 _ rfl;have x5:wq.cell? ⟨(ad.add (p*11)).block,(ad.add (p*11)).off+5,none⟩=some (.int .i64 nn):=HLc.out 5 _ rfl;have x6:wq.cell? ⟨(ad.add (p*11)).block,(ad.add (p*11)).off+6,none⟩=some (.int .i64 d):=HLc.out 6 _ rfl;have x7:wq.cell? ⟨(ad.add (p*11)).block,(ad.add (p*11)).off+7,none⟩=some (.int .i64 sc):=HLc.out 7 _ rfl;have x8:wq.cell? ⟨(ad.add (p*11)).block,(ad.add (p*11)).off+8,none⟩=some (.int .u8 cc):=HLc.out 8 _ rfl;have x9:wq.cell? ⟨(ad.add (p*11)).block,(ad.add (p*11)).off+9,none⟩=some (.int .i64 sv):=HLc.out 9 _ rfl;have x10:wq.cell? ⟨(ad.add (p*11)).block,(ad.add (p*11)).off+10,none⟩=some (.string lt):=HLc.out 10 _ rfl;have hab2:(ad.add (p*11)).block<wq.heap.size:=by rw[block_of_add];omega
   have q1:=am k
   have q2:(k:Int)<(np:Int):=(by omega);have q3:=am p
   have q4:(p:Int)<(NL:Int):=(by omega);obtain⟨W3,hW3⟩:=aj (wq.alloc (.cells #[.string nm,.int .i64 fr,.int .i64 tt,.int .i64 mo,.int .u8 kk,.int .i64 nn,.int .i64 d,.int .i64 sc,.int .u8 cc,.int .i64 sv,.string lt] 112))
   have hb3:Below wq.heap.size wq W3:=by rw[← hW3];exact al
   have hR3:At W3 wq.heap.size [.string nm,.int .i64 fr,.int .i64 tt,.int .i64 mo,.int .u8 kk,.int .i64 nn,.int .i64 d,.int .i64 sc,.int .u8 cc,.int .i64 sv,.string lt]:=by rw[← hW3];exact At.new _ _ _
   have HR3:=ak hR3;have HB3:=ak hb3;have HW3:=ak hW3;have HAr:=ak hA;clear hb3 hR3 hW3 hA;go_wp2_with fail
   rw[HW3.out]
   try rw[HTop.out]
   clear x0 x1 x2 x3 x4 x5 x6 x7 x8 x9 x10 cp c0;go_loopw [10,14] (fun v yv wi=>Oc.P2 xx p R top vA q vc W3 v yv wi) (fun _ yv _=>(intOf yv - fr+1).toNat)
   case atStart=>exact⟨rfl,top,top.toNat+1,rfl,by omega,Int.le_refl _,Nat.lt_succ_self _,hRR,Below.refl _ _⟩
   case round=>
    obtain⟨rfl,y,f,rfl,y1,y2,hf,hgo,HBi⟩:=hrel;obtain⟨f,rfl⟩:∃k,f=k+1:=⟨f - 1,by omega⟩
    rw[Oc.backGo] at hgo;rw[HFx.out] at hgo;have hbi:Below wq.heap.size wq wr:=below_then HB3.out HBi.out;have hb2i:Below w2.heap.size w2 wr:=HB.out.trans (hbi.mono hwr);have hAi:=HM.out.below hb2i;have hRi:=HR3.out.call HBi.out;have r1:=hRi.cell 1 _ rfl;have zr:=hRi.lt;have HBq:=ak hbi;have HB2i:=ak hb2i
    by_cases hy:y<fr
    ·rw[if_pos hy] at hgo;have HO9:Hid (wr.ownsRow w2.heap.size 314 7 (.slice vA q vc) ((P.take (k+1)).flatMap (Oc.back l lo)).length (((P.take (k+1)).flatMap (Oc.back l lo)).flatMap Oc.E.cells)):=by
      show wr.ownsRow _ _ _ _ _ _
      rw[HSt.out,← hgo,List.append_nil,HQ.out];exact own_below HO.out hbi
     have p1:¬fr≤y:=(by omega);clear hgo hRR hbi hb2i hAi hRi;go_wp2;go_roundw
     case rel=>exact⟨k+1,by omega,by go_num,HO9.out,HB2i.out⟩
     case measure=>simp[intOf];omega
    ·rw[if_neg hy] at hgo;have p1:fr≤y:=(by omega);have hC:=ocAt_any l _ _ rc pc g b p y wr hAi (HGW.out _ (grown_of_ hb2i _)) HHp.out;have hrl:=HRl.out.trans HXX.out;unfold Oc.atS at hC;rw[hrl] at hC
     by_cases hh:Oc.holds xx y=true
     ·rw[if_pos hh] at hgo;obtain⟨x,hx⟩:=aj (Oc.mk xx p y)
      rw[if_pos hh,hh,hx] at hC;rw[hx] at hgo;have HC:=ak hC;have HGo:=ak hgo;clear hgo hRR hbi hb2i hAi hRi hC hrl hh hx;go_wp2_with fail
      refine HC.out.mono ?_;rintro e w4 ⟨rfl,hb4⟩;have HB4:=ak (HB2i.out.trans (hb4.mono HB2i.out.size));have HO4:=ak (own_below HO.out (below_then HBq.out hb4));have h4:w2.heap.size≤w4.heap.size:=HB4.out.size;have HAp:=fun {ops:Array Oper} {rest:List Oper} {o:Oper} {a:Act} {Q:Exit→Act→World→Prop} hgd ho hs hx h=>ev_append (ops:=ops) (rest:=rest) (o:=o) (a:=a) (Q:=Q) (w4.alloc (.cells #[.int .i64 x.n,.int .u8 x.c,.int .i64 x.sv,.int .i64 x.bf,.string x.lt,.int .i64 x.pl,.int .i64 x.y] 314)) w2.heap.size q _ (.slice vA q vc) x 71 73 (w4.heap.size+1) (by simp) (HO4.out.alloc _) (by omega) (by rw[World.size_alloc];omega) hgd ho hs hx h
      clear hb4 r1 zr;unfold Oc.E.v;go_wp2_with (at_builtin;refine HAp rfl rfl rfl rfl ?_;intro v9 w9 hown9 hb9 hg9)
      have HO9:=ak (show w9.ownsRow w2.heap.size 314 7 v9 ((P.take (k+1)).flatMap (Oc.back l lo)).length (((P.take (k+1)).flatMap (Oc.back l lo)).flatMap Oc.E.cells) by
       rw[HSt.out,← HGo.out,List.length_append,HQ.out,List.flatMap_append];simpa using hown9)
      have HB9:=ak ((HB4.out.alloc HB4.out.size (.cells #[.int .i64 x.n,.int .u8 x.c,.int .i64 x.sv,.int .i64 x.bf,.string x.lt,.int .i64 x.pl,.int .i64 x.y] 314)).trans hb9);clear hown9 hb9 hg9 HAp;go_wp2;go_roundw
      case rel=>exact⟨k+1,by omega,by go_num,HO9.out,HB9.out⟩
      case measure=>simp[intOf];omega
     ·have hh':Oc.holds xx y=false:=by simpa using hh
      rw[if_neg hh] at hgo;rw[if_neg hh,hh'] at hC;have HC:=ak hC;have HGo:=ak hgo;clear hgo hRR hbi hb2i hAi hRi hC hrl hh hh';go_wp2_with fail
      refine HC.out.mono ?_;rintro e w4 ⟨rfl,hb4⟩;have HB4:=ak (below_then HBi.out hb4);have HB9:=ak (HB4.out.alloc HB4.out.size (.cells #[.int .i64 0,.int .u8 0,.int .i64 0,.int .i64 0,.string ⟨#[]⟩,.int .i64 0,.int .i64 0] 314));clear hb4 r1 zr;unfold Oc.E.v Oc.E.zero;go_wp2;go_roundw
      case rel=>exact⟨rfl,y - 1,f,by go_num,by omega,by omega,by omega,HGo.out,HB9.out⟩
      case measure=>simp[intOf];omega
  ·have hkn:k=np:=(by omega);subst hkn;have q2:¬(k:Int)<(k:Int):=(by omega);have ht:P.take k=P:=List.take_of_length_le (by rw[HNP.out];exact Nat.le_refl _);have hO1:=HO.out;have hQ1:=HQ.out;rw[ht] at hO1 hQ1;have hA0:Oc.Alm l rA rc pA pc wq g b (fun k=>(Value.slice vA q vc).ownBlock≠some k):=(HM.out.old.below HB.out).mono (fun k hk e=>by
    have:=(HO.out.lt k e).1;have:=hk.2;omega)
   obtain⟨NY,hNY⟩:∃n:Nat,(hi - lo+1).toNat=n:=⟨_,rfl⟩
   have hny:(NY:Int)=hi - lo+1:=(by omega);have hU:P.flatMap (Oc.back l lo) ++ (Oc.yrs NY lo).flatMap (Oc.year l)=Oc.ofU l lo hi:=by
    unfold Oc.ofU;rw[HP.out,hNY]
   obtain⟨X,hX⟩:=aj (P.flatMap (Oc.back l lo))
   rw[hX] at hO1 hQ1 hU;have HO1:=ak hO1;have HA1:=ak hA0;have HX1:=ak hQ1;have HU:=ak hU;clear ht hO1 hA0 hQ1 hU hX hNY;go_wp2_with fail
   go_loopw [10,17] (fun v yv wi=>Oc.P3 l rA rc pA pc g b X lo NY w2 v yv wi) (fun _ yv _=>(hi+1 - intOf yv).toNat)
   case atStart=>exact⟨0,Nat.zero_le _,by rw[show lo+((0:Nat):Int)=lo by omega],by show World.ownsRow _ _ _ _ _ _ _;rw[show Oc.yrs 0 lo=[] from rfl,List.flatMap_nil,List.append_nil,HX1.out];exact HO1.out,HA1.out,grown_of_ HB.out _⟩
   case round=>
    obtain⟨j,hj,rfl,HO3,HM3,HG3⟩:=hrel;have hzr:=HG3.out.size;have hlX:(X ++ (Oc.yrs j lo).flatMap (Oc.year l)).length≤50000000:=by
     have h5:=Oc.years_len l (Oc.yrs j lo);have h6:=HL.out;rw[Oc.yrs_len] at h5;have h7:j*l.length≤9999*4096:=Nat.mul_le_mul (by omega) h6;rw[List.length_append,HX1.out];omega
    obtain⟨nX,hnX⟩:=aj ((X ++ (Oc.yrs j lo).flatMap (Oc.year l)).length)
    rw[hnX] at HO3 hlX;obtain⟨v3,c3,rfl,hv31,hv32⟩:=own_slice_cap HO3.out;have HNX:=ak hnX;clear hnX
    by_cases hlt3:j<NY
    ·have p1:lo+(j:Int)≤hi:=(by omega);have hyl:=Oc.year_len l (lo+j);have hyl2:=HL.out;have hC:=year_any l rA pA rc pc g b (lo+j) wr HM3.out (fun k hk e=>by have:=(HO3.out.lt k e).2;omega) (HGW.out _ HG3.out) HL.out (by omega);unfold Oc.YrRet at hC;obtain⟨yl,hyy⟩:=aj (Oc.year l (lo+j))
     have hst:X ++ (Oc.yrs (j+1) lo).flatMap (Oc.year l)=(X ++ (Oc.yrs j lo).flatMap (Oc.year l)) ++ yl:=by
      rw[Oc.yrs_snoc,List.flatMap_append,List.append_assoc,← hyy];simp
     rw[hyy] at hC hyl;have HC:=ak hC;have HSt:=ak hst;clear hC hst hyy;go_wp2_with fail
     refine HC.out.mono ?_;rintro e w5 ⟨A5,c5,rfl,hR5,hP5,hM5,hg5⟩;have hO5:=HO3.out.kept hg5 (.inr (fun h=>by
      have:=(HO3.out.lt b h).1;have:=HMl.out;omega))
     have HR5:=ak hR5;have HO5:=ak hO5;have HM5:=ak hM5;have HG5:=ak (gb_then HG3.out hg5 (fun j hj=>.inr hj));have hz5:w2.heap.size≤w5.heap.size:=HG5.out.size;have HAp:=fun {ops:Array Oper} {rest:List Oper} {o:Oper} {a:Act} {Q:Exit→Act→World→Prop} hgd ho hs hx h=>evs_append (ops:=ops) (rest:=rest) (o:=o) (a:=a) (Q:=Q) w5 w2.heap.size nX _ (.slice v3 nX c3) yl A5 c5 82 85 HO5.out HR5.out (by omega) hz5 hgd ho hs hx h
     clear hR5 hO5 hM5 hP5 hg5;go_wp2_with (at_builtin;refine HAp rfl rfl rfl rfl ?_;intro v9 w9 hown9 hg9 hat9)
     have HO9:=ak (show w9.ownsRow w2.heap.size 314 7 v9 (X ++ (Oc.yrs (j+1) lo).flatMap (Oc.year l)).length ((X ++ (Oc.yrs (j+1) lo).flatMap (Oc.year l)).flatMap Oc.E.cells) by
      rw[HSt.out,List.length_append,HNX.out,List.flatMap_append];exact hown9)
     have HM9:=ak (show Oc.Alm l rA rc pA pc w9 g b (fun k=>v9.ownBlock≠some k) by
      rcases hat9 with e9|e9
      ·rw[e9];exact HM5.out.row hg9 (fun j hj hn=>hn hj)
      ·refine(HM5.out.old.row hg9 (fun j hj hn=>hn.1 hj)).mono (fun k hk e=>?_);rw[e9] at e
       injection e with e
       have:=hk.2;omega)
     have HG9:=ak (show w2.grownBy w9 (some b) from gb_then HG5.out hg9 (fun j hj=>.inl (HO5.out.lt j hj).1));clear hown9 hg9 hat9 HAp;go_wp2;go_roundw
     case rel=>exact⟨j+1,by omega,by first|rfl|(simp;done)|(simp;omega),HO9.out,HM9.out,HG9.out⟩
     case measure=>simp[intOf];omega
    ·have hjn:j=NY:=(by omega);subst hjn;have p1:¬lo+(j:Int)≤hi:=(by omega);have hO6:=HO3.out;have hN6:=HNX.out;rw[HU.out] at hO6 hN6;have hev:∀e∈Oc.ofU l lo hi,Oc.Ev l e:=fun e he=>((Oc.mem_ofU e).1 he).1
     rw[← hN6] at hO6;have hC:=sort_evs l (Oc.ofU l lo hi) hev w2.heap.size (.slice v3 (Oc.ofU l lo hi).length c3) wr hO6 (by omega);have hlen:=(Oc.perm_isort (Oc.ofU l lo hi)).length_eq;have hev2:∀e∈Oc.isort (Oc.ofU l lo hi),Oc.Ev l e:=fun e he=>hev e ((Oc.mem_isort e _).1 he)
     rw[hN6] at hC;obtain⟨x,hx⟩:=aj (Oc.isort (Oc.ofU l lo hi))
     have hof:Oc.of l lo hi=x.map (Oc.tell l):=by unfold Oc.of;rw[hx]
     rw[hx] at hC hev2 hlen;have hxn:x.length=nX:=hlen.trans hN6;have HC:=ak hC;have HEv:=ak hev2;have HOf:=ak hof;have HXN:=ak hxn;clear hO6 hN6 hev hC hlen hev2 hx hof hxn;go_wp2_with fail
     refine HC.out.mono ?_;rintro e w5 ⟨rfl,⟨A5,c5,hv5,hR5⟩,hg5⟩;rw[HXN.out] at hv5
     injection hv5 with e1 e2 e3
     subst e1 e3;have hM5:Oc.Alm l rA rc pA pc w5 g b (fun _=>True):=(HM3.out.row hg5 (fun j hj hn=>hn hj)).mono (fun _ _=>trivial);have hG5:w2.grownBy w5 (some b):=gb_then HG3.out hg5 (fun j hj=>.inl ((HO3.out.lt j hj).1));have hT:=told_any l rA pA rc pc g b x v3 c3 w5 hM5 (HGW.out _ hG5) HL.out (by rw[HXN.out];omega) HEv.out hR5;unfold Oc.TdRet at hT;rw[HXN.out] at hT;have HT:=ak hT;have HG5:=ak hG5;clear hR5 hg5 hM5 hG5 hT;go_wp2_with fail
     refine HT.out.mono ?_;rintro e w6 ⟨v6,rfl,hO6,_,hg6⟩;have hG6:=gb_then HG5.out hg6 (fun j hj=>.inr hj);have hb6:Below w.heap.size w2 w6:=⟨hG6.os,hG6.tape,hG6.output,hG6.size,fun j hj=>hG6.block j (Nat.lt_of_lt_of_le hj HB2.out.size) (fun e=>by injection e with e;have:=HWB.out;omega)⟩
     have HE:Hid (Below w.heap.size w w6∧Oc.OfRet l lo hi w.heap.size (.returned (.tuple #[v6,.int .i64 0])) w6):=⟨HB2.out.trans hb6,.inr ⟨HBad.out,v6,rfl,by
      rw[HOf.out,List.length_map,HXN.out];exact Oc.own_low hO6 (Nat.le_trans HB2.out.size HG5.out.size)⟩⟩
     clear hO6 hg6 hG6 hb6;go_wp2;go_ret2
     exact HE.out
end Go.Proofs.YtjobhjemnmleaaaGreatDoor
namespace Go.Proofs.YtjobhjemnmleaaaGreatDoor
open Go.RowKit
namespace Eg
def saved (rules:List Ru.R)(e:Er.E)(n:Int):Int:=if e.k=1 then e.sv else if e.k=2 then Oc.svO (Oc.lastN (Src.ofName e.ru rules) n) else 0
def nomU (u:Mo.U):Int × Int:=Mo.nom u.k u.n u.d u.y u.m u.s u.c
def endOf (rules:List Ru.R)(e:Er.E):Int:=(Mo.ins (nomU e.u).1 e.u.c e.std (saved rules e (nomU e.u).1)).1
def ends (rules:List Ru.R)(eras:List Er.E):List Int:=eras.dropLast.map (endOf rules)
theorem lastT_sv (l:List Ru.R)(n:Int):(Oc.lastT l n).sv=Oc.svO (Oc.lastN l n):=by
 unfold Oc.lastT;cases Oc.lastN l n <;> rfl
theorem saved_time {rules:List Ru.R}{e:Er.E}{n:Int}(hr:∀r∈rules,IsTime r.sv)(he:e.k=1→IsTime e.sv):IsTime (saved rules e n):=by
 unfold saved;split
 ·rename_i h
  exact he h
 ·split
  ·exact Oc.svO_is (Ln.ofName_time hr) (Oc.last_is _ _ (Oc.topOf_bd n).1)
  ·unfold IsTime;omega
theorem ends_len (rules:List Ru.R)(eras:List Er.E):(ends rules eras).length=eras.length - 1:=by unfold ends;simp
end Eg
end Go.Proofs.YtjobhjemnmleaaaGreatDoor
namespace Go.Proofs.YtjobhjemnmleaaaGreatDoor
open Go.RowKit
namespace Eg
structure RulesOk (rules:List Ru.R):Prop where
 len:rules.length≤4096
 ok:∀r∈rules,r.Ok∧r.nm.size≤1000000∧r.lt.size≤1000000
theorem RulesOk.of {rules:List Ru.R}(h:RulesOk rules)(name:ByteArray):RulesOk (Src.ofName name rules):=
 ⟨Nat.le_trans (List.length_filter_le _ _) h.len,fun r hr=>h.ok r (Ln.ofName_mem hr)⟩
theorem RulesOk.time {rules:List Ru.R}(h:RulesOk rules):∀r∈rules,IsTime r.sv:=fun r hr=>(h.ok r hr).1.2.2.2.2.2.1
end Eg
theorem saved_any (s:Src.S)(rv zv lv:Value)(evs:List Value)(e:Er.E)(n:Int)(w:World)(hR:Src.SrcR w w.heap.size s rv zv lv evs)(hK:Eg.RulesOk s.rules)(hW:Wo w)(hn:-9223372036854775808≤n∧n≤9223372036854775807):
  Calls Tryz.prog 110 #[.agg #[rv,zv,lv],e.v,.int .i64 n] w fun r w'=>r=.returned (.int .i64 (Eg.saved s.rules e n))∧Below w.heap.size w w':=by
 obtain⟨std,k,sv,ru,fm,en,⟨uy,um,uk,un,ud,us,uc⟩⟩:=e;unfold Er.E.v Eg.saved;simp only;obtain⟨rA,rc,rfl,_⟩:=hR.rules;obtain⟨zA,zc,rfl,_⟩:=hR.zones;obtain⟨lA,lc,rfl,_⟩:=hR.links;obtain⟨n1,hn1⟩:=aj (s.rules.length)
 obtain⟨n2,hn2⟩:=aj (s.zones.length)
 obtain⟨n3,hn3⟩:=aj (s.links.length)
 obtain⟨W2,hW2⟩:=aj ((w.alloc (.cells #[.slice rA n1 rc,.slice zA n2 zc,.slice lA n3 lc] 26)).alloc (.cells #[.int .i64 std,.int .u8 k,.int .i64 sv,.string ru,.string fm,.bool en,.int .i64 uy,.int .i64 um,.int .u8 uk,.int .i64 un,.int .i64 ud,.int .i64 us,.int .u8 uc] 191))
 have hb2:Below w.heap.size w W2:=by rw[← hW2];exact(al).alloc (by simp) _
 have hRu:=srcRules_any s _ _ _ evs ru W2 (hR.call hb2) hK.len;rw[hn1,hn2,hn3] at hRu ⊢;have hLs:=fun v W (hO:W.ownsRow W2.heap.size 112 11 v (Src.ofName ru s.rules).length ((Src.ofName ru s.rules).flatMap Ru.R.cells)) (hb:Below w.heap.size w W)=>(show ∃A c,v=.slice A (Src.ofName ru s.rules).length c∧Calls Tryz.prog 147 #[v,.int .i64 n] W fun e w'=>e=.returned (.tuple #[(Oc.lastT (Src.ofName ru s.rules) n).occv,.bool (Oc.lastN (Src.ofName ru s.rules) n).isSome])∧Below W.heap.size W w' by
  obtain⟨A,c,rfl,_⟩:=own_slice hO;exact⟨A,c,rfl,ocLast_any _ A c n W (Reads.of_own hO) (hK.of ru).ok (hW.below hb) (hK.of ru).len hn⟩)
 have HRu:=ak hRu;have HLs:=ak hLs;have HB2:=ak hb2;have HW2:=ak hW2;clear hR hK hW hRu hLs hb2 hn1 hn2 hn3 hW2
 by_cases h1:k=1
 ·subst h1;rw[if_pos rfl];go_enter Tryz.func110,Tryz.ntmps110
  go_wp2;rw[HW2.out];go_ret
  exact⟨rfl,HB2.out⟩
 ·rw[if_neg h1];have b1:(k == 1)=false:=by simpa using h1
  by_cases h2:k=2
  ·subst h2;rw[if_pos rfl];obtain⟨X,hX⟩:=aj (Oc.svO (Oc.lastN (Src.ofName ru s.rules) n))
   have hsv:=Eg.lastT_sv (Src.ofName ru s.rules) n;rw[hX] at hsv ⊢;obtain⟨T,hT⟩:=aj (Oc.lastT (Src.ofName ru s.rules) n)
   obtain⟨bo,hbo⟩:=aj ((Oc.lastN (Src.ofName ru s.rules) n).isSome)
   rw[hT] at hsv HLs;rw[hbo] at HLs;obtain⟨tn,tc,tsv,tbf,tlt,tpl,ty⟩:=T;obtain rfl:tsv=X:=hsv;unfold Oc.E.occv at HLs;simp only at HLs;clear hX hT hbo b1 h1;go_enter Tryz.func110,Tryz.ntmps110
   go_wp2_with fail
   rw[HW2.out];refine HRu.out.mono ?_;rintro r w3 ⟨v,rfl,hb3,hO⟩;have hB3:=below_then HB2.out hb3;obtain⟨A,c,rfl,hC⟩:=HLs.out v w3 hO hB3;have HC:=ak hC;have HB3:=ak hB3;clear hb3 hO hB3 hC;go_wp2_with fail
   refine HC.out.mono ?_;rintro r w4 ⟨rfl,hb4⟩;have HB4:=ak (below_then HB3.out hb4);clear hb4;go_wp2;go_ret
   exact⟨rfl,HB4.out.alloc HB4.out.size _⟩
  ·rw[if_neg h2];have b2:(k == 2)=false:=by simpa using h2
   go_enter Tryz.func110,Tryz.ntmps110
   go_wp2;rw[HW2.out];go_ret
   exact⟨rfl,HB2.out⟩
namespace Eg
def i64s (l:List Int):List Value:=l.map fun x=>.int .i64 x
end Eg
end Go.Proofs.YtjobhjemnmleaaaGreatDoor
