/- almanac.last, in whole. -/
import Derived.Test.YtjobhjemnmleaaaGreatDoorR15
set_option maxRecDepth 200000
set_option maxHeartbeats 16000000
namespace Go.Proofs.YtjobhjemnmleaaaGreatDoor
open Go.RowKit
namespace Oc
def LastRet (l:List Ru.R)(rA:Option Addr)(rc:Nat)(pA:Option Addr)(pc g b:Nat)(T:Nat→Prop)(R:Option E)(w:World)(e:Ending)(w':World):Prop:=
 e=.returned (.tuple #[(R.getD E.zero).v,.bool R.isSome])∧Alm l rA rc pA pc w' g b T∧w.grownBy w' (some b)
theorem last_results {tmps:Array Value}{w:World}{g:Nat}{e:E}{t:Bool}(h4:tmps[6]?.getD undef=.pointer (some ⟨g,0,none⟩))(h5:tmps[7]?.getD undef=.bool t)(hA:At w g e.cells):
  (results Tryz.f182 tmps).run Tryz.prog w=.ok (.tuple #[e.v,.bool t]) w:=by
 have c0:=hA.cell 0 _ rfl;have c1:=hA.cell 1 _ rfl;have c2:=hA.cell 2 _ rfl;have c3:=hA.cell 3 _ rfl;have c4:=hA.cell 4 _ rfl;have c5:=hA.cell 5 _ rfl;have c6:=hA.cell 6 _ rfl;unfold E.v;simp[results,Tryz.results182,go_sem,h4,h5,c0,c1,c2,c3,c4,c5,c6]
def T0 (T:Nat→Prop)(h:Nat):Nat→Prop:=fun k=>(T k∧k<h)∨h+3≤k
structure LAt (l:List Ru.R)(rA:Option Addr)(rc:Nat)(pA:Option Addr)(pc g b:Nat)(T:Nat→Prop)(P:E→Bool)(F:FuncId)(cb:Array Value)(R:Option E)(w:World)(h:Nat)(fo yv:Value)(wr:World):Prop where
 st:∃(bo:Option E) (y:Int) (f:Nat),fo=.bool bo.isSome∧yv=.int .i64 y∧0≤y∧y≤10000∧y.toNat<f∧lastGo l P f y bo=R∧(∀e,bo=some e→Ev l e)∧At wr (h+2) (bo.getD E.zero).cells
 fn:At wr h [.func (.func F) #[] cb]
 res:At wr (h+1) E.zero.cells
 alm:Alm l rA rc pA pc wr g b (T0 T h)
 gb:w.grownBy wr (some b)
 sz:h+3≤wr.heap.size
theorem gb_below {w w1 w2:World}{b:Nat}(h:w.grownBy w1 (some b))(k:Below w1.heap.size w1 w2):w.grownBy w2 (some b):=gb_then h (grown_of_ k none) (fun j e=>by cases e)
theorem LAt.end_ {l:List Ru.R}{rA:Option Addr}{rc:Nat}{pA:Option Addr}{pc g b:Nat}{T:Nat→Prop}{w wr:World}{h:Nat}(hT:∀k,h≤k→T k)(hh:w.heap.size=h)
  (res:At wr (h+1) E.zero.cells) (alm:Alm l rA rc pA pc wr g b (T0 T h)) (gb:w.grownBy wr (some b)) (e:E):
  At (((((((wr.setCell ⟨h+1,0,none⟩ (.int .i64 e.n)).setCell ⟨h+1,1,none⟩ (.int .u8 e.c)).setCell ⟨h+1,2,none⟩ (.int .i64 e.sv)).setCell ⟨h+1,3,none⟩ (.int .i64 e.bf)).setCell ⟨h+1,4,none⟩ (.string e.lt)).setCell ⟨h+1,5,none⟩ (.int .i64 e.pl)).setCell ⟨h+1,6,none⟩ (.int .i64 e.y)) (h+1) e.cells∧Alm l rA rc pA pc (((((((wr.setCell ⟨h+1,0,none⟩ (.int .i64 e.n)).setCell ⟨h+1,1,none⟩ (.int .u8 e.c)).setCell ⟨h+1,2,none⟩ (.int .i64 e.sv)).setCell ⟨h+1,3,none⟩ (.int .i64 e.bf)).setCell ⟨h+1,4,none⟩ (.string e.lt)).setCell ⟨h+1,5,none⟩ (.int .i64 e.pl)).setCell ⟨h+1,6,none⟩ (.int .i64 e.y)) g b T∧w.grownBy (((((((wr.setCell ⟨h+1,0,none⟩ (.int .i64 e.n)).setCell ⟨h+1,1,none⟩ (.int .u8 e.c)).setCell ⟨h+1,2,none⟩ (.int .i64 e.sv)).setCell ⟨h+1,3,none⟩ (.int .i64 e.bf)).setCell ⟨h+1,4,none⟩ (.string e.lt)).setCell ⟨h+1,5,none⟩ (.int .i64 e.pl)).setCell ⟨h+1,6,none⟩ (.int .i64 e.y)) (some b):=by
 refine⟨(((((((res.set 0 (.int .i64 e.n)).set 1 (.int .u8 e.c)).set 2 (.int .i64 e.sv)).set 3 (.int .i64 e.bf)).set 4 (.string e.lt)).set 5 (.int .i64 e.pl)).set 6 (.int .i64 e.y)),?_,(gb_set (gb_set (gb_set (gb_set (gb_set (gb_set (gb_set gb (p:=⟨h+1,0,none⟩) (by show w.heap.size≤h+1;omega) _) (p:=⟨h+1,1,none⟩) (by show w.heap.size≤h+1;omega) _) (p:=⟨h+1,2,none⟩) (by show w.heap.size≤h+1;omega) _) (p:=⟨h+1,3,none⟩) (by show w.heap.size≤h+1;omega) _) (p:=⟨h+1,4,none⟩) (by show w.heap.size≤h+1;omega) _) (p:=⟨h+1,5,none⟩) (by show w.heap.size≤h+1;omega) _) (p:=⟨h+1,6,none⟩) (by show w.heap.size≤h+1;omega) _)⟩;have hn:¬T0 T h (h+1):=by unfold T0;omega
 refine Alm.mono (T:=T0 T h) ?_ (fun k hk=>by
  rcases hk with hk|hk
  ·exact hk.1
  ·exact hT k (by omega))
 exact(((((((alm.set (p:=⟨h+1,0,none⟩) hn _).set (p:=⟨h+1,1,none⟩) hn _).set (p:=⟨h+1,2,none⟩) hn _).set (p:=⟨h+1,3,none⟩) hn _).set (p:=⟨h+1,4,none⟩) hn _).set (p:=⟨h+1,5,none⟩) hn _).set (p:=⟨h+1,6,none⟩) hn _)
theorem LAt.call {l:List Ru.R}{rA:Option Addr}{rc:Nat}{pA:Option Addr}{pc g b:Nat}{T:Nat→Prop}{P:E→Bool}{F:FuncId}{cb:Array Value}{R:Option E}{w wr w':World}{h:Nat}{fo yv:Value}
  (H:LAt l rA rc pA pc g b T P F cb R w h fo yv wr) (hb:Below wr.heap.size wr w'):LAt l rA rc pA pc g b T P F cb R w h fo yv w':=by
 obtain⟨⟨bo,y,f,h1,h2,h3,h4,h5,h6,h7,h8⟩,k1,k2,k3,k4,k5⟩:=H;exact⟨⟨bo,y,f,h1,h2,h3,h4,h5,h6,h7,h8.call hb⟩,k1.call hb,k2.call hb,k3.below hb,gb_below k4 hb,Nat.le_trans k5 hb.size⟩
theorem LAt.put {l:List Ru.R}{rA:Option Addr}{rc:Nat}{pA:Option Addr}{pc g b:Nat}{T:Nat→Prop}{P:E→Bool}{F:FuncId}{cb:Array Value}{R:Option E}{w wr:World}{h:Nat}{e o:E}{y:Int}{f:Nat}(hh:w.heap.size=h)
  (res:At wr (h+2) o.cells) (hA0:At wr h [.func (.func F) #[] cb]) (hA1:At wr (h+1) E.zero.cells) (alm:Alm l rA rc pA pc wr g b (T0 T h)) (gb:w.grownBy wr (some b)) (sz:h+3≤wr.heap.size)
  (y0:0≤y) (y1:y≤10000) (hf:y.toNat<f) (hgo:lastGo l P f y (some e)=R) (he:Ev l e):
  LAt l rA rc pA pc g b T P F cb R w h (.bool true) (.int .i64 y) (((((((wr.setCell ⟨h+2,0,none⟩ (.int .i64 e.n)).setCell ⟨h+2,1,none⟩ (.int .u8 e.c)).setCell ⟨h+2,2,none⟩ (.int .i64 e.sv)).setCell ⟨h+2,3,none⟩ (.int .i64 e.bf)).setCell ⟨h+2,4,none⟩ (.string e.lt)).setCell ⟨h+2,5,none⟩ (.int .i64 e.pl)).setCell ⟨h+2,6,none⟩ (.int .i64 e.y)):=by
 have hn:¬T0 T h (h+2):=by unfold T0;omega
 refine⟨⟨some e,y,f,rfl,rfl,y0,y1,hf,hgo,fun x hx=>by cases hx;exact he,(((((((res.set 0 (.int .i64 e.n)).set 1 (.int .u8 e.c)).set 2 (.int .i64 e.sv)).set 3 (.int .i64 e.bf)).set 4 (.string e.lt)).set 5 (.int .i64 e.pl)).set 6 (.int .i64 e.y))⟩,(((((((hA0.set_other ⟨h+2,0,none⟩ _ (by show h+2≠h;omega)).set_other ⟨h+2,1,none⟩ _ (by show h+2≠h;omega)).set_other ⟨h+2,2,none⟩ _ (by show h+2≠h;omega)).set_other ⟨h+2,3,none⟩ _ (by show h+2≠h;omega)).set_other ⟨h+2,4,none⟩ _ (by show h+2≠h;omega)).set_other ⟨h+2,5,none⟩ _ (by show h+2≠h;omega)).set_other ⟨h+2,6,none⟩ _ (by show h+2≠h;omega)),(((((((hA1.set_other ⟨h+2,0,none⟩ _ (by show h+2≠h+1;omega)).set_other ⟨h+2,1,none⟩ _ (by show h+2≠h+1;omega)).set_other ⟨h+2,2,none⟩ _ (by show h+2≠h+1;omega)).set_other ⟨h+2,3,none⟩ _ (by show h+2≠h+1;omega)).set_other ⟨h+2,4,none⟩ _ (by show h+2≠h+1;omega)).set_other ⟨h+2,5,none⟩ _ (by show h+2≠h+1;omega)).set_other ⟨h+2,6,none⟩ _ (by show h+2≠h+1;omega)),(((((((alm.set (p:=⟨h+2,0,none⟩) hn _).set (p:=⟨h+2,1,none⟩) hn _).set (p:=⟨h+2,2,none⟩) hn _).set (p:=⟨h+2,3,none⟩) hn _).set (p:=⟨h+2,4,none⟩) hn _).set (p:=⟨h+2,5,none⟩) hn _).set (p:=⟨h+2,6,none⟩) hn _),(gb_set (gb_set (gb_set (gb_set (gb_set (gb_set (gb_set gb (p:=⟨h+2,0,none⟩) (by show w.heap.size≤h+2;omega) _) (p:=⟨h+2,1,none⟩) (by show w.heap.size≤h+2;omega) _) (p:=⟨h+2,2,none⟩) (by show w.heap.size≤h+2;omega) _) (p:=⟨h+2,3,none⟩) (by show w.heap.size≤h+2;omega) _) (p:=⟨h+2,4,none⟩) (by show w.heap.size≤h+2;omega) _) (p:=⟨h+2,5,none⟩) (by show w.heap.size≤h+2;omega) _) (p:=⟨h+2,6,none⟩) (by show w.heap.size≤h+2;omega) _),?_⟩
 simp only[heap_set];exact sz
end Oc
theorem last_any (l:List Ru.R)(rA pA:Option Addr)(rc pc g b:Nat)(top:Int)(P:Oc.E→Bool)(F:FuncId)(cb:Array Value)(w:World){T:Nat→Prop}(hM:Oc.Alm l rA rc pA pc w g b T)(hT:∀k,w.heap.size≤k→T k)(hW:Wo w)(hl:l.length≤4096)(ht:0≤top∧top≤10000)
  (eg:∀args w,(callFunc F args).run Tryz.prog w=.ok (.enter F args) w) (hS:∀W,w.grownBy W (some b)→∀e,Oc.Ev l e→Calls Tryz.prog F (#[e.v] ++ cb) W fun r w'=>r=.returned (.bool (P e))∧Below W.heap.size W w') (hP:Oc.Down l P):
  Calls Tryz.prog 182 #[.pointer (some ⟨g,0,none⟩),.int .i64 top,.func (.func F) #[] cb] w (Oc.LastRet l rA rc pA pc g b T (Oc.last l top P) w):=by
 have ec:=enters_of Tryz.func205 (by kernel_rfl) rfl;obtain⟨h,hh⟩:=aj (w.heap.size)
 obtain⟨R,hR⟩:=aj (Oc.last l top P)
 obtain⟨W3,hW3⟩:=aj (((w.alloc (.cells #[.func (.func F) #[] cb] 317)).alloc (.cells #[.int .i64 0,.int .u8 0,.int .i64 0,.int .i64 0,.string ⟨#[]⟩,.int .i64 0,.int .i64 0] 314)).alloc (.cells #[.int .i64 0,.int .u8 0,.int .i64 0,.int .i64 0,.string ⟨#[]⟩,.int .i64 0,.int .i64 0] 314))
 have hb3:Below w.heap.size w W3:=by rw[← hW3];exact(((Below.refl w.heap.size w).alloc (Nat.le_refl _) _).alloc (by simp) _).alloc (by simp;omega) _
 have hs3:W3.heap.size=h+3:=by rw[← hW3,World.size_alloc,World.size_alloc,World.size_alloc,hh]
 have hA0:At W3 h [.func (.func F) #[] cb]:=by rw[← hW3,← hh];exact((At.new w #[.func (.func F) #[] cb] 317).allocO _).allocO _
 have hA1:At W3 (h+1) Oc.E.zero.cells:=by
  have:=(At.new (w.alloc (.cells #[.func (.func F) #[] cb] 317)) #[.int .i64 0,.int .u8 0,.int .i64 0,.int .i64 0,.string ⟨#[]⟩,.int .i64 0,.int .i64 0] 314).allocO (.cells #[.int .i64 0,.int .u8 0,.int .i64 0,.int .i64 0,.string ⟨#[]⟩,.int .i64 0,.int .i64 0] 314);rw[hW3,World.size_alloc,hh] at this;exact this
 have hA2:At W3 (h+2) Oc.E.zero.cells:=by
  have:=At.new ((w.alloc (.cells #[.func (.func F) #[] cb] 317)).alloc (.cells #[.int .i64 0,.int .u8 0,.int .i64 0,.int .i64 0,.string ⟨#[]⟩,.int .i64 0,.int .i64 0] 314)) #[.int .i64 0,.int .u8 0,.int .i64 0,.int .i64 0,.string ⟨#[]⟩,.int .i64 0,.int .i64 0] 314;rw[hW3,World.size_alloc,World.size_alloc,hh] at this;exact this
 have hM3:Oc.Alm l rA rc pA pc W3 g b (Oc.T0 T h):=(hM.old.below hb3).mono (fun k hk=>.inl (by rw[hh] at hk;exact hk));have hst:Hid (Oc.LAt l rA rc pA pc g b T P F cb R w h (.bool false) (.int .i64 top) W3):=
  ⟨⟨none,top,top.toNat+1,rfl,rfl,ht.1,ht.2,Nat.lt_succ_self _,hR,fun e he=>(by cases he),hA2⟩,hA0,hA1,hM3,grown_of_ hb3 _,by omega⟩
 have hTt:∀k,h≤k→T k:=by rw[← hh];exact hT
 have HT:=ak hTt;have HH:=ak hh;have HW:=ak (And.intro hW hM.memo);have HS:=ak hS;have HD:=ak hP;rw[hR];unfold Oc.LastRet;have hgw:∀(W:World),w.grownBy W (some b)→Wo W:=fun W hg=>hW.cells fun p v hc=>hM.memo.cell hc hg
 have HGW:=ak hgw;have HW3:=ak hW3;clear hM hT hW hS hP hh hR hb3 hs3 hA0 hA1 hA2 hM3 hTt hW3 hgw;go_enter Tryz.func182,Tryz.ntmps182
 go_wp2_with fail
 try rw[HW3.out]
 try rw[HH.out]
 go_loopw [9,10] (fun fo yv wr=>Oc.LAt l rA rc pA pc g b T P F cb R w h fo yv wr) (fun _ yv _=>(intOf yv).toNat)
 case atStart=>exact hst.out
 case round=>
  obtain⟨⟨bo,y,f,rfl,rfl,y0,y1,hf,hgo,hbe,hA2⟩,hA0,hA1,hM,hG,hsz⟩:=hrel;obtain⟨f,rfl⟩:∃k,f=k+1:=⟨f - 1,by omega⟩
  rw[Oc.lastGo] at hgo;have hstop:∀u:World→World,Oc.stop y bo=true→R=bo:=fun _ hs=>by
   rw[if_pos hs] at hgo;exact hgo.symm
  have e0:=hA2.cell 0 _ rfl;have e1:=hA2.cell 1 _ rfl;have e2:=hA2.cell 2 _ rfl;have e3:=hA2.cell 3 _ rfl;have e4:=hA2.cell 4 _ rfl;have e5:=hA2.cell 5 _ rfl;have e6:=hA2.cell 6 _ rfl;obtain⟨⟨r0,r1,r2,r3,r4,r5,r6⟩,k0,k1,k2,k3,k4,k5,k6⟩:=hA1.seven;have z1:=hA2.lt;have z2:=hA1.lt
  by_cases hs:Oc.stop y bo=true
  ·obtain rfl:=hstop id hs;have hend:=Oc.LAt.end_ HT.out HH.out hA1 hM hG (R.getD Oc.E.zero);have HE:=ak hend;have hey:∀e,R=some e→1≤e.y∧e.y≤9999:=fun e he=>(hbe e he).inT.2.2
   clear hgo hstop hend hA0 hA1 hA2 hM hG hbe;unfold Oc.stop at hs
   by_cases hy1:y<1
   ·have p1:¬(1:Int)≤y:=(by omega);clear hs hey;cases R with
    |none=>
     simp only[Option.getD_none,Option.isSome_none] at e0 e1 e2 e3 e4 e5 e6 HE ⊢;unfold Oc.E.zero at e0 e1 e2 e3 e4 e5 e6;go_wp2;exact bodyPost_ret (Oc.last_results (e:=Oc.E.zero) rfl rfl HE.out.1) rfl ⟨rfl,HE.out.2.1,HE.out.2.2⟩
    |some e=>
     simp only[Option.getD_some,Option.isSome_some] at e0 e1 e2 e3 e4 e5 e6 HE ⊢;go_wp2;exact bodyPost_ret (Oc.last_results rfl rfl HE.out.1) rfl ⟨rfl,HE.out.2.1,HE.out.2.2⟩
   ·cases R with
    |none=>
     rw[Bool.or_false,decide_eq_true_eq] at hs;exact absurd hs hy1
    |some e=>
     simp only[Bool.or_eq_true,decide_eq_true_eq] at hs;have hs2:y<e.y - 1:=by
      rcases hs with q|q
      ·exact absurd q hy1
      ·exact q
     have p1:(1:Int)≤y:=(by omega);have p2:¬e.y - 1≤y:=(by omega);obtain⟨p3,p4⟩:=hey e rfl;clear hey;simp only[Option.getD_some,Option.isSome_some] at e0 e1 e2 e3 e4 e5 e6 HE ⊢;clear hs;go_wp2;exact bodyPost_ret (Oc.last_results rfl rfl HE.out.1) rfl ⟨rfl,HE.out.2.1,HE.out.2.2⟩
  ·have hs':Oc.stop y bo=false:=by simpa using hs
   have hy1:1≤y:=by
    unfold Oc.stop at hs;rw[Bool.or_eq_true,decide_eq_true_eq] at hs;have:¬y<1:=fun q=>hs (.inl q)
    omega
   rw[if_neg hs] at hgo;have p1:(1:Int)≤y:=hy1;have HY:=ak (year_any l rA pA rc pc g b y wr hM (fun k hk=>by right;omega) (HGW.out _ hG) hl ⟨by omega,y1⟩);obtain⟨Y,hY⟩:=aj (Oc.year l y)
   have hYe:∀e∈Y,Oc.Ev l e:=fun e he=>Oc.year_ev (by rw[hY];exact he)
   have hYd:∀(i j:Nat) (a c:Oc.E),i≤j→Y[i]?=some a→Y[j]?=some c→P c=true→P a=true:=fun i j a c hij ha hc hp=>Oc.down_year HD.out hij (by rw[hY];exact ha) (by rw[hY];exact hc) hp
   have hYl:Y.length≤4096:=by rw[← hY];exact Nat.le_trans (Oc.year_len l y) hl
   have hcv:=Oc.covered_le l (top:=y - 1) (by omega);unfold Oc.YrRet at HY;rw[hY] at HY hgo;have HGo:=ak hgo;have HBe:=ak hbe;have HYe:=ak hYe;have HYd:=ak hYd;have HA0:=ak hA0;have HA1:=ak hA1;have HA2:=ak hA2;have HM:=ak hM;have HG:=ak hG;have HStop:=ak hs';clear hgo hbe hYe hYd hA0 hA1 hA2 hM hG hs hs' hstop hY e0 e1 e2 e3 e4 e5 r0 r1 r2 r3 r4 r5 r6 k0 k1 k2 k3 k4 k5 k6;cases bo with
   |none=>
    go_wp2_with fail
    refine HY.out.mono ?_;rintro e w4 ⟨A,c,rfl,hrd,hpl,hM4,hg4⟩;have hA0:=HM.out.memo.at_ HA0.out hg4;have hA1:=HM.out.memo.at_ (x:=.int .i64 0) HA1.out hg4;have hA2:=HM.out.memo.at_ (x:=.int .i64 ((none:Option Oc.E).getD Oc.E.zero).n) HA2.out hg4;have hG4:=gb_then HG.out hg4 (fun j hj=>.inr hj);have hz4:h+3≤w4.heap.size:=Nat.le_trans hsz hg4.size;obtain⟨W5,hW5⟩:=aj (w4.alloc (.cells #[.slice A Y.length c] 319))
    have hb5:Below w4.heap.size w4 W5:=by rw[← hW5];exact al
    have hA5:At W5 w4.heap.size [.slice A Y.length c]:=by rw[← hW5];exact At.new _ _ _
    have HA5:=ak hA5;have HA0:=ak (hA0.call hb5);have HA1:=ak (hA1.call hb5);have HA2:=ak (hA2.call hb5);have HM:=ak (hM4.below hb5);have HG:=ak (Oc.gb_below hG4 hb5);have HR5:=ak ((hrd.below hb5).more hb5.size);have HW5:=ak hW5;have hz5:h+3≤W5.heap.size:=Nat.le_trans hz4 hb5.size;have HZ5:=ak hz5;clear hrd hpl hM4 hg4 hA0 hA1 hA2 hG4 hW5 hb5 hA5 hz5 z1 z2 HY
    by_cases hY0:Y.length=0
    ·have hYn:Y=[]:=List.eq_nil_of_length_eq_zero hY0;have hgo:=HGo.out;rw[hYn,if_pos (show ([]:List Oc.E).isEmpty=true from rfl)] at hgo;have HGo2:=ak hgo;have HC:=ak (covered_any l rA pA rc pc g b (y - 1) W5 HM.out hl);obtain⟨C,hC⟩:=aj (Oc.covered l (y - 1))
     rw[hC] at HC HGo2 hcv;have HW5z:Hid (w4.alloc (.cells #[.slice A 0 c] 319)=W5):=by
      have:=HW5.out;rw[hY0] at this;exact this
     have q0:(Y.length:Int)=0:=(by omega);clear hgo hC;go_wp2_with fail
     rw[HW5z.out];refine HC.out.mono ?_;rintro e w6 ⟨rfl,hb⟩;have hN:Oc.LAt l rA rc pA pc g b T P F cb R w h (.bool (none:Option Oc.E).isSome) (.int .i64 C) w6:=
      ⟨⟨none,C,f,rfl,rfl,hcv.2,by omega,by omega,HGo2.out,HBe.out,HA2.out.call hb⟩,HA0.out.call hb,HA1.out.call hb,HM.out.below hb,Oc.gb_below HG.out hb,Nat.le_trans HZ5.out hb.size⟩
     have HN:=ak hN;clear hb hN;go_wp2;go_roundw
     case rel=>exact HN.out
     case measure=>simp[intOf];omega
    ·have hgo:=HGo.out;have hne:Y.isEmpty=false:=by
      cases Y with
      |nil=>exact absurd rfl hY0
      |cons a l=>rfl
     rw[hne,if_neg (by decide)] at hgo;have HGo2:=ak hgo;have q0:¬(Y.length:Int)=0:=(by omega);have q00:((Y.length:Int) == 0)=false:=by simpa using hY0
     have HSe:=ak (search_any Y.length 205 #[.pointer (some ⟨h,0,none⟩),.pointer (some ⟨w4.heap.size,0,none⟩)] (fun i=>!(P (Y.getD i Oc.E.zero))) W5 (by omega) ec (fun W hb i hi=>by
      have hc:=lastC_any Y P A Y.length c i h w4.heap.size F cb W rfl hi eg ((HA0.out.call hb).cell 0 _ rfl) ((HA5.out.call hb).cell 0 _ rfl) ((HR5.out.below hb).more hb.size) (fun q e he=>by
       have hgq:w.grownBy (W.drewN q) (some b):=Oc.gb_below (Oc.gb_below HG.out hb) ((Drew.below ⟨q,rfl⟩ _));exact HS.out _ hgq e (HYe.out e (List.mem_of_getElem? he)))
      refine hc.mono ?_;rintro e w' ⟨⟨a,ha,rfl⟩,hb'⟩;refine⟨?_,hb'⟩;rw[List.getD,ha];rfl) (fun i j hij hj hp=>by
      obtain⟨a,ha⟩:∃a,Y[i]?=some a:=⟨_,List.getElem?_eq_getElem (by omega)⟩
      obtain⟨c,hc⟩:∃c,Y[j]?=some c:=⟨_,List.getElem?_eq_getElem hj⟩
      rw[List.getD,ha] at hp;rw[List.getD,hc];show (!P c)=true
      have hp':(!P a)=true:=hp;cases hpc:P c with
      |false=>rfl
      |true=>
       rw[HYd.out i j a c hij ha hc hpc] at hp';cases hp'))
     have b0:=HA5.out.cell 0 _ rfl;have zb:=HA5.out.lt;clear hgo hne;go_wp2_with fail
     rw[HW5.out];refine HSe.out.mono ?_;rintro e w6 ⟨r,hrY,rfl,hr1,hr2,hb⟩;have hcut:Oc.lastP Y P=(Y.take r).getLast?:=Oc.lastP_cut (fun i e hi he=>by
      have h:=hr1 i hi;simp only[List.getD,he,Option.getD_some] at h;simpa using h) (fun i e hi he=>by
      have h:=hr2 i hi (List.getElem?_eq_some_iff.1 he).1;simp only[List.getD,he,Option.getD_some] at h;simpa using h)
     have HCut:=ak hcut;have HA0:=ak (HA0.out.call hb);have HA1:=ak (HA1.out.call hb);have HA2:=ak (HA2.out.call hb);have HA5:=ak (HA5.out.call hb);have HM:=ak (HM.out.below hb);have HG:=ak (Oc.gb_below HG.out hb);have HR6:=ak ((HR5.out.below hb).more hb.size);have HZ6:=ak (Nat.le_trans HZ5.out hb.size);have b0:=HA5.out.cell 0 _ rfl;have zb:=HA5.out.lt;clear hcut hr1 hr2 hb
     by_cases hr0:r=0
     ·have hl0:Oc.lastP Y P=none:=by rw[HCut.out,hr0];rfl
      have hgo:=HGo2.out;rw[hl0,show Oc.better (none:Option Oc.E) none=(none:Option Oc.E) from rfl] at hgo;have hN:Oc.LAt l rA rc pA pc g b T P F cb R w h (.bool ((none:Option Oc.E):Option Oc.E).isSome) (.int .i64 (y - 1)) w6:=
       ⟨⟨(none:Option Oc.E),y - 1,f,rfl,rfl,by omega,by omega,by omega,hgo,HBe.out,HA2.out⟩,HA0.out,HA1.out,HM.out,HG.out,HZ6.out⟩
      have HN:=ak hN;have q1:¬(0:Int)<(r:Int):=(by omega);have q2:decide ((0:Int)<(r:Int))=false:=by rw[decide_eq_false_iff_not];exact q1
      clear hl0 hgo hN;go_wp2_with fail
      go_quiet (fail)
      go_wp2;go_roundw
      case rel=>exact HN.out.call (Drew.below ⟨_,rfl⟩ _)
      case measure=>simp[intOf];omega
     ·obtain⟨s,hs⟩:∃s,r=s+1:=⟨r - 1,by omega⟩
      obtain⟨x,hx1,hx2⟩:=Oc.take_last (x:=Y) (r:=r) (by omega) hrY;obtain⟨ad,x',rfl,hab,hx3,x0,x1,x2,x3,x4,x5,x6⟩:=Oc.ev_cells (x:=Y) (n:=Y.length) (k:=s) rfl HR6.out (by omega);have hxx:x'=x:=by
       rw[show r - 1=s by omega,hx3] at hx1;exact Option.some.inj hx1
      subst hxx;have hab2:(ad.add (s*7)).block<w6.heap.size:=by rw[block_of_add];exact hab
      have hxe:=HYe.out x' (List.mem_of_getElem? hx3);have hbt:Oc.lastP Y P=some x':=by rw[HCut.out];exact hx2
      have hgo:=HGo2.out;rw[hbt] at hgo;have hrs:(r:Int) - 1=(s:Int):=(by omega);have q1:(0:Int)<(r:Int):=(by omega);have q2:decide ((0:Int)<(r:Int))=true:=by rw[decide_eq_true_eq];exact q1
      have q2n:decide (0<r)=true:=by rw[decide_eq_true_eq];omega
      have q3:=am s
      have q4:(s:Int)<(Y.length:Int):=(by omega);have HXe:=ak hxe;have HX3:=ak hx3;have HGo3:=ak hgo;have HRS:=ak hs;clear hx1 hx2 hx3 hxe hbt hgo hr0 hs;have hN:∀W,Below w6.heap.size w6 W→Oc.LAt l rA rc pA pc g b T P F cb R w h (.bool true) (.int .i64 (y - 1)) (((((((W.setCell ⟨h+2,0,none⟩ (.int .i64 x'.n)).setCell ⟨h+2,1,none⟩ (.int .u8 x'.c)).setCell ⟨h+2,2,none⟩ (.int .i64 x'.sv)).setCell ⟨h+2,3,none⟩ (.int .i64 x'.bf)).setCell ⟨h+2,4,none⟩ (.string x'.lt)).setCell ⟨h+2,5,none⟩ (.int .i64 x'.pl)).setCell ⟨h+2,6,none⟩ (.int .i64 x'.y)):=fun W hb=>Oc.LAt.put HH.out (HA2.out.call hb) (HA0.out.call hb) (HA1.out.call hb) (HM.out.below hb) (Oc.gb_below HG.out hb) (Nat.le_trans HZ6.out hb.size) (by omega) (by omega) (by omega) HGo3.out HXe.out
      have HN:=ak hN;obtain⟨⟨e0,e1,e2,e3,e4,e5,e6⟩,k0,k1,k2,k3,k4,k5,k6⟩:=HA2.out.seven;have z1:=HA2.out.lt;clear hN;go_wp2_with fail
      go_quiet (fail)
      go_wp2;go_roundw
      case rel=>exact HN.out _ (Drew.below ⟨_,rfl⟩ _)
      case measure=>simp[intOf];omega
   |some a=>
    have hst:y<1∨y<a.y - 1→False:=fun q=>by
     have h1:=HStop.out;unfold Oc.stop at h1;rcases q with q|q
     ·omega
     ·simp only[Bool.or_eq_false_iff,decide_eq_false_iff_not] at h1;exact h1.2 q
    have p2:a.y - 1≤y:=by
     rcases Int.lt_or_le y (a.y - 1) with q|q
     ·exact(hst (.inr q)).elim
     ·exact q
    obtain⟨p3,p4⟩:=(HBe.out a rfl).inT.2.2;simp only[Option.getD_some] at e6;clear hst;go_wp2_with fail
    refine HY.out.mono ?_;rintro e w4 ⟨A,c,rfl,hrd,hpl,hM4,hg4⟩;have hA0:=HM.out.memo.at_ HA0.out hg4;have hA1:=HM.out.memo.at_ (x:=.int .i64 0) HA1.out hg4;have hA2:=HM.out.memo.at_ (x:=.int .i64 ((some a).getD Oc.E.zero).n) HA2.out hg4;have hG4:=gb_then HG.out hg4 (fun j hj=>.inr hj);have hz4:h+3≤w4.heap.size:=Nat.le_trans hsz hg4.size;obtain⟨W5,hW5⟩:=aj (w4.alloc (.cells #[.slice A Y.length c] 319))
    have hb5:Below w4.heap.size w4 W5:=by rw[← hW5];exact al
    have hA5:At W5 w4.heap.size [.slice A Y.length c]:=by rw[← hW5];exact At.new _ _ _
    have HA5:=ak hA5;have HA0:=ak (hA0.call hb5);have HA1:=ak (hA1.call hb5);have HA2:=ak (hA2.call hb5);have HM:=ak (hM4.below hb5);have HG:=ak (Oc.gb_below hG4 hb5);have HR5:=ak ((hrd.below hb5).more hb5.size);have HW5:=ak hW5;have hz5:h+3≤W5.heap.size:=Nat.le_trans hz4 hb5.size;have HZ5:=ak hz5;clear hrd hpl hM4 hg4 hA0 hA1 hA2 hG4 hW5 hb5 hA5 hz5 z1 z2 HY
    by_cases hY0:Y.length=0
    ·have hYn:Y=[]:=List.eq_nil_of_length_eq_zero hY0;have hgo:=HGo.out;rw[hYn,if_pos (show ([]:List Oc.E).isEmpty=true from rfl)] at hgo;have HGo2:=ak hgo;have HC:=ak (covered_any l rA pA rc pc g b (y - 1) W5 HM.out hl);obtain⟨C,hC⟩:=aj (Oc.covered l (y - 1))
     rw[hC] at HC HGo2 hcv;have HW5z:Hid (w4.alloc (.cells #[.slice A 0 c] 319)=W5):=by
      have:=HW5.out;rw[hY0] at this;exact this
     have q0:(Y.length:Int)=0:=(by omega);clear hgo hC;go_wp2_with fail
     rw[HW5z.out];refine HC.out.mono ?_;rintro e w6 ⟨rfl,hb⟩;have hN:Oc.LAt l rA rc pA pc g b T P F cb R w h (.bool (some a).isSome) (.int .i64 C) w6:=
      ⟨⟨some a,C,f,rfl,rfl,hcv.2,by omega,by omega,HGo2.out,HBe.out,HA2.out.call hb⟩,HA0.out.call hb,HA1.out.call hb,HM.out.below hb,Oc.gb_below HG.out hb,Nat.le_trans HZ5.out hb.size⟩
     have HN:=ak hN;clear hb hN;go_wp2;go_roundw
     case rel=>exact HN.out
     case measure=>simp[intOf];omega
    ·have hgo:=HGo.out;have hne:Y.isEmpty=false:=by
      cases Y with
      |nil=>exact absurd rfl hY0
      |cons a l=>rfl
     rw[hne,if_neg (by decide)] at hgo;have HGo2:=ak hgo;have q0:¬(Y.length:Int)=0:=(by omega);have q00:((Y.length:Int) == 0)=false:=by simpa using hY0
     have HSe:=ak (search_any Y.length 205 #[.pointer (some ⟨h,0,none⟩),.pointer (some ⟨w4.heap.size,0,none⟩)] (fun i=>!(P (Y.getD i Oc.E.zero))) W5 (by omega) ec (fun W hb i hi=>by
      have hc:=lastC_any Y P A Y.length c i h w4.heap.size F cb W rfl hi eg ((HA0.out.call hb).cell 0 _ rfl) ((HA5.out.call hb).cell 0 _ rfl) ((HR5.out.below hb).more hb.size) (fun q e he=>by
       have hgq:w.grownBy (W.drewN q) (some b):=Oc.gb_below (Oc.gb_below HG.out hb) ((Drew.below ⟨q,rfl⟩ _));exact HS.out _ hgq e (HYe.out e (List.mem_of_getElem? he)))
      refine hc.mono ?_;rintro e w' ⟨⟨a,ha,rfl⟩,hb'⟩;refine⟨?_,hb'⟩;rw[List.getD,ha];rfl) (fun i j hij hj hp=>by
      obtain⟨a,ha⟩:∃a,Y[i]?=some a:=⟨_,List.getElem?_eq_getElem (by omega)⟩
      obtain⟨c,hc⟩:∃c,Y[j]?=some c:=⟨_,List.getElem?_eq_getElem hj⟩
      rw[List.getD,ha] at hp;rw[List.getD,hc];show (!P c)=true
      have hp':(!P a)=true:=hp;cases hpc:P c with
      |false=>rfl
      |true=>
       rw[HYd.out i j a c hij ha hc hpc] at hp';cases hp'))
     have b0:=HA5.out.cell 0 _ rfl;have zb:=HA5.out.lt;clear hgo hne;go_wp2_with fail
     rw[HW5.out];refine HSe.out.mono ?_;rintro e w6 ⟨r,hrY,rfl,hr1,hr2,hb⟩;have hcut:Oc.lastP Y P=(Y.take r).getLast?:=Oc.lastP_cut (fun i e hi he=>by
      have h:=hr1 i hi;simp only[List.getD,he,Option.getD_some] at h;simpa using h) (fun i e hi he=>by
      have h:=hr2 i hi (List.getElem?_eq_some_iff.1 he).1;simp only[List.getD,he,Option.getD_some] at h;simpa using h)
     have HCut:=ak hcut;have HA0:=ak (HA0.out.call hb);have HA1:=ak (HA1.out.call hb);have HA2:=ak (HA2.out.call hb);have HA5:=ak (HA5.out.call hb);have HM:=ak (HM.out.below hb);have HG:=ak (Oc.gb_below HG.out hb);have HR6:=ak ((HR5.out.below hb).more hb.size);have HZ6:=ak (Nat.le_trans HZ5.out hb.size);have b0:=HA5.out.cell 0 _ rfl;have zb:=HA5.out.lt;clear hcut hr1 hr2 hb
     by_cases hr0:r=0
     ·have hl0:Oc.lastP Y P=none:=by rw[HCut.out,hr0];rfl
      have hgo:=HGo2.out;rw[hl0,show Oc.better (some a) none=(some a) from rfl] at hgo;have hN:Oc.LAt l rA rc pA pc g b T P F cb R w h (.bool ((some a):Option Oc.E).isSome) (.int .i64 (y - 1)) w6:=
       ⟨⟨(some a),y - 1,f,rfl,rfl,by omega,by omega,by omega,hgo,HBe.out,HA2.out⟩,HA0.out,HA1.out,HM.out,HG.out,HZ6.out⟩
      have HN:=ak hN;have q1:¬(0:Int)<(r:Int):=(by omega);have q2:decide ((0:Int)<(r:Int))=false:=by rw[decide_eq_false_iff_not];exact q1
      clear hl0 hgo hN;go_wp2_with fail
      go_quiet (fail)
      go_wp2;go_roundw
      case rel=>exact HN.out.call (Drew.below ⟨_,rfl⟩ _)
      case measure=>simp[intOf];omega
     ·obtain⟨s,hs⟩:∃s,r=s+1:=⟨r - 1,by omega⟩
      obtain⟨x,hx1,hx2⟩:=Oc.take_last (x:=Y) (r:=r) (by omega) hrY;obtain⟨ad,x',rfl,hab,hx3,x0,x1,x2,x3,x4,x5,x6⟩:=Oc.ev_cells (x:=Y) (n:=Y.length) (k:=s) rfl HR6.out (by omega);have hxx:x'=x:=by
       rw[show r - 1=s by omega,hx3] at hx1;exact Option.some.inj hx1
      subst hxx;have hab2:(ad.add (s*7)).block<w6.heap.size:=by rw[block_of_add];exact hab
      have hxe:=HYe.out x' (List.mem_of_getElem? hx3);have hbt:Oc.lastP Y P=some x':=by rw[HCut.out];exact hx2
      have hgo:=HGo2.out;rw[hbt] at hgo;have hrs:(r:Int) - 1=(s:Int):=(by omega);have q1:(0:Int)<(r:Int):=(by omega);have q2:decide ((0:Int)<(r:Int))=true:=by rw[decide_eq_true_eq];exact q1
      have q2n:decide (0<r)=true:=by rw[decide_eq_true_eq];omega
      have q3:=am s
      have q4:(s:Int)<(Y.length:Int):=(by omega);have HXe:=ak hxe;have HX3:=ak hx3;have HGo3:=ak hgo;have HRS:=ak hs;clear hx1 hx2 hx3 hxe hbt hgo hr0 hs;have hO:=fun W=>order_any a x' W
      obtain⟨z,hz⟩:=aj (Oc.cf a x')
      have hcl:=Oc.cf_less a x';rw[hz] at hO hcl;unfold Oc.E.v at hO;have HO:=ak hO;have ha2:=HA2.out;obtain⟨⟨e0,e1,e2,e3,e4,e5,e6⟩,k0,k1,k2,k3,k4,k5,k6⟩:=ha2.seven;have z1:=ha2.lt;clear hO hz ha2;cases hless:Oc.lessB a x' with
      |true=>
       rw[hless] at hcl;have hgo:=HGo3.out;rw[show Oc.better (some a) (some x')=some x' by unfold Oc.better;simp only;rw[if_pos hless]] at hgo;have hN:∀W,Below w6.heap.size w6 W→Oc.LAt l rA rc pA pc g b T P F cb R w h (.bool true) (.int .i64 (y - 1)) (((((((W.setCell ⟨h+2,0,none⟩ (.int .i64 x'.n)).setCell ⟨h+2,1,none⟩ (.int .u8 x'.c)).setCell ⟨h+2,2,none⟩ (.int .i64 x'.sv)).setCell ⟨h+2,3,none⟩ (.int .i64 x'.bf)).setCell ⟨h+2,4,none⟩ (.string x'.lt)).setCell ⟨h+2,5,none⟩ (.int .i64 x'.pl)).setCell ⟨h+2,6,none⟩ (.int .i64 x'.y)):=fun W hb=>Oc.LAt.put HH.out (HA2.out.call hb) (HA0.out.call hb) (HA1.out.call hb) (HM.out.below hb) (Oc.gb_below HG.out hb) (Nat.le_trans HZ6.out hb.size) (by omega) (by omega) (by omega) hgo HXe.out
       have HN:=ak hN;have hz0:z<0:=of_decide_eq_true hcl;clear hgo hN hcl hless;go_wp2_with fail
       have hw4:IntKind.i64.wrap (s:Int)=(s:Int):=IntWalk.i64_in _ (by omega);refine wp_region_quiet_tail (C:=fun w'=>∃j,w'=w6.drewN j) 12 (by kernel_rfl) (by kernel_rfl) ⟨1,rfl⟩ ?_
       repeat (quiet_step (fail))
       clear hw4;refine wpQuiet_nil ?_;intro wz hwz;obtain⟨nq,rfl⟩:=hwz;show wpList _ _ _ (_ :: _) _ _
       go_wp2_with fail
       refine(HO.out _).mono ?_;rintro e w7 ⟨rfl,hgr⟩;have hb7:Below w6.heap.size w6 w7:=(below_drewN (Below.refl _ w6) nq).trans hgr.below;obtain⟨ad2,x2,hadq,hab7,hx7,x0,x1,x2',x3,x4,x5,x6⟩:=Oc.ev_cells (x:=Y) (n:=Y.length) (k:=s) rfl ((HR6.out.below hb7).more hb7.size) (by omega);obtain rfl:ad=ad2:=Option.some.inj hadq;obtain rfl:x'=x2:=by
        have:=HX3.out;rw[hx7] at this;exact(Option.some.inj this).symm
       have b0:=(HA5.out.call hb7).cell 0 _ rfl;have zb:=(HA5.out.call hb7).lt;obtain⟨_,k0,k1,k2,k3,k4,k5,k6⟩:=(HA2.out.call hb7).seven;obtain⟨⟨e0,e1,e2,e3,e4,e5,e6⟩,_⟩:=(HA2.out.call hb7).seven;have z1:=(HA2.out.call hb7).lt;have HN7:=ak (HN.out w7 hb7);clear hgr hb7 hx7 hadq;go_wp2;go_roundw
       case rel=>exact HN7.out
       case measure=>simp[intOf];omega
      |false=>
       rw[hless] at hcl;have hgo:=HGo3.out;rw[show Oc.better (some a) (some x')=some a by unfold Oc.better;simp only;rw[if_neg (by rw[hless];decide)]] at hgo;have hN:Oc.LAt l rA rc pA pc g b T P F cb R w h (.bool (some a:Option Oc.E).isSome) (.int .i64 (y - 1)) w6:=
        ⟨⟨some a,y - 1,f,rfl,rfl,by omega,by omega,by omega,hgo,HBe.out,HA2.out⟩,HA0.out,HA1.out,HM.out,HG.out,HZ6.out⟩
       have HN:=ak hN;have hz0:¬z<0:=of_decide_eq_false hcl;clear hgo hN hcl hless;go_wp2_with fail
       have hw4:IntKind.i64.wrap (s:Int)=(s:Int):=IntWalk.i64_in _ (by omega);refine wp_region_quiet_tail (C:=fun w'=>∃j,w'=w6.drewN j) 12 (by kernel_rfl) (by kernel_rfl) ⟨1,rfl⟩ ?_
       repeat (quiet_step (fail))
       clear hw4;refine wpQuiet_nil ?_;intro wz hwz;obtain⟨nq,rfl⟩:=hwz;show wpList _ _ _ (_ :: _) _ _
       go_wp2_with fail
       refine(HO.out _).mono ?_;rintro e w7 ⟨rfl,hgr⟩;have hb7:Below w6.heap.size w6 w7:=(below_drewN (Below.refl _ w6) nq).trans hgr.below;have HN7:=ak (HN.out.call hb7);clear hgr hb7;go_wp2;go_roundw
       case rel=>exact HN7.out
       case measure=>simp[intOf];omega
end Go.Proofs.YtjobhjemnmleaaaGreatDoor
