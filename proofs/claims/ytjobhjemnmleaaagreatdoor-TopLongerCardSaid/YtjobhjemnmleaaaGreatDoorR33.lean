/- drawing.draw: the pieces, put together. -/
import Derived.Test.YtjobhjemnmleaaaGreatDoorR32
set_option maxRecDepth 200000
set_option maxHeartbeats 16000000
namespace Go.Proofs.YtjobhjemnmleaaaGreatDoor
open Go.RowKit Go.Shelf
attribute [local go_sem] Oper.semAt_some
theorem span_info : (Tryz.prog.info? 164).map (fun i=>(i.zero,i.size,i.bytes))=some (some (.agg #[.int .i64 0,.int .i64 0,.bool false]),3,24):=by kernel_rfl
theorem add_zero_off (g j:Nat):(⟨g,0,none⟩:Addr).add j=⟨g,j,none⟩:=by
 unfold Addr.add;split
 ·subst_vars;rfl
 ·simp
namespace Ln
def fl (l:List Sp):List Value:=l.flatMap Sp.cells
theorem fl_len : ∀l:List Sp,(fl l).length=l.length*3
 |[]=>rfl
 |a :: l=>by
  have:=fl_len l;unfold fl at *;rw[List.flatMap_cons,List.length_append,this,List.length_cons];show 3+_=_
  omega
theorem fl_snoc (l:List Sp)(p:Sp):fl (l ++ [p])=fl l ++ p.cells:=by unfold fl;rw[List.flatMap_append];simp
theorem fl_set (l:List Sp)(q:Sp)(x:Int):(fl (l ++ [q])).set (l.length*3) (.int .i64 x)=fl (l ++ [⟨x,q.off,q.dst⟩]):=by
 rw[fl_snoc,fl_snoc,List.set_append_right _ _ (by rw[fl_len];exact Nat.le_refl _),fl_len,Nat.sub_self];rfl
theorem push_len (A:List Sp)(p:Sp):(push A p).length≤A.length+1:=by
 cases A with
 |nil=>exact Nat.le_refl _
 |cons q A=>
  show (if alike q p=true then (⟨p.fr,q.off,q.dst⟩:Sp) :: A else p :: q :: A).length≤A.length+1+1
  split <;> simp
theorem fold_len : ∀(l A:List Sp),(l.foldl push A).length≤A.length+l.length
 |[],A=>Nat.le_refl _
 |p :: l,A=>by
  have h1:=fold_len l (push A p);have h2:=push_len A p;rw[List.foldl_cons,List.length_cons];omega
theorem cells_one : ∀p:Sp,∀u∈p.cells,u.oneCell'=true:=by
 intro p u hu;simp[Sp.cells] at hu
 rcases hu with rfl|rfl|rfl <;> rfl
structure DI (h:Nat)(A:List Sp)(w0 W:World):Prop where
 below:Below w0.heap.size w0 W
 row:∃v,Bk W h #[v] 61∧W.ownsRow (h+1) 164 3 v A.length (fl A.reverse)
theorem Ty.set {W:World}{g:Nat}{cs:Array Value}(h:W.heap[g]?=some (.cells cs 164 (0,0))∨W.heap[g]?=some (.cells cs 61 (0,0)))(j:Nat)(v:Value):Ty W (W.setCell ⟨g,j,none⟩ v):=fun k ds t m hk h1 h2=>by
 refine Below.heap_setCell W ⟨g,j,none⟩ v k (fun e=>?_);have e:k=g:=e;subst e;rcases h with h|h
 ·rw[h] at hk;cases hk;exact h1 rfl
 ·rw[h] at hk;cases hk;exact h2 rfl
theorem Ty.row {W W':World}{base n:Nat}{v:Value}{xs:List Value}(h:W.ownsRow base 164 3 v n xs)(hg:W.grownBy W' v.ownBlock):Ty W W':=fun k ds t m hk h1 _=>by
 refine hg.block k (Array.getElem?_eq_some_iff.1 hk).1 (fun e=>?_);rcases h.2 with ⟨rfl,_⟩|⟨g,cap,cur,rfl,_,hb,_⟩
 ·cases e
 ·have e2:k=g:=Option.some.inj e;subst e2;rw[hb] at hk;cases hk
  exact h1 rfl
theorem keeps_row {B:Nat}{W W':World}{base n:Nat}{v:Value}{xs:List Value}(h:W.ownsRow base 164 3 v n xs)(hg:W.grownBy W' v.ownBlock):KeepsFrom B W W':=by
 refine(KeepsOthers.of_grownBy hg (fun j o hj ho=>?_)).from B;rcases h.2 with ⟨rfl,_⟩|⟨g,cap,cur,rfl,_,hb,_⟩
 ·cases hj
 ·have e2:g=j:=Option.some.inj hj;subst e2;rw[hb] at ho;cases ho
  rfl
theorem bk_row {W W':World}{base n k:Nat}{v:Value}{xs:List Value}{cs:Array Value}{t:TypeId}(hb:Bk W k cs t)(ht:t≠164)(h:W.ownsRow base 164 3 v n xs)(hg:W.grownBy W' v.ownBlock):Bk W' k cs t:=by
 refine(hg.block k hb.lt (fun e=>?_)).trans hb;rcases h.2 with ⟨rfl,_⟩|⟨g,cap,cur,rfl,_,hx,_⟩
 ·cases e
 ·have e2:k=g:=Option.some.inj e;subst e2;rw[show W.heap[k]?=_ from hb] at hx;cases hx
  exact ht rfl
theorem below_row {W W':World}{base n B:Nat}{v:Value}{xs:List Value}(h:W.ownsRow base 164 3 v n xs)(hg:W.grownBy W' v.ownBlock)(hB:B≤base)(hW:B≤W.heap.size):Below B W W':=
 (Below.refl B W).grown hg hW (fun r e=>Nat.le_trans hB (h.lt r e).1)
theorem row_grown {W W':World}{row:Option Nat}{base n:Nat}{v:Value}{xs:List Value}(h:W.ownsRow base 164 3 v n xs)(hg:W.grownBy W' row)(hr:∀r,row=some r→∃o:Obj,W.heap[r]?=some o∧o.isCells=false):W'.ownsRow base 164 3 v n xs:=by
 refine⟨h.1,?_⟩;rcases h.2 with hn|⟨g,cap,cur,hv,hb,hx,rest⟩
 ·exact .inl hn
 ·refine .inr ⟨g,cap,cur,hv,hb,(hg.block g (Array.getElem?_eq_some_iff.1 hx).1 (fun e=>?_)).trans hx,rest⟩;obtain⟨o,ho,hc⟩:=hr g e.symm;rw[hx] at ho;cases ho
  cases hc
theorem DI.call {h:Nat}{A:List Sp}{w0 W W':World}(q:DI h A w0 W)(hb:Below W.heap.size W W'):DI h A w0 W':=by
 obtain⟨v,h1,h2⟩:=q.row;exact⟨q.below.trans (hb.mono q.below.size),v,h1.call hb,own_below h2 hb⟩
theorem DI.grown {h B:Nat}{A:List Sp}{w0 W W':World}{row:Option Nat}(q:DI h A w0 W)(hg:W.grownBy W' row)(hr:∀r,row=some r→B≤r∧∃o:Obj,W.heap[r]?=some o∧o.isCells=false)(hB:w0.heap.size≤B):DI h A w0 W':=by
 obtain⟨v,h1,h2⟩:=q.row;exact⟨q.below.grown hg q.below.size (fun r e=>Nat.le_trans hB (hr r e).1),v,h1.grown hg (fun r e=>(hr r e).2),row_grown h2 hg (fun r e=>(hr r e).2)⟩
theorem app_step {h B n:Nat}{w0 X X5 w1:World}{A':List Sp}{v v':Value}{xs:List Value}{p:Sp}(hb:Below X.heap.size X X5)(hbl:Below w0.heap.size w0 X)(hh:w0.heap.size≤h)(hbk:Bk X h #[v] 61)(hrow:X.ownsRow (h+1) 164 3 v n xs)
  (hown:w1.ownsRow (h+1) 164 3 v' (n+1) (xs ++ p.cells)) (hg:(X5.alloc (.cells #[.int .i64 p.fr,.int .i64 p.off,.bool p.dst] 164)).grownBy w1 v.ownBlock) (hxs:xs ++ p.cells=fl A'.reverse) (hn:n+1=A'.length):
  (KeepsFrom B X (w1.setCell ⟨h,0,none⟩ v')∧Kp w0.heap.size X (w1.setCell ⟨h,0,none⟩ v')∧DI h A' w0 (w1.setCell ⟨h,0,none⟩ v'))∧w1.cell? ⟨h,0,none⟩=some v∧w1.frozen? ⟨h,0,none⟩=false∧h<w1.heap.size:=by
 have hal:Below X.heap.size X (X5.alloc (.cells #[.int .i64 p.fr,.int .i64 p.off,.bool p.dst] 164)):=hb.alloc hb.size _;have hbk2:=hbk.call hal;have hrow2:=own_below hrow hal;have hz:w0.heap.size≤X.heap.size:=hbl.size;have hz2:=Nat.le_trans hz hal.size;have hbk3:Bk w1 h #[v] 61:=bk_row hbk2 (by decide) hrow2 hg;have hne:v'.ownBlock≠some h:=fun e=>by
  have:=(hown.lt h e).1;omega
 refine⟨⟨?_,⟨?_,?_⟩,⟨?_,v',?_,?_⟩⟩,hbk3.at_.cell 0 _ rfl,hbk3.at_.free 0 _ rfl,hbk3.lt⟩
 ·exact((keeps_below hal).trans (keeps_row hrow2 hg)).trans ((KeepsOthers.setCell w1 ⟨h,0,none⟩ v').from B)
 ·exact((hal.mono hz).trans (below_row hrow2 hg (by omega) hz2)).setCell (p:=⟨h,0,none⟩) hh v'
 ·exact((Ty.of_below hal).trans (Ty.row hrow2 hg)).trans (Ty.set (.inr hbk3) 0 v')
 ·exact(hbl.trans ((hal.mono hz).trans (below_row hrow2 hg (by omega) hz2))).setCell (p:=⟨h,0,none⟩) hh v'
 ·have:=heap_setCell_same w1 h 0 #[v] 61 v' hbk3;exact this
 ·rw[← hxs,← hn];exact ownsRow_setCell_other hown (a:=⟨h,0,none⟩) hne v'
theorem set_step {h B g c:Nat}{w0 X X5:World}{A:List Sp}{q:Sp}{x:Int}(hb:Below X.heap.size X X5)(hbl:Below w0.heap.size w0 X)(hh:w0.heap.size≤h)(hbk:Bk X h #[.slice (some ⟨g,0,none⟩) (A.length+1) c] 61)
  (hrow:X.ownsRow (h+1) 164 3 (.slice (some ⟨g,0,none⟩) (A.length+1) c) (A.length+1) (fl (A.reverse ++ [q]))):
  KeepsFrom B X (X5.setCell ⟨g,A.length*3,none⟩ (.int .i64 x))∧Kp w0.heap.size X (X5.setCell ⟨g,A.length*3,none⟩ (.int .i64 x))∧DI h (⟨x,q.off,q.dst⟩ :: A) w0 (X5.setCell ⟨g,A.length*3,none⟩ (.int .i64 x)):=by
 have hrow2:=own_below hrow hb;have hz:w0.heap.size≤X.heap.size:=hbl.size;obtain⟨hs1,hs2⟩:=hrow2.stored (A.length*3) (.int .i64 x);have hgl:=(hrow2.lt g rfl).1;have hbk5:=hbk.call hb;have hset:=fl_set A.reverse q x;rw[List.length_reverse] at hset;rw[hset] at hs1;refine⟨?_,⟨?_,?_⟩,⟨?_,.slice (some ⟨g,0,none⟩) (A.length+1) c,?_,?_⟩⟩
 ·exact(keeps_below hb).trans ((KeepsOthers.setCell X5 ⟨g,A.length*3,none⟩ (.int .i64 x)).from B)
 ·exact(hb.mono hz).setCell (p:=⟨g,A.length*3,none⟩) (by show w0.heap.size≤g;omega) _
 ·exact(Ty.of_below hb).trans (Ty.row hrow2 hs2)
 ·exact(hbl.trans (hb.mono hz)).setCell (p:=⟨g,A.length*3,none⟩) (by show w0.heap.size≤g;omega) _
 ·exact bk_row hbk5 (by decide) hrow2 hs2
 ·rw[List.reverse_cons,List.length_cons];exact hs1
end Ln
namespace DrA
def sl : Nat→Nat
 |0=>13
 |1=>14
 |2=>15
 |3=>16
 |4=>17
 |5=>18
 |6=>19
 |7=>20
 |8=>21
 |9=>22
 |10=>23
 |11=>24
 |12=>25
 |13=>26
 |14=>27
 |15=>28
 |16=>29
 |17=>30
 |18=>31
 |19=>32
 |20=>33
 |21=>34
 |22=>35
 |_=>36
def Q  : Nat→Value→World→Prop
 |0,v,_=>v=.int .i64 0
 |1,v,_=>v=.bool false
 |2,v,_=>v=.bool false
 |3,v,_=>v=undef
 |4,v,_=>v=undef
 |5,v,_=>v=undef
 |6,v,_=>v=undef
 |7,v,_=>v=undef
 |8,v,_=>v=undef
 |9,v,_=>v=undef
 |10,v,_=>v=undef
 |11,v,_=>v=undef
 |12,v,_=>v=.bool false
 |13,v,_=>v=.bool false
 |14,v,_=>v=undef
 |15,v,_=>v=undef
 |16,v,_=>v=undef
 |17,v,_=>v=undef
 |18,v,_=>v=undef
 |19,v,_=>v=undef
 |20,v,_=>v=undef
 |21,v,_=>v=undef
 |22,v,_=>v=undef
 |23,v,_=>v=.bool false
 |_,_,_=>True
theorem Q_mono  : ∀i v W W',Q  i v W→Below W.heap.size W W'→Q  i v W':=by
 intro _ v W W' h hb;unfold Q at h ⊢;split at h
 all_goals first|exact h
theorem sl_inj : ∀j,j<24→∀k,k<24→sl j=sl k→j=k:=by decide +kernel
theorem sl_no : ∀j,j∈[3,4,5]→∀k,k<24→sl k≠j:=by decide +kernel
end DrA
namespace DrB
def sl : Nat→Nat
 |0=>13
 |1=>14
 |2=>15
 |3=>16
 |4=>17
 |5=>18
 |6=>19
 |7=>20
 |8=>21
 |9=>22
 |10=>23
 |11=>24
 |12=>25
 |13=>26
 |14=>27
 |15=>28
 |16=>29
 |17=>30
 |18=>31
 |19=>32
 |20=>33
 |21=>34
 |22=>35
 |_=>36
def Q (Bx:Nat)(k:Nat)(vc:Nat)(ad:Addr)(qo:Int)(po:Int):Nat→Value→World→Prop
 |0,v,_=>v=.int .i64 ((k:Int)+1)
 |1,v,_=>v=.bool true
 |2,v,_=>v=.bool true
 |3,v,_=>v=.slice (some ad) (k+1) vc
 |4,v,_=>v=.int .i64 ((k:Int)+1)
 |5,v,_=>v=.int .i64 (k:Int)
 |6,v,_=>v=.pointer (some (ad.add (k*3)))
 |7,v,_=>v=.pointer (some ⟨(ad.add (k*3)).block,(ad.add (k*3)).off+1,none⟩)
 |8,v,_=>v=.int .i64 qo
 |9,v,_=>v=.pointer (some ⟨Bx,1,none⟩)
 |10,v,_=>v=.int .i64 po
 |11,v,_=>v=.bool false
 |12,v,_=>v=.bool false
 |13,v,_=>v=.bool false
 |14,v,_=>v=undef
 |15,v,_=>v=undef
 |16,v,_=>v=undef
 |17,v,_=>v=undef
 |18,v,_=>v=undef
 |19,v,_=>v=undef
 |20,v,_=>v=undef
 |21,v,_=>v=undef
 |22,v,_=>v=undef
 |23,v,_=>v=.bool false
 |_,_,_=>True
theorem Q_mono {Bx:Nat}{k:Nat}{vc:Nat}{ad:Addr}{qo:Int}{po:Int}:∀i v W W',Q Bx k vc ad qo po i v W→Below W.heap.size W W'→Q Bx k vc ad qo po i v W':=by
 intro _ v W W' h hb;unfold Q at h ⊢;split at h
 all_goals first|exact h
theorem sl_inj : ∀j,j<24→∀k,k<24→sl j=sl k→j=k:=by decide +kernel
theorem sl_no : ∀j,j∈[3,4,5]→∀k,k<24→sl k≠j:=by decide +kernel
end DrB
namespace DrC
def sl : Nat→Nat
 |0=>13
 |1=>14
 |2=>15
 |3=>16
 |4=>17
 |5=>18
 |6=>19
 |7=>20
 |8=>21
 |9=>22
 |10=>23
 |11=>24
 |12=>25
 |13=>26
 |14=>27
 |15=>28
 |16=>29
 |17=>30
 |18=>31
 |19=>32
 |20=>33
 |21=>34
 |22=>35
 |_=>36
def Q (Bx:Nat)(k:Nat)(vc:Nat)(ad:Addr)(qo:Int)(po:Int)(qd:Bool)(pd:Bool):Nat→Value→World→Prop
 |0,v,_=>v=.int .i64 ((k:Int)+1)
 |1,v,_=>v=.bool true
 |2,v,_=>v=.bool true
 |3,v,_=>v=.slice (some ad) (k+1) vc
 |4,v,_=>v=.int .i64 ((k:Int)+1)
 |5,v,_=>v=.int .i64 (k:Int)
 |6,v,_=>v=.pointer (some (ad.add (k*3)))
 |7,v,_=>v=.pointer (some ⟨(ad.add (k*3)).block,(ad.add (k*3)).off+1,none⟩)
 |8,v,_=>v=.int .i64 qo
 |9,v,_=>v=.pointer (some ⟨Bx,1,none⟩)
 |10,v,_=>v=.int .i64 po
 |11,v,_=>v=.bool true
 |12,v,_=>v=.bool true
 |13,v,_=>v=.bool true
 |14,v,_=>v=.slice (some ad) (k+1) vc
 |15,v,_=>v=.int .i64 ((k:Int)+1)
 |16,v,_=>v=.int .i64 (k:Int)
 |17,v,_=>v=.pointer (some (ad.add (k*3)))
 |18,v,_=>v=.pointer (some ⟨(ad.add (k*3)).block,(ad.add (k*3)).off+2,none⟩)
 |19,v,_=>v=.bool qd
 |20,v,_=>v=.pointer (some ⟨Bx,2,none⟩)
 |21,v,_=>v=.bool pd
 |22,v,_=>v=.bool false
 |23,v,_=>v=.bool false
 |_,_,_=>True
theorem Q_mono {Bx:Nat}{k:Nat}{vc:Nat}{ad:Addr}{qo:Int}{po:Int}{qd:Bool}{pd:Bool}:∀i v W W',Q Bx k vc ad qo po qd pd i v W→Below W.heap.size W W'→Q Bx k vc ad qo po qd pd i v W':=by
 intro _ v W W' h hb;unfold Q at h ⊢;split at h
 all_goals first|exact h
theorem sl_inj : ∀j,j<24→∀k,k<24→sl j=sl k→j=k:=by decide +kernel
theorem sl_no : ∀j,j∈[3,4,5]→∀k,k<24→sl k≠j:=by decide +kernel
end DrC
namespace DrD
def sl : Nat→Nat
 |0=>13
 |1=>14
 |2=>15
 |3=>16
 |4=>17
 |5=>18
 |6=>19
 |7=>20
 |8=>21
 |9=>22
 |10=>23
 |11=>24
 |12=>25
 |13=>26
 |14=>27
 |15=>28
 |16=>29
 |17=>30
 |18=>31
 |19=>32
 |20=>33
 |21=>34
 |22=>35
 |_=>36
def Q (Bx:Nat)(k:Nat)(vc:Nat)(ad:Addr)(qo:Int)(po:Int)(qd:Bool)(pd:Bool):Nat→Value→World→Prop
 |0,v,_=>v=.int .i64 ((k:Int)+1)
 |1,v,_=>v=.bool true
 |2,v,_=>v=.bool true
 |3,v,_=>v=.slice (some ad) (k+1) vc
 |4,v,_=>v=.int .i64 ((k:Int)+1)
 |5,v,_=>v=.int .i64 (k:Int)
 |6,v,_=>v=.pointer (some (ad.add (k*3)))
 |7,v,_=>v=.pointer (some ⟨(ad.add (k*3)).block,(ad.add (k*3)).off+1,none⟩)
 |8,v,_=>v=.int .i64 qo
 |9,v,_=>v=.pointer (some ⟨Bx,1,none⟩)
 |10,v,_=>v=.int .i64 po
 |11,v,_=>v=.bool true
 |12,v,_=>v=.bool true
 |13,v,_=>v=.bool true
 |14,v,_=>v=.slice (some ad) (k+1) vc
 |15,v,_=>v=.int .i64 ((k:Int)+1)
 |16,v,_=>v=.int .i64 (k:Int)
 |17,v,_=>v=.pointer (some (ad.add (k*3)))
 |18,v,_=>v=.pointer (some ⟨(ad.add (k*3)).block,(ad.add (k*3)).off+2,none⟩)
 |19,v,_=>v=.bool qd
 |20,v,_=>v=.pointer (some ⟨Bx,2,none⟩)
 |21,v,_=>v=.bool pd
 |22,v,_=>v=.bool true
 |23,v,_=>v=.bool true
 |_,_,_=>True
theorem Q_mono {Bx:Nat}{k:Nat}{vc:Nat}{ad:Addr}{qo:Int}{po:Int}{qd:Bool}{pd:Bool}:∀i v W W',Q Bx k vc ad qo po qd pd i v W→Below W.heap.size W W'→Q Bx k vc ad qo po qd pd i v W':=by
 intro _ v W W' h hb;unfold Q at h ⊢;split at h
 all_goals first|exact h
theorem sl_inj : ∀j,j<24→∀k,k<24→sl j=sl k→j=k:=by decide +kernel
theorem sl_no : ∀j,j∈[3,4,5]→∀k,k<24→sl k≠j:=by decide +kernel
end DrD
theorem lnDraw_any (gd:Nat)(s:Src.S)(rv zv lv:Value)(evs:List Value)(kz:Nat)(eA:Option Addr)(m ec:Nat)(fr te:Int)(ends:List Int)(w:World)(x:Src.Txt × List Er.E)
  (hD:Ln.Dr s rv zv lv evs (kz:Int) eA m ec fr te gd w) (hx:s.zones[kz]?=some x) (hxl:x.2.length=m+1) (hm:m≤1000)
  (hends:ends.length=m) (hmc:m≤ec) (hec:ec≤maxLen) (h0c:eA=none→ec=0) (hRe:Reads w w.heap.size 1 eA m (Ln.i64s ends)) (hE:∀e∈x.2,IsTime e.std∧IsTime e.sv)
  (hd1:Ln.InDays fr) (hd2:Ln.InDays (te - 1)) (hy1:2≤Ln.yr fr) (hy2:Ln.yr (te - 1)≤9998) (hN:(Ln.pieces s.rules x.2 ends fr te (m+1)).length≤900000000):
  Calls Tryz.prog 65 #[.pointer (some ⟨gd,0,none⟩)] w fun e w'=>(∃v,e=.returned v∧w'.ownsRow w.heap.size 164 3 v (Ln.line s.rules x.2 ends fr te).length (Ln.fl (Ln.line s.rules x.2 ends fr te)))∧Below w.heap.size w w':=by
 have hline:Ln.line s.rules x.2 ends fr te=(Ln.pieces s.rules x.2 ends fr te (m+1)).foldl Ln.push []:=by unfold Ln.line;rw[hxl]
 obtain⟨ps,hps⟩:=aj (Ln.pieces s.rules x.2 ends fr te (m+1))
 rw[hline,hps];obtain⟨h,hh⟩:=aj (w.heap.size)
 obtain⟨W1,hW1⟩:=aj (w.alloc (.cells #[.slice none 0 0] 61))
 have hb1:Below w.heap.size w W1:=by rw[← hW1];exact al
 have hs1:W1.heap.size=h+1:=by rw[← hW1,World.size_alloc,hh]
 have hI1:Ln.DI h [] w W1:=⟨hb1,.slice none 0 0,by rw[← hW1,← hh];exact Ln.Bk.new _ _ _,World.ownsRow_nil _ _ _ _⟩
 obtain⟨W2,hW2⟩:=aj (W1.alloc (.cells #[.pointer (some ⟨gd,0,none⟩)] 221))
 have hb2:Below W1.heap.size W1 W2:=by rw[← hW2];exact al
 have hB2:Ln.Bk W2 (h+1) #[.pointer (some ⟨gd,0,none⟩)] 221:=by rw[← hW2,← hs1];exact Ln.Bk.new _ _ _
 have hs2:W2.heap.size=h+2:=by rw[← hW2,World.size_alloc,hs1]
 have hI2:=hI1.call hb2;have hbw2:=below_then hb1 hb2;have hseq:=fun(J:List Ln.Sp→World→Prop) (W:World) (hJ:OwnFrom W.heap.size J) (hs:W2.heap.size+2≤W.heap.size) (hb:Below W2.heap.size W2 W) hY (h0:J [] W)=>pieces1_in (W2.heap.size+1) (h+1) gd (W2.heap.size+2) 900000000 s rv zv lv evs kz eA m ec fr te ends w x J hD hx hxl hm hends hmc hec h0c hRe hE hd1 hd2 hy1 hy2 hN hY W hJ hs (hbw2.trans (hb.mono hbw2.size)) (hB2.call hb) h0
 rw[hps] at hseq hN;have HSq:=ak hseq;have HPl:=ak hN;have HI2:=ak hI2;have HW1:=ak hW1;have HW2:=ak hW2;have HH:=ak hh;have HS2:=ak hs2;have HS1:=ak hs1;clear hD hx hxl hends h0c hRe hE hd1 hd2 hy1 hy2 hN hline hps hh hW1 hW2 hb1 hs1 hI1 hb2 hB2 hs2 hI2 hbw2 hseq hm hmc hec;refine(callsIn_wide (n:=6)).1 ?_;refine callsIn_of_wp_marks Tryz.func65 rfl trivial ?_ rfl;simp only[Tryz.ntmps65,List.size_toArray,List.length_cons,List.length_nil,Nat.reduceAdd,Nat.reduceSub,Array.replicate_succ,Array.replicate_zero,List.push_toArray,List.append_toArray,List.nil_append,List.cons_append]
 gi_wp2_with fail
 rw[HW1.out,HH.out];refine⟨trivial,(callsIn_wide.2 (pieces_any gd W1)).mono ?_⟩;rintro e Wx ⟨rfl,hWx⟩;obtain rfl:W2=Wx:=HW2.out.symm.trans hWx;rw[HS1.out];clear hWx
 gi_wp2_with fail
 refine Ln.range_all (gf:=149) (lb:=#[.pointer (some ⟨h+1,0,none⟩)]) rfl (enters_of Tryz.func149 (by kernel_rfl) rfl)
  (encs:=fun p:Ln.Sp=>#[p.v]) (Ln.Kp w.heap.size) ps 900000000 HSq.out (fun h k=>h.trans k) (fun X o o' h1 h2 h3=>Ln.Kp.put (w:=W2) (by rw[HS2.out,HH.out];omega) X _ o o' (by omega) h1 h2 h3) (fun _=>rfl)
  (fun pre X=>Ln.DI h (pre.foldl Ln.push []) w X) (fun pre X X' row hs hg hr=>hs.grown hg hr (by rw[HS2.out,HH.out];omega)) HI2.out
  (fun p a' X=>∃Bx,Ln.Bk X Bx #[.int .i64 p.fr,.int .i64 p.off,.bool p.dst] 164∧a'.tmps.size=66∧a'.defers=[]∧a'.tmps.getD 3 undef=.pointer (some ⟨h,0,none⟩)∧a'.tmps.getD 4 undef=.pointer (some ⟨Bx,0,none⟩))
  (fun p a' _ X X' row hs hg hr=>by obtain⟨Bx,h1,h2⟩:=hs;exact⟨Bx,h1.grown hg (fun r e=>(hr r e).2),h2⟩)
  ?assign ?body ?done
 case assign=>
  rintro l' pre p X K i1 hK;have hal:Below X.heap.size X (X.alloc (.cells #[.int .i64 p.fr,.int .i64 p.off,.bool p.dst] 164)):=al;unfold Ln.Sp.v
  gi_wp2
  exact hK _ _ (Ln.keeps_below hal) (Ln.Kp.of_below hal i1.below.size) (i1.call hal) ⟨X.heap.size,Ln.Bk.new _ _ _,rfl,rfl,rfl,rfl⟩
 case body=>
  rintro l' pre p a' X i1 ⟨Bx,hBx,hsz,hdf,s3,s4⟩ hlen;have hmx:Tryz.prog.follows .mixedOrders=true:=by kernel_rfl
  have ef:=Ln.frame_all 66 a' hsz;obtain⟨v,hu⟩:∃v:Nat→Value,(fun i=>a'.tmps.getD i undef)=v:=⟨_,rfl⟩
  rw[hu,hdf] at ef;have e3:v 3=_:=(congrFun hu 3).symm.trans s3;have e4:v 4=_:=(congrFun hu 4).symm.trans s4;have ef2:a'={ tmps:=(v 0 :: v 1 :: v 2 :: v 3 :: v 4 :: v 5 :: v 6 :: v 7 :: v 8 :: v 9 :: v 10 :: v 11 :: v 12 :: v 13 :: v 14 :: v 15 :: v 16 :: v 17 :: v 18 :: v 19 :: v 20 :: v 21 :: v 22 :: v 23 :: v 24 :: v 25 :: v 26 :: v 27 :: v 28 :: v 29 :: v 30 :: v 31 :: v 32 :: v 33 :: v 34 :: v 35 :: v 36 :: v 37 :: v 38 :: v 39 :: v 40 :: v 41 :: v 42 :: v 43 :: v 44 :: v 45 :: v 46 :: v 47 :: v 48 :: v 49 :: v 50 :: v 51 :: v 52 :: v 53 :: v 54 :: v 55 :: v 56 :: v 57 :: v 58 :: v 59 :: v 60 :: v 61 :: v 62 :: v 63 :: v 64 :: v 65 :: []:List Value).toArray,defers:=[] }:=ef;rw[e3,e4] at ef2;rw[ef2];have hfl:(pre ++ [p]).foldl Ln.push []=Ln.push (pre.foldl Ln.push []) p:=by rw[List.foldl_append];rfl
  have hAl:(pre.foldl Ln.push []).length≤900000000:=by
   have:=Ln.fold_len pre [];simp only[List.length_nil] at this;omega
  obtain⟨A,hA⟩:=aj (pre.foldl Ln.push [])
  rw[hA] at i1 hAl hfl;obtain⟨bv,hbk,hrow⟩:=i1.row;obtain⟨vA,vc,rfl,hv1,hv2⟩:=own_slice_cap hrow;unfold maxLen at hv2;have c0:=hbk.at_.cell 0 _ rfl;have f0:=hbk.at_.free 0 _ rfl;have zh:=hbk.lt;have d0:=hBx.at_.cell 0 _ rfl;have d1:=hBx.at_.cell 1 _ rfl;have d2:=hBx.at_.cell 2 _ rfl;have zx:=hBx.lt;have HRow:=ak hrow;have HBk:=ak hbk;have HBl:=ak i1.below;have HFl:=ak hfl;clear ef hu e3 e4 ef2 s3 s4 hsz hdf hfl hA i1 hbk hrow hBx;cases A with
  |nil=>
   simp only[List.length_nil] at c0 HRow
   gi_wp2_with fail
   refine Od.wpIn_region_inv 66 (by kernel_rfl) (by rfl) (by rfl) (Od.ord_of (by kernel_rfl)) (Od.dst_of (by kernel_rfl)) (Rg.J 24 DrA.sl (DrA.Q ) X (Od.slots _)) (Rg.J.start _ _ _ ((Below.refl _ _).drew)) ?stepR ?finR
   case stepR=>
    intro i o hi b' a' wv hJ hb hdep hdf K hK;obtain⟨tm,df⟩:=a';simp only at hdf;subst hdf;have hiN:i<24:=(Array.getElem?_eq_some_iff.1 hi).1;have hsplit:i=0∨i=1∨i=2∨i=3∨i=4∨i=5∨i=6∨i=7∨i=8∨i=9∨i=10∨i=11∨i=12∨i=13∨i=14∨i=15∨i=16∨i=17∨i=18∨i=19∨i=20∨i=21∨i=22∨i=23:=(by omega);rcases hsplit with rfl|rfl|rfl|rfl|rfl|rfl|rfl|rfl|rfl|rfl|rfl|rfl|rfl|rfl|rfl|rfl|rfl|rfl|rfl|rfl|rfl|rfl|rfl|rfl
    all_goals obtain rfl:=sji (show some _=some o from hi)
    all_goals first|rw[if_pos (show Region.wanted _ _=true from rfl)]|skip
    all_goals (have h5:tm.getD 5 undef=.int .i64 0:=(hJ.old 5 (DrA.sl_no 5 (by decide))).trans rfl;have h5':=gdq h5)
    all_goals try have v0:tm.getD 13 undef=.int .i64 0:=by(refine hJ.val 0 (by decide) (hdep ⟨0,.data⟩ ?_ rfl);simp <;> fail)
    all_goals try have v0':=gdq v0
    all_goals try have v1:tm.getD 14 undef=.bool false:=by(refine hJ.val 1 (by decide) (hdep ⟨1,.data⟩ ?_ rfl);simp <;> fail)
    all_goals try have v1':=gdq v1
    all_goals try have v2:tm.getD 15 undef=.bool false:=by(refine hJ.val 2 (by decide) (hdep ⟨2,.data⟩ ?_ rfl);simp <;> fail)
    all_goals try have v2':=gdq v2
    all_goals try have v11:tm.getD 24 undef=undef:=by(refine hJ.val 11 (by decide) (hdep ⟨11,.data⟩ ?_ rfl);simp <;> fail)
    all_goals try have v11':=gdq v11
    all_goals try have v12:tm.getD 25 undef=.bool false:=by(refine hJ.val 12 (by decide) (hdep ⟨12,.data⟩ ?_ rfl);simp <;> fail)
    all_goals try have v12':=gdq v12
    all_goals try have v13:tm.getD 26 undef=.bool false:=by(refine hJ.val 13 (by decide) (hdep ⟨13,.data⟩ ?_ rfl);simp <;> fail)
    all_goals try have v13':=gdq v13
    all_goals try have v22:tm.getD 35 undef=undef:=by(refine hJ.val 22 (by decide) (hdep ⟨22,.data⟩ ?_ rfl);simp <;> fail)
    all_goals try have v22':=gdq v22
    all_goals first|(go_simp;exact hK _ _ (hJ.put DrA.Q_mono DrA.sl_inj (by decide) rfl))|skip
    ·have hg:tm.getD 15 undef=.bool false:=hJ.val 2 (by decide) (hdep ⟨2,.guard⟩ (by simp) rfl);rw[if_neg (by rw[Rg.notwant rfl rfl hg rfl];decide)];refine⟨fun _ _=>trivial,?_⟩;exact hK _ _ (hJ.put DrA.Q_mono DrA.sl_inj (by decide) rfl)
    ·have hg:tm.getD 15 undef=.bool false:=hJ.val 2 (by decide) (hdep ⟨2,.guard⟩ (by simp) rfl);rw[if_neg (by rw[Rg.notwant rfl rfl hg rfl];decide)];refine⟨fun _ _=>trivial,?_⟩;exact hK _ _ (hJ.put DrA.Q_mono DrA.sl_inj (by decide) rfl)
    ·have hg:tm.getD 15 undef=.bool false:=hJ.val 2 (by decide) (hdep ⟨2,.guard⟩ (by simp) rfl);rw[if_neg (by rw[Rg.notwant rfl rfl hg rfl];decide)];refine⟨fun _ _=>trivial,?_⟩;exact hK _ _ (hJ.put DrA.Q_mono DrA.sl_inj (by decide) rfl)
    ·have hg:tm.getD 15 undef=.bool false:=hJ.val 2 (by decide) (hdep ⟨2,.guard⟩ (by simp) rfl);rw[if_neg (by rw[Rg.notwant rfl rfl hg rfl];decide)];refine⟨fun _ _=>trivial,?_⟩;exact hK _ _ (hJ.put DrA.Q_mono DrA.sl_inj (by decide) rfl)
    ·have hg:tm.getD 15 undef=.bool false:=hJ.val 2 (by decide) (hdep ⟨2,.guard⟩ (by simp) rfl);rw[if_neg (by rw[Rg.notwant rfl rfl hg rfl];decide)];refine⟨fun _ _=>trivial,?_⟩;exact hK _ _ (hJ.put DrA.Q_mono DrA.sl_inj (by decide) rfl)
    ·have hg:tm.getD 15 undef=.bool false:=hJ.val 2 (by decide) (hdep ⟨2,.guard⟩ (by simp) rfl);rw[if_neg (by rw[Rg.notwant rfl rfl hg rfl];decide)];refine⟨fun _ _=>trivial,?_⟩;exact hK _ _ (hJ.put DrA.Q_mono DrA.sl_inj (by decide) rfl)
    ·have hg:tm.getD 15 undef=.bool false:=hJ.val 2 (by decide) (hdep ⟨2,.guard⟩ (by simp) rfl);rw[if_neg (by rw[Rg.notwant rfl rfl hg rfl];decide)];refine⟨fun _ _=>trivial,?_⟩;exact hK _ _ (hJ.put DrA.Q_mono DrA.sl_inj (by decide) rfl)
    ·have hg:tm.getD 15 undef=.bool false:=hJ.val 2 (by decide) (hdep ⟨2,.guard⟩ (by simp) rfl);rw[if_neg (by rw[Rg.notwant rfl rfl hg rfl];decide)];refine⟨fun _ _=>trivial,?_⟩;exact hK _ _ (hJ.put DrA.Q_mono DrA.sl_inj (by decide) rfl)
    ·have hg:tm.getD 15 undef=.bool false:=hJ.val 2 (by decide) (hdep ⟨2,.guard⟩ (by simp) rfl);rw[if_neg (by rw[Rg.notwant rfl rfl hg rfl];decide)];refine⟨fun _ _=>trivial,?_⟩;exact hK _ _ (hJ.put DrA.Q_mono DrA.sl_inj (by decide) rfl)
    ·have hg:tm.getD 26 undef=.bool false:=hJ.val 13 (by decide) (hdep ⟨13,.guard⟩ (by simp) rfl);rw[if_neg (by rw[Rg.notwant rfl rfl hg rfl];decide)];refine⟨fun _ _=>trivial,?_⟩;exact hK _ _ (hJ.put DrA.Q_mono DrA.sl_inj (by decide) rfl)
    ·have hg:tm.getD 26 undef=.bool false:=hJ.val 13 (by decide) (hdep ⟨13,.guard⟩ (by simp) rfl);rw[if_neg (by rw[Rg.notwant rfl rfl hg rfl];decide)];refine⟨fun _ _=>trivial,?_⟩;exact hK _ _ (hJ.put DrA.Q_mono DrA.sl_inj (by decide) rfl)
    ·have hg:tm.getD 26 undef=.bool false:=hJ.val 13 (by decide) (hdep ⟨13,.guard⟩ (by simp) rfl);rw[if_neg (by rw[Rg.notwant rfl rfl hg rfl];decide)];refine⟨fun _ _=>trivial,?_⟩;exact hK _ _ (hJ.put DrA.Q_mono DrA.sl_inj (by decide) rfl)
    ·have hg:tm.getD 26 undef=.bool false:=hJ.val 13 (by decide) (hdep ⟨13,.guard⟩ (by simp) rfl);rw[if_neg (by rw[Rg.notwant rfl rfl hg rfl];decide)];refine⟨fun _ _=>trivial,?_⟩;exact hK _ _ (hJ.put DrA.Q_mono DrA.sl_inj (by decide) rfl)
    ·have hg:tm.getD 26 undef=.bool false:=hJ.val 13 (by decide) (hdep ⟨13,.guard⟩ (by simp) rfl);rw[if_neg (by rw[Rg.notwant rfl rfl hg rfl];decide)];refine⟨fun _ _=>trivial,?_⟩;exact hK _ _ (hJ.put DrA.Q_mono DrA.sl_inj (by decide) rfl)
    ·have hg:tm.getD 26 undef=.bool false:=hJ.val 13 (by decide) (hdep ⟨13,.guard⟩ (by simp) rfl);rw[if_neg (by rw[Rg.notwant rfl rfl hg rfl];decide)];refine⟨fun _ _=>trivial,?_⟩;exact hK _ _ (hJ.put DrA.Q_mono DrA.sl_inj (by decide) rfl)
    ·have hg:tm.getD 26 undef=.bool false:=hJ.val 13 (by decide) (hdep ⟨13,.guard⟩ (by simp) rfl);rw[if_neg (by rw[Rg.notwant rfl rfl hg rfl];decide)];refine⟨fun _ _=>trivial,?_⟩;exact hK _ _ (hJ.put DrA.Q_mono DrA.sl_inj (by decide) rfl)
    ·have hg:tm.getD 26 undef=.bool false:=hJ.val 13 (by decide) (hdep ⟨13,.guard⟩ (by simp) rfl);rw[if_neg (by rw[Rg.notwant rfl rfl hg rfl];decide)];refine⟨fun _ _=>trivial,?_⟩;exact hK _ _ (hJ.put DrA.Q_mono DrA.sl_inj (by decide) rfl)
    ·have hg:tm.getD 26 undef=.bool false:=hJ.val 13 (by decide) (hdep ⟨13,.guard⟩ (by simp) rfl);rw[if_neg (by rw[Rg.notwant rfl rfl hg rfl];decide)];refine⟨fun _ _=>trivial,?_⟩;exact hK _ _ (hJ.put DrA.Q_mono DrA.sl_inj (by decide) rfl)
   case finR=>
    intro a' X5 hJ hN hdf;have s3:a'.tmps.getD 3 undef=.pointer (some ⟨h,0,none⟩):=(hJ.old 3 (DrA.sl_no 3 (by decide))).trans rfl;have s4:a'.tmps.getD 4 undef=.pointer (some ⟨Bx,0,none⟩):=(hJ.old 4 (DrA.sl_no 4 (by decide))).trans rfl;have s5:a'.tmps.getD 5 undef=.int .i64 0:=(hJ.old 5 (DrA.sl_no 5 (by decide))).trans rfl;have s36:a'.tmps.getD 36 undef=.bool false:=hJ.val 23 (by decide) (by rfl);have hb9:=hJ.below;have ef:a'={ tmps:=((List.range 66).map fun i=>a'.tmps.getD i undef).toArray,defers:=[] }:=Rg.frame_of 66 a' hN hdf;obtain⟨u,hu⟩:∃u:Nat→Value,(fun i=>a'.tmps.getD i undef)=u:=⟨_,rfl⟩
    rw[hu] at ef;have e3:u 3=.pointer (some ⟨h,0,none⟩):=by rw[← hu];exact s3
    have e4:u 4=.pointer (some ⟨Bx,0,none⟩):=by rw[← hu];exact s4
    have e5:u 5=.int .i64 0:=by rw[← hu];exact s5
    have e36:u 36=.bool false:=by rw[← hu];exact s36
    have ef2:a'={ tmps:=(u 0 :: u 1 :: u 2 :: u 3 :: u 4 :: u 5 :: u 6 :: u 7 :: u 8 :: u 9 :: u 10 :: u 11 :: u 12 :: u 13 :: u 14 :: u 15 :: u 16 :: u 17 :: u 18 :: u 19 :: u 20 :: u 21 :: u 22 :: u 23 :: u 24 :: u 25 :: u 26 :: u 27 :: u 28 :: u 29 :: u 30 :: u 31 :: u 32 :: u 33 :: u 34 :: u 35 :: u 36 :: u 37 :: u 38 :: u 39 :: u 40 :: u 41 :: u 42 :: u 43 :: u 44 :: u 45 :: u 46 :: u 47 :: u 48 :: u 49 :: u 50 :: u 51 :: u 52 :: u 53 :: u 54 :: u 55 :: u 56 :: u 57 :: u 58 :: u 59 :: u 60 :: u 61 :: u 62 :: u 63 :: u 64 :: u 65 :: []:List Value).toArray,defers:=[] }:=ef;rw[e3,e4,e5,e36] at ef2;rw[ef2];clear hJ hN hdf ef ef2 hu e3 s3 e4 s4 e5 s5 e36 s36;have HB5:=ak hb9;have c5:=(hb9.cell (p:=⟨h,0,none⟩) zh).trans c0;have e0':=(hb9.cell (p:=⟨Bx,0,none⟩) zx).trans d0;have e1':=(hb9.cell (p:=⟨Bx,1,none⟩) zx).trans d1;have e2':=(hb9.cell (p:=⟨Bx,2,none⟩) zx).trans d2;have zh5:=Nat.lt_of_lt_of_le zh hb9.size;have zx5:=Nat.lt_of_lt_of_le zx hb9.size;clear hb9 c0 d0 d1 d2 f0 zh zx;obtain⟨i0,hi0,hz0,hz1,hz2⟩:=info_parts span_info;have hAp:=fun {F:Fence} {nF:Nat} {ops:Array Oper} {rest:List Oper} {o:Oper} {a:Act} {Q:Exit→Act→World→Prop} hgd ho hs hx hk=>wpListIn_append_own (F:=F) (n:=nF) (P:=Tryz.prog) (ops:=ops) (rest:=rest) (o:=o) (a:=a) (Q:=Q) (X5.alloc (.cells #[.int .i64 p.fr,.int .i64 p.off,.bool p.dst] 164)) hgd (.tmp 44) (.tmp 46) 61 ho (h+1) 164 i0 _ 3 24 Tryz.underlying61 hi0 hz0 hz1 hz2 rfl (by decide) _ 0 _ hs ((own_below HRow.out HB5.out).alloc _) ⟨X5.heap.size,0,none⟩ 1 1 p.cells hx rfl (fun j u hj=>by
     rw[add_zero_off];exact(At.new X5 #[.int .i64 p.fr,.int .i64 p.off,.bool p.dst] 164).cell j u hj) (Ln.cells_one p) (by unfold maxLen;omega) (by omega) (by rw[World.size_alloc];have:=HB5.out.size;have:=HBk.out.lt;omega) hk
    gi_wp2_with (gi_at_builtin;refine hAp rfl rfl rfl rfl ?_;intro v9 w9 hown9 hg9 _;obtain⟨vB,vd,rfl,_⟩:=own_slice hown9;obtain⟨hst,hc9,hf9,hz9⟩:=Ln.app_step (B:=W2.heap.size) HB5.out HBl.out (by rw[HH.out];exact Nat.le_refl _) HBk.out HRow.out hown9 hg9 (A':=[p]) (by unfold Ln.fl;simp) rfl;have HSt:=ak hst;clear hst hown9 hg9)
    obtain⟨k1,k2,k3⟩:=HSt.out;exact⟨k1,k2,by show Ln.DI h ((pre ++ [p]).foldl Ln.push []) w _;rw[HFl.out];exact k3⟩
  |cons q A=>
   obtain⟨k,hk⟩:=aj (A.length)
   simp only[List.length_cons,hk] at c0 HRow HBk hAl hv1;have hrev:(q :: A).reverse=A.reverse ++ [q]:=List.reverse_cons;have hgform:∃g,vA=some ⟨g,0,none⟩:=by
    obtain⟨g,cap,hv,_,_⟩:=HRow.out.form (by omega)
    injection hv with e1
    exact⟨g,e1⟩
   obtain⟨g,rfl⟩:=hgform;have hRd:=Reads.of_own HRow.out;obtain⟨ad,y,had,hab,Hy,HLy⟩:=Ix.reads_cells (xs:=(q :: A).reverse) (enc:=Ln.Sp.cells) (m:=3) (fun _=>rfl) (by simp[hk]) hRd (show k<k+1 by omega);have hyq:y=q:=by
    have:=Hy.out;rw[hrev,List.getElem?_append_right (by simp[hk]),List.length_reverse,hk,Nat.sub_self] at this;exact(Option.some.inj this).symm
   subst hyq;have HAd:Hid (ad=⟨g,0,none⟩):=(Option.some.inj had).symm;rw[had] at c0;have HCk:=ak hk;have hfz:X.frozen? (ad.add (k*3))=false:=by
    rcases HRow.out.2 with ⟨e,_⟩|⟨g',cap',cur,e,_,hx,_⟩
    ·cases e
    ·injection e with e1
     injection e1 with e1
     injection e1 with e1
     subst e1;rw[HAd.out,add_zero_off];simp[World.frozen?,hx]
   have r0:X.cell? (ad.add (k*3))=some (.int .i64 y.fr):=HLy.out 0 _ rfl;have r1:X.cell? ⟨(ad.add (k*3)).block,(ad.add (k*3)).off+1,none⟩=some (.int .i64 y.off):=HLy.out 1 _ rfl;have r2:X.cell? ⟨(ad.add (k*3)).block,(ad.add (k*3)).off+2,none⟩=some (.bool y.dst):=HLy.out 2 _ rfl;have zr:(ad.add (k*3)).block<X.heap.size:=by rw[block_of_add];exact hab
   clear hRd had Hy HLy hk hrev
   by_cases ho:y.off=p.off
   ·have HB1:Hid ((y.off == p.off)=true):=by show _=true;rw[beq_iff_eq];exact ho
    by_cases hdq:y.dst=p.dst
    ·have HB2:Hid ((y.dst == p.dst)=true):=by show _=true;rw[beq_iff_eq];exact hdq
     have hpush:Ln.push (y :: A) p=⟨p.fr,y.off,y.dst⟩ :: A:=by
      show (if Ln.alike y p=true then _ else _)=_
      rw[if_pos (Ln.alike_iff.2 ⟨ho,hdq⟩)]
     have HFl:=ak (HFl.out.trans hpush);clear hpush ho hdq
     gi_wp2_with fail
     refine Od.wpIn_region_inv 66 (by kernel_rfl) (by rfl) (by rfl) (Od.ord_of (by kernel_rfl)) (Od.dst_of (by kernel_rfl)) (Rg.J 24 DrD.sl (DrD.Q Bx k vc ad y.off p.off y.dst p.dst) X (Od.slots _)) (Rg.J.start _ _ _ ((Below.refl _ _).drew)) ?stepR ?finR
     case stepR=>
      intro i o hi b' a' wv hJ hb hdep hdf K hK;obtain⟨tm,df⟩:=a';simp only at hdf;subst hdf;have hiN:i<24:=(Array.getElem?_eq_some_iff.1 hi).1;have hsplit:i=0∨i=1∨i=2∨i=3∨i=4∨i=5∨i=6∨i=7∨i=8∨i=9∨i=10∨i=11∨i=12∨i=13∨i=14∨i=15∨i=16∨i=17∨i=18∨i=19∨i=20∨i=21∨i=22∨i=23:=(by omega);rcases hsplit with rfl|rfl|rfl|rfl|rfl|rfl|rfl|rfl|rfl|rfl|rfl|rfl|rfl|rfl|rfl|rfl|rfl|rfl|rfl|rfl|rfl|rfl|rfl|rfl
      all_goals obtain rfl:=sji (show some _=some o from hi)
      all_goals first|rw[if_pos (show Region.wanted _ _=true from rfl)]|(have hg:tm.getD 15 undef=.bool true:=by(refine hJ.val 2 (by decide) (hdep ⟨2,.guard⟩ ?_ rfl);simp <;> fail))|(have hg:tm.getD 26 undef=.bool true:=by(refine hJ.val 13 (by decide) (hdep ⟨13,.guard⟩ ?_ rfl);simp <;> fail))|skip
      all_goals try rw[if_pos (Rg.want rfl rfl hg)]
      all_goals (have h5:tm.getD 5 undef=.int .i64 ((k:Int)+1):=(hJ.old 5 (DrD.sl_no 5 (by decide))).trans rfl;have h5':=gdq h5)
      all_goals try have v0:tm.getD 13 undef=.int .i64 ((k:Int)+1):=by(refine hJ.val 0 (by decide) (hdep ⟨0,.data⟩ ?_ rfl);simp <;> fail)
      all_goals try have v0':=gdq v0
      all_goals have q1:(0:Int)<(k:Int)+1:=by omega
      all_goals try have v1:tm.getD 14 undef=.bool true:=by(refine hJ.val 1 (by decide) (hdep ⟨1,.data⟩ ?_ rfl);simp <;> fail)
      all_goals try have v1':=gdq v1
      all_goals (have h3:tm.getD 3 undef=.pointer (some ⟨h,0,none⟩):=(hJ.old 3 (DrD.sl_no 3 (by decide))).trans rfl;have h3':=gdq h3)
      all_goals have c0':=(hJ.below.cell (p:=⟨h,0,none⟩) zh).trans c0
      all_goals have zh':=Nat.lt_of_lt_of_le zh hJ.below.size
      all_goals try have v4:tm.getD 17 undef=.int .i64 ((k:Int)+1):=by(refine hJ.val 4 (by decide) (hdep ⟨4,.data⟩ ?_ rfl);simp <;> fail)
      all_goals try have v4':=gdq v4
      all_goals have wa:IntKind.i64.wrap ((k:Int)+1 - 1)=(k:Int):=by rw[IntKind.wrap_i64];omega
      all_goals have wb:IntKind.i64.wrap (k:Int)=(k:Int):=by rw[IntKind.wrap_i64];omega
      all_goals try have v3:tm.getD 16 undef=.slice (some ad) (k+1) vc:=by(refine hJ.val 3 (by decide) (hdep ⟨3,.data⟩ ?_ rfl);simp <;> fail)
      all_goals try have v3':=gdq v3
      all_goals try have v5:tm.getD 18 undef=.int .i64 (k:Int):=by(refine hJ.val 5 (by decide) (hdep ⟨5,.data⟩ ?_ rfl);simp <;> fail)
      all_goals try have v5':=gdq v5
      all_goals have q2:=am k
      all_goals have q3:(k:Int)<(k:Int)+1:=by omega
      all_goals try have v6:tm.getD 19 undef=.pointer (some (ad.add (k*3))):=by(refine hJ.val 6 (by decide) (hdep ⟨6,.data⟩ ?_ rfl);simp <;> fail)
      all_goals try have v6':=gdq v6
      all_goals try have v7:tm.getD 20 undef=.pointer (some ⟨(ad.add (k*3)).block,(ad.add (k*3)).off+1,none⟩):=by(refine hJ.val 7 (by decide) (hdep ⟨7,.data⟩ ?_ rfl);simp <;> fail)
      all_goals try have v7':=gdq v7
      all_goals have r1':=(hJ.below.cell (p:=⟨(ad.add (k*3)).block,(ad.add (k*3)).off+1,none⟩) zr).trans r1
      all_goals have zr':=Nat.lt_of_lt_of_le zr hJ.below.size
      all_goals (have h4:tm.getD 4 undef=.pointer (some ⟨Bx,0,none⟩):=(hJ.old 4 (DrD.sl_no 4 (by decide))).trans rfl;have h4':=gdq h4)
      all_goals try have v9:tm.getD 22 undef=.pointer (some ⟨Bx,1,none⟩):=by(refine hJ.val 9 (by decide) (hdep ⟨9,.data⟩ ?_ rfl);simp <;> fail)
      all_goals try have v9':=gdq v9
      all_goals have d1':=(hJ.below.cell (p:=⟨Bx,1,none⟩) zx).trans d1
      all_goals have zx':=Nat.lt_of_lt_of_le zx hJ.below.size
      all_goals try have v8:tm.getD 21 undef=.int .i64 y.off:=by(refine hJ.val 8 (by decide) (hdep ⟨8,.data⟩ ?_ rfl);simp <;> fail)
      all_goals try have v8':=gdq v8
      all_goals try have v10:tm.getD 23 undef=.int .i64 p.off:=by(refine hJ.val 10 (by decide) (hdep ⟨10,.data⟩ ?_ rfl);simp <;> fail)
      all_goals try have v10':=gdq v10
      all_goals have hb:=HB1.out
      all_goals try have v2:tm.getD 15 undef=.bool true:=by(refine hJ.val 2 (by decide) (hdep ⟨2,.data⟩ ?_ rfl);simp <;> fail)
      all_goals try have v2':=gdq v2
      all_goals try have v11:tm.getD 24 undef=.bool true:=by(refine hJ.val 11 (by decide) (hdep ⟨11,.data⟩ ?_ rfl);simp <;> fail)
      all_goals try have v11':=gdq v11
      all_goals try have v12:tm.getD 25 undef=.bool true:=by(refine hJ.val 12 (by decide) (hdep ⟨12,.data⟩ ?_ rfl);simp <;> fail)
      all_goals try have v12':=gdq v12
      all_goals try have v15:tm.getD 28 undef=.int .i64 ((k:Int)+1):=by(refine hJ.val 15 (by decide) (hdep ⟨15,.data⟩ ?_ rfl);simp <;> fail)
      all_goals try have v15':=gdq v15
      all_goals try have v14:tm.getD 27 undef=.slice (some ad) (k+1) vc:=by(refine hJ.val 14 (by decide) (hdep ⟨14,.data⟩ ?_ rfl);simp <;> fail)
      all_goals try have v14':=gdq v14
      all_goals try have v16:tm.getD 29 undef=.int .i64 (k:Int):=by(refine hJ.val 16 (by decide) (hdep ⟨16,.data⟩ ?_ rfl);simp <;> fail)
      all_goals try have v16':=gdq v16
      all_goals try have v17:tm.getD 30 undef=.pointer (some (ad.add (k*3))):=by(refine hJ.val 17 (by decide) (hdep ⟨17,.data⟩ ?_ rfl);simp <;> fail)
      all_goals try have v17':=gdq v17
      all_goals try have v18:tm.getD 31 undef=.pointer (some ⟨(ad.add (k*3)).block,(ad.add (k*3)).off+2,none⟩):=by(refine hJ.val 18 (by decide) (hdep ⟨18,.data⟩ ?_ rfl);simp <;> fail)
      all_goals try have v18':=gdq v18
      all_goals have r2':=(hJ.below.cell (p:=⟨(ad.add (k*3)).block,(ad.add (k*3)).off+2,none⟩) zr).trans r2
      all_goals try have v20:tm.getD 33 undef=.pointer (some ⟨Bx,2,none⟩):=by(refine hJ.val 20 (by decide) (hdep ⟨20,.data⟩ ?_ rfl);simp <;> fail)
      all_goals try have v20':=gdq v20
      all_goals have d2':=(hJ.below.cell (p:=⟨Bx,2,none⟩) zx).trans d2
      all_goals try have v19:tm.getD 32 undef=.bool y.dst:=by(refine hJ.val 19 (by decide) (hdep ⟨19,.data⟩ ?_ rfl);simp <;> fail)
      all_goals try have v19':=gdq v19
      all_goals try have v21:tm.getD 34 undef=.bool p.dst:=by(refine hJ.val 21 (by decide) (hdep ⟨21,.data⟩ ?_ rfl);simp <;> fail)
      all_goals try have v21':=gdq v21
      all_goals have hb:=HB2.out
      all_goals try have v13:tm.getD 26 undef=.bool true:=by(refine hJ.val 13 (by decide) (hdep ⟨13,.data⟩ ?_ rfl);simp <;> fail)
      all_goals try have v13':=gdq v13
      all_goals try have v22:tm.getD 35 undef=.bool true:=by(refine hJ.val 22 (by decide) (hdep ⟨22,.data⟩ ?_ rfl);simp <;> fail)
      all_goals try have v22':=gdq v22
      all_goals first|(go_simp;exact hK _ _ (hJ.put DrD.Q_mono DrD.sl_inj (by decide) rfl))|skip
     case finR=>
      intro a' X5 hJ hN hdf;have s3:a'.tmps.getD 3 undef=.pointer (some ⟨h,0,none⟩):=(hJ.old 3 (DrD.sl_no 3 (by decide))).trans rfl;have s4:a'.tmps.getD 4 undef=.pointer (some ⟨Bx,0,none⟩):=(hJ.old 4 (DrD.sl_no 4 (by decide))).trans rfl;have s5:a'.tmps.getD 5 undef=.int .i64 ((k:Int)+1):=(hJ.old 5 (DrD.sl_no 5 (by decide))).trans rfl;have s36:a'.tmps.getD 36 undef=.bool true:=hJ.val 23 (by decide) (by rfl);have hb9:=hJ.below;have ef:a'={ tmps:=((List.range 66).map fun i=>a'.tmps.getD i undef).toArray,defers:=[] }:=Rg.frame_of 66 a' hN hdf;obtain⟨u,hu⟩:∃u:Nat→Value,(fun i=>a'.tmps.getD i undef)=u:=⟨_,rfl⟩
      rw[hu] at ef;have e3:u 3=.pointer (some ⟨h,0,none⟩):=by rw[← hu];exact s3
      have e4:u 4=.pointer (some ⟨Bx,0,none⟩):=by rw[← hu];exact s4
      have e5:u 5=.int .i64 ((k:Int)+1):=by rw[← hu];exact s5
      have e36:u 36=.bool true:=by rw[← hu];exact s36
      have ef2:a'={ tmps:=(u 0 :: u 1 :: u 2 :: u 3 :: u 4 :: u 5 :: u 6 :: u 7 :: u 8 :: u 9 :: u 10 :: u 11 :: u 12 :: u 13 :: u 14 :: u 15 :: u 16 :: u 17 :: u 18 :: u 19 :: u 20 :: u 21 :: u 22 :: u 23 :: u 24 :: u 25 :: u 26 :: u 27 :: u 28 :: u 29 :: u 30 :: u 31 :: u 32 :: u 33 :: u 34 :: u 35 :: u 36 :: u 37 :: u 38 :: u 39 :: u 40 :: u 41 :: u 42 :: u 43 :: u 44 :: u 45 :: u 46 :: u 47 :: u 48 :: u 49 :: u 50 :: u 51 :: u 52 :: u 53 :: u 54 :: u 55 :: u 56 :: u 57 :: u 58 :: u 59 :: u 60 :: u 61 :: u 62 :: u 63 :: u 64 :: u 65 :: []:List Value).toArray,defers:=[] }:=ef;rw[e3,e4,e5,e36] at ef2;rw[ef2];clear hJ hN hdf ef ef2 hu e3 s3 e4 s4 e5 s5 e36 s36;have HB5:=ak hb9;have c5:=(hb9.cell (p:=⟨h,0,none⟩) zh).trans c0;have e0':=(hb9.cell (p:=⟨Bx,0,none⟩) zx).trans d0;have r0':=(hb9.cell (p:=ad.add (k*3)) zr).trans r0;have hfz':X5.frozen? (ad.add (k*3))=false:=(World.frozen?_of_block (hb9.block _ zr)).trans hfz;have zh5:=Nat.lt_of_lt_of_le zh hb9.size;have zx5:=Nat.lt_of_lt_of_le zx hb9.size;have zr5:=Nat.lt_of_lt_of_le zr hb9.size;have q1:(0:Int)<(k:Int)+1:=(by omega);have q2:=am k
      have q3:(k:Int)<(k:Int)+1:=(by omega);have wa:IntKind.i64.wrap ((k:Int)+1 - 1)=(k:Int):=by rw[IntKind.wrap_i64];omega
      have wb:IntKind.i64.wrap (k:Int)=(k:Int):=by rw[IntKind.wrap_i64];omega
      clear hb9 c0 d0 d1 d2 f0 zh zx r0 r1 r2 zr hfz
      gi_wp2
      obtain rfl:=HCk.out;have hrow:=HRow.out;rw[List.reverse_cons] at hrow;have hst:=Ln.set_step (B:=W2.heap.size) (x:=p.fr) HB5.out HBl.out (by rw[HH.out];exact Nat.le_refl _) HBk.out hrow;rw[HAd.out,add_zero_off];obtain⟨k1,k2,k3⟩:=hst;exact⟨k1,k2,by show Ln.DI h ((pre ++ [p]).foldl Ln.push []) w _;rw[HFl.out];exact k3⟩
    ·have hpush:Ln.push (y :: A) p=p :: y :: A:=by
      show (if Ln.alike y p=true then _ else _)=_
      rw[if_neg (by rw[Ln.alike_iff];intro e;exact hdq e.2)]
     have HFl:=ak (HFl.out.trans hpush);have HB2:Hid ((y.dst == p.dst)=false):=by show _=false;rw[beq_eq_false_iff_ne];exact hdq
     clear hpush ho hdq
     gi_wp2_with fail
     refine Od.wpIn_region_inv 66 (by kernel_rfl) (by rfl) (by rfl) (Od.ord_of (by kernel_rfl)) (Od.dst_of (by kernel_rfl)) (Rg.J 24 DrC.sl (DrC.Q Bx k vc ad y.off p.off y.dst p.dst) X (Od.slots _)) (Rg.J.start _ _ _ ((Below.refl _ _).drew)) ?stepR ?finR
     case stepR=>
      intro i o hi b' a' wv hJ hb hdep hdf K hK;obtain⟨tm,df⟩:=a';simp only at hdf;subst hdf;have hiN:i<24:=(Array.getElem?_eq_some_iff.1 hi).1;have hsplit:i=0∨i=1∨i=2∨i=3∨i=4∨i=5∨i=6∨i=7∨i=8∨i=9∨i=10∨i=11∨i=12∨i=13∨i=14∨i=15∨i=16∨i=17∨i=18∨i=19∨i=20∨i=21∨i=22∨i=23:=(by omega);rcases hsplit with rfl|rfl|rfl|rfl|rfl|rfl|rfl|rfl|rfl|rfl|rfl|rfl|rfl|rfl|rfl|rfl|rfl|rfl|rfl|rfl|rfl|rfl|rfl|rfl
      all_goals obtain rfl:=sji (show some _=some o from hi)
      all_goals first|rw[if_pos (show Region.wanted _ _=true from rfl)]|(have hg:tm.getD 15 undef=.bool true:=by(refine hJ.val 2 (by decide) (hdep ⟨2,.guard⟩ ?_ rfl);simp <;> fail))|(have hg:tm.getD 26 undef=.bool true:=by(refine hJ.val 13 (by decide) (hdep ⟨13,.guard⟩ ?_ rfl);simp <;> fail))|skip
      all_goals try rw[if_pos (Rg.want rfl rfl hg)]
      all_goals (have h5:tm.getD 5 undef=.int .i64 ((k:Int)+1):=(hJ.old 5 (DrC.sl_no 5 (by decide))).trans rfl;have h5':=gdq h5)
      all_goals try have v0:tm.getD 13 undef=.int .i64 ((k:Int)+1):=by(refine hJ.val 0 (by decide) (hdep ⟨0,.data⟩ ?_ rfl);simp <;> fail)
      all_goals try have v0':=gdq v0
      all_goals have q1:(0:Int)<(k:Int)+1:=by omega
      all_goals try have v1:tm.getD 14 undef=.bool true:=by(refine hJ.val 1 (by decide) (hdep ⟨1,.data⟩ ?_ rfl);simp <;> fail)
      all_goals try have v1':=gdq v1
      all_goals (have h3:tm.getD 3 undef=.pointer (some ⟨h,0,none⟩):=(hJ.old 3 (DrC.sl_no 3 (by decide))).trans rfl;have h3':=gdq h3)
      all_goals have c0':=(hJ.below.cell (p:=⟨h,0,none⟩) zh).trans c0
      all_goals have zh':=Nat.lt_of_lt_of_le zh hJ.below.size
      all_goals try have v4:tm.getD 17 undef=.int .i64 ((k:Int)+1):=by(refine hJ.val 4 (by decide) (hdep ⟨4,.data⟩ ?_ rfl);simp <;> fail)
      all_goals try have v4':=gdq v4
      all_goals have wa:IntKind.i64.wrap ((k:Int)+1 - 1)=(k:Int):=by rw[IntKind.wrap_i64];omega
      all_goals have wb:IntKind.i64.wrap (k:Int)=(k:Int):=by rw[IntKind.wrap_i64];omega
      all_goals try have v3:tm.getD 16 undef=.slice (some ad) (k+1) vc:=by(refine hJ.val 3 (by decide) (hdep ⟨3,.data⟩ ?_ rfl);simp <;> fail)
      all_goals try have v3':=gdq v3
      all_goals try have v5:tm.getD 18 undef=.int .i64 (k:Int):=by(refine hJ.val 5 (by decide) (hdep ⟨5,.data⟩ ?_ rfl);simp <;> fail)
      all_goals try have v5':=gdq v5
      all_goals have q2:=am k
      all_goals have q3:(k:Int)<(k:Int)+1:=by omega
      all_goals try have v6:tm.getD 19 undef=.pointer (some (ad.add (k*3))):=by(refine hJ.val 6 (by decide) (hdep ⟨6,.data⟩ ?_ rfl);simp <;> fail)
      all_goals try have v6':=gdq v6
      all_goals try have v7:tm.getD 20 undef=.pointer (some ⟨(ad.add (k*3)).block,(ad.add (k*3)).off+1,none⟩):=by(refine hJ.val 7 (by decide) (hdep ⟨7,.data⟩ ?_ rfl);simp <;> fail)
      all_goals try have v7':=gdq v7
      all_goals have r1':=(hJ.below.cell (p:=⟨(ad.add (k*3)).block,(ad.add (k*3)).off+1,none⟩) zr).trans r1
      all_goals have zr':=Nat.lt_of_lt_of_le zr hJ.below.size
      all_goals (have h4:tm.getD 4 undef=.pointer (some ⟨Bx,0,none⟩):=(hJ.old 4 (DrC.sl_no 4 (by decide))).trans rfl;have h4':=gdq h4)
      all_goals try have v9:tm.getD 22 undef=.pointer (some ⟨Bx,1,none⟩):=by(refine hJ.val 9 (by decide) (hdep ⟨9,.data⟩ ?_ rfl);simp <;> fail)
      all_goals try have v9':=gdq v9
      all_goals have d1':=(hJ.below.cell (p:=⟨Bx,1,none⟩) zx).trans d1
      all_goals have zx':=Nat.lt_of_lt_of_le zx hJ.below.size
      all_goals try have v8:tm.getD 21 undef=.int .i64 y.off:=by(refine hJ.val 8 (by decide) (hdep ⟨8,.data⟩ ?_ rfl);simp <;> fail)
      all_goals try have v8':=gdq v8
      all_goals try have v10:tm.getD 23 undef=.int .i64 p.off:=by(refine hJ.val 10 (by decide) (hdep ⟨10,.data⟩ ?_ rfl);simp <;> fail)
      all_goals try have v10':=gdq v10
      all_goals have hb:=HB1.out
      all_goals try have v2:tm.getD 15 undef=.bool true:=by(refine hJ.val 2 (by decide) (hdep ⟨2,.data⟩ ?_ rfl);simp <;> fail)
      all_goals try have v2':=gdq v2
      all_goals try have v11:tm.getD 24 undef=.bool true:=by(refine hJ.val 11 (by decide) (hdep ⟨11,.data⟩ ?_ rfl);simp <;> fail)
      all_goals try have v11':=gdq v11
      all_goals try have v12:tm.getD 25 undef=.bool true:=by(refine hJ.val 12 (by decide) (hdep ⟨12,.data⟩ ?_ rfl);simp <;> fail)
      all_goals try have v12':=gdq v12
      all_goals try have v15:tm.getD 28 undef=.int .i64 ((k:Int)+1):=by(refine hJ.val 15 (by decide) (hdep ⟨15,.data⟩ ?_ rfl);simp <;> fail)
      all_goals try have v15':=gdq v15
      all_goals try have v14:tm.getD 27 undef=.slice (some ad) (k+1) vc:=by(refine hJ.val 14 (by decide) (hdep ⟨14,.data⟩ ?_ rfl);simp <;> fail)
      all_goals try have v14':=gdq v14
      all_goals try have v16:tm.getD 29 undef=.int .i64 (k:Int):=by(refine hJ.val 16 (by decide) (hdep ⟨16,.data⟩ ?_ rfl);simp <;> fail)
      all_goals try have v16':=gdq v16
      all_goals try have v17:tm.getD 30 undef=.pointer (some (ad.add (k*3))):=by(refine hJ.val 17 (by decide) (hdep ⟨17,.data⟩ ?_ rfl);simp <;> fail)
      all_goals try have v17':=gdq v17
      all_goals try have v18:tm.getD 31 undef=.pointer (some ⟨(ad.add (k*3)).block,(ad.add (k*3)).off+2,none⟩):=by(refine hJ.val 18 (by decide) (hdep ⟨18,.data⟩ ?_ rfl);simp <;> fail)
      all_goals try have v18':=gdq v18
      all_goals have r2':=(hJ.below.cell (p:=⟨(ad.add (k*3)).block,(ad.add (k*3)).off+2,none⟩) zr).trans r2
      all_goals try have v20:tm.getD 33 undef=.pointer (some ⟨Bx,2,none⟩):=by(refine hJ.val 20 (by decide) (hdep ⟨20,.data⟩ ?_ rfl);simp <;> fail)
      all_goals try have v20':=gdq v20
      all_goals have d2':=(hJ.below.cell (p:=⟨Bx,2,none⟩) zx).trans d2
      all_goals try have v19:tm.getD 32 undef=.bool y.dst:=by(refine hJ.val 19 (by decide) (hdep ⟨19,.data⟩ ?_ rfl);simp <;> fail)
      all_goals try have v19':=gdq v19
      all_goals try have v21:tm.getD 34 undef=.bool p.dst:=by(refine hJ.val 21 (by decide) (hdep ⟨21,.data⟩ ?_ rfl);simp <;> fail)
      all_goals try have v21':=gdq v21
      all_goals have hb:=HB2.out
      all_goals try have v13:tm.getD 26 undef=.bool true:=by(refine hJ.val 13 (by decide) (hdep ⟨13,.data⟩ ?_ rfl);simp <;> fail)
      all_goals try have v13':=gdq v13
      all_goals try have v22:tm.getD 35 undef=.bool false:=by(refine hJ.val 22 (by decide) (hdep ⟨22,.data⟩ ?_ rfl);simp <;> fail)
      all_goals try have v22':=gdq v22
      all_goals first|(go_simp;exact hK _ _ (hJ.put DrC.Q_mono DrC.sl_inj (by decide) rfl))|skip
     case finR=>
      intro a' X5 hJ hN hdf;have s3:a'.tmps.getD 3 undef=.pointer (some ⟨h,0,none⟩):=(hJ.old 3 (DrC.sl_no 3 (by decide))).trans rfl;have s4:a'.tmps.getD 4 undef=.pointer (some ⟨Bx,0,none⟩):=(hJ.old 4 (DrC.sl_no 4 (by decide))).trans rfl;have s5:a'.tmps.getD 5 undef=.int .i64 ((k:Int)+1):=(hJ.old 5 (DrC.sl_no 5 (by decide))).trans rfl;have s36:a'.tmps.getD 36 undef=.bool false:=hJ.val 23 (by decide) (by rfl);have hb9:=hJ.below;have ef:a'={ tmps:=((List.range 66).map fun i=>a'.tmps.getD i undef).toArray,defers:=[] }:=Rg.frame_of 66 a' hN hdf;obtain⟨u,hu⟩:∃u:Nat→Value,(fun i=>a'.tmps.getD i undef)=u:=⟨_,rfl⟩
      rw[hu] at ef;have e3:u 3=.pointer (some ⟨h,0,none⟩):=by rw[← hu];exact s3
      have e4:u 4=.pointer (some ⟨Bx,0,none⟩):=by rw[← hu];exact s4
      have e5:u 5=.int .i64 ((k:Int)+1):=by rw[← hu];exact s5
      have e36:u 36=.bool false:=by rw[← hu];exact s36
      have ef2:a'={ tmps:=(u 0 :: u 1 :: u 2 :: u 3 :: u 4 :: u 5 :: u 6 :: u 7 :: u 8 :: u 9 :: u 10 :: u 11 :: u 12 :: u 13 :: u 14 :: u 15 :: u 16 :: u 17 :: u 18 :: u 19 :: u 20 :: u 21 :: u 22 :: u 23 :: u 24 :: u 25 :: u 26 :: u 27 :: u 28 :: u 29 :: u 30 :: u 31 :: u 32 :: u 33 :: u 34 :: u 35 :: u 36 :: u 37 :: u 38 :: u 39 :: u 40 :: u 41 :: u 42 :: u 43 :: u 44 :: u 45 :: u 46 :: u 47 :: u 48 :: u 49 :: u 50 :: u 51 :: u 52 :: u 53 :: u 54 :: u 55 :: u 56 :: u 57 :: u 58 :: u 59 :: u 60 :: u 61 :: u 62 :: u 63 :: u 64 :: u 65 :: []:List Value).toArray,defers:=[] }:=ef;rw[e3,e4,e5,e36] at ef2;rw[ef2];clear hJ hN hdf ef ef2 hu e3 s3 e4 s4 e5 s5 e36 s36;have HB5:=ak hb9;have c5:=(hb9.cell (p:=⟨h,0,none⟩) zh).trans c0;have e0':=(hb9.cell (p:=⟨Bx,0,none⟩) zx).trans d0;have e1':=(hb9.cell (p:=⟨Bx,1,none⟩) zx).trans d1;have e2':=(hb9.cell (p:=⟨Bx,2,none⟩) zx).trans d2;have zh5:=Nat.lt_of_lt_of_le zh hb9.size;have zx5:=Nat.lt_of_lt_of_le zx hb9.size;clear hb9 c0 d0 d1 d2 f0 zh zx r0 r1 r2 zr hfz;obtain⟨i0,hi0,hz0,hz1,hz2⟩:=info_parts span_info;have hAp:=fun {F:Fence} {nF:Nat} {ops:Array Oper} {rest:List Oper} {o:Oper} {a:Act} {Q:Exit→Act→World→Prop} hgd ho hs hx hk=>wpListIn_append_own (F:=F) (n:=nF) (P:=Tryz.prog) (ops:=ops) (rest:=rest) (o:=o) (a:=a) (Q:=Q) (X5.alloc (.cells #[.int .i64 p.fr,.int .i64 p.off,.bool p.dst] 164)) hgd (.tmp 44) (.tmp 46) 61 ho (h+1) 164 i0 _ 3 24 Tryz.underlying61 hi0 hz0 hz1 hz2 rfl (by decide) _ (k+1) _ hs ((own_below HRow.out HB5.out).alloc _) ⟨X5.heap.size,0,none⟩ 1 1 p.cells hx rfl (fun j u hj=>by
       rw[add_zero_off];exact(At.new X5 #[.int .i64 p.fr,.int .i64 p.off,.bool p.dst] 164).cell j u hj) (Ln.cells_one p) (by unfold maxLen;omega) (by omega) (by rw[World.size_alloc];have:=HB5.out.size;have:=HBk.out.lt;omega) hk
      rw[HAd.out] at c5
      gi_wp2_with (gi_at_builtin;refine hAp rfl rfl rfl rfl ?_;intro v9 w9 hown9 hg9 _;obtain⟨vB,vd,rfl,_⟩:=own_slice hown9;obtain⟨hst,hc9,hf9,hz9⟩:=Ln.app_step (B:=W2.heap.size) HB5.out HBl.out (by rw[HH.out];exact Nat.le_refl _) HBk.out HRow.out hown9 hg9 (A':=p :: y :: A) (by rw[List.reverse_cons (a:=p),Ln.fl_snoc]) (by simp[HCk.out]);have HSt:=ak hst;clear hst hown9 hg9)
      obtain⟨k1,k2,k3⟩:=HSt.out;exact⟨k1,k2,by show Ln.DI h ((pre ++ [p]).foldl Ln.push []) w _;rw[HFl.out];exact k3⟩
   ·have hpush:Ln.push (y :: A) p=p :: y :: A:=by
     show (if Ln.alike y p=true then _ else _)=_
     rw[if_neg (by rw[Ln.alike_iff];intro e;exact ho e.1)]
    have HFl:=ak (HFl.out.trans hpush);have HB1:Hid ((y.off == p.off)=false):=by show _=false;rw[beq_eq_false_iff_ne];exact ho
    clear hpush ho
    gi_wp2_with fail
    refine Od.wpIn_region_inv 66 (by kernel_rfl) (by rfl) (by rfl) (Od.ord_of (by kernel_rfl)) (Od.dst_of (by kernel_rfl)) (Rg.J 24 DrB.sl (DrB.Q Bx k vc ad y.off p.off) X (Od.slots _)) (Rg.J.start _ _ _ ((Below.refl _ _).drew)) ?stepR ?finR
    case stepR=>
     intro i o hi b' a' wv hJ hb hdep hdf K hK;obtain⟨tm,df⟩:=a';simp only at hdf;subst hdf;have hiN:i<24:=(Array.getElem?_eq_some_iff.1 hi).1;have hsplit:i=0∨i=1∨i=2∨i=3∨i=4∨i=5∨i=6∨i=7∨i=8∨i=9∨i=10∨i=11∨i=12∨i=13∨i=14∨i=15∨i=16∨i=17∨i=18∨i=19∨i=20∨i=21∨i=22∨i=23:=(by omega);rcases hsplit with rfl|rfl|rfl|rfl|rfl|rfl|rfl|rfl|rfl|rfl|rfl|rfl|rfl|rfl|rfl|rfl|rfl|rfl|rfl|rfl|rfl|rfl|rfl|rfl
     all_goals obtain rfl:=sji (show some _=some o from hi)
     all_goals first|rw[if_pos (show Region.wanted _ _=true from rfl)]|(have hg:tm.getD 15 undef=.bool true:=by(refine hJ.val 2 (by decide) (hdep ⟨2,.guard⟩ ?_ rfl);simp <;> fail))|skip
     all_goals try rw[if_pos (Rg.want rfl rfl hg)]
     all_goals (have h5:tm.getD 5 undef=.int .i64 ((k:Int)+1):=(hJ.old 5 (DrB.sl_no 5 (by decide))).trans rfl;have h5':=gdq h5)
     all_goals try have v0:tm.getD 13 undef=.int .i64 ((k:Int)+1):=by(refine hJ.val 0 (by decide) (hdep ⟨0,.data⟩ ?_ rfl);simp <;> fail)
     all_goals try have v0':=gdq v0
     all_goals have q1:(0:Int)<(k:Int)+1:=by omega
     all_goals try have v1:tm.getD 14 undef=.bool true:=by(refine hJ.val 1 (by decide) (hdep ⟨1,.data⟩ ?_ rfl);simp <;> fail)
     all_goals try have v1':=gdq v1
     all_goals (have h3:tm.getD 3 undef=.pointer (some ⟨h,0,none⟩):=(hJ.old 3 (DrB.sl_no 3 (by decide))).trans rfl;have h3':=gdq h3)
     all_goals have c0':=(hJ.below.cell (p:=⟨h,0,none⟩) zh).trans c0
     all_goals have zh':=Nat.lt_of_lt_of_le zh hJ.below.size
     all_goals try have v4:tm.getD 17 undef=.int .i64 ((k:Int)+1):=by(refine hJ.val 4 (by decide) (hdep ⟨4,.data⟩ ?_ rfl);simp <;> fail)
     all_goals try have v4':=gdq v4
     all_goals have wa:IntKind.i64.wrap ((k:Int)+1 - 1)=(k:Int):=by rw[IntKind.wrap_i64];omega
     all_goals have wb:IntKind.i64.wrap (k:Int)=(k:Int):=by rw[IntKind.wrap_i64];omega
     all_goals try have v3:tm.getD 16 undef=.slice (some ad) (k+1) vc:=by(refine hJ.val 3 (by decide) (hdep ⟨3,.data⟩ ?_ rfl);simp <;> fail)
     all_goals try have v3':=gdq v3
     all_goals try have v5:tm.getD 18 undef=.int .i64 (k:Int):=by(refine hJ.val 5 (by decide) (hdep ⟨5,.data⟩ ?_ rfl);simp <;> fail)
     all_goals try have v5':=gdq v5
     all_goals have q2:=am k
     all_goals have q3:(k:Int)<(k:Int)+1:=by omega
     all_goals try have v6:tm.getD 19 undef=.pointer (some (ad.add (k*3))):=by(refine hJ.val 6 (by decide) (hdep ⟨6,.data⟩ ?_ rfl);simp <;> fail)
     all_goals try have v6':=gdq v6
     all_goals try have v7:tm.getD 20 undef=.pointer (some ⟨(ad.add (k*3)).block,(ad.add (k*3)).off+1,none⟩):=by(refine hJ.val 7 (by decide) (hdep ⟨7,.data⟩ ?_ rfl);simp <;> fail)
     all_goals try have v7':=gdq v7
     all_goals have r1':=(hJ.below.cell (p:=⟨(ad.add (k*3)).block,(ad.add (k*3)).off+1,none⟩) zr).trans r1
     all_goals have zr':=Nat.lt_of_lt_of_le zr hJ.below.size
     all_goals (have h4:tm.getD 4 undef=.pointer (some ⟨Bx,0,none⟩):=(hJ.old 4 (DrB.sl_no 4 (by decide))).trans rfl;have h4':=gdq h4)
     all_goals try have v9:tm.getD 22 undef=.pointer (some ⟨Bx,1,none⟩):=by(refine hJ.val 9 (by decide) (hdep ⟨9,.data⟩ ?_ rfl);simp <;> fail)
     all_goals try have v9':=gdq v9
     all_goals have d1':=(hJ.below.cell (p:=⟨Bx,1,none⟩) zx).trans d1
     all_goals have zx':=Nat.lt_of_lt_of_le zx hJ.below.size
     all_goals try have v8:tm.getD 21 undef=.int .i64 y.off:=by(refine hJ.val 8 (by decide) (hdep ⟨8,.data⟩ ?_ rfl);simp <;> fail)
     all_goals try have v8':=gdq v8
     all_goals try have v10:tm.getD 23 undef=.int .i64 p.off:=by(refine hJ.val 10 (by decide) (hdep ⟨10,.data⟩ ?_ rfl);simp <;> fail)
     all_goals try have v10':=gdq v10
     all_goals have hb:=HB1.out
     all_goals try have v2:tm.getD 15 undef=.bool true:=by(refine hJ.val 2 (by decide) (hdep ⟨2,.data⟩ ?_ rfl);simp <;> fail)
     all_goals try have v2':=gdq v2
     all_goals try have v11:tm.getD 24 undef=.bool false:=by(refine hJ.val 11 (by decide) (hdep ⟨11,.data⟩ ?_ rfl);simp <;> fail)
     all_goals try have v11':=gdq v11
     all_goals try have v12:tm.getD 25 undef=.bool false:=by(refine hJ.val 12 (by decide) (hdep ⟨12,.data⟩ ?_ rfl);simp <;> fail)
     all_goals try have v12':=gdq v12
     all_goals try have v13:tm.getD 26 undef=.bool false:=by(refine hJ.val 13 (by decide) (hdep ⟨13,.data⟩ ?_ rfl);simp <;> fail)
     all_goals try have v13':=gdq v13
     all_goals try have v22:tm.getD 35 undef=undef:=by(refine hJ.val 22 (by decide) (hdep ⟨22,.data⟩ ?_ rfl);simp <;> fail)
     all_goals try have v22':=gdq v22
     all_goals first|(go_simp;exact hK _ _ (hJ.put DrB.Q_mono DrB.sl_inj (by decide) rfl))|skip
     ·have hg:tm.getD 26 undef=.bool false:=hJ.val 13 (by decide) (hdep ⟨13,.guard⟩ (by simp) rfl);rw[if_neg (by rw[Rg.notwant rfl rfl hg rfl];decide)];refine⟨fun _ _=>trivial,?_⟩;exact hK _ _ (hJ.put DrB.Q_mono DrB.sl_inj (by decide) rfl)
     ·have hg:tm.getD 26 undef=.bool false:=hJ.val 13 (by decide) (hdep ⟨13,.guard⟩ (by simp) rfl);rw[if_neg (by rw[Rg.notwant rfl rfl hg rfl];decide)];refine⟨fun _ _=>trivial,?_⟩;exact hK _ _ (hJ.put DrB.Q_mono DrB.sl_inj (by decide) rfl)
     ·have hg:tm.getD 26 undef=.bool false:=hJ.val 13 (by decide) (hdep ⟨13,.guard⟩ (by simp) rfl);rw[if_neg (by rw[Rg.notwant rfl rfl hg rfl];decide)];refine⟨fun _ _=>trivial,?_⟩;exact hK _ _ (hJ.put DrB.Q_mono DrB.sl_inj (by decide) rfl)
     ·have hg:tm.getD 26 undef=.bool false:=hJ.val 13 (by decide) (hdep ⟨13,.guard⟩ (by simp) rfl);rw[if_neg (by rw[Rg.notwant rfl rfl hg rfl];decide)];refine⟨fun _ _=>trivial,?_⟩;exact hK _ _ (hJ.put DrB.Q_mono DrB.sl_inj (by decide) rfl)
     ·have hg:tm.getD 26 undef=.bool false:=hJ.val 13 (by decide) (hdep ⟨13,.guard⟩ (by simp) rfl);rw[if_neg (by rw[Rg.notwant rfl rfl hg rfl];decide)];refine⟨fun _ _=>trivial,?_⟩;exact hK _ _ (hJ.put DrB.Q_mono DrB.sl_inj (by decide) rfl)
     ·have hg:tm.getD 26 undef=.bool false:=hJ.val 13 (by decide) (hdep ⟨13,.guard⟩ (by simp) rfl);rw[if_neg (by rw[Rg.notwant rfl rfl hg rfl];decide)];refine⟨fun _ _=>trivial,?_⟩;exact hK _ _ (hJ.put DrB.Q_mono DrB.sl_inj (by decide) rfl)
     ·have hg:tm.getD 26 undef=.bool false:=hJ.val 13 (by decide) (hdep ⟨13,.guard⟩ (by simp) rfl);rw[if_neg (by rw[Rg.notwant rfl rfl hg rfl];decide)];refine⟨fun _ _=>trivial,?_⟩;exact hK _ _ (hJ.put DrB.Q_mono DrB.sl_inj (by decide) rfl)
     ·have hg:tm.getD 26 undef=.bool false:=hJ.val 13 (by decide) (hdep ⟨13,.guard⟩ (by simp) rfl);rw[if_neg (by rw[Rg.notwant rfl rfl hg rfl];decide)];refine⟨fun _ _=>trivial,?_⟩;exact hK _ _ (hJ.put DrB.Q_mono DrB.sl_inj (by decide) rfl)
     ·have hg:tm.getD 26 undef=.bool false:=hJ.val 13 (by decide) (hdep ⟨13,.guard⟩ (by simp) rfl);rw[if_neg (by rw[Rg.notwant rfl rfl hg rfl];decide)];refine⟨fun _ _=>trivial,?_⟩;exact hK _ _ (hJ.put DrB.Q_mono DrB.sl_inj (by decide) rfl)
    case finR=>
     intro a' X5 hJ hN hdf;have s3:a'.tmps.getD 3 undef=.pointer (some ⟨h,0,none⟩):=(hJ.old 3 (DrB.sl_no 3 (by decide))).trans rfl;have s4:a'.tmps.getD 4 undef=.pointer (some ⟨Bx,0,none⟩):=(hJ.old 4 (DrB.sl_no 4 (by decide))).trans rfl;have s5:a'.tmps.getD 5 undef=.int .i64 ((k:Int)+1):=(hJ.old 5 (DrB.sl_no 5 (by decide))).trans rfl;have s36:a'.tmps.getD 36 undef=.bool false:=hJ.val 23 (by decide) (by rfl);have hb9:=hJ.below;have ef:a'={ tmps:=((List.range 66).map fun i=>a'.tmps.getD i undef).toArray,defers:=[] }:=Rg.frame_of 66 a' hN hdf;obtain⟨u,hu⟩:∃u:Nat→Value,(fun i=>a'.tmps.getD i undef)=u:=⟨_,rfl⟩
     rw[hu] at ef;have e3:u 3=.pointer (some ⟨h,0,none⟩):=by rw[← hu];exact s3
     have e4:u 4=.pointer (some ⟨Bx,0,none⟩):=by rw[← hu];exact s4
     have e5:u 5=.int .i64 ((k:Int)+1):=by rw[← hu];exact s5
     have e36:u 36=.bool false:=by rw[← hu];exact s36
     have ef2:a'={ tmps:=(u 0 :: u 1 :: u 2 :: u 3 :: u 4 :: u 5 :: u 6 :: u 7 :: u 8 :: u 9 :: u 10 :: u 11 :: u 12 :: u 13 :: u 14 :: u 15 :: u 16 :: u 17 :: u 18 :: u 19 :: u 20 :: u 21 :: u 22 :: u 23 :: u 24 :: u 25 :: u 26 :: u 27 :: u 28 :: u 29 :: u 30 :: u 31 :: u 32 :: u 33 :: u 34 :: u 35 :: u 36 :: u 37 :: u 38 :: u 39 :: u 40 :: u 41 :: u 42 :: u 43 :: u 44 :: u 45 :: u 46 :: u 47 :: u 48 :: u 49 :: u 50 :: u 51 :: u 52 :: u 53 :: u 54 :: u 55 :: u 56 :: u 57 :: u 58 :: u 59 :: u 60 :: u 61 :: u 62 :: u 63 :: u 64 :: u 65 :: []:List Value).toArray,defers:=[] }:=ef;rw[e3,e4,e5,e36] at ef2;rw[ef2];clear hJ hN hdf ef ef2 hu e3 s3 e4 s4 e5 s5 e36 s36;have HB5:=ak hb9;have c5:=(hb9.cell (p:=⟨h,0,none⟩) zh).trans c0;have e0':=(hb9.cell (p:=⟨Bx,0,none⟩) zx).trans d0;have e1':=(hb9.cell (p:=⟨Bx,1,none⟩) zx).trans d1;have e2':=(hb9.cell (p:=⟨Bx,2,none⟩) zx).trans d2;have zh5:=Nat.lt_of_lt_of_le zh hb9.size;have zx5:=Nat.lt_of_lt_of_le zx hb9.size;clear hb9 c0 d0 d1 d2 f0 zh zx r0 r1 r2 zr hfz;obtain⟨i0,hi0,hz0,hz1,hz2⟩:=info_parts span_info;have hAp:=fun {F:Fence} {nF:Nat} {ops:Array Oper} {rest:List Oper} {o:Oper} {a:Act} {Q:Exit→Act→World→Prop} hgd ho hs hx hk=>wpListIn_append_own (F:=F) (n:=nF) (P:=Tryz.prog) (ops:=ops) (rest:=rest) (o:=o) (a:=a) (Q:=Q) (X5.alloc (.cells #[.int .i64 p.fr,.int .i64 p.off,.bool p.dst] 164)) hgd (.tmp 44) (.tmp 46) 61 ho (h+1) 164 i0 _ 3 24 Tryz.underlying61 hi0 hz0 hz1 hz2 rfl (by decide) _ (k+1) _ hs ((own_below HRow.out HB5.out).alloc _) ⟨X5.heap.size,0,none⟩ 1 1 p.cells hx rfl (fun j u hj=>by
      rw[add_zero_off];exact(At.new X5 #[.int .i64 p.fr,.int .i64 p.off,.bool p.dst] 164).cell j u hj) (Ln.cells_one p) (by unfold maxLen;omega) (by omega) (by rw[World.size_alloc];have:=HB5.out.size;have:=HBk.out.lt;omega) hk
     rw[HAd.out] at c5
     gi_wp2_with (gi_at_builtin;refine hAp rfl rfl rfl rfl ?_;intro v9 w9 hown9 hg9 _;obtain⟨vB,vd,rfl,_⟩:=own_slice hown9;obtain⟨hst,hc9,hf9,hz9⟩:=Ln.app_step (B:=W2.heap.size) HB5.out HBl.out (by rw[HH.out];exact Nat.le_refl _) HBk.out HRow.out hown9 hg9 (A':=p :: y :: A) (by rw[List.reverse_cons (a:=p),Ln.fl_snoc]) (by simp[HCk.out]);have HSt:=ak hst;clear hst hown9 hg9)
     obtain⟨k1,k2,k3⟩:=HSt.out;exact⟨k1,k2,by show Ln.DI h ((pre ++ [p]).foldl Ln.push []) w _;rw[HFl.out];exact k3⟩
 case done=>
  intro X hI hK;obtain⟨A,hA⟩:=aj (ps.foldl Ln.push [])
  have hAl:A.length≤900000000:=by
   have:=Ln.fold_len ps [];have:=HPl.out;rw[hA] at *;simp only[List.length_nil] at *;omega
  rw[hA] at hI;obtain⟨bv,hbk,hrow⟩:=hI.row;obtain⟨vA,vc,rfl,hv1,hv2⟩:=own_slice_cap hrow;unfold maxLen at hv2;obtain⟨n,hn⟩:=aj (A.length)
  rw[hn] at hbk hrow hAl hv1;have c0:=hbk.at_.cell 0 _ rfl;have zh:=hbk.lt;obtain⟨i0,i1,i2,i3,i4⟩:=info_parts span_info;have HI:=ak (And.intro i1 (And.intro i2 (And.intro i3 i4)));clear i1 i2 i3 i4;have hmk:=fun W:World=>run_make (P:=Tryz.prog) W 61 164 i0 _ Tryz.underlying61 HI.out.1 HI.out.2.1 .i64 .i64 0 (n:Int) (by omega) (by omega) (by rw[HI.out.2.2.2];omega) (by omega)
  rw[HI.out.2.2.1] at hmk;obtain⟨MC,hMC⟩:=aj (madeCells (Value.agg #[.int .i64 0,.int .i64 0,.bool false]).cells ((n:Int).toNat*3))
  rw[hMC] at hmk;have hMs:MC.size=n*3:=by
   rw[← hMC,size_madeCells];simp
   try omega
  clear hMC;have hown0:(X.alloc (.cells MC 164)).ownsRow X.heap.size 164 3 (.slice (some ⟨X.heap.size,0,none⟩) 0 n) 0 []:=World.ownsRow_made X MC n (Nat.le_refl _) (by unfold maxLen;omega) hMs;have HO0:=ak hown0;have HN:=ak hn;have HRd:=ak (Reads.of_own hrow);have HBk:=ak hbk;have HBl:=ak hI.below;have HK:=ak hK;have HAA:=ak hA;have hDX:W2.heap.size<X.heap.size:=(Array.getElem?_eq_some_iff.1 hK).1;have w1:IntKind.i64.wrap ((n:Int) - 1)=(n:Int) - 1:=by rw[IntKind.wrap_i64];omega
  clear hbk hrow hI hK hA hn hown0;have q0:=am n
  gi_wp2_with fail
  refine wpIn_wide.2 ?_;clear hmk hMs;go_loopw [6,7] (fun v i wr=>∃j:Nat,j≤n∧i=.int .i64 ((n:Int) - 1 - (j:Int))∧Hid (wr.ownsRow X.heap.size 164 3 v j (Ln.fl (A.take j)))∧Hid (Below X.heap.size X wr)) (fun _ i _=>(intOf i+1).toNat)
  case atStart=>exact⟨0,Nat.zero_le _,by go_num,HO0.out,al⟩
  case round=>
   obtain⟨j,hj,rfl,HO,HB⟩:=hrel;obtain⟨lA,lc,rfl,hl1,hl2⟩:=own_slice_cap HO.out;have hwr:=HB.out.size
   by_cases hlt:j<n
   ·obtain⟨k,hk⟩:∃k:Nat,n - 1 - j=k:=⟨_,rfl⟩
    have hkn:k<n:=(by omega);have ek:(n:Int) - 1 - (j:Int)=(k:Int):=(by omega);rw[ek];have hrl:A.reverse.length=n:=by rw[List.length_reverse,HN.out]
    obtain⟨ad,p,rfl,hab,hpx,hcell⟩:=Ix.reads_cells (enc:=Ln.Sp.cells) (m:=3) (fun _=>rfl) hrl (HRd.out.below HB.out) hkn;have hAj:A[j]?=some p:=by
     have:=hpx.out;rw[List.getElem?_reverse (by rw[HN.out];exact hkn),HN.out,show n - 1 - k=j by omega] at this;exact this
    have HAj:=ak hAj;have c0r:wr.cell? ⟨h,0,none⟩=some (.slice (some ad) n vc):=(HB.out.cell zh).trans c0;have x0:wr.cell? (ad.add (k*3))=some (.int .i64 p.fr):=hcell.out 0 _ rfl;have x1:wr.cell? ⟨(ad.add (k*3)).block,(ad.add (k*3)).off+1,none⟩=some (.int .i64 p.off):=hcell.out 1 _ rfl;have x2:wr.cell? ⟨(ad.add (k*3)).block,(ad.add (k*3)).off+2,none⟩=some (.bool p.dst):=hcell.out 2 _ rfl;have hab2:(ad.add (k*3)).block<wr.heap.size:=by rw[block_of_add];omega
    have q1:=am k
    have q2:(k:Int)<(n:Int):=(by omega);have zhr:h<wr.heap.size:=(by omega);have w2:IntKind.i64.wrap ((k:Int) - 1)=(k:Int) - 1:=by rw[IntKind.wrap_i64];omega
    have HAp:=fun {ops:Array Oper} {rest:List Oper} {o:Oper} {a:Act} {Q:Exit→Act→World→Prop} hgd ho hs hx h=>row_append (ops:=ops) (rest:=rest) (o:=o) (a:=a) (Q:=Q) 61 164 3 24 _ #[.int .i64 p.fr,.int .i64 p.off,.bool p.dst] Tryz.underlying61 span_info rfl (by decide) rfl (by
     intro u hu;simp at hu
     rcases hu with rfl|rfl|rfl <;> rfl) (by decide) wr X.heap.size j _ (.slice lA j lc) 58 63 wr.heap.size rfl HO.out (by omega) (by omega) hgd ho hs hx h
    have hst:Ln.fl (A.take (j+1))=Ln.fl (A.take j) ++ #[.int .i64 p.fr,.int .i64 p.off,.bool p.dst].toList:=by
     rw[List.take_add_one,HAj.out];exact Ln.fl_snoc _ _
    have HSt:=ak hst;clear hst hAj hpx hcell hrl ek hab;go_wp2_with (at_builtin;refine HAp rfl rfl rfl rfl ?_;intro v9 w9 hown9 hb9 hg9 hat9)
    have HO9:=ak (show w9.ownsRow X.heap.size 164 3 v9 (j+1) (Ln.fl (A.take (j+1))) by rw[HSt.out];exact hown9);have HB9:=ak (show Below X.heap.size X w9 from HB.out.trans hb9);clear hown9 hb9 hg9 hat9 HAp;go_roundw
    case rel=>exact⟨j+1,by omega,by congr 1;omega,HO9.out,HB9.out⟩
    case measure=>simp[intOf] <;> omega
   ·have hjn:j=n:=(by omega);subst hjn;have ek:(j:Int) - 1 - (j:Int)=-1:=(by omega);rw[ek];have q2:¬(0:Int)≤-1:=(by omega);have ht:A.take j=A:=List.take_of_length_le (by rw[HN.out];exact Nat.le_refl _);rw[ht] at HO;have HK9:=ak (show wr.heap[W2.heap.size]?=some (.deferred (some [])) by rw[HB.out.block _ hDX];exact HK.out);have hDr:W2.heap.size<wr.heap.size:=Nat.lt_of_lt_of_le hDX hwr;have HF:Hid (Below w.heap.size w (wr.putObj W2.heap.size (.deferred none))∧(wr.putObj W2.heap.size (.deferred none)).ownsRow w.heap.size 164 3 (.slice lA j lc) A.length (Ln.fl A)):=by
     have hz:=HBl.out.size;refine⟨(HBl.out.trans (HB.out.mono hz)).trans (belowK_b (w:=w) (Nat.le_refl _) wr W2.heap.size _ _ (by rw[HS2.out,HH.out];omega) HK9.out rfl rfl),?_⟩;rw[HN.out];exact Ln.row_grown (Sc.own_mono (base':=w.heap.size) HO.out hz) (grownBy_putObj' wr W2.heap.size (.deferred none)) (fun r e=>by cases e;exact⟨_,HK9.out,rfl⟩)
    go_wp2_with fail
    gi_wp2
    refine⟨by simp,.inl ⟨_,_,rfl,run_takeDeferred HK9.out,?_⟩⟩;refine⟨_,results_tmp rfl _ _ _,?_⟩;rw[HAA.out];exact⟨⟨_,rfl,HF.out.2⟩,HF.out.1⟩
end Go.Proofs.YtjobhjemnmleaaaGreatDoor
