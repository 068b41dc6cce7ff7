/- Plain law of digits: what a text of digits tells. -/
import Derived.Test.YtjobhjemnmleaaaGreatDoorR01
import Derived.Test.YtjobhjemnmleaaaGreatDoorR02
import Derived.StillTail
import Derived.Lib.QuietBelow
import Derived.Deep.QuietTactic
import Derived.BigQuiet
import Derived.Lib.AppendIntMem
import Derived.Deep.RegionHeld3
import Derived.WideShapes
set_option maxHeartbeats 2000000
namespace Go.Proofs.YtjobhjemnmleaaaGreatDoor.Dy
open Go.RowKit
def numLoop : List UInt8→Int→Int
 |[],a=>a
 |c :: r,a=>if (c.toNat:Int)<48∨57<(c.toNat:Int) then -1 else numLoop r (a*10+((c.toNat:Int) - 48))
theorem tl_get (s:ByteArray)(k:Nat)(h:k<s.size):(tl s)[k]?=some s[k]:=by
 unfold tl;rw[List.getElem?_eq_getElem (by simpa using h),Array.getElem_toList];rfl
end Go.Proofs.YtjobhjemnmleaaaGreatDoor.Dy
namespace Go.Proofs.YtjobhjemnmleaaaGreatDoor
open Go.RowKit
def IsTime (s:Int):Prop:=-604800≤s∧s≤604800
instance (s:Int):Decidable (IsTime s):=by unfold IsTime;exact inferInstance
def InT (s:Int):Prop:=-1099511627776≤s∧s≤1099511627776
instance (s:Int):Decidable (InT s):=by unfold InT;exact inferInstance
theorem isTime_any (s:Int)(w:World):
  Calls Tryz.prog 180 #[.int .i64 s] w fun e w'=>e=.returned (.bool (decide (IsTime s)))∧w=w':=by
 by_cases h:IsTime s
 ·have HD:=ak (decide_eq_true h);obtain⟨h1,h2⟩:=h;go_enter Tryz.func180,Tryz.ntmps180
  go_wp2;go_ret
  exact⟨ret_bool (by rw[HD.out]),rfl⟩
 ·have HD:=ak (decide_eq_false h);have h':s < -604800∨604800<s:=by unfold IsTime at h;omega
  clear h
  by_cases h1:s < -604800
  ·clear h';go_enter Tryz.func180,Tryz.ntmps180
   go_wp2;go_ret
   exact⟨ret_bool (by rw[HD.out]),rfl⟩
  ·have h2:604800<s:=(by omega);clear h';go_enter Tryz.func180,Tryz.ntmps180
   go_wp2;go_ret
   exact⟨ret_bool (by rw[HD.out];first|(simp;done)|(simp;omega)),rfl⟩
theorem at_ok (d s:Int)(w:World)(h1:-719162≤d)(h2:d<2932897)(h3:IsTime s):
  Calls Tryz.prog 146 #[.int .i64 d,.int .i64 s] w fun e w'=>e=.returned (.tuple #[.int .i64 (d*86400+s),.int .i64 0])∧Below w.heap.size w w':=by
 have HO:=ak fun W=>of_ok d W h1 h2
 have HT:=ak fun W=>calls_bool (isTime_any s W) (decide_eq_true h3)
 obtain⟨s1,s2⟩:=h3;go_enter Tryz.func146,Tryz.ntmps146
 go_wp2_with fail
 refine(HO.out _).mono ?_;rintro e w1 ⟨rfl,hb⟩;go_wp2_with fail
 refine(HT.out _).mono ?_;rintro e w2 ⟨rfl,rfl⟩;go_wp2;go_ret2
 exact⟨rfl,hb.alloc hb.size _⟩
theorem ret_int22 {k:IntKind}{a b c d:Int}(h:a=b)(h':c=d):Ending.returned (.tuple #[.int k a,.int k c])=.returned (.tuple #[.int k b,.int k d]):=by rw[h,h']
theorem split_any (t:Int)(w:World)(h0:-9223372036854775808≤t)(h1:t≤9223372036854775807):
  Calls Tryz.prog 74 #[.int .i64 t] w fun e w'=>e=.returned (.tuple #[.int .i64 (t / 86400),.int .i64 (t % 86400)])∧w=w':=by
 by_cases hp:0≤t
 ·go_enter Tryz.func74,Tryz.ntmps74
  go_wp2;go_ret2
  exact⟨rfl,rfl⟩
 ·obtain⟨u,rfl⟩:∃u,t=-u:=⟨-t,by omega⟩
  have e1:(-u).tdiv 86400=-(u / 86400):=by rw[Int.neg_tdiv,Int.tdiv_eq_ediv_of_nonneg (by omega)]
  have e2:(-u).tmod 86400=-(u % 86400):=by rw[Int.neg_tmod,Int.tmod_eq_emod_of_nonneg (by omega)]
  by_cases hz:u % 86400=0
  ·have hneg:¬(-(u % 86400)<0):=(by omega);have b1:0<u:=(by omega);have b2:u≤9223372036854775808:=(by omega);have HZ:=ak hz;clear hz h0 h1 hp;go_enter Tryz.func74,Tryz.ntmps74
   go_wp2;go_ret2
   exact⟨ret_int22 (by have:=HZ.out;omega) (by have:=HZ.out;omega),rfl⟩
  ·have hneg:-(u % 86400)<0:=(by omega);have b1:0<u:=(by omega);have b2:u≤9223372036854775808:=(by omega);have HZ:=ak hz;clear hz h0 h1 hp;go_enter Tryz.func74,Tryz.ntmps74
   go_wp2;go_ret2
   exact⟨ret_int22 (by have:=HZ.out;omega) (by have:=HZ.out;omega),rfl⟩
theorem year_ok (t:Int)(w:World)(h1:-719162≤t / 86400)(h2:t / 86400<2932897):
  Calls Tryz.prog 32 #[.int .i64 t] w fun e w'=>e=.returned (.tuple #[.int .i64 (Cv.yearOf (t / 86400)),.int .i64 0])∧Below w.heap.size w w':=by
 have HS:=ak fun W=>split_any t W (by omega) (by omega)
 have HO:=ak fun W=>of_ok (t / 86400) W h1 h2
 clear h1 h2;go_enter Tryz.func32,Tryz.ntmps32
 go_wp2_with fail
 refine(HS.out _).mono ?_;rintro e w1 ⟨rfl,rfl⟩;go_wp2_with fail
 refine(HO.out _).mono ?_;rintro e w2 ⟨rfl,hb⟩;go_wp2;go_ret2
 exact⟨rfl,hb.alloc hb.size _⟩
theorem year_bad (t:Int)(w:World)(h0:-9223372036854775808≤t)(h1:t≤9223372036854775807)(h:¬(-719162≤t / 86400∧t / 86400<2932897)):
  Calls Tryz.prog 32 #[.int .i64 t] w fun e w'=>e=.returned (.tuple #[.int .i64 0,.int .i64 1])∧Below w.heap.size w w':=by
 have HS:=ak fun W=>split_any t W h0 h1
 have HO:=ak fun W=>of_bad (t / 86400) W (by omega)
 clear h0 h1 h;go_enter Tryz.func32,Tryz.ntmps32
 go_wp2_with fail
 refine(HS.out _).mono ?_;rintro e w1 ⟨rfl,rfl⟩;go_wp2_with fail
 refine(HO.out _).mono ?_;rintro e w2 ⟨rfl,hb⟩;go_wp2;go_ret2
 exact⟨rfl,hb.alloc hb.size _⟩
namespace Cv
end Cv
theorem year_iff (n y:Int)(h0:-719162≤n)(h1:n<2932897):Cv.num y 1 1≤n↔y≤Cv.yearOf n:=by
 obtain⟨hv,hn⟩:=Cv.num_of n h0 h1;have h:=Cv.first_le _ _ _ hv;rw[hn] at h;constructor
 ·intro hy;rcases Int.lt_or_le (Cv.yearOf n) y with hlt|hle
  ·have:=Cv.first_mono (Cv.yearOf n+1) y (by omega);omega
  ·exact hle
 ·intro hy;have:=Cv.first_mono y (Cv.yearOf n) hy;omega
theorem year_in (n:Int)(h0:-719162≤n)(h1:n<2932897):1≤Cv.yearOf n∧Cv.yearOf n≤9999:=by
 obtain⟨hv,_⟩:=Cv.num_of n h0 h1;exact⟨hv.1,hv.2.1⟩
end Go.Proofs.YtjobhjemnmleaaaGreatDoor
namespace Go.Proofs.YtjobhjemnmleaaaGreatDoor
open Go.RowKit Go.Sort
section
variable {P:Program} {ops:Array Oper} {md:Region.Mode} {C:World→Prop}
def headAll (P:Program)(md:Region.Mode)(ops:Array Oper)(C:World→Prop)(n:Nat)(L:Array Bool→Act→Prop):Nat→Array Bool→Act→Prop
 |0,s,a=>L s a
 |f+1,s,a=>Region.ready md ops s≠[]∧∀i∈Region.ready md ops s,i<n∧qOp P ops C i (headAll P md ops C n L f (s.setIfInBounds i true)) a
theorem any_of_head {n g:Nat}{L:Array Bool→Act→Prop}{Q:Exit→Act→World→Prop}(hL:∀s a w,C w→L s a→wpAny P md ops Q g s a w):
  ∀(f:Nat) (s:Array Bool) (a:Act) (w:World),C w→headAll P md ops C n L f s a→wpAny P md ops Q (f+g) s a w
 |0,s,a,w,hw,h=>by rw[Nat.zero_add];exact hL _ _ _ hw h
 |f+1,s,a,w,hw,h=>by
  rw[show f+1+g=(f+g)+1 by omega];exact⟨fun h0=>absurd h0 h.1,fun i hi=>wpOp_of_qOp hw (fun a' w' hw' h'=>any_of_head hL f _ a' w' hw' h') (h.2 i hi).2⟩
theorem head_first {n i:Nat}{oi:Oper}{v:Value}{L:Array Bool→Act→Prop}(hi:ops[i]?=some oi)(hsel:∀(j:Nat) (o:Oper) cs b,ops[j]?=some o→o.op≠.select cs b)
  (hs:Region.sinkB md ops n=true) (hc:Region.chainB md ops n=true) (hn:n<ops.size) (hin:i<n) (hdone:∀s a,L s a→∀j∈Region.ready md ops s,n≤j):
  ∀(f:Nat) (s:Array Bool) (a:Act),HeadInv md ops n s→
   (∀j oj,ops[j]?=some oj→j≠i→s.getD j true=false→(∀e∈oj.after,Region.binds md e=true→e.on≠i)→oi.apart ops oj=true)→
   i∈Region.ready md ops s→YieldsIn P ops C oi v a→
   headAll P md ops C n L f (s.setIfInBounds i true) (a.put oi.dst v)→headAll P md ops C n L (f+1) s a:=by
 intro f
 induction f with
 |zero=>
  intro s a inv _ hr hy H;have hun:=(mem_ready.1 hr).1;refine⟨fun h=>(by rw[h] at hr;cases hr),fun j hj=>?_⟩;have hjn:j<n:=by
   rcases Nat.lt_or_ge j n with h|h
   ·exact h
   ·exact absurd hj (tail_waits hs hc hn inv _ i rfl hin hun j h)
  refine⟨hjn,?_⟩
  by_cases hji:j=i
  ·subst hji;exact hy.qOp hi H
  ·have:=hdone _ _ H j (ready_mono hj hji);omega
 |succ f ih=>
  intro s a inv hfree hr hy H;have hun:=(mem_ready.1 hr).1;refine⟨fun h=>(by rw[h] at hr;cases hr),fun j hj=>?_⟩;have hjn:j<n:=by
   rcases Nat.lt_or_ge j n with h|h
   ·exact h
   ·exact absurd hj (tail_waits hs hc hn inv _ i rfl hin hun j h)
  refine⟨hjn,?_⟩
  by_cases hji:j=i
  ·subst hji;exact hy.qOp hi H
  ·have h1:=(H.2 j (ready_mono hj hji)).2;obtain⟨hjun,oj,hoj,hall⟩:=mem_ready.1 hj;have hnot:∀e∈oj.after,Region.binds md e=true→e.on≠i:=fun e he hb heq=>by
    have h1:=hall e he hb;rw[heq,getD_both hun] at h1;cases h1
   have h2:=qOp_put hoj (hfree j oj hoj hji hjun hnot) (fun cs b=>hsel i oi cs b hi) (fun cs b=>hsel j oj cs b hoj) hy h1;have hfree':∀k ok,ops[k]?=some ok→k≠i→(s.setIfInBounds j true).getD k true=false→
     (∀e∈ok.after,Region.binds md e=true→e.on≠i)→oi.apart ops ok=true:=fun k ok hk hki hu hno=>by
    refine hfree k ok hk hki ?_ hno
    by_cases hjk:j=k
    ·subst hjk;exact hjun
    ·rw[getD_set_ne true hjk] at hu;exact hu
   refine qOp_mono (fun a' h3=>ih (s.setIfInBounds j true) a' (inv.set hj hjn) hfree' (ready_mono hr (Ne.symm hji)) h3.1 ?_) h2;rw[Array.setIfInBounds_comm _ _ hji];exact h3.2
theorem head_lex {n g:Nat}{Lq:Act→Prop}(hsel:Region.noSelect ops=true)(hs:Region.sinkB md ops n=true)(hc:Region.chainB md ops n=true)(hn:n<ops.size):
  ∀(l:List Oper) (k:Nat) (s:Array Bool) (a:Act),(∀j,j<l.length→l[j]?=ops[k+j]?)→k+l.length=n→HeadInv md ops n s→
  Region.lexHead md ops g l.length k s=true→wpQuiet P ops C Lq l a→
  headAll P md ops C n (fun s' a'=>Region.seqB md ops g n s'=true∧Lq a') l.length s a
 |[],k,s,a,_,hk,_,hB,h=>by
  have:k=n:=by simpa using hk
  subst this;exact⟨by simpa [Region.lexHead] using hB,h⟩
 |o :: l,k,s,a,hl,hk,inv,hB,h=>by
  have h0:ops[k]?=some o:=by simpa using (hl 0 (by simp)).symm
  simp only[List.length_cons,Region.lexHead,Bool.and_eq_true] at hB;obtain⟨⟨hr,hf⟩,hB'⟩:=hB;have hkn:k<n:=by simp only[List.length_cons] at hk;omega
  have hr':k∈Region.ready md ops s:=by simpa using hr
  have hst:qOp P ops C k (wpQuiet P ops C Lq l) a:=by unfold qOp;simp only[h0];exact h
  obtain⟨v,hy,hK⟩:=yieldsIn_of_qOp h0 hst;exact head_first h0 (Region.noSelect_spec hsel) hs hc hn hkn (fun s' a' hL=>seqB_ready hL.1) l.length s a inv (Region.free_spec h0 hf) hr' hy
   (head_lex hsel hs hc hn l (k+1) _ _ (fun j hj=>by have:=hl (j+1) (by simp;omega);simpa [Nat.add_assoc,Nat.add_comm 1 j] using this) (by simp only[List.length_cons] at hk;omega) (inv.set hr' hkn) hB' hK)
theorem wp_region_quiet_tail {id:Nat}{Q:Exit→Act→World→Prop}{a:Act}{w:World}{l:List Oper}(n:Nat)(hm:P.follows .mixedOrders=true)(hB:Region.lexTailB .any l.toArray n=true)(hC:C { w with drawn:=w.drawn+1 })
  (h:wpQuiet P l.toArray C (fun a'=>∀w',C w'→wpList P l.toArray Q (l.drop n) a' w') (l.take n) a):(Code.region id l.toArray true).wp P Q a w:=by
 simp only[Region.lexTailB,Bool.and_eq_true,decide_eq_true_eq] at hB;obtain⟨⟨⟨⟨hsel,hn⟩,hs⟩,hc⟩,hlex⟩:=hB;have hn':n<l.length:=by simpa using hn
 have htl:(l.take n).length=n:=by simp;omega
 have hdl:(l.drop n).length=l.toArray.size - n:=by simp
 have inv0:HeadInv .any l.toArray n (Array.replicate l.toArray.size false):=
  ⟨by simp,fun j oj _ hl=>(by rw[getD_replicate_false] at hl;cases hl),fun t _ ht=>getD_in (by simpa using ht) (getD_replicate_false _ _)⟩
 have H:=head_lex (md:=.any) (g:=l.toArray.size - n) hsel hs hc hn (l.take n) 0 _ a (fun j hj=>by
  have hj':j<n:=by rw[htl] at hj;exact hj
  simp[hj']) (by simpa using htl) inv0 (by rw[htl];exact hlex) h
 refine wp_region_any hm ?_;have:=any_of_head (Q:=Q) (g:=l.toArray.size - n) (fun s a' w' hw' hL=>by
  have:=wpAny_of_seq (md:=.any) (Q':=Q) (l.drop n) n s a' w' (fun j=>by simp[List.getElem?_drop]) (by rw[hdl];exact hL.1) (hL.2 w' hw')
  rwa[hdl] at this) _ _ _ _ hC H
 rw[htl,show n+(l.toArray.size - n)=l.toArray.size by omega] at this;exact this
theorem wp_region_tail {id:Nat}{Q:Exit→Act→World→Prop}{a:Act}{w:World}{l:List Oper}(n:Nat)(hm:P.follows .mixedOrders=true)(hB:Region.lexTailB .any l.toArray n=true)
  (h:wpQuiet P l.toArray (fun w'=>∃p:Regrown,w'=grow (redrawn w p.d) p.os) (fun a'=>∀w',(∃p:Regrown,w'=grow (redrawn w p.d) p.os)→wpList P l.toArray Q (l.drop n) a' w') (l.take n) a):(Code.region id l.toArray true).wp P Q a w:=
 wp_region_quiet_tail (C:=fun w'=>∃p:Regrown,w'=grow (redrawn w p.d) p.os) n hm hB ⟨⟨w.drawn+1,#[]⟩,by rw[grow_empty];rfl⟩ h
end
end Go.Proofs.YtjobhjemnmleaaaGreatDoor
namespace Go.Proofs.YtjobhjemnmleaaaGreatDoor
open Go.RowKit
def At (w:World)(g:Nat)(xs:List Value):Prop:=g<w.heap.size∧∀i v,xs[i]?=some v→w.cell? ⟨g,i,none⟩=some v∧w.frozen? ⟨g,i,none⟩=false
section
variable {w w':World} {g B:Nat} {xs:List Value}
theorem At.new (w:World)(cs:Array Value)(t:TypeId):At (w.alloc (.cells cs t)) w.heap.size cs.toList:=by
 refine⟨by simp,fun i v h=>⟨?_,?_⟩⟩
 ·rw[World.cell?_alloc_new];simpa using h
 ·exact World.frozen?_alloc_new ..
theorem At.lt (h:At w g xs):g<w.heap.size:=h.1
theorem At.below (h:At w g xs)(hb:Below B w w')(hg:g<B):At w' g xs:=
 ⟨Nat.lt_of_lt_of_le h.1 hb.size,fun i v hi=>⟨(hb.cell (p:=⟨g,i,none⟩) hg).trans (h.2 i v hi).1,(hb.frozen (p:=⟨g,i,none⟩) hg).trans (h.2 i v hi).2⟩⟩
theorem At.call (h:At w g xs)(hb:Below w.heap.size w w'):At w' g xs:=h.below hb h.1
theorem At.drew (h:At w g xs)(hd:Drew w w'):At w' g xs:=by
 obtain⟨n,rfl⟩:=hd;exact⟨h.1,fun i v hi=>h.2 i v hi⟩
theorem At.alloc (h:At w g xs)(c:Array Value)(t:TypeId):At (w.alloc (.cells c t)) g xs:=
 h.below ((al):Below w.heap.size w _) h.1
theorem At.allocO (h:At w g xs)(o:Obj):At (w.alloc o) g xs:=
 h.below ((al):Below w.heap.size w _) h.1
theorem heap_set (w:World)(p:Addr)(v:Value):(w.setCell p v).heap.size=w.heap.size:=by simp
theorem At.set (h:At w g xs)(i:Nat)(v:Value):At (w.setCell ⟨g,i,none⟩ v) g (xs.set i v):=by
 refine⟨by rw[heap_set];exact h.1,fun j u hj=>⟨?_,?_⟩⟩
 ·by_cases e:i=j
  ·subst e;have hl:i<xs.length:=by
    have:=(List.getElem?_eq_some_iff.1 hj).1;simpa using this
   have hu:v=u:=by
    rw[List.getElem?_set_self hl] at hj;exact Option.some.inj hj
   subst hu;exact World.cell?_setCell_same _ _ _ (h.2 i _ (List.getElem?_eq_getElem hl)).1
  ·rw[List.getElem?_set_ne e] at hj;rw[World.cell?_setCell_other _ _ _ _ (by intro x;injection x with _ y _;exact e y)];exact(h.2 j u hj).1
 ·rw[World.frozen?_setCell]
  by_cases e:i=j
  ·subst e;have hl:i<xs.length:=by
    have:=(List.getElem?_eq_some_iff.1 hj).1;simpa using this
   exact(h.2 i _ (List.getElem?_eq_getElem hl)).2
  ·rw[List.getElem?_set_ne e] at hj;exact(h.2 j u hj).2
theorem At.set_other (h:At w g xs)(p:Addr)(v:Value)(hp:p.block≠g):At (w.setCell p v) g xs:=by
 refine⟨by rw[heap_set];exact h.1,fun j u hj=>⟨?_,?_⟩⟩
 ·rw[World.cell?_setCell_other _ _ _ _ (by intro x;subst x;exact hp rfl)];exact(h.2 j u hj).1
 ·rw[World.frozen?_setCell];exact(h.2 j u hj).2
theorem At.cell (h:At w g xs)(i:Nat)(v:Value)(hi:xs[i]?=some v):w.cell? ⟨g,i,none⟩=some v:=(h.2 i v hi).1
theorem At.free (h:At w g xs)(i:Nat)(v:Value)(hi:xs[i]?=some v):w.frozen? ⟨g,i,none⟩=false:=(h.2 i v hi).2
end
theorem At.c11 {w : World} {g : Nat} {a0 a1 a2 a3 a4 a5 a6 a7 a8 a9 a10 : Value} (h : At w g [a0, a1, a2, a3, a4, a5, a6, a7, a8, a9, a10]) : g < w.heap.size ∧ w.cell? ⟨g, 0, none⟩ = some a0 ∧ w.cell? ⟨g, 1, none⟩ = some a1 ∧ w.cell? ⟨g, 2, none⟩ = some a2 ∧ w.cell? ⟨g, 3, none⟩ = some a3 ∧ w.cell? ⟨g, 4, none⟩ = some a4 ∧ w.cell? ⟨g, 5, none⟩ = some a5 ∧ w.cell? ⟨g, 6, none⟩ = some a6 ∧ w.cell? ⟨g, 7, none⟩ = some a7 ∧ w.cell? ⟨g, 8, none⟩ = some a8 ∧ w.cell? ⟨g, 9, none⟩ = some a9 ∧ w.cell? ⟨g, 10, none⟩ = some a10 := ⟨h.1, h.cell 0 _ rfl, h.cell 1 _ rfl, h.cell 2 _ rfl, h.cell 3 _ rfl, h.cell 4 _ rfl, h.cell 5 _ rfl, h.cell 6 _ rfl, h.cell 7 _ rfl, h.cell 8 _ rfl, h.cell 9 _ rfl, h.cell 10 _ rfl⟩
theorem At.two {w:World}{g:Nat}{a b:Value}(h:At w g [a,b]):w.cell? ⟨g,0,none⟩=some a∧w.cell? ⟨g,1,none⟩=some b∧w.frozen? ⟨g,0,none⟩=false∧w.frozen? ⟨g,1,none⟩=false:=
 ⟨h.cell 0 a rfl,h.cell 1 b rfl,h.free 0 a rfl,h.free 1 b rfl⟩
theorem At.three {w:World}{g:Nat}{a b c:Value}(h:At w g [a,b,c]):w.cell? ⟨g,0,none⟩=some a∧w.cell? ⟨g,1,none⟩=some b∧w.cell? ⟨g,2,none⟩=some c∧
  w.frozen? ⟨g,0,none⟩=false∧w.frozen? ⟨g,1,none⟩=false∧w.frozen? ⟨g,2,none⟩=false:=
 ⟨h.cell 0 a rfl,h.cell 1 b rfl,h.cell 2 c rfl,h.free 0 a rfl,h.free 1 b rfl,h.free 2 c rfl⟩
theorem At.seven {w:World}{g:Nat}{a b c d e f k:Value}(h:At w g [a,b,c,d,e,f,k]):
  (w.cell? ⟨g,0,none⟩=some a∧w.cell? ⟨g,1,none⟩=some b∧w.cell? ⟨g,2,none⟩=some c∧w.cell? ⟨g,3,none⟩=some d∧w.cell? ⟨g,4,none⟩=some e∧w.cell? ⟨g,5,none⟩=some f∧w.cell? ⟨g,6,none⟩=some k)∧
  (w.frozen? ⟨g,0,none⟩=false∧w.frozen? ⟨g,1,none⟩=false∧w.frozen? ⟨g,2,none⟩=false∧w.frozen? ⟨g,3,none⟩=false∧w.frozen? ⟨g,4,none⟩=false∧w.frozen? ⟨g,5,none⟩=false∧w.frozen? ⟨g,6,none⟩=false):=
 ⟨⟨h.cell 0 a rfl,h.cell 1 b rfl,h.cell 2 c rfl,h.cell 3 d rfl,h.cell 4 e rfl,h.cell 5 f rfl,h.cell 6 k rfl⟩,⟨h.free 0 a rfl,h.free 1 b rfl,h.free 2 c rfl,h.free 3 d rfl,h.free 4 e rfl,h.free 5 f rfl,h.free 6 k rfl⟩⟩
end Go.Proofs.YtjobhjemnmleaaaGreatDoor
namespace Go.Proofs.YtjobhjemnmleaaaGreatDoor
open Go.RowKit Go.Sort
namespace Sm
structure S where
 y:Int
 mo:Int
 dw:Int
 d:Int
 h:Int
 mi:Int
 s:Int
 ms:Int
def S.v (s:S):Value:=.agg #[.int .u16 s.y,.int .u16 s.mo,.int .u16 s.dw,.int .u16 s.d,.int .u16 s.h,.int .u16 s.mi,.int .u16 s.s,.int .u16 s.ms]
theorem day_in {n:Int}(h1:-719162≤n)(h2:n<2932897):Cv.Valid (Cv.yearOf n) (Cv.monthOf n) (Cv.dayOf n)∧1≤Cv.dayOf n∧Cv.dayOf n≤31∧1≤Cv.monthOf n∧Cv.monthOf n≤12∧Cv.yearOf n≤9999:=by
 have h:=(Cv.num_of n h1 h2).1;have k:=valid_31 h;obtain⟨a1,a2,a3,a4,a5,a6⟩:=h;exact⟨⟨a1,a2,a3,a4,a5,a6⟩,k.1,k.2,a3,a4,a2⟩
theorem dow_in (n:Int):0≤dow n∧dow n≤6:=by unfold dow;omega
theorem wr16 {x:Int}(h:0≤x)(h2:x<65536):IntKind.u16.wrap x=x:=by
 rw[IntKind.wrap_u16];omega
end Sm
end Go.Proofs.YtjobhjemnmleaaaGreatDoor
namespace Go.Proofs.YtjobhjemnmleaaaGreatDoor
open Go.RowKit
namespace Sm
theorem len_in {y m:Int}(h1:1≤m)(h2:m≤12):28≤Cv.len y m∧Cv.len y m≤31:=by
 rw[Cv.len_month y m h1 h2];split
 ·split <;> omega
 ·split <;> omega
end Sm
end Go.Proofs.YtjobhjemnmleaaaGreatDoor
namespace Go.Proofs.YtjobhjemnmleaaaGreatDoor.Wd
end Go.Proofs.YtjobhjemnmleaaaGreatDoor.Wd
namespace Go.Proofs.YtjobhjemnmleaaaGreatDoor
open Go.RowKit
theorem reads_str {w:World}{B:Nat}{A:Option Addr}{n k:Nat}{ss:List ByteArray}(h:Reads w B 1 A n (ss.map Value.string))(hk:k<n):
  ∃ad nm,A=some ad∧Hid (ss[k]?=some nm)∧w.cell? (ad.add k)=some (.string nm):=by
 obtain⟨ad,u,e,_,hx,hc⟩:=h.at_ hk;rw[List.getElem?_map] at hx
 match hs:ss[k]? with
 |none=>rw[hs] at hx;simp at hx
 |some nm=>
  rw[hs] at hx;obtain rfl:Value.string nm=u:=by simpa using hx
  exact⟨ad,nm,e,rfl,hc⟩
theorem drop_of {α:Type}{l:List α}{k:Nat}{a:α}(h:l[k]?=some a):l.drop k=a :: l.drop (k+1):=by
 obtain⟨hk,e⟩:=List.getElem?_eq_some_iff.1 h;rw[List.drop_eq_getElem_cons hk,e]
def strCells (l:List ByteArray):Array Value:=(l.map Value.string).toArray
theorem reads_new (w:World)(l:List ByteArray)(t:TypeId):Reads (w.alloc (.cells (strCells l) t)) (w.alloc (.cells (strCells l) t)).heap.size 1 (some ⟨w.heap.size,0,none⟩) l.length (l.map Value.string):=by
 refine⟨by simp,fun _=>⟨_,rfl,by simp,fun j u hu=>?_⟩⟩;have h:=cell_of_row (w.alloc (.cells (strCells l) t)) w.heap.size j (strCells l) t (0,0) (heap_alloc_new w _);have e:(⟨w.heap.size,0,none⟩:Addr).add j=⟨w.heap.size,j,none⟩:=by
  unfold Addr.add;split
  ·subst_vars;rfl
  ·simp
 rw[e,h];simpa [strCells] using hu
end Go.Proofs.YtjobhjemnmleaaaGreatDoor
namespace Go.Proofs.YtjobhjemnmleaaaGreatDoor.Dy
open Go.RowKit
def Ok (k n w:Int):Prop:=(k=0∧1≤n∧n≤31∧w=0)∨(k=1∧n=0∧0≤w∧w≤6)∨((k=2∨k=3)∧1≤n∧n≤31∧0≤w∧w≤6)
instance (k n w:Int):Decidable (Ok k n w):=by unfold Ok;exact inferInstance
end Go.Proofs.YtjobhjemnmleaaaGreatDoor.Dy
namespace Go.Proofs.YtjobhjemnmleaaaGreatDoor
open Go.RowKit
theorem dayCheck_ok (k n d:Int)(w:World)(h:Dy.Ok k n d):
  Calls Tryz.prog 127 #[.agg #[.int .u8 k,.int .i64 n,.int .i64 d]] w fun e w'=>e=.returned (.int .i64 0)∧Below w.heap.size w w':=by
 rcases h with ⟨rfl,h1,h2,rfl⟩|⟨rfl,rfl,h1,h2⟩|⟨rfl|rfl,h1,h2,h3,h4⟩
 all_goals
  go_enter Tryz.func127,Tryz.ntmps127
  go_wp2;go_ret
  exact⟨rfl,al⟩
theorem dayCheck_bad (k n d:Int)(w:World)(h:¬Dy.Ok k n d):
  Calls Tryz.prog 127 #[.agg #[.int .u8 k,.int .i64 n,.int .i64 d]] w fun e w'=>e=.returned (.int .i64 2)∧Below w.heap.size w w':=by
 have H:=ak h;clear h
 by_cases k0:k=0
 ·subst k0;go_enter Tryz.func127,Tryz.ntmps127
  go_wp2
  all_goals first
   |(exfalso;refine H.out ?_;unfold Dy.Ok;omega)
   |(go_ret;exact⟨rfl,al⟩)
 by_cases k1:k=1
 ·subst k1;go_enter Tryz.func127,Tryz.ntmps127
  go_wp2
  all_goals first
   |(exfalso;refine H.out ?_;unfold Dy.Ok;omega)
   |(go_ret;exact⟨rfl,al⟩)
 by_cases k2:k=2
 ·subst k2;go_enter Tryz.func127,Tryz.ntmps127
  go_wp2
  all_goals first
   |(exfalso;refine H.out ?_;unfold Dy.Ok;omega)
   |(go_ret;exact⟨rfl,al⟩)
 by_cases k3:k=3
 ·subst k3;go_enter Tryz.func127,Tryz.ntmps127
  go_wp2
  all_goals first
   |(exfalso;refine H.out ?_;unfold Dy.Ok;omega)
   |(go_ret;exact⟨rfl,al⟩)
 have e0:(k == 0)=false:=by simp[k0]
 have e1:(k == 1)=false:=by simp[k1]
 have e2:(k == 2)=false:=by simp[k2]
 have e3:(k == 3)=false:=by simp[k3]
 clear k0 k1 k2 k3;go_enter Tryz.func127,Tryz.ntmps127
 go_wp2;go_ret
 exact⟨rfl,al⟩
structure Wo (w:World):Prop where
 lens:Lens w
 maxl:∃m,w.cell? ⟨2,0,none⟩=some (.int .i64 m)
theorem Wo.below {w w':World}(h:Wo w)(hb:Below w.heap.size w w'):Wo w':=by
 refine⟨h.lens.below hb,?_⟩;obtain⟨m,hm⟩:=h.maxl;exact⟨m,(hb.cell (p:=⟨_,0,none⟩) (block_lt_of_cell hm)).trans hm⟩
theorem tl_mk (l:List UInt8):tl ⟨l.toArray⟩=l:=by simp[tl]
theorem cut_len (s sep:List UInt8):(Lib.cut s sep).1.length≤s.length∧(Lib.cut s sep).2.1.length≤s.length:=by
 unfold Lib.cut;split
 ·simp only[List.length_take,List.length_drop];omega
 ·simp
theorem new3 {w w1:World}{a b c:Value}{t:TypeId}(hb:Below (w.heap.size+1) (w.alloc (.cells #[a,b,c] t)) w1):
  w1.cell? ⟨w.heap.size,0,none⟩=some a∧w1.cell? ⟨w.heap.size,1,none⟩=some b∧w1.cell? ⟨w.heap.size,2,none⟩=some c∧
  w1.frozen? ⟨w.heap.size,0,none⟩=false∧w1.frozen? ⟨w.heap.size,1,none⟩=false∧w1.frozen? ⟨w.heap.size,2,none⟩=false:=by
 have h:∀i,w1.cell? ⟨w.heap.size,i,none⟩=#[a,b,c][i]?:=fun i=>(hb.cell (p:=⟨w.heap.size,i,none⟩) (Nat.lt_succ_self _)).trans (cell_of_row _ w.heap.size i _ _ _ (heap_alloc_new w _))
 have hf:∀i,w1.frozen? ⟨w.heap.size,i,none⟩=false:=fun i=>(hb.frozen (p:=⟨w.heap.size,i,none⟩) (Nat.lt_succ_self _)).trans (by have e:=heap_alloc_new w (.cells #[a,b,c] t);unfold World.frozen?;simp only[e];simp)
 exact⟨h 0,h 1,h 2,hf 0,hf 1,hf 2⟩
theorem below_new {w w1:World}{o:Obj}(hb:Below (w.heap.size+1) (w.alloc o) w1):Below w.heap.size w w1:=(al).trans (hb.mono (Nat.le_succ _))
end Go.Proofs.YtjobhjemnmleaaaGreatDoor
