/- A region that draws its order, by an invariant: what is done, what the slots hold, the world. -/
import Derived.Orders
import Derived.Test.YtjobhjemnmleaaaGreatDoorR25
set_option maxRecDepth 200000
set_option maxHeartbeats 16000000
namespace Go.Proofs.YtjobhjemnmleaaaGreatDoor
open Go.RowKit
namespace Od
def slots (a:Act):Nat→Value:=fun k=>a.tmps.getD k undef
def upd {α:Type}(f:Nat→α)(i:Nat)(v:α):Nat→α:=fun j=>if j=i then v else f j
def updo (u:Nat→Value)(d:Option Tmp)(v:Value):Nat→Value:=match d with
 |some k=>upd u k v
 |none=>u
theorem slots_put {a:Act}{d:Option Tmp}{v:Value}(h:∀k,d=some k→k<a.tmps.size):slots (a.put d v)=updo (slots a) d v:=by
 cases d with
 |none=>rfl
 |some k=>
  have hk:=h k rfl
  funext j
  show (a.tmps.setIfInBounds k v).getD j undef=if j=k then v else a.tmps.getD j undef
  by_cases e:j=k
  ·subst e;rw[if_pos rfl];simp[Array.getD,hk]
  ·rw[if_neg e];simp only[Array.getD_eq_getD_getElem?,Array.getElem?_setIfInBounds,if_neg (Ne.symm e)]
theorem size_put {a:Act}{d:Option Tmp}{v:Value}:(a.put d v).tmps.size=a.tmps.size:=by
 cases d with
 |none=>rfl
 |some k=>show (a.tmps.setIfInBounds k v).size=_;simp
theorem defers_put {a:Act}{d:Option Tmp}{v:Value}:(a.put d v).defers=a.defers:=by cases d <;> rfl
theorem count_set : ∀(l:List Bool) (i:Nat),l[i]?=some false→(l.set i true).count false+1=l.count false
 |[],i,h=>by simp at h
 |x :: l,0,h=>by
  simp at h
  subst h;simp
 |x :: l,i+1,h=>by
  have:=count_set l i (by simpa using h);simp only[List.set_cons_succ,List.count_cons];omega
theorem all_true : ∀(l:List Bool),l.count false=0→∀x∈l,x=true
 |[],_,x,hx=>by cases hx
 |y :: l,h,x,hx=>by
  simp only[List.count_cons] at h;have h1:l.count false=0:=by omega
  have h2:y=true:=by
   cases y
   ·simp at h
   ·rfl
  rcases List.mem_cons.1 hx with rfl|hx
  ·exact h2
  ·exact all_true l h1 x hx
theorem ord_of {ops:Array Oper}(h:((List.range ops.size).all fun j=>match ops[j]? with
  |some o=>o.after.toList.all fun e=>!Region.binds .any e || decide (e.on<j)
  |none=>true)=true):∀(j:Nat) o,ops[j]?=some o→∀e∈o.after,Region.binds .any e=true→e.on<j:=by
 intro j o hj e he hbi;have h1:=List.all_eq_true.1 h j (List.mem_range.2 (Array.getElem?_eq_some_iff.1 hj).1);rw[hj] at h1;have h2:=List.all_eq_true.1 h1 e (Array.mem_toList_iff.2 he);rw[hbi] at h2;exact of_decide_eq_true (by simpa using h2)
theorem dst_of {ops:Array Oper}{N:Nat}(h:((List.range ops.size).all fun j=>match ops[j]? with
  |some o=>(match o.dst with
   |some d=>decide (d<N)
   |none=>true)
  |none=>true)=true):∀(j:Nat) o d,ops[j]?=some o→o.dst=some d→d<N:=by
 intro j o d hj hd;have h1:=List.all_eq_true.1 h j (List.mem_range.2 (Array.getElem?_eq_some_iff.1 hj).1);rw[hj] at h1;simp only[hd] at h1;exact of_decide_eq_true h1
section
variable {P:Program} {ops:Array Oper} {Q:Exit→Act→World→Prop}
theorem ready_nil_all {s:Array Bool}(hs:s.size=ops.size)(hord:∀(j:Nat) o,ops[j]?=some o→∀e∈o.after,Region.binds .any e=true→e.on<j)(h:Region.ready .any ops s=[]):∀j,j<ops.size→s.getD j false=true:=by
 intro j
 induction j using Nat.strongRecOn with
 |ind j ih=>
  intro hj;cases hb:s.getD j false with
  |true=>rfl
  |false=>
   exfalso
   have hb':s.getD j true=false:=by
    have:j<s.size:=(by omega);simp[Array.getD,this] at hb ⊢
    exact hb
   have:j∈Region.ready .any ops s:=mem_ready.2 ⟨hb',ops[j],Array.getElem?_eq_getElem hj,fun e he hbi=>ih e.on (hord j _ (Array.getElem?_eq_getElem hj) e he hbi) (by have:=hord j _ (Array.getElem?_eq_getElem hj) e he hbi;omega)⟩;rw[h] at this;cases this
theorem wpAny_inv (N:Nat)(hord:∀(j:Nat) o,ops[j]?=some o→∀e∈o.after,Region.binds .any e=true→e.on<j)(hdst:∀(j:Nat) o d,ops[j]?=some o→o.dst=some d→d<N)
  (J:(Nat→Bool)→(Nat→Value)→World→Prop)
  (hstep:∀i o,ops[i]?=some o→∀(b:Nat→Bool) (a:Act) (w:World),J b (slots a) w→b i=false→(∀e∈o.after,Region.binds .any e=true→b e.on=true)→a.defers=[]→
   ∀K:Act→World→Prop,(∀v w',J (upd b i true) (updo (slots a) o.dst v) w'→K (a.put o.dst v) w')→if Region.wanted o (yielded ops a.tmps)=true then Oper.wp P o a w K Q else K (a.put o.dst undef) w)
  (hend:∀(a:Act) (w:World),J (fun j=>decide (j<ops.size)) (slots a) w→a.tmps.size=N→a.defers=[]→Q .normal a w):
  ∀(g:Nat) (s:Array Bool) (a:Act) (w:World),s.size=ops.size→s.toList.count false≤g→a.tmps.size=N→a.defers=[]→J (fun j=>s.getD j false) (slots a) w→wpAny P .any ops Q g s a w:=by
 have fin:∀(s:Array Bool) (a:Act) (w:World),s.size=ops.size→(∀j,j<ops.size→s.getD j false=true)→a.tmps.size=N→a.defers=[]→J (fun j=>s.getD j false) (slots a) w→Q .normal a w:=by
  intro s a w hs hall hN hd hJ;refine hend a w ?_ hN hd;have:(fun j=>s.getD j false)=fun j=>decide (j<ops.size):=by
   funext j
   by_cases hj:j<ops.size
   ·rw[hall j hj,decide_eq_true hj]
   ·rw[decide_eq_false hj];simp[Array.getD,hs,hj]
  rw[this] at hJ;exact hJ
 intro g
 induction g with
 |zero=>
  intro s a w hs hc hN hd hJ;have hall:∀j,j<ops.size→s.getD j false=true:=by
   intro j hj;have hj':j<s.size:=(by omega);have:=all_true s.toList (by omega) s[j] (by simp);simp[Array.getD,hj',this]
  have hr:Region.ready .any ops s=[]:=by
   cases e:Region.ready .any ops s with
   |nil=>rfl
   |cons i l=>
    exfalso
    obtain⟨h1,o,ho,_⟩:=mem_ready.1 (show i∈Region.ready .any ops s by rw[e];exact List.mem_cons_self);have hi:i<ops.size:=(Array.getElem?_eq_some_iff.1 ho).1;have h2:=hall i hi;have hi':i<s.size:=(by omega);simp[Array.getD,hi'] at h1 h2
    rw[h1] at h2;cases h2
  exact⟨hr,fin s a w hs hall hN hd hJ⟩
 |succ g ih=>
  intro s a w hs hc hN hd hJ;refine⟨fun hr=>fin s a w hs (ready_nil_all hs hord hr) hN hd hJ,fun i hi=>?_⟩;obtain⟨h1,o,ho,hdep⟩:=mem_ready.1 hi;have hio:i<ops.size:=(Array.getElem?_eq_some_iff.1 ho).1;have hi':i<s.size:=by omega
  have hsi:s[i]=false:=by simpa [Array.getD,hi'] using h1
  refine wpOp_step ho fun K hK=>hstep i o ho (fun j=>s.getD j false) a w hJ (by simp[Array.getD,hi',hsi]) hdep hd K fun v w' hJ'=>hK _ _ (ih _ _ _ (by simp[hs]) ?_ (by rw[size_put];exact hN) (by rw[defers_put];exact hd) ?_)
  ·have:=count_set s.toList i (by simp[hi',hsi]);rw[Array.toList_setIfInBounds];omega
  ·rw[slots_put (fun k hk=>by rw[hN];exact hdst i o k ho hk)];have:(fun j=>(s.setIfInBounds i true).getD j false)=upd (fun j=>s.getD j false) i true:=by
    funext j
    unfold upd
    by_cases e:j=i
    ·subst e;rw[if_pos rfl];simp[Array.getD,hi']
    ·rw[if_neg e];simp only[Array.getD_eq_getD_getElem?,Array.getElem?_setIfInBounds,if_neg (Ne.symm e)]
   rw[this];exact hJ'
theorem wp_region_inv {id:Nat}{a:Act}{w:World}(N:Nat)(hm:P.follows .mixedOrders=true)(hN:a.tmps.size=N)(hd:a.defers=[])(hord:∀(j:Nat) o,ops[j]?=some o→∀e∈o.after,Region.binds .any e=true→e.on<j)(hdst:∀(j:Nat) o d,ops[j]?=some o→o.dst=some d→d<N)
  (J:(Nat→Bool)→(Nat→Value)→World→Prop) (h0:J (fun _=>false) (slots a) w.drew)
  (hstep:∀i o,ops[i]?=some o→∀(b:Nat→Bool) (a:Act) (w:World),J b (slots a) w→b i=false→(∀e∈o.after,Region.binds .any e=true→b e.on=true)→a.defers=[]→
   ∀K:Act→World→Prop,(∀v w',J (upd b i true) (updo (slots a) o.dst v) w'→K (a.put o.dst v) w')→if Region.wanted o (yielded ops a.tmps)=true then Oper.wp P o a w K Q else K (a.put o.dst undef) w)
  (hend:∀(a:Act) (w:World),J (fun j=>decide (j<ops.size)) (slots a) w→a.tmps.size=N→a.defers=[]→Q .normal a w):(Code.region id ops true).wp P Q a w:=by
 refine wp_region_any hm ?_;refine wpAny_inv N hord hdst J hstep hend ops.size _ a _ (by simp) (by simp) hN hd ?_;have:(fun j=>(Array.replicate ops.size false).getD j false)=fun _=>false:=by
  funext j
  simp[Array.getD]
 rw[this];exact h0
end
end Od
end Go.Proofs.YtjobhjemnmleaaaGreatDoor
namespace Go.Proofs.YtjobhjemnmleaaaGreatDoor
open Go.RowKit
namespace Rg
open Od
structure J (n:Nat)(sl:Nat→Nat)(P:Nat→Value→World→Prop)(w0:World)(u0:Nat→Value)(b:Nat→Bool)(u:Nat→Value)(w:World):Prop where
 below:Below w0.heap.size w0 w
 old:∀j,(∀k,k<n→sl k≠j)→u j=u0 j
 val:∀k,k<n→b k=true→P k (u (sl k)) w
section
variable {n:Nat} {sl:Nat→Nat} {P:Nat→Value→World→Prop} {w0 w w':World} {u0 u:Nat→Value} {b:Nat→Bool}
theorem J.start (w0 w:World)(u0:Nat→Value)(hb:Below w0.heap.size w0 w):J n sl P w0 u0 (fun _=>false) u0 w:=⟨hb,fun _ _=>rfl,fun _ _ e=>(by cases e)⟩
theorem J.step (h:J n sl P w0 u0 b u w)(hm:∀k v W W',P k v W→Below W.heap.size W W'→P k v W')(hi:∀j,j<n→∀k,k<n→sl j=sl k→j=k){k:Nat}(hk:k<n){v:Value}(hb:Below w.heap.size w w')(hv:P k v w'):J n sl P w0 u0 (upd b k true) (upd u (sl k) v) w':=by
 refine⟨below_then h.below hb,fun j hj=>?_,fun j hj hbj=>?_⟩
 ·unfold upd;rw[if_neg (fun e=>hj k hk e.symm)];exact h.old j hj
 ·by_cases hjk:j=k
  ·subst hjk;unfold upd;rw[if_pos rfl];exact hv
  ·have e1:b j=true:=by
    unfold upd at hbj
    rwa[if_neg hjk] at hbj
   unfold upd;rw[if_neg (fun e=>hjk (hi j hj k hk e))];exact hm _ _ _ _ (h.val j hj e1) hb
theorem J.put (h:J n sl P w0 u0 b u w)(hm:∀k v W W',P k v W→Below W.heap.size W W'→P k v W')(hi:∀j,j<n→∀k,k<n→sl j=sl k→j=k){k:Nat}(hk:k<n){v:Value}(hv:P k v w):J n sl P w0 u0 (upd b k true) (upd u (sl k) v) w:=h.step hm hi hk (Below.refl _ _) hv
end
theorem getD_bool {tm:Array Value}{k:Nat}{x:Bool}(h:tm.getD k undef=.bool x):tm[k]?=some (.bool x):=by
 rw[Array.getD_eq_getD_getElem?] at h;cases e:tm[k]? with
 |none=>rw[e] at h;cases h
 |some v=>rw[e] at h;rw[← h];rfl
theorem want {ops:Array Oper}{tm:Array Value}{o:Oper}{j t:Nat}{x:Bool}(hg:o.guard=some (j,x))(hd:(ops[j]?).bind (·.dst)=some t)(hv:tm.getD t undef=.bool x):Region.wanted o (yielded ops tm)=true:=by
 unfold Region.wanted;rw[hg];unfold yielded;simp only[hd,Option.bind_some,getD_bool hv,beq_self_eq_true]
theorem frame_of (n:Nat)(a:Act)(hs:a.tmps.size=n)(hd:a.defers=[]):a={ tmps:=((List.range n).map fun i=>a.tmps.getD i undef).toArray,defers:=[] }:=by
 obtain⟨t,d⟩:=a;simp only at hs hd;subst hd
 congr 1
 apply Array.ext
 ·simp[hs]
 ·intro i h1 h2;simp[h1]
end Rg
end Go.Proofs.YtjobhjemnmleaaaGreatDoor
namespace Go.Proofs.YtjobhjemnmleaaaGreatDoor
open Go.RowKit Go.Shelf
attribute [local go_sem] Oper.semAt_some
namespace Er2
def sl : Nat→Nat
 |0=>24
 |1=>25
 |2=>26
 |3=>27
 |4=>28
 |5=>29
 |6=>30
 |7=>31
 |8=>32
 |9=>33
 |10=>34
 |11=>35
 |12=>36
 |13=>37
 |14=>38
 |15=>23
 |16=>39
 |17=>40
 |18=>6
 |_=>7
def Q (gd bE B:Nat)(rv zv lv:Value)(ru:ByteArray)(fr te y1 y2:Int)(rl:List Ru.R)(oc:List Oc.E):Nat→Value→World→Prop
 |0,v,_=>v=.pointer (some ⟨gd,0,none⟩)
 |1,v,_=>v=.pointer (some ⟨gd,0,none⟩)
 |2,v,_=>v=.pointer (some ⟨gd,0,none⟩)
 |3,v,_=>v=.agg #[rv,zv,lv]
 |4,v,_=>v=.pointer (some ⟨bE,3,none⟩)
 |5,v,_=>v=.string ru
 |6,v,W=>∃A c,v=.slice A rl.length c∧Reads W W.heap.size 11 A rl.length (rl.flatMap Ru.R.cells)
 |7,v,_=>v=.int .i64 fr
 |8,v,_=>v=.int .i64 y1
 |9,v,_=>v=.int .i64 (y1 - 1)
 |10,v,_=>v=.int .i64 te
 |11,v,_=>v=.int .i64 (te - 1)
 |12,v,_=>v=.int .i64 y2
 |13,v,_=>v=.int .i64 (y2+1)
 |14,v,W=>∃u,v=.tuple #[u,.int .i64 0]∧W.ownsRow B 272 5 u oc.length (oc.flatMap Oc.E.occ)
 |15,v,W=>∃u,v=.tuple #[u,.int .i64 0]∧W.ownsRow B 272 5 u oc.length (oc.flatMap Oc.E.occ)
 |16,v,W=>W.ownsRow B 272 5 v oc.length (oc.flatMap Oc.E.occ)
 |17,v,_=>v=.int .i64 0
 |18,v,W=>W.ownsRow B 272 5 v oc.length (oc.flatMap Oc.E.occ)
 |19,v,_=>v=.int .i64 0
 |_,_,_=>True
theorem Q_mono {gd bE B:Nat}{rv zv lv:Value}{ru:ByteArray}{fr te y1 y2:Int}{rl:List Ru.R}{oc:List Oc.E}:∀k v W W',Q gd bE B rv zv lv ru fr te y1 y2 rl oc k v W→Below W.heap.size W W'→Q gd bE B rv zv lv ru fr te y1 y2 rl oc k v W':=by
 intro k v W W' h hb;unfold Q at h ⊢;split at h
 all_goals first|exact h|(obtain⟨A,c,h1,h2⟩:=h;exact⟨A,c,h1,(h2.below hb).more hb.size⟩)|(obtain⟨u,h1,h2⟩:=h;exact⟨u,h1,own_below h2 hb⟩)|(exact own_below h hb)
theorem sl_inj : ∀j,j<20→∀k,k<20→sl j=sl k→j=k:=by decide +kernel
theorem sl_no : ∀j,j∈[0,1,2,3,4]→∀k,k<20→sl k≠j:=by decide +kernel
end Er2
theorem inEra1_rules (n:Nat)(l bE bF bD bT gd:Nat)(s:Src.S)(rv zv lv:Value)(evs:List Value)(z:Int)(eA:Option Addr)(m ec:Nat)(fr0 te0:Int)(e:Er.E)(fr te:Int)(w0:World)(JY JX:List Ln.Sp→World→Prop)
  (hD:Ln.Dr s rv zv lv evs z eA m ec fr0 te0 gd w0)
  (hk:e.k=2) (h1:IsTime e.std) (hlt:fr<te) (hd1:Ln.InDays fr) (hd2:Ln.InDays (te - 1)) (hy1:2≤Ln.yr fr) (hy2:Ln.yr (te - 1)≤9998)
  (N:Nat) (hN:(Ln.inEra s.rules e fr te).length≤N)
  (hY:∀pre x W,JY pre W→pre.length<N→YieldAt Fence.wide n Tryz.prog l #[x.v] W (Ln.Yd w0.heap.size JY JX pre x W))
  (hJ:∀pre W W',JY pre W→Below W.heap.size W W'→JY pre W')
  (W:World) (hB:Ln.EB bE bF bD bT gd w0.heap.size e fr te w0 W) (h0:JY [] W):
  CallsIn Fence.wide (n+1) Tryz.prog 185 #[.func (.yield l) #[] #[],.pointer (some ⟨bE,0,none⟩),.pointer (some ⟨bF,0,none⟩),.pointer (some ⟨bD,0,none⟩),.pointer (some ⟨bT,0,none⟩)] W (Ln.SqRet (Ln.inEra s.rules e fr te) JY JX):=by
 have hin:Ln.inEra s.rules e fr te=Ln.inGo e.std fr (Oc.of (Src.ofName e.ru s.rules) (Ln.yr fr - 1) (Ln.yr (te - 1)+1)).reverse te:=by unfold Ln.inEra;rw[if_pos hk]
 obtain⟨rl,hrl⟩:=aj (Src.ofName e.ru s.rules)
 obtain⟨y1,hy1e⟩:=aj (Ln.yr fr)
 obtain⟨y2,hy2e⟩:=aj (Ln.yr (te - 1))
 have hyb:y1≤9999∧1≤y2:=by
  rw[← hy1e,← hy2e];exact⟨(year_in _ hd1.1 hd1.2).2,(year_in _ hd2.1 hd2.2).1⟩
 have hy12:y1≤y2:=by
  have a:=Ln.yr_bd hd1;have b:=Ln.yr_bd hd2;rw[hy1e] at a;rw[hy2e] at b;rcases Int.lt_or_le y2 y1 with q|q
  ·have:=Oc.D_mono (show y2+1≤y1 by omega);omega
  ·exact q
 obtain⟨oc,hoc⟩:=aj (Oc.of rl (y1 - 1) (y2+1))
 rw[hrl,hy1e,hy2e,hoc] at hin;rw[hin] at hN ⊢;have HYa:=ak fun W=>by
  have:=lnYear_any fr W hd1;rw[hy1e] at this;exact this
 have HYb:=ak fun W=>by
  have:=lnYear_any (te - 1) W hd2;rw[hy2e] at this;exact this
 rw[hy1e] at hy1;rw[hy2e] at hy2;have HRl:Hid (∀W',Below w0.heap.size w0 W'→Calls Tryz.prog 148 #[.agg #[rv,zv,lv],.string e.ru] W' fun e w'=>∃v,e=.returned v∧Below W'.heap.size W' w'∧w'.ownsRow W'.heap.size 112 11 v rl.length (rl.flatMap Ru.R.cells)):=fun W' hb=>by
  have:=srcRules_any s rv zv lv evs e.ru W' (hD.call hb).src hD.ok.len;rw[hrl] at this;exact this
 have HOf:Hid (∀W' A c,Below w0.heap.size w0 W'→Reads W' W'.heap.size 11 A rl.length (rl.flatMap Ru.R.cells)→Calls Tryz.prog 168 #[.slice A rl.length c,.int .i64 (y1 - 1),.int .i64 (y2+1)] W' fun e w'=>Below W'.heap.size W' w'∧∃v,e=.returned (.tuple #[v,.int .i64 0])∧w'.ownsRow W'.heap.size 272 5 v oc.length (oc.flatMap Oc.E.occ)):=fun W' A c hb hr=>by
  have hok:=hD.ok.of e.ru;rw[hrl] at hok;refine(ocOfW_any rl A c (y1 - 1) (y2+1) W' hr hok.ok (hD.call hb).wo hok.len (by omega) (by omega)).mono ?_;rintro e w' ⟨hb',⟨hbad,_⟩|⟨_,v,rfl,ho⟩⟩
  ·exact absurd hbad (by omega)
  ·rw[hoc] at ho;exact⟨hb',v,rfl,ho⟩
 have HGd:Hid (∀W',Below w0.heap.size w0 W'→W'.cell? ⟨gd,0,none⟩=some rv∧W'.cell? ⟨gd,1,none⟩=some zv∧W'.cell? ⟨gd,2,none⟩=some lv):=fun W' hb=>⟨(hD.call hb).at_.cell 0 _ rfl,(hD.call hb).at_.cell 1 _ rfl,(hD.call hb).at_.cell 2 _ rfl⟩
 have HGz:Hid (∀W',Below w0.heap.size w0 W'→gd<W'.heap.size):=fun W' hb=>(hD.call hb).at_.lt
 have HEv:Hid (∀o∈oc,Ln.OcOk e.std o):=by
  have hok:=hD.ok.of e.ru;have hwc:∀r∈Src.ofName e.ru s.rules,0≤r.c:=fun r hr=>hD.wc r (Ln.ofName_mem hr)
  rw[hrl] at hok hwc;rw[← hoc];exact Ln.oc_ok hok hwc h1
 have HY1:Hid (2≤y1∧y1≤9999):=⟨hy1,hyb.1⟩
 have HY2:Hid (1≤y2∧y2≤9998):=⟨hyb.2,hy2⟩
 have HTe:Hid (-62135596800≤te - 1∧te - 1<253402300800):=by
  unfold Ln.InDays at hd2;show _∧_
  omega
 have HY:=ak hY;have HJ:=ak hJ;have HN:=ak hN;have HB:=ak hB;have H0:=ak h0;have hA:=hB.e.at_;obtain⟨std,ek,esv,ru,fm,en,⟨y,mm,dk,dn,dd,sc,cc⟩⟩:=e;simp only at hk h1 hN HN HRl HEv ⊢;obtain rfl:ek=2:=hk;have e1:=hA.cell 1 _ rfl;have z1:=hB.e.lt;clear hD hd1 hd2 hy1 hy2 hyb hin hN hY hJ hB h0 hA hrl hy1e hy2e hoc hlt;refine callsIn_of_wp Tryz.func185 rfl trivial ?_ rfl;simp only[Tryz.ntmps185,List.size_toArray,List.length_cons,List.length_nil,Nat.reduceAdd,Nat.reduceSub,Array.replicate_succ,Array.replicate_zero,List.push_toArray,List.append_toArray,List.nil_append,List.cons_append];refine wpIn_wide.2 ?_;go_wp2_with fail
 refine Od.wp_region_inv 110 (by kernel_rfl) (by rfl) (by rfl) (Od.ord_of (by kernel_rfl)) (Od.dst_of (by kernel_rfl)) (Rg.J 20 Er2.sl (Er2.Q gd bE W.heap.size rv zv lv ru fr te y1 y2 rl oc) W (Od.slots _)) (Rg.J.start _ _ _ ((Below.refl _ _).drew)) ?stepR ?finR
 case stepR=>
  intro i o hi b' a' wv hJ hb hdep hdf K hK;obtain⟨tm,df⟩:=a';simp only at hdf;subst hdf;have hiN:i<20:=(Array.getElem?_eq_some_iff.1 hi).1;have HBv:=HB.out.call hJ.below (Nat.le_refl _);have hsplit:i=0∨i=1∨i=2∨i=3∨i=4∨i=5∨i=6∨i=7∨i=8∨i=9∨i=10∨i=11∨i=12∨i=13∨i=14∨i=15∨i=16∨i=17∨i=18∨i=19:=by omega
  rcases hsplit with rfl|rfl|rfl|rfl|rfl|rfl|rfl|rfl|rfl|rfl|rfl|rfl|rfl|rfl|rfl|rfl|rfl|rfl|rfl|rfl
  all_goals obtain rfl:=sji (show some _=some o from hi)
  all_goals first|rw[if_pos (show Region.wanted _ _=true from rfl)]|skip
  all_goals (have h3:tm.getD 3 undef=.pointer (some ⟨bD,0,none⟩):=(hJ.old 3 (Er2.sl_no 3 (by decide))).trans rfl;have h3':=gdq h3)
  all_goals have c0:=HBv.d.at_.cell 0 _ rfl
  all_goals have z0:=HBv.d.lt
  all_goals try have v0:tm.getD 24 undef=.pointer (some ⟨gd,0,none⟩):=by(refine hJ.val 0 (by decide) (hdep ⟨0,.data⟩ ?_ rfl);simp <;> fail)
  all_goals try have v0':=gdq v0
  all_goals try have v1:tm.getD 25 undef=.pointer (some ⟨gd,0,none⟩):=by(refine hJ.val 1 (by decide) (hdep ⟨1,.data⟩ ?_ rfl);simp <;> fail)
  all_goals try have v1':=gdq v1
  all_goals (have h1:tm.getD 1 undef=.pointer (some ⟨bE,0,none⟩):=(hJ.old 1 (Er2.sl_no 1 (by decide))).trans rfl;have h1':=gdq h1)
  all_goals try have v4:tm.getD 28 undef=.pointer (some ⟨bE,3,none⟩):=by(refine hJ.val 4 (by decide) (hdep ⟨4,.data⟩ ?_ rfl);simp <;> fail)
  all_goals try have v4':=gdq v4
  all_goals have c0:=HBv.e.at_.cell 3 _ rfl
  all_goals have z0:=HBv.e.lt
  all_goals (have h2:tm.getD 2 undef=.pointer (some ⟨bF,0,none⟩):=(hJ.old 2 (Er2.sl_no 2 (by decide))).trans rfl;have h2':=gdq h2)
  all_goals have c0:=HBv.f.at_.cell 0 _ rfl
  all_goals have z0:=HBv.f.lt
  all_goals try have v8:tm.getD 32 undef=.int .i64 y1:=by(refine hJ.val 8 (by decide) (hdep ⟨8,.data⟩ ?_ rfl);simp <;> fail)
  all_goals try have v8':=gdq v8
  all_goals have q:IntKind.i64.wrap (y1 - 1)=y1 - 1:=by have:=HY1.out;rw[IntKind.wrap_i64];omega
  all_goals (have h4:tm.getD 4 undef=.pointer (some ⟨bT,0,none⟩):=(hJ.old 4 (Er2.sl_no 4 (by decide))).trans rfl;have h4':=gdq h4)
  all_goals have c0:=HBv.t.at_.cell 0 _ rfl
  all_goals have z0:=HBv.t.lt
  all_goals try have v10:tm.getD 34 undef=.int .i64 te:=by(refine hJ.val 10 (by decide) (hdep ⟨10,.data⟩ ?_ rfl);simp <;> fail)
  all_goals try have v10':=gdq v10
  all_goals have q:IntKind.i64.wrap (te - 1)=te - 1:=by have:=HTe.out;rw[IntKind.wrap_i64];omega
  all_goals try have v12:tm.getD 36 undef=.int .i64 y2:=by(refine hJ.val 12 (by decide) (hdep ⟨12,.data⟩ ?_ rfl);simp <;> fail)
  all_goals try have v12':=gdq v12
  all_goals have q:IntKind.i64.wrap (y2+1)=y2+1:=by have:=HY2.out;rw[IntKind.wrap_i64];omega
  all_goals try have v17:tm.getD 40 undef=.int .i64 0:=by(refine hJ.val 17 (by decide) (hdep ⟨17,.data⟩ ?_ rfl);simp <;> fail)
  all_goals try have v17':=gdq v17
  all_goals first|(go_simp;exact hK _ _ (hJ.put Er2.Q_mono Er2.sl_inj (by decide) rfl))|skip
  ·have v2:tm.getD 26 undef=.pointer (some ⟨gd,0,none⟩):=hJ.val 2 (by decide) (hdep ⟨2,.data⟩ (by simp) rfl);have v2':=gdq v2;obtain⟨c0,c1,c2⟩:=HGd.out wv HBv.below;have z0:=HGz.out wv HBv.below;go_simp;exact hK _ _ (hJ.put Er2.Q_mono Er2.sl_inj (by decide) rfl)
  ·have v3:tm.getD 27 undef=.agg #[rv,zv,lv]:=hJ.val 3 (by decide) (hdep ⟨3,.data⟩ (by simp) rfl);have v3':=gdq v3;have v5:tm.getD 29 undef=.string ru:=hJ.val 5 (by decide) (hdep ⟨5,.data⟩ (by simp) rfl);have v5':=gdq v5;go_simp;refine(HRl.out wv HBv.below).mono ?_;rintro e w' ⟨v,rfl,hbm,ho⟩;obtain⟨A2,c2,rfl,hle⟩:=own_slice ho;exact hK _ _ (hJ.step Er2.Q_mono Er2.sl_inj (by decide) hbm ⟨A2,c2,rfl,Reads.of_own ho⟩)
  ·have v7:tm.getD 31 undef=.int .i64 fr:=hJ.val 7 (by decide) (hdep ⟨7,.data⟩ (by simp) rfl);have v7':=gdq v7;go_simp;refine(HYa.out wv).mono ?_;rintro e w' ⟨rfl,hbm⟩;exact hK _ _ (hJ.step Er2.Q_mono Er2.sl_inj (by decide) hbm rfl)
  ·have v11:tm.getD 35 undef=.int .i64 (te - 1):=hJ.val 11 (by decide) (hdep ⟨11,.data⟩ (by simp) rfl);have v11':=gdq v11;go_simp;refine(HYb.out wv).mono ?_;rintro e w' ⟨rfl,hbm⟩;exact hK _ _ (hJ.step Er2.Q_mono Er2.sl_inj (by decide) hbm rfl)
  ·obtain⟨A6,c6,v6,hr6⟩:∃A c,tm.getD 30 undef=.slice A rl.length c∧Reads wv wv.heap.size 11 A rl.length (rl.flatMap Ru.R.cells):=hJ.val 6 (by decide) (hdep ⟨6,.data⟩ (by simp) rfl);have v6':=(Array.getD_eq_getD_getElem? (xs:=tm) (i:=30) (d:=undef)).symm.trans v6;have v9:tm.getD 33 undef=.int .i64 (y1 - 1):=hJ.val 9 (by decide) (hdep ⟨9,.data⟩ (by simp) rfl);have v9':=gdq v9;have v13:tm.getD 37 undef=.int .i64 (y2+1):=hJ.val 13 (by decide) (hdep ⟨13,.data⟩ (by simp) rfl);have v13':=gdq v13;have HC:=ak (HOf.out wv A6 c6 HBv.below hr6);clear hr6;go_simp;refine HC.out.mono ?_;rintro e w' ⟨hbm,v,rfl,ho⟩;exact hK _ _ (hJ.step Er2.Q_mono Er2.sl_inj (by decide) hbm ⟨v,rfl,Oc.own_low ho (hJ.below.size)⟩)
  ·obtain⟨u14,v14,ho14⟩:∃u,tm.getD 38 undef=.tuple #[u,.int .i64 0]∧wv.ownsRow W.heap.size 272 5 u oc.length (oc.flatMap Oc.E.occ):=hJ.val 14 (by decide) (hdep ⟨14,.data⟩ (by simp) rfl);have v14':=(Array.getD_eq_getD_getElem? (xs:=tm) (i:=38) (d:=undef)).symm.trans v14;go_simp;exact hK _ _ (hJ.put Er2.Q_mono Er2.sl_inj (by decide) ⟨u14,rfl,ho14⟩)
  ·obtain⟨u15,v15,ho15⟩:∃u,tm.getD 23 undef=.tuple #[u,.int .i64 0]∧wv.ownsRow W.heap.size 272 5 u oc.length (oc.flatMap Oc.E.occ):=hJ.val 15 (by decide) (hdep ⟨15,.data⟩ (by simp) rfl);have v15':=(Array.getD_eq_getD_getElem? (xs:=tm) (i:=23) (d:=undef)).symm.trans v15;go_simp;exact hK _ _ (hJ.put Er2.Q_mono Er2.sl_inj (by decide) ho15)
  ·obtain⟨u15,v15,ho15⟩:∃u,tm.getD 23 undef=.tuple #[u,.int .i64 0]∧wv.ownsRow W.heap.size 272 5 u oc.length (oc.flatMap Oc.E.occ):=hJ.val 15 (by decide) (hdep ⟨15,.data⟩ (by simp) rfl);have v15':=(Array.getD_eq_getD_getElem? (xs:=tm) (i:=23) (d:=undef)).symm.trans v15;go_simp;exact hK _ _ (hJ.put Er2.Q_mono Er2.sl_inj (by decide) rfl)
  ·obtain⟨u16,v16,ho16⟩:∃u,tm.getD 39 undef=u∧wv.ownsRow W.heap.size 272 5 u oc.length (oc.flatMap Oc.E.occ):=⟨_,rfl,hJ.val 16 (by decide) (hdep ⟨16,.data⟩ (by simp) rfl)⟩
   have v16':=(Array.getD_eq_getD_getElem? (xs:=tm) (i:=39) (d:=undef)).symm.trans v16;go_simp;exact hK _ _ (hJ.put Er2.Q_mono Er2.sl_inj (by decide) (by show World.ownsRow _ _ _ _ _ _ _;exact ho16))
 case finR=>
  intro a' W5 hJ hN hdf;have s0:a'.tmps.getD 0 undef=.func (.yield l) #[] #[]:=(hJ.old 0 (Er2.sl_no 0 (by decide))).trans rfl;have s1:a'.tmps.getD 1 undef=.pointer (some ⟨bE,0,none⟩):=(hJ.old 1 (Er2.sl_no 1 (by decide))).trans rfl;have s2:a'.tmps.getD 2 undef=.pointer (some ⟨bF,0,none⟩):=(hJ.old 2 (Er2.sl_no 2 (by decide))).trans rfl;have s3:a'.tmps.getD 3 undef=.pointer (some ⟨bD,0,none⟩):=(hJ.old 3 (Er2.sl_no 3 (by decide))).trans rfl;have s4:a'.tmps.getD 4 undef=.pointer (some ⟨bT,0,none⟩):=(hJ.old 4 (Er2.sl_no 4 (by decide))).trans rfl;obtain⟨u18,s6,ho18⟩:∃u,a'.tmps.getD 6 undef=u∧W5.ownsRow W.heap.size 272 5 u oc.length (oc.flatMap Oc.E.occ):=⟨_,rfl,hJ.val 18 (by decide) (by rfl)⟩
  have hb9:=hJ.below;have ef:a'={ tmps:=((List.range 110).map fun i=>a'.tmps.getD i undef).toArray,defers:=[] }:=Rg.frame_of 110 a' hN hdf;obtain⟨u,hu⟩:∃u:Nat→Value,(fun i=>a'.tmps.getD i undef)=u:=⟨_,rfl⟩
  rw[hu] at ef;have e0:u 0=.func (.yield l) #[] #[]:=by rw[← hu];exact s0
  have e1:u 1=.pointer (some ⟨bE,0,none⟩):=by rw[← hu];exact s1
  have e2:u 2=.pointer (some ⟨bF,0,none⟩):=by rw[← hu];exact s2
  have e3:u 3=.pointer (some ⟨bD,0,none⟩):=by rw[← hu];exact s3
  have e4:u 4=.pointer (some ⟨bT,0,none⟩):=by rw[← hu];exact s4
  have e6:u 6=u18:=by rw[← hu];exact s6
  have ef2:a'={ tmps:=(u 0 :: u 1 :: u 2 :: u 3 :: u 4 :: u 5 :: u 6 :: u 7 :: u 8 :: u 9 :: u 10 :: u 11 :: u 12 :: u 13 :: u 14 :: u 15 :: u 16 :: u 17 :: u 18 :: u 19 :: u 20 :: u 21 :: u 22 :: u 23 :: u 24 :: u 25 :: u 26 :: u 27 :: u 28 :: u 29 :: u 30 :: u 31 :: u 32 :: u 33 :: u 34 :: u 35 :: u 36 :: u 37 :: u 38 :: u 39 :: u 40 :: u 41 :: u 42 :: u 43 :: u 44 :: u 45 :: u 46 :: u 47 :: u 48 :: u 49 :: u 50 :: u 51 :: u 52 :: u 53 :: u 54 :: u 55 :: u 56 :: u 57 :: u 58 :: u 59 :: u 60 :: u 61 :: u 62 :: u 63 :: u 64 :: u 65 :: u 66 :: u 67 :: u 68 :: u 69 :: u 70 :: u 71 :: u 72 :: u 73 :: u 74 :: u 75 :: u 76 :: u 77 :: u 78 :: u 79 :: u 80 :: u 81 :: u 82 :: u 83 :: u 84 :: u 85 :: u 86 :: u 87 :: u 88 :: u 89 :: u 90 :: u 91 :: u 92 :: u 93 :: u 94 :: u 95 :: u 96 :: u 97 :: u 98 :: u 99 :: u 100 :: u 101 :: u 102 :: u 103 :: u 104 :: u 105 :: u 106 :: u 107 :: u 108 :: u 109 :: []:List Value).toArray,defers:=[] }:=ef;rw[e0,e1,e2,e3,e4,e6] at ef2;rw[ef2];clear hJ hN hdf ef ef2 hu e0 s0 e1 s1 e2 s2 e3 s3 e4 s4 e6 s6;obtain⟨vA,vc,rfl,hv1,hv2⟩:=own_slice_cap ho18;have HB5:=ak (HB.out.call hb9 (Nat.le_refl _));have HO5:=ak ho18;have HJ5:=ak (HJ.out _ _ _ H0.out hb9);obtain⟨no,hno⟩:=aj (oc.length)
  rw[hno] at hv1 HO5 ⊢;have HNo:=ak hno;have t0:=HB5.out.t.at_.cell 0 _ rfl;have z4:=HB5.out.t.lt;unfold maxLen at hv2;have w1:IntKind.i64.wrap ((no:Int) - 1)=(no:Int) - 1:=by rw[IntKind.wrap_i64];omega
  have w2:wrap64 ((no:Int) - 1)=(no:Int) - 1:=by unfold wrap64;omega
  have hB0:W.heap.size≤W5.heap.size:=hb9.size;clear ho18 hb9 hno;go_wp2_with fail
  refine(wpIn_wide (n:=n+1)).1 ?_
  gi_loopw [8,9] (fun tv i wr=>∃(r:Nat) (tc:Int) (done:List Ln.Sp),r≤no∧i=.int .i64 ((r:Int) - 1)∧tv=.int .i64 tc∧Hid (Ln.inGo std fr oc.reverse te=done ++ Ln.inGo std fr (oc.take r).reverse tc)∧Hid (JY done wr)∧Hid (Ln.EB bE bF bD bT gd w0.heap.size ⟨std,2,esv,ru,fm,en,⟨y,mm,dk,dn,dd,sc,cc⟩⟩ fr te w0 wr)∧Hid (wr.ownsRow W.heap.size 272 5 (.slice vA no vc) no (oc.flatMap Oc.E.occ))) (fun _ i _=>(intOf i+1).toNat)
  case atStart=>exact⟨no,te,[],Nat.le_refl _,rfl,rfl,by show _=_;rw[List.take_of_length_le (by rw[HNo.out];exact Nat.le_refl _)];rfl,HJ5.out,HB5.out,HO5.out⟩
  case round=>
   obtain⟨r,tc,done,hr,rfl,rfl,HE,HJr,HBr,HOr⟩:=hrel;have e0:=HBr.out.e.at_.cell 0 _ rfl;have f0:=HBr.out.f.at_.cell 0 _ rfl;have z1:=HBr.out.e.lt;have z2:=HBr.out.f.lt;rcases Nat.eq_zero_or_pos r with h0r|h0r
   ·subst h0r;have q1:¬(0:Int)≤((0:Nat):Int) - 1:=(by omega);have hfull:Ln.inGo std fr oc.reverse te=done ++ [Ln.piece fr std 0]:=HE.out;have HP:=ak fun W=>lnPiece_any fr std 0 W h1 (by unfold IsTime;omega)
    obtain⟨p,hp⟩:=aj (Ln.piece fr std 0)
    rw[hp] at HP hfull;have hlen:done.length<N:=by
     have:=HN.out;rw[hfull,List.length_append] at this;simp only[List.length_cons,List.length_nil] at this;omega
    have HYr:=ak fun W hW=>HY.out done p W hW hlen
    have HJ2:=ak fun W' hb=>HJ.out done wr W' HJr.out hb
    have HFu:=ak hfull;unfold Ln.Sp.v at HP HYr;clear hlen hp hfull HE
    gi_wp2_with fail
    try refine(wpIn_wide (n:=n+1)).1 ?_
    gi_wp2_with fail
    refine⟨trivial,(callsIn_wide.2 (HP.out _)).mono ?_⟩;rintro e w3 ⟨rfl,hb3⟩;obtain⟨fn,tmps,assign,body,hy,hR⟩:=HYr.out _ (HJ2.out _ hb3);clear hb3
    gi_wp2_with fail
    refine hR.mono ?_;rintro e W3 ⟨b,rfl,hres⟩;have HRes:=ak hres;clear hres
    gi_wp2
    go_end0
    refine⟨⟨_,rfl⟩,?_⟩;rcases HRes.out with ⟨_,h1,_⟩|⟨_,h1⟩
    ·exact .inl ⟨_,HFu.out.symm,h1⟩
    ·exact .inr ⟨_,trivial,h1⟩
   ·obtain⟨r,rfl⟩:∃k,r=k+1:=⟨r - 1,by omega⟩
    have e1':(((r+1:Nat):Int) - 1)=(r:Int):=(by omega);rw[e1'];have q1:=am r
    have q2:(r:Int)<(no:Int):=(by omega);obtain⟨ad,o,rfl,hab,Ho,HLo⟩:=Ix.reads_cells (enc:=Oc.E.occ) (m:=5) (fun _=>rfl) HNo.out (Reads.of_own HOr.out) (show r<no by omega);have hok:=HEv.out o (List.mem_of_getElem? Ho.out);have htk:(oc.take (r+1)).reverse=o :: (oc.take r).reverse:=by
     rw[List.take_add_one,Ho.out];simp
    have hE:=HE.out;rw[htk] at hE;obtain⟨on,oc_,os,ob,ol,op,oy⟩:=o;obtain⟨hc0,hsv,hi2⟩:=hok;simp only at hc0 hsv hi2;have HIn:=ak fun W=>(instant_any on oc_ std ob W hc0).mono (R':=fun e w'=>e=.returned (.tuple #[.int .i64 (Mo.ins on oc_ std ob).1,.int .i64 (Mo.ins on oc_ std ob).2])∧w'=W) fun e w' h=>⟨h.1,h.2.symm⟩
    obtain⟨ti,hti⟩:=aj ((Mo.ins on oc_ std ob).1)
    have hti2:Oc.ti std ⟨on,oc_,os,ob,ol,op,oy⟩=ti:=hti;rw[hi2,hti] at HIn;rw[Ln.inGo_cons,hti2] at hE;have x0:wr.cell? (ad.add (r*5))=some (.int .i64 on):=HLo.out 0 _ rfl;have x1:wr.cell? ⟨(ad.add (r*5)).block,(ad.add (r*5)).off+1,none⟩=some (.int .u8 oc_):=HLo.out 1 _ rfl;have x2:wr.cell? ⟨(ad.add (r*5)).block,(ad.add (r*5)).off+2,none⟩=some (.int .i64 os):=HLo.out 2 _ rfl;have x3:wr.cell? ⟨(ad.add (r*5)).block,(ad.add (r*5)).off+3,none⟩=some (.int .i64 ob):=HLo.out 3 _ rfl;have hab2:(ad.add (r*5)).block<wr.heap.size:=by rw[block_of_add];exact hab
    have HHi:=ak (And.intro hi2 hsv);clear htk hti hti2 hi2 hsv Ho HE HLo
    gi_wp2_with fail
    refine wpIn_wide.2 ?_;go_quiet ((go_at_call 109;exact Calls.quiet_of_same (HIn.out _)))
    obtain⟨Wd,hWd⟩:=aj (wr.drewN nq)
    have hbd:Below wr.heap.size wr Wd:=by rw[← hWd];exact(show Drew wr (wr.drewN nq) from⟨nq,rfl⟩).below _
    rw[hWd];have HBd:=ak (HBr.out.call hbd (Nat.le_refl _));have HOd:=ak (own_below HOr.out hbd);have HJd:=ak (HJ.out done wr Wd HJr.out hbd);have y2':Wd.cell? ⟨(ad.add (r*5)).block,(ad.add (r*5)).off+2,none⟩=some (.int .i64 os):=(hbd.cell (p:=⟨(ad.add (r*5)).block,(ad.add (r*5)).off+2,none⟩) hab2).trans x2;have hab3:(ad.add (r*5)).block<Wd.heap.size:=Nat.lt_of_lt_of_le hab2 hbd.size;have hzw:w0.heap.size≤Wd.heap.size:=HBd.out.below.size;clear hWd hbd x0 x1 x2 x3 hab2 e0 f0 z1 z2 HBr HOr HJr;have hmx:Tryz.prog.follows .mixedOrders=true:=by kernel_rfl
    by_cases h1':tc≤ti
    ·rw[if_pos h1'] at hE;have HE2:=ak hE;have w3:IntKind.i64.wrap ((r:Int) - 1)=(r:Int) - 1:=by rw[IntKind.wrap_i64];omega
     clear hE y2'
     gi_wp2
     go_roundw
     case rel=>exact⟨r,tc,done,by omega,by first|rfl|(simp;done)|(simp;omega),rfl,HE2.out,HJd.out,HBd.out,HOd.out⟩
     case measure=>first|(simp[intOf];done)|(simp[intOf];omega)
    rw[if_neg h1'] at hE;have e0:=HBd.out.e.at_.cell 0 _ rfl;have f0:=HBd.out.f.at_.cell 0 _ rfl;have z1:=HBd.out.e.lt;have z2:=HBd.out.f.lt
    by_cases h2':ti≤fr
    ·rw[if_pos h2'] at hE;have HP:=ak fun W=>lnPiece_any fr std os W h1 HHi.out.2
     obtain⟨p,hp⟩:=aj (Ln.piece fr std os)
     rw[hp] at HP hE;have hlen:done.length<N:=by
      have:=HN.out;rw[hE,List.length_append] at this;simp only[List.length_cons,List.length_nil] at this;omega
     have HYr:=ak fun W hW=>HY.out done p W hW hlen
     have HJ2:=ak fun W' hb=>HJ.out done Wd W' HJd.out hb
     have HFu:=ak hE;unfold Ln.Sp.v at HP HYr;clear hlen hp hE
     gi_wp2_with fail
     gi_region_with_o (first
      |(refine⟨trivial,?_⟩;gi_at_call 186;refine(callsIn_wide.2 (HP.out _)).mono ?_;rintro e w3 ⟨rfl,hb3⟩;have hbz:=(Below.refl _ Wd).drew.trans hb3;obtain⟨fn,tmps,assign,body,hy,hR⟩:=HYr.out _ (HJ2.out _ hbz);have HBz:=ak hbz;clear hb3 hbz)
      |(refine hR.mono ?_;rintro e W3 ⟨b,rfl,hres⟩;have HRes:=ak hres;clear hres))
     all_goals
      gi_wp2
      refine bodyPost_ret (results_none rfl _ _ _) rfl ⟨⟨_,rfl⟩,?_⟩;rcases HRes.out with ⟨_,h1,_⟩|⟨_,h1⟩
      ·exact .inl ⟨_,HFu.out.symm,h1⟩
      ·exact .inr ⟨_,trivial,h1⟩
    ·rw[if_neg h2'] at hE;have HP:=ak fun W=>lnPiece_any ti std os W h1 HHi.out.2
     obtain⟨p,hp⟩:=aj (Ln.piece ti std os)
     rw[hp] at HP hE;have hlen:done.length<N:=by
      have:=HN.out;rw[hE,List.length_append] at this;simp only[List.length_cons] at this;omega
     have HYr:=ak fun W hW=>HY.out done p W hW hlen
     have HJ2:=ak fun W' hb=>HJ.out done Wd W' HJd.out hb
     have HFu:=ak hE;have w3:IntKind.i64.wrap ((r:Int) - 1)=(r:Int) - 1:=by rw[IntKind.wrap_i64];omega
     unfold Ln.Sp.v at HP HYr;clear hlen hp hE
     gi_wp2_with fail
     gi_region_with_o (first
      |(refine⟨trivial,?_⟩;gi_at_call 186;refine(callsIn_wide.2 (HP.out _)).mono ?_;rintro e w3 ⟨rfl,hb3⟩;have hbz:=(Below.refl _ Wd).drew.trans hb3;obtain⟨fn,tmps,assign,body,hy,hR⟩:=HYr.out _ (HJ2.out _ hbz);have HBz:=ak hbz;clear hb3 hbz)
      |(refine hR.mono ?_;rintro e W3 ⟨b,rfl,hres⟩;have HRes:=ak hres;clear hres))
     all_goals
      rcases HRes.out with ⟨rfl,h1,hkp⟩|⟨rfl,h1⟩
      ·have HB9:=ak ((HBd.out.call HBz.out (Nat.le_refl _)).kp hkp);have HO9:=ak (Ln.own_kp (own_below HOd.out HBz.out) hkp (by decide) (by decide));have HJ9:=ak h1;have HE9:Hid (Ln.inGo std fr oc.reverse te=(done ++ [p]) ++ Ln.inGo std fr (oc.take r).reverse ti):=by
        show _=_
        rw[HFu.out,List.append_assoc];rfl
       clear h1 hkp e0 f0 z1 z2 y2' hab3 HRes
       gi_wp2
       go_roundw
       case rel=>exact⟨r,ti,done ++ [p],by omega,by first|rfl|(simp;done)|(simp;omega),rfl,HE9.out,HJ9.out,HB9.out,HO9.out⟩
       case measure=>first|(simp[intOf];done)|(simp[intOf];omega)
      ·have HX:=ak h1;clear h1 HRes
       gi_wp2
       refine bodyPost_ret (results_none rfl _ _ _) rfl ⟨⟨_,rfl⟩,?_⟩;exact .inr ⟨_,trivial,HX.out⟩
end Go.Proofs.YtjobhjemnmleaaaGreatDoor
