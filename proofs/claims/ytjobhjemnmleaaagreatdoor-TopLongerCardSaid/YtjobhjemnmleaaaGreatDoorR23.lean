/- A Source among a row's arguments, opened. -/
import Derived.Test.YtjobhjemnmleaaaGreatDoorR22
set_option maxRecDepth 100000
set_option maxHeartbeats 2000000
namespace Go.Proofs.YtjobhjemnmleaaaGreatDoor
open Go.Deep
open Go.ChangeShapes Go.WideShapes Go.ChangeAt Go.RowKit Go.Joins
theorem list11 {α:Type}{l:List α}(h:l.length=11):∃c0 c1 c2 c3 c4 c5 c6 c7 c8 c9 c10,l=[c0,c1,c2,c3,c4,c5,c6,c7,c8,c9,c10]:=by
 match l,h with
 |[c0,c1,c2,c3,c4,c5,c6,c7,c8,c9,c10],_=>exact⟨c0,c1,c2,c3,c4,c5,c6,c7,c8,c9,c10,rfl⟩
theorem list13 {α:Type}{l:List α}(h:l.length=13):∃c0 c1 c2 c3 c4 c5 c6 c7 c8 c9 c10 c11 c12,l=[c0,c1,c2,c3,c4,c5,c6,c7,c8,c9,c10,c11,c12]:=by
 match l,h with
 |[c0,c1,c2,c3,c4,c5,c6,c7,c8,c9,c10,c11,c12],_=>exact⟨c0,c1,c2,c3,c4,c5,c6,c7,c8,c9,c10,c11,c12,rfl⟩
theorem open_rule_cells {H:Type}{enc:TypeId × Value→H}{w:World}{base:Nat}{spare:Nat→Bool}{held:Bool}{fuel:Nat}{cs:List Value}{x:DataW H × List MemPlace}(hl:cs.length=11)
  (h:DataW.trod enc Tryz.prog w base spare held fuel 112 cs=some x):∃r:Ru.R,cs=r.cells∧0≤r.c∧r.nm.size≤maxLen∧r.lt.size≤maxLen:=by
 have q0:Tryz.prog.cellsOf 3=1:=by kernel_rfl
 have q1:Tryz.prog.cellsOf 110=3:=by kernel_rfl
 have q2:Tryz.prog.cellsOf 107=2:=by kernel_rfl
 have q3:Tryz.prog.cellsOf 108=1:=by kernel_rfl
 have q4:Tryz.prog.cellsOf 2=1:=by kernel_rfl
 have q5:Tryz.prog.cellsOf 105=1:=by kernel_rfl
 have q6:Tryz.prog.cellsOf 9=1:=by kernel_rfl
 obtain⟨c0,c1,c2,c3,c4,c5,c6,c7,c8,c9,c10,rfl⟩:=list11 hl;obtain⟨y0,y1,y2,y3,y4,y5,y6,y7,n,h0,h1,h2,h3,h4,h5,h6,h7⟩:=trod_struct8 Tryz.underlying112 h;simp only[q0,q1,q2,q4,q6,List.drop,List.take] at h0 h1 h2 h3 h4 h5 h6 h7;obtain⟨a0,a1,a2,n2,_,_,g0,g1,g2⟩:=trod_struct3 Tryz.underlying110 h4;obtain⟨b0',b1',n3,_,_,f0,f1⟩:=trod_struct2 Tryz.underlying107 h5;simp only[q0,q3,q4,q5,List.drop,List.take] at g0 g1 g2 f0 f1;obtain⟨nm,e0,_,wn⟩:=DataW.trod_string Tryz.underlying9 h0;obtain⟨fr,e1,_,_⟩:=DataW.trod_int Tryz.underlying3 h1;obtain⟨tt,e2,_,_⟩:=DataW.trod_int Tryz.underlying3 h2;obtain⟨mo,e3,_,_⟩:=DataW.trod_int Tryz.underlying3 h3;obtain⟨k,e4,_,_⟩:=DataW.trod_int Tryz.underlying108 g0;obtain⟨nn,e5,_,_⟩:=DataW.trod_int Tryz.underlying3 g1;obtain⟨dd,e6,_,_⟩:=DataW.trod_int Tryz.underlying3 g2;obtain⟨s,e7,_,_⟩:=DataW.trod_int Tryz.underlying2 f0;obtain⟨c,e8,_,wc⟩:=DataW.trod_int Tryz.underlying105 f1;obtain⟨sv,e9,_,_⟩:=DataW.trod_int Tryz.underlying2 h6;obtain⟨lt,e10,_,wl⟩:=DataW.trod_string Tryz.underlying9 h7;simp only[List.cons.injEq,and_true] at e0 e1 e2 e3 e4 e5 e6 e7 e8 e9 e10;subst e0 e1 e2 e3 e4 e5 e6 e7 e8 e9 e10;exact⟨⟨nm,fr,tt,mo,k,nn,dd,s,c,sv,lt⟩,rfl,byte_nonneg wc,wn,wl⟩
theorem open_era_cells {H:Type}{enc:TypeId × Value→H}{w:World}{base:Nat}{spare:Nat→Bool}{held:Bool}{fuel:Nat}{cs:List Value}{x:DataW H × List MemPlace}(hl:cs.length=13)
  (h:DataW.trod enc Tryz.prog w base spare held fuel 191 cs=some x):∃e:Er.E,cs=e.cells∧0≤e.u.c∧e.ru.size≤maxLen∧e.fm.size≤maxLen:=by
 have q7:Tryz.prog.cellsOf 188=7:=by kernel_rfl
 have q0:Tryz.prog.cellsOf 3=1:=by kernel_rfl
 have q1:Tryz.prog.cellsOf 110=3:=by kernel_rfl
 have q2:Tryz.prog.cellsOf 107=2:=by kernel_rfl
 have q3:Tryz.prog.cellsOf 108=1:=by kernel_rfl
 have q4:Tryz.prog.cellsOf 2=1:=by kernel_rfl
 have q5:Tryz.prog.cellsOf 105=1:=by kernel_rfl
 have q6:Tryz.prog.cellsOf 9=1:=by kernel_rfl
 have q8:Tryz.prog.cellsOf 4=1:=by kernel_rfl
 have q9:Tryz.prog.cellsOf 189=1:=by kernel_rfl
 obtain⟨c0,c1,c2,c3,c4,c5,c6,c7,c8,c9,c10,c11,c12,rfl⟩:=list13 hl;obtain⟨y0,y1,y2,y3,y4,y5,y6,n,h0,h1,h2,h3,h4,h5,h6⟩:=trod_struct7 Tryz.underlying191 h;simp only[q4,q6,q7,q8,q9,List.drop,List.take] at h0 h1 h2 h3 h4 h5 h6;obtain⟨z0,z1,z2,z3,n1,_,_,i0,i1,i2,i3⟩:=trod_struct4 Tryz.underlying188 h6;simp only[q0,q1,q2,List.drop,List.take] at i0 i1 i2 i3;obtain⟨a0,a1,a2,n2,_,_,g0,g1,g2⟩:=trod_struct3 Tryz.underlying110 i2;obtain⟨b0',b1',n3,_,_,f0,f1⟩:=trod_struct2 Tryz.underlying107 i3;simp only[q0,q3,q4,q5,List.drop,List.take] at g0 g1 g2 f0 f1;obtain⟨std,e0,_,_⟩:=DataW.trod_int Tryz.underlying2 h0;obtain⟨k,e1,_,_⟩:=DataW.trod_int Tryz.underlying189 h1;obtain⟨sv,e2,_,_⟩:=DataW.trod_int Tryz.underlying2 h2;obtain⟨ru,e3,_,wr⟩:=DataW.trod_string Tryz.underlying9 h3;obtain⟨fm,e4,_,wf⟩:=DataW.trod_string Tryz.underlying9 h4;obtain⟨en,e5,_⟩:=DataW.trod_bool Tryz.underlying4 h5;obtain⟨y,e6,_,_⟩:=DataW.trod_int Tryz.underlying3 i0;obtain⟨m,e7,_,_⟩:=DataW.trod_int Tryz.underlying3 i1;obtain⟨dk,e8,_,_⟩:=DataW.trod_int Tryz.underlying108 g0;obtain⟨dn,e9,_,_⟩:=DataW.trod_int Tryz.underlying3 g1;obtain⟨dd,e10,_,_⟩:=DataW.trod_int Tryz.underlying3 g2;obtain⟨s,e11,_,_⟩:=DataW.trod_int Tryz.underlying2 f0;obtain⟨c,e12,_,wc⟩:=DataW.trod_int Tryz.underlying105 f1;simp only[List.cons.injEq,and_true] at e0 e1 e2 e3 e4 e5 e6 e7 e8 e9 e10 e11 e12
 subst e0 e1 e2 e3 e4 e5 e6 e7 e8 e9 e10 e11 e12;exact⟨⟨std,k,sv,ru,fm,en,⟨y,m,dk,dn,dd,s,c⟩⟩,rfl,byte_nonneg wc,wr,wf⟩
theorem list_lt {α:Type}{p:Nat→α→Prop}:∀n:Nat,(∀i,i<n→∃a,p i a)→∃xs:List α,xs.length=n∧∀i a,xs[i]?=some a→p i a
 |0,_=>⟨[],rfl,fun i a h=>by simp at h⟩
 |n+1,h=>by
  obtain⟨xs,h1,h2⟩:=list_lt n fun i hi=>h i (by omega)
  obtain⟨a,ha⟩:=h n (by omega);refine⟨xs ++ [a],by simp[h1],fun i b hb=>?_⟩;rcases Nat.lt_or_ge i n with hi|hi
  ·rw[List.getElem?_append_left (by omega)] at hb;exact h2 i b hb
  ·rw[List.getElem?_append_right (by omega)] at hb;have h3:i - xs.length<1:=by
    have:=(List.getElem?_eq_some_iff.1 hb).1;simpa using this
   have h4:i=n:=(by omega);subst h4;rw[show i - xs.length=0 by omega] at hb;simp only[List.getElem?_cons_zero,Option.some.injEq] at hb;rw[← hb];exact ha
theorem cells_flat {α:Type}{cells:α→List Value}{m:Nat}{w:World}{A:Addr}(hm:∀a,(cells a).length=m):∀(xs:List α) (o:Nat),(∀i a,xs[i]?=some a→∀k u,(cells a)[k]?=some u→w.cell? (A.add (o+(i*m+k)))=some u)→
  ∀j u,(xs.flatMap cells)[j]?=some u→w.cell? (A.add (o+j))=some u
 |[],o,h,j,u,hj=>by simp at hj
 |a :: xs,o,h,j,u,hj=>by
  rw[List.flatMap_cons] at hj;rcases Nat.lt_or_ge j m with hlt|hge
  ·rw[List.getElem?_append_left (by rw[hm];exact hlt)] at hj;have:=h 0 a rfl j u hj
   rwa[Nat.zero_mul,Nat.zero_add] at this
  ·rw[List.getElem?_append_right (by rw[hm];exact hge),hm] at hj;have:=cells_flat hm xs (o+m) (fun i b hb k v hv=>by
    have:=h (i+1) b (by simpa using hb) k v hv
    rwa[show o+((i+1)*m+k)=o+m+(i*m+k) by rw[Nat.add_mul];omega] at this) (j - m) u hj
   rwa[show o+m+(j - m)=o+j by omega] at this
theorem open_rows {H:Type}{enc:TypeId × Value→H}{P:Program}{w:World}{base:Nat}{spare:Nat→Bool}{held:Bool}{fuel:Nat}{cs:List Value}{x:DataW H × List MemPlace}{t e:TypeId}{m:Nat}{α:Type}{cells:α→List Value}{Good:α→Prop}
  (ht:P.underlying t=some (.slice e)) (hc:P.cellsOf e=m) (hm0:0<m) (hm:∀a,(cells a).length=m)
  (hel:∀n cs x,cs.length=m→DataW.trod enc P w base spare held n e cs=some x→∃a,cs=cells a∧Good a)
  (h:DataW.trod enc P w base spare held fuel t cs=some x):∃(v:Value) (xs:List α),cs=[v]∧Src.RowR w w.heap.size m xs.length v (xs.flatMap cells)∧∀a∈xs,Good a:=by
 rcases open_slice ht h with ⟨rfl,_⟩|⟨A,len,cap,k,n,D,Pl,rfl,hb,hl,hcm,hk,_,hx⟩
 ·exact⟨_,[],rfl,⟨none,0,rfl,Nat.le_refl _,by decide,⟨by simp,fun h=>absurd h (by simp)⟩⟩,fun a ha=>by cases ha⟩
 ·have hlk:len≤k:=by rw[hk];split <;> omega
  obtain⟨xs,h1,h2⟩:=list_lt (p:=fun i a=>w.cells? base (A.add (i*m)) m=some (cells a)∧Good a) len (fun i hi=>by
   obtain⟨cs',c1,c2⟩:=hx i (by omega);rw[hc] at c1;obtain⟨a,rfl,ha⟩:=hel n cs' _ (World.cells?_some c1).2.1 c2;exact⟨a,c1,ha⟩)
  refine⟨_,xs,rfl,⟨some A,cap,by rw[h1],by omega,hcm,⟨?_,fun hn=>⟨A,rfl,?_,?_⟩⟩⟩,fun a ha=>?_⟩
  ·clear h1 h2
   induction xs with
   |nil=>simp
   |cons a l ih=>rw[List.flatMap_cons,List.length_append,hm,ih,List.length_cons,Nat.add_mul];omega
  ·have h3:=(h2 0 xs[0] (List.getElem?_eq_getElem hn)).1;have h4:=World.cells?_block h3 hm0
   rwa[block_of_add] at h4
  ·intro j u hj;have:=cells_flat (w:=w) (A:=A) hm xs 0 (fun i a hi k v hv=>by
    have h3:=World.cells?_some (h2 i a hi).1;have h4:k<m:=by rw[← hm a];exact(List.getElem?_eq_some_iff.1 hv).1
    have h5:=h3.2.2 k h4;rw[add_add] at h5;rw[Nat.zero_add,h5,hv]) j u hj
   rwa[Nat.zero_add] at this
  ·obtain⟨i,hi,e⟩:=List.getElem_of_mem ha;exact(h2 i a (by rw[List.getElem?_eq_getElem hi,e])).2
namespace Src
def WideR (r:Ru.R):Prop:=0≤r.c∧r.nm.size≤maxLen∧r.lt.size≤maxLen
def WideE (e:Er.E):Prop:=0≤e.u.c∧e.ru.size≤maxLen∧e.fm.size≤maxLen
structure Wide (s:S):Prop where
 rules:∀r∈s.rules,WideR r
 zones:∀z∈s.zones,z.1.length≤maxLen∧∀e∈z.2,WideE e
 links:∀k∈s.links,k.1.length≤maxLen∧k.2.length≤maxLen
 op:s.op=false
end Src
theorem list2 {α:Type}{l:List α}(h:l.length=2):∃a b,l=[a,b]:=by
 match l,h with
 |[a,b],_=>exact⟨a,b,rfl⟩
theorem txt_of (s:ByteArray):∃t:Src.Txt,s=Src.bts t∧t.length=s.size:=⟨tl s,rfl,tl_length s⟩
theorem open_eras {H:Type}{enc:TypeId × Value→H}{w:World}{base:Nat}{spare:Nat→Bool}{held:Bool}{fuel:Nat}{cs:List Value}{x:DataW H × List MemPlace}
  (h:DataW.trod enc Tryz.prog w base spare held fuel 115 cs=some x):∃(v:Value) (es:List Er.E),cs=[v]∧Src.RowR w w.heap.size 13 es.length v (es.flatMap Er.E.cells)∧∀e∈es,Src.WideE e:=
 open_rows Tryz.underlying115 (by kernel_rfl) (by decide) (fun _=>rfl) (fun n cs x hl hx=>open_era_cells hl hx) h
theorem open_zone_cells {H:Type}{enc:TypeId × Value→H}{w:World}{base:Nat}{spare:Nat→Bool}{held:Bool}{fuel:Nat}{cs:List Value}{x:DataW H × List MemPlace}(hl:cs.length=2)
  (h:DataW.trod enc Tryz.prog w base spare held fuel 117 cs=some x):∃z:(Src.Txt × List Er.E) × Value,cs=Src.zc z∧Src.RowR w w.heap.size 13 z.1.2.length z.2 (z.1.2.flatMap Er.E.cells)∧z.1.1.length≤maxLen∧∀e∈z.1.2,Src.WideE e:=by
 have q0:Tryz.prog.cellsOf 9=1:=by kernel_rfl
 have q1:Tryz.prog.cellsOf 115=1:=by kernel_rfl
 obtain⟨c0,c1,rfl⟩:=list2 hl;obtain⟨y0,y1,n,_,_,h0,h1⟩:=trod_struct2 Tryz.underlying117 h;simp only[q0,q1,List.drop,List.take] at h0 h1;obtain⟨nm,e0,_,wn⟩:=DataW.trod_string Tryz.underlying9 h0;obtain⟨v,es,e1,hr,he⟩:=open_eras h1;simp only[List.cons.injEq,and_true] at e0 e1;subst e0 e1;obtain⟨t,rfl,ht⟩:=txt_of nm;exact⟨((t,es),c1),rfl,hr,by show t.length≤maxLen;rw[ht];exact wn,he⟩
theorem open_link_cells {H:Type}{enc:TypeId × Value→H}{w:World}{base:Nat}{spare:Nat→Bool}{held:Bool}{fuel:Nat}{cs:List Value}{x:DataW H × List MemPlace}(hl:cs.length=2)
  (h:DataW.trod enc Tryz.prog w base spare held fuel 114 cs=some x):∃k:Src.Txt × Src.Txt,cs=Src.lc k∧k.1.length≤maxLen∧k.2.length≤maxLen:=by
 have q0:Tryz.prog.cellsOf 9=1:=by kernel_rfl
 obtain⟨c0,c1,rfl⟩:=list2 hl;obtain⟨y0,y1,n,_,_,h0,h1⟩:=trod_struct2 Tryz.underlying114 h;simp only[q0,List.drop,List.take] at h0 h1;obtain⟨a,e0,_,wa⟩:=DataW.trod_string Tryz.underlying9 h0;obtain⟨b,e1,_,wb⟩:=DataW.trod_string Tryz.underlying9 h1;simp only[List.cons.injEq,and_true] at e0 e1;subst e0 e1;obtain⟨ta,rfl,hta⟩:=txt_of a;obtain⟨tb,rfl,htb⟩:=txt_of b;exact⟨(ta,tb),rfl,by show ta.length≤maxLen;rw[hta];exact wa,by show tb.length≤maxLen;rw[htb];exact wb⟩
theorem zip_fst_snd {α β:Type}:∀l:List (α × β),(l.map (·.1)).zip (l.map (·.2))=l
 |[]=>rfl
 |x :: l=>by simp[zip_fst_snd l]
theorem open_source {H:Type}{enc:TypeId × Value→H}{w:World}{base:Nat}{spare:Nat→Bool}{held:Bool}{r:Reach}{b0:Nat}{v:Value}{d:DataW H}{p:List MemPlace}
  (hv:Value.okWide Tryz.prog w r b0 26 v) (h:DataW.Trod enc Tryz.prog w base spare held 26 v d p):∃s rv zv lv evs,v=.agg #[rv,zv,lv]∧Src.SrcR w w.heap.size s rv zv lv evs∧Src.Wide s:=by
 have q3:Tryz.prog.cellsOf 26=3:=by kernel_rfl
 have q0:Tryz.prog.cellsOf 22=1:=by kernel_rfl
 have q1:Tryz.prog.cellsOf 23=1:=by kernel_rfl
 have q2:Tryz.prog.cellsOf 24=1:=by kernel_rfl
 obtain⟨cs,rfl,hsz⟩:=okWide_struct Tryz.underlying26 hv;obtain⟨fuel,hf⟩:=h;obtain⟨l⟩:=cs;have hl3:l.length=3:=hsz.trans q3
 match l,hl3 with
 |[c0,c1,c2],_=>
  obtain⟨y0,y1,y2,n,_,_,h0,h1,h2⟩:=trod_struct3 Tryz.underlying26 hf;simp only[q0,q1,q2,Value.cells,List.drop,List.take] at h0 h1 h2;obtain⟨rv,rs,e0,hr0,hr1⟩:=open_rows (cells:=Ru.R.cells) (Good:=Src.WideR) Tryz.underlying22 (by kernel_rfl) (show 0<11 by decide) (fun _=>rfl) (fun n cs x hl hx=>open_rule_cells hl hx) h0;obtain⟨zv,zs,e1,hz0,hz1⟩:=open_rows (cells:=Src.zc) (Good:=fun z=>Src.RowR w w.heap.size 13 z.1.2.length z.2 (z.1.2.flatMap Er.E.cells)∧z.1.1.length≤maxLen∧∀e∈z.1.2,Src.WideE e) Tryz.underlying23 (by kernel_rfl) (show 0<2 by decide) (fun _=>rfl) (fun n cs x hl hx=>open_zone_cells hl hx) h1;obtain⟨lv,ks,e2,hk0,hk1⟩:=open_rows (cells:=Src.lc) (Good:=fun k=>k.1.length≤maxLen∧k.2.length≤maxLen) Tryz.underlying24 (by kernel_rfl) (show 0<2 by decide) (fun _=>rfl) (fun n cs x hl hx=>open_link_cells hl hx) h2;simp only[List.cons.injEq,and_true] at e0 e1 e2;subst e0 e1 e2;refine⟨⟨rs,zs.map (·.1),ks,false⟩,c0,c1,c2,zs.map (·.2),rfl,⟨hr0,?_,hk0,by simp,fun q hq=>?_⟩,⟨hr1,fun z hz=>?_,hk1,rfl⟩⟩
  ·rw[zip_fst_snd];simpa using hz0
  ·rw[zip_fst_snd] at hq;exact(hz1 q hq).1
  ·rw[List.mem_map] at hz;obtain⟨q,hq,rfl⟩:=hz;exact⟨(hz1 q hq).2.1,(hz1 q hq).2.2⟩
end Go.Proofs.YtjobhjemnmleaaaGreatDoor
namespace Go.Proofs.YtjobhjemnmleaaaGreatDoor
open Go.RowKit
instance:DecidableEq Mo.U:=fun a b=>decidable_of_iff (a.y=b.y∧a.m=b.m∧a.k=b.k∧a.n=b.n∧a.d=b.d∧a.s=b.s∧a.c=b.c) (by cases a;cases b;simp)
namespace Lv
end Lv
end Go.Proofs.YtjobhjemnmleaaaGreatDoor
namespace Go.Proofs.YtjobhjemnmleaaaGreatDoor
open Go.RowKit
namespace Src
theorem name_len {t:Txt}(h:Ru.name t=true):t.length≤64:=by
 unfold Ru.name at h;simp only[Bool.and_eq_true,decide_eq_true_eq] at h;exact h.1.2
end Src
end Go.Proofs.YtjobhjemnmleaaaGreatDoor
namespace Go.Proofs.YtjobhjemnmleaaaGreatDoor
open Go.RowKit
theorem checkLetter_noW (s:ByteArray)(w:World)(hs:s.size≤maxLen)(h:Ab.letter s=false):
  Calls Tryz.prog 129 #[.string s] w fun e w'=>e=.returned (.int .i64 2)∧Below w.heap.size w w':=by
 unfold Ab.letter at h
 by_cases h1:s.size≤32
 ·have q1:¬(32:Int)<(s.size:Int):=by omega
  rw[decide_eq_true h1,Bool.true_and] at h
  by_cases h2:s=⟨#[45]⟩
  ·have q2:(s.toList == [45])=true:=by rw[h2,ByteArray.toList_eq];rfl
   clear h h1 h2;go_enter Tryz.func129,Tryz.ntmps129
   go_wp2;go_ret
   exact⟨rfl,Below.refl _ _⟩
  ·rw[decide_eq_false h2] at h;have h3:Ab.signs (tl s)=false:=by simpa using h
   have q2:(s.toList == [45])=false:=ba_ne s [45] h2;have HS:=ak fun W=>calls_bool (signs_any _ 1 1 [s] (W.alloc (.cells #[.string s] 9)) (by decide) (reads_one W s _) (by intro t ht;simp at ht;subst ht;omega)) (show _=false by unfold Ab.all;simp[h3])
   clear h h1 h2 h3;go_enter Tryz.func129,Tryz.ntmps129
   go_wp2_with fail
   refine(HS.out _).mono ?_;rintro e w1 ⟨rfl,rfl⟩;go_wp2;go_ret
   exact⟨rfl,al⟩
 ·have q1:(32:Int)<(s.size:Int):=by omega
  clear h h1;go_enter Tryz.func129,Tryz.ntmps129
  go_wp2;go_ret
  exact⟨rfl,Below.refl _ _⟩
theorem ruleCheck_0W (nm:ByteArray)(fr tt mo k n d s c sv:Int)(lt:ByteArray)(w:World)(hs1:nm.size≤maxLen)(hN:Ru.name (tl nm)=false):
  Calls Tryz.prog 88 #[.agg #[.string nm,.int .i64 fr,.int .i64 tt,.int .i64 mo,.int .u8 k,.int .i64 n,.int .i64 d,.int .i64 s,.int .u8 c,.int .i64 sv,.string lt]] w fun e w'=>e=.returned (.int .i64 2)∧Below w.heap.size w w':=by
 have HB:=ak (Below.refl w.heap.size w);have H0:=ak fun W=>calls_bool (name_all nm W hs1) hN
 clear hN hs1;go_enter Tryz.func88,Tryz.ntmps88
 go_wp2_with fail
 refine(H0.out _).mono ?_;rintro e w1 ⟨rfl,hb⟩;have hbz:=below_then (HB.out.alloc (by have:=HB.out.size;first|exact this|(simp;omega)) _) hb;have Rr:=ak ((At.new w #[.string nm,.int .i64 fr,.int .i64 tt,.int .i64 mo,.int .u8 k,.int .i64 n,.int .i64 d,.int .i64 s,.int .u8 c,.int .i64 sv,.string lt] 112).call hb);replace HB:=ak hbz;clear hb hbz;obtain⟨zRr,Rrc0,Rrc1,Rrc2,Rrc3,Rrc4,Rrc5,Rrc6,Rrc7,Rrc8,Rrc9,Rrc10⟩:=Rr.out.c11;go_wp2;go_ret
 exact⟨rfl,HB.out⟩
theorem ruleCheck_6W (nm:ByteArray)(fr tt mo k n d s c sv:Int)(lt:ByteArray)(w:World)(hs1:nm.size≤1000000)(hs2:lt.size≤maxLen)(hN:Ru.name (tl nm)=true)(h4:(decide (1≤fr) && decide (fr≤tt) && decide (tt≤9999))=true)(h3:(decide (1≤mo) && decide (mo≤12))=true)(hD:Dy.Ok k n d)(hM:Mo.Ok s c)(hV:IsTime sv)(hL:Ab.letter lt=false):
  Calls Tryz.prog 88 #[.agg #[.string nm,.int .i64 fr,.int .i64 tt,.int .i64 mo,.int .u8 k,.int .i64 n,.int .i64 d,.int .i64 s,.int .u8 c,.int .i64 sv,.string lt]] w fun e w'=>e=.returned (.int .i64 2)∧Below w.heap.size w w':=by
 have HB:=ak (Below.refl w.heap.size w);have H0:=ak fun W=>calls_bool (name_any nm W hs1) hN
 have H1:=ak fun W=>calls_bool (rising4_any 1 fr tt 9999 W) h4
 have H2:=ak fun W=>calls_bool (rising3_any 1 mo 12 W) h3
 have H3:=ak fun W=>dayCheck_ok k n d W hD
 have H4:=ak fun W=>momCheck_ok s c W hM
 obtain⟨v1,v2⟩:=hV;have H6:=ak fun W=>checkLetter_noW lt W hs2 hL
 clear hN h4 h3 hD hM hL hs1 hs2;go_enter Tryz.func88,Tryz.ntmps88
 go_wp2_with fail
 refine(H0.out _).mono ?_;rintro e w1 ⟨rfl,hb⟩;have hbz:=below_then (HB.out.alloc (by have:=HB.out.size;first|exact this|(simp;omega)) _) hb;have Rr:=ak ((At.new w #[.string nm,.int .i64 fr,.int .i64 tt,.int .i64 mo,.int .u8 k,.int .i64 n,.int .i64 d,.int .i64 s,.int .u8 c,.int .i64 sv,.string lt] 112).call hb);replace HB:=ak hbz;clear hb hbz;obtain⟨zRr,Rrc0,Rrc1,Rrc2,Rrc3,Rrc4,Rrc5,Rrc6,Rrc7,Rrc8,Rrc9,Rrc10⟩:=Rr.out.c11;go_wp2_with fail
 refine(H1.out _).mono ?_;rintro e w2 ⟨rfl,hb⟩;have hbz:=below_then HB.out hb;have Rr':=Rr.out.call hb;clear Rr;have Rr:=ak Rr';clear Rr';replace HB:=ak hbz;clear hb hbz;clear zRr Rrc0 Rrc1 Rrc2 Rrc3 Rrc4 Rrc5 Rrc6 Rrc7 Rrc8 Rrc9 Rrc10;obtain⟨zRr,Rrc0,Rrc1,Rrc2,Rrc3,Rrc4,Rrc5,Rrc6,Rrc7,Rrc8,Rrc9,Rrc10⟩:=Rr.out.c11;go_wp2_with fail
 refine(H2.out _).mono ?_;rintro e w3 ⟨rfl,hb⟩;have hbz:=below_then HB.out hb;have Rr':=Rr.out.call hb;clear Rr;have Rr:=ak Rr';clear Rr';replace HB:=ak hbz;clear hb hbz;clear zRr Rrc0 Rrc1 Rrc2 Rrc3 Rrc4 Rrc5 Rrc6 Rrc7 Rrc8 Rrc9 Rrc10;obtain⟨zRr,Rrc0,Rrc1,Rrc2,Rrc3,Rrc4,Rrc5,Rrc6,Rrc7,Rrc8,Rrc9,Rrc10⟩:=Rr.out.c11;go_wp2_with fail
 refine(H3.out _).mono ?_;rintro e w4 ⟨rfl,hb⟩;have hbz:=below_then HB.out hb;have Rr':=Rr.out.call hb;clear Rr;have Rr:=ak Rr';clear Rr';replace HB:=ak hbz;clear hb hbz;clear zRr Rrc0 Rrc1 Rrc2 Rrc3 Rrc4 Rrc5 Rrc6 Rrc7 Rrc8 Rrc9 Rrc10;obtain⟨zRr,Rrc0,Rrc1,Rrc2,Rrc3,Rrc4,Rrc5,Rrc6,Rrc7,Rrc8,Rrc9,Rrc10⟩:=Rr.out.c11;go_wp2_with fail
 refine(H4.out _).mono ?_;rintro e w5 ⟨rfl,hb⟩;have hbz:=below_then HB.out hb;have Rr':=Rr.out.call hb;clear Rr;have Rr:=ak Rr';clear Rr';replace HB:=ak hbz;clear hb hbz;clear zRr Rrc0 Rrc1 Rrc2 Rrc3 Rrc4 Rrc5 Rrc6 Rrc7 Rrc8 Rrc9 Rrc10;obtain⟨zRr,Rrc0,Rrc1,Rrc2,Rrc3,Rrc4,Rrc5,Rrc6,Rrc7,Rrc8,Rrc9,Rrc10⟩:=Rr.out.c11;go_wp2_with fail
 refine(H6.out _).mono ?_;rintro e w6 ⟨rfl,hb⟩;have hbz:=below_then HB.out hb;have Rr':=Rr.out.call hb;clear Rr;have Rr:=ak Rr';clear Rr';replace HB:=ak hbz;clear hb hbz;clear zRr Rrc0 Rrc1 Rrc2 Rrc3 Rrc4 Rrc5 Rrc6 Rrc7 Rrc8 Rrc9 Rrc10;obtain⟨zRr,Rrc0,Rrc1,Rrc2,Rrc3,Rrc4,Rrc5,Rrc6,Rrc7,Rrc8,Rrc9,Rrc10⟩:=Rr.out.c11;go_wp2;go_ret
 exact⟨rfl,HB.out⟩
theorem ruleCheck_badW (r:Ru.R)(w:World)(h:¬r.Ok)(hs1:r.nm.size≤maxLen)(hs2:r.lt.size≤maxLen):
  Calls Tryz.prog 88 #[r.v] w fun e w'=>e=.returned (.int .i64 2)∧Below w.heap.size w w':=by
 by_cases h1:Ru.name (tl r.nm)=true
 ·have hs1':r.nm.size≤1000000:=by have:=Src.name_len h1;rw[tl_length] at this;omega
  by_cases h2:1≤r.fr∧r.fr≤r.tt∧r.tt≤9999
  ·have e2:(decide (1≤r.fr) && decide (r.fr≤r.tt) && decide (r.tt≤9999))=true:=by simp[h2.1,h2.2.1,h2.2.2]
   by_cases h3:1≤r.mo∧r.mo≤12
   ·have e3:(decide (1≤r.mo) && decide (r.mo≤12))=true:=by simp[h3.1,h3.2]
    by_cases h4:Dy.Ok r.k r.n r.d
    ·by_cases h5:Mo.Ok r.s r.c
     ·by_cases h6:IsTime r.sv
      ·have h7:Ab.letter r.lt=false:=by
        cases hx:Ab.letter r.lt
        ·rfl
        ·exact absurd ⟨h1,h2,h3,h4,h5,h6,hx⟩ h
       exact ruleCheck_6W r.nm r.fr r.tt r.mo r.k r.n r.d r.s r.c r.sv r.lt w hs1' hs2 h1 e2 e3 h4 h5 h6 h7
      ·exact ruleCheck_5 r.nm r.fr r.tt r.mo r.k r.n r.d r.s r.c r.sv r.lt w hs1' h1 e2 e3 h4 h5 h6
     ·exact ruleCheck_4 r.nm r.fr r.tt r.mo r.k r.n r.d r.s r.c r.sv r.lt w hs1' h1 e2 e3 h4 h5
    ·exact ruleCheck_3 r.nm r.fr r.tt r.mo r.k r.n r.d r.s r.c r.sv r.lt w hs1' h1 e2 e3 h4
   ·exact ruleCheck_2 r.nm r.fr r.tt r.mo r.k r.n r.d r.s r.c r.sv r.lt w hs1' h1 e2 (by rw[← Bool.not_eq_true];intro x;simp at x;exact h3 x)
  ·exact ruleCheck_1 r.nm r.fr r.tt r.mo r.k r.n r.d r.s r.c r.sv r.lt w hs1' h1 (by rw[← Bool.not_eq_true];intro x;simp at x;exact h2 ⟨x.1.1,x.1.2,x.2⟩)
 ·exact ruleCheck_0W r.nm r.fr r.tt r.mo r.k r.n r.d r.s r.c r.sv r.lt w hs1 (by simpa using h1)
theorem wrongRule_anyW (r:Ru.R)(w:World)(h1:r.nm.size≤maxLen)(h2:r.lt.size≤maxLen):Calls Tryz.prog 87 #[r.v] w fun e w'=>e=.returned (.bool (!r.good))∧Below w.heap.size w w':=by
 cases hg:r.good
 ·have hn:¬r.Ok:=fun h=>by rw[(Ru.R.good_iff r).2 h] at hg;cases hg
  have HC:=ak fun W=>ruleCheck_badW r W hn h1 h2
  obtain⟨nm,fr,tt,mo,k,n,d,s,c,sv,lt⟩:=r;unfold Ru.R.v at HC ⊢;clear hn hg h1 h2;have HB:=ak ((Below.refl w.heap.size w).alloc (Nat.le_refl _) (.cells #[.string nm,.int .i64 fr,.int .i64 tt,.int .i64 mo,.int .u8 k,.int .i64 n,.int .i64 d,.int .i64 s,.int .u8 c,.int .i64 sv,.string lt] 112));go_enter Tryz.func87,Tryz.ntmps87
  go_wp2_with fail
  refine(HC.out _).mono ?_;rintro e w1 ⟨rfl,hb⟩;replace HB:=ak (below_then HB.out hb);clear hb;go_wp2;go_ret
  exact⟨rfl,HB.out⟩
 ·have hok:=(Ru.R.good_iff r).1 hg;have hz1:r.nm.size≤1000000:=by have:=Src.name_len hok.1;rw[tl_length] at this;omega
  have hz2:r.lt.size≤1000000:=by
   have hl:=hok.2.2.2.2.2.2;unfold Ab.letter at hl;simp only[Bool.and_eq_true,decide_eq_true_eq] at hl;omega
  have HC:=ak fun W=>ruleCheck_ok r W hok hz1 hz2
  clear hok hz1 hz2;obtain⟨nm,fr,tt,mo,k,n,d,s,c,sv,lt⟩:=r;unfold Ru.R.v at HC ⊢;clear hg h1 h2;have HB:=ak ((Below.refl w.heap.size w).alloc (Nat.le_refl _) (.cells #[.string nm,.int .i64 fr,.int .i64 tt,.int .i64 mo,.int .u8 k,.int .i64 n,.int .i64 d,.int .i64 s,.int .u8 c,.int .i64 sv,.string lt] 112));go_enter Tryz.func87,Tryz.ntmps87
  go_wp2_with fail
  refine(HC.out _).mono ?_;rintro e w1 ⟨rfl,hb⟩;replace HB:=ak (below_then HB.out hb);clear hb;go_wp2;go_ret
  exact⟨rfl,HB.out⟩
theorem name_btsW (t:Src.Txt)(w:World)(h:t.length≤maxLen)(b:Bool)(hb:Ru.name t=b):Calls Tryz.prog 92 #[.string (Src.bts t)] w fun e w'=>e=.returned (.bool b)∧Below w.heap.size w w':=by
 have:=name_all (Src.bts t) w h;rw[show tl (Src.bts t)=t from tl_mk t,hb] at this;exact this
theorem wrongLink_anyW (k:Src.Txt × Src.Txt)(w:World)(h1:k.1.length≤maxLen)(h2:k.2.length≤maxLen):Calls Tryz.prog 91 #[Src.lv k] w fun e w'=>e=.returned (.bool (!Src.linkB k))∧Below w.heap.size w w':=by
 obtain⟨a,b⟩:=k;unfold Src.lv Src.linkB;simp only at h1 h2 ⊢;obtain⟨va,hva⟩:=aj (Ru.name a)
 obtain⟨vb,hvb⟩:=aj (Ru.name b)
 have H1:=ak fun W=>name_btsW a W h1 va hva
 have H2:=ak fun W=>name_btsW b W h2 vb hvb
 rw[hva,hvb];obtain⟨xa,hxa⟩:=aj (Src.bts a)
 obtain⟨xb,hxb⟩:=aj (Src.bts b)
 rw[hxa,hxb];rw[hxa] at H1;rw[hxb] at H2;clear h1 h2 hva hvb hxa hxb;have HB:=ak ((Below.refl w.heap.size w).alloc (Nat.le_refl _) (.cells #[.string xa,.string xb] 114));have HA:=ak (At.new w #[.string xa,.string xb] 114);cases va
 ·go_enter Tryz.func91,Tryz.ntmps91
  go_wp2_with fail
  refine(H1.out _).mono ?_;rintro e w1 ⟨rfl,hb⟩;replace HB:=ak (below_then HB.out hb);clear hb;go_wp2;go_ret
  exact⟨rfl,HB.out⟩
 ·go_enter Tryz.func91,Tryz.ntmps91
  go_wp2_with fail
  refine(H1.out _).mono ?_;rintro e w1 ⟨rfl,hb⟩;have HA1:=ak (HA.out.call hb);replace HB:=ak (below_then HB.out hb);clear hb;obtain⟨a0,a1,_⟩:=HA1.out.two;go_wp2_with fail
  refine(H2.out _).mono ?_;rintro e w2 ⟨rfl,hb⟩;replace HB:=ak (below_then HB.out hb);clear hb;go_wp2;go_ret
  exact⟨rfl,HB.out⟩
theorem rightZone_anyW (z:(Src.Txt × List Er.E) × Value)(w:World)(hW:Wa w)(hr:Src.RowR w w.heap.size 13 z.1.2.length z.2 (z.1.2.flatMap Er.E.cells))(h1:z.1.1.length≤maxLen)(h2:∀e∈z.1.2,e.fm.size≤maxLen∧e.ru.size≤maxLen):
  Calls Tryz.prog 90 #[Src.zv z] w fun e w'=>e=.returned (.bool (Src.zoneB z.1))∧Below w.heap.size w w':=by
 obtain⟨⟨nm,es⟩,ev⟩:=z;unfold Src.zv Src.zoneB;simp only at hr h1 h2 ⊢;obtain⟨A,c,rfl,hnc,hcm,hrr⟩:=hr;obtain⟨vn,hvn⟩:=aj (Ru.name nm)
 have H1:=ak fun W=>name_btsW nm W h1 vn hvn
 rw[hvn];obtain⟨xn,hxn⟩:=aj (Src.bts nm)
 rw[hxn] at H1 ⊢;obtain⟨n,hn⟩:=aj (es.length)
 obtain⟨X,hX⟩:=aj (Src.erasB es)
 rw[hX];rw[hn] at hrr hnc ⊢;have HN:=ak hn;have HX:=ak hX.symm;have HR:=ak hrr;have HS:=ak h2;have HW:=ak hW;unfold maxLen at hcm;clear h1 hvn hxn hn hX hrr h2 hW;have HB0:=ak ((Below.refl w.heap.size w).alloc (Nat.le_refl _) (.cells #[.string xn,.slice A n c] 117));have HA0:=ak (At.new w #[.string xn,.slice A n c] 117);obtain⟨h,hh⟩:=aj (w.heap.size)
 have HH:=ak hh;cases vn
 ·go_enter Tryz.func90,Tryz.ntmps90
  go_wp2_with fail
  refine(H1.out _).mono ?_;rintro e w1 ⟨rfl,hb⟩;replace HB0:=ak (below_then HB0.out hb);clear hb;go_wp2;go_ret
  exact⟨rfl,HB0.out⟩
 by_cases hn1:n<1
 ·have q1:(n:Int)<1:=by omega
  go_enter Tryz.func90,Tryz.ntmps90
  go_wp2_with fail
  refine(H1.out _).mono ?_;rintro e w1 ⟨rfl,hb⟩;have HA1:=ak (HA0.out.call hb);replace HB0:=ak (below_then HB0.out hb);clear hb;rw[hh] at HA1;obtain⟨a0,a1,_⟩:=HA1.out.two;go_wp2;go_ret
  rw[decide_eq_false (by omega)];exact⟨rfl,HB0.out⟩
 have q1:¬(n:Int)<1:=by omega
 by_cases hn2:64<n
 ·have q2:(64:Int)<(n:Int):=by omega
  go_enter Tryz.func90,Tryz.ntmps90
  go_wp2_with fail
  refine(H1.out _).mono ?_;rintro e w1 ⟨rfl,hb⟩;have HA1:=ak (HA0.out.call hb);replace HB0:=ak (below_then HB0.out hb);clear hb;rw[hh] at HA1;obtain⟨a0,a1,_⟩:=HA1.out.two;go_wp2;go_ret
  rw[decide_eq_true (show 1≤n by omega),decide_eq_false (show ¬n≤64 by omega)];exact⟨rfl,HB0.out⟩
 have q2:¬(64:Int)<(n:Int):=by omega
 have HY:Hid ((true && (decide (1≤n) && (decide (n≤64) && X)))=X):=by
  show _=_
  rw[decide_eq_true (show 1≤n by omega),decide_eq_true (show n≤64 by omega)];rfl
 rw[HY.out];go_enter Tryz.func90,Tryz.ntmps90
 go_wp2_with fail
 refine(H1.out _).mono ?_;rintro e w1 ⟨rfl,hb⟩;have HA1:=ak (HA0.out.call hb);have HB1:=ak (below_then HB0.out hb);clear hb;rw[hh] at HA1;obtain⟨a0,a1,_⟩:=HA1.out.two;go_wp2_with fail
 clear a0 a1 hh;go_loopw [24] (fun i wr=>∃k:Nat,k≤n∧i=.int .i64 k∧Hid (X=Src.erasB (es.drop k))∧Hid (At wr h [.string xn,.slice A n c])∧Hid (Below w.heap.size w wr)) (fun i _=>n - (intOf i).toNat)
 case atStart=>exact⟨0,Nat.zero_le _,rfl,HX.out,HA1.out,HB1.out⟩
 case round=>
  obtain⟨i,hi,rfl,HK,HA,HB⟩:=hrel
  by_cases hlt:i<n
  ·have q3:=am i
   have q4:(i:Int)<(n:Int):=(by omega);obtain⟨ad,x,rfl,hab,Hx,HL0⟩:=Ix.reads_cells (enc:=Er.E.cells) (m:=13) (fun _=>rfl) HN.out (HR.out.below HB.out) hlt;have hsm:=HS.out x (List.mem_of_getElem? Hx.out);have hnx:=erasB_next HK.out Hx.out HN.out;have hC:=fun W hw=>eraCheck_any x W hw hsm.1 hsm.2
   obtain⟨q,hq⟩:=aj (Er.chk x)
   have hgood:x.good=decide (q=0):=by unfold Er.E.good;rw[hq]
   simp only[hq] at hC;rw[hgood] at hnx;obtain⟨std,k,sv,ru,fm,en,⟨y,m,dk,dn,dd,sc,cc⟩⟩:=x;simp only at hnx;unfold Er.E.v at hC;simp only at hC;have x0:wr.cell? (ad.add (i*13))=some (.int .i64 std):=HL0.out 0 _ rfl;have x1:wr.cell? ⟨(ad.add (i*13)).block,(ad.add (i*13)).off+1,none⟩=some (.int .u8 k):=HL0.out 1 _ rfl;have x2:wr.cell? ⟨(ad.add (i*13)).block,(ad.add (i*13)).off+2,none⟩=some (.int .i64 sv):=HL0.out 2 _ rfl;have x3:wr.cell? ⟨(ad.add (i*13)).block,(ad.add (i*13)).off+3,none⟩=some (.string ru):=HL0.out 3 _ rfl;have x4:wr.cell? ⟨(ad.add (i*13)).block,(ad.add (i*13)).off+4,none⟩=some (.string fm):=HL0.out 4 _ rfl;have x5:wr.cell? ⟨(ad.add (i*13)).block,(ad.add (i*13)).off+5,none⟩=some (.bool en):=HL0.out 5 _ rfl;have x6:wr.cell? ⟨(ad.add (i*13)).block,(ad.add (i*13)).off+6,none⟩=some (.int .i64 y):=HL0.out 6 _ rfl;have x7:wr.cell? ⟨(ad.add (i*13)).block,(ad.add (i*13)).off+7,none⟩=some (.int .i64 m):=HL0.out 7 _ rfl;have x8:wr.cell? ⟨(ad.add (i*13)).block,(ad.add (i*13)).off+8,none⟩=some (.int .u8 dk):=HL0.out 8 _ rfl;have x9:wr.cell? ⟨(ad.add (i*13)).block,(ad.add (i*13)).off+9,none⟩=some (.int .i64 dn):=HL0.out 9 _ rfl;have x10:wr.cell? ⟨(ad.add (i*13)).block,(ad.add (i*13)).off+10,none⟩=some (.int .i64 dd):=HL0.out 10 _ rfl;have x11:wr.cell? ⟨(ad.add (i*13)).block,(ad.add (i*13)).off+11,none⟩=some (.int .i64 sc):=HL0.out 11 _ rfl
   have x12:wr.cell? ⟨(ad.add (i*13)).block,(ad.add (i*13)).off+12,none⟩=some (.int .u8 cc):=HL0.out 12 _ rfl;have HC:=ak hC;have HNX:=ak hnx;clear hC hnx hq hgood hsm;have HA2:=ak (HA.out.allocO (.cells #[.int .i64 std,.int .u8 k,.int .i64 sv,.string ru,.string fm,.bool en,.int .i64 y,.int .i64 m,.int .u8 dk,.int .i64 dn,.int .i64 dd,.int .i64 sc,.int .u8 cc] 191));have HE2:=ak (At.new wr #[.int .i64 std,.int .u8 k,.int .i64 sv,.string ru,.string fm,.bool en,.int .i64 y,.int .i64 m,.int .u8 dk,.int .i64 dn,.int .i64 dd,.int .i64 sc,.int .u8 cc] 191);have HB2:=ak (HB.out.alloc HB.out.size (.cells #[.int .i64 std,.int .u8 k,.int .i64 sv,.string ru,.string fm,.bool en,.int .i64 y,.int .i64 m,.int .u8 dk,.int .i64 dn,.int .i64 dd,.int .i64 sc,.int .u8 cc] 191));obtain⟨g,hg⟩:=aj (wr.heap.size)
   have wn:IntKind.i64.wrap ((n:Int) - 1)=(n:Int) - 1:=IntWalk.i64_in _ (by omega);go_wp2_with fail
   refine(HC.out _ (HW.out.below HB2.out)).mono ?_;rintro e w2 ⟨rfl,hb⟩;have HA3:=ak (HA2.out.call hb);have HE3:=ak (HE2.out.call hb);have HB3:=ak (below_then HB2.out hb);clear hb HA2 HE2 HB2;rw[hg] at HE3;clear hg x0 x1 x2 x3 x4 x5 x6 x7 x8 x9 x10 x11 x12
   by_cases hq0:q=0
   ·subst hq0;have e5:=HE3.out.cell 5 _ rfl;obtain⟨a0,a1,_⟩:=HA3.out.two
    by_cases hen:en=decide ((i:Int)<(n:Int) - 1)
    ·have HQ:Hid (X=Src.erasB (es.drop (i+1))):=by
      show _=_
      rw[HNX.out,hen];simp
     subst hen;go_wp2;go_roundw
     case rel=>exact⟨i+1,by omega,by go_num,HQ.out,HA3.out,HB3.out⟩
     case measure=>simp[intOf];omega
    ·have hne:en=!decide ((i:Int)<(n:Int) - 1):=by
      revert hen
      cases en <;> cases decide ((i:Int)<(n:Int) - 1) <;> simp
     have HQ:Hid (X=false):=by
      show _=_
      rw[HNX.out,hne];cases decide ((i:Int)<(n:Int) - 1) <;> rfl
     subst hne;clear hen;go_wp2;go_ret
     exact⟨ret_bool HQ.out.symm,HB3.out⟩
   ·have e0:(q == 0)=false:=by rw[beq_eq_false_iff_ne];exact hq0
    have HQ:Hid (X=false):=by
     show _=_
     rw[HNX.out,decide_eq_false hq0];rfl
    have e1:(q != 0)=true:=by simpa using hq0
    clear hq0;go_wp2;go_ret
    exact⟨ret_bool HQ.out.symm,HB3.out⟩
  ·have q4:¬(i:Int)<(n:Int):=(by omega);have HE:=ak (erasB_end HK.out (by rw[HN.out];omega));go_wp2;go_ret
   exact⟨ret_bool HE.out.symm,HB.out⟩
theorem wrongZone_anyW (z:(Src.Txt × List Er.E) × Value)(w:World)(hW:Wa w)(hr:Src.RowR w w.heap.size 13 z.1.2.length z.2 (z.1.2.flatMap Er.E.cells))(h1:z.1.1.length≤maxLen)(h2:∀e∈z.1.2,e.fm.size≤maxLen∧e.ru.size≤maxLen):
  Calls Tryz.prog 89 #[Src.zv z] w fun e w'=>e=.returned (.bool (!Src.zoneB z.1))∧Below w.heap.size w w':=by
 have hC:=fun W (hb:Below w.heap.size w W)=>rightZone_anyW z W (hW.below hb) ((hr.below hb).more hb.size) h1 h2
 obtain⟨v,hv⟩:=aj (Src.zoneB z.1)
 rw[hv];simp only[hv] at hC;obtain⟨A,c,e,_,_,_⟩:=hr;obtain⟨⟨nm,es⟩,ev⟩:=z;simp only at e;subst e;unfold Src.zv at hC ⊢;simp only at hC ⊢;obtain⟨xn,hxn⟩:=aj (Src.bts nm)
 rw[hxn];simp only[hxn] at hC;have HC:=ak hC;have HB:=ak ((Below.refl w.heap.size w).alloc (Nat.le_refl _) (.cells #[.string xn,.slice A es.length c] 117));clear hC hW h1 h2 hxn hv;go_enter Tryz.func89,Tryz.ntmps89
 go_wp2_with fail
 refine(HC.out _ HB.out).mono ?_;rintro e w1 ⟨rfl,hb⟩;replace HB:=ak (below_then HB.out hb);clear hb;go_wp2;go_ret
 exact⟨rfl,HB.out⟩
structure Src.SmW (s:Src.S):Prop where
 rules:∀r∈s.rules,r.nm.size≤maxLen∧r.lt.size≤maxLen
 zones:∀z∈s.zones,z.1.length≤maxLen∧∀e∈z.2,e.fm.size≤maxLen∧e.ru.size≤maxLen
 links:∀k∈s.links,k.1.length≤maxLen∧k.2.length≤maxLen
theorem Src.Wide.smw {s:Src.S}(h:Src.Wide s):Src.SmW s:=⟨fun r hr=>(h.rules r hr).2,fun z hz=>⟨(h.zones z hz).1,fun e he=>⟨((h.zones z hz).2 e he).2.2,((h.zones z hz).2 e he).2.1⟩⟩,h.links⟩
theorem srcCheck_anyW (s:Src.S)(rv zv lv:Value)(evs:List Value)(w:World)(hW:Wa w)(hR:Src.SrcR w w.heap.size s rv zv lv evs)(hL:Src.Lims s)(hS:Src.SmW s):
  Calls Tryz.prog 55 #[.agg #[rv,zv,lv]] w fun e w'=>e=.returned (.int .i64 (if Src.srcB s=true then 0 else 2))∧Below w.heap.size w w':=by
 obtain⟨rules,zones,links,op⟩:=s;obtain⟨⟨rA,rc,rfl,hr1,hr2,hr3⟩,⟨zA,zc,rfl,hz1,hz2,hz3⟩,⟨lA,lc,rfl,hl1,hl2,hl3⟩,hlen,hers⟩:=hR;obtain⟨L1,L2,L3⟩:=hL;obtain⟨S1,S2,S3⟩:=hS;unfold Src.srcB;simp only at hr1 hr3 hz1 hz3 hl1 hl3 hlen hers L1 L2 L3 S1 S2 S3 ⊢;have hC1:∀W,Below w.heap.size w W→_:=fun W hb=>has_rule (fun r=>!r.good) 87 #[] (enters_of Tryz.func87 (by kernel_rfl) rfl) rA rules.length rc rules W (Nat.le_trans hr1 hr2) rfl ((hr3.below hb).more hb.size)
  (fun W' x hx hbW=>by
   rw[show (#[x.v] ++ (#[]:Array Value))=#[x.v] by simp];exact(wrongRule_anyW x W' (S1 x hx).1 (S1 x hx).2).mono fun e w' ⟨h,hb⟩=>⟨h,hbW.trans (hb.mono hbW.size)⟩)
 have hC2:∀W,Below w.heap.size w W→_:=fun W hb=>has_zone (fun p=>!Src.zoneB p.1) 89 #[] (enters_of Tryz.func89 (by kernel_rfl) rfl) zA zones.length zc (zones.zip evs) W (Nat.le_trans hz1 hz2) (by simp[hlen]) ((hz3.below hb).more hb.size)
  (fun W' x hx hbW=>by
   have hb2:=hb.trans (hbW.mono hb.size);rw[show (#[Src.zv x] ++ (#[]:Array Value))=#[Src.zv x] by simp];exact(wrongZone_anyW x W' (hW.below hb2) (((hers x hx).below hb2).more hb2.size) (S2 x.1 (mem_zip hx)).1 (S2 x.1 (mem_zip hx)).2).mono fun e w' ⟨h,hb⟩=>⟨h,hbW.trans (hb.mono hbW.size)⟩)
 have hC3:∀W,Below w.heap.size w W→_:=fun W hb=>has_link (fun p=>!Src.linkB p) 91 #[] (enters_of Tryz.func91 (by kernel_rfl) rfl) lA links.length lc links W (Nat.le_trans hl1 hl2) rfl ((hl3.below hb).more hb.size)
  (fun W' x hx hbW=>by
   rw[show (#[Src.lv x] ++ (#[]:Array Value))=#[Src.lv x] by simp];exact(wrongLink_anyW x W' (S3 x hx).1 (S3 x hx).2).mono fun e w' ⟨h,hb⟩=>⟨h,hbW.trans (hb.mono hbW.size)⟩)
 rw[any_not] at hC1 hC3;rw[any_zip (fun z=>!Src.zoneB z) zones evs hlen,any_not] at hC2;obtain⟨b1,hb1⟩:=aj (rules.all Ru.R.good)
 obtain⟨b2,hb2⟩:=aj (zones.all Src.zoneB)
 obtain⟨b3,hb3⟩:=aj (links.all Src.linkB)
 rw[hb1] at hC1;rw[hb2] at hC2;rw[hb3] at hC3;rw[hb1,hb2,hb3];obtain⟨n1,hn1⟩:=aj (rules.length)
 obtain⟨n2,hn2⟩:=aj (zones.length)
 obtain⟨n3,hn3⟩:=aj (links.length)
 rw[hn1] at hC1 L1 ⊢;rw[hn2] at hC2 L2 ⊢;rw[hn3] at hC3 L3 ⊢;have HC1:=ak hC1;have HC2:=ak hC2;have HC3:=ak hC3;clear hC1 hC2 hC3 hb1 hb2 hb3 hn1 hn2 hn3 hr1 hr2 hr3 hz1 hz2 hz3 hl1 hl2 hl3 hlen hers S1 S2 S3 hW;have q1:¬(4096:Int)<(n1:Int):=by omega
 have q2:¬(1024:Int)<(n2:Int):=by omega
 have q3:¬(4096:Int)<(n3:Int):=by omega
 have HB:=ak ((Below.refl w.heap.size w).alloc (Nat.le_refl _) (.cells #[.slice rA n1 rc,.slice zA n2 zc,.slice lA n3 lc] 26));have HA:=ak (At.new w #[.slice rA n1 rc,.slice zA n2 zc,.slice lA n3 lc] 26);go_enter Tryz.func55,Tryz.ntmps55
 go_wp2_with fail
 refine(HC1.out _ HB.out).mono ?_;rintro e w1 ⟨rfl,hb⟩;have HA1:=ak (HA.out.call hb);replace HB:=ak (below_then HB.out hb);clear hb;obtain⟨a0,a1,a2,_⟩:=HA1.out.three;cases b1
 ·go_wp2;go_ret
  exact⟨rfl,HB.out⟩
 go_wp2_with fail
 refine(HC2.out _ HB.out).mono ?_;rintro e w2 ⟨rfl,hb⟩;have HA2:=ak (HA1.out.call hb);replace HB:=ak (below_then HB.out hb);clear hb a0 a1 a2;obtain⟨a0,a1,a2,_⟩:=HA2.out.three;cases b2
 ·go_wp2;go_ret
  exact⟨rfl,HB.out⟩
 go_wp2_with fail
 refine(HC3.out _ HB.out).mono ?_;rintro e w3 ⟨rfl,hb⟩;replace HB:=ak (below_then HB.out hb);clear hb a0 a1 a2;cases b3
 ·go_wp2;go_ret
  exact⟨rfl,HB.out⟩
 ·go_wp2;go_ret
  exact⟨rfl,HB.out⟩
end Go.Proofs.YtjobhjemnmleaaaGreatDoor
