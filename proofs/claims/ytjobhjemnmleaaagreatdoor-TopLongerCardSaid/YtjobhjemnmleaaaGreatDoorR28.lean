/- The record of a year's spans has just these; where there is none no right record has them; a like stamp changes nothing. -/
import Derived.Test.YtjobhjemnmleaaaGreatDoorR27
import Derived.Laws.Rows
set_option maxRecDepth 100000
set_option maxHeartbeats 16000000
namespace Go.Proofs.YtjobhjemnmleaaaGreatDoor
open Go.RowKit
namespace Rc
structure Of (l:List Ln.Sp)(y:Int):Prop where
 right:Lo.Right l
 fr:∀x,l[0]?=some x→x.fr=Oc.D y*86400
 te:∀x∈l,x.fr<Oc.D (y+1)*86400
theorem Of.up {l:List Ln.Sp}{y:Int}(h:Of l y){k:Nat}{x z:Ln.Sp}(h1:l[k]?=some x)(h2:l[k+1]?=some z):x.fr<z.fr∧(x.off≠z.off∨x.dst≠z.dst):=by
 obtain⟨a,b⟩:=h.right.up k x z h1 h2;refine⟨a,?_⟩;unfold Ln.alike at b
 by_cases ho:x.off=z.off
 ·right
  intro hd;rw[ho,hd] at b;simp at b
 ·exact .inl ho
structure Fit (l:List Ln.Sp)(fr te:Int):Prop where
 min:∀p∈l,p.off % 60=0
 near:∀p∈l,-86400≤p.off∧p.off≤86400
 few:l.length≤3
 shift:∀(i k:Nat) (p q:Ln.Sp),k<i→l[i]?=some p→l[k]?=some q→p.dst=q.dst→p.off=q.off
 date:∀(i:Nat) (p q:Ln.Sp),l[i]?=some q→l[i+1]?=some p→fr≤p.fr+q.off∧p.fr+q.off≤te
theorem getD_some {l:List Ln.Sp}{i:Nat}{p:Ln.Sp}(h:l[i]?=some p):l.getD i ⟨0,0,false⟩=p:=by
 rw[List.getD_eq_getElem?_getD,h];rfl
theorem why_fit {l:List Ln.Sp}{fr te:Int}(h:why l fr te=0):Fit l fr te:=by
 unfold why at h;split at h
 ·omega
 split at h
 ·omega
 split at h
 ·omega
 split at h
 ·omega
 split at h
 ·omega
 rename_i h1 h2 h3 h4 h5
 rw[Bool.not_eq_true,List.any_eq_false] at h1 h2;refine⟨fun p hp=>?_,fun p hp=>?_,by omega,fun i k p q hik hp hq hd=>?_,fun i p q hq hp=>?_⟩
 ·have:=h1 p hp;simpa using this
 ·have:=h2 p hp;simp at this
  omega
 ·unfold shift at h4;rw[Bool.not_eq_true,List.any_eq_false] at h4;have:=h4 i (List.mem_range.2 (List.getElem?_eq_some_iff.1 hp).1);unfold shiftAt at this;rw[Bool.not_eq_true,List.any_eq_false] at this;have:=this q (by
   rw[List.mem_iff_getElem?];exact⟨k,by rw[List.getElem?_take,if_pos hik,hq]⟩)
  rw[getD_some hp] at this;simp at this
  exact this hd
 ·unfold date at h5;rw[Bool.not_eq_true,List.any_eq_false] at h5;have:=h5 i (List.mem_range.2 (by have:=(List.getElem?_eq_some_iff.1 hp).1;omega));unfold dateAt at this;rw[getD_some hp,getD_some hq] at this;simp at this
  omega
theorem fit_why {l:List Ln.Sp}{fr te:Int}(h:Fit l fr te):why l fr te=0:=by
 unfold why;rw[if_neg,if_neg,if_neg,if_neg,if_neg]
 ·unfold date;rw[Bool.not_eq_true,List.any_eq_false];intro i hi;rw[List.mem_range] at hi;obtain⟨q,hq⟩:∃q,l[i]?=some q:=⟨_,List.getElem?_eq_getElem (by omega)⟩
  obtain⟨p,hp⟩:∃p,l[i+1]?=some p:=⟨_,List.getElem?_eq_getElem (by omega)⟩
  have:=h.date i p q hq hp;unfold dateAt;rw[getD_some hp,getD_some hq];simp
  omega
 ·unfold shift;rw[Bool.not_eq_true,List.any_eq_false];intro i hi;rw[List.mem_range] at hi;obtain⟨p,hp⟩:∃p,l[i]?=some p:=⟨_,List.getElem?_eq_getElem hi⟩
  unfold shiftAt;rw[Bool.not_eq_true,List.any_eq_false];intro q hq;rw[List.mem_iff_getElem?] at hq;obtain⟨k,hk⟩:=hq;rw[List.getElem?_take] at hk;split at hk
  ·rename_i hki
   have:=h.shift i k p q hki hp hk;rw[getD_some hp];simpa using this
  ·cases hk
 ·have:=h.few;omega
 ·rw[Bool.not_eq_true,List.any_eq_false];intro p hp;have:=h.near p hp;simp
  omega
 ·rw[Bool.not_eq_true,List.any_eq_false];intro p hp;have:=h.min p hp;simpa using this
theorem plain_ok {x:Int}(h:x % 60=0)(h2:-86400≤x∧x≤86400):Ok (plain x)∧I (plain x)∧so (plain x)=x∧dof (plain x)=x:=by
 have e1:so (plain x)=x:=by unfold so plain;simp only;omega
 have e2:dof (plain x)=x:=by unfold dof plain;simp only;omega
 have u:Sm.U Sm.S.zero:=⟨by decide,by decide,by decide,by decide,by decide,by decide,by decide,by decide⟩
 refine⟨⟨Iff.rfl,Sm.right_iff.2 (.inl rfl),Sm.right_iff.2 (.inl rfl),by omega,by omega⟩,⟨?_,?_,?_,u,u⟩,e1,e2⟩
 all_goals (unfold plain;simp only;omega)
theorem make_ok {x z:Int}{a b:Sm.S}(h:x % 60=0)(h2:-86400≤x∧x≤86400)(k:z % 60=0)(k2:-86400≤z∧z≤86400)(ha:Sm.U a∧Sm.Fine a)(hb:Sm.U b∧Sm.Fine b):
  Ok (make x z a b)∧I (make x z a b)∧so (make x z a b)=x∧dof (make x z a b)=z:=by
 have e1:so (make x z a b)=x:=by unfold so make;simp only;omega
 have e2:dof (make x z a b)=z:=by unfold dof make;simp only;omega
 refine⟨⟨⟨fun q=>absurd q (Sm.fine_ne ha.2),fun q=>absurd q (Sm.fine_ne hb.2)⟩,Sm.right_iff.2 (.inr ha.2),Sm.right_iff.2 (.inr hb.2),by omega,by omega⟩,⟨?_,?_,?_,ha.1,hb.1⟩,e1,e2⟩
 all_goals (unfold make;simp only;omega)
theorem spans_make {x z y:Int}{a b:Sm.S}(h:x % 60=0)(h2:-86400≤x∧x≤86400)(k:z % 60=0)(k2:-86400≤z∧z≤86400)(ha:Sm.U a∧Sm.Fine a)(hb:Sm.U b∧Sm.Fine b):
  spans (make x z a b) y=spansI x z (sec b y x) (sec a y z) (Oc.D y*86400) (Oc.D (y+1)*86400):=by
 obtain⟨_,_,e1,e2⟩:=make_ok h h2 k k2 ha hb;unfold spans toS toT;rw[e1,e2];rfl
theorem plain_spans {x y:Int}(h:x % 60=0)(h2:-86400≤x∧x≤86400):spans (plain x) y=[⟨Oc.D y*86400,x,false⟩]:=by
 obtain⟨_,_,e1,e2⟩:=plain_ok h h2;have e3:toS (plain x) y=never:=by
  unfold toS sec;rw[if_neg];show ¬Sm.no Sm.S.zero y=0
  rw[Sm.no_iff];rintro ⟨h,_⟩;exact absurd h.m1 (by decide)
 have e4:toT (plain x) y=never:=by
  unfold toT sec;rw[if_neg];show ¬Sm.no Sm.S.zero y=0
  rw[Sm.no_iff];rintro ⟨h,_⟩;exact absurd h.m1 (by decide)
 unfold spans;rw[e1,e2,e3,e4];exact one_std
theorem zero_fit : (0:Int) % 60=0∧-86400≤(0:Int)∧(0:Int)≤86400:=by decide
theorem fitted_spans {l:List Ln.Sp}{y:Int}(hy:1601≤y∧y≤9999)(ho:Of l y)(h:why l (Oc.D y*86400) (Oc.D (y+1)*86400)=0):Ok (fitted l y)∧I (fitted l y)∧spans (fitted l y) y=l:=by
 have hf:=why_fit h;have hp:=year_pos y;have F1:=first_fine hy;have L1:Sm.U (last y)∧Sm.Fine (last y):=⟨(last_fine hy).1,(last_fine hy).2.1⟩
 obtain⟨z1,z2,z3⟩:=zero_fit
 match l with
 |[]=>exact absurd rfl ho.right.ne
 |[p]=>
  obtain⟨f,o,d⟩:=p;have m1:=hf.min _ (List.mem_cons_self);have n1:=hf.near _ (List.mem_cons_self);have e0:=ho.fr _ rfl;simp only at m1 n1 e0;subst e0;cases d
  ·have e:fitted [⟨Oc.D y*86400,o,false⟩] y=plain o:=rfl;rw[e];obtain⟨a1,a2,_,_⟩:=plain_ok m1 n1;exact⟨a1,a2,plain_spans m1 n1⟩
  ·by_cases hlt:0<o
   ·have e:fitted [⟨Oc.D y*86400,o,true⟩] y=make 0 o (first y) (first y):=by
     show make 0 o (if 0<o then first y else last y) (first y)=_
     rw[if_pos hlt]
    rw[e];obtain⟨a1,a2,_,_⟩:=make_ok z1 ⟨z2,z3⟩ m1 n1 F1 F1;refine⟨a1,a2,?_⟩;rw[spans_make z1 ⟨z2,z3⟩ m1 n1 F1 F1,sec_first hy,sec_first hy];exact one_dst hp (.inr ⟨by omega,by omega⟩)
   ·have e:fitted [⟨Oc.D y*86400,o,true⟩] y=make 0 o (last y) (first y):=by
     show make 0 o (if 0<o then first y else last y) (first y)=_
     rw[if_neg hlt]
    rw[e];obtain⟨a1,a2,_,_⟩:=make_ok z1 ⟨z2,z3⟩ m1 n1 L1 F1;refine⟨a1,a2,?_⟩;rw[spans_make z1 ⟨z2,z3⟩ m1 n1 L1 F1,sec_first hy,sec_last hy];exact one_dst hp (.inl ⟨by omega,by omega⟩)
 |[p,q]=>
  obtain⟨f,o,d⟩:=p;obtain⟨t,o2,d2⟩:=q;have m1:=hf.min _ (List.mem_cons_self);have n1:=hf.near _ (List.mem_cons_self);have m2:=hf.min _ (List.mem_cons_of_mem _ (List.mem_cons_self));have n2:=hf.near _ (List.mem_cons_of_mem _ (List.mem_cons_self));have t2:=ho.te _ (List.mem_cons_of_mem _ (List.mem_cons_self));have e0:=ho.fr _ rfl;obtain⟨u1,u2⟩:=ho.up (k:=0) rfl rfl;have s1:=hf.shift 1 0 _ _ (by decide) rfl rfl;obtain⟨c1,c2⟩:=hf.date 0 _ _ rfl rfl;simp only at m1 n1 m2 n2 t2 e0 u1 u2 s1 c1 c2;subst e0;have A1:=at_fine hy c1 c2
  have A2:=fun off=>sec_at (off:=off) hy c1 c2
  cases d <;> cases d2
  ·exact absurd (s1 rfl).symm (by simpa using u2)
  ·by_cases hlt:0<o2
   ·have e:fitted [⟨Oc.D y*86400,o,false⟩,⟨t,o2,true⟩] y=make o o2 (first y) (stampAt y (t+o)):=by
     show make o o2 (if 0<o2 then first y else last y) _=_
     rw[if_pos hlt];rfl
    rw[e];obtain⟨a1,a2,_,_⟩:=make_ok m1 n1 m2 n2 F1 A1;refine⟨a1,a2,?_⟩;rw[spans_make m1 n1 m2 n2 F1 A1,sec_first hy,A2,show t+o - o=t by omega];exact to_dst u1 t2 (.inl (by omega))
   ·have e:fitted [⟨Oc.D y*86400,o,false⟩,⟨t,o2,true⟩] y=make o o2 (last y) (stampAt y (t+o)):=by
     show make o o2 (if 0<o2 then first y else last y) _=_
     rw[if_neg hlt];rfl
    rw[e];obtain⟨a1,a2,_,_⟩:=make_ok m1 n1 m2 n2 L1 A1;refine⟨a1,a2,?_⟩;rw[spans_make m1 n1 m2 n2 L1 A1,sec_last hy,A2,show t+o - o=t by omega];exact to_dst u1 t2 (.inr (by omega))
  ·by_cases hlt:0≤o2
   ·have e:fitted [⟨Oc.D y*86400,o,true⟩,⟨t,o2,false⟩] y=make o2 o (stampAt y (t+o)) (first y):=by
     show make o2 o _ (if 0≤o2 then first y else last y)=_
     rw[if_pos hlt];rfl
    rw[e];obtain⟨a1,a2,_,_⟩:=make_ok m2 n2 m1 n1 A1 F1;refine⟨a1,a2,?_⟩;rw[spans_make m2 n2 m1 n1 A1 F1,sec_first hy,A2,show t+o - o=t by omega];exact to_std u1 t2 (.inl (by omega))
   ·have e:fitted [⟨Oc.D y*86400,o,true⟩,⟨t,o2,false⟩] y=make o2 o (stampAt y (t+o)) (last y):=by
     show make o2 o _ (if 0≤o2 then first y else last y)=_
     rw[if_neg hlt];rfl
    rw[e];obtain⟨a1,a2,_,_⟩:=make_ok m2 n2 m1 n1 A1 L1;refine⟨a1,a2,?_⟩;rw[spans_make m2 n2 m1 n1 A1 L1,sec_last hy,A2,show t+o - o=t by omega];exact to_std u1 t2 (.inr (by omega))
  ·exact absurd (s1 rfl).symm (by simpa using u2)
 |[p,q,r]=>
  obtain⟨f,o,d⟩:=p;obtain⟨t,o2,d2⟩:=q;obtain⟨t3,o3,d3⟩:=r;have m1:=hf.min _ (List.mem_cons_self);have n1:=hf.near _ (List.mem_cons_self);have m2:=hf.min _ (List.mem_cons_of_mem _ (List.mem_cons_self));have n2:=hf.near _ (List.mem_cons_of_mem _ (List.mem_cons_self));have t2:=ho.te _ (List.mem_cons_of_mem _ (List.mem_cons_of_mem _ (List.mem_cons_self)));have e0:=ho.fr _ rfl;obtain⟨u1,u2⟩:=ho.up (k:=0) rfl rfl;obtain⟨v1,v2⟩:=ho.up (k:=1) rfl rfl;have s1:=hf.shift 1 0 _ _ (by decide) rfl rfl;have s2:=hf.shift 2 1 _ _ (by decide) rfl rfl;have s3:=hf.shift 2 0 _ _ (by decide) rfl rfl;obtain⟨c1,c2⟩:=hf.date 0 _ _ rfl rfl;obtain⟨c3,c4⟩:=hf.date 1 _ _ rfl rfl;simp only at m1 n1 m2 n2 t2 e0 u1 u2 v1 v2 s1 s2 s3 c1 c2 c3 c4;subst e0;have A1:=at_fine hy c1 c2
  have A2:=fun off=>sec_at (off:=off) hy c1 c2
  have B1:=at_fine hy c3 c4
  have B2:=fun off=>sec_at (off:=off) hy c3 c4
  cases d <;> cases d2
  ·exact absurd (s1 rfl).symm (by simpa using u2)
  ·cases d3
   ·obtain rfl:=s3 rfl;have e:fitted [⟨Oc.D y*86400,o3,false⟩,⟨t,o2,true⟩,⟨t3,o3,false⟩] y=make o3 o2 (stampAt y (t3+o2)) (stampAt y (t+o3)):=rfl;rw[e];obtain⟨a1,a2,_,_⟩:=make_ok m1 n1 m2 n2 B1 A1;refine⟨a1,a2,?_⟩;rw[spans_make m1 n1 m2 n2 B1 A1,A2,B2,show t+o3 - o3=t by omega,show t3+o2 - o2=t3 by omega];exact both_dst u1 v1 t2
   ·exact absurd (s2 rfl).symm (by simpa using v2)
  ·cases d3
   ·exact absurd (s2 rfl).symm (by simpa using v2)
   ·obtain rfl:=s3 rfl;have e:fitted [⟨Oc.D y*86400,o3,true⟩,⟨t,o2,false⟩,⟨t3,o3,true⟩] y=make o2 o3 (stampAt y (t+o3)) (stampAt y (t3+o2)):=rfl;rw[e];obtain⟨a1,a2,_,_⟩:=make_ok m2 n2 m1 n1 A1 B1;refine⟨a1,a2,?_⟩;rw[spans_make m2 n2 m1 n1 A1 B1,A2,B2,show t+o3 - o3=t by omega,show t3+o2 - o2=t3 by omega];exact both_std u1 v1 t2
  ·exact absurd (s1 rfl).symm (by simpa using u2)
 |p :: q :: r :: s :: l'=>
  have:=hf.few;simp only[List.length_cons] at this;omega
theorem sec_in {s:Sm.S}{y off:Int}(hy:1601≤y∧y≤9999)(hu:Sm.U s):sec s y off=never∨(Oc.D y*86400≤sec s y off+off∧sec s y off+off≤Oc.D (y+1)*86400):=by
 unfold sec;split
 ·rename_i h
  right
  obtain⟨hf,hh⟩:=Sm.no_iff.1 h;have hv:=Sm.day_val hf hy hh;obtain⟨b1,b2⟩:=Cv.first_le _ _ _ hv;have b1':Oc.D y≤Cv.num y s.mo (Sm.day s y):=b1;have b2':Cv.num y s.mo (Sm.day s y)<Oc.D (y+1):=b2;have h1:=hu.h.1;have h2:=hf.h2;have i1:=hu.mi.1;have i2:=hf.i2;have s1:=hu.ss.1;have s2:=hf.s2;have k1:=hu.ms.1;have k2:=hf.k2;unfold Sm.loc;obtain⟨n,hn⟩:=aj (Cv.num y s.mo (Sm.day s y))
  rw[hn] at b1' b2' ⊢;omega
 ·exact .inl rfl
theorem spans_why {r:R}{y:Int}(hy:1601≤y∧y≤9999)(ho:Ok r)(hi:I r):why (spans r y) (Oc.D y*86400) (Oc.D (y+1)*86400)=0:=by
 have hp:=year_pos y;have hS:toS r y=never∨(Oc.D y*86400≤toS r y+so r∧toS r y+so r≤Oc.D (y+1)*86400):=sec_in hy hi.dst;have hT:toT r y=never∨(Oc.D y*86400≤toT r y+dof r∧toT r y+dof r≤Oc.D (y+1)*86400):=sec_in hy hi.std;have hte:Oc.D (y+1)*86400<never:=by
  have b:=Oc.D_mono (y:=y+1) (z:=10000) (by omega);have e2:Oc.D 10000=2932897:=by decide
  unfold never;omega
 have m1:so r % 60=0:=by unfold so;omega
 have m2:dof r % 60=0:=by unfold dof;omega
 have n1:=ho.so;have n2:=ho.dof;have hin (a:Int) (h:a=never∨(Oc.D y*86400≤a+so r∧a+so r≤Oc.D (y+1)*86400)) (h2:a<Oc.D (y+1)*86400):Oc.D y*86400≤a+so r∧a+so r≤Oc.D (y+1)*86400:=by
  rcases h with h|h
  ·omega
  ·exact h
 have hin2 (a:Int) (h:a=never∨(Oc.D y*86400≤a+dof r∧a+dof r≤Oc.D (y+1)*86400)) (h2:a<Oc.D (y+1)*86400):Oc.D y*86400≤a+dof r∧a+dof r≤Oc.D (y+1)*86400:=by
  rcases h with h|h
  ·omega
  ·exact h
 refine fit_why ?_;unfold spans;rcases spans_are (so r) (dof r) (toS r y) (toT r y) (Oc.D y*86400) (Oc.D (y+1)*86400) with e|e|⟨k1,k2,e⟩|⟨k1,k2,e⟩|⟨k1,k2,k3,e⟩|⟨k1,k2,k3,e⟩
 all_goals rw[e]
 ·exact⟨by simp;exact m1,by simp;exact n1,by simp,fun i k p q hik hp hq hd=>by
   have:=(List.getElem?_eq_some_iff.1 hp).1;simp at this
   omega,fun i p q hq hp=>by
   have:=(List.getElem?_eq_some_iff.1 hp).1;simp at this⟩
 ·exact⟨by simp;exact m2,by simp;exact n2,by simp,fun i k p q hik hp hq hd=>by
   have:=(List.getElem?_eq_some_iff.1 hp).1;simp at this
   omega,fun i p q hq hp=>by
   have:=(List.getElem?_eq_some_iff.1 hp).1;simp at this⟩
 ·have d1:=hin _ hS (by omega);exact⟨by simp;exact⟨m1,m2⟩,by simp;exact⟨n1,n2⟩,by simp,fun i k p q hik hp hq hd=>by
   match i,k,hik with
   |1,0,_=>cases hp;cases hq;cases hd
   |n+2,_,_=>simp at hp,fun i p q hq hp=>by
   match i with
   |0=>cases hp;cases hq;exact d1
   |n+1=>simp at hp⟩
 ·have d1:=hin2 _ hT (by omega);exact⟨by simp;exact⟨m2,m1⟩,by simp;exact⟨n2,n1⟩,by simp,fun i k p q hik hp hq hd=>by
   match i,k,hik with
   |1,0,_=>cases hp;cases hq;cases hd
   |n+2,_,_=>simp at hp,fun i p q hq hp=>by
   match i with
   |0=>cases hp;cases hq;exact d1
   |n+1=>simp at hp⟩
 ·have d1:=hin _ hS (by omega);have d2:=hin2 _ hT (by omega);exact⟨fun p hp=>by
   simp only[List.mem_cons,List.not_mem_nil,or_false] at hp;rcases hp with rfl|rfl|rfl
   ·exact m1
   ·exact m2
   ·exact m1,fun p hp=>by
   simp only[List.mem_cons,List.not_mem_nil,or_false] at hp;rcases hp with rfl|rfl|rfl
   ·exact n1
   ·exact n2
   ·exact n1,by simp,fun i k p q hik hp hq hd=>by
   match i,k,hik with
   |1,0,_=>cases hp;cases hq;cases hd
   |2,0,_=>cases hp;cases hq;rfl
   |2,1,_=>cases hp;cases hq;cases hd
   |n+3,_,_=>simp at hp,fun i p q hq hp=>by
   match i with
   |0=>cases hp;cases hq;exact d1
   |1=>cases hp;cases hq;exact d2
   |n+2=>simp at hp⟩
 ·have d1:=hin _ hS (by omega);have d2:=hin2 _ hT (by omega);exact⟨fun p hp=>by
   simp only[List.mem_cons,List.not_mem_nil,or_false] at hp;rcases hp with rfl|rfl|rfl
   ·exact m2
   ·exact m1
   ·exact m2,fun p hp=>by
   simp only[List.mem_cons,List.not_mem_nil,or_false] at hp;rcases hp with rfl|rfl|rfl
   ·exact n2
   ·exact n1
   ·exact n2,by simp,fun i k p q hik hp hq hd=>by
   match i,k,hik with
   |1,0,_=>cases hp;cases hq;cases hd
   |2,0,_=>cases hp;cases hq;rfl
   |2,1,_=>cases hp;cases hq;cases hd
   |n+3,_,_=>simp at hp,fun i p q hq hp=>by
   match i with
   |0=>cases hp;cases hq;exact d2
   |1=>cases hp;cases hq;exact d1
   |n+2=>simp at hp⟩
def like (s o:Sm.S)(y:Int):Sm.S:=if Sm.no s y=0∧Sm.no o y=0∧Sm.loc s y=Sm.loc o y then o else s
def shape (r o:R)(y:Int):R:=if Ok r∧Ok o then ⟨r.b,r.sb,r.db,like r.std o.std y,like r.dst o.dst y⟩ else r
theorem like_sec {s o:Sm.S}{y off:Int}:sec (like s o y) y off=sec s y off:=by
 unfold like;split
 ·rename_i h
  obtain⟨h1,h2,h3⟩:=h;unfold sec;rw[if_pos h1,if_pos h2,h3]
 ·rfl
theorem like_zero {s o:Sm.S}{y:Int}:like s o y=Sm.S.zero↔s=Sm.S.zero:=by
 unfold like;split
 ·rename_i h
  obtain⟨h1,h2,_⟩:=h;exact⟨fun q=>absurd q (Sm.fine_ne (Sm.no_iff.1 h2).1),fun q=>absurd q (Sm.fine_ne (Sm.no_iff.1 h1).1)⟩
 ·exact Iff.rfl
theorem like_right {s o:Sm.S}{y:Int}(h:Sm.right s=true):Sm.right (like s o y)=true:=by
 unfold like;split
 ·rename_i hh
  exact Sm.right_iff.2 (.inr (Sm.no_iff.1 hh.2.1).1)
 ·exact h
theorem like_u {s o:Sm.S}{y:Int}(h:Sm.U s)(k:Sm.U o):Sm.U (like s o y):=by
 unfold like;split
 ·exact k
 ·exact h
theorem shape_ok {r o:R}{y:Int}(h:Ok r)(hi:I r)(ho:I o):Ok (shape r o y)∧I (shape r o y)∧spans (shape r o y) y=spans r y:=by
 unfold shape;split
 ·exact⟨⟨like_zero.trans (h.z.trans like_zero.symm),like_right h.s,like_right h.d,h.so,h.dof⟩,⟨hi.b,hi.sb,hi.db,like_u hi.std ho.std,like_u hi.dst ho.dst⟩,by
   unfold spans toS toT;simp only;rw[like_sec,like_sec];rfl⟩
 ·exact⟨h,hi,rfl⟩
end Rc
end Go.Proofs.YtjobhjemnmleaaaGreatDoor
namespace Go.Proofs.YtjobhjemnmleaaaGreatDoor
open Go.RowKit
namespace Rc
def R.v (r:R):Value:=.agg #[.int .i32 r.b,.int .i32 r.sb,.int .i32 r.db,.int .u16 r.std.y,.int .u16 r.std.mo,.int .u16 r.std.dw,.int .u16 r.std.d,.int .u16 r.std.h,.int .u16 r.std.mi,.int .u16 r.std.s,.int .u16 r.std.ms,.int .u16 r.dst.y,.int .u16 r.dst.mo,.int .u16 r.dst.dw,.int .u16 r.dst.d,.int .u16 r.dst.h,.int .u16 r.dst.mi,.int .u16 r.dst.s,.int .u16 r.dst.ms]
def near (o:Int):Bool:=decide (-86400≤o) && decide (o≤86400)
def right (r:R):Bool:=decide (Ok r)
theorem right_eq (r:R):right r=((decide (r.std=Sm.S.zero) == decide (r.dst=Sm.S.zero)) && (Sm.right r.std && (Sm.right r.dst && (near (so r) && near (dof r))))):=by
 rw[Bool.eq_iff_iff];unfold right near;simp only[decide_eq_true_eq,Bool.and_eq_true,beq_iff_eq];constructor
 ·intro h;exact⟨by rw[decide_eq_decide];exact h.z,h.s,h.d,h.so,h.dof⟩
 ·rintro ⟨h1,h2,h3,h4,h5⟩;exact⟨by rwa[decide_eq_decide] at h1,h2,h3,h4,h5⟩
theorem near_no {x:Int}(h:near x=false):x < -86400∨(¬x < -86400∧86400<x):=by
 unfold near at h;rw[Bool.and_eq_false_iff,decide_eq_false_iff_not,decide_eq_false_iff_not] at h;omega
theorem near_yes {x:Int}(h:near x=true):¬x < -86400∧¬86400<x:=by
 unfold near at h;rw[Bool.and_eq_true,decide_eq_true_eq,decide_eq_true_eq] at h;omega
end Rc
theorem add_zero_at (g j:Nat):(⟨g,0,none⟩:Addr).add j=⟨g,j,none⟩:=by unfold Addr.add;split <;> simp_all
theorem loadVar_at (w:World)(g:Nat)(ty:TypeId)(cs:List Value)(d:TypeDesc)(hA:At w g cs)
  (hu:Tryz.prog.underlying ty=some d) (hd:(match d with|.struct _|.array _ _=>true|_=>false)=true) (hi:(Tryz.prog.info? ty).map (·.size)=some cs.length):
  (loadVar ty ⟨g,0,none⟩).run Tryz.prog w=.ok (.agg cs.toArray) w:=by
 have hl:(loadCells ⟨g,0,none⟩ cs.length).run Tryz.prog w=.ok cs.toArray w:=
  run_loadCells_list (P:=Tryz.prog) w ⟨g,0,none⟩ cs (fun j v hv=>by rw[add_zero_at];exact hA.cell j v hv)
 cases hq:Tryz.prog.info? ty with
 |none=>simp[hq] at hi
 |some i=>
  have hs:i.size=cs.length:=by simpa [hq] using hi
  have hagg:(isAgg ty).run Tryz.prog w=.ok true w:=by
   unfold isAgg;rw[Sem.run_bind,run_underlying hu w];cases d <;> simp_all
  simp[loadVar,Sem.run_bind,hagg,sizeOf,typeInfo,hq,hs,hl]
theorem wp_load_at {o:Oper}{a:Act}{w:World}{K:Act→World→Prop}{Q:Exit→Act→World→Prop}(ty:TypeId)(x:Operand)(ho:o.op=.load ty x)
  (g:Nat) (hx:a.eval x=.pointer (some ⟨g,0,none⟩)) (cs:List Value) (hA:At w g cs) (d:TypeDesc)
  (hu:Tryz.prog.underlying ty=some d) (hd:(match d with|.struct _|.array _ _=>true|_=>false)=true) (hi:(Tryz.prog.info? ty).map (·.size)=some cs.length)
  (h:K (a.put o.dst (.agg cs.toArray)) w):o.wp Tryz.prog a w K Q:=by
 unfold Oper.wp execOp;simp only[ho,hx,Instr.loadAt,Instr.sureAddr,Sem.run_bind,Sem.run_pure,Result.andThen_ok,loadVar_at w g ty cs d hA hu hd hi];exact h
theorem wpList_load_at {ops:Array Oper}{rest:List Oper}{o:Oper}{a:Act}{w:World}{Q:Exit→Act→World→Prop}(hgd:o.guard=none)(ty:TypeId)(x:Operand)(ho:o.op=.load ty x)
  (g:Nat) (hx:a.eval x=.pointer (some ⟨g,0,none⟩)) (cs:List Value) (hA:At w g cs) (d:TypeDesc)
  (hu:Tryz.prog.underlying ty=some d) (hd:(match d with|.struct _|.array _ _=>true|_=>false)=true) (hi:(Tryz.prog.info? ty).map (·.size)=some cs.length)
  (h:wpList Tryz.prog ops Q rest (a.put o.dst (.agg cs.toArray)) w):wpList Tryz.prog ops Q (o :: rest) a w:=
 wpList_plain hgd fun _ hK=>wp_load_at ty x ho g hx cs hA d hu hd hi (hK _ _ h)
theorem rcInside1 (x:Int)(g c:Nat)(w:World)(c0:w.cell? ⟨g,0,none⟩=some (.int .i64 x))  : Calls Tryz.prog 118 #[.slice (some ⟨g,0,none⟩) 1 c] w fun e w'=>e=.returned (.bool (Rc.near x))∧w=w':=by
 obtain⟨X,hX⟩:=aj ((Rc.near x))
 rw[hX];have HX:=ak hX;clear hX;go_enter Tryz.func118,Tryz.ntmps118
 go_wp2;go_loop [7] (fun i=>(i=.int .i64 0)∨(i=.int .i64 1∧Hid (Rc.near x=true))) (fun i=>1 - (intOf i).toNat)
 case atStart=>exact .inl rfl
 case round=>
  rcases hrel with rfl|⟨rfl,H0⟩
  ·cases hq:Rc.near x with
   |false=>
    have HE:Hid (X=false):=by
     show X=false
     rw[← HX.out];simp[hq]
    have hqq:=Rc.near_no hq;clear hq;rcases hqq with p1|⟨p1,p2⟩
    all_goals
     go_wp2;go_ret
     exact⟨by rw[HE.out];rfl,rfl⟩
   |true=>
    obtain⟨p1,p2⟩:=Rc.near_yes hq;have HQ:=ak hq;clear hq;go_wp2;go_round
    case rel=>exact(.inr ⟨rfl,(by first|exact HQ|exact trivial|exact ak trivial)⟩)
    case measure=>simp[intOf]
  ·have HE:Hid (X=true):=by
    show X=true
    rw[← HX.out];simp only[H0.out]
   go_wp2;go_ret
   exact⟨by rw[HE.out];rfl,rfl⟩
theorem rcInside2 (x z:Int)(g c:Nat)(w:World)(c0:w.cell? ⟨g,0,none⟩=some (.int .i64 x))(c1:w.cell? ⟨g,1,none⟩=some (.int .i64 z))  : Calls Tryz.prog 118 #[.slice (some ⟨g,0,none⟩) 2 c] w fun e w'=>e=.returned (.bool (Rc.near x && Rc.near z))∧w=w':=by
 obtain⟨X,hX⟩:=aj ((Rc.near x && Rc.near z))
 rw[hX];have HX:=ak hX;clear hX;go_enter Tryz.func118,Tryz.ntmps118
 go_wp2;go_loop [7] (fun i=>(i=.int .i64 0)∨(i=.int .i64 1∧Hid (Rc.near x=true))∨(i=.int .i64 2∧Hid (Rc.near x=true)∧Hid (Rc.near z=true))) (fun i=>2 - (intOf i).toNat)
 case atStart=>exact .inl rfl
 case round=>
  rcases hrel with rfl|⟨rfl,H0⟩|⟨rfl,H0,H1⟩
  ·cases hq:Rc.near x with
   |false=>
    have HE:Hid (X=false):=by
     show X=false
     rw[← HX.out];simp[hq]
    have hqq:=Rc.near_no hq;clear hq;rcases hqq with p1|⟨p1,p2⟩
    all_goals
     go_wp2;go_ret
     exact⟨by rw[HE.out];rfl,rfl⟩
   |true=>
    obtain⟨p1,p2⟩:=Rc.near_yes hq;have HQ:=ak hq;clear hq;go_wp2;go_round
    case rel=>exact(.inr (.inl ⟨rfl,(by first|exact HQ|exact trivial|exact ak trivial)⟩))
    case measure=>simp[intOf]
  ·cases hq:Rc.near z with
   |false=>
    have HE:Hid (X=false):=by
     show X=false
     rw[← HX.out];simp[hq]
    have hqq:=Rc.near_no hq;clear hq;rcases hqq with p1|⟨p1,p2⟩
    all_goals
     go_wp2;go_ret
     exact⟨by rw[HE.out];rfl,rfl⟩
   |true=>
    obtain⟨p1,p2⟩:=Rc.near_yes hq;have HQ:=ak hq;clear hq;go_wp2;go_round
    case rel=>exact(.inr (.inr ⟨rfl,H0,(by first|exact HQ|exact trivial|exact ak trivial)⟩))
    case measure=>simp[intOf]
  ·have HE:Hid (X=true):=by
    show X=true
    rw[← HX.out];simp only[H0.out,H1.out,Bool.and_self]
   go_wp2;go_ret
   exact⟨by rw[HE.out];rfl,rfl⟩
theorem rcWhole1 (x:Int)(g c:Nat)(w:World)(c0:w.cell? ⟨g,0,none⟩=some (.int .i64 x))(hx:x % 60=0):Calls Tryz.prog 202 #[.slice (some ⟨g,0,none⟩) 1 c] w fun e w'=>e=.returned (.bool (true))∧w=w':=by
 have tx:x.tmod 60=0:=by
  obtain⟨q,hq⟩:∃q,x=60*q:=⟨x / 60,by omega⟩
  rw[hq];exact Int.mul_tmod_right 60 q
 clear hx;go_enter Tryz.func202,Tryz.ntmps202
 go_wp2;go_loop [7] (fun i=>i=.int .i64 0∨i=.int .i64 1) (fun i=>1 - (intOf i).toNat)
 case atStart=>exact .inl rfl
 case round=>
  rcases hrel with rfl|rfl
  ·go_wp2;go_round
   case rel=>exact(.inr rfl)
   case measure=>simp[intOf]
  ·go_wp2;go_ret
   exact⟨rfl,rfl⟩
theorem rcWhole2 (x z:Int)(g c:Nat)(w:World)(c0:w.cell? ⟨g,0,none⟩=some (.int .i64 x))(c1:w.cell? ⟨g,1,none⟩=some (.int .i64 z))(hx:x % 60=0)(hz:z % 60=0):Calls Tryz.prog 202 #[.slice (some ⟨g,0,none⟩) 2 c] w fun e w'=>e=.returned (.bool (true))∧w=w':=by
 have tx:x.tmod 60=0:=by
  obtain⟨q,hq⟩:∃q,x=60*q:=⟨x / 60,by omega⟩
  rw[hq];exact Int.mul_tmod_right 60 q
 have tz:z.tmod 60=0:=by
  obtain⟨q,hq⟩:∃q,z=60*q:=⟨z / 60,by omega⟩
  rw[hq];exact Int.mul_tmod_right 60 q
 clear hx hz;go_enter Tryz.func202,Tryz.ntmps202
 go_wp2;go_loop [7] (fun i=>i=.int .i64 0∨i=.int .i64 1∨i=.int .i64 2) (fun i=>2 - (intOf i).toNat)
 case atStart=>exact .inl rfl
 case round=>
  rcases hrel with rfl|rfl|rfl
  ·go_wp2;go_round
   case rel=>exact(.inr (.inl rfl))
   case measure=>simp[intOf]
  ·go_wp2;go_round
   case rel=>exact(.inr (.inr rfl))
   case measure=>simp[intOf]
  ·go_wp2;go_ret
   exact⟨rfl,rfl⟩
theorem rcOffsets_any (r:Rc.R)(w:World)(hi:Rc.I r):Calls Tryz.prog 114 #[r.v] w fun e w'=>e=.returned (.tuple #[.int .i64 (Rc.so r),.int .i64 (Rc.dof r)])∧Below w.heap.size w w':=by
 obtain⟨⟨b1,b2⟩,⟨s1,s2⟩,⟨d1,d2⟩,_,_⟩:=hi;have t1:IntKind.i64.wrap (r.b+r.sb)=r.b+r.sb:=by rw[IntKind.wrap_i64];omega
 have t2:IntKind.i64.wrap (r.b+r.db)=r.b+r.db:=by rw[IntKind.wrap_i64];omega
 have t3:IntKind.i64.wrap (-60*(r.b+r.sb))=-60*(r.b+r.sb):=by rw[IntKind.wrap_i64];omega
 have t4:IntKind.i64.wrap (-60*(r.b+r.db))=-60*(r.b+r.db):=by rw[IntKind.wrap_i64];omega
 unfold Rc.R.v Rc.so Rc.dof;obtain⟨V1,hV1⟩:=aj ((w.alloc (.cells #[.int .i32 r.b,.int .i32 r.sb,.int .i32 r.db,.int .u16 r.std.y,.int .u16 r.std.mo,.int .u16 r.std.dw,.int .u16 r.std.d,.int .u16 r.std.h,.int .u16 r.std.mi,.int .u16 r.std.s,.int .u16 r.std.ms,.int .u16 r.dst.y,.int .u16 r.dst.mo,.int .u16 r.dst.dw,.int .u16 r.dst.d,.int .u16 r.dst.h,.int .u16 r.dst.mi,.int .u16 r.dst.s,.int .u16 r.dst.ms] 49)))
 obtain⟨gR,hgR⟩:=aj (w.heap.size)
 have hbn:Below w.heap.size w V1:=by rw[← hV1];exact al
 have hAR:At V1 gR [.int .i32 r.b,.int .i32 r.sb,.int .i32 r.db,.int .u16 r.std.y,.int .u16 r.std.mo,.int .u16 r.std.dw,.int .u16 r.std.d,.int .u16 r.std.h,.int .u16 r.std.mi,.int .u16 r.std.s,.int .u16 r.std.ms,.int .u16 r.dst.y,.int .u16 r.dst.mo,.int .u16 r.dst.dw,.int .u16 r.dst.d,.int .u16 r.dst.h,.int .u16 r.dst.mi,.int .u16 r.dst.s,.int .u16 r.dst.ms]:=by
  have h:=(At.new w #[.int .i32 r.b,.int .i32 r.sb,.int .i32 r.db,.int .u16 r.std.y,.int .u16 r.std.mo,.int .u16 r.std.dw,.int .u16 r.std.d,.int .u16 r.std.h,.int .u16 r.std.mi,.int .u16 r.std.s,.int .u16 r.std.ms,.int .u16 r.dst.y,.int .u16 r.dst.mo,.int .u16 r.dst.dw,.int .u16 r.dst.d,.int .u16 r.dst.h,.int .u16 r.dst.mi,.int .u16 r.dst.s,.int .u16 r.dst.ms] 49)
  rw[hV1] at h
  try rw[hgR] at h
  exact h
 have geR:w.heap.size≤gR:=by have:=(Below.refl w.heap.size w).size;omega
 have hBz:=below_then (Below.refl w.heap.size w) hbn;have HB:=ak hBz;clear hBz;have HAR:=ak hAR;have HEV1:=ak hV1;have HGgR:=ak hgR;clear hbn hV1 hgR hAR;have R0:=HAR.out.cell 0 _ rfl;have R1:=HAR.out.cell 1 _ rfl;have R2:=HAR.out.cell 2 _ rfl;have R3:=HAR.out.cell 3 _ rfl;have R4:=HAR.out.cell 4 _ rfl;have R5:=HAR.out.cell 5 _ rfl;have R6:=HAR.out.cell 6 _ rfl;have R7:=HAR.out.cell 7 _ rfl;have R8:=HAR.out.cell 8 _ rfl;have R9:=HAR.out.cell 9 _ rfl;have R10:=HAR.out.cell 10 _ rfl;have R11:=HAR.out.cell 11 _ rfl;have R12:=HAR.out.cell 12 _ rfl;have R13:=HAR.out.cell 13 _ rfl;have R14:=HAR.out.cell 14 _ rfl;have R15:=HAR.out.cell 15 _ rfl;have R16:=HAR.out.cell 16 _ rfl;have R17:=HAR.out.cell 17 _ rfl;have R18:=HAR.out.cell 18 _ rfl;have zR:=HAR.out.lt;go_enter Tryz.func114,Tryz.ntmps114
 go_upto_region 1 with fail
 rw[HEV1.out]
 try rw[HGgR.out]
 go_wp2_with fail
 go_quiet (fail)
 go_wp2;go_ret2
 exact⟨by first|rfl|simp,by first|exact HB.out|exact below_drewN HB.out _|exact HB.out.drew⟩
def Rc.CkA (r:Rc.R)(w:World)(g:Nat)(wx:World):Prop:=w.heap.size≤g∧Below w.heap.size w wx∧At wx g [.int .i32 r.b,.int .i32 r.sb,.int .i32 r.db,.int .u16 r.std.y,.int .u16 r.std.mo,.int .u16 r.std.dw,.int .u16 r.std.d,.int .u16 r.std.h,.int .u16 r.std.mi,.int .u16 r.std.s,.int .u16 r.std.ms,.int .u16 r.dst.y,.int .u16 r.dst.mo,.int .u16 r.dst.dw,.int .u16 r.dst.d,.int .u16 r.dst.h,.int .u16 r.dst.mi,.int .u16 r.dst.s,.int .u16 r.dst.ms]
theorem rcCheck_any (r:Rc.R)(w:World)(hL:Lens w)(hi:Rc.I r):Calls Tryz.prog 70 #[r.v] w fun e w'=>e=.returned (.int .i64 (if Rc.right r=true then 0 else 2))∧Below w.heap.size w w':=by
 obtain⟨X,hX⟩:∃X:Int,(if Rc.right r=true then 0 else 2)=X:=⟨_,rfl⟩
 rw[hX];rw[Rc.right_eq] at hX;have HOf:=ak fun W=>rcOffsets_any r W hi
 have HS1:=ak fun W (hb:Below w.heap.size w W)=>stampCheck_all r.std W (hL.below hb) hi.std
 have HS2:=ak fun W (hb:Below w.heap.size w W)=>stampCheck_all r.dst W (hL.below hb) hi.dst
 have hq1:=fun W=>stamp_same r.std Sm.S.zero W
 have hq2:=fun W=>stamp_same r.dst Sm.S.zero W
 obtain⟨x1,hx1⟩:=aj (decide (r.std=Sm.S.zero))
 obtain⟨x2,hx2⟩:=aj (decide (r.dst=Sm.S.zero))
 obtain⟨x3,hx3⟩:=aj (Sm.right r.std)
 obtain⟨x4,hx4⟩:=aj (Sm.right r.dst)
 obtain⟨x5,hx5⟩:=aj (Rc.so r)
 obtain⟨x6,hx6⟩:=aj (Rc.dof r)
 simp only[hx1] at hq1;simp only[hx2] at hq2;rw[hx1,hx2,hx3,hx4,hx5,hx6] at hX;rw[hx3] at HS1;rw[hx4] at HS2;simp only[hx5,hx6] at HOf;obtain⟨xx,hxx⟩:=aj ((x1 == x2))
 rw[hxx] at hX;have HX:=ak hX;have HXX:=ak hxx;clear hx1 hx2 hx3 hx4 hx5 hx6 hX hL hi hxx;unfold Sm.S.v Sm.S.zero at hq1 hq2;unfold Sm.S.v at HS1 HS2;unfold Rc.R.v at HOf ⊢;simp only at hq1 hq2 HS1 HS2 HOf ⊢;obtain⟨V1,hV1⟩:=aj (((w.alloc (.cells #[.int .i32 r.b,.int .i32 r.sb,.int .i32 r.db,.int .u16 r.std.y,.int .u16 r.std.mo,.int .u16 r.std.dw,.int .u16 r.std.d,.int .u16 r.std.h,.int .u16 r.std.mi,.int .u16 r.std.s,.int .u16 r.std.ms,.int .u16 r.dst.y,.int .u16 r.dst.mo,.int .u16 r.dst.dw,.int .u16 r.dst.d,.int .u16 r.dst.h,.int .u16 r.dst.mi,.int .u16 r.dst.s,.int .u16 r.dst.ms] 49)).alloc (.cells #[.int .u16 0,.int .u16 0,.int .u16 0,.int .u16 0,.int .u16 0,.int .u16 0,.int .u16 0,.int .u16 0] 47)))
 obtain⟨gR,hgR⟩:=aj (w.heap.size)
 have hbn:Below w.heap.size w V1:=by rw[← hV1];exact(al).alloc (by first|(simp;done)|(simp;omega)) _
 have hAR:At V1 gR [.int .i32 r.b,.int .i32 r.sb,.int .i32 r.db,.int .u16 r.std.y,.int .u16 r.std.mo,.int .u16 r.std.dw,.int .u16 r.std.d,.int .u16 r.std.h,.int .u16 r.std.mi,.int .u16 r.std.s,.int .u16 r.std.ms,.int .u16 r.dst.y,.int .u16 r.dst.mo,.int .u16 r.dst.dw,.int .u16 r.dst.d,.int .u16 r.dst.h,.int .u16 r.dst.mi,.int .u16 r.dst.s,.int .u16 r.dst.ms]:=by
  have h:=((At.new w #[.int .i32 r.b,.int .i32 r.sb,.int .i32 r.db,.int .u16 r.std.y,.int .u16 r.std.mo,.int .u16 r.std.dw,.int .u16 r.std.d,.int .u16 r.std.h,.int .u16 r.std.mi,.int .u16 r.std.s,.int .u16 r.std.ms,.int .u16 r.dst.y,.int .u16 r.dst.mo,.int .u16 r.dst.dw,.int .u16 r.dst.d,.int .u16 r.dst.h,.int .u16 r.dst.mi,.int .u16 r.dst.s,.int .u16 r.dst.ms] 49).allocO (.cells #[.int .u16 0,.int .u16 0,.int .u16 0,.int .u16 0,.int .u16 0,.int .u16 0,.int .u16 0,.int .u16 0] 47))
  rw[hV1] at h
  try rw[hgR] at h
  exact h
 have geR:w.heap.size≤gR:=by have:=(Below.refl w.heap.size w).size;omega
 have hAZ:At V1 (gR+1) [.int .u16 0,.int .u16 0,.int .u16 0,.int .u16 0,.int .u16 0,.int .u16 0,.int .u16 0,.int .u16 0]:=by
  have h:=(At.new (w.alloc (.cells #[.int .i32 r.b,.int .i32 r.sb,.int .i32 r.db,.int .u16 r.std.y,.int .u16 r.std.mo,.int .u16 r.std.dw,.int .u16 r.std.d,.int .u16 r.std.h,.int .u16 r.std.mi,.int .u16 r.std.s,.int .u16 r.std.ms,.int .u16 r.dst.y,.int .u16 r.dst.mo,.int .u16 r.dst.dw,.int .u16 r.dst.d,.int .u16 r.dst.h,.int .u16 r.dst.mi,.int .u16 r.dst.s,.int .u16 r.dst.ms] 49)) #[.int .u16 0,.int .u16 0,.int .u16 0,.int .u16 0,.int .u16 0,.int .u16 0,.int .u16 0,.int .u16 0] 47)
  simp only[World.size_alloc] at h;rw[hV1] at h
  try rw[hgR] at h
  exact h
 have geZ:w.heap.size≤(gR+1):=by have:=(Below.refl w.heap.size w).size;omega
 have neZ_R:(gR+1)≠gR:=by omega
 have neR_Z:gR≠(gR+1):=by omega
 have hBz:=below_then (Below.refl w.heap.size w) hbn;have HB:=ak hBz;clear hBz;have HAR:=ak hAR;have HAZ:=ak hAZ;have HEV1:=ak hV1;have HGgR:=ak hgR;clear hbn hV1 hgR hAR hAZ;have R0:=HAR.out.cell 0 _ rfl;have R1:=HAR.out.cell 1 _ rfl;have R2:=HAR.out.cell 2 _ rfl;have R3:=HAR.out.cell 3 _ rfl;have R4:=HAR.out.cell 4 _ rfl;have R5:=HAR.out.cell 5 _ rfl;have R6:=HAR.out.cell 6 _ rfl;have R7:=HAR.out.cell 7 _ rfl;have R8:=HAR.out.cell 8 _ rfl;have R9:=HAR.out.cell 9 _ rfl;have R10:=HAR.out.cell 10 _ rfl;have R11:=HAR.out.cell 11 _ rfl;have R12:=HAR.out.cell 12 _ rfl;have R13:=HAR.out.cell 13 _ rfl;have R14:=HAR.out.cell 14 _ rfl;have R15:=HAR.out.cell 15 _ rfl;have R16:=HAR.out.cell 16 _ rfl;have R17:=HAR.out.cell 17 _ rfl;have R18:=HAR.out.cell 18 _ rfl;have zR:=HAR.out.lt;have Z0:=HAZ.out.cell 0 _ rfl;have Z1:=HAZ.out.cell 1 _ rfl;have Z2:=HAZ.out.cell 2 _ rfl;have Z3:=HAZ.out.cell 3 _ rfl;have Z4:=HAZ.out.cell 4 _ rfl;have Z5:=HAZ.out.cell 5 _ rfl;have Z6:=HAZ.out.cell 6 _ rfl;have Z7:=HAZ.out.cell 7 _ rfl;have zZ:=HAZ.out.lt;go_enter Tryz.func70,Tryz.ntmps70
 go_upto_region 2 with fail
 rw[HEV1.out]
 try rw[HGgR.out]
 go_cut [15] (fun v wx=>v=.bool (!xx)∧Rc.CkA r w gR wx)
 case first=>as_aux_lemma=>
   go_quiet (fail)
   go_wp2;go_meet
   exact⟨by rw[HXX.out],geR,below_drewN HB.out _,HAR.out.drew ⟨_,rfl⟩⟩
 case rest=>
  obtain⟨rfl,hgr,hbx,hax⟩:=hcut;clear R0 R1 R2 R3 R4 R5 R6 R7 R8 R9 R10 R11 R12 R13 R14 R15 R16 R17 R18 zR Z0 Z1 Z2 Z3 Z4 Z5 Z6 Z7 zZ;clear HXX hq1 hq2 HB HAR HAZ geR;have geR:=hgr;have HB:=ak hbx;have HAR:=ak hax;clear hgr hbx hax;have R0:=HAR.out.cell 0 _ rfl;have R1:=HAR.out.cell 1 _ rfl;have R2:=HAR.out.cell 2 _ rfl;have R3:=HAR.out.cell 3 _ rfl;have R4:=HAR.out.cell 4 _ rfl;have R5:=HAR.out.cell 5 _ rfl;have R6:=HAR.out.cell 6 _ rfl;have R7:=HAR.out.cell 7 _ rfl;have R8:=HAR.out.cell 8 _ rfl;have R9:=HAR.out.cell 9 _ rfl;have R10:=HAR.out.cell 10 _ rfl;have R11:=HAR.out.cell 11 _ rfl;have R12:=HAR.out.cell 12 _ rfl;have R13:=HAR.out.cell 13 _ rfl;have R14:=HAR.out.cell 14 _ rfl;have R15:=HAR.out.cell 15 _ rfl;have R16:=HAR.out.cell 16 _ rfl;have R17:=HAR.out.cell 17 _ rfl;have R18:=HAR.out.cell 18 _ rfl;have zR:=HAR.out.lt;cases xx with
  |false=>
   have HE:Hid (X=2):=HX.out.symm;go_wp2;go_ret
   exact⟨by rw[HE.out];rfl,HB.out⟩
  |true=>
   as_aux_lemma=>
    go_wp2_with fail
    refine(HS1.out _ HB.out).mono ?_;rintro e V3 ⟨rfl,hb⟩;clear R0 R1 R2 R3 R4 R5 R6 R7 R8 R9 R10 R11 R12 R13 R14 R15 R16 R17 R18 zR;have hBz:=below_then HB.out hb;clear HB;have HB:=ak hBz;clear hBz;have hAz:=HAR.out.call hb;clear HAR;have HAR:=ak hAz;clear hAz;clear hb;have R0:=HAR.out.cell 0 _ rfl;have R1:=HAR.out.cell 1 _ rfl;have R2:=HAR.out.cell 2 _ rfl;have R3:=HAR.out.cell 3 _ rfl;have R4:=HAR.out.cell 4 _ rfl;have R5:=HAR.out.cell 5 _ rfl;have R6:=HAR.out.cell 6 _ rfl;have R7:=HAR.out.cell 7 _ rfl;have R8:=HAR.out.cell 8 _ rfl;have R9:=HAR.out.cell 9 _ rfl;have R10:=HAR.out.cell 10 _ rfl;have R11:=HAR.out.cell 11 _ rfl;have R12:=HAR.out.cell 12 _ rfl;have R13:=HAR.out.cell 13 _ rfl;have R14:=HAR.out.cell 14 _ rfl;have R15:=HAR.out.cell 15 _ rfl;have R16:=HAR.out.cell 16 _ rfl;have R17:=HAR.out.cell 17 _ rfl;have R18:=HAR.out.cell 18 _ rfl;have zR:=HAR.out.lt;cases x3 with
    |false=>
     have HE:Hid (X=2):=HX.out.symm;go_wp2;go_ret
     exact⟨by rw[HE.out];rfl,HB.out⟩
    |true=>
     as_aux_lemma=>
      go_wp2_with fail
      refine(HS2.out _ HB.out).mono ?_;rintro e V4 ⟨rfl,hb⟩;clear R0 R1 R2 R3 R4 R5 R6 R7 R8 R9 R10 R11 R12 R13 R14 R15 R16 R17 R18 zR;have hBz:=below_then HB.out hb;clear HB;have HB:=ak hBz;clear hBz;have hAz:=HAR.out.call hb;clear HAR;have HAR:=ak hAz;clear hAz;clear hb;have R0:=HAR.out.cell 0 _ rfl;have R1:=HAR.out.cell 1 _ rfl;have R2:=HAR.out.cell 2 _ rfl;have R3:=HAR.out.cell 3 _ rfl;have R4:=HAR.out.cell 4 _ rfl;have R5:=HAR.out.cell 5 _ rfl;have R6:=HAR.out.cell 6 _ rfl;have R7:=HAR.out.cell 7 _ rfl;have R8:=HAR.out.cell 8 _ rfl;have R9:=HAR.out.cell 9 _ rfl;have R10:=HAR.out.cell 10 _ rfl;have R11:=HAR.out.cell 11 _ rfl;have R12:=HAR.out.cell 12 _ rfl;have R13:=HAR.out.cell 13 _ rfl;have R14:=HAR.out.cell 14 _ rfl;have R15:=HAR.out.cell 15 _ rfl;have R16:=HAR.out.cell 16 _ rfl;have R17:=HAR.out.cell 17 _ rfl;have R18:=HAR.out.cell 18 _ rfl;have zR:=HAR.out.lt;cases x4 with
      |false=>
       have HE:Hid (X=2):=HX.out.symm;go_wp2;go_ret
       exact⟨by rw[HE.out];rfl,HB.out⟩
      |true=>
       as_aux_lemma=>
        go_upto_region 6 with fail
        go_cut [4,5] (fun a b wx=>a=.int .i64 x5∧b=.int .i64 x6∧Below w.heap.size w wx)
        case first=>as_aux_lemma=>
         clear R0 R1 R2 R3 R4 R5 R6 R7 R8 R9 R10 R11 R12 R13 R14 R15 R16 R17 R18 zR;go_wp2_with (refine wpList_load_at rfl 49 _ rfl gR rfl [.int .i32 r.b,.int .i32 r.sb,.int .i32 r.db,.int .u16 r.std.y,.int .u16 r.std.mo,.int .u16 r.std.dw,.int .u16 r.std.d,.int .u16 r.std.h,.int .u16 r.std.mi,.int .u16 r.std.s,.int .u16 r.std.ms,.int .u16 r.dst.y,.int .u16 r.dst.mo,.int .u16 r.dst.dw,.int .u16 r.dst.d,.int .u16 r.dst.h,.int .u16 r.dst.mi,.int .u16 r.dst.s,.int .u16 r.dst.ms] HAR.out _ Tryz.underlying49 rfl (by kernel_rfl) ?_)
         try go_wp2_with fail
         refine(HOf.out _).mono ?_;rintro e V5 ⟨rfl,hb⟩;have hBz:=below_then HB.out hb;clear HB;have HB:=ak hBz;clear hBz hb;go_wp2;go_meet
         exact⟨rfl,rfl,by first|exact HB.out|exact below_drewN HB.out _⟩
        case rest=>as_aux_lemma=>
         obtain⟨rfl,rfl,hbx⟩:=hcut;clear R0 R1 R2 R3 R4 R5 R6 R7 R8 R9 R10 R11 R12 R13 R14 R15 R16 R17 R18 zR;clear HOf HS1 HS2 HB HAR;have HB:=ak hbx;clear hbx;obtain⟨V2,hV2⟩:=aj ((wc.alloc (.cells #[.int .i64 x5,.int .i64 x6] 2)))
         obtain⟨gS,hgS⟩:=aj (wc.heap.size)
         have hbn:Below wc.heap.size wc V2:=by rw[← hV2];exact al
         have hAS:At V2 gS [.int .i64 x5,.int .i64 x6]:=by
          have h:=(At.new wc #[.int .i64 x5,.int .i64 x6] 2)
          rw[hV2] at h
          try rw[hgS] at h
          exact h
         have geS:w.heap.size≤gS:=by have:=HB.out.size;omega
         have hBz:=below_then HB.out hbn;clear HB;have HB:=ak hBz;clear hBz;have HAS:=ak hAS;have HEV2:=ak hV2;have HGgS:=ak hgS;clear hbn hV2 hgS hAS;have S0:=HAS.out.cell 0 _ rfl;have S1:=HAS.out.cell 1 _ rfl;have zS:=HAS.out.lt;go_upto_region 7 with fail
         go_wp2_with fail
         rw[HEV2.out]
         try rw[HGgS.out]
         refine(rcInside2 x5 x6 _ _ _ S0 S1).mono ?_;rintro e _ ⟨rfl,rfl⟩;have hq:Hid (X=if (Rc.near x5 && Rc.near x6)=true then 0 else 2):=by
          show X=_
          rw[← HX.out];simp
         cases hn:(Rc.near x5 && Rc.near x6) with
         |false=>
          have HE:Hid (X=2):=by
           show X=2
           rw[hq.out,hn];rfl
          clear hn hq HX;go_wp2;go_ret
          exact⟨by rw[HE.out];rfl,HB.out⟩
         |true=>
          have HE:Hid (X=0):=by
           show X=0
           rw[hq.out,hn];rfl
          clear hn hq HX;go_wp2;go_ret
          exact⟨by rw[HE.out];rfl,HB.out⟩
end Go.Proofs.YtjobhjemnmleaaaGreatDoor
