/- Occurrences of rules in plain words: events, their order, how far they lie from their years. -/
import Derived.Test.YtjobhjemnmleaaaGreatDoorR07
set_option maxRecDepth 100000
set_option maxHeartbeats 16000000
namespace Go.Proofs.YtjobhjemnmleaaaGreatDoor
open Go.RowKit
namespace Oc
structure E where
 n:Int
 c:Int
 sv:Int
 bf:Int
 lt:ByteArray
 pl:Nat
 y:Int
instance decE : DecidableEq E:=fun a b=>decidable_of_iff (a.n=b.n∧a.c=b.c∧a.sv=b.sv∧a.bf=b.bf∧a.lt=b.lt∧a.pl=b.pl∧a.y=b.y) (by cases a;cases b;simp)
def nomOf (r:Ru.R)(y:Int):Int × Int:=Mo.nom r.k r.n r.d y r.mo r.s r.c
def mk (r:Ru.R)(p:Nat)(y:Int):E:=⟨(nomOf r y).1,r.c,r.sv,0,r.lt,p,y⟩
def holds (r:Ru.R)(y:Int):Bool:=decide (r.fr≤y) && (decide (y≤r.tt) && decide ((nomOf r y).2=0))
def some_ (r:Ru.R):Bool:=decide ((nomOf r 2000).2=0)
def lessB (a b:E):Bool:=decide (a.n<b.n) || (decide (a.n=b.n) && decide (a.pl<b.pl))
def ins (e:E):List E→List E
 |[]=>[e]
 |x :: l=>if lessB e x=true then e :: x :: l else x :: ins e l
def isort : List E→List E
 |[]=>[]
 |x :: l=>ins x (isort l)
def yearU : List Ru.R→Nat→Int→List E
 |[],_,_=>[]
 |r :: l,p,y=>if holds r y=true then mk r p y :: yearU l (p+1) y else yearU l (p+1) y
def year (l:List Ru.R)(y:Int):List E:=isort (yearU l 0 y)
def Ev (l:List Ru.R)(e:E):Prop:=∃r,l[e.pl]?=some r∧holds r e.y=true∧e=mk r e.pl e.y
theorem mem_yearU : ∀(l:List Ru.R) (p:Nat) (y:Int) (e:E),e∈yearU l p y↔∃(i:Nat) (r:Ru.R),l[i]?=some r∧holds r y=true∧e=mk r (p+i) y
 |[],p,y,e=>by
  constructor
  ·intro h;cases h
  ·rintro ⟨i,r,h,_⟩;simp at h
 |r :: l,p,y,e=>by
  have ih:=mem_yearU l (p+1) y e;have key:(∃(i:Nat) (q:Ru.R),(r :: l)[i]?=some q∧holds q y=true∧e=mk q (p+i) y)↔((holds r y=true∧e=mk r p y)∨∃(i:Nat) (q:Ru.R),l[i]?=some q∧holds q y=true∧e=mk q (p+1+i) y):=by
   constructor
   ·rintro ⟨i,q,h1,h2,h3⟩;cases i with
    |zero=>
     simp at h1
     subst h1;exact .inl ⟨h2,h3⟩
    |succ i=>
     refine .inr ⟨i,q,by simpa using h1,h2,?_⟩;rw[h3];congr 1;omega
   ·rintro (⟨h2,h3⟩|⟨i,q,h1,h2,h3⟩)
    ·exact⟨0,r,rfl,h2,h3⟩
    ·refine⟨i+1,q,by simpa using h1,h2,?_⟩;rw[h3];congr 1;omega
  rw[key];unfold yearU;split
  ·rename_i hh
   rw[List.mem_cons,ih];constructor
   ·rintro (h|h)
    ·exact .inl ⟨hh,h⟩
    ·exact .inr h
   ·rintro (h|h)
    ·exact .inl h.2
    ·exact .inr h
  ·rename_i hh
   rw[ih];constructor
   ·exact .inr
   ·rintro (h|h)
    ·exact absurd h.1 hh
    ·exact h
theorem mem_ins (e x:E):∀l:List E,x∈ins e l↔x=e∨x∈l
 |[]=>by simp[ins]
 |y :: l=>by
  unfold ins;split
  ·simp
  ·rw[List.mem_cons,mem_ins e x l,List.mem_cons];constructor
   ·rintro (h|h|h)
    ·exact .inr (.inl h)
    ·exact .inl h
    ·exact .inr (.inr h)
   ·rintro (h|h|h)
    ·exact .inr (.inl h)
    ·exact .inl h
    ·exact .inr (.inr h)
theorem mem_isort (x:E):∀l:List E,x∈isort l↔x∈l
 |[]=>by simp[isort]
 |y :: l=>by
  unfold isort;rw[mem_ins,mem_isort x l,List.mem_cons]
theorem perm_ins (e:E):∀l:List E,(ins e l).Perm (e :: l)
 |[]=>.refl _
 |y :: l=>by
  unfold ins;split
  ·exact .refl _
  ·exact((perm_ins e l).cons y).trans (.swap e y l)
theorem perm_isort : ∀l:List E,(isort l).Perm l
 |[]=>.refl _
 |y :: l=>(perm_ins y _).trans ((perm_isort l).cons y)
theorem mem_year {l:List Ru.R}{y:Int}{e:E}:e∈year l y↔Ev l e∧e.y=y:=by
 unfold year;rw[mem_isort,mem_yearU];constructor
 ·rintro ⟨i,r,h1,h2,h3⟩;have e1:e.pl=i:=by rw[h3];show 0+i=i;omega
  have e2:e.y=y:=by rw[h3];rfl
  refine⟨⟨r,by rw[e1];exact h1,by rw[e2];exact h2,?_⟩,e2⟩;rw[e1,e2,h3];congr 1;omega
 ·rintro ⟨⟨r,h1,h2,h3⟩,rfl⟩;exact⟨e.pl,r,h1,h2,by rw[h3];congr 1;show _=0+e.pl;omega⟩
theorem less_iff {a b:E}:lessB a b=true↔a.n<b.n∨(a.n=b.n∧a.pl<b.pl):=by unfold lessB;simp
theorem less_trans {a b c:E}(h:lessB a b=true)(k:lessB b c=true):lessB a c=true:=by
 rw[less_iff] at *;omega
theorem less_irr (a:E):lessB a a=false:=by
 cases h:lessB a a with
 |false=>rfl
 |true=>rw[less_iff] at h;omega
theorem less_asymm {a b:E}(h:lessB a b=true):lessB b a=false:=by
 cases k:lessB b a with
 |false=>rfl
 |true=>rw[less_iff] at h k;omega
def D (y:Int):Int:=Cv.num y 1 1
theorem D_next (y:Int):D (y+1)=D y+365∨D (y+1)=D y+366:=by
 have:=Cv.first_succ y;unfold D;split at this <;> omega
theorem D_mono {y z:Int}(h:y≤z):D y≤D z:=Cv.first_mono y z h
theorem res_bd {k n d y m:Int}(hy:1≤y∧y≤9999)(hm:1≤m∧m≤12)(hd:Dy.Ok k n d)(hn:¬n > Cv.len y m):
  D y - 6≤Dy.res k n d y m∧Dy.res k n d y m≤D (y+1)+5:=by
 have hl:=Cv.len_month y m hm.1 hm.2;have hl1:28≤Cv.len y m:=by rw[hl];split <;> (try split) <;> omega
 have hv:Cv.Valid y m (if k=1 then Cv.len y m else n):=by
  refine⟨hy.1,hy.2,hm.1,hm.2,?_,?_⟩
  ·split
   ·omega
   ·unfold Dy.Ok at hd;omega
  ·split <;> omega
 have hb:=Cv.first_le _ _ _ hv;unfold Dy.res Dy.base D;split
 ·omega
 ·split <;> omega
theorem inS_ok {k n d y m:Int}(h:(Dy.inS k n d y m).2=0):Dy.Ok k n d∧(1≤y∧y≤9999)∧(1≤m∧m≤12)∧¬n > Cv.len y m∧(Dy.inS k n d y m).1=Dy.res k n d y m:=by
 unfold Dy.inS at h ⊢;split at h
 ·simp at h
 ·rename_i h1
  split at h
  ·simp at h
  ·rename_i h2
   split at h
   ·simp at h
   ·rename_i h3
    split at h
    ·rename_i h4
     rw[if_neg h1,if_neg h2,if_neg h3,if_pos h4];exact⟨Decidable.not_not.1 h1,by omega,by omega,h3,rfl⟩
    ·simp at h
theorem nom_ok {r:Ru.R}{y:Int}(h:(nomOf r y).2=0):Mo.Ok r.s r.c∧(Dy.inS r.k r.n r.d y r.mo).2=0∧(nomOf r y).1=Dy.res r.k r.n r.d y r.mo*86400+r.s:=by
 unfold nomOf Mo.nom at h ⊢;split at h
 ·rename_i h1
  split at h
  ·rename_i h2
   rw[if_pos h1,if_pos h2];refine⟨h1,h2,?_⟩;rw[(inS_ok h2).2.2.2.2]
  ·rename_i h2
   exact absurd h h2
 ·simp at h
theorem holds_iff {r:Ru.R}{y:Int}:holds r y=true↔r.fr≤y∧y≤r.tt∧(nomOf r y).2=0:=by unfold holds;simp
theorem nom_bd {r:Ru.R}{y:Int}(h:(nomOf r y).2=0):(D y - 13)*86400≤(nomOf r y).1∧(nomOf r y).1≤(D (y+1)+12)*86400:=by
 obtain⟨⟨h1,_⟩,h2,h3⟩:=nom_ok h;obtain⟨k1,k2,k3,k4,k5⟩:=inS_ok h2;have hb:=res_bd k2 k3 k1 k4;unfold IsTime at h1;rw[h3];omega
theorem holds_some {r:Ru.R}{y:Int}(h:(nomOf r y).2=0):some_ r=true:=by
 obtain⟨h1,h2,h3⟩:=nom_ok h;obtain⟨k1,k2,k3,k4,k5⟩:=inS_ok h2;have hl:=Cv.len_month y r.mo k3.1 k3.2;have hl2:=Cv.len_month 2000 r.mo k3.1 k3.2;have h4:¬r.n > Cv.len 2000 r.mo:=by
  rw[if_pos (show Cv.leap 2000=true by decide)] at hl2;rw[hl] at k4;rw[hl2];split at k4
  ·rename_i e
   rw[if_pos e];split at k4 <;> omega
  ·rename_i e
   rw[if_neg e];exact k4
 have hb:=res_bd (y:=2000) (by omega) k3 k1 h4;have e1:D 2000=10957:=by decide
 have e2:D (2000+1)=11323:=by decide
 unfold some_ nomOf Mo.nom;rw[if_pos h1];have e3:(Dy.inS r.k r.n r.d 2000 r.mo).2=0:=by
  unfold Dy.inS;rw[if_neg (fun e=>e k1),if_neg (by omega),if_neg h4,if_pos (by omega)]
 rw[if_pos e3];rfl
theorem base_next {k n y m:Int}(hm:1≤m∧m≤12):Dy.base k n y m+364≤Dy.base k n (y+1) m:=by
 have h1:=Cv.len_month y m hm.1 hm.2;have h2:=Cv.len_month (y+1) m hm.1 hm.2;have hs:∀a,Cv.ahead a+365≤Cv.ahead (a+1):=fun a=>by
  have h:=Cv.ahead_succ (a+1);rw[show a+1 - 1=a by omega] at h;split at h <;> omega
 unfold Dy.base;rw[Cv.num_ahead,Cv.num_ahead];have e1:Cv.my (y+1) m=Cv.my y m+1:=by unfold Cv.my;split <;> omega
 have e2:=hs (Cv.my y m);rw[e1];have e3:Cv.len y m≤Cv.len (y+1) m+1:=by
  rw[h1,h2];split
  ·split <;> (try split) <;> omega
  ·omega
 split <;> omega
theorem rule_mono {r:Ru.R}{y z:Int}(h:(nomOf r y).2=0)(k:(nomOf r z).2=0)(hlt:y<z):(nomOf r y).1<(nomOf r z).1:=by
 rcases Int.lt_or_le (y+1) z with h2|h2
 ·have a:=nom_bd h;have b:=nom_bd k;have c:=D_next (y+1);have d:=D_mono (show y+1+1≤z by omega);omega
 ·obtain rfl:z=y+1:=by omega
  obtain⟨a1,a2,a3⟩:=nom_ok h;obtain⟨b1,b2,b3⟩:=nom_ok k;obtain⟨k1,k2,k3,k4,k5⟩:=inS_ok a2;have hb:=base_next (k:=r.k) (n:=r.n) (y:=y) k3;rw[a3,b3];have hr:Dy.res r.k r.n r.d y r.mo<Dy.res r.k r.n r.d (y+1) r.mo:=by
   unfold Dy.res;split
   ·omega
   ·split <;> omega
  omega
section
variable {l:List Ru.R} {e f:E}
theorem Ev.bd (h:Ev l e):(D e.y - 13)*86400≤e.n∧e.n≤(D (e.y+1)+12)*86400:=by
 obtain⟨r,h1,h2,h3⟩:=h;rw[h3];exact nom_bd (holds_iff.1 h2).2.2
theorem Ev.far (h:Ev l e)(k:Ev l f)(hy:e.y+2≤f.y):lessB e f=true:=by
 have a:=h.bd;have b:=k.bd;have c:=D_next (e.y+1);have d:=D_mono (show e.y+1+1≤f.y by omega);rw[less_iff];omega
theorem Ev.same (h:Ev l e)(k:Ev l f)(hp:e.pl=f.pl)(hy:e.y<f.y):lessB e f=true:=by
 obtain⟨r,h1,h2,h3⟩:=h;obtain⟨q,k1,k2,k3⟩:=k;rw[hp,k1] at h1;cases h1
 have:=rule_mono (holds_iff.1 h2).2.2 (holds_iff.1 k2).2.2 hy;rw[less_iff]
 left
 rw[h3,k3];exact this
theorem Ev.ext (h:Ev l e)(k:Ev l f)(hp:e.pl=f.pl)(hy:e.y=f.y):e=f:=by
 obtain⟨r,h1,h2,h3⟩:=h;obtain⟨q,k1,k2,k3⟩:=k;rw[hp,k1] at h1;cases h1
 rw[h3,k3,hp,hy]
theorem Ev.total (h:Ev l e)(k:Ev l f):lessB e f=true∨lessB f e=true∨e=f:=by
 by_cases hp:e.pl=f.pl
 ·rcases Int.lt_trichotomy e.y f.y with hy|hy|hy
  ·exact .inl (h.same k hp hy)
  ·exact .inr (.inr (h.ext k hp hy))
  ·exact .inr (.inl (k.same h hp.symm hy))
 ·rcases Int.lt_trichotomy e.n f.n with hn|hn|hn
  ·exact .inl (less_iff.2 (.inl hn))
  ·rcases Nat.lt_or_gt_of_ne hp with q|q
   ·exact .inl (less_iff.2 (.inr ⟨hn,q⟩))
   ·exact .inr (.inl (less_iff.2 (.inr ⟨hn.symm,q⟩)))
  ·exact .inr (.inl (less_iff.2 (.inl hn)))
end
def Srt (l:List E):Prop:=l.Pairwise fun a b=>lessB b a=false
theorem less_weak {a b c:E}(h:lessB b a=false)(k:lessB c b=false):lessB c a=false:=by
 cases q:lessB c a with
 |false=>rfl
 |true=>
  have h1:¬(b.n<a.n∨(b.n=a.n∧b.pl<a.pl)):=fun e=>by rw[less_iff.2 e] at h;cases h
  have k1:¬(c.n<b.n∨(c.n=b.n∧c.pl<b.pl)):=fun e=>by rw[less_iff.2 e] at k;cases k
  rw[less_iff] at q;omega
theorem srt_ins {e:E}:∀{l:List E},Srt l→Srt (ins e l)
 |[],_=>by unfold ins Srt;simp
 |y :: l,h=>by
  unfold Srt at h ⊢;unfold ins;rw[List.pairwise_cons] at h;split
  ·rename_i hl
   rw[List.pairwise_cons,List.pairwise_cons];refine⟨fun x hx=>?_,h⟩;rcases List.mem_cons.1 hx with rfl|hx
   ·exact less_asymm hl
   ·exact less_weak (less_asymm hl) (h.1 x hx)
  ·rename_i hl
   rw[List.pairwise_cons];refine⟨fun x hx=>?_,srt_ins h.2⟩;rcases(mem_ins e x l).1 hx with rfl|hx
   ·simpa using hl
   ·exact h.1 x hx
theorem srt_isort : ∀(x:List E),Srt (isort x)
 |[]=>List.Pairwise.nil
 |e :: x=>by
  unfold isort;exact srt_ins (srt_isort x)
theorem srt_year (l:List Ru.R)(y:Int):Srt (year l y):=srt_isort _
theorem srt_one {l:List Ru.R}:∀{a b:List E},Srt a→Srt b→a.Perm b→(∀x∈a,Ev l x)→a=b
 |[],b,_,_,h,_=>by rw[List.nil_perm.1 h]
 |x :: a,[],_,_,h,_=>by have:=h.length_eq;simp at this
 |x :: a,y :: b,ha,hb,h,he=>by
  have e:x=y:=by
   unfold Srt at ha hb;rw[List.pairwise_cons] at ha hb;rcases List.mem_cons.1 (h.mem_iff.1 List.mem_cons_self) with q|q
   ·exact q
   ·rcases List.mem_cons.1 (h.mem_iff.2 List.mem_cons_self) with r|r
    ·exact r.symm
    ·have a1:=hb.1 x q;have a2:=ha.1 y r;rcases(he x List.mem_cons_self).total (he y (List.mem_cons_of_mem _ r)) with s|s|s
     ·rw[s] at a1;cases a1
     ·rw[s] at a2;cases a2
     ·exact s
  subst e;rw[srt_one (List.Pairwise.of_cons ha) (List.Pairwise.of_cons hb) (List.Perm.cons_inv h) (fun z hz=>he z (List.mem_cons_of_mem _ hz))]
end Oc
end Go.Proofs.YtjobhjemnmleaaaGreatDoor
namespace Go.Proofs.YtjobhjemnmleaaaGreatDoor
open Go.RowKit
namespace Sm
def S.zero : S:=⟨0,0,0,0,0,0,0,0⟩
instance decS : DecidableEq S:=fun a b=>decidable_of_iff (a.y=b.y∧a.mo=b.mo∧a.dw=b.dw∧a.d=b.d∧a.h=b.h∧a.mi=b.mi∧a.s=b.s∧a.ms=b.ms) (by cases a;cases b;simp)
structure U (s:S):Prop where
 y:0≤s.y∧s.y≤65535
 mo:0≤s.mo∧s.mo≤65535
 dw:0≤s.dw∧s.dw≤65535
 d:0≤s.d∧s.d≤65535
 h:0≤s.h∧s.h≤65535
 mi:0≤s.mi∧s.mi≤65535
 ss:0≤s.s∧s.s≤65535
 ms:0≤s.ms∧s.ms≤65535
def most (s:S):Int:=if s.y=0 then 5 else Cv.len s.y s.mo
structure Fine (s:S):Prop where
 m1:1≤s.mo
 m2:s.mo≤12
 w2:s.dw≤6
 h2:s.h≤23
 i2:s.mi≤59
 s2:s.s≤59
 k2:s.ms≤999
 d1:1≤s.d
 y:s.y=0∨(1601≤s.y∧s.y≤9999)
 d2:s.d≤most s
instance decFine (s:S):Decidable (Fine s):=decidable_of_iff ((1≤s.mo∧s.mo≤12∧s.dw≤6∧s.h≤23∧s.mi≤59)∧(s.s≤59∧s.ms≤999∧1≤s.d∧(s.y=0∨(1601≤s.y∧s.y≤9999))∧s.d≤most s))
 ⟨fun h=>⟨h.1.1,h.1.2.1,h.1.2.2.1,h.1.2.2.2.1,h.1.2.2.2.2,h.2.1,h.2.2.1,h.2.2.2.1,h.2.2.2.2.1,h.2.2.2.2.2⟩,fun h=>⟨⟨h.m1,h.m2,h.w2,h.h2,h.i2⟩,h.s2,h.k2,h.d1,h.y,h.d2⟩⟩
def right (s:S):Bool:=decide (s=S.zero) || decide (Fine s)
theorem right_iff {s:S}:right s=true↔s=S.zero∨Fine s:=by unfold right;simp
def day (s:S)(y:Int):Int:=
 if s.y=0 then (if Cv.len y s.mo<1+(s.dw+7 - dow (Cv.num y s.mo 1)) % 7+7*(s.d - 1) then 1+(s.dw+7 - dow (Cv.num y s.mo 1)) % 7+7*(s.d - 1) - 7 else 1+(s.dw+7 - dow (Cv.num y s.mo 1)) % 7+7*(s.d - 1)) else s.d
def loc (s:S)(y:Int):Int:=Cv.num y s.mo (day s y)*86400000+s.h*3600000+s.mi*60000+s.s*1000+s.ms
def no (s:S)(y:Int):Int:=if right s=false then 2 else if s=S.zero∨(s.y≠0∧s.y≠y) then 3 else 0
theorem no_iff {s:S}{y:Int}:no s y=0↔Fine s∧(s.y=0∨s.y=y):=by
 unfold no;constructor
 ·intro h;split at h
  ·omega
  ·split at h
   ·omega
   ·rename_i h1 h2
    rw[Bool.not_eq_false,right_iff] at h1;refine⟨?_,?_⟩
    ·rcases h1 with q|q
     ·exact absurd (.inl q) h2
     ·exact q
    ·by_cases hy:s.y=0
     ·exact .inl hy
     ·by_cases hq:s.y=y
      ·exact .inr hq
      ·exact absurd (.inr ⟨hy,hq⟩) h2
 ·rintro ⟨h1,h2⟩;rw[if_neg (by rw[Bool.not_eq_false,right_iff];exact .inr h1),if_neg];rintro (rfl|⟨q1,q2⟩)
  ·have:=h1.m1;exact absurd this (by decide)
  ·rcases h2 with q|q
   ·exact q1 q
   ·exact q2 q
theorem fine_ne {s:S}(h:Fine s):s≠S.zero:=by
 rintro rfl;exact absurd h.m1 (by decide)
theorem day_val {s:S}{y:Int}(h:Fine s)(hy:1601≤y∧y≤9999)(hh:s.y=0∨s.y=y):Cv.Valid y s.mo (day s y):=by
 have hli:=len_in (y:=y) h.m1 h.m2;have h1:=h.d1;have h2:=h.d2;have hw2:=h.w2;have hdw:=dow_in (Cv.num y s.mo 1);refine⟨by omega,by omega,h.m1,h.m2,?_,?_⟩
 all_goals
  unfold day;unfold most at h2
  by_cases hz:s.y=0
  ·rw[if_pos hz] at h2;rw[if_pos hz];obtain⟨L,hL⟩:=aj (Cv.len y s.mo)
   obtain⟨q,hq⟩:=aj (dow (Cv.num y s.mo 1))
   rw[hL] at hli ⊢;rw[hq] at hdw ⊢;split <;> omega
  ·rw[if_neg hz] at h2;rw[if_neg hz];rcases hh with q|q
   ·exact absurd q hz
   ·rw[q] at h2;omega
def ofClock (c:Int):S:=⟨0,Cv.monthOf (c / 86400),dow (c / 86400),if Cv.len (Cv.yearOf (c / 86400)) (Cv.monthOf (c / 86400)) - 7<Cv.dayOf (c / 86400) then 5 else (Cv.dayOf (c / 86400) - 1) / 7+1,c % 86400 / 3600,c % 86400 / 60 % 60,c % 86400 % 60,0⟩
theorem of_day {d w L f:Int}(hd:1≤d∧d≤L)(hL:28≤L∧L≤31)(hw:w=(f+d - 1) % 7):
  (if L<1+(w+7 - f) % 7+7*((if L - 7<d then 5 else (d - 1) / 7+1) - 1) then 1+(w+7 - f) % 7+7*((if L - 7<d then 5 else (d - 1) / 7+1) - 1) - 7 else 1+(w+7 - f) % 7+7*((if L - 7<d then 5 else (d - 1) / 7+1) - 1))=d:=by
 have e:(w+7 - f) % 7=(d - 1) % 7:=by omega
 rw[e];split <;> split <;> omega
theorem year_in {y n:Int}(hy:1601≤y∧y≤9999)(h1:Oc.D y≤n)(h2:n<Oc.D (y+1)):-719162≤n∧n<2932897∧Cv.yearOf n=y:=by
 have a:=Oc.D_mono (y:=1) (z:=y) (by omega);have b:=Oc.D_mono (y:=y+1) (z:=10000) (by omega);have e1:Oc.D 1=-719162:=by decide
 have e2:Oc.D 10000=2932897:=by decide
 have k1:-719162≤n:=by omega
 have k2:n<2932897:=by omega
 refine⟨k1,k2,?_⟩;have q1:=(year_iff n y k1 k2).1 h1
 by_cases hq:y+1≤Cv.yearOf n
 ·have:=(year_iff n (y+1) k1 k2).2 hq;have:Cv.num (y+1) 1 1=Oc.D (y+1):=rfl;omega
 ·omega
theorem clock_parts (o:Int)(h:0≤o∧o<86400):o / 3600*3600+o / 60 % 60*60+o % 60=o∧0≤o / 3600∧o / 3600≤23∧0≤o / 60 % 60∧o / 60 % 60≤59∧0≤o % 60∧o % 60≤59:=by omega
theorem ofClock_fine {y c:Int}(hy:1601≤y∧y≤9999)(h1:Oc.D y*86400≤c)(h2:c<Oc.D (y+1)*86400):U (ofClock c)∧Fine (ofClock c)∧loc (ofClock c) y=c*1000:=by
 have hc1:Oc.D y≤c / 86400:=by omega
 have hc2:c / 86400<Oc.D (y+1):=by omega
 have ho:0≤c % 86400∧c % 86400<86400:=by omega
 have hcc:c=c / 86400*86400+c % 86400:=by omega
 obtain⟨n,hn⟩:=aj (c / 86400)
 obtain⟨o,hoo⟩:=aj (c % 86400)
 rw[hn] at hc1 hc2;rw[hoo] at ho;rw[hn,hoo] at hcc;obtain⟨n1,n2,hyr⟩:=year_in hy hc1 hc2;obtain⟨hv,d1,d2,m1,m2,_⟩:=day_in n1 n2;have hnum:=(Cv.num_of n n1 n2).2;have hw:=dow_in n;obtain⟨t0,t1,t2,t3,t4,t5,t6⟩:=clock_parts o ho;have hd3:=hv.2.2.2.2.2;unfold ofClock;rw[hn,hoo,hyr];rw[hyr] at hd3 hnum;have hli:=len_in (y:=y) m1 m2;obtain⟨m,hm⟩:=aj (Cv.monthOf n)
 obtain⟨d,hd⟩:=aj (Cv.dayOf n)
 obtain⟨hh,hhh⟩:=aj (o / 3600)
 obtain⟨mi,hmi⟩:=aj (o / 60 % 60)
 obtain⟨ss,hss⟩:=aj (o % 60)
 rw[hm] at m1 m2 hd3 hnum hli;rw[hd] at d1 d2 hd3 hnum;rw[hhh] at t0 t1 t2;rw[hmi] at t0 t3 t4;rw[hss] at t0 t5 t6;rw[hm,hd,hhh,hmi,hss];have hn1:Cv.num y m 1=n - d+1:=by
  have:=Cv.num_day y m 1 (d - 1);rw[show (1:Int)+(d - 1)=d by omega,hnum] at this;omega
 refine⟨⟨?_,?_,?_,?_,?_,?_,?_,?_⟩,⟨m1,m2,hw.2,t2,t4,t6,?_,?_,.inl rfl,?_⟩,?_⟩
 all_goals try (simp only;omega)
 ·unfold most;rw[if_pos rfl];simp only;split <;> omega
 ·unfold loc day;simp only;rw[if_pos True.intro,hn1];obtain⟨L,hL⟩:=aj (Cv.len y m)
  rw[hL] at hli hd3 ⊢;rw[of_day (f:=dow (n - d+1)) (w:=dow n) ⟨d1,hd3⟩ hli (by unfold dow;omega),hnum];omega
end Sm
end Go.Proofs.YtjobhjemnmleaaaGreatDoor
namespace Go.Proofs.YtjobhjemnmleaaaGreatDoor
open Go.RowKit
namespace Sm
def same (a b:S):Bool:=decide (a.y=b.y) && (decide (a.mo=b.mo) && (decide (a.dw=b.dw) && (decide (a.d=b.d) && (decide (a.h=b.h) && (decide (a.mi=b.mi) && (decide (a.s=b.s) && decide (a.ms=b.ms)))))))
theorem same_iff {a b:S}:same a b=true↔a=b:=by
 obtain⟨y,mo,dw,d,h,mi,s,ms⟩:=a;obtain⟨y',mo',dw',d',h',mi',s',ms'⟩:=b;simp only[same,Bool.and_eq_true,decide_eq_true_eq,S.mk.injEq]
theorem same_eq (a b:S):same a b=decide (a=b):=by rw[Bool.eq_iff_iff,same_iff,decide_eq_true_eq]
theorem and_if {p:Prop}[Decidable p]{q:Bool}{w:World}{R:Result Bool}(h:R=.ok q w):(if p then R else .ok false w)=.ok (decide p && q) w:=by
 by_cases hp:p
 ·rw[if_pos hp,h,decide_eq_true hp,Bool.true_and]
 ·rw[if_neg hp,decide_eq_false hp,Bool.false_and]
theorem last_if (p:Prop)[Decidable p](w:World):(if p then (.ok true w:Result Bool) else .ok false w)=.ok (decide p) w:=by
 by_cases hp:p
 ·rw[if_pos hp,decide_eq_true hp]
 ·rw[if_neg hp,decide_eq_false hp]
theorem right_no {s:S}(h:s≠S.zero)(k:¬Fine s):right s=false:=by
 rw[← Bool.not_eq_true,right_iff];rintro (q|q)
 ·exact h q
 ·exact k q
end Sm
theorem stamp_same (a b:Sm.S)(w:World):(Op.equalIn 10000 47 a.v b.v).run Tryz.prog w=.ok (decide (a=b)) w:=by
 rw[← Sm.same_eq];obtain⟨y,mo,dw,d,h,mi,s,ms⟩:=a;obtain⟨y',mo',dw',d',h',mi',s',ms'⟩:=b;unfold Sm.S.v Sm.same;simp only;go_simp
 iterate 7 refine Sm.and_if ?_
 exact Sm.last_if _ _
theorem stampCheck_all (s:Sm.S)(w:World)(hL:Lens w)(hu:Sm.U s):Calls Tryz.prog 117 #[s.v] w fun e w'=>e=.returned (.int .i64 (if Sm.right s=true then 0 else 2))∧Below w.heap.size w w':=by
 have hq0:=fun W=>stamp_same s Sm.S.zero W
 obtain⟨X,hX⟩:∃X:Int,(if Sm.right s=true then 0 else 2)=X:=⟨_,rfl⟩
 rw[hX];have hz (h:s=Sm.S.zero):X=0:=by rw[← hX,if_pos (Sm.right_iff.2 (.inl h))]
 have hn (h:s≠Sm.S.zero) (k:¬Sm.Fine s):X=2:=by rw[← hX,if_neg (by rw[Sm.right_no h k];decide)]
 have hy (k:Sm.Fine s):X=0:=by rw[← hX,if_pos (Sm.right_iff.2 (.inr k))]
 clear hX
 by_cases he:s=Sm.S.zero
 ·have HX:Hid (X=0):=hz he;simp only[decide_eq_true he] at hq0;subst he;have HB1:=ak ((Below.refl w.heap.size w).alloc (Nat.le_refl _) (.cells #[.int .u16 0,.int .u16 0,.int .u16 0,.int .u16 0,.int .u16 0,.int .u16 0,.int .u16 0,.int .u16 0] 47));clear hz hn hy hL hu;unfold Sm.S.v Sm.S.zero at hq0 ⊢;simp only at hq0 ⊢;go_enter Tryz.func117,Tryz.ntmps117
  go_wp2;go_ret
  exact⟨by rw[HX.out];rfl,HB1.out⟩
 simp only[decide_eq_false he] at hq0;have HN:=ak (hn he);have HY:=ak hy;have HU:=ak hu;clear hz hn hy he;obtain⟨⟨y1,y2⟩,⟨m1,m2⟩,⟨w1,w2⟩,⟨d1,d2⟩,⟨h1,h2⟩,⟨i1,i2⟩,⟨s1,s2⟩,⟨k1,k2⟩⟩:=hu;obtain⟨y,mo,dw,d,h,mi,ss,ms⟩:=s;simp only at y1 y2 m1 m2 w1 w2 d1 d2 h1 h2 i1 i2 s1 s2 k1 k2;unfold Sm.S.v Sm.S.zero at hq0;unfold Sm.S.v;simp only at hq0 ⊢;obtain⟨W1,hW1⟩:=aj (w.alloc (.cells #[.int .u16 y,.int .u16 mo,.int .u16 dw,.int .u16 d,.int .u16 h,.int .u16 mi,.int .u16 ss,.int .u16 ms] 47))
 have hb1:Below w.heap.size w W1:=by rw[← hW1];exact al
 have hA1:At W1 w.heap.size [.int .u16 y,.int .u16 mo,.int .u16 dw,.int .u16 d,.int .u16 h,.int .u16 mi,.int .u16 ss,.int .u16 ms]:=by rw[← hW1];exact At.new _ _ _
 have HLe:=ak fun(hc:InCal y mo)=>length_ok y mo W1 (hL.below hb1) hc
 have HB1:=ak hb1;have HW1:=ak hW1;have c0:=hA1.cell 0 _ rfl;have c1:=hA1.cell 1 _ rfl;have c2:=hA1.cell 2 _ rfl;have c3:=hA1.cell 3 _ rfl;have c4:=hA1.cell 4 _ rfl;have c5:=hA1.cell 5 _ rfl;have c6:=hA1.cell 6 _ rfl;have c7:=hA1.cell 7 _ rfl;have zc:=hA1.lt;clear hb1 hA1 hW1 hL;have hc:(mo<1)∨(¬mo<1∧12<mo)∨(¬mo<1∧¬12<mo∧6<dw)∨(¬mo<1∧¬12<mo∧¬6<dw∧23<h)∨(¬mo<1∧¬12<mo∧¬6<dw∧¬23<h∧59<mi)∨(¬mo<1∧¬12<mo∧¬6<dw∧¬23<h∧¬59<mi∧59<ss)∨(¬mo<1∧¬12<mo∧¬6<dw∧¬23<h∧¬59<mi∧¬59<ss∧999<ms)∨(¬mo<1∧¬12<mo∧¬6<dw∧¬23<h∧¬59<mi∧¬59<ss∧¬999<ms∧d<1)∨(¬mo<1∧¬12<mo∧¬6<dw∧¬23<h∧¬59<mi∧¬59<ss∧¬999<ms∧¬d<1):=by omega
 go_enter Tryz.func117,Tryz.ntmps117
 go_upto_region 1 with fail
 rw[HW1.out];rcases hc with p1|⟨p1,p2⟩|⟨p1,p2,p3⟩|⟨p1,p2,p3,p4⟩|⟨p1,p2,p3,p4,p5⟩|⟨p1,p2,p3,p4,p5,p6⟩|⟨p1,p2,p3,p4,p5,p6,p7⟩|⟨p1,p2,p3,p4,p5,p6,p7,p8⟩|⟨p1,p2,p3,p4,p5,p6,p7,p8⟩
 ·have HX:Hid (X=2):=HN.out fun hf=>by
   have:=hf.m1;simp only at this;omega
  clear HLe;go_wp2;go_ret
  exact⟨by rw[HX.out];rfl,HB1.out⟩
 ·have HX:Hid (X=2):=HN.out fun hf=>by
   have:=hf.m2;simp only at this;omega
  clear HLe;go_wp2;go_ret
  exact⟨by rw[HX.out];rfl,HB1.out⟩
 ·have HX:Hid (X=2):=HN.out fun hf=>by
   have:=hf.w2;simp only at this;omega
  clear HLe;go_wp2;go_ret
  exact⟨by rw[HX.out];rfl,HB1.out⟩
 ·have HX:Hid (X=2):=HN.out fun hf=>by
   have:=hf.h2;simp only at this;omega
  clear HLe;go_wp2;go_ret
  exact⟨by rw[HX.out];rfl,HB1.out⟩
 ·have HX:Hid (X=2):=HN.out fun hf=>by
   have:=hf.i2;simp only at this;omega
  clear HLe;go_wp2;go_ret
  exact⟨by rw[HX.out];rfl,HB1.out⟩
 ·have HX:Hid (X=2):=HN.out fun hf=>by
   have:=hf.s2;simp only at this;omega
  clear HLe;go_wp2;go_ret
  exact⟨by rw[HX.out];rfl,HB1.out⟩
 ·have HX:Hid (X=2):=HN.out fun hf=>by
   have:=hf.k2;simp only at this;omega
  clear HLe;go_wp2;go_ret
  exact⟨by rw[HX.out];rfl,HB1.out⟩
 ·have HX:Hid (X=2):=HN.out fun hf=>by
   have:=hf.d1;simp only at this;omega
  clear HLe;go_wp2;go_ret
  exact⟨by rw[HX.out];rfl,HB1.out⟩
 by_cases hz:y=0
 ·subst hz
  by_cases hd:d≤5
  ·have p9:¬5<d:=(by omega);have HX:Hid (X=0):=HY.out ⟨by simp only;omega,by simp only;omega,by simp only;omega,by simp only;omega,by simp only;omega,by simp only;omega,by simp only;omega,by simp only;omega,.inl rfl,by unfold Sm.most;simp only[if_pos];omega⟩;clear HLe;go_wp2;go_ret
   exact⟨by rw[HX.out];rfl,HB1.out⟩
  ·have p9:5<d:=(by omega);have HX:Hid (X=2):=HN.out fun hf=>by
    have:=hf.d2;unfold Sm.most at this;simp only[if_pos] at this;omega
   clear HLe hd;go_wp2;go_ret
   exact⟨by rw[HX.out];rfl,HB1.out⟩
 have p9:(y != 0)=true:=by rw[bne_iff_ne];exact hz
 have hyy:(y<1601)∨(¬y<1601∧9999<y)∨(¬y<1601∧¬9999<y):=by omega
 rcases hyy with q1|⟨q1,q2⟩|⟨q1,q2⟩
 ·have HX:Hid (X=2):=HN.out fun hf=>by
   have:=hf.y;simp only at this;omega
  clear HLe hz;go_wp2;go_ret
  exact⟨by rw[HX.out];rfl,HB1.out⟩
 ·have HX:Hid (X=2):=HN.out fun hf=>by
   have:=hf.y;simp only at this;omega
  clear HLe hz;go_wp2;go_ret
  exact⟨by rw[HX.out];rfl,HB1.out⟩
 have HLn:=ak (HLe.out ⟨by omega,by omega,by omega,by omega⟩);have hli:=Sm.len_in (y:=y) (show 1≤mo by omega) (show mo≤12 by omega);have HM:Hid (Sm.most ⟨y,mo,dw,d,h,mi,ss,ms⟩=Cv.len y mo):=by
  show Sm.most _=_
  unfold Sm.most;rw[if_neg hz]
 obtain⟨L,hLn⟩:=aj (Cv.len y mo)
 rw[hLn] at HLn HM hli;clear HLe hLn hz
 by_cases hd:d≤L
 ·have p10:¬L<d:=by omega
  have HX:Hid (X=0):=HY.out ⟨by simp only;omega,by simp only;omega,by simp only;omega,by simp only;omega,by simp only;omega,by simp only;omega,by simp only;omega,by simp only;omega,.inr ⟨by simp only;omega,by simp only;omega⟩,by rw[HM.out];exact hd⟩;go_wp2_with fail
  refine HLn.out.mono ?_;rintro e w2 ⟨rfl,rfl⟩;go_wp2;go_ret
  exact⟨by rw[HX.out];rfl,HB1.out⟩
 ·have p10:L<d:=by omega
  have HX:Hid (X=2):=HN.out fun hf=>by
   have:=hf.d2;rw[HM.out] at this;exact hd this
  clear hd;go_wp2_with fail
  refine HLn.out.mono ?_;rintro e w2 ⟨rfl,rfl⟩;go_wp2;go_ret
  exact⟨by rw[HX.out];rfl,HB1.out⟩
end Go.Proofs.YtjobhjemnmleaaaGreatDoor
namespace Go.Proofs.YtjobhjemnmleaaaGreatDoor
open Go.RowKit
namespace Oc
def rl (l:List Ru.R)(p:Nat):Ru.R:=l.getD p Ru.R.zero
def pls : List Ru.R→Nat→List Nat
 |[],_=>[]
 |r :: l,p=>if some_ r=true then p :: pls l (p+1) else pls l (p+1)
def atL (l:List Ru.R)(y:Int)(p:Nat):List E:=if holds (rl l p) y=true then [mk (rl l p) p y] else []
def covS (l:List Ru.R)(top:Int)(y:Int)(p:Nat):Int:=if (rl l p).fr≤top then max y (min (rl l p).tt top) else y
def covered (l:List Ru.R)(top:Int):Int:=(pls l 0).foldl (covS l top) 0
def lastP (x:List E)(P:E→Bool):Option E:=(x.filter P).getLast?
def better (b m:Option E):Option E:=
 match m with
 |none=>b
 |some e=>match b with
  |none=>some e
  |some a=>if lessB a e=true then some e else some a
def stop (y:Int)(b:Option E):Bool:=decide (y<1) || match b with
 |none=>false
 |some e=>decide (y<e.y - 1)
def lastGo (l:List Ru.R)(P:E→Bool):Nat→Int→Option E→Option E
 |0,_,b=>b
 |f+1,y,b=>if stop y b=true then b else if (year l y).isEmpty=true then lastGo l P f (covered l (y - 1)) b else lastGo l P f (y - 1) (better b (lastP (year l y) P))
def last (l:List Ru.R)(top:Int)(P:E→Bool):Option E:=lastGo l P (top.toNat+1) top none
def svO : Option E→Int
 |none=>0
 |some e=>e.sv
def before (l:List Ru.R)(e:E):Int:=svO (last l (e.y+1) fun o=>lessB o e)
def tell (l:List Ru.R)(e:E):E:=⟨e.n,e.c,e.sv,before l e,e.lt,e.pl,e.y⟩
def backGo (r:Ru.R)(p:Nat):Nat→Int→List E
 |0,_=>[]
 |f+1,y=>if y<r.fr then [] else if holds r y=true then [mk r p y] else backGo r p f (y - 1)
def back (l:List Ru.R)(lo:Int)(p:Nat):List E:=backGo (rl l p) p ((min (rl l p).tt (lo - 1)).toNat+1) (min (rl l p).tt (lo - 1))
def yrs : Nat→Int→List Int
 |0,_=>[]
 |k+1,y=>y :: yrs k (y+1)
def ofU (l:List Ru.R)(lo hi:Int):List E:=(pls l 0).flatMap (back l lo) ++ (yrs (hi - lo+1).toNat lo).flatMap (year l)
def of (l:List Ru.R)(lo hi:Int):List E:=(isort (ofU l lo hi)).map (tell l)
theorem mem_pls : ∀(l:List Ru.R) (p q:Nat),q∈pls l p↔∃(i:Nat) (r:Ru.R),l[i]?=some r∧some_ r=true∧q=p+i
 |[],p,q=>by simp[pls]
 |r :: l,p,q=>by
  have ih:=mem_pls l (p+1) q;have key:(∃(i:Nat) (x:Ru.R),(r :: l)[i]?=some x∧some_ x=true∧q=p+i)↔((some_ r=true∧q=p)∨∃(i:Nat) (x:Ru.R),l[i]?=some x∧some_ x=true∧q=p+1+i):=by
   constructor
   ·rintro ⟨i,x,h1,h2,h3⟩;cases i with
    |zero=>
     simp at h1
     subst h1;exact .inl ⟨h2,h3⟩
    |succ i=>exact .inr ⟨i,x,by simpa using h1,h2,by omega⟩
   ·rintro (⟨h2,h3⟩|⟨i,x,h1,h2,h3⟩)
    ·exact⟨0,r,rfl,h2,h3⟩
    ·exact⟨i+1,x,by simpa using h1,h2,by omega⟩
  rw[key];unfold pls;split
  ·rename_i hh
   rw[List.mem_cons,ih];constructor
   ·rintro (h|h)
    ·exact .inl ⟨hh,h⟩
    ·exact .inr h
   ·rintro (h|h)
    ·exact .inl h.2
    ·exact .inr h
  ·rename_i hh
   rw[ih];constructor
   ·exact .inr
   ·rintro (h|h)
    ·exact absurd h.1 hh
    ·exact h
theorem rl_at {l:List Ru.R}{p:Nat}{r:Ru.R}(h:l[p]?=some r):rl l p=r:=by unfold rl;rw[List.getD,h];rfl
theorem pls_lt {l:List Ru.R}{p:Nat}(h:p∈pls l 0):p<l.length:=by
 obtain⟨i,r,h1,_,h3⟩:=(mem_pls l 0 p).1 h;obtain⟨h4,_⟩:=List.getElem?_eq_some_iff.1 h1;omega
theorem pls_get {l:List Ru.R}{p:Nat}(h:p∈pls l 0):l[p]?=some (rl l p):=by
 have hlt:=pls_lt h;rw[rl_at (List.getElem?_eq_getElem hlt),List.getElem?_eq_getElem hlt]
theorem Ev.pls {l:List Ru.R}{e:E}(h:Ev l e):e.pl∈pls l 0:=by
 obtain⟨r,h1,h2,h3⟩:=h;exact(mem_pls l 0 e.pl).2 ⟨e.pl,r,h1,holds_some (holds_iff.1 h2).2.2,by omega⟩
theorem yearU_from : ∀(l t:List Ru.R) (p:Nat) (y:Int),(∀i,t[i]?=l[p+i]?)→(pls t p).flatMap (atL l y)=yearU t p y
 |l,[],p,y,_=>rfl
 |l,r :: t,p,y,h=>by
  have ih:=yearU_from l t (p+1) y (fun i=>by
   have:=h (i+1);rw[List.getElem?_cons_succ] at this;rw[this];congr 1;omega)
  have hr:rl l p=r:=rl_at (by have:=h 0;simpa using this.symm);unfold pls yearU
  by_cases hh:holds r y=true
  ·rw[if_pos (holds_some (holds_iff.1 hh).2.2),if_pos hh,List.flatMap_cons,ih];unfold atL;rw[hr,if_pos hh];rfl
  ·rw[if_neg hh];split
   ·rw[List.flatMap_cons,ih];unfold atL;rw[hr,if_neg hh];rfl
   ·exact ih
theorem yearU_pls (l:List Ru.R)(y:Int):(pls l 0).flatMap (atL l y)=yearU l 0 y:=yearU_from l l 0 y (fun i=>by rw[Nat.zero_add])
theorem covS_le {l:List Ru.R}{top a:Int}:∀(x:List Nat),a≤top→x.foldl (covS l top) a≤top∧a≤x.foldl (covS l top) a
 |[],h=>⟨h,Int.le_refl _⟩
 |p :: x,h=>by
  have h1:covS l top a p≤top∧a≤covS l top a p:=by unfold covS;split <;> omega
  have:=covS_le (l:=l) (top:=top) x h1.1;exact⟨this.1,Int.le_trans h1.2 this.2⟩
theorem covS_ge {l:List Ru.R}{top z:Int}:∀(x:List Nat) (a:Int),a≤top→(∃p∈x,(rl l p).fr≤z∧z≤(rl l p).tt)→z≤top→z≤x.foldl (covS l top) a
 |[],a,_,⟨p,hp,_⟩,_=>by cases hp
 |q :: x,a,ha,⟨p,hp,h1,h2⟩,hz=>by
  have h3:covS l top a q≤top:=by unfold covS;split <;> omega
  rcases List.mem_cons.1 hp with rfl|hp
  ·have h4:z≤covS l top a p:=by unfold covS;rw[if_pos (by omega)];omega
   exact Int.le_trans h4 (covS_le (l:=l) (top:=top) x h3).2
  ·exact covS_ge x _ h3 ⟨p,hp,h1,h2⟩ hz
theorem covered_le (l:List Ru.R){top:Int}(h:0≤top):covered l top≤top∧0≤covered l top:=covS_le _ h
theorem covered_ge {l:List Ru.R}{top:Int}{e:E}(he:Ev l e)(h0:0≤top)(h:e.y≤top):e.y≤covered l top:=by
 refine covS_ge _ _ h0 ⟨e.pl,he.pls,?_⟩ h;obtain⟨r,h1,h2,h3⟩:=he;rw[rl_at h1];have:=holds_iff.1 h2;exact⟨this.1,this.2.1⟩
def IsLast (l:List Ru.R)(Q:E→Prop):Option E→Prop
 |none=>∀e,Ev l e→¬Q e
 |some m=>Ev l m∧Q m∧∀e,Ev l e→Q e→e=m∨lessB e m=true
section
variable {l:List Ru.R} {Q Q':E→Prop}
theorem IsLast.one : ∀{a b:Option E},IsLast l Q a→IsLast l Q b→a=b
 |none,none,_,_=>rfl
 |none,some m,h,k=>absurd k.2.1 (h m k.1)
 |some m,none,h,k=>absurd h.2.1 (k m h.1)
 |some m,some n,h,k=>by
  rcases k.2.2 m h.1 h.2.1 with e|e
  ·rw[e]
  ·rcases h.2.2 n k.1 k.2.1 with f|f
   ·rw[f]
   ·rw[less_asymm e] at f;cases f
theorem IsLast.iff (h:∀e,Ev l e→(Q e↔Q' e)):∀{a:Option E},IsLast l Q a→IsLast l Q' a
 |none,k=>fun e he hq=>k e he ((h e he).2 hq)
 |some m,k=>⟨k.1,(h m k.1).1 k.2.1,fun e he hq=>k.2.2 e he ((h e he).2 hq)⟩
end
theorem lastP_mem {x:List E}{P:E→Bool}{m:E}(h:lastP x P=some m):m∈x∧P m=true:=by
 have:=List.mem_of_getLast? h;exact List.mem_filter.1 this
theorem getLast_top {l:List Ru.R}:∀{x:List E} {m:E},Srt x→(∀e∈x,Ev l e)→x.getLast?=some m→∀e∈x,e=m∨lessB e m=true
 |[],_,_,_,h,e,he=>by cases he
 |[a],m,_,_,h,e,he=>by
  simp at h he
  exact .inl (he.trans h)
 |a :: b :: x,m,hs,hv,h,e,he=>by
  unfold Srt at hs;rw[List.pairwise_cons] at hs;have h':(b :: x).getLast?=some m:=by rw[List.getLast?_cons_cons] at h;exact h
  rcases List.mem_cons.1 he with rfl|he
  ·have hm:=List.mem_of_getLast? h';rcases(hv e List.mem_cons_self).total (hv m (List.mem_cons_of_mem _ hm)) with q|q|q
   ·exact .inr q
   ·have:=hs.1 m hm;rw[q] at this;cases this
   ·exact .inl q
  ·exact getLast_top hs.2 (fun z hz=>hv z (List.mem_cons_of_mem _ hz)) h' e he
theorem lastP_is {l:List Ru.R}{x:List E}{R:E→Prop}(hs:Srt x)(hm:∀e,e∈x↔Ev l e∧R e)(P:E→Bool):IsLast l (fun e=>R e∧P e=true) (lastP x P):=by
 cases h:lastP x P with
 |none=>
  intro e he hq;unfold lastP at h;rw[List.getLast?_eq_none_iff] at h;have:e∈x.filter P:=List.mem_filter.2 ⟨(hm e).2 ⟨he,hq.1⟩,hq.2⟩;rw[h] at this;cases this
 |some m=>
  obtain⟨h1,h2⟩:=lastP_mem h;refine⟨((hm m).1 h1).1,⟨((hm m).1 h1).2,h2⟩,fun e he hq=>?_⟩;exact getLast_top (l:=l) (hs.sublist List.filter_sublist) (fun z hz=>((hm z).1 (List.mem_filter.1 hz).1).1) h e (List.mem_filter.2 ⟨(hm e).2 ⟨he,hq.1⟩,hq.2⟩)
theorem lastGo_is {l:List Ru.R}{P:E→Bool}{top:Int}:∀(f:Nat) (y:Int) (b:Option E),y.toNat<f→y≤top→0≤y→
  IsLast l (fun e=>P e=true∧y<e.y∧e.y≤top) b→IsLast l (fun e=>P e=true∧e.y≤top) (lastGo l P f y b)
 |0,y,b,h,_,_,_=>by omega
 |f+1,y,b,hf,hy,hy0,hb=>by
  unfold lastGo
  by_cases hst:stop y b=true
  ·rw[if_pos hst];unfold stop at hst;rw[Bool.or_eq_true,decide_eq_true_eq] at hst;rcases hst with h1|h1
   ·refine hb.iff (fun e he=>⟨fun h=>⟨h.1,h.2.2⟩,fun h=>⟨h.1,?_,h.2⟩⟩);obtain⟨r,g1,g2,g3⟩:=he;have:=(inS_ok (nom_ok (holds_iff.1 g2).2.2).2.1).2.1;omega
   ·cases b with
    |none=>cases h1
    |some m=>
     simp only[decide_eq_true_eq] at h1;refine⟨hb.1,⟨hb.2.1.1,hb.2.1.2.2⟩,fun e he hq=>?_⟩
     by_cases hye:y<e.y
     ·exact hb.2.2 e he ⟨hq.1,hye,hq.2⟩
     ·exact .inr (he.far hb.1 (by omega))
  ·rw[if_neg hst];have hy1:1≤y:=by
    unfold stop at hst;rw[Bool.or_eq_true,decide_eq_true_eq] at hst;have:¬y<1:=fun h=>hst (.inl h)
    omega
   by_cases hem:(year l y).isEmpty=true
   ·rw[if_pos hem];obtain⟨c1,c2⟩:=covered_le l (top:=y - 1) (by omega);refine lastGo_is f _ b (by omega) (by omega) c2 (hb.iff (fun e he=>⟨fun h=>⟨h.1,by omega,h.2.2⟩,fun h=>⟨h.1,?_,h.2.2⟩⟩));rcases Int.lt_trichotomy e.y y with q|q|q
    ·have:=covered_ge he (top:=y - 1) (by omega) (by omega);omega
    ·have:=(mem_year (l:=l) (y:=y)).2 ⟨he,q⟩;rw[List.isEmpty_iff] at hem;rw[hem] at this;cases this
    ·exact q
   ·rw[if_neg hem];refine lastGo_is f _ _ (by omega) (by omega) (by omega) ?_;have hL:=lastP_is (l:=l) (R:=fun e=>e.y=y) (srt_year l y) (fun e=>mem_year) P;cases hm:lastP (year l y) P with
    |none=>
     rw[hm] at hL;unfold better;simp only;refine hb.iff (fun e he=>⟨fun h=>⟨h.1,by omega,h.2.2⟩,fun h=>⟨h.1,?_,h.2.2⟩⟩);rcases Int.lt_trichotomy e.y y with q|q|q
     ·omega
     ·exact absurd ⟨q,h.1⟩ (hL e he)
     ·exact q
    |some m=>
     rw[hm] at hL;unfold better;simp only;cases b with
     |none=>
      simp only;refine⟨hL.1,⟨hL.2.1.2,by have:=hL.2.1.1;omega,by have:=hL.2.1.1;omega⟩,fun e he hq=>?_⟩;rcases Int.lt_trichotomy e.y y with q|q|q
      ·omega
      ·exact hL.2.2 e he ⟨q,hq.1⟩
      ·exact absurd ⟨hq.1,q,hq.2.2⟩ (hb e he)
     |some a=>
      simp only
      by_cases hlt:lessB a m=true
      ·rw[if_pos hlt];refine⟨hL.1,⟨hL.2.1.2,by have:=hL.2.1.1;omega,by have:=hL.2.1.1;omega⟩,fun e he hq=>?_⟩;rcases Int.lt_trichotomy e.y y with q|q|q
       ·omega
       ·exact hL.2.2 e he ⟨q,hq.1⟩
       ·rcases hb.2.2 e he ⟨hq.1,q,hq.2.2⟩ with r|r
        ·rw[r];exact .inr hlt
        ·exact .inr (less_trans r hlt)
      ·rw[if_neg hlt];have hb2:=hb.2.1;refine⟨hb.1,⟨hb2.1,by omega,hb2.2.2⟩,fun e he hq=>?_⟩;rcases Int.lt_trichotomy e.y y with q|q|q
       ·omega
       ·have hma:m=a∨lessB m a=true:=by
         rcases hb.1.total hL.1 with r|r|r
         ·exact absurd r hlt
         ·exact .inr r
         ·exact .inl r.symm
        rcases hL.2.2 e he ⟨q,hq.1⟩ with r|r
        ·rw[r];exact hma
        ·rcases hma with s|s
         ·rw[← s];exact .inr r
         ·exact .inr (less_trans r s)
       ·exact hb.2.2 e he ⟨hq.1,q,hq.2.2⟩
theorem last_is (l:List Ru.R){top:Int}(P:E→Bool)(h:0≤top):IsLast l (fun e=>P e=true∧e.y≤top) (last l top P):=
 lastGo_is _ _ _ (Nat.lt_succ_self _) (Int.le_refl _) h (fun e _ hq=>by omega)
theorem ahead_is {l:List Ru.R}{e:E}(he:Ev l e):IsLast l (fun o=>lessB o e=true) (last l (e.y+1) fun o=>lessB o e):=by
 have hy:1≤e.y:=by
  obtain⟨r,g1,g2,g3⟩:=he;have:=(inS_ok (nom_ok (holds_iff.1 g2).2.2).2.1).2.1;omega
 refine(last_is l (top:=e.y+1) (fun o=>lessB o e) (by omega)).iff (fun o ho=>⟨fun h=>h.1,fun h=>⟨h,?_⟩⟩);rcases Int.lt_or_le (e.y+1) o.y with q|q
 ·have:=he.far ho (by omega);rw[less_asymm this] at h;cases h
 ·exact q
theorem svO_is {l:List Ru.R}{Q:E→Prop}(hl:∀r∈l,IsTime r.sv):∀{o:Option E},IsLast l Q o→IsTime (svO o)
 |none,_=>by show IsTime 0;unfold IsTime;omega
 |some m,h=>by
  obtain⟨r,g1,g2,g3⟩:=h.1;have:=hl r (List.mem_of_getElem? g1);unfold svO;rw[g3];exact this
theorem before_is {l:List Ru.R}{e:E}(hl:∀r∈l,IsTime r.sv)(he:Ev l e):IsTime (before l e):=svO_is hl (ahead_is he)
end Oc
end Go.Proofs.YtjobhjemnmleaaaGreatDoor
