/- Which occurrences there are in some years; instants of occurrences; the last one behind which nothing is, in plain words. -/
import Derived.Test.YtjobhjemnmleaaaGreatDoorR08
import Derived.ScopeJumps
import Derived.WalkMore
import Derived.Lib.BufferOwn
set_option maxRecDepth 100000
set_option maxHeartbeats 2000000
namespace Go.Proofs.YtjobhjemnmleaaaGreatDoor
open Go.RowKit
namespace Oc
theorem mem_yrs : ∀(k:Nat) (lo y:Int),y∈yrs k lo↔lo≤y∧y<lo+k
 |0,lo,y=>by simp[yrs]
 |k+1,lo,y=>by
  unfold yrs;rw[List.mem_cons,mem_yrs k (lo+1) y];omega
theorem mem_backGo {r:Ru.R}{p:Nat}:∀(f:Nat) (y:Int) (e:E),y.toNat<f→(e∈backGo r p f y↔∃z,z≤y∧holds r z=true∧e=mk r p z∧∀x,z<x→x≤y→holds r x=false)
 |0,y,e,h=>by omega
 |f+1,y,e,h=>by
  unfold backGo
  by_cases hf:y<r.fr
  ·rw[if_pos hf];constructor
   ·intro h;cases h
   ·rintro ⟨z,h1,h2,_⟩;have:=(holds_iff.1 h2).1;omega
  ·rw[if_neg hf]
   by_cases hh:holds r y=true
   ·rw[if_pos hh,List.mem_singleton];constructor
    ·intro he;exact⟨y,Int.le_refl _,hh,he,fun x h1 h2=>by omega⟩
    ·rintro ⟨z,h1,h2,h3,h4⟩;rcases Int.lt_or_le z y with q|q
     ·have:=h4 y q (Int.le_refl _);rw[hh] at this;cases this
     ·obtain rfl:z=y:=by omega
      exact h3
   ·rw[if_neg hh]
    by_cases hy:y≤0
    ·have hn:∀z,z≤y→holds r z=false:=fun z hz=>by
      cases hq:holds r z with
      |false=>rfl
      |true=>
       have:=(inS_ok (nom_ok (holds_iff.1 hq).2.2).2.1).2.1;omega
     constructor
     ·intro hb;exfalso
      have:∀(g:Nat) (w:Int),w≤y→e∉backGo r p g w:=by
       intro g
       induction g with
       |zero=>intro w _ h;cases h
       |succ g ih=>
        intro w hw h;unfold backGo at h;rw[hn w hw] at h;split at h
        ·cases h
        ·simp only[Bool.false_eq_true,if_false] at h;exact ih (w - 1) (by omega) h
      exact this f (y - 1) (by omega) hb
     ·rintro ⟨z,h1,h2,_⟩;rw[hn z h1] at h2;cases h2
    ·rw[mem_backGo f (y - 1) e (by omega)];constructor
     ·rintro ⟨z,h1,h2,h3,h4⟩;refine⟨z,by omega,h2,h3,fun x h5 h6=>?_⟩;rcases Int.lt_or_le x y with q|q
      ·exact h4 x h5 (by omega)
      ·obtain rfl:x=y:=by omega
       simpa using hh
     ·rintro ⟨z,h1,h2,h3,h4⟩;refine⟨z,?_,h2,h3,fun x h5 h6=>h4 x h5 (by omega)⟩;rcases Int.lt_or_le z y with q|q
      ·omega
      ·obtain rfl:z=y:=by omega
       exact absurd h2 hh
def LastOf (l:List Ru.R)(lo:Int)(e:E):Prop:=Ev l e∧e.y<lo∧∀z,Ev l z→z.pl=e.pl→z.y<lo→z.y≤e.y
theorem mem_back {l:List Ru.R}{lo:Int}{p:Nat}(hp:p∈pls l 0)(e:E):e∈back l lo p↔e.pl=p∧LastOf l lo e:=by
 have hg:=pls_get hp;unfold back;rw[mem_backGo _ _ _ (Nat.lt_succ_self _)];constructor
 ·rintro ⟨z,h1,h2,h3,h4⟩;have e1:e.pl=p:=by rw[h3];rfl
  have e2:e.y=z:=by rw[h3];rfl
  refine⟨e1,⟨rl l p,by rw[e1];exact hg,by rw[e2];exact h2,by rw[e1,e2];exact h3⟩,by omega,fun w hw hpl hlt=>?_⟩;obtain⟨q,k1,k2,k3⟩:=hw;rw[hpl,e1,hg] at k1;cases k1
  rcases Int.lt_or_le z w.y with s|s
  ·have hk:=(holds_iff.1 k2).2.1;have:=h4 w.y s (by omega);rw[k2] at this;cases this
  ·omega
 ·rintro ⟨e1,⟨q,k1,k2,k3⟩,h2,h3⟩;rw[e1,hg] at k1;cases k1
  have hk:=(holds_iff.1 k2).2.1;refine⟨e.y,by omega,k2,by rw[← e1];rw[← e1] at k3;exact k3,fun x h5 h6=>?_⟩;cases hq:holds (rl l p) x with
  |false=>rfl
  |true=>
   have:=h3 (mk (rl l p) p x) ⟨rl l p,hg,hq,rfl⟩ e1.symm (by show x<lo;omega);have e3:(mk (rl l p) p x).y=x:=rfl;omega
theorem mem_ofU {l:List Ru.R}{lo hi:Int}(e:E):e∈ofU l lo hi↔Ev l e∧((lo≤e.y∧e.y≤hi)∨LastOf l lo e):=by
 unfold ofU;rw[List.mem_append,List.mem_flatMap,List.mem_flatMap];constructor
 ·rintro (⟨p,hp,h⟩|⟨y,hy,h⟩)
  ·have:=((mem_back hp e).1 h).2;exact⟨this.1,.inr this⟩
  ·rw[mem_yrs] at hy;obtain⟨h1,h2⟩:=mem_year.1 h;exact⟨h1,.inl (by omega)⟩
 ·rintro ⟨h1,h2|h2⟩
  ·exact .inr ⟨e.y,(mem_yrs _ _ _).2 (by omega),mem_year.2 ⟨h1,rfl⟩⟩
  ·exact .inl ⟨e.pl,h1.pls,(mem_back h1.pls e).2 ⟨rfl,h2⟩⟩
theorem last_of {l:List Ru.R}{lo:Int}{e:E}(he:Ev l e)(h:e.y<lo):∃z,LastOf l lo z∧(e=z∨lessB e z=true):=by
 have key:∀(n:Nat) (y:Int),y.toNat≤n→(∃x,Ev l x∧x.pl=e.pl∧x.y<lo∧lo - y≤x.y)→∃z,LastOf l lo z∧z.pl=e.pl:=by
  intro n
  induction n with
  |zero=>
   rintro y hy ⟨x,_,_,h1,h2⟩;omega
  |succ n ih=>
   rintro y hy ⟨x,h1,h2,h3,h4⟩
   by_cases hx:∃w,Ev l w∧w.pl=e.pl∧w.y<lo∧x.y<w.y
   ·obtain⟨w,k1,k2,k3,k4⟩:=hx;exact ih (y - 1) (by omega) ⟨w,k1,k2,k3,by omega⟩
   ·refine⟨x,⟨h1,h3,fun z hz hp hlt=>?_⟩,h2⟩;rcases Int.lt_or_le x.y z.y with q|q
    ·exact absurd ⟨z,hz,by rw[hp,h2],hlt,q⟩ hx
    ·exact q
 obtain⟨z,hz,hp⟩:=key _ (lo - e.y) (Nat.le_refl _) ⟨e,he,rfl,h,by omega⟩;refine⟨z,hz,?_⟩;have hy:=hz.2.2 e he hp.symm h;rcases Int.lt_or_le e.y z.y with q|q
 ·exact .inr (he.same hz.1 hp.symm q)
 ·exact .inl (he.ext hz.1 hp.symm (by omega))
def tI (l:List Ru.R)(std:Int)(e:E):Int:=(Mo.ins e.n e.c std (before l e)).1
def ti (std:Int)(e:E):Int:=(Mo.ins e.n e.c std e.bf).1
theorem ins_ok {n c std save:Int}(hn:InT n)(hc:c<3)(h1:IsTime std)(h2:IsTime save):(Mo.ins n c std save).2=0∧n - 1209600≤(Mo.ins n c std save).1∧(Mo.ins n c std save).1≤n+1209600:=by
 unfold Mo.ins;unfold IsTime at h1 h2;rw[if_neg (by omega),if_pos ⟨hn,by unfold InT;omega,by unfold InT;omega⟩];refine⟨rfl,?_,?_⟩
 ·show _≤(if c=0 then n - save - std else if c=1 then n - std else n)
  split <;> (try split) <;> omega
 ·show (if c=0 then n - save - std else if c=1 then n - std else n)≤_
  split <;> (try split) <;> omega
theorem Ev.inT {l:List Ru.R}{e:E}(h:Ev l e):InT e.n∧e.c<3∧(1≤e.y∧e.y≤9999):=by
 have hb:=h.bd;obtain⟨r,h1,h2,h3⟩:=h;have h4:=nom_ok (holds_iff.1 h2).2.2;have hy:=(inS_ok h4.2.1).2.1;have a:=D_mono (show (1:Int)≤e.y by omega);have b:=D_mono (show e.y+1≤(10000:Int) by omega);have c:D 1=-719162:=by decide
 have d:D 10000=2932897:=by decide
 refine⟨by unfold InT;omega,?_,hy⟩;rw[h3];exact h4.1.2
theorem tI_bd {l:List Ru.R}{e:E}{std:Int}(hl:∀r∈l,IsTime r.sv)(hs:IsTime std)(h:Ev l e):
  (Mo.ins e.n e.c std (before l e)).2=0∧(D e.y - 27)*86400≤tI l std e∧tI l std e≤(D (e.y+1)+26)*86400:=by
 obtain⟨h1,h2,_⟩:=h.inT;have hb:=h.bd;obtain⟨k1,k2,k3⟩:=ins_ok h1 h2 hs (before_is hl h);unfold tI;exact⟨k1,by omega,by omega⟩
theorem of_last {l:List Ru.R}{lo hi std t:Int}(hl:∀r∈l,IsTime r.sv)(hs:IsTime std)(h1:D (lo+1)*86400≤t)(h2:t<D hi*86400):
  IsLast l (fun e=>tI l std e≤t) (lastP (isort (ofU l lo hi)) fun e=>decide (tI l std e≤t)):=by
 have hL:=lastP_is (l:=l) (R:=fun e=>(lo≤e.y∧e.y≤hi)∨LastOf l lo e) (srt_isort (ofU l lo hi)) (fun e=>by rw[mem_isort,mem_ofU]) (fun e=>decide (tI l std e≤t));have key:∀e,Ev l e→tI l std e≤t→∃z,Ev l z∧(((lo≤z.y∧z.y≤hi)∨LastOf l lo z)∧decide (tI l std z≤t)=true)∧(e=z∨lessB e z=true):=by
  intro e he ht;have hb:=(tI_bd hl hs he).2;have hhi:e.y≤hi:=by
   rcases Int.lt_or_le hi e.y with q|q
   ·have:=D_mono (show hi+1≤e.y by omega);have:=D_next hi;omega
   ·exact q
  rcases Int.lt_or_le e.y lo with q|q
  ·obtain⟨z,hz,hez⟩:=last_of he q;refine⟨z,hz.1,⟨.inr hz,?_⟩,hez⟩;have hb2:=(tI_bd hl hs hz.1).2;have:=D_mono (show z.y+1≤lo by have:=hz.2.1;omega);have:=D_next lo;rw[decide_eq_true_eq];omega
  ·exact⟨e,he,⟨.inl ⟨q,hhi⟩,decide_eq_true ht⟩,.inl rfl⟩
 cases hm:lastP (isort (ofU l lo hi)) fun e=>decide (tI l std e≤t) with
 |none=>
  rw[hm] at hL;intro e he ht;obtain⟨z,hz,hq,_⟩:=key e he ht;exact hL z hz hq
 |some m=>
  rw[hm] at hL;refine⟨hL.1,of_decide_eq_true hL.2.1.2,fun e he ht=>?_⟩;obtain⟨z,hz,hq,hez⟩:=key e he ht;rcases hL.2.2 z hz hq with q|q
  ·rw[← q];exact hez
  ·rcases hez with r|r
   ·rw[r];exact .inr q
   ·exact .inr (less_trans r q)
theorem lastP_map (x:List E)(g:E→E)(P:E→Bool):lastP (x.map g) P=(lastP x (fun e=>P (g e))).map g:=by
 unfold lastP;rw[List.filter_map,List.getLast?_map];rfl
theorem lastP_of (l:List Ru.R)(lo hi std t:Int):lastP (of l lo hi) (fun e=>decide (ti std e≤t))=(lastP (isort (ofU l lo hi)) fun e=>decide (tI l std e≤t)).map (tell l):=by
 unfold of;rw[lastP_map];rfl
end Oc
end Go.Proofs.YtjobhjemnmleaaaGreatDoor
namespace Go.Proofs.YtjobhjemnmleaaaGreatDoor
open Go Go.RowKit
open Go.RowKit
namespace Sc
end Sc
end Go.Proofs.YtjobhjemnmleaaaGreatDoor
namespace Go.Proofs.YtjobhjemnmleaaaGreatDoor
open Go.RowKit
namespace Dy
end Dy
namespace Mo
end Mo
end Go.Proofs.YtjobhjemnmleaaaGreatDoor
namespace Go.Proofs.YtjobhjemnmleaaaGreatDoor
open Go.RowKit
theorem At.grown {w w':World}{h g:Nat}{xs:List Value}(a:At w h xs)(hg:w.grownBy w' (some g))(hne:h≠g):At w' h xs:=
 ⟨Nat.lt_of_lt_of_le a.1 hg.size,fun i v hi=>⟨(hg.cell_far ⟨h,i,none⟩ a.1 (by intro e;injection e with e;exact hne e)).trans (a.2 i v hi).1,(hg.frozen_far ⟨h,i,none⟩ a.1 (by intro e;injection e with e;exact hne e)).trans (a.2 i v hi).2⟩⟩
namespace Ru
end Ru
end Go.Proofs.YtjobhjemnmleaaaGreatDoor
namespace Go.Proofs.YtjobhjemnmleaaaGreatDoor
open Go.RowKit
namespace Ru
end Ru
end Go.Proofs.YtjobhjemnmleaaaGreatDoor
namespace Go.Proofs.YtjobhjemnmleaaaGreatDoor
open Go.RowKit Go.Sort
namespace Ru
end Ru
theorem empty_no (s:ByteArray)(h:¬s=⟨#[]⟩):s.toList.isEmpty=false:=by
 rw[ByteArray.toList_eq];cases e:s.data.toList with
 |nil=>
  exfalso
  apply h;apply ByteArray.ext;apply Array.ext';rw[e]
 |cons a l=>rfl
end Go.Proofs.YtjobhjemnmleaaaGreatDoor
namespace Go.Proofs.YtjobhjemnmleaaaGreatDoor
open Go.RowKit
namespace Ab
def b0 : ByteArray:=⟨#[]⟩
def pS : ByteArray:=⟨#[37,115]⟩
def pZ : ByteArray:=⟨#[37,122]⟩
def pE : ByteArray:=⟨#[47]⟩
def ahd (f p:ByteArray):ByteArray:=⟨(Lib.cut f.data.toList p.data.toList).1.toArray⟩
def bhd (f p:ByteArray):ByteArray:=⟨(Lib.cut f.data.toList p.data.toList).2.1.toArray⟩
def has (f p:ByteArray):Bool:=(Lib.cut f.data.toList p.data.toList).2.2
def cutf (f:ByteArray):ByteArray × ByteArray × ByteArray × Bool:=
 if f.size<1∨32<f.size then (b0,b0,b0,false)
 else if has f pS=true then (ahd f pS,pS,bhd f pS,all [ahd f pS,bhd f pS])
 else if has f pZ=true then (ahd f pZ,pZ,bhd f pZ,all [ahd f pZ,bhd f pZ])
 else if has f pE=true then (ahd f pE,pE,bhd f pE,!decide (ahd f pE=b0) && (!decide (bhd f pE=b0) && all [ahd f pE,bhd f pE]))
 else (f,b0,b0,all [f])
def fmt (f:ByteArray):Bool:=(cutf f).2.2.2
end Ab
instance decU : DecidableEq Mo.U:=fun a b=>decidable_of_iff (a.y=b.y∧a.m=b.m∧a.k=b.k∧a.n=b.n∧a.d=b.d∧a.s=b.s∧a.c=b.c) (by cases a;cases b;simp)
namespace Er
structure E where
 std:Int
 k:Int
 sv:Int
 ru:ByteArray
 fm:ByteArray
 en:Bool
 u:Mo.U
instance decE : DecidableEq E:=fun a b=>decidable_of_iff (a.std=b.std∧a.k=b.k∧a.sv=b.sv∧a.ru=b.ru∧a.fm=b.fm∧a.en=b.en∧a.u=b.u) (by cases a;cases b;simp)
def E.v (e:E):Value:=.agg #[.int .i64 e.std,.int .u8 e.k,.int .i64 e.sv,.string e.ru,.string e.fm,.bool e.en,.int .i64 e.u.y,.int .i64 e.u.m,.int .u8 e.u.k,.int .i64 e.u.n,.int .i64 e.u.d,.int .i64 e.u.s,.int .u8 e.u.c]
def E.cells (e:E):List Value:=[.int .i64 e.std,.int .u8 e.k,.int .i64 e.sv,.string e.ru,.string e.fm,.bool e.en,.int .i64 e.u.y,.int .i64 e.u.m,.int .u8 e.u.k,.int .i64 e.u.n,.int .i64 e.u.d,.int .i64 e.u.s,.int .u8 e.u.c]
def E.zero : E:=⟨0,0,0,⟨#[]⟩,⟨#[]⟩,false,Mo.U.zero⟩
def E.Kind (e:E):Prop:=(e.k=0∧e.sv=0∧e.ru=⟨#[]⟩)∨(e.k=1∧IsTime e.sv∧e.ru=⟨#[]⟩)∨(e.k=2∧e.sv=0∧Ru.name (tl e.ru)=true)
def E.Ok (e:E):Prop:=IsTime e.std∧Ab.fmt e.fm=true∧e.Kind∧(e.en=true→e.u.Ok)∧(e.en=false→e.u=Mo.U.zero)
end Er
end Go.Proofs.YtjobhjemnmleaaaGreatDoor
namespace Go.Proofs.YtjobhjemnmleaaaGreatDoor
open Go.RowKit
structure Wa (w:World):Prop where
 a0:w.cell? ⟨1,0,none⟩=some (.string ⟨#[37,115]⟩)
 a1:w.cell? ⟨1,1,none⟩=some (.string ⟨#[37,122]⟩)
 maxl:∃m,w.cell? ⟨2,0,none⟩=some (.int .i64 m)
theorem Wa.below {w w':World}(h:Wa w)(hb:Below w.heap.size w w'):Wa w':=by
 obtain⟨m,hm⟩:=h.maxl;have hl:1<w.heap.size:=block_lt_of_cell h.a0;exact⟨(hb.cell (p:=⟨_,0,none⟩) hl).trans h.a0,(hb.cell (p:=⟨_,1,none⟩) hl).trans h.a1,⟨m,(hb.cell (p:=⟨_,0,none⟩) (block_lt_of_cell hm)).trans hm⟩⟩
theorem cut_is (f p:ByteArray)(w:World)(hW:Wa w)(hs:f.size≤1000000)(a b:ByteArray)(c:Bool)(ha:Ab.ahd f p=a)(hb:Ab.bhd f p=b)(hc:Ab.has f p=c):
  Calls Tryz.prog 201 #[.string f,.string p] w fun e w'=>e=.returned (.tuple #[.string a,.string b,.bool c])∧Drew w w':=by
 obtain⟨m,hm⟩:=hW.maxl;subst ha hb hc;exact Tryz.strings_Cut f p m w (by omega) hm
theorem cut_parts (f p:ByteArray):(Ab.ahd f p).size≤f.size∧(Ab.bhd f p).size≤f.size:=by
 have:=cut_len f.data.toList p.data.toList;have e:f.data.toList.length=f.size:=tl_length f;rw[e] at this;exact this
theorem reads_pair (w:World)(a b:ByteArray)(t:TypeId):Reads (w.alloc (.cells #[.string a,.string b] t)) (w.alloc (.cells #[.string a,.string b] t)).heap.size 1 (some ⟨w.heap.size,0,none⟩) 2 ([a,b].map Value.string):=reads_new w [a,b] t
theorem signs_two (a b:ByteArray)(w:World)(ha:a.size≤1000000)(hb:b.size≤1000000):
  Calls Tryz.prog 164 #[.slice (some ⟨w.heap.size,0,none⟩) 2 2] (w.alloc (.cells #[.string a,.string b] 9)) fun e w'=>e=.returned (.bool (Ab.all [a,b]))∧(w.alloc (.cells #[.string a,.string b] 9))=w':=
 signs_any _ 2 2 [a,b] _ (by decide) (reads_pair w a b _) (by intro t ht;simp at ht;rcases ht with rfl|rfl <;> assumption)
theorem signs_one (a:ByteArray)(w:World)(ha:a.size≤1000000):
  Calls Tryz.prog 164 #[.slice (some ⟨w.heap.size,0,none⟩) 1 1] (w.alloc (.cells #[.string a] 9)) fun e w'=>e=.returned (.bool (Ab.all [a]))∧(w.alloc (.cells #[.string a] 9))=w':=
 signs_any _ 1 1 [a] _ (by decide) (reads_one w a _) (by intro t ht;simp at ht;subst ht;exact ha)
def Ab.Ret (c:ByteArray × ByteArray × ByteArray × Bool)(w:World)(e:Ending)(w':World):Prop:=
 e=.returned (.tuple #[.string c.1,.string c.2.1,.string c.2.2.1,.bool c.2.2.2])∧Below w.heap.size w w'
def Ab.Rel (w:World)(K:Nat)(i:Value)(wr:World):Prop:=∃k:Nat,k≤K∧i=.int .i64 k∧Hid (Drew w wr)
theorem abbrCut_S (f:ByteArray)(w:World)(hW:Wa w)(h1:1≤f.size)(h32:f.size≤32)(hS:Ab.has f ⟨#[37,115]⟩=true):
  Calls Tryz.prog 170 #[.string f] w (Ab.Ret (Ab.ahd f ⟨#[37,115]⟩,⟨#[37,115]⟩,Ab.bhd f ⟨#[37,115]⟩,Ab.all [Ab.ahd f ⟨#[37,115]⟩,Ab.bhd f ⟨#[37,115]⟩]) w):=by
 have i0:∀W,(Instr.index 336 (.agg #[.string ⟨#[37,115]⟩,.string ⟨#[37,122]⟩]) (.int .i64 0)).run Tryz.prog W=.ok (.string ⟨#[37,115]⟩) W:=fun _=>by kernel_rfl
 have i1:∀W,(Instr.index 336 (.agg #[.string ⟨#[37,115]⟩,.string ⟨#[37,122]⟩]) (.int .i64 1)).run Tryz.prog W=.ok (.string ⟨#[37,122]⟩) W:=fun _=>by kernel_rfl
 have a0:=hW.a0;have a1:=hW.a1;have q1:¬(f.size:Int)<1:=by omega
 have q2:¬(32:Int)<(f.size:Int):=by omega
 have HW:=ak hW;obtain⟨aS,haS⟩:=aj (Ab.ahd f ⟨#[37,115]⟩)
 obtain⟨bS,hbS⟩:=aj (Ab.bhd f ⟨#[37,115]⟩)
 have sS:=cut_parts f ⟨#[37,115]⟩;rw[haS,hbS] at sS;have HCS:=ak fun W hw=>cut_is f ⟨#[37,115]⟩ W hw (by omega) aS bS true haS hbS hS
 clear hW;go_enter Tryz.func170,Tryz.ntmps170
 go_wp2;go_loopw [23] (Ab.Rel w 0) (fun i _=>2 - (intOf i).toNat)
 case atStart=>exact⟨0,by omega,rfl,Drew.refl w⟩
 case round=>
  obtain⟨k,hk,rfl,HD⟩:=hrel;have e0:=(HD.out.cell ⟨1,0,none⟩).trans a0;have e1:=(HD.out.cell ⟨1,1,none⟩).trans a1;have hkk:k=0:=by omega
  subst hkk
  ·skip
   go_wp2_with fail
   refine(HCS.out _ (HW.out.below (HD.out.below _))).mono ?_;rintro e w1 ⟨rfl,hd⟩;have HS:=ak fun W=>signs_two aS bS W (by omega) (by omega)
   go_wp2_with fail
   refine(HS.out _).mono ?_;rintro e w3 ⟨rfl,rfl⟩;go_wp2;refine bodyPost_ret (v:=.tuple #[.string aS,.string ⟨#[37,115]⟩,.string bS,.bool (Ab.all [aS,bS])]) (by simp[results,Tryz.results170,go_sem]) rfl ⟨?_,?_⟩
   ·rw[← haS,← hbS]
   ·exact((HD.out.trans hd).below _).alloc ((HD.out.trans hd).below w.heap.size).size _
theorem abbrCut_Z (f:ByteArray)(w:World)(hW:Wa w)(h1:1≤f.size)(h32:f.size≤32)(hS:Ab.has f ⟨#[37,115]⟩=false)(hZ:Ab.has f ⟨#[37,122]⟩=true):
  Calls Tryz.prog 170 #[.string f] w (Ab.Ret (Ab.ahd f ⟨#[37,122]⟩,⟨#[37,122]⟩,Ab.bhd f ⟨#[37,122]⟩,Ab.all [Ab.ahd f ⟨#[37,122]⟩,Ab.bhd f ⟨#[37,122]⟩]) w):=by
 have i0:∀W,(Instr.index 336 (.agg #[.string ⟨#[37,115]⟩,.string ⟨#[37,122]⟩]) (.int .i64 0)).run Tryz.prog W=.ok (.string ⟨#[37,115]⟩) W:=fun _=>by kernel_rfl
 have i1:∀W,(Instr.index 336 (.agg #[.string ⟨#[37,115]⟩,.string ⟨#[37,122]⟩]) (.int .i64 1)).run Tryz.prog W=.ok (.string ⟨#[37,122]⟩) W:=fun _=>by kernel_rfl
 have a0:=hW.a0;have a1:=hW.a1;have q1:¬(f.size:Int)<1:=by omega
 have q2:¬(32:Int)<(f.size:Int):=by omega
 have HW:=ak hW;obtain⟨aS,haS⟩:=aj (Ab.ahd f ⟨#[37,115]⟩)
 obtain⟨bS,hbS⟩:=aj (Ab.bhd f ⟨#[37,115]⟩)
 have sS:=cut_parts f ⟨#[37,115]⟩;rw[haS,hbS] at sS;have HCS:=ak fun W hw=>cut_is f ⟨#[37,115]⟩ W hw (by omega) aS bS false haS hbS hS
 obtain⟨aZ,haZ⟩:=aj (Ab.ahd f ⟨#[37,122]⟩)
 obtain⟨bZ,hbZ⟩:=aj (Ab.bhd f ⟨#[37,122]⟩)
 have sZ:=cut_parts f ⟨#[37,122]⟩;rw[haZ,hbZ] at sZ;have HCZ:=ak fun W hw=>cut_is f ⟨#[37,122]⟩ W hw (by omega) aZ bZ true haZ hbZ hZ
 clear hW;go_enter Tryz.func170,Tryz.ntmps170
 go_wp2;go_loopw [23] (Ab.Rel w 1) (fun i _=>2 - (intOf i).toNat)
 case atStart=>exact⟨0,by omega,rfl,Drew.refl w⟩
 case round=>
  obtain⟨k,hk,rfl,HD⟩:=hrel;have e0:=(HD.out.cell ⟨1,0,none⟩).trans a0;have e1:=(HD.out.cell ⟨1,1,none⟩).trans a1;have hkk:k=0∨k=1:=by omega
  rcases hkk with rfl|rfl
  ·skip
   go_wp2_with fail
   refine(HCS.out _ (HW.out.below (HD.out.below _))).mono ?_;rintro e w1 ⟨rfl,hd⟩;go_wp2;go_roundw
   case rel=>exact⟨1,by omega,rfl,HD.out.trans hd⟩
   case measure=>(first|(simp[intOf];done)|(simp[intOf];omega))
  ·skip
   go_wp2_with fail
   refine(HCZ.out _ (HW.out.below (HD.out.below _))).mono ?_;rintro e w1 ⟨rfl,hd⟩;have HS:=ak fun W=>signs_two aZ bZ W (by omega) (by omega)
   go_wp2_with fail
   refine(HS.out _).mono ?_;rintro e w3 ⟨rfl,rfl⟩;go_wp2;refine bodyPost_ret (v:=.tuple #[.string aZ,.string ⟨#[37,122]⟩,.string bZ,.bool (Ab.all [aZ,bZ])]) (by simp[results,Tryz.results170,go_sem]) rfl ⟨?_,?_⟩
   ·rw[← haZ,← hbZ]
   ·exact((HD.out.trans hd).below _).alloc ((HD.out.trans hd).below w.heap.size).size _
theorem abbrCut_E (f:ByteArray)(w:World)(hW:Wa w)(h1:1≤f.size)(h32:f.size≤32)(hS:Ab.has f ⟨#[37,115]⟩=false)(hZ:Ab.has f ⟨#[37,122]⟩=false)(hE:Ab.has f ⟨#[47]⟩=true):
  Calls Tryz.prog 170 #[.string f] w (Ab.Ret (Ab.ahd f ⟨#[47]⟩,⟨#[47]⟩,Ab.bhd f ⟨#[47]⟩,!decide (Ab.ahd f ⟨#[47]⟩=Ab.b0) && (!decide (Ab.bhd f ⟨#[47]⟩=Ab.b0) && Ab.all [Ab.ahd f ⟨#[47]⟩,Ab.bhd f ⟨#[47]⟩])) w):=by
 have i0:∀W,(Instr.index 336 (.agg #[.string ⟨#[37,115]⟩,.string ⟨#[37,122]⟩]) (.int .i64 0)).run Tryz.prog W=.ok (.string ⟨#[37,115]⟩) W:=fun _=>by kernel_rfl
 have i1:∀W,(Instr.index 336 (.agg #[.string ⟨#[37,115]⟩,.string ⟨#[37,122]⟩]) (.int .i64 1)).run Tryz.prog W=.ok (.string ⟨#[37,122]⟩) W:=fun _=>by kernel_rfl
 have a0:=hW.a0;have a1:=hW.a1;have q1:¬(f.size:Int)<1:=by omega
 have q2:¬(32:Int)<(f.size:Int):=by omega
 have HW:=ak hW;obtain⟨aS,haS⟩:=aj (Ab.ahd f ⟨#[37,115]⟩)
 obtain⟨bS,hbS⟩:=aj (Ab.bhd f ⟨#[37,115]⟩)
 have sS:=cut_parts f ⟨#[37,115]⟩;rw[haS,hbS] at sS;have HCS:=ak fun W hw=>cut_is f ⟨#[37,115]⟩ W hw (by omega) aS bS false haS hbS hS
 obtain⟨aZ,haZ⟩:=aj (Ab.ahd f ⟨#[37,122]⟩)
 obtain⟨bZ,hbZ⟩:=aj (Ab.bhd f ⟨#[37,122]⟩)
 have sZ:=cut_parts f ⟨#[37,122]⟩;rw[haZ,hbZ] at sZ;have HCZ:=ak fun W hw=>cut_is f ⟨#[37,122]⟩ W hw (by omega) aZ bZ false haZ hbZ hZ
 obtain⟨aE,haE⟩:=aj (Ab.ahd f ⟨#[47]⟩)
 obtain⟨bE,hbE⟩:=aj (Ab.bhd f ⟨#[47]⟩)
 have sE:=cut_parts f ⟨#[47]⟩;rw[haE,hbE] at sE;have HCE:=ak fun W hw=>cut_is f ⟨#[47]⟩ W hw (by omega) aE bE true haE hbE hE
 clear hW;go_enter Tryz.func170,Tryz.ntmps170
 go_wp2;go_loopw [23] (Ab.Rel w 2) (fun i _=>2 - (intOf i).toNat)
 case atStart=>exact⟨0,by omega,rfl,Drew.refl w⟩
 case round=>
  obtain⟨k,hk,rfl,HD⟩:=hrel;have e0:=(HD.out.cell ⟨1,0,none⟩).trans a0;have e1:=(HD.out.cell ⟨1,1,none⟩).trans a1;have hkk:k=0∨k=1∨k=2:=by omega
  rcases hkk with rfl|rfl|rfl
  ·skip
   go_wp2_with fail
   refine(HCS.out _ (HW.out.below (HD.out.below _))).mono ?_;rintro e w1 ⟨rfl,hd⟩;go_wp2;go_roundw
   case rel=>exact⟨1,by omega,rfl,HD.out.trans hd⟩
   case measure=>(first|(simp[intOf];done)|(simp[intOf];omega))
  ·skip
   go_wp2_with fail
   refine(HCZ.out _ (HW.out.below (HD.out.below _))).mono ?_;rintro e w1 ⟨rfl,hd⟩;go_wp2;go_roundw
   case rel=>exact⟨2,by omega,rfl,HD.out.trans hd⟩
   case measure=>(first|(simp[intOf];done)|(simp[intOf];omega))
  ·skip
   go_wp2_with fail
   refine(HCE.out _ (HW.out.below (HD.out.below _))).mono ?_;rintro e w1 ⟨rfl,hd⟩
   by_cases ea:aE=⟨#[]⟩
   ·have p1:aE.toList.isEmpty=true:=by rw[ea,ByteArray.toList_eq];rfl
    have Ea:=ak ea;clear ea;go_wp2;refine bodyPost_ret (v:=.tuple #[.string aE,.string ⟨#[47]⟩,.string bE,.bool false]) (by simp[results,Tryz.results170,go_sem]) rfl ⟨?_,?_⟩
    ·rw[haE,hbE,decide_eq_true (show aE=Ab.b0 from Ea.out)];rfl
    ·exact(HD.out.trans hd).below w.heap.size
   have p1:aE.toList.isEmpty=false:=empty_no aE ea;have Ea:=ak ea;clear ea
   by_cases eb:bE=⟨#[]⟩
   ·have p2:bE.toList.isEmpty=true:=by rw[eb,ByteArray.toList_eq];rfl
    have Eb:=ak eb;clear eb;go_wp2;refine bodyPost_ret (v:=.tuple #[.string aE,.string ⟨#[47]⟩,.string bE,.bool false]) (by simp[results,Tryz.results170,go_sem]) rfl ⟨?_,?_⟩
    ·rw[haE,hbE,decide_eq_false (show ¬aE=Ab.b0 from Ea.out),decide_eq_true (show bE=Ab.b0 from Eb.out)];rfl
    ·exact(HD.out.trans hd).below w.heap.size
   have p2:bE.toList.isEmpty=false:=empty_no bE eb;have Eb:=ak eb;clear eb;have HS:=ak fun W=>signs_two aE bE W (by omega) (by omega)
   go_wp2_with fail
   refine(HS.out _).mono ?_;rintro e w3 ⟨rfl,rfl⟩;go_wp2;refine bodyPost_ret (v:=.tuple #[.string aE,.string ⟨#[47]⟩,.string bE,.bool (Ab.all [aE,bE])]) (by simp[results,Tryz.results170,go_sem]) rfl ⟨?_,?_⟩
   ·rw[haE,hbE,decide_eq_false (show ¬aE=Ab.b0 from Ea.out),decide_eq_false (show ¬bE=Ab.b0 from Eb.out)];rfl
   ·exact((HD.out.trans hd).below w.heap.size).alloc ((HD.out.trans hd).below w.heap.size).size _
theorem abbrCut_N (f:ByteArray)(w:World)(hW:Wa w)(h1:1≤f.size)(h32:f.size≤32)(hS:Ab.has f ⟨#[37,115]⟩=false)(hZ:Ab.has f ⟨#[37,122]⟩=false)(hE:Ab.has f ⟨#[47]⟩=false):
  Calls Tryz.prog 170 #[.string f] w (Ab.Ret (f,Ab.b0,Ab.b0,Ab.all [f]) w):=by
 have i0:∀W,(Instr.index 336 (.agg #[.string ⟨#[37,115]⟩,.string ⟨#[37,122]⟩]) (.int .i64 0)).run Tryz.prog W=.ok (.string ⟨#[37,115]⟩) W:=fun _=>by kernel_rfl
 have i1:∀W,(Instr.index 336 (.agg #[.string ⟨#[37,115]⟩,.string ⟨#[37,122]⟩]) (.int .i64 1)).run Tryz.prog W=.ok (.string ⟨#[37,122]⟩) W:=fun _=>by kernel_rfl
 have a0:=hW.a0;have a1:=hW.a1;have q1:¬(f.size:Int)<1:=by omega
 have q2:¬(32:Int)<(f.size:Int):=by omega
 have HW:=ak hW;obtain⟨aS,haS⟩:=aj (Ab.ahd f ⟨#[37,115]⟩)
 obtain⟨bS,hbS⟩:=aj (Ab.bhd f ⟨#[37,115]⟩)
 have sS:=cut_parts f ⟨#[37,115]⟩;rw[haS,hbS] at sS;have HCS:=ak fun W hw=>cut_is f ⟨#[37,115]⟩ W hw (by omega) aS bS false haS hbS hS
 obtain⟨aZ,haZ⟩:=aj (Ab.ahd f ⟨#[37,122]⟩)
 obtain⟨bZ,hbZ⟩:=aj (Ab.bhd f ⟨#[37,122]⟩)
 have sZ:=cut_parts f ⟨#[37,122]⟩;rw[haZ,hbZ] at sZ;have HCZ:=ak fun W hw=>cut_is f ⟨#[37,122]⟩ W hw (by omega) aZ bZ false haZ hbZ hZ
 obtain⟨aE,haE⟩:=aj (Ab.ahd f ⟨#[47]⟩)
 obtain⟨bE,hbE⟩:=aj (Ab.bhd f ⟨#[47]⟩)
 have sE:=cut_parts f ⟨#[47]⟩;rw[haE,hbE] at sE;have HCE:=ak fun W hw=>cut_is f ⟨#[47]⟩ W hw (by omega) aE bE false haE hbE hE
 clear hW;go_enter Tryz.func170,Tryz.ntmps170
 go_wp2;go_loopw [23] (Ab.Rel w 2) (fun i _=>2 - (intOf i).toNat)
 case atStart=>exact⟨0,by omega,rfl,Drew.refl w⟩
 case round=>
  obtain⟨k,hk,rfl,HD⟩:=hrel;have e0:=(HD.out.cell ⟨1,0,none⟩).trans a0;have e1:=(HD.out.cell ⟨1,1,none⟩).trans a1;have hkk:k=0∨k=1∨k=2:=by omega
  rcases hkk with rfl|rfl|rfl
  ·skip
   go_wp2_with fail
   refine(HCS.out _ (HW.out.below (HD.out.below _))).mono ?_;rintro e w1 ⟨rfl,hd⟩;go_wp2;go_roundw
   case rel=>exact⟨1,by omega,rfl,HD.out.trans hd⟩
   case measure=>(first|(simp[intOf];done)|(simp[intOf];omega))
  ·skip
   go_wp2_with fail
   refine(HCZ.out _ (HW.out.below (HD.out.below _))).mono ?_;rintro e w1 ⟨rfl,hd⟩;go_wp2;go_roundw
   case rel=>exact⟨2,by omega,rfl,HD.out.trans hd⟩
   case measure=>(first|(simp[intOf];done)|(simp[intOf];omega))
  ·skip
   go_wp2_with fail
   refine(HCE.out _ (HW.out.below (HD.out.below _))).mono ?_;rintro e w1 ⟨rfl,hd⟩;have HS:=ak fun W=>signs_one f W (by omega)
   go_wp2_with fail
   refine(HS.out _).mono ?_;rintro e w3 ⟨rfl,rfl⟩;go_wp2;refine bodyPost_ret (v:=.tuple #[.string f,.string ⟨#[]⟩,.string ⟨#[]⟩,.bool (Ab.all [f])]) (by simp[results,Tryz.results170,go_sem]) rfl ⟨?_,?_⟩
   ·rfl
   ·exact((HD.out.trans hd).below w.heap.size).alloc ((HD.out.trans hd).below w.heap.size).size _
theorem abbrCut_any (f:ByteArray)(w:World)(hW:Wa w)(_hs:f.size≤maxLen):Calls Tryz.prog 170 #[.string f] w (Ab.Ret (Ab.cutf f) w):=by
 by_cases hb:f.size<1∨32<f.size
 ·have e:Ab.cutf f=(Ab.b0,Ab.b0,Ab.b0,false):=by unfold Ab.cutf;rw[if_pos hb]
  rw[e];clear e hW
  by_cases h1:f.size<1
  ·have q1:(f.size:Int)<1:=(by omega);go_enter Tryz.func170,Tryz.ntmps170
   go_wp2;refine bodyPost_ret (v:=.tuple #[.string ⟨#[]⟩,.string ⟨#[]⟩,.string ⟨#[]⟩,.bool false]) (by simp[results,Tryz.results170,go_sem]) rfl ⟨?_,?_⟩
   ·rfl
   ·exact Below.refl _ _
  ·have q1:¬(f.size:Int)<1:=(by omega);have q2:(32:Int)<(f.size:Int):=(by omega);go_enter Tryz.func170,Tryz.ntmps170
   go_wp2;refine bodyPost_ret (v:=.tuple #[.string ⟨#[]⟩,.string ⟨#[]⟩,.string ⟨#[]⟩,.bool false]) (by simp[results,Tryz.results170,go_sem]) rfl ⟨?_,?_⟩
   ·rfl
   ·exact Below.refl _ _
 ·have h1:1≤f.size:=by omega
  have h2:f.size≤32:=by omega
  unfold Ab.cutf;rw[if_neg hb];cases hS:Ab.has f Ab.pS
  ·rw[if_neg (by decide)];cases hZ:Ab.has f Ab.pZ
   ·rw[if_neg (by decide)];cases hE:Ab.has f Ab.pE
    ·rw[if_neg (by decide)];exact abbrCut_N f w hW h1 h2 hS hZ hE
    ·rw[if_pos rfl];exact abbrCut_E f w hW h1 h2 hS hZ hE
   ·rw[if_pos rfl];exact abbrCut_Z f w hW h1 h2 hS hZ
  ·rw[if_pos rfl];exact abbrCut_S f w hW h1 h2 hS
theorem abbrCheck_all (f:ByteArray)(w:World)(hW:Wa w)(hs:f.size≤maxLen)(b:Bool)(h:Ab.fmt f=b):
  Calls Tryz.prog 166 #[.string f] w fun e w'=>e=.returned (.int .i64 (if b=true then 0 else 2))∧Below w.heap.size w w':=by
 have HC:=ak (abbrCut_any f w hW hs);unfold Ab.fmt at h;obtain⟨a1,a2,a3,a4,e⟩:∃a b c d,Ab.cutf f=(a,b,c,d):=⟨_,_,_,_,rfl⟩
 rw[e] at HC h;unfold Ab.Ret at HC;simp only at HC h;subst h;clear e hW hs;cases a4
 ·go_enter Tryz.func166,Tryz.ntmps166
  go_wp2_with fail
  refine HC.out.mono ?_;rintro e w1 ⟨rfl,hb⟩;go_wp2;go_ret
  exact⟨rfl,hb⟩
 ·go_enter Tryz.func166,Tryz.ntmps166
  go_wp2_with fail
  refine HC.out.mono ?_;rintro e w1 ⟨rfl,hb⟩;go_wp2;go_ret
  exact⟨rfl,hb⟩
theorem name_all (s:ByteArray)(w:World)(hs:s.size≤maxLen):
  Calls Tryz.prog 92 #[.string s] w fun e w'=>e=.returned (.bool (Ru.name (tl s)))∧Below w.heap.size w w':=by
 by_cases hl:s.size≤1000000
 ·exact name_any s w hl
 ·unfold maxLen at hs;have HRs:=ak fun W=>calls_bool (rising3_any 1 (s.size:Int) 64 W) (show _=false by simp;omega)
  have HX:Hid (Ru.name (tl s)=false):=by
   show Ru.name (tl s)=false
   unfold Ru.name;rw[tl_length,decide_eq_false (by omega),Bool.false_and]
  go_enter Tryz.func92,Tryz.ntmps92
  go_wp2_with fail
  refine(HRs.out _).mono ?_;rintro e w1 ⟨rfl,hb⟩;go_wp2;go_ret
  exact⟨ret_bool (by rw[HX.out]),hb⟩
end Go.Proofs.YtjobhjemnmleaaaGreatDoor
