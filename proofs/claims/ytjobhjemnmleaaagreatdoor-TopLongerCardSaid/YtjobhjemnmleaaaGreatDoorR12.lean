/- Records in plain words: how one sets clocks in a year; the record of a year's spans, and why there is none. -/
import Derived.Test.YtjobhjemnmleaaaGreatDoorR11
import Derived.Sort.Grow
import Derived.Maps.OwnSet
import Derived.Deep.CutBlock
import Derived.RangeFuncOwn
set_option maxRecDepth 100000
set_option maxHeartbeats 4000000
namespace Go.Proofs.YtjobhjemnmleaaaGreatDoor
open Go.RowKit
namespace Rc
structure R where
 b:Int
 sb:Int
 db:Int
 std:Sm.S
 dst:Sm.S
def R.zero : R:=⟨0,0,0,Sm.S.zero,Sm.S.zero⟩
instance decR : DecidableEq R:=fun a b=>decidable_of_iff (a.b=b.b∧a.sb=b.sb∧a.db=b.db∧a.std=b.std∧a.dst=b.dst) (by cases a;cases b;simp)
structure I (r:R):Prop where
 b:-2147483648≤r.b∧r.b≤2147483647
 sb:-2147483648≤r.sb∧r.sb≤2147483647
 db:-2147483648≤r.db∧r.db≤2147483647
 std:Sm.U r.std
 dst:Sm.U r.dst
def so (r:R):Int:=-60*(r.b+r.sb)
def dof (r:R):Int:=-60*(r.b+r.db)
structure Ok (r:R):Prop where
 z:r.std=Sm.S.zero↔r.dst=Sm.S.zero
 s:Sm.right r.std=true
 d:Sm.right r.dst=true
 so:-86400≤so r∧so r≤86400
 dof:-86400≤dof r∧dof r≤86400
instance decOk (r:R):Decidable (Ok r):=decidable_of_iff ((r.std=Sm.S.zero↔r.dst=Sm.S.zero)∧Sm.right r.std=true∧Sm.right r.dst=true∧(-86400≤so r∧so r≤86400)∧(-86400≤dof r∧dof r≤86400))
 ⟨fun h=>⟨h.1,h.2.1,h.2.2.1,h.2.2.2.1,h.2.2.2.2⟩,fun h=>⟨h.z,h.s,h.d,h.so,h.dof⟩⟩
def never : Int:=4611686018427387904
def sec (s:Sm.S)(y off:Int):Int:=if Sm.no s y=0 then (Sm.loc s y+999) / 1000 - off else never
def toS (r:R)(y:Int):Int:=sec r.dst y (so r)
def toT (r:R)(y:Int):Int:=sec r.std y (dof r)
def summer (a b t:Int):Bool:=(decide (a<b) && (decide (a≤t) && decide (t<b))) || (decide (b<a) && (decide (t<b) || decide (a≤t)))
def st (x z a b t:Int):Int × Bool:=if summer a b t=true then (z,true) else (x,false)
def turn (x z a b fr te t:Int)(p:List Ln.Sp × (Int × Bool)):List Ln.Sp × (Int × Bool):=
 if t≤fr∨te≤t then p else if st x z a b t=p.2 then p else (p.1 ++ [⟨t,(st x z a b t).1,(st x z a b t).2⟩],st x z a b t)
def spansI (x z a b fr te:Int):List Ln.Sp:=(turn x z a b fr te (max a b) (turn x z a b fr te (min a b) ([⟨fr,(st x z a b fr).1,(st x z a b fr).2⟩],st x z a b fr))).1
def spans (r:R)(y:Int):List Ln.Sp:=spansI (so r) (dof r) (toS r y) (toT r y) (Oc.D y*86400) (Oc.D (y+1)*86400)
def shiftAt (l:List Ln.Sp)(i:Nat):Bool:=(l.take i).any fun q=>decide ((l.getD i ⟨0,0,false⟩).dst=q.dst) && decide ((l.getD i ⟨0,0,false⟩).off≠q.off)
def shift (l:List Ln.Sp):Bool:=(List.range l.length).any fun i=>shiftAt l i
def dateAt (l:List Ln.Sp)(fr te:Int)(i:Nat):Bool:=decide ((l.getD (i+1) ⟨0,0,false⟩).fr+(l.getD i ⟨0,0,false⟩).off<fr) || decide (te<(l.getD (i+1) ⟨0,0,false⟩).fr+(l.getD i ⟨0,0,false⟩).off)
def date (l:List Ln.Sp)(fr te:Int):Bool:=(List.range (l.length - 1)).any fun i=>dateAt l fr te i
def why (l:List Ln.Sp)(fr te:Int):Int:=
 if l.any (fun p=>decide (p.off % 60≠0))=true then 1
 else if l.any (fun p=>decide (p.off < -86400) || decide (86400<p.off))=true then 2
 else if 3<l.length then 3
 else if shift l=true then 4
 else if date l fr te=true then 5 else 0
def offOf (d:Bool)(l:List Ln.Sp):Int:=l.foldl (fun a p=>if p.dst=d then p.off else a) 0
def first (y:Int):Sm.S:=Sm.ofClock (Oc.D y*86400)
def last (y:Int):Sm.S:={ Sm.ofClock (Oc.D (y+1)*86400 - 1) with ms:=999 }
def stampAt (y c:Int):Sm.S:=if c=Oc.D (y+1)*86400 then last y else Sm.ofClock c
def puts (y:Int):Ln.Sp→List Ln.Sp→Sm.S × Sm.S→Sm.S × Sm.S
 |_,[],x=>x
 |p,q :: l,x=>puts y q l (if q.dst=true then (x.1,stampAt y (q.fr+p.off)) else (stampAt y (q.fr+p.off),x.2))
def begun (l:List Ln.Sp)(y:Int):Sm.S × Sm.S:=(if 0<offOf true l then first y else last y,if 0≤offOf false l then first y else last y)
def ats (l:List Ln.Sp)(y:Int):Sm.S × Sm.S:=match l with
 |[]=>begun l y
 |p :: q=>puts y p q (begun l y)
def make (x z:Int)(a b:Sm.S):R:=⟨-x / 60,0,(x - z) / 60,a,b⟩
def plain (x:Int):R:=⟨-x / 60,0,0,Sm.S.zero,Sm.S.zero⟩
def fitted (l:List Ln.Sp)(y:Int):R:=
 if l.length=1∧(l.getD 0 ⟨0,0,false⟩).dst=false then plain (l.getD 0 ⟨0,0,false⟩).off else make (offOf false l) (offOf true l) (ats l y).1 (ats l y).2
theorem sec_clock {y c off:Int}(hy:1601≤y∧y≤9999)(h1:Oc.D y*86400≤c)(h2:c<Oc.D (y+1)*86400):sec (Sm.ofClock c) y off=c - off:=by
 obtain⟨hu,hf,hl⟩:=Sm.ofClock_fine hy h1 h2;unfold sec;rw[if_pos (Sm.no_iff.2 ⟨hf,.inl rfl⟩),hl];omega
theorem year_pos (y:Int):Oc.D y*86400<Oc.D (y+1)*86400:=by
 rcases Oc.D_next y with h|h <;> omega
theorem last_fine {y:Int}(hy:1601≤y∧y≤9999):Sm.U (last y)∧Sm.Fine (last y)∧Sm.loc (last y) y=Oc.D (y+1)*86400*1000 - 1:=by
 have hp:=year_pos y;have hn:=Oc.D_next y;obtain⟨hu,hf,hl⟩:=Sm.ofClock_fine hy (c:=Oc.D (y+1)*86400 - 1) (by omega) (by omega);refine⟨⟨hu.y,hu.mo,hu.dw,hu.d,hu.h,hu.mi,hu.ss,by unfold last;simp⟩,⟨hf.m1,hf.m2,hf.w2,hf.h2,hf.i2,hf.s2,by unfold last;simp,hf.d1,hf.y,hf.d2⟩,?_⟩;have e:Sm.loc (last y) y=Sm.loc (Sm.ofClock (Oc.D (y+1)*86400 - 1)) y+999:=by
  unfold last Sm.loc Sm.day Sm.ofClock;simp only;omega
 rw[e,hl];omega
theorem sec_last {y off:Int}(hy:1601≤y∧y≤9999):sec (last y) y off=Oc.D (y+1)*86400 - off:=by
 obtain⟨hu,hf,hl⟩:=last_fine hy;unfold sec;rw[if_pos (Sm.no_iff.2 ⟨hf,.inl rfl⟩),hl];omega
theorem first_fine {y:Int}(hy:1601≤y∧y≤9999):Sm.U (first y)∧Sm.Fine (first y):=by
 obtain⟨hu,hf,_⟩:=Sm.ofClock_fine hy (Int.le_refl _) (year_pos y);exact⟨hu,hf⟩
theorem sec_first {y off:Int}(hy:1601≤y∧y≤9999):sec (first y) y off=Oc.D y*86400 - off:=sec_clock hy (Int.le_refl _) (year_pos y)
theorem at_fine {y c:Int}(hy:1601≤y∧y≤9999)(h1:Oc.D y*86400≤c)(h2:c≤Oc.D (y+1)*86400):Sm.U (stampAt y c)∧Sm.Fine (stampAt y c):=by
 unfold stampAt;split
 ·obtain⟨hu,hf,_⟩:=last_fine hy;exact⟨hu,hf⟩
 ·obtain⟨hu,hf,_⟩:=Sm.ofClock_fine hy h1 (by omega);exact⟨hu,hf⟩
theorem sec_at {y c off:Int}(hy:1601≤y∧y≤9999)(h1:Oc.D y*86400≤c)(h2:c≤Oc.D (y+1)*86400):sec (stampAt y c) y off=c - off:=by
 unfold stampAt;split
 ·rename_i h
  rw[sec_last hy,h]
 ·exact sec_clock hy h1 (by omega)
theorem yes {a b t:Int}(h:(a<b∧a≤t∧t<b)∨(b<a∧(t<b∨a≤t))):summer a b t=true:=by
 unfold summer;simpa using h
theorem nope {a b t:Int}(h:¬((a<b∧a≤t∧t<b)∨(b<a∧(t<b∨a≤t)))):summer a b t=false:=by
 rw[← Bool.not_eq_true];intro hh;unfold summer at hh;exact h (by simpa using hh)
theorem st_yes {x z a b t:Int}(h:(a<b∧a≤t∧t<b)∨(b<a∧(t<b∨a≤t))):st x z a b t=(z,true):=by unfold st;rw[if_pos (yes h)]
theorem st_no {x z a b t:Int}(h:¬((a<b∧a≤t∧t<b)∨(b<a∧(t<b∨a≤t)))):st x z a b t=(x,false):=by unfold st;rw[if_neg (by rw[nope h];decide)]
theorem turn_out {x z a b fr te t:Int}{p:List Ln.Sp × (Int × Bool)}(h:t≤fr∨te≤t):turn x z a b fr te t p=p:=by unfold turn;rw[if_pos h]
theorem turn_same {x z a b fr te t:Int}{p:List Ln.Sp × (Int × Bool)}(h:st x z a b t=p.2):turn x z a b fr te t p=p:=by
 unfold turn
 by_cases q:t≤fr∨te≤t
 ·rw[if_pos q]
 ·rw[if_neg q,if_pos h]
theorem turn_new {x z a b fr te t:Int}{p:List Ln.Sp × (Int × Bool)}(h:¬(t≤fr∨te≤t))(h2:st x z a b t≠p.2):turn x z a b fr te t p=(p.1 ++ [⟨t,(st x z a b t).1,(st x z a b t).2⟩],st x z a b t):=by unfold turn;rw[if_neg h,if_neg h2]
theorem one_std {x z a fr te:Int}:spansI x z a a fr te=[⟨fr,x,false⟩]:=by
 have h (t:Int):st x z a a t=(x,false):=st_no (by omega);unfold spansI;rw[turn_same (t:=min a a) (by rw[h,h]),turn_same (t:=max a a) (by rw[h,h]),h]
theorem one_dst {x z a b fr te:Int}(hft:fr<te)(h:(a≤fr∧te≤b)∨(b<a∧a≤fr)):spansI x z a b fr te=[⟨fr,z,true⟩]:=by
 unfold spansI;rw[turn_out (t:=min a b) (by omega),turn_out (t:=max a b) (by omega),st_yes (by omega)]
theorem to_dst {x z a b fr te:Int}(h1:fr<a)(h2:a<te)(h:b≤fr∨te≤b):spansI x z a b fr te=[⟨fr,x,false⟩,⟨a,z,true⟩]:=by
 have e1:st x z a b fr=(x,false):=st_no (by omega);have e2:st x z a b a=(z,true):=st_yes (by omega);unfold spansI;rcases h with h|h
 ·rw[show min a b=b by omega,show max a b=a by omega,turn_out (t:=b) (by omega),turn_new (t:=a) (by omega) (by rw[e1,e2];simp),e1,e2];rfl
 ·rw[show min a b=a by omega,show max a b=b by omega,turn_out (t:=b) (by omega),turn_new (t:=a) (by omega) (by rw[e1,e2];simp),e1,e2];rfl
theorem to_std {x z a b fr te:Int}(h1:fr<b)(h2:b<te)(h:a≤fr∨te≤a):spansI x z a b fr te=[⟨fr,z,true⟩,⟨b,x,false⟩]:=by
 have e1:st x z a b fr=(z,true):=st_yes (by omega);have e2:st x z a b b=(x,false):=st_no (by omega);unfold spansI;rcases h with h|h
 ·rw[show min a b=a by omega,show max a b=b by omega,turn_out (t:=a) (by omega),turn_new (t:=b) (by omega) (by rw[e1,e2];simp),e1,e2];rfl
 ·rw[show min a b=b by omega,show max a b=a by omega,turn_out (t:=a) (by omega),turn_new (t:=b) (by omega) (by rw[e1,e2];simp),e1,e2];rfl
theorem both_dst {x z a b fr te:Int}(h1:fr<a)(h2:a<b)(h3:b<te):spansI x z a b fr te=[⟨fr,x,false⟩,⟨a,z,true⟩,⟨b,x,false⟩]:=by
 have e1:st x z a b fr=(x,false):=st_no (by omega);have e2:st x z a b a=(z,true):=st_yes (by omega);have e3:st x z a b b=(x,false):=st_no (by omega);unfold spansI;rw[show min a b=a by omega,show max a b=b by omega,turn_new (t:=a) (by omega) (by rw[e1,e2];simp),turn_new (t:=b) (by omega) (by rw[e2,e3];simp),e1,e2,e3];rfl
theorem both_std {x z a b fr te:Int}(h1:fr<b)(h2:b<a)(h3:a<te):spansI x z a b fr te=[⟨fr,z,true⟩,⟨b,x,false⟩,⟨a,z,true⟩]:=by
 have e1:st x z a b fr=(z,true):=st_yes (by omega);have e2:st x z a b b=(x,false):=st_no (by omega);have e3:st x z a b a=(z,true):=st_yes (by omega);unfold spansI;rw[show min a b=b by omega,show max a b=a by omega,turn_new (t:=b) (by omega) (by rw[e1,e2];simp),turn_new (t:=a) (by omega) (by rw[e2,e3];simp),e1,e2,e3];rfl
theorem spans_are (x z a b fr te:Int):spansI x z a b fr te=[⟨fr,x,false⟩]∨spansI x z a b fr te=[⟨fr,z,true⟩]
  ∨ (fr<a∧a<te∧spansI x z a b fr te=[⟨fr,x,false⟩,⟨a,z,true⟩])∨(fr<b∧b<te∧spansI x z a b fr te=[⟨fr,z,true⟩,⟨b,x,false⟩])
  ∨ (fr<a∧a<b∧b<te∧spansI x z a b fr te=[⟨fr,x,false⟩,⟨a,z,true⟩,⟨b,x,false⟩])
  ∨ (fr<b∧b<a∧a<te∧spansI x z a b fr te=[⟨fr,z,true⟩,⟨b,x,false⟩,⟨a,z,true⟩]):=by
 by_cases hab:a=b
 ·subst hab;exact .inl one_std
 by_cases ha:fr<a∧a<te
 ·by_cases hb:fr<b∧b<te
  ·by_cases hlt:a<b
   ·exact .inr (.inr (.inr (.inr (.inl ⟨ha.1,hlt,hb.2,both_dst ha.1 hlt hb.2⟩))))
   ·exact .inr (.inr (.inr (.inr (.inr ⟨hb.1,by omega,ha.2,both_std hb.1 (by omega) ha.2⟩))))
  ·exact .inr (.inr (.inl ⟨ha.1,ha.2,to_dst ha.1 ha.2 (by omega)⟩))
 ·by_cases hb:fr<b∧b<te
  ·exact .inr (.inr (.inr (.inl ⟨hb.1,hb.2,to_std hb.1 hb.2 (by omega)⟩)))
  ·have e:spansI x z a b fr te=[⟨fr,(st x z a b fr).1,(st x z a b fr).2⟩]:=by
    unfold spansI;rw[turn_out (t:=min a b) (by omega),turn_out (t:=max a b) (by omega)]
   unfold st at e;split at e
   ·exact .inr (.inl e)
   ·exact .inl e
end Rc
end Go.Proofs.YtjobhjemnmleaaaGreatDoor
namespace Go.Proofs.YtjobhjemnmleaaaGreatDoor
open Go.RowKit
namespace Ln
def begin_ (y:Int):Int × Int:=if 1≤y∧y≤10000 then (Oc.D y*86400,0) else (0,1)
theorem d_bd {y:Int}(h1:1≤y)(h2:y≤10000):-719162≤Oc.D y∧Oc.D y≤2932897:=by
 have a:=Oc.D_mono h1;have b:=Oc.D_mono h2;have c:Oc.D 1=-719162:=by decide
 have d:Oc.D 10000=2932897:=by decide
 omega
theorem inGo_cons (std fr:Int)(o:Oc.E)(x:List Oc.E)(te:Int):inGo std fr (o :: x) te=if te≤Oc.ti std o then inGo std fr x te else if Oc.ti std o≤fr then [piece fr std o.sv] else piece (Oc.ti std o) std o.sv :: inGo std fr x (Oc.ti std o):=rfl
theorem inGo_len (std fr:Int):∀(x:List Oc.E) (te:Int),(inGo std fr x te).length≤x.length+1
 |[],te=>by simp[inGo]
 |o :: x,te=>by
  have h1:=inGo_len std fr x te;have h2:=inGo_len std fr x (Oc.ti std o);unfold inGo;split
  ·simp only[List.length_cons];omega
  ·split
   ·simp
   ·simp only[List.length_cons];omega
end Ln
theorem lnBegin_any (y:Int)(w:World):
  Calls Tryz.prog 15 #[.int .i64 y] w fun e w'=>e=.returned (.tuple #[.int .i64 (Ln.begin_ y).1,.int .i64 (Ln.begin_ y).2])∧w=w':=by
 by_cases h:1≤y∧y≤10000
 ·have hb:=Ln.d_bd h.1 h.2;have HF:=ak fun W=>first_ok y W h.1 h.2
  have e:Ln.begin_ y=(Oc.D y*86400,0):=by unfold Ln.begin_;rw[if_pos h]
  rw[e];unfold Oc.D at hb ⊢;obtain⟨n,hn⟩:=aj (Cv.num y 1 1)
  rw[hn] at HF hb ⊢;clear h e hn;go_enter Tryz.func15,Tryz.ntmps15
  go_wp2_with fail
  refine(HF.out _).mono ?_;rintro e w1 ⟨rfl,rfl⟩;go_wp2;go_ret2
  exact⟨rfl,rfl⟩
 ·have HF:=ak fun W=>first_bad y W (by omega)
  have e:Ln.begin_ y=(0,1):=by unfold Ln.begin_;rw[if_neg h]
  rw[e];clear h e;go_enter Tryz.func15,Tryz.ntmps15
  go_wp2_with fail
  refine(HF.out _).mono ?_;rintro e w1 ⟨rfl,rfl⟩;go_wp2;go_ret2
  exact⟨rfl,rfl⟩
theorem lnYear_any (t:Int)(w:World)(hd:Ln.InDays t):
  Calls Tryz.prog 187 #[.int .i64 t] w fun e w'=>e=.returned (.int .i64 (Ln.yr t))∧Below w.heap.size w w':=by
 unfold Ln.InDays at hd;have HO:=ak fun W=>of_ok (t / 86400) W hd.1 hd.2
 unfold Ln.yr;have hy:=year_in (t / 86400) hd.1 hd.2;obtain⟨Y,hY⟩:=aj (Cv.yearOf (t / 86400))
 obtain⟨mm,hmm⟩:=aj (Cv.monthOf (t / 86400))
 obtain⟨dd,hdd⟩:=aj (Cv.dayOf (t / 86400))
 rw[hY,hmm,hdd] at HO;rw[hY] at hy ⊢;obtain⟨hd1,hd2⟩:=hd;clear hY hmm hdd hy
 by_cases hp:0≤t
 ·have e1:t.tdiv 86400=t / 86400:=Int.tdiv_eq_ediv_of_nonneg hp;have e2:t.tmod 86400=t % 86400:=Int.tmod_eq_emod_of_nonneg hp;have hn:¬(t % 86400<0):=by omega
  obtain⟨q,hq⟩:=aj (t / 86400)
  obtain⟨r,hr⟩:=aj (t % 86400)
  have t1:-62135596800≤t:=by omega
  have t2:t≤253402300800:=by omega
  rw[hq] at e1 HO hd1 hd2;rw[hr] at e2 hn;have r1:0≤r∧r<86400:=by omega
  clear hq hr hp;go_enter Tryz.func187,Tryz.ntmps187
  go_wp2_with fail
  refine(HO.out _).mono ?_;rintro e w1 ⟨rfl,hb⟩;have HB:=ak (hb.alloc hb.size (.cells #[.int .i64 Y,.int .i64 mm,.int .i64 dd] 174));clear hb;go_wp2;go_ret
  exact⟨rfl,HB.out⟩
 ·obtain⟨u,rfl⟩:∃u,t=-u:=⟨-t,by omega⟩
  have e1:(-u).tdiv 86400=-(u / 86400):=by rw[Int.neg_tdiv,Int.tdiv_eq_ediv_of_nonneg (by omega)]
  have e2:(-u).tmod 86400=-(u % 86400):=by rw[Int.neg_tmod,Int.tmod_eq_emod_of_nonneg (by omega)]
  obtain⟨r,hr⟩:=aj (u % 86400)
  obtain⟨q,hq⟩:=aj (u / 86400)
  rw[hq] at e1;rw[hr] at e2
  by_cases hz:r=0
  ·have hneg:¬(-r<0):=(by omega);have eq:(-u) / 86400=-q:=(by omega);rw[eq] at HO;have b1:0≤q:=(by omega);have b2:q≤719162:=(by omega);have b3:u≤62135596800:=(by omega);have b4:0<u:=(by omega);have HZ:=ak hz;clear hr hq hz hd1 hd2 hp eq;go_enter Tryz.func187,Tryz.ntmps187
   go_wp2_with fail
   refine(HO.out _).mono ?_;rintro e w1 ⟨rfl,hb⟩;have HB:=ak (hb.alloc hb.size (.cells #[.int .i64 Y,.int .i64 mm,.int .i64 dd] 174));clear hb;go_wp2;go_ret
   exact⟨rfl,HB.out⟩
  ·have hneg:-r<0:=(by omega);have eq:(-u) / 86400=-q - 1:=(by omega);rw[eq] at HO;have b1:0≤q:=(by omega);have b2:q≤719162:=(by omega);have b3:u≤62135596800:=(by omega);have b4:0<u:=(by omega);have HZ:=ak hz;clear hr hq hz hd1 hd2 hp eq;go_enter Tryz.func187,Tryz.ntmps187
   go_wp2_with fail
   refine(HO.out _).mono ?_;rintro e w1 ⟨rfl,hb⟩;have HB:=ak (hb.alloc hb.size (.cells #[.int .i64 Y,.int .i64 mm,.int .i64 dd] 174));clear hb;go_wp2;go_ret
   exact⟨rfl,HB.out⟩
theorem lnPiece_any (t std sv:Int)(w:World)(h1:IsTime std)(h2:IsTime sv):
  Calls Tryz.prog 186 #[.int .i64 t,.int .i64 std,.int .i64 sv] w fun e w'=>e=.returned (Ln.piece t std sv).v∧Below w.heap.size w w':=by
 unfold IsTime at h1 h2;have hw:wrap64 (std+sv)=std+sv:=by unfold wrap64;omega
 have hd:(sv != 0)=decide (sv≠0):=by
  rw[Bool.eq_iff_iff,bne_iff_ne,decide_eq_true_eq]
 unfold Ln.piece Ln.Sp.v;simp only;rw[← hd];obtain⟨b,hb⟩:=aj ((sv != 0))
 have hb9:=hb;rw[hb];clear hd;go_enter Tryz.func186,Tryz.ntmps186
 go_wp2;exact bodyPost_ret (v:=.agg #[.int .i64 t,.int .i64 (std+sv),.bool b]) (by simp[results,Tryz.results186,go_sem]) rfl ⟨rfl,(Below.refl w.heap.size w).alloc (Nat.le_refl _) _⟩
end Go.Proofs.YtjobhjemnmleaaaGreatDoor
namespace Go.Proofs.YtjobhjemnmleaaaGreatDoor
open Go.RowKit
theorem cmpI64_any (x y:Int)(w:World):
  Calls Tryz.prog 210 #[.int .i64 x,.int .i64 y] w fun e w'=>e=.returned (.int .i64 (Lib.compareInt x y))∧w=w':=by
 have n:∀z:Int,∀w,Calls Tryz.prog 223 #[.int .i64 z] w fun e w'=>e=.returned (.bool false)∧w=w':=fun z w=>by
  go_enter Tryz.func223,Tryz.ntmps223
  go_wp2;go_ret
  exact⟨rfl,rfl⟩
 unfold Lib.compareInt
 by_cases h1:x<y
 ·rw[if_pos h1];go_enter Tryz.func210,Tryz.ntmps210
  go_wp2_with (go_at_call 223;refine(n _ _).mono ?_;rintro e w' ⟨rfl,rfl⟩)
  go_ret
  exact⟨rfl,rfl⟩
 ·rw[if_neg h1]
  by_cases h2:x > y
  ·rw[if_pos h2];have h3:y<x:=h2;go_enter Tryz.func210,Tryz.ntmps210
   go_wp2_with (go_at_call 223;refine(n _ _).mono ?_;rintro e w' ⟨rfl,rfl⟩)
   go_ret
   exact⟨rfl,rfl⟩
  ·rw[if_neg h2];have h3:¬y<x:=h2;go_enter Tryz.func210,Tryz.ntmps210
   go_wp2_with (go_at_call 223;refine(n _ _).mono ?_;rintro e w' ⟨rfl,rfl⟩)
   go_ret
   exact⟨rfl,rfl⟩
def Oc.or2 (a b:Int):Int:=if a=0 then b else a
theorem cmpOr2_any (a b:Int)(g:Nat)(w:World)(c0:w.cell? ⟨g,0,none⟩=some (.int .i64 a))(c1:w.cell? ⟨g,1,none⟩=some (.int .i64 b)):
  Calls Tryz.prog 209 #[.slice (some ⟨g,0,none⟩) 2 2] w fun e w'=>e=.returned (.int .i64 (Oc.or2 a b))∧w=w':=by
 unfold Oc.or2
 by_cases h:a=0
 ·rw[if_pos h];subst h
  by_cases h2:b=0
  ·subst h2;go_enter Tryz.func209,Tryz.ntmps209
   go_wp2;go_loopw [8] (fun i wr=>wr=w∧(i=.int .i64 0∨i=.int .i64 1∨i=.int .i64 2)) (fun i _=>2 - (intOf i).toNat)
   case atStart=>exact⟨rfl,.inl rfl⟩
   case round=>
    obtain⟨e9,rfl|rfl|rfl⟩:=hrel
    ·subst e9;go_wp2;go_roundw
     case rel=>exact⟨trivial,.inr (.inl (by go_num))⟩
     case measure=>simp[intOf]
    ·subst e9;go_wp2;go_roundw
     case rel=>exact⟨trivial,.inr (.inr (by go_num))⟩
     case measure=>simp[intOf]
    ·subst e9;go_wp2;go_ret
     exact⟨rfl,rfl⟩
  ·have q:(b != 0)=true:=by simpa using h2
   go_enter Tryz.func209,Tryz.ntmps209
   go_wp2;go_loopw [8] (fun i wr=>wr=w∧(i=.int .i64 0∨i=.int .i64 1)) (fun i _=>2 - (intOf i).toNat)
   case atStart=>exact⟨rfl,.inl rfl⟩
   case round=>
    obtain⟨e9,rfl|rfl⟩:=hrel
    ·subst e9;go_wp2;go_roundw
     case rel=>exact⟨trivial,.inr (by go_num)⟩
     case measure=>simp[intOf]
    ·subst e9;go_wp2;go_ret
     exact⟨rfl,rfl⟩
 ·rw[if_neg h];have q:(a != 0)=true:=by simpa using h
  go_enter Tryz.func209,Tryz.ntmps209
  go_wp2;go_loopw [8] (fun i wr=>wr=w∧i=.int .i64 0) (fun _ _=>0)
  case atStart=>exact⟨rfl,rfl⟩
  case round=>
   obtain⟨e9,rfl⟩:=hrel;subst e9;go_wp2;go_ret
   exact⟨rfl,rfl⟩
def Oc.Grew (w w':World):Prop:=∃q os,w'=Go.Sort.grow (w.drewN q) os
namespace Oc
theorem Grew.refl (w:World):Grew w w:=⟨0,#[],by simp[World.drewN]⟩
theorem Grew.alloc {w w':World}(h:Grew w w')(o:Obj):Grew w (w'.alloc o):=by
 obtain⟨q,os,rfl⟩:=h;exact⟨q,os ++ #[o],by rw[Go.Sort.alloc_eq_grow,Go.Sort.grow_grow]⟩
theorem Grew.drewN {w w':World}(h:Grew w w')(n:Nat):Grew w (w'.drewN n):=by
 obtain⟨q,os,rfl⟩:=h;exact⟨q+n,os,by show Go.Sort.grow ((w.drewN q).drewN n) os=_;rw[World.drewN_drewN]⟩
theorem Grew.below {w w':World}(h:Grew w w'):Below w.heap.size w w':=by
 obtain⟨q,os,rfl⟩:=h;exact⟨rfl,rfl,rfl,by show w.heap.size≤(w.heap ++ os).size;simp,fun k hk=>by show (w.heap ++ os)[k]?=_;rw[Array.getElem?_append_left hk]⟩
def E.cells (e:E):List Value:=[.int .i64 e.n,.int .u8 e.c,.int .i64 e.sv,.int .i64 e.bf,.string e.lt,.int .i64 e.pl,.int .i64 e.y]
def E.v (e:E):Value:=.agg #[.int .i64 e.n,.int .u8 e.c,.int .i64 e.sv,.int .i64 e.bf,.string e.lt,.int .i64 e.pl,.int .i64 e.y]
def cf (a b:E):Int:=or2 (Lib.compareInt a.n b.n) (Lib.compareInt (a.pl:Int) (b.pl:Int))
theorem cf_less (a b:E):decide (cf a b<0)=lessB a b:=by
 rw[Bool.eq_iff_iff,decide_eq_true_eq,less_iff];unfold cf or2 Lib.compareInt;split <;> split <;> (try split) <;> (try split) <;> omega
end Oc
theorem order_any (a b:Oc.E)(w:World):
  Calls Tryz.prog 199 #[a.v,b.v] w fun e w'=>e=.returned (.int .i64 (Oc.cf a b))∧Oc.Grew w w':=by
 obtain⟨n,c,sv,bf,lt,pl,y⟩:=a;obtain⟨n2,c2,sv2,bf2,lt2,pl2,y2⟩:=b;unfold Oc.E.v Oc.cf;simp only;obtain⟨x1,hx1⟩:=aj (Lib.compareInt n n2)
 obtain⟨x2,hx2⟩:=aj (Lib.compareInt (pl:Int) (pl2:Int))
 have H1:∀W,Calls Tryz.prog 210 #[.int .i64 n,.int .i64 n2] W fun e w'=>e=.returned (.int .i64 x1)∧w'=W:=fun W=>by
  rw[← hx1];exact(cmpI64_any n n2 W).mono fun e w' h=>⟨h.1,h.2.symm⟩
 have H2:∀W,Calls Tryz.prog 211 #[.int .i64 (pl:Int),.int .i64 (pl2:Int)] W fun e w'=>e=.returned (.int .i64 x2)∧w'=W:=fun W=>by
  rw[← hx2];exact Tryz.cmp_Compare_int pl pl2 W
 rw[hx1,hx2];have h1:=ak H1;have h2:=ak H2;obtain⟨W2,hW2⟩:=aj ((w.alloc (.cells #[.int .i64 n,.int .u8 c,.int .i64 sv,.int .i64 bf,.string lt,.int .i64 pl,.int .i64 y] 314)).alloc (.cells #[.int .i64 n2,.int .u8 c2,.int .i64 sv2,.int .i64 bf2,.string lt2,.int .i64 pl2,.int .i64 y2] 314))
 have hA:=(At.new w #[.int .i64 n,.int .u8 c,.int .i64 sv,.int .i64 bf,.string lt,.int .i64 pl,.int .i64 y] 314).allocO (.cells #[.int .i64 n2,.int .u8 c2,.int .i64 sv2,.int .i64 bf2,.string lt2,.int .i64 pl2,.int .i64 y2] 314);have hB:=At.new (w.alloc (.cells #[.int .i64 n,.int .u8 c,.int .i64 sv,.int .i64 bf,.string lt,.int .i64 pl,.int .i64 y] 314)) #[.int .i64 n2,.int .u8 c2,.int .i64 sv2,.int .i64 bf2,.string lt2,.int .i64 pl2,.int .i64 y2] 314;have hG:Oc.Grew w W2:=by rw[← hW2];exact((Oc.Grew.refl w).alloc _).alloc _
 rw[hW2] at hA hB;rw[World.size_alloc] at hB;have a0:=hA.cell 0 _ rfl;have a5:=hA.cell 5 _ rfl;have b0:=hB.cell 0 _ rfl;have b5:=hB.cell 5 _ rfl;have za:=hA.lt;have zb:=hB.lt;have HG:=ak hG;have HW2:=ak hW2;clear H1 H2 hx1 hx2 hA hB hG hW2;go_enter Tryz.func199,Tryz.ntmps199
 go_wp2_with fail
 rw[HW2.out];refine wp_region_quiet_tail (C:=fun w'=>∃j,w'=W2.drewN j) 12 (by kernel_rfl) (by kernel_rfl) ⟨1,rfl⟩ ?_
 repeat (quiet_step (first|(go_at_call 210;exact Calls.quiet_of_same (h1.out _))|(go_at_call 211;exact Calls.quiet_of_same (h2.out _))))
 refine wpQuiet_nil ?_;intro wz hwz;obtain⟨nq,rfl⟩:=hwz;show wpList _ _ _ (_ :: _) _ _
 have HO:=ak (cmpOr2_any x1 x2 (W2.drewN nq).heap.size ((W2.drewN nq).alloc (.cells #[.int .i64 x1,.int .i64 x2] 3)) ((At.new (W2.drewN nq) #[.int .i64 x1,.int .i64 x2] 3).cell 0 _ rfl) ((At.new (W2.drewN nq) #[.int .i64 x1,.int .i64 x2] 3).cell 1 _ rfl));go_wp2_with (go_at_call 209;refine HO.out.mono ?_;rintro e w' ⟨rfl,rfl⟩)
 go_ret
 exact⟨rfl,(HG.out.drewN nq).alloc _⟩
end Go.Proofs.YtjobhjemnmleaaaGreatDoor
namespace Go.Proofs.YtjobhjemnmleaaaGreatDoor
open Go.RowKit
open Go.Maps Go.WideShapes Go.ChangeShapes Go.WideMaps
namespace Mp
def rv (v:Value):Option (DataW Value × List MemPlace):=some (.held v,[])
def kl (s:ByteArray):Lit:=.string s.data.toList
theorem kl_eq {s t:ByteArray}:kl s=kl t↔s=t:=by
 unfold kl;constructor
 ·intro h
  injection h with h
  exact ByteArray.ext (Array.ext' h)
 ·intro h;rw[h]
abbrev Fn :=ByteArray→Option Value
def put (f:Fn)(s:ByteArray)(v:Value):Fn:=fun t=>if t=s then some v else f t
theorem put_same (f:Fn)(s:ByteArray)(v:Value):put f s v s=some v:=by unfold put;rw[if_pos rfl]
theorem put_other (f:Fn)(s:ByteArray)(v:Value){t:ByteArray}(h:t≠s):put f s v t=f t:=by unfold put;rw[if_neg h]
end Mp
def MapF (P:Program)(k:TypeId)(w:World)(b n:Nat)(f:Mp.Fn):Prop:=
 ∃D:DataW Value,w.ownsMap P k Mp.rv b n D∧∀s:ByteArray,Maps.has D (Mp.kl s)=(f s).isSome∧∀z,D.atKey (Mp.kl s) (.held z)=.held ((f s).getD z)
section
variable {P:Program} {k:TypeId} {w w':World} {b n:Nat} {f:Mp.Fn}
theorem MapF.lt (h:MapF P k w b n f):b<w.heap.size:=by
 obtain⟨D,h1,_⟩:=h;exact h1.lt
theorem MapF.made (w:World):MapF P k (w.alloc (.map #[] 0)) w.heap.size 0 (fun _=>none):=
 ⟨.map [],World.ownsMap_made w P k Mp.rv,fun _=>⟨rfl,fun _=>rfl⟩⟩
theorem MapF.kept (h:MapF P k w b n f){row:Option Nat}(hg:w.grownBy w' row)(hne:some b≠row):MapF P k w' b n f:=by
 obtain⟨D,h1,h2⟩:=h;exact⟨D,h1.kept hg hne,h2⟩
theorem MapF.below (h:MapF P k w b n f)(hb:Below w.heap.size w w'):MapF P k w' b n f:=
 h.kept (row:=none) ⟨hb.os,hb.tape,hb.output,hb.size,fun j hj _=>hb.block j hj⟩ (by simp)
theorem MapF.alloc (h:MapF P k w b n f)(o:Obj):MapF P k (w.alloc o) b n f:=by
 obtain⟨D,h1,h2⟩:=h;exact⟨D,h1.alloc o,h2⟩
theorem MapF.setCell (h:MapF P k w b n f){a:Addr}(ha:b≠a.block)(u:Value):MapF P k (w.setCell a u) b n f:=by
 obtain⟨D,h1,h2⟩:=h;exact⟨D,h1.setCell ha u,h2⟩
theorem MapF.more (h:MapF P k w b n f){m:Nat}(hn:n≤m):MapF P k w b m f:=by
 obtain⟨D,h1,h2⟩:=h;exact⟨D,h1.mono hn,h2⟩
theorem MapF.put_ {s:ByteArray}{v:Value}{D:DataW Value}(hD:w.ownsMap P k Mp.rv b n D)(hs:∀s:ByteArray,Maps.has D (Mp.kl s)=(f s).isSome∧∀z,D.atKey (Mp.kl s) (.held z)=.held ((f s).getD z))
  (hD':w'.ownsMap P k Mp.rv b (n+1) (D.put (Mp.kl s) (.held v))):MapF P k w' b (n+1) (Mp.put f s v):=by
 refine⟨_,hD',fun t=>?_⟩;have hi:=hD.isMap;have hk:WideAt.IsKeyLit (Mp.kl s):=trivial
 by_cases e:t=s
 ·subst e;rw[Mp.put_same];exact⟨has_put_same hi hk _,fun z=>atKey_put_same hi hk _ _⟩
 ·have hne:Mp.kl t≠Mp.kl s:=fun h=>e (Mp.kl_eq.1 h)
  rw[Mp.put_other _ _ _ e,has_put_other hne];exact⟨(hs t).1,fun z=>by rw[atKey_put_other hne];exact(hs t).2 z⟩
end
section
variable {P:Program} (w:World) {ops:Array Oper} {rest:List Oper} {o:Oper} {a:Act} {Q:Exit→Act→World→Prop}
theorem wpList_look_ok (hg:o.guard=none)(m x:Operand)(t k e:TypeId)(hop:o.op=Op.lookup t m x true)(hk:P.underlying k=some .string)(ht:P.underlying t=some (.map k e)){z:Value}(hz:∀W,(zeroValue e).run P W=.ok z W)
  (b n:Nat) (f:Mp.Fn) (s:ByteArray) (hs:s.size≤maxLen) (hm:a.eval m=.map (some b)) (hx:a.eval x=.string s) (h:MapF P k w b n f)
  (hK:wpList P ops Q rest (a.put o.dst (.tuple #[(f s).getD z,.bool (f s).isSome])) w):wpList P ops Q (o :: rest) a w:=by
 obtain⟨D,hD,hf⟩:=h;refine wpList_lookup_own_ok w hg m x t hop k e (string_keyed hk) ht Mp.rv (hz w) (.held z) [] rfl b n D hm hD (.string s) (Mp.kl s) hx (keyOf_string_mk hk hs) ?_;intro v ps hv;rw[(hf s).2 z] at hv;have e1:v=(f s).getD z:=by
  unfold Mp.rv at hv
  injection hv with hv
  injection hv with hv _
  injection hv
 rw[e1,(hf s).1];exact hK
theorem wpList_look_yes (hg:o.guard=none)(m x:Operand)(t k e:TypeId)(hop:o.op=Op.lookup t m x true)(hk:P.underlying k=some .string)(ht:P.underlying t=some (.map k e)){z:Value}(hz:∀W,(zeroValue e).run P W=.ok z W)
  (b n:Nat) (f:Mp.Fn) (s:ByteArray) (hs:s.size≤maxLen) (hm:a.eval m=.map (some b)) (hx:a.eval x=.string s) (h:MapF P k w b n f) (v:Value) (hv:f s=some v)
  (hK:wpList P ops Q rest (a.put o.dst (.tuple #[v,.bool true])) w):wpList P ops Q (o :: rest) a w:=
 wpList_look_ok w hg m x t k e hop hk ht hz b n f s hs hm hx h (by rw[hv];exact hK)
theorem wpList_look_no (hg:o.guard=none)(m x:Operand)(t k e:TypeId)(hop:o.op=Op.lookup t m x true)(hk:P.underlying k=some .string)(ht:P.underlying t=some (.map k e)){z:Value}(hz:∀W,(zeroValue e).run P W=.ok z W)
  (b n:Nat) (f:Mp.Fn) (s:ByteArray) (hs:s.size≤maxLen) (hm:a.eval m=.map (some b)) (hx:a.eval x=.string s) (h:MapF P k w b n f) (hv:f s=none)
  (hK:wpList P ops Q rest (a.put o.dst (.tuple #[z,.bool false])) w):wpList P ops Q (o :: rest) a w:=
 wpList_look_ok w hg m x t k e hop hk ht hz b n f s hs hm hx h (by rw[hv];exact hK)
theorem wpList_store (hg:o.guard=none)(m x v:Operand)(t k e:TypeId)(hop:o.op=Op.mapUpdate t m x v)(hk:P.underlying k=some .string)(ht:P.underlying t=some (.map k e))
  (b n:Nat) (f:Mp.Fn) (s:ByteArray) (hs:s.size≤maxLen) (hn:n<maxLen) (val:Value) (hm:a.eval m=.map (some b)) (hx:a.eval x=.string s) (hv:a.eval v=val) (h:MapF P k w b n f)
  (hK:∀w',MapF P k w' b (n+1) (Mp.put f s val)→w.grownBy w' (some b)→wpList P ops Q rest (a.put o.dst undef) w'):wpList P ops Q (o :: rest) a w:=by
 obtain⟨D,hD,hf⟩:=h;refine wpList_mapUpdate_own w hg m x v t hop k e (string_keyed hk) ht Mp.rv b n D hm hD hn (.string s) val (Mp.kl s) hx hv (keyOf_string_mk hk hs) (.held val) [] rfl ?_;intro w' hD' hg';exact hK w' (MapF.put_ hD hf hD') hg'
end
end Go.Proofs.YtjobhjemnmleaaaGreatDoor
namespace Go.Proofs.YtjobhjemnmleaaaGreatDoor
open Go.RowKit
open Go.Maps Go.WideShapes Go.ChangeShapes Go.WideMaps
namespace Mi
def kl (s:Int):Lit:=.int .i64 s
theorem kl_eq {s t:Int}:kl s=kl t↔s=t:=by
 unfold kl;constructor
 ·intro h
  injection h
 ·intro h;rw[h]
abbrev Fn :=Int→Option Value
def put (f:Fn)(s:Int)(v:Value):Fn:=fun t=>if t=s then some v else f t
theorem put_same (f:Fn)(s:Int)(v:Value):put f s v s=some v:=by unfold put;rw[if_pos rfl]
theorem put_other (f:Fn)(s:Int)(v:Value){t:Int}(h:t≠s):put f s v t=f t:=by unfold put;rw[if_neg h]
theorem wf {a:Int}(h0:-9223372036854775808≤a)(h1:a≤9223372036854775807):(Lit.int .i64 a).wf=true:=by
 simp[Lit.wf,IntKind.min,IntKind.max,IntKind.signed,IntKind.bits]
 omega
end Mi
def MapI (P:Program)(k:TypeId)(w:World)(b n:Nat)(f:Mi.Fn):Prop:=
 ∃D:DataW Value,w.ownsMap P k Mp.rv b n D∧∀s:Int,Maps.has D (Mi.kl s)=(f s).isSome∧∀z,D.atKey (Mi.kl s) (.held z)=.held ((f s).getD z)
section
variable {P:Program} {k:TypeId} {w w':World} {b n:Nat} {f:Mi.Fn}
theorem MapI.lt (h:MapI P k w b n f):b<w.heap.size:=by
 obtain⟨D,h1,_⟩:=h;exact h1.lt
theorem MapI.made (w:World):MapI P k (w.alloc (.map #[] 0)) w.heap.size 0 (fun _=>none):=
 ⟨.map [],World.ownsMap_made w P k Mp.rv,fun _=>⟨rfl,fun _=>rfl⟩⟩
theorem MapI.kept (h:MapI P k w b n f){row:Option Nat}(hg:w.grownBy w' row)(hne:some b≠row):MapI P k w' b n f:=by
 obtain⟨D,h1,h2⟩:=h;exact⟨D,h1.kept hg hne,h2⟩
theorem MapI.below (h:MapI P k w b n f)(hb:Below w.heap.size w w'):MapI P k w' b n f:=
 h.kept (row:=none) ⟨hb.os,hb.tape,hb.output,hb.size,fun j hj _=>hb.block j hj⟩ (by simp)
theorem MapI.alloc (h:MapI P k w b n f)(o:Obj):MapI P k (w.alloc o) b n f:=by
 obtain⟨D,h1,h2⟩:=h;exact⟨D,h1.alloc o,h2⟩
theorem MapI.setCell (h:MapI P k w b n f){a:Addr}(ha:b≠a.block)(u:Value):MapI P k (w.setCell a u) b n f:=by
 obtain⟨D,h1,h2⟩:=h;exact⟨D,h1.setCell ha u,h2⟩
theorem MapI.put_ {s:Int}{v:Value}{D:DataW Value}(hD:w.ownsMap P k Mp.rv b n D)(hs:∀s:Int,Maps.has D (Mi.kl s)=(f s).isSome∧∀z,D.atKey (Mi.kl s) (.held z)=.held ((f s).getD z))
  (hD':w'.ownsMap P k Mp.rv b (n+1) (D.put (Mi.kl s) (.held v))):MapI P k w' b (n+1) (Mi.put f s v):=by
 refine⟨_,hD',fun t=>?_⟩;have hi:=hD.isMap;have hk:WideAt.IsKeyLit (Mi.kl s):=trivial
 by_cases e:t=s
 ·subst e;rw[Mi.put_same];exact⟨has_put_same hi hk _,fun z=>atKey_put_same hi hk _ _⟩
 ·have hne:Mi.kl t≠Mi.kl s:=fun h=>e (Mi.kl_eq.1 h)
  rw[Mi.put_other _ _ _ e,has_put_other hne];exact⟨(hs t).1,fun z=>by rw[atKey_put_other hne];exact(hs t).2 z⟩
theorem MapI.not_cells (h:MapI P k w b n f):∃o:Obj,w.heap[b]?=some o∧o.isCells=false:=by
 obtain⟨D,⟨es,clock,hb,_⟩,_⟩:=h;exact⟨_,hb,rfl⟩
theorem MapI.keeps (h:MapI P k w b n f)(hg:w.grownBy w' (some b)){p:Addr}{v:Value}(hc:w.cell? p=some v):w'.cell? p=some v:=
 cell_kept hc hg (fun r e=>by cases e;exact h.not_cells)
end
section
variable {P:Program} (w:World) {ops:Array Oper} {rest:List Oper} {o:Oper} {a:Act} {Q:Exit→Act→World→Prop}
theorem wpList_lookI_ok (hg:o.guard=none)(m x:Operand)(t k e:TypeId)(hop:o.op=Op.lookup t m x true)(hk:P.underlying k=some (.int .i64))(ht:P.underlying t=some (.map k e)){z:Value}(hz:∀W,(zeroValue e).run P W=.ok z W)
  (b n:Nat) (f:Mi.Fn) (s:Int) (hs:(Lit.int .i64 s).wf=true) (hm:a.eval m=.map (some b)) (hx:a.eval x=.int .i64 s) (h:MapI P k w b n f)
  (hK:wpList P ops Q rest (a.put o.dst (.tuple #[(f s).getD z,.bool (f s).isSome])) w):wpList P ops Q (o :: rest) a w:=by
 obtain⟨D,hD,hf⟩:=h;refine wpList_lookup_own_ok w hg m x t hop k e (int_keyed hk) ht Mp.rv (hz w) (.held z) [] rfl b n D hm hD (.int .i64 s) (Mi.kl s) hx (keyOf_int_mk hk hs) ?_;intro v ps hv;rw[(hf s).2 z] at hv;have e1:v=(f s).getD z:=by
  unfold Mp.rv at hv
  injection hv with hv
  injection hv with hv _
  injection hv
 rw[e1,(hf s).1];exact hK
theorem wpList_storeI (hg:o.guard=none)(m x v:Operand)(t k e:TypeId)(hop:o.op=Op.mapUpdate t m x v)(hk:P.underlying k=some (.int .i64))(ht:P.underlying t=some (.map k e))
  (b n:Nat) (f:Mi.Fn) (s:Int) (hs:(Lit.int .i64 s).wf=true) (hn:n<maxLen) (val:Value) (hm:a.eval m=.map (some b)) (hx:a.eval x=.int .i64 s) (hv:a.eval v=val) (h:MapI P k w b n f)
  (hK:∀w',MapI P k w' b (n+1) (Mi.put f s val)→w.grownBy w' (some b)→wpList P ops Q rest (a.put o.dst undef) w'):wpList P ops Q (o :: rest) a w:=by
 obtain⟨D,hD,hf⟩:=h;refine wpList_mapUpdate_own w hg m x v t hop k e (int_keyed hk) ht Mp.rv b n D hm hD hn (.int .i64 s) val (Mi.kl s) hx hv (keyOf_int_mk hk hs) (.held val) [] rfl ?_;intro w' hD' hg';exact hK w' (MapI.put_ hD hf hD') hg'
end
end Go.Proofs.YtjobhjemnmleaaaGreatDoor
namespace Go.Proofs.YtjobhjemnmleaaaGreatDoor
open Go.RowKit
namespace Lk
def first : List ByteArray→ByteArray→Option Nat
 |[],_=>none
 |x :: l,s=>if x=s then some 0 else (first l s).map (·+1)
theorem first_some : ∀{l:List ByteArray} {s:ByteArray} {i:Nat},first l s=some i→l[i]?=some s
 |[],s,i,h=>by cases h
 |x :: l,s,i,h=>by
  unfold first at h;split at h
  ·rename_i e
   cases h
   simpa using e
  ·cases hf:first l s with
   |none=>rw[hf] at h;cases h
   |some j=>
    rw[hf] at h;cases h
    simpa using first_some hf
theorem first_none : ∀{l:List ByteArray} {s:ByteArray},first l s=none↔s∉l
 |[],s=>by simp[first]
 |x :: l,s=>by
  unfold first
  by_cases e:x=s
  ·simp[e]
  ·rw[if_neg e];have h:=first_none (l:=l) (s:=s);cases hf:first l s with
   |none=>simp only[Option.map_none,List.mem_cons,true_iff,not_or];exact⟨fun q=>e q.symm,h.1 hf⟩
   |some j=>
    simp only[Option.map_some,reduceCtorEq,false_iff,Classical.not_not]
    by_cases hm:s∈l
    ·exact List.mem_cons_of_mem _ hm
    ·rw[h.2 hm] at hf;cases hf
theorem first_lt {l:List ByteArray}{s:ByteArray}{i:Nat}(h:first l s=some i):i<l.length:=(List.getElem?_eq_some_iff.1 (first_some h)).1
def from_ (l:List ByteArray)(k:Nat)(s:ByteArray):Option Nat:=(first (l.drop k) s).map (·+k)
theorem from_zero (l:List ByteArray)(s:ByteArray):from_ l 0 s=first l s:=by
 unfold from_;rw[List.drop_zero];cases first l s <;> rfl
theorem from_end (l:List ByteArray)(s:ByteArray):from_ l l.length s=none:=by
 unfold from_;rw[List.drop_length];rfl
theorem from_step {l:List ByteArray}{k:Nat}{x:ByteArray}(h:l[k]?=some x)(s:ByteArray):from_ l k s=if s=x then some k else from_ l (k+1) s:=by
 unfold from_;obtain⟨hlt,hx⟩:=List.getElem?_eq_some_iff.1 h;rw[List.drop_eq_getElem_cons hlt,hx,first]
 by_cases e:x=s
 ·rw[if_pos e,if_pos e.symm];simp
 ·rw[if_neg e,if_neg (fun h=>e h.symm)];cases first (l.drop (k+1)) s with
  |none=>rfl
  |some j=>simp only[Option.map_some,Option.some.injEq];omega
abbrev Fd :=Int × Int
abbrev Kn :=ByteArray→Option Fd
def mark (K:Kn)(s:ByteArray)(e:Fd):Kn:=fun t=>if t=s then some e else K t
noncomputable def marks (K:Kn)(l:List ByteArray)(e:Fd):Kn:=fun t=>@ite _ (t∈l) (Classical.propDecidable _) (some e) (K t)
theorem marks_in {K:Kn}{l:List ByteArray}{e:Fd}{t:ByteArray}(h:t∈l):marks K l e t=some e:=by
 unfold marks;rw[if_pos h]
theorem marks_out {K:Kn}{l:List ByteArray}{e:Fd}{t:ByteArray}(h:t∉l):marks K l e t=K t:=by
 unfold marks;rw[if_neg h]
theorem marks_nil (K:Kn)(e:Fd):marks K [] e=K:=by
 funext t
 exact marks_out (by simp)
theorem marks_snoc (K:Kn)(l:List ByteArray)(s:ByteArray)(e:Fd):mark (marks K l e) s e=marks K (l ++ [s]) e:=by
 funext t
 unfold mark
 by_cases h1:t=s
 ·rw[if_pos h1,marks_in (by simp[h1])]
 ·rw[if_neg h1]
  by_cases h2:t∈l
  ·rw[marks_in h2,marks_in (by simp[h2])]
  ·rw[marks_out h2,marks_out (by simp[h1,h2])]
theorem marks_twice (K:Kn)(l:List ByteArray)(e e':Fd):marks (marks K l e) l e'=marks K l e':=by
 funext t
 by_cases h:t∈l
 ·rw[marks_in h,marks_in h]
 ·rw[marks_out h,marks_out h,marks_out h]
def kf (K:Kn):Mp.Fn:=fun t=>(K t).map fun e=>Value.agg #[.int .i64 e.1,.int .i64 e.2]
theorem kf_put (K:Kn)(s:ByteArray)(e:Fd):Mp.put (kf K) s (.agg #[.int .i64 e.1,.int .i64 e.2])=kf (mark K s e):=by
 funext t
 unfold Mp.put kf mark
 by_cases h:t=s
 ·simp[h]
 ·simp[h]
def loop : Fd:=(0,9)
def gone : Fd:=(0,3)
def find (zn ln tg:List ByteArray):Nat→Kn→ByteArray→List ByteArray × Fd
 |0,_,_=>([],(0,0))
 |f+1,K,s=>match K s with
  |some e=>([],e)
  |none=>match first zn s with
   |some i=>([s],((i:Int),0))
   |none=>match first ln s with
    |none=>([s],gone)
    |some j=>(s :: (find zn ln tg f (mark K s loop) (tg.getD j ⟨#[]⟩)).1,(find zn ln tg f (mark K s loop) (tg.getD j ⟨#[]⟩)).2)
theorem nodup_len {α:Type}[DecidableEq α]:∀(xs ys:List α),xs.Nodup→(∀a∈xs,a∈ys)→xs.length≤ys.length
 |[],ys,_,_=>Nat.zero_le _
 |x :: xs,ys,hn,h=>by
  obtain⟨a,b,rfl⟩:=List.append_of_mem (h x (by simp));obtain⟨h1,h2⟩:=List.nodup_cons.1 hn;have ih:=nodup_len xs (a ++ b) h2 (fun y hy=>by
   have:=h y (by simp[hy]);simp only[List.mem_append,List.mem_cons] at this ⊢;rcases this with h|rfl|h
   ·exact .inl h
   ·exact absurd hy h1
   ·exact .inr h)
  simp only[List.length_append,List.length_cons] at ih ⊢;omega
end Lk
end Go.Proofs.YtjobhjemnmleaaaGreatDoor
