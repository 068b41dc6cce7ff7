/- Structs of many cells as one array: boxed, read, stored whole or in the middle; results that lie in cells. -/
import Derived.Test.YtjobhjemnmleaaaGreatDoorR28
import Derived.Deep.MidRow
import Derived.Laws.CopyRow
namespace Go.Proofs.YtjobhjemnmleaaaGreatDoor
open Go.RowKit
theorem At.range {w:World}{g:Nat}{cs:List Value}(h:At w g cs):w.rangeAt g 0 cs:=fun j v hv=>by rw[Nat.zero_add];exact h.cell j v hv
theorem At.mid {w:World}{g:Nat}{old:List Value}(h:At w g old)(o:Nat)(cs:List Value)(hc:∀j v,cs[j]?=some v→old[o+j]?=some v):w.rangeAt g o cs:=fun j v hv=>h.cell (o+j) v (hc j v hv)
theorem At.there {w:World}{g:Nat}{cs:List Value}(h:At w g cs)(o n:Nat)(hl:o+n≤cs.length):w.there g o n:=fun j hj=>by
 have e:cs[o+j]?=some cs[o+j]:=List.getElem?_eq_getElem (by omega);rw[h.cell (o+j) _ e,h.free (o+j) _ e];exact⟨rfl,rfl⟩
theorem At.splice {g:Nat}:∀(vs:List Value) {w:World} {old:List Value} (o:Nat),At w g old→o+vs.length≤old.length→At (w.setCells g o vs) g (old.take o ++ vs ++ old.drop (o+vs.length))
 |[],w,old,o,h,_=>by
  show At w g _
  simpa using h
 |v :: r,w,old,o,h,hl=>by
  have hl':o+(r.length+1)≤old.length:=by simpa using hl
  have:=At.splice r (o+1) (h.set o v) (by rw[List.length_set];omega);rw[list_seg_step old o v r hl'] at this;exact this
theorem At.put_other {g b:Nat}(hne:b≠g):∀(vs:List Value) (o:Nat) {w:World} {cs:List Value},At w g cs→At (w.setCells b o vs) g cs
 |[],_,_,_,h=>h
 |v :: r,o,_,_,h=>At.put_other hne r (o+1) (h.set_other ⟨b,o,none⟩ v hne)
theorem below_put {B b:Nat}{a:World}(hb:B≤b):∀(vs:List Value) (o:Nat) (w:World),Below B a w→Below B a (w.setCells b o vs)
 |[],_,_,h=>h
 |v :: r,o,_,h=>below_put hb r (o+1) _ (h.setCell (p:=⟨b,o,none⟩) hb v)
theorem heap_set_ne (w:World)(p:Addr)(v:Value){g:Nat}(h:p.block≠g):(w.setCell p v).heap[g]?=w.heap[g]?:=by simp[World.setCell,Array.getElem?_modify,h]
theorem own_put {B b:Nat}{e:TypeId}{size n:Nat}{v:Value}{xs:List Value}(hne:v.ownBlock≠some b):∀(vs:List Value) (o:Nat) {w:World},w.ownsRow B e size v n xs→(w.setCells b o vs).ownsRow B e size v n xs
 |[],_,_,h=>h
 |x :: r,o,_,h=>own_put hne r (o+1) (by
   obtain⟨hl,h⟩:=h;refine⟨hl,?_⟩;rcases h with h|⟨g,cap,cur,rfl,h1,h2,h3⟩
   ·exact .inl h
   ·refine .inr ⟨g,cap,cur,rfl,h1,?_,h3⟩;rw[heap_set_ne _ _ _ (fun q=>hne (by rw[← q];rfl))];exact h2)
def Moved (g:Nat)(w w':World):Prop:=∃o vs,w'=w.setCells g o vs
theorem Moved.at {g k:Nat}{w w':World}{cs:List Value}(h:Moved g w w')(hk:k≠g)(hA:At w k cs):At w' k cs:=by
 obtain⟨o,vs,rfl⟩:=h;exact hA.put_other (fun e=>hk e.symm) vs o
theorem Moved.below {g B:Nat}{w w' a:World}(h:Moved g w w')(hB:B≤g)(hb:Below B a w):Below B a w':=by
 obtain⟨o,vs,rfl⟩:=h;exact below_put hB vs o _ hb
theorem Moved.own {g B:Nat}{w w':World}{e:TypeId}{size n:Nat}{v:Value}{xs:List Value}(h:Moved g w w')(hne:v.ownBlock≠some g)(ho:w.ownsRow B e size v n xs):w'.ownsRow B e size v n xs:=by
 obtain⟨o,vs,rfl⟩:=h;exact own_put hne vs o ho
def Ats (B:Nat)(w:World):List (Nat × List Value)→Prop
 |[]=>True
 |p :: l=>At w p.1 p.2∧B≤p.1∧(∀q∈l,q.1<p.1)∧Ats B w l
theorem Ats.map {B:Nat}{w w':World}:∀{l:List (Nat × List Value)},Ats B w l→(∀g cs,At w g cs→At w' g cs)→Ats B w' l
 |[],_,_=>trivial
 |_ :: _,⟨h1,h2,h3,h4⟩,f=>⟨f _ _ h1,h2,h3,h4.map f⟩
theorem Ats.get {B:Nat}{w:World}:∀{l:List (Nat × List Value)} {i:Nat} {g:Nat} {cs:List Value},Ats B w l→l[i]?=some (g,cs)→At w g cs∧B≤g
 |[],_,_,_,_,e=>by cases e
 |_ :: _,0,_,_,⟨h1,h2,_,_⟩,e=>by
  obtain rfl:=Option.some.inj e;exact⟨h1,h2⟩
 |_ :: _,i+1,_,_,⟨_,_,_,h4⟩,e=>Ats.get (i:=i) h4 e
theorem Ats.put {B:Nat}{w w':World}:∀{l:List (Nat × List Value)} {i:Nat} {g:Nat} {cs cs':List Value},Ats B w l→l[i]?=some (g,cs)→Moved g w w'→At w' g cs'→Ats B w' (l.set i (g,cs'))
 |[],_,_,_,_,_,e,_,_=>by cases e
 |p :: l,0,g,_,_,⟨h1,h2,h3,h4⟩,e,hM,hA=>by
  obtain rfl:=Option.some.inj e;exact⟨hA,h2,h3,by
   have key:∀{m:List (Nat × List Value)},Ats B w m→(∀q∈m,q.1<g)→Ats B w' m:=by
    intro m
    induction m with
    |nil=>exact fun _ _=>trivial
    |cons a m ih=>exact fun⟨k1,k2,k3,k4⟩ hlt=>⟨hM.at (Nat.ne_of_lt (hlt a (by simp))) k1,k2,k3,ih k4 fun q hq=>hlt q (by simp[hq])⟩
   exact key h4 h3⟩
 |p :: l,i+1,g,cs,cs',⟨h1,h2,h3,h4⟩,e,hM,hA=>by
  have hg:(g,cs)∈l:=List.mem_of_getElem? e;refine⟨hM.at (Nat.ne_of_gt (h3 _ hg)) h1,h2,?_,Ats.put (i:=i) h4 e hM hA⟩;intro q hq;rcases List.mem_or_eq_of_mem_set hq with q1|q1
  ·exact h3 q q1
  ·rw[q1];exact h3 (g,cs) hg
theorem Ats.below {B C:Nat}{w w':World}:∀{l:List (Nat × List Value)},Ats B w l→Below C w w'→(∀q∈l,q.1<C)→Ats B w' l
 |[],_,_,_=>trivial
 |p :: _,⟨h1,h2,h3,h4⟩,hb,hl=>⟨h1.below hb (hl p (by simp)),h2,h3,h4.below hb fun q hq=>hl q (by simp[hq])⟩
theorem Ats.top {B:Nat}{w:World}{p:Nat × List Value}{l:List (Nat × List Value)}(h:Ats B w (p :: l)):∀q∈p :: l,q.1<p.1+1:=fun q hq=>by
 rcases List.mem_cons.1 hq with rfl|hq
 ·exact Nat.lt_succ_self _
 ·exact Nat.lt_succ_of_lt (h.2.2.1 q hq)
structure St (w0 w:World)(l:List (Nat × List Value)):Prop where
 b:Below w0.heap.size w0 w
 z:Ats w0.heap.size w l
section
variable {w0 w w':World} {l:List (Nat × List Value)} {g:Nat} {cs:List Value}
theorem St.start (w0:World):St w0 w0 []:=⟨Below.refl _ _,trivial⟩
theorem St.call (h:St w0 w l)(hb:Below w.heap.size w w'):St w0 w' l:=⟨below_then h.b hb,h.z.map fun _ _ k=>k.call hb⟩
theorem St.drewN (h:St w0 w l)(n:Nat):St w0 (w.drewN n) l:=h.call (below_drewN (Below.refl _ _) n)
theorem St.drew (h:St w0 w l):St w0 w.drew l:=h.call (Below.refl _ _).drew
theorem St.get (h:St w0 w l)(i:Nat)(hi:l[i]?=some (g,cs)):At w g cs:=(h.z.get hi).1
theorem St.ge (h:St w0 w l)(i:Nat)(hi:l[i]?=some (g,cs)):w0.heap.size≤g:=(h.z.get hi).2
theorem St.put (h:St w0 w l)(i:Nat)(hi:l[i]?=some (g,cs)){cs':List Value}(hM:Moved g w w')(hA:At w' g cs'):St w0 w' (l.set i (g,cs')):=⟨hM.below (h.ge i hi) h.b,h.z.put hi hM hA⟩
theorem Ats.lts {B:Nat}{w:World}:∀{l:List (Nat × List Value)},Ats B w l→∀q∈l,q.1<w.heap.size
 |_ :: _,⟨h1,_,_,h4⟩,q,hq=>by
  rcases List.mem_cons.1 hq with rfl|hq
  ·exact h1.lt
  ·exact h4.lts q hq
theorem St.new (h:St w0 w l)(c:Array Value)(t:TypeId):St w0 (w.alloc (.cells c t)) ((w.heap.size,c.toList) :: l):=
 ⟨h.b.alloc h.b.size _,At.new w c t,h.b.size,h.z.lts,h.z.map fun _ _ k=>k.allocO _⟩
theorem St.laid (h:St w0 w l)(c:Array Value)(t:TypeId){cs':List Value}(hM:Moved w.heap.size (w.alloc (.cells c t)) w')(hA:At w' w.heap.size cs'):St w0 w' ((w.heap.size,cs') :: l):=(h.new c t).put 0 rfl hM hA
theorem St.lay (h:St w0 w l)(c:Array Value)(t:TypeId):∃V g,Hid (w.alloc (.cells c t)=V)∧Hid (w.heap.size=g)∧Hid (St w0 V ((g,c.toList) :: l)):=⟨_,_,rfl,rfl,h.new c t⟩
theorem St.lay2 (h:St w0 w l)(c:Array Value)(t:TypeId)(c2:Array Value)(t2:TypeId):∃V g,Hid ((w.alloc (.cells c t)).alloc (.cells c2 t2)=V)∧Hid (w.heap.size=g)∧Hid (St w0 V ((g+1,c2.toList) :: (g,c.toList) :: l)):=⟨_,_,rfl,rfl,by
 have:=(h.new c t).new c2 t2
 rwa[World.size_alloc] at this⟩
theorem St.lay3 (h:St w0 w l)(c:Array Value)(t:TypeId)(c2:Array Value)(t2:TypeId)(c3:Array Value)(t3:TypeId):∃V g,Hid (((w.alloc (.cells c t)).alloc (.cells c2 t2)).alloc (.cells c3 t3)=V)∧Hid (w.heap.size=g)∧Hid (St w0 V ((g+1+1,c3.toList) :: (g+1,c2.toList) :: (g,c.toList) :: l)):=⟨_,_,rfl,rfl,by
 have:=((h.new c t).new c2 t2).new c3 t3
 rwa[World.size_alloc,World.size_alloc] at this⟩
end
theorem own_alloc {w:World}{B size n:Nat}{e:TypeId}{v:Value}{xs:List Value}(h:w.ownsRow B e size v n xs)(o:Obj):(w.alloc o).ownsRow B e size v n xs:=own_below h ((Below.refl _ _).alloc (Nat.le_refl _) o)
theorem own_lay {w V:World}{B size n:Nat}{e:TypeId}{v:Value}{xs:List Value}{o:Obj}(h:w.ownsRow B e size v n xs)(he:w.alloc o=V):V.ownsRow B e size v n xs:=he ▸ own_alloc h o
theorem wpList_load_arr {ops:Array Oper}{rest:List Oper}{o:Oper}{a:Act}{w:World}{Q:Exit→Act→World→Prop}(hgd:o.guard=none)(ty:TypeId)(x:Operand)(ho:o.op=.load ty x)
  (g off:Nat) (hx:a.eval x=.pointer (some ⟨g,off,none⟩)) (ca:Array Value) (hA:w.rangeAt g off ca.toList) (d:TypeDesc)
  (hu:Tryz.prog.underlying ty=some d) (hd:d.isRow=true) (hi:(Tryz.prog.info? ty).map (·.size)=some ca.size)
  (h:wpList Tryz.prog ops Q rest (a.put o.dst (.agg ca)) w):wpList Tryz.prog ops Q (o :: rest) a w:=
 wpList_load_mid hgd ty x ho g off hx ca.toList d hA hu hd (by simpa using hi) (by simpa using h)
theorem wpList_load_gar {ops:Array Oper}{rest:List Oper}{o:Oper}{a:Act}{w:World}{Q:Exit→Act→World→Prop}(hwt:Region.wanted o (yielded ops a.tmps)=true)(ty:TypeId)(x:Operand)(ho:o.op=.load ty x)
  (g off:Nat) (hx:a.eval x=.pointer (some ⟨g,off,none⟩)) (ca:Array Value) (hA:w.rangeAt g off ca.toList) (d:TypeDesc)
  (hu:Tryz.prog.underlying ty=some d) (hd:d.isRow=true) (hi:(Tryz.prog.info? ty).map (·.size)=some ca.size)
  (h:wpList Tryz.prog ops Q rest (a.put o.dst (.agg ca)) w):wpList Tryz.prog ops Q (o :: rest) a w:=by
 unfold wpList;rw[if_pos hwt];exact .inl (wp_load_mid ty x ho g off hx ca.toList d hA hu hd (by simpa using hi) (by simpa using h))
theorem wpList_store_arr {ops:Array Oper}{rest:List Oper}{o:Oper}{a:Act}{w:World}{Q:Exit→Act→World→Prop}(hgd:o.guard=none)(ty:TypeId)(x y:Operand)(ho:o.op=.store ty x y)
  (g off:Nat) (hx:a.eval x=.pointer (some ⟨g,off,none⟩)) (ca:Array Value) (hy:a.eval y=.agg ca) (old:List Value) (hA:At w g old) (hfit:off+ca.size≤old.length)
  (hi:(Tryz.prog.info? ty).map (·.size)=some ca.size) (h1:ca.all (·.oneCell')=true)
  (h:∀w',At w' g (old.take off ++ ca.toList ++ old.drop (off+ca.size))→Moved g w w'→wpList Tryz.prog ops Q rest (a.put o.dst undef) w'):wpList Tryz.prog ops Q (o :: rest) a w:=
 wpList_store_mid hgd ty x y ho g off ca hx hy (hA.there off ca.size hfit) hi h1 (h _ (by have:=hA.splice ca.toList off (by simpa using hfit);simpa using this) ⟨off,ca.toList,rfl⟩)
theorem wpList_store_all {ops:Array Oper}{rest:List Oper}{o:Oper}{a:Act}{w:World}{Q:Exit→Act→World→Prop}(hgd:o.guard=none)(ty:TypeId)(x y:Operand)(ho:o.op=.store ty x y)
  (g:Nat) (hx:a.eval x=.pointer (some ⟨g,0,none⟩)) (ca:Array Value) (hy:a.eval y=.agg ca) (old:List Value) (hA:At w g old) (hfit:ca.size=old.length)
  (hi:(Tryz.prog.info? ty).map (·.size)=some ca.size) (h1:ca.all (·.oneCell')=true)
  (h:∀w',At w' g ca.toList→Moved g w w'→wpList Tryz.prog ops Q rest (a.put o.dst undef) w'):wpList Tryz.prog ops Q (o :: rest) a w:=
 wpList_store_arr hgd ty x y ho g 0 hx ca hy old hA (by omega) hi h1 fun w' k1 k2=>h w' (by
  have e:old.drop (0+ca.size)=[]:=List.drop_of_length_le (by omega);rw[e] at k1;simpa using k1) k2
theorem loadVar_arr (w:World)(g:Nat)(ty:TypeId)(ca:Array Value)(d:TypeDesc)(hA:At w g ca.toList)
  (hu:Tryz.prog.underlying ty=some d) (hd:d.isRow=true) (hi:(Tryz.prog.info? ty).map (·.size)=some ca.size):(loadVar ty ⟨g,0,none⟩).run Tryz.prog w=.ok (.agg ca) w:=by
 have:=run_loadVar_mid (P:=Tryz.prog) w g 0 ty ca.toList d hA.range hu hd (by simpa using hi);simpa using this
theorem res_c {fn:Func}{p:Tmp}{ty:TypeId}(hr:fn.results=#[.cell p ty]){tmps:Array Value}{w:World}{g:Nat}{ca:Array Value}(hA:At w g ca.toList)(d:TypeDesc)
  (hu:Tryz.prog.underlying ty=some d) (hd:d.isRow=true) (hi:(Tryz.prog.info? ty).map (·.size)=some ca.size) (hp:tmps[p]?.getD undef=.pointer (some ⟨g,0,none⟩)):
  (results fn tmps).run Tryz.prog w=.ok (.agg ca) w:=by
 have:=loadVar_arr w g ty ca d hA hu hd hi;simp[results,hr,hp,asAddr,this]
theorem res_ct {fn:Func}{p q:Tmp}{ty:TypeId}(hr:fn.results=#[.cell p ty,.tmp q]){tmps:Array Value}{w:World}{g:Nat}{ca:Array Value}{x:Value}(hA:At w g ca.toList)(d:TypeDesc)
  (hu:Tryz.prog.underlying ty=some d) (hd:d.isRow=true) (hi:(Tryz.prog.info? ty).map (·.size)=some ca.size) (hp:tmps[p]?.getD undef=.pointer (some ⟨g,0,none⟩)) (hq:tmps[q]?.getD undef=x):
  (results fn tmps).run Tryz.prog w=.ok (.tuple #[.agg ca,x]) w:=by
 have:=loadVar_arr w g ty ca d hA hu hd hi;simp[results,hr,hp,hq,asAddr,this]
theorem res_ctt {fn:Func}{p q q2:Tmp}{ty:TypeId}(hr:fn.results=#[.cell p ty,.tmp q,.tmp q2]){tmps:Array Value}{w:World}{g:Nat}{ca:Array Value}{x x2:Value}(hA:At w g ca.toList)(d:TypeDesc)
  (hu:Tryz.prog.underlying ty=some d) (hd:d.isRow=true) (hi:(Tryz.prog.info? ty).map (·.size)=some ca.size) (hp:tmps[p]?.getD undef=.pointer (some ⟨g,0,none⟩)) (hq:tmps[q]?.getD undef=x) (hq2:tmps[q2]?.getD undef=x2):
  (results fn tmps).run Tryz.prog w=.ok (.tuple #[.agg ca,x,x2]) w:=by
 have:=loadVar_arr w g ty ca d hA hu hd hi;simp[results,hr,hp,hq,hq2,asAddr,this]
theorem res_cct {fn:Func}{p p2 q:Tmp}{ty ty2:TypeId}(hr:fn.results=#[.cell p ty,.cell p2 ty2,.tmp q]){tmps:Array Value}{w:World}{g g2:Nat}{ca ca2:Array Value}{x:Value}(hA:At w g ca.toList)(hA2:At w g2 ca2.toList)(d d2:TypeDesc)
  (hu:Tryz.prog.underlying ty=some d) (hd:d.isRow=true) (hi:(Tryz.prog.info? ty).map (·.size)=some ca.size) (hu2:Tryz.prog.underlying ty2=some d2) (hd2:d2.isRow=true) (hi2:(Tryz.prog.info? ty2).map (·.size)=some ca2.size)
  (hp:tmps[p]?.getD undef=.pointer (some ⟨g,0,none⟩)) (hp2:tmps[p2]?.getD undef=.pointer (some ⟨g2,0,none⟩)) (hq:tmps[q]?.getD undef=x):
  (results fn tmps).run Tryz.prog w=.ok (.tuple #[.agg ca,.agg ca2,x]) w:=by
 have h1:=loadVar_arr w g ty ca d hA hu hd hi;have h2:=loadVar_arr w g2 ty2 ca2 d2 hA2 hu2 hd2 hi2;simp[results,hr,hp,hp2,hq,asAddr,h1,h2]
namespace Sm
def S.arr (s:S):Array Value:=#[.int .u16 s.y,.int .u16 s.mo,.int .u16 s.dw,.int .u16 s.d,.int .u16 s.h,.int .u16 s.mi,.int .u16 s.s,.int .u16 s.ms]
theorem S.v_arr (s:S):s.v=.agg s.arr:=rfl
theorem S.arr_one (s:S):s.arr.all (·.oneCell')=true:=by simp[S.arr,Value.oneCell']
end Sm
namespace Rc
def R.arr (r:R):Array Value:=#[.int .i32 r.b,.int .i32 r.sb,.int .i32 r.db,.int .u16 r.std.y,.int .u16 r.std.mo,.int .u16 r.std.dw,.int .u16 r.std.d,.int .u16 r.std.h,.int .u16 r.std.mi,.int .u16 r.std.s,.int .u16 r.std.ms,.int .u16 r.dst.y,.int .u16 r.dst.mo,.int .u16 r.dst.dw,.int .u16 r.dst.d,.int .u16 r.dst.h,.int .u16 r.dst.mi,.int .u16 r.dst.s,.int .u16 r.dst.ms]
theorem R.v_arr (r:R):r.v=.agg r.arr:=rfl
theorem R.arr_one (r:R):r.arr.all (·.oneCell')=true:=by simp[R.arr,Value.oneCell']
theorem R.std_at (r:R)(j:Nat)(v:Value)(h:r.std.arr.toList[j]?=some v):r.arr.toList[3+j]?=some v:=by
 have hj:j<8:=(List.getElem?_eq_some_iff.1 h).1
 match j,hj with
 |0,_|1,_|2,_|3,_|4,_|5,_|6,_|7,_=>exact h
theorem R.dst_at (r:R)(j:Nat)(v:Value)(h:r.dst.arr.toList[j]?=some v):r.arr.toList[11+j]?=some v:=by
 have hj:j<8:=(List.getElem?_eq_some_iff.1 h).1
 match j,hj with
 |0,_|1,_|2,_|3,_|4,_|5,_|6,_|7,_=>exact h
end Rc
end Go.Proofs.YtjobhjemnmleaaaGreatDoor
