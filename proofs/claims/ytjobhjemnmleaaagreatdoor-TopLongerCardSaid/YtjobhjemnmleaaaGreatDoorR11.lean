/- (*reader).zone in one law; (*reader).link. -/
import Derived.Test.YtjobhjemnmleaaaGreatDoorR10
import Derived.Laws.MakeOwn
set_option maxRecDepth 100000
set_option maxHeartbeats 2000000
namespace Go.Proofs.YtjobhjemnmleaaaGreatDoor
open Go.RowKit
namespace Src
def RowR (w:World)(B size n:Nat)(v:Value)(xs:List Value):Prop:=∃A c,v=.slice A n c∧n≤c∧c≤maxLen∧Reads w B size A n xs
theorem RowR.below {w w':World}{B size n:Nat}{v:Value}{xs:List Value}(h:RowR w B size n v xs)(hb:Below B w w'):RowR w' B size n v xs:=by
 obtain⟨A,c,e,h1,h2,h3⟩:=h;exact⟨A,c,e,h1,h2,h3.below hb⟩
theorem RowR.more {w:World}{B B' size n:Nat}{v:Value}{xs:List Value}(h:RowR w B size n v xs)(hb:B≤B'):RowR w B' size n v xs:=by
 obtain⟨A,c,e,h1,h2,h3⟩:=h;exact⟨A,c,e,h1,h2,h3.more hb⟩
structure SrcR (w:World)(B:Nat)(s:S)(rv zv lv:Value)(evs:List Value):Prop where
 rules:RowR w B 11 s.rules.length rv (s.rules.flatMap Ru.R.cells)
 zones:RowR w B 2 s.zones.length zv ((s.zones.zip evs).flatMap zc)
 links:RowR w B 2 s.links.length lv (s.links.flatMap lc)
 len:evs.length=s.zones.length
 eras:∀p∈s.zones.zip evs,RowR w B 13 p.1.2.length p.2 (p.1.2.flatMap Er.E.cells)
theorem SrcR.below {w w':World}{B:Nat}{s:S}{rv zv lv:Value}{evs:List Value}(h:SrcR w B s rv zv lv evs)(hb:Below B w w'):SrcR w' B s rv zv lv evs:=
 ⟨h.rules.below hb,h.zones.below hb,h.links.below hb,h.len,fun p hp=>(h.eras p hp).below hb⟩
theorem SrcR.more {w:World}{B B':Nat}{s:S}{rv zv lv:Value}{evs:List Value}(h:SrcR w B s rv zv lv evs)(hb:B≤B'):SrcR w B' s rv zv lv evs:=
 ⟨h.rules.more hb,h.zones.more hb,h.links.more hb,h.len,fun p hp=>(h.eras p hp).more hb⟩
theorem SrcR.call {w w':World}{s:S}{rv zv lv:Value}{evs:List Value}(h:SrcR w w.heap.size s rv zv lv evs)(hb:Below w.heap.size w w'):SrcR w' w'.heap.size s rv zv lv evs:=(h.below hb).more hb.size
end Src
end Go.Proofs.YtjobhjemnmleaaaGreatDoor
namespace Go.Proofs.YtjobhjemnmleaaaGreatDoor
open Go.RowKit
theorem toList_eq_iff (a b:ByteArray):a.toList=b.toList↔a=b:=by
 rw[ByteArray.toList_eq,ByteArray.toList_eq];constructor
 ·intro h;exact ByteArray.ext (Array.ext' h)
 ·intro h;rw[h]
namespace Ix
end Ix
end Go.Proofs.YtjobhjemnmleaaaGreatDoor
namespace Go.Proofs.YtjobhjemnmleaaaGreatDoor
open Go.RowKit
noncomputable def Ru.R.good (r:Ru.R):Bool:=@decide r.Ok (Classical.propDecidable _)
theorem Ru.R.good_iff (r:Ru.R):r.good=true↔r.Ok:=by
 unfold Ru.R.good;exact @decide_eq_true_iff _ (Classical.propDecidable _)
noncomputable def Er.E.good (e:Er.E):Bool:=decide (Er.chk e=0)
namespace Src
noncomputable def erasB : List Er.E→Bool
 |[]=>true
 |e :: l=>e.good && ((e.en == !l.isEmpty) && erasB l)
noncomputable def zoneB (z:Txt × List Er.E):Bool:=Ru.name z.1 && (decide (1≤z.2.length) && (decide (z.2.length≤64) && erasB z.2))
def linkB (k:Txt × Txt):Bool:=Ru.name k.1 && Ru.name k.2
noncomputable def srcB (s:S):Bool:=s.rules.all Ru.R.good && (s.zones.all zoneB && s.links.all linkB)
structure Lims (s:S):Prop where
 rules:s.rules.length≤4096
 zones:s.zones.length≤1024
 links:s.links.length≤4096
end Src
theorem any_not {α:Type}(f:α→Bool):∀l:List α,l.any (fun x=>!f x)=!l.all f
 |[]=>rfl
 |x :: l=>by
  rw[List.any_cons,List.all_cons,any_not f l];cases f x <;> rfl
theorem erasB_next {es:List Er.E}{i n:Nat}{e:Er.E}{X:Bool}(h:X=Src.erasB (es.drop i))(hx:es[i]?=some e)(hn:es.length=n):X=(e.good && ((e.en == decide (((i:Int))<(n:Int) - 1)) && Src.erasB (es.drop (i+1)))):=by
 have hi:=(List.getElem?_eq_some_iff.1 hx).1;rw[h,List.drop_eq_getElem_cons hi,(List.getElem?_eq_some_iff.1 hx).2,Src.erasB];have:(!(es.drop (i+1)).isEmpty)=decide ((i:Int)<(n:Int) - 1):=by
  by_cases hl:i+1<es.length
  ·have e1:(es.drop (i+1)).isEmpty=false:=by
    rw[List.isEmpty_eq_false_iff];intro e;have:=congrArg List.length e;simp at this
    omega
   rw[e1,decide_eq_true (by omega)];rfl
  ·rw[List.drop_eq_nil_of_le (by omega),decide_eq_false (by omega)];rfl
 rw[this]
theorem erasB_end {es:List Er.E}{i:Nat}{X:Bool}(h:X=Src.erasB (es.drop i))(hi:es.length≤i):X=true:=by
 rw[h,List.drop_eq_nil_of_le hi];rfl
end Go.Proofs.YtjobhjemnmleaaaGreatDoor
namespace Go.Proofs.YtjobhjemnmleaaaGreatDoor
open Go.RowKit
theorem any_zip {α β:Type}(f:α→Bool):∀(a:List α) (b:List β),b.length=a.length→((a.zip b).any fun p=>f p.1)=a.any f
 |[],[],_=>rfl
 |x :: a,y :: b,h=>by
  rw[List.zip_cons_cons,List.any_cons,List.any_cons,any_zip f a b (by simpa using h)]
theorem mem_zip {α β:Type}{a:List α}{b:List β}{p:α × β}(h:p∈a.zip b):p.1∈a:=(List.of_mem_zip h).1
namespace Src
end Src
end Go.Proofs.YtjobhjemnmleaaaGreatDoor
namespace Go.Proofs.YtjobhjemnmleaaaGreatDoor
open Go.RowKit
namespace Src
end Src
end Go.Proofs.YtjobhjemnmleaaaGreatDoor
namespace Go.Proofs.YtjobhjemnmleaaaGreatDoor
open Go.RowKit
namespace Src
def zoneNames (s:S):List ByteArray:=s.zones.map fun z=>bts z.1
def linkNames (s:S):List ByteArray:=s.links.map fun k=>bts k.2
def names (s:S):List ByteArray:=zoneNames s ++ linkNames s
theorem more_one {l:List ByteArray}{k:Nat}{x:ByteArray}(h:l[k]?=some x):(l.take (k+1)).map Value.string=(l.take k).map Value.string ++ [Value.string x]:=by
 rw[List.take_add_one,h];simp
def NRel (W0:World)(h:Nat)(cs:List Value)(pre l:List ByteArray)(n:Nat)(v i:Value)(wr:World):Prop:=
 ∃k:Nat,k≤n∧i=.int .i64 k∧Hid (wr.ownsRow W0.heap.size 9 1 v (pre.length+k) (pre.map Value.string ++ (l.take k).map Value.string))∧Hid (At wr h cs)∧Hid (Below W0.heap.size W0 wr)
end Src
theorem srcNames_own (s:Src.S)(rv zv lv:Value)(evs:List Value)(w:World)(hR:Src.SrcR w w.heap.size s rv zv lv evs)(hL:Src.Lims s):
  Calls Tryz.prog 59 #[.agg #[rv,zv,lv]] w fun e w'=>∃A c,e=.returned (.slice A (s.zones.length+s.links.length) c)∧Below w.heap.size w w'∧s.zones.length+s.links.length≤c∧c≤maxLen∧w'.ownsRow w.heap.size 9 1 (.slice A (s.zones.length+s.links.length) c) (s.zones.length+s.links.length) ((Src.names s).map Value.string):=by
 obtain⟨rules,zones,links,op⟩:=s;obtain⟨⟨rA,rc,rfl,hr1,hr2,hr3⟩,⟨zA,zc,rfl,hz1,hz2,hz3⟩,⟨lA,lc,rfl,hl1,hl2,hl3⟩,hlen,hers⟩:=hR;obtain⟨L1,L2,L3⟩:=hL;unfold Src.names Src.zoneNames Src.linkNames;simp only at hr1 hr3 hz1 hz3 hl1 hl3 hlen hers L1 L2 L3 ⊢;obtain⟨n1,hn1⟩:=aj (rules.length)
 obtain⟨n2,hn2⟩:=aj (zones.length)
 obtain⟨n3,hn3⟩:=aj (links.length)
 rw[hn1] at L1 ⊢;rw[hn2] at hz3 L2 hz1 ⊢;rw[hn3] at hl3 L3 hl1 ⊢;obtain⟨ZN,hZN⟩:=aj ((zones.map fun z=>Src.bts z.1))
 obtain⟨LN,hLN⟩:=aj ((links.map fun k=>Src.bts k.2))
 have hzl:ZN.length=n2:=by rw[← hZN];simp[hn2]
 have hll:LN.length=n3:=by rw[← hLN];simp[hn3]
 rw[hZN,hLN];have HZN:=ak hZN;have HLN:=ak hLN;have HZL:=ak hzl;have HLL:=ak hll;have HRZ:=ak hz3;have HRL:=ak hl3;have HLen:=ak (show (zones.zip evs).length=n2 by simp[hlen,hn2]);have HLe2:=ak hn3;have HSl:=ak (show ∀p∈zones.zip evs,∃A n c,p.2=Value.slice A n c from fun p hp=>by obtain⟨A,c,e,_⟩:=hers p hp;exact⟨A,_,c,e⟩);clear hZN hLN hn1 hn2 hn3 hz3 hl3 hr3 hers hlen hzl hll hr1 hr2;unfold maxLen at hz2 hl2;obtain⟨i0,i1,i2,i3,i4⟩:=info_parts str_info;have HI:=ak (And.intro i1 (And.intro i2 (And.intro i3 i4)));clear i1 i2 i3 i4;obtain⟨m,hm⟩:∃m:Nat,n2+n3=m:=⟨_,rfl⟩
 have hmk:=fun W:World=>run_make (P:=Tryz.prog) W 38 9 i0 _ Tryz.underlying38 HI.out.1 HI.out.2.1 .i64 .i64 0 (m:Int) (by omega) (by omega) (by rw[HI.out.2.2.2];omega) (by omega)
 rw[HI.out.2.2.1] at hmk;obtain⟨MC,hMC⟩:=aj (madeCells (Value.string ⟨#[]⟩).cells ((m:Int).toNat*1))
 rw[hMC] at hmk;have hMs:MC.size=m:=by rw[← hMC,size_madeCells];simp
 have hwm:IntKind.i64.wrap ((n2:Int)+(n3:Int))=(m:Int):=by
  rw[show (n2:Int)+(n3:Int)=(m:Int) by omega];exact IntWalk.i64_in _ (by omega)
 clear hMC;obtain⟨W0,hW0⟩:=aj (w.alloc (.cells #[.slice rA n1 rc,.slice zA n2 zc,.slice lA n3 lc] 26))
 have HB0:=ak (show Below w.heap.size w W0 by rw[← hW0];exact al);have HA0:=ak (show At W0 w.heap.size [.slice rA n1 rc,.slice zA n2 zc,.slice lA n3 lc] by rw[← hW0];exact At.new w #[.slice rA n1 rc,.slice zA n2 zc,.slice lA n3 lc] 26);have hs0:W0.heap.size=w.heap.size+1:=by rw[← hW0];simp
 obtain⟨h,hh⟩:=aj (w.heap.size)
 rw[hh] at HA0 hs0;have HS0:=ak hs0;have HH:=ak hh;obtain⟨a0,a1,a2,_⟩:=HA0.out.three;have HO0:=ak (show (W0.alloc (.cells MC 9)).ownsRow W0.heap.size 9 1 (.slice (some ⟨W0.heap.size,0,none⟩) 0 m) 0 [] from World.ownsRow_made W0 MC m (Nat.le_refl _) (by unfold maxLen;omega) (by omega));have b1:(W0.alloc (.cells MC 9)).cell? ⟨h,1,none⟩=some (.slice zA n2 zc):=(HA0.out.allocO _).cell 1 _ rfl;clear hs0;go_enter Tryz.func59,Tryz.ntmps59
 go_wp2_with fail
 clear hW0 hh a0 a1 a2 b1;go_loopw [3,19] (fun v i wr=>Src.NRel W0 h [.slice rA n1 rc,.slice zA n2 zc,.slice lA n3 lc] [] ZN n2 v i wr) (fun _ i _=>n2 - (intOf i).toNat)
 case atStart=>exact⟨0,Nat.zero_le _,rfl,HO0.out,HA0.out.allocO _,al⟩
 case round=>
  obtain⟨k,hk,rfl,HO,HA,HB⟩:=hrel;replace HO:=ak (show wr.ownsRow W0.heap.size 9 1 _ k ((ZN.take k).map Value.string) by simpa using HO.out);obtain⟨vA,vc,hv,hv1,hv2⟩:=own_slice_cap HO.out;subst hv;have hwr:=HB.out.size;have hs0:h<W0.heap.size:=by have:=HS0.out;omega
  by_cases hlt:k<n2
  ·have q1:=am k
   have q2:(k:Int)<(n2:Int):=(by omega);have HBw:=ak (below_then HB0.out HB.out);obtain⟨ad,x,rfl,hab,Hx,HLc⟩:=Ix.reads_cells (enc:=Src.zc) (m:=2) (fun _=>rfl) HLen.out (HRZ.out.below HBw.out) hlt;obtain⟨xA,xn,xc,hx2⟩:=HSl.out x (List.mem_of_getElem? Hx.out);obtain⟨xb,hxb⟩:=aj (Src.bts x.1.1)
   have c0:wr.cell? (ad.add (k*2))=some (.string xb):=by rw[← hxb];exact HLc.out 0 _ rfl
   have c1:wr.cell? ⟨(ad.add (k*2)).block,(ad.add (k*2)).off+1,none⟩=some (.slice xA xn xc):=by rw[← hx2];exact HLc.out 1 _ rfl
   have hzk:ZN[k]?=some xb:=by
    rw[← HZN.out,List.getElem?_map,(List.getElem?_zip_eq_some.1 Hx.out).1,← hxb];rfl
   have HTK:=ak (Src.more_one hzk);have HAp:=fun {ops:Array Oper} {rest:List Oper} {o:Oper} {a:Act} {Q:Exit→Act→World→Prop} (hgd:o.guard=none) (ho:o.op=.call { callee:=.builtin .append,args:=#[.tmp 23,.tmp 26],argTypes:=#[38,38] }) (hs:a.eval (.tmp 23)=.slice vA k vc) (hx:a.eval (.tmp 26)=.slice (some ⟨wr.heap.size+1,0,none⟩) 1 1) h=>wpList_append_any (P:=Tryz.prog) (ops:=ops) (rest:=rest) (o:=o) (a:=a) (Q:=Q) ((wr.alloc (.cells #[.string xb,.slice xA xn xc] 117)).alloc (.cells #[.string xb] 9)) hgd (.tmp 23) (.tmp 26) 38 ho W0.heap.size 9 i0 _ 1 16 Tryz.underlying38 HI.out.1 HI.out.2.1 HI.out.2.2.1 HI.out.2.2.2 rfl (by decide) _ k _ hs ((HO.out.alloc _).alloc _) ((wr.alloc (.cells #[.string xb,.slice xA xn xc] 117)).alloc (.cells #[.string xb] 9)).heap.size _ 1 1 _ hx (er_reads (wr.alloc (.cells #[.string xb,.slice xA xn xc] 117)) (wr.heap.size+1) [xb] 9 (by simp)) (by simp[Value.oneCell']) (by unfold maxLen;omega) (by omega) (by simp;omega) h
   clear hx2 hxb hzk;go_wp2_with (at_builtin;refine HAp rfl rfl rfl rfl ?_;intro v9' w9 hown9 hg9 hat9)
   have HA9:=ak (Sc.At.grownO ((HA.out.allocO (.cells #[.string xb,.slice xA xn xc] 117)).allocO (.cells #[.string xb] 9)) hg9 (fun kk hkk=>by have:=(HO.out.lt kk hkk).1;omega));have HO9:=ak (show w9.ownsRow W0.heap.size 9 1 v9' (([]:List ByteArray).length+(k+1)) (([]:List ByteArray).map Value.string ++ (ZN.take (k+1)).map Value.string) by rw[HTK.out];simpa using hown9);have HB9:=ak (show Below W0.heap.size W0 w9 from((HB.out.alloc HB.out.size _).alloc (by simp;omega) _).grown hg9 (by simp;omega) (fun kk hkk=>(HO.out.lt kk hkk).1));clear hown9 hg9 hat9 HAp c0 c1 hs0;go_wp2;go_roundw
   case rel=>exact⟨k+1,by omega,by go_num,HO9.out,HA9.out,HB9.out⟩
   case measure=>simp[intOf];omega
  ·have q2:¬(k:Int)<(n2:Int):=(by omega);have hkn:k=n2:=(by omega);subst hkn;obtain⟨a0,a1,a2,_⟩:=HA.out.three;have HO2:=ak (show wr.ownsRow W0.heap.size 9 1 (.slice vA k vc) (ZN.length+0) (ZN.map Value.string ++ (LN.take 0).map Value.string) by
    have:=HO.out;rw[List.take_of_length_le (by rw[HZL.out];exact Nat.le_refl _)] at this;simpa [HZL.out] using this)
   clear hs0;go_wp2_with fail
   clear a0 a1 a2;go_loopw [3,32] (fun v i wr=>Src.NRel W0 h [.slice rA n1 rc,.slice zA k zc,.slice lA n3 lc] ZN LN n3 v i wr) (fun _ i _=>n3 - (intOf i).toNat)
   case atStart=>exact⟨0,Nat.zero_le _,rfl,HO2.out,HA.out,HB.out⟩
   case round=>
    clear HO HA HB HO2 hwr hv1 hv2;obtain⟨j,hj,rfl,HO,HA,HB⟩:=hrel;obtain⟨vA,vc,hv,hv1,hv2⟩:=own_slice_cap HO.out;subst hv;have hwr:=HB.out.size;have hs0:h<W0.heap.size:=by have:=HS0.out;omega
    have hzl2:=HZL.out
    by_cases hlt2:j<n3
    ·have q1:=am j
     have q3:(j:Int)<(n3:Int):=(by omega);have HBw:=ak (below_then HB0.out HB.out);obtain⟨ad,x,rfl,hab,Hx,HLc⟩:=Ix.reads_cells (enc:=Src.lc) (m:=2) (fun _=>rfl) HLe2.out (HRL.out.below HBw.out) hlt2;obtain⟨xa,hxa⟩:=aj (Src.bts x.1)
     obtain⟨xb,hxb⟩:=aj (Src.bts x.2)
     have c0:wr.cell? (ad.add (j*2))=some (.string xa):=by rw[← hxa];exact HLc.out 0 _ rfl
     have c1:wr.cell? ⟨(ad.add (j*2)).block,(ad.add (j*2)).off+1,none⟩=some (.string xb):=by rw[← hxb];exact HLc.out 1 _ rfl
     have hzk:LN[j]?=some xb:=by
      rw[← HLN.out,List.getElem?_map,Hx.out,← hxb];rfl
     have HTK:=ak (Src.more_one hzk);obtain⟨kj,hkj⟩:=aj (ZN.length+j)
     have HKJ:=ak hkj;rw[hkj] at HO ⊢;have HAp:=fun {ops:Array Oper} {rest:List Oper} {o:Oper} {a:Act} {Q:Exit→Act→World→Prop} (hgd:o.guard=none) (ho:o.op=.call { callee:=.builtin .append,args:=#[.tmp 36,.tmp 39],argTypes:=#[38,38] }) (hs:a.eval (.tmp 36)=.slice vA kj vc) (hx:a.eval (.tmp 39)=.slice (some ⟨wr.heap.size+1,0,none⟩) 1 1) h=>wpList_append_any (P:=Tryz.prog) (ops:=ops) (rest:=rest) (o:=o) (a:=a) (Q:=Q) ((wr.alloc (.cells #[.string xa,.string xb] 114)).alloc (.cells #[.string xb] 9)) hgd (.tmp 36) (.tmp 39) 38 ho W0.heap.size 9 i0 _ 1 16 Tryz.underlying38 HI.out.1 HI.out.2.1 HI.out.2.2.1 HI.out.2.2.2 rfl (by decide) _ kj _ hs ((HO.out.alloc _).alloc _) ((wr.alloc (.cells #[.string xa,.string xb] 114)).alloc (.cells #[.string xb] 9)).heap.size _ 1 1 _ hx (er_reads (wr.alloc (.cells #[.string xa,.string xb] 114)) (wr.heap.size+1) [xb] 9 (by simp)) (by simp[Value.oneCell']) (by unfold maxLen;omega) (by omega) (by simp;omega) h
     clear hxa hxb hzk;go_wp2_with (at_builtin;refine HAp rfl rfl rfl rfl ?_;intro v9' w9 hown9 hg9 hat9)
     have HA9:=ak (Sc.At.grownO ((HA.out.allocO (.cells #[.string xa,.string xb] 114)).allocO (.cells #[.string xb] 9)) hg9 (fun kk hkk=>by have:=(HO.out.lt kk hkk).1;omega));have HO9:=ak (show w9.ownsRow W0.heap.size 9 1 v9' (ZN.length+(j+1)) (ZN.map Value.string ++ (LN.take (j+1)).map Value.string) by rw[HTK.out,← List.append_assoc,← Nat.add_assoc,HKJ.out];exact hown9);have HB9:=ak (show Below W0.heap.size W0 w9 from((HB.out.alloc HB.out.size _).alloc (by simp;omega) _).grown hg9 (by simp;omega) (fun kk hkk=>(HO.out.lt kk hkk).1));clear hown9 hg9 hat9 HAp c0 c1 hs0 hzl2 hkj;go_wp2;go_roundw
     case rel=>exact⟨j+1,by omega,by go_num,HO9.out,HA9.out,HB9.out⟩
     case measure=>simp[intOf];omega
    ·have q3:¬(j:Int)<(n3:Int):=(by omega);have hjn:j=n3:=(by omega);subst hjn;have he:ZN.length+j=m:=(by omega);clear hs0;go_wp2;go_ret
     refine⟨vA,vc,rfl,below_then HB0.out HB.out,by omega,hv2,?_⟩;have:=HO.out;rw[List.take_of_length_le (by rw[HLL.out];exact Nat.le_refl _),he] at this;exact⟨this.1,this.2.imp id fun⟨g,cap,cur,q1,q2,q3⟩=>⟨g,cap,cur,q1,by have:=HS0.out;have:=HH.out;omega,q3⟩⟩
end Go.Proofs.YtjobhjemnmleaaaGreatDoor
namespace Go.Proofs.YtjobhjemnmleaaaGreatDoor
open Go.RowKit
theorem reads_cells_at (w:World)(g:Nat)(cs:Array Value)(m:Nat)(t:TypeId)(hg:g=w.heap.size)(hm:cs.size=m):Reads (w.alloc (.cells cs t)) (w.alloc (.cells cs t)).heap.size m (some ⟨g,0,none⟩) 1 cs.toList:=by
 subst hg;refine⟨by simpa using hm,fun _=>⟨_,rfl,by simp,fun j u hu=>cells_new w cs t j u hu⟩⟩
namespace Src
def ofName (name:ByteArray)(l:List Ru.R):List Ru.R:=l.filter fun r=>decide (r.nm=name)
theorem ofName_yes {name:ByteArray}{l:List Ru.R}{k:Nat}{r:Ru.R}(h:l[k]?=some r)(hn:r.nm=name):ofName name (l.take (k+1))=ofName name (l.take k) ++ [r]:=by
 unfold ofName;rw[List.take_add_one,h];simp[hn]
theorem ofName_no {name:ByteArray}{l:List Ru.R}{k:Nat}{r:Ru.R}(h:l[k]?=some r)(hn:¬r.nm=name):ofName name (l.take (k+1))=ofName name (l.take k):=by
 unfold ofName;rw[List.take_add_one,h];simp[hn]
theorem ofName_le (name:ByteArray)(l:List Ru.R)(k:Nat):(ofName name (l.take k)).length≤k:=by
 unfold ofName;exact Nat.le_trans (List.length_filter_le _ _) (by simp;omega)
def RRel (W0:World)(name:ByteArray)(l:List Ru.R)(n:Nat)(v i:Value)(wr:World):Prop:=
 ∃k:Nat,k≤n∧i=.int .i64 k∧Hid (wr.ownsRow W0.heap.size 112 11 v (ofName name (l.take k)).length ((ofName name (l.take k)).flatMap Ru.R.cells))∧Hid (Below W0.heap.size W0 wr)
end Src
theorem srcRules_any (s:Src.S)(rv zv lv:Value)(evs:List Value)(name:ByteArray)(w:World)(hR:Src.SrcR w w.heap.size s rv zv lv evs)(hL:s.rules.length≤4096):
  Calls Tryz.prog 148 #[.agg #[rv,zv,lv],.string name] w fun e w'=>∃v,e=.returned v∧Below w.heap.size w w'∧w'.ownsRow w.heap.size 112 11 v (Src.ofName name s.rules).length ((Src.ofName name s.rules).flatMap Ru.R.cells):=by
 obtain⟨rules,zones,links,op⟩:=s;obtain⟨⟨rA,rc,rfl,hr1,hr2,hr3⟩,⟨zA,zc,rfl,hz1,hz2,hz3⟩,⟨lA,lc,rfl,hl1,hl2,hl3⟩,hlen,hers⟩:=hR;simp only at hr1 hr3 hL ⊢;obtain⟨n1,hn1⟩:=aj (rules.length)
 obtain⟨n2,hn2⟩:=aj (zones.length)
 obtain⟨n3,hn3⟩:=aj (links.length)
 rw[hn1] at hr3 hL hr1 ⊢;rw[hn2,hn3];have HN:=ak hn1;have HR:=ak hr3;unfold maxLen at hr2;obtain⟨i0,i1,i2,i3,i4⟩:=info_parts rule_info;have HI:=ak (And.intro i1 (And.intro i2 (And.intro i3 i4)));clear i1 i2 i3 i4 hn1 hn2 hn3 hr3 hz1 hz2 hz3 hl1 hl2 hl3 hlen hers;obtain⟨W0,hW0⟩:=aj (w.alloc (.cells #[.slice rA n1 rc,.slice zA n2 zc,.slice lA n3 lc] 26))
 have HB0:=ak (show Below w.heap.size w W0 by rw[← hW0];exact al);have hs0:w.heap.size<W0.heap.size:=by rw[← hW0];simp
 have HA0:=ak (show At W0 w.heap.size [.slice rA n1 rc,.slice zA n2 zc,.slice lA n3 lc] by rw[← hW0];exact At.new w #[.slice rA n1 rc,.slice zA n2 zc,.slice lA n3 lc] 26);obtain⟨a0,a1,a2,_⟩:=HA0.out.three;go_enter Tryz.func148,Tryz.ntmps148
 go_wp2_with fail
 clear hW0 a0 a1 a2;go_loopw [5,11] (fun v i wr=>Src.RRel W0 name rules n1 v i wr) (fun _ i _=>n1 - (intOf i).toNat)
 case atStart=>exact⟨0,Nat.zero_le _,rfl,World.ownsRow_nil _ _ _ _,Below.refl _ _⟩
 case round=>
  obtain⟨k,hk,rfl,HO,HB⟩:=hrel;obtain⟨q,hq⟩:=aj ((Src.ofName name (rules.take k)).length)
  have hqk:q≤k:=by rw[← hq];exact Src.ofName_le name rules k
  rw[hq] at HO;have HQ:=ak hq;obtain⟨vA,vc,hv,hv1,hv2⟩:=own_slice_cap HO.out;subst hv;have hwr:=HB.out.size;clear hq
  by_cases hlt:k<n1
  ·have q1:=am k
   have q2:(k:Int)<(n1:Int):=(by omega);have HBw:=ak (below_then HB0.out HB.out);obtain⟨ad,x,rfl,hab,Hx,HLc⟩:=Ix.reads_cells (enc:=Ru.R.cells) (m:=11) (fun _=>rfl) HN.out (HR.out.below HBw.out) hlt;obtain⟨nm,fr,tt,mo,kk,nn,d,sc,cc,sv,lt⟩:=x;have x0:wr.cell? (ad.add (k*11))=some (.string nm):=HLc.out 0 _ rfl;have x1:wr.cell? ⟨(ad.add (k*11)).block,(ad.add (k*11)).off+1,none⟩=some (.int .i64 fr):=HLc.out 1 _ rfl;have x2:wr.cell? ⟨(ad.add (k*11)).block,(ad.add (k*11)).off+2,none⟩=some (.int .i64 tt):=HLc.out 2 _ rfl;have x3:wr.cell? ⟨(ad.add (k*11)).block,(ad.add (k*11)).off+3,none⟩=some (.int .i64 mo):=HLc.out 3 _ rfl;have x4:wr.cell? ⟨(ad.add (k*11)).block,(ad.add (k*11)).off+4,none⟩=some (.int .u8 kk):=HLc.out 4 _ rfl;have x5:wr.cell? ⟨(ad.add (k*11)).block,(ad.add (k*11)).off+5,none⟩=some (.int .i64 nn):=HLc.out 5 _ rfl;have x6:wr.cell? ⟨(ad.add (k*11)).block,(ad.add (k*11)).off+6,none⟩=some (.int .i64 d):=HLc.out 6 _ rfl;have x7:wr.cell? ⟨(ad.add (k*11)).block,(ad.add (k*11)).off+7,none⟩=some (.int .i64 sc):=HLc.out 7 _ rfl;have x8:wr.cell? ⟨(ad.add (k*11)).block,(ad.add (k*11)).off+8,none⟩=some (.int .u8 cc):=HLc.out 8 _ rfl;have x9:wr.cell? ⟨(ad.add (k*11)).block,(ad.add (k*11)).off+9,none⟩=some (.int .i64 sv):=HLc.out 9 _ rfl;have x10:wr.cell? ⟨(ad.add (k*11)).block,(ad.add (k*11)).off+10,none⟩=some (.string lt):=HLc.out 10 _ rfl
   by_cases hnm:nm=name
   ·have hyes:=Src.ofName_yes Hx.out hnm;have HY:=ak hyes;subst hnm;have b0:(nm == nm)=true:=by rw[beq_toListBytes];simp
    have b1:(nm.toList == nm.toList)=true:=(by simp);have HAp:=fun {ops:Array Oper} {rest:List Oper} {o:Oper} {a:Act} {Q:Exit→Act→World→Prop} (hgd:o.guard=none) (ho:o.op=.call { callee:=.builtin .append,args:=#[.tmp 19,.tmp 21],argTypes:=#[22,22] }) (hs:a.eval (.tmp 19)=.slice vA q vc) (hx:a.eval (.tmp 21)=.slice (some ⟨wr.heap.size+1,0,none⟩) 1 1) h=>wpList_append_any (P:=Tryz.prog) (ops:=ops) (rest:=rest) (o:=o) (a:=a) (Q:=Q) ((wr.alloc (.cells #[.string nm,.int .i64 fr,.int .i64 tt,.int .i64 mo,.int .u8 kk,.int .i64 nn,.int .i64 d,.int .i64 sc,.int .u8 cc,.int .i64 sv,.string lt] 112)).alloc (.cells #[.string nm,.int .i64 fr,.int .i64 tt,.int .i64 mo,.int .u8 kk,.int .i64 nn,.int .i64 d,.int .i64 sc,.int .u8 cc,.int .i64 sv,.string lt] 112)) hgd (.tmp 19) (.tmp 21) 22 ho W0.heap.size 112 i0 _ 11 104 Tryz.underlying22 HI.out.1 HI.out.2.1 HI.out.2.2.1 HI.out.2.2.2 rfl (by decide) _ q _ hs ((HO.out.alloc _).alloc _) ((wr.alloc (.cells #[.string nm,.int .i64 fr,.int .i64 tt,.int .i64 mo,.int .u8 kk,.int .i64 nn,.int .i64 d,.int .i64 sc,.int .u8 cc,.int .i64 sv,.string lt] 112)).alloc (.cells #[.string nm,.int .i64 fr,.int .i64 tt,.int .i64 mo,.int .u8 kk,.int .i64 nn,.int .i64 d,.int .i64 sc,.int .u8 cc,.int .i64 sv,.string lt] 112)).heap.size _ 1 1 [.string nm,.int .i64 fr,.int .i64 tt,.int .i64 mo,.int .u8 kk,.int .i64 nn,.int .i64 d,.int .i64 sc,.int .u8 cc,.int .i64 sv,.string lt] hx (reads_cells_at (wr.alloc (.cells #[.string nm,.int .i64 fr,.int .i64 tt,.int .i64 mo,.int .u8 kk,.int .i64 nn,.int .i64 d,.int .i64 sc,.int .u8 cc,.int .i64 sv,.string lt] 112)) (wr.heap.size+1) #[.string nm,.int .i64 fr,.int .i64 tt,.int .i64 mo,.int .u8 kk,.int .i64 nn,.int .i64 d,.int .i64 sc,.int .u8 cc,.int .i64 sv,.string lt] 11 112 (by simp) (by rfl)) (by simp[Value.oneCell']) (by unfold maxLen;omega) (by omega) (by simp;omega) h
    clear hyes;go_wp2_with (at_builtin;refine HAp rfl rfl rfl rfl ?_;intro v9' w9 hown9 hg9 hat9)
    have HO9:=ak (show w9.ownsRow W0.heap.size 112 11 v9' (Src.ofName nm (rules.take (k+1))).length ((Src.ofName nm (rules.take (k+1))).flatMap Ru.R.cells) by rw[HY.out,List.length_append,HQ.out,List.flatMap_append];exact hown9);have HB9:=ak (show Below W0.heap.size W0 w9 from((HB.out.alloc HB.out.size _).alloc (by simp;omega) _).grown hg9 (by simp;omega) (fun kk hkk=>(HO.out.lt kk hkk).1));clear hown9 hg9 hat9 HAp x0 x1 x2 x3 x4 x5 x6 x7 x8 x9 x10 b0 b1;go_wp2;go_roundw
    case rel=>exact⟨k+1,by omega,by go_num,HO9.out,HB9.out⟩
    case measure=>simp[intOf];omega
   ·have HY:=ak (Src.ofName_no Hx.out hnm);have b1:(nm.toList == name.toList)=false:=by
     rw[beq_eq_false_iff_ne];intro e;exact hnm ((toList_eq_iff _ _).1 e)
    have b0:(nm == name)=false:=by rw[beq_toListBytes];exact b1
    have HO9:=ak (show (wr.alloc (.cells #[.string nm,.int .i64 fr,.int .i64 tt,.int .i64 mo,.int .u8 kk,.int .i64 nn,.int .i64 d,.int .i64 sc,.int .u8 cc,.int .i64 sv,.string lt] 112)).ownsRow W0.heap.size 112 11 (.slice vA q vc) (Src.ofName name (rules.take (k+1))).length ((Src.ofName name (rules.take (k+1))).flatMap Ru.R.cells) by rw[HY.out,HQ.out];exact HO.out.alloc _);have HB9:=ak (HB.out.alloc HB.out.size (.cells #[.string nm,.int .i64 fr,.int .i64 tt,.int .i64 mo,.int .u8 kk,.int .i64 nn,.int .i64 d,.int .i64 sc,.int .u8 cc,.int .i64 sv,.string lt] 112));clear hnm;go_wp2;go_roundw
    case rel=>exact⟨k+1,by omega,by go_num,HO9.out,HB9.out⟩
    case measure=>simp[intOf];omega
  ·have q2:¬(k:Int)<(n1:Int):=(by omega);have HF:=ak (show wr.ownsRow W0.heap.size 112 11 (.slice vA q vc) (Src.ofName name rules).length ((Src.ofName name rules).flatMap Ru.R.cells) by
    have h1:=HO.out;have h2:=HQ.out;rw[List.take_of_length_le (by rw[HN.out];omega)] at h1 h2;rw[h2];exact h1)
   go_wp2;go_ret
   exact⟨_,rfl,below_then HB0.out HB.out,Sc.own_mono HF.out (by omega)⟩
end Go.Proofs.YtjobhjemnmleaaaGreatDoor
namespace Go.Proofs.YtjobhjemnmleaaaGreatDoor
open Go.RowKit
namespace Ln
structure Sp where
 fr:Int
 off:Int
 dst:Bool
instance decSp : DecidableEq Sp:=fun a b=>decidable_of_iff (a.fr=b.fr∧a.off=b.off∧a.dst=b.dst) (by cases a;cases b;simp)
def Sp.cells (p:Sp):List Value:=[.int .i64 p.fr,.int .i64 p.off,.bool p.dst]
def Sp.v (p:Sp):Value:=.agg #[.int .i64 p.fr,.int .i64 p.off,.bool p.dst]
def alike (a b:Sp):Bool:=decide (a.off=b.off) && decide (a.dst=b.dst)
def piece (t std sv:Int):Sp:=⟨t,std+sv,decide (sv≠0)⟩
def push : List Sp→Sp→List Sp
 |[],p=>[p]
 |q :: b,p=>if alike q p=true then ⟨p.fr,q.off,q.dst⟩ :: b else p :: q :: b
def inGo (std fr:Int):List Oc.E→Int→List Sp
 |[],_=>[piece fr std 0]
 |o :: x,te=>if te≤Oc.ti std o then inGo std fr x te else if Oc.ti std o≤fr then [piece fr std o.sv] else piece (Oc.ti std o) std o.sv :: inGo std fr x (Oc.ti std o)
def yr (t:Int):Int:=Cv.yearOf (t / 86400)
def inEra (rules:List Ru.R)(e:Er.E)(fr te:Int):List Sp:=
 if e.k=2 then inGo e.std fr (Oc.of (Src.ofName e.ru rules) (yr fr - 1) (yr (te - 1)+1)).reverse te else [piece fr e.std e.sv]
def maxs (ends:List Int)(fr:Int)(k:Nat):Int:=(ends.take k).foldl max fr
def upto (ends:List Int)(te:Int)(k:Nat):Int:=match ends[k]? with
 |some x=>min te x
 |none=>te
def pieces (rules:List Ru.R)(eras:List Er.E)(ends:List Int)(fr te:Int):Nat→List Sp
 |0=>[]
 |k+1=>(if upto ends te k≤maxs ends fr k then [] else inEra rules (eras.getD k Er.E.zero) (maxs ends fr k) (upto ends te k)) ++ pieces rules eras ends fr te k
def line (rules:List Ru.R)(eras:List Er.E)(ends:List Int)(fr te:Int):List Sp:=(pieces rules eras ends fr te eras.length).foldl push []
def hold : List Int→Int→Nat
 |[],_=>0
 |x :: ends,t=>if t<x then 0 else hold ends t+1
def occAt (rules:List Ru.R)(e:Er.E)(t:Int):Option Oc.E:=
 if e.k=2 then Oc.lastP (Oc.of (Src.ofName e.ru rules) (yr t - 1) (yr t+1)) fun o=>decide (Oc.ti e.std o≤t) else none
def saveAt (rules:List Ru.R)(e:Er.E)(t:Int):Int:=if e.k=1 then e.sv else Oc.svO (occAt rules e t)
def setAt (rules:List Ru.R)(e:Er.E)(t:Int):Int × Bool:=(e.std+saveAt rules e t,decide (saveAt rules e t≠0))
def st (rules:List Ru.R)(eras:List Er.E)(ends:List Int)(t:Int):Int × Bool:=setAt rules (eras.getD (hold ends t) Er.E.zero) t
theorem hold_le : ∀(ends:List Int) (t:Int),hold ends t≤ends.length
 |[],_=>Nat.le_refl _
 |x :: ends,t=>by
  unfold hold;split
  ·exact Nat.zero_le _
  ·exact Nat.succ_le_succ (hold_le ends t)
theorem hold_is : ∀(ends:List Int) (t:Int) (k:Nat),k≤ends.length→(∀i x,i<k→ends[i]?=some x→x≤t)→(∀x,ends[k]?=some x→t<x)→hold ends t=k
 |[],t,k,h,_,_=>by simp at h;subst h;rfl
 |x :: ends,t,0,_,_,h=>by
  unfold hold;rw[if_pos (h x rfl)]
 |x :: ends,t,k+1,h,h1,h2=>by
  have:=h1 0 x (Nat.succ_pos _) rfl;unfold hold;rw[if_neg (by omega),hold_is ends t k (by simpa using h) (fun i y hi hy=>h1 (i+1) y (by omega) (by simpa using hy)) (fun y hy=>h2 y (by simpa using hy))]
theorem maxs_zero (ends:List Int)(fr:Int):maxs ends fr 0=fr:=rfl
theorem maxs_succ (ends:List Int)(fr:Int)(k:Nat){x:Int}(h:ends[k]?=some x):maxs ends fr (k+1)=max (maxs ends fr k) x:=by
 unfold maxs;rw[List.take_add_one,h,List.foldl_append];rfl
theorem foldl_max_ge : ∀(l:List Int) (a:Int),a≤l.foldl max a∧∀x∈l,x≤l.foldl max a
 |[],a=>⟨Int.le_refl _,fun x hx=>by cases hx⟩
 |y :: l,a=>by
  have h:=foldl_max_ge l (max a y);rw[List.foldl_cons];refine⟨by omega,fun x hx=>?_⟩;rcases List.mem_cons.1 hx with rfl|hx
  ·omega
  ·exact h.2 x hx
theorem maxs_ge (ends:List Int)(fr:Int)(k:Nat):fr≤maxs ends fr k∧∀i x,i<k→ends[i]?=some x→x≤maxs ends fr k:=by
 have h:=foldl_max_ge (ends.take k) fr;refine⟨h.1,fun i x hi hx=>h.2 x ?_⟩;exact List.mem_of_getElem? (by rw[List.getElem?_take_of_lt hi];exact hx)
def Cov (f:Int→Int × Bool)(te:Int):Int→List Sp→Prop
 |c,[]=>c=te
 |c,a :: A=>a.fr=c∧∃d,c<d∧d≤te∧(∀t,c≤t→t<d→f t=(a.off,a.dst))∧Cov f te d A∧∀b,A.head?=some b→alike a b=false
def Tells (f:Int→Int × Bool):Int→List Sp→Int→Prop
 |c,[],d=>c=d
 |c,p :: l,d=>p.fr<c∧(∀t,p.fr≤t→t<c→f t=(p.off,p.dst))∧Tells f p.fr l d
theorem Tells.append {f:Int→Int × Bool}:∀{l:List Sp} {m:List Sp} {c b d:Int},Tells f c l b→Tells f b m d→Tells f c (l ++ m) d
 |[],m,c,b,d,h,k=>by
  obtain rfl:c=b:=h;exact k
 |p :: l,m,c,b,d,h,k=>⟨h.1,h.2.1,Tells.append h.2.2 k⟩
theorem alike_iff {a b:Sp}:alike a b=true↔a.off=b.off∧a.dst=b.dst:=by unfold alike;simp
theorem alike_comm (a b:Sp):alike a b=alike b a:=by
 rw[Bool.eq_iff_iff,alike_iff,alike_iff];constructor
 ·rintro ⟨h,k⟩;exact⟨h.symm,k.symm⟩
 ·rintro ⟨h,k⟩;exact⟨h.symm,k.symm⟩
theorem Cov.push {f:Int→Int × Bool}{te:Int}{A:List Sp}{c:Int}{p:Sp}(h:Cov f te c A)(hp:p.fr<c)(hf:∀t,p.fr≤t→t<c→f t=(p.off,p.dst)):Cov f te p.fr (push A p):=by
 cases A with
 |nil=>
  obtain rfl:c=te:=h;exact⟨rfl,c,hp,Int.le_refl _,hf,rfl,fun b hb=>by cases hb⟩
 |cons q A=>
  obtain⟨rfl,d,h1,h2,h3,h4,h5⟩:=h;show Cov f te p.fr (if alike q p=true then ⟨p.fr,q.off,q.dst⟩ :: A else p :: q :: A)
  by_cases ha:alike q p=true
  ·rw[if_pos ha];rw[alike_iff] at ha;refine⟨rfl,d,by show p.fr<d;omega,h2,fun t h6 h7=>?_,h4,fun b hb=>?_⟩
   ·rcases Int.lt_or_le t q.fr with r|r
    ·rw[hf t h6 r,ha.1,ha.2]
    ·exact h3 t r h7
   ·have:=h5 b hb;unfold alike at this ⊢;exact this
  ·rw[if_neg ha];refine⟨rfl,q.fr,hp,by omega,hf,⟨rfl,d,h1,h2,h3,h4,h5⟩,fun b hb=>?_⟩;obtain rfl:q=b:=by simpa using hb
   rw[alike_comm];simpa using ha
theorem Cov.foldl {f:Int→Int × Bool}{te:Int}:∀{l:List Sp} {A:List Sp} {c d:Int},Cov f te c A→Tells f c l d→Cov f te d (l.foldl Ln.push A)
 |[],A,c,d,h,k=>by
  obtain rfl:c=d:=k;exact h
 |p :: l,A,c,d,h,k=>Cov.foldl (l:=l) (A:=Ln.push A p) (h.push k.1 k.2.1) k.2.2
theorem Cov.one {f:Int→Int × Bool}{te:Int}:∀{A B:List Sp} {c:Int},Cov f te c A→Cov f te c B→A=B
 |[],[],_,_,_=>rfl
 |[],b :: B,c,h,⟨_,d,h1,h2,_⟩=>by
  have:c=te:=h;omega
 |a :: A,[],c,⟨_,d,h1,h2,_⟩,h=>by
  have:c=te:=h;omega
 |a :: A,b :: B,c,⟨ha,d,h1,h2,h3,h4,h5⟩,⟨hb,e,k1,k2,k3,k4,k5⟩=>by
  have hab:(a.off,a.dst)=(b.off,b.dst):=(h3 c (Int.le_refl _) h1).symm.trans (k3 c (Int.le_refl _) k1);have hab2:a=b:=by
   obtain⟨x,y,z⟩:=a;obtain⟨x',y',z'⟩:=b;simp only at ha hb hab
   injection hab with e1 e2
   subst ha hb e1 e2;rfl
  subst hab2;have hde:d=e:=by
   rcases Int.lt_trichotomy d e with q|q|q
   ·cases A with
    |nil=>
     have:d=te:=h4;omega
    |cons x A=>
     obtain⟨rfl,d',g1,g2,g3,_⟩:=h4;have e1:=(g3 x.fr (Int.le_refl _) g1).symm.trans (k3 x.fr (by omega) q);have e2:=h5 x rfl
     injection e1 with e3 e4
     rw[alike_iff.2 ⟨e3.symm,e4.symm⟩] at e2;cases e2
   ·exact q
   ·cases B with
    |nil=>
     have:e=te:=k4;omega
    |cons x B=>
     obtain⟨rfl,d',g1,g2,g3,_⟩:=k4;have e1:=(g3 x.fr (Int.le_refl _) g1).symm.trans (h3 x.fr (by omega) q);have e2:=k5 x rfl
     injection e1 with e3 e4
     rw[alike_iff.2 ⟨e3.symm,e4.symm⟩] at e2;cases e2
  subst hde;rw[Cov.one h4 k4]
theorem find_lastP (x:List Oc.E)(P:Oc.E→Bool):x.reverse.find? P=Oc.lastP x P:=by
 unfold Oc.lastP;rw[← List.head?_filter,List.filter_reverse,List.head?_reverse]
theorem inGo_tells {f:Int→Int × Bool}{std fr:Int}:∀(x:List Oc.E) (te:Int),fr<te→
  (∀t,fr≤t→t<te→f t=(std+Oc.svO (x.find? fun o=>decide (Oc.ti std o≤t)),decide (Oc.svO (x.find? fun o=>decide (Oc.ti std o≤t))≠0)))→Tells f te (inGo std fr x te) fr
 |[],te,h,hf=>⟨h,hf,rfl⟩
 |o :: x,te,h,hf=>by
  unfold inGo
  by_cases h1:te≤Oc.ti std o
  ·rw[if_pos h1];refine inGo_tells x te h (fun t ht1 ht2=>?_);have:=hf t ht1 ht2;rw[List.find?_cons_of_neg (by rw[decide_eq_true_eq];omega)] at this;exact this
  ·rw[if_neg h1]
   by_cases h2:Oc.ti std o≤fr
   ·rw[if_pos h2];refine⟨h,fun t ht1 ht2=>?_,rfl⟩;have:=hf t ht1 ht2;rw[List.find?_cons_of_pos (by rw[decide_eq_true_eq];exact Int.le_trans h2 ht1)] at this;exact this
   ·rw[if_neg h2];refine⟨by show Oc.ti std o<te;omega,fun t ht1 ht2=>?_,?_⟩
    ·have ht3:Oc.ti std o≤t:=ht1;have:=hf t (by omega) ht2;rw[List.find?_cons_of_pos (by rw[decide_eq_true_eq];exact ht3)] at this;exact this
    ·refine inGo_tells x (Oc.ti std o) (by omega) (fun t ht1 ht2=>?_);have:=hf t ht1 (by omega);rw[List.find?_cons_of_neg (by rw[decide_eq_true_eq];omega)] at this;exact this
def InDays (t:Int):Prop:=-719162≤t / 86400∧t / 86400<2932897
theorem yr_bd {t:Int}(h:InDays t):Oc.D (yr t)*86400≤t∧t<Oc.D (yr t+1)*86400:=by
 have h1:=(year_iff (t / 86400) (yr t) h.1 h.2).2 (Int.le_refl _);have h2:¬Cv.num (yr t+1) 1 1≤t / 86400:=fun e=>by
  have:=(year_iff (t / 86400) (yr t+1) h.1 h.2).1 e;unfold yr at this;omega
 unfold Oc.D;omega
theorem yr_of {t y:Int}(h:InDays t)(h1:Oc.D y*86400≤t)(h2:t<Oc.D (y+1)*86400):yr t=y:=by
 obtain⟨k1,k2⟩:=yr_bd h;rcases Int.lt_trichotomy (yr t) y with q|q|q
 ·have:=Oc.D_mono (show yr t+1≤y by omega);omega
 ·exact q
 ·have:=Oc.D_mono (show y+1≤yr t by omega);omega
theorem InDays.of {a b t:Int}(ha:InDays a)(hb:InDays b)(h1:a≤t)(h2:t≤b):InDays t:=by
 unfold InDays at *;omega
structure Fit (rules:List Ru.R)(eras:List Er.E):Prop where
 rules:∀r∈rules,IsTime r.sv
 eras:∀e∈eras,IsTime e.std∧(e.k=0∧e.sv=0∨e.k=1∨e.k=2)
theorem ofName_mem {name:ByteArray}{rules:List Ru.R}{r:Ru.R}(h:r∈Src.ofName name rules):r∈rules:=by
 unfold Src.ofName at h;exact(List.mem_filter.1 h).1
theorem ofName_time {name:ByteArray}{rules:List Ru.R}(h:∀r∈rules,IsTime r.sv):∀r∈Src.ofName name rules,IsTime r.sv:=fun r hr=>h r (ofName_mem hr)
theorem occ_any {rules:List Ru.R}{e:Er.E}{lo hi t:Int}(hr:∀r∈rules,IsTime r.sv)(hs:IsTime e.std)(h2:e.k=2)(ht:InDays t)(h3:lo+1≤yr t)(h4:yr t+1≤hi):
  Oc.lastP (Oc.of (Src.ofName e.ru rules) lo hi) (fun o=>decide (Oc.ti e.std o≤t))=occAt rules e t:=by
 obtain⟨k1,k2⟩:=yr_bd ht;unfold occAt;rw[if_pos h2,Oc.lastP_of,Oc.lastP_of]
 congr 1
 have a1:=Oc.D_mono h3;have a2:=Oc.D_mono h4;have e0:yr t - 1+1=yr t:=by omega
 exact(Oc.of_last (ofName_time hr) hs (by omega) (by omega)).one (Oc.of_last (ofName_time hr) hs (by rw[e0];exact k1) k2)
theorem inEra_tells {rules:List Ru.R}{e:Er.E}{f:Int→Int × Bool}{fr te:Int}(hr:∀r∈rules,IsTime r.sv)(hs:IsTime e.std)(hk:e.k=0∧e.sv=0∨e.k=1∨e.k=2)(hlt:fr<te)(hd1:InDays fr)(hd2:InDays (te - 1))
  (hf:∀t,fr≤t→t<te→f t=setAt rules e t):Tells f te (inEra rules e fr te) fr:=by
 unfold inEra
 by_cases h2:e.k=2
 ·rw[if_pos h2];refine inGo_tells _ _ hlt (fun t h1 h3=>?_);have ht:InDays t:=hd1.of hd2 h1 (by omega);have g1:=yr_bd ht;have g2:=yr_bd hd1;have g3:=yr_bd hd2;have m1:yr fr≤yr t:=by
   rcases Int.lt_or_le (yr t) (yr fr) with q|q
   ·have:=Oc.D_mono (show yr t+1≤yr fr by omega);omega
   ·exact q
  have m2:yr t≤yr (te - 1):=by
   rcases Int.lt_or_le (yr (te - 1)) (yr t) with q|q
   ·have:=Oc.D_mono (show yr (te - 1)+1≤yr t by omega);omega
   ·exact q
  rw[hf t h1 h3,find_lastP,occ_any hr hs h2 ht (by omega) (by omega)];unfold setAt saveAt;rw[if_neg (by omega)]
 ·rw[if_neg h2];refine⟨hlt,fun t h1 h3=>?_,rfl⟩;have h1':fr≤t:=h1;rw[hf t h1' h3];unfold setAt saveAt piece;rcases hk with ⟨k0,s0⟩|k1|k2
  ·rw[if_neg (by omega)];unfold occAt;rw[if_neg h2,s0];rfl
  ·rw[if_pos k1]
  ·exact absurd k2 h2
def cAt (ends:List Int)(fr te:Int)(k:Nat):Int:=if k≤ends.length then min te (maxs ends fr k) else te
theorem pieces_tells {rules:List Ru.R}{eras:List Er.E}{ends:List Int}{fr te:Int}(hF:Fit rules eras)(hl:ends.length+1=eras.length)(hlt:fr<te)(hd1:InDays fr)(hd2:InDays (te - 1)):
  ∀k,k≤eras.length→Tells (st rules eras ends) (cAt ends fr te k) (pieces rules eras ends fr te k) fr
 |0,_=>by
  unfold cAt;rw[if_pos (Nat.zero_le _),maxs_zero];show min te fr=fr
  omega
 |k+1,hk=>by
  have ih:=pieces_tells hF hl hlt hd1 hd2 k (by omega);have hck:cAt ends fr te k=min te (maxs ends fr k):=by unfold cAt;rw[if_pos (by omega)]
  have hck1:cAt ends fr te (k+1)=if upto ends te k≤maxs ends fr k then cAt ends fr te k else upto ends te k:=by
   rw[hck];unfold cAt upto
   by_cases h:k<ends.length
   ·rw[if_pos (by omega),maxs_succ ends fr k (List.getElem?_eq_getElem h),List.getElem?_eq_getElem h];simp only;split <;> omega
   ·rw[if_neg (by omega),List.getElem?_eq_none (by omega)];simp only;split <;> omega
  unfold pieces;rw[hck1]
  by_cases hle:upto ends te k≤maxs ends fr k
  ·rw[if_pos hle,if_pos hle];exact ih
  ·rw[if_neg hle,if_neg hle];have hup:upto ends te k≤te:=by unfold upto;split <;> omega
   have hm:=maxs_ge ends fr k;refine Tells.append (b:=maxs ends fr k) ?_ (by rw[hck] at ih;rw[show min te (maxs ends fr k)=maxs ends fr k by omega] at ih;exact ih);obtain⟨e,he⟩:∃e,eras[k]?=some e:=⟨_,List.getElem?_eq_getElem (by omega)⟩
   have hge:eras.getD k Er.E.zero=e:=by rw[List.getD,he];rfl
   obtain⟨g1,g2⟩:=hF.eras e (List.mem_of_getElem? he);rw[hge];refine inEra_tells hF.rules g1 g2 (by omega) (hd1.of hd2 hm.1 (by omega)) (hd1.of hd2 (by omega) (by omega)) (fun t h1 h2=>?_);unfold st;rw[hold_is ends t k (by omega) (fun i x hi hx=>by have:=hm.2 i x hi hx;omega) (fun x hx=>by
    have:upto ends te k=min te x:=by unfold upto;rw[hx]
    omega),hge]
theorem line_cov {rules:List Ru.R}{eras:List Er.E}{ends:List Int}{fr te:Int}(hF:Fit rules eras)(hl:ends.length+1=eras.length)(hlt:fr<te)(hd1:InDays fr)(hd2:InDays (te - 1)):
  Cov (st rules eras ends) te fr (line rules eras ends fr te):=by
 have h:=pieces_tells hF hl hlt hd1 hd2 eras.length (Nat.le_refl _);have e:cAt ends fr te eras.length=te:=by unfold cAt;rw[if_neg (by omega)]
 rw[e] at h;exact Cov.foldl (A:=[]) rfl h
end Ln
end Go.Proofs.YtjobhjemnmleaaaGreatDoor
