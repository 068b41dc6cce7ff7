/- solsticelaw11.Small: 0, or 1 and the source is small. -/
import Derived.Test.YtjobhjemnmleaaaGreatDoorR34
set_option maxRecDepth 100000
set_option maxHeartbeats 4000000
namespace Go.Proofs.YtjobhjemnmleaaaGreatDoor
open Go.RowKit
namespace Src
def SmE (e:Er.E):Prop:=e.ru.size≤1000∧e.fm.size≤1000
def SmZ (z:Txt × List Er.E):Prop:=z.2.length≤12∧z.1.length≤1000∧∀e∈z.2,SmE e
def SmR (r:Ru.R):Prop:=r.nm.size≤1000∧r.lt.size≤1000
def SmL (k:Txt × Txt):Prop:=k.1.length≤1000∧k.2.length≤1000
structure Few (s:S):Prop where
 nr:s.rules.length≤40
 nz:s.zones.length≤12
 nl:s.links.length≤20
 rules:∀r∈s.rules,SmR r
 zones:∀z∈s.zones,SmZ z
 links:∀k∈s.links,SmL k
theorem take_all {α:Type}{P:α→Prop}{l:List α}{k:Nat}{x:α}(h:∀a∈l.take k,P a)(hx:l[k]?=some x)(hp:P x):∀a∈l.take (k+1),P a:=by
 rw[List.take_add_one,hx];intro a ha;rcases List.mem_append.1 ha with ha|ha
 ·exact h a ha
 ·have e:a=x:=by simpa using ha
  rw[e];exact hp
end Src
def SRel {α:Type}(P:α→Prop)(l:List α)(n:Nat)(w0:World)(i:Value)(wr:World):Prop:=
 ∃k:Nat,k≤n∧i=.int .i64 k∧Hid (∀a∈l.take k,P a)∧Hid (Below w0.heap.size w0 wr)
theorem few_any (s:Src.S)(rv zv lv:Value)(evs:List Value)(w:World)(hR:Src.SrcR w w.heap.size s rv zv lv evs)(hw:Src.Wide s):
  Calls Tryz.prog 85 #[.agg #[rv,zv,lv]] w fun e w'=>(e=.returned (.int .i64 0)∨(e=.returned (.int .i64 1)∧Src.Few s))∧Below w.heap.size w w':=by
 have hwr:=hw.rules;have hwz:=hw.zones;have hwl:=hw.links;clear hw;obtain⟨rules,zones,links,op⟩:=s;obtain⟨⟨rA,rc,rfl,hr1,hr2,hr3⟩,⟨zA,zc,rfl,hz1,hz2,hz3⟩,⟨lA,lc,rfl,hl1,hl2,hl3⟩,hlen,hers⟩:=hR;simp only at hr1 hr3 hz1 hz3 hl1 hl3 hlen hers hwr hwz hwl ⊢;obtain⟨nr,hnr⟩:=aj (rules.length)
 obtain⟨nz,hnz⟩:=aj (zones.length)
 obtain⟨nl,hnl⟩:=aj (links.length)
 have hzl:(zones.zip evs).length=nz:=by rw[List.length_zip,hlen,hnz];omega
 rw[hnr] at hr1 hr3 ⊢;rw[hnz] at hz1 hz3 ⊢;rw[hnl] at hl1 hl3 ⊢;unfold maxLen at hr2 hz2 hl2;have HNr:=ak hnr;have HNz:=ak hnz;have HNl:=ak hnl;have HZl:=ak hzl;have HRr:=ak hr3;have HRz:=ak hz3;have HRl:=ak hl3;have HEr:=ak hers;have HWr:=ak hwr;have HWz:=ak hwz;have HWl:=ak hwl;have HB0:=ak ((Below.refl w.heap.size w).alloc (Nat.le_refl _) (.cells #[.slice rA nr rc,.slice zA nz zc,.slice lA nl lc] 26));have HA0:=ak (At.new w #[.slice rA nr rc,.slice zA nz zc,.slice lA nl lc] 26);obtain⟨w0,hw0⟩:=aj (w.alloc (.cells #[.slice rA nr rc,.slice zA nz zc,.slice lA nl lc] 26))
 obtain⟨h,hh⟩:=aj (w.heap.size)
 rw[hw0] at HB0 HA0;have HH:=ak hh;clear hnr hnz hnl hzl hr3 hz3 hl3 hers hwr hwz hwl hlen;obtain⟨c0,c1,c2,_⟩:=(show At w0 h [.slice rA nr rc,.slice zA nz zc,.slice lA nl lc] by rw[← hh];exact HA0.out).three;rw[hh] at HA0;go_enter Tryz.func85,Tryz.ntmps85
 by_cases q1:(40:Int)<(nr:Int)
 ·go_wp2;go_ret
  exact⟨.inl rfl,by first|exact HB0.out|(rw[← hh];exact HB0.out)⟩
 by_cases q2:(12:Int)<(nz:Int)
 ·go_wp2;go_ret
  exact⟨.inl rfl,by first|exact HB0.out|(rw[← hh];exact HB0.out)⟩
 by_cases q5:(20:Int)<(nl:Int)
 ·go_wp2;go_ret
  exact⟨.inl rfl,by first|exact HB0.out|(rw[← hh];exact HB0.out)⟩
 go_wp2;clear c0 c1 c2;go_loopw [30] (fun i wr=>SRel Src.SmZ zones nz w0 i wr) (fun i _=>nz - (intOf i).toNat)
 case atStart=>exact⟨0,Nat.zero_le _,rfl,(fun a ha=>by simp at ha),Below.refl _ _⟩
 case round=>
  obtain⟨k,hk,rfl,HPk,HB⟩:=hrel;have HBr:=ak (HB0.out.trans (HB.out.mono HB0.out.size))
  by_cases hlt:k<nz
  ·have q3:=am k
   have q4:(k:Int)<(nz:Int):=(by omega);obtain⟨ad,x,rfl,hab,Hx,HL0⟩:=Ix.reads_cells (enc:=Src.zc) (m:=2) (fun _=>rfl) HZl.out (HRz.out.below HBr.out) hlt;obtain⟨z,ev⟩:=x;have hxz:zones[k]?=some z:=(List.getElem?_zip_eq_some.1 Hx.out).1;have hwx:=HWz.out z (List.mem_of_getElem? hxz);obtain⟨eA,ec,he,hne,hem,hre⟩:=HEr.out (z,ev) (List.mem_of_getElem? Hx.out);simp only at he hne hre;subst he;obtain⟨en0,hen⟩:=aj (z.2.length)
   obtain⟨xn,hxn⟩:=aj (Src.bts z.1)
   have hzn:xn.size=z.1.length:=by rw[← hxn];rfl
   have hs1:xn.size≤maxLen:=by rw[hzn];exact hwx.1
   unfold maxLen at hs1 hem;rw[hen] at hne hre;have x0:wr.cell? (ad.add (k*2))=some (.string xn):=by rw[← hxn];exact HL0.out 0 _ rfl
   have x1:wr.cell? ⟨(ad.add (k*2)).block,(ad.add (k*2)).off+1,none⟩=some (.slice eA en0 ec):=by rw[← hen];exact HL0.out 1 _ rfl
   have HXz:=ak hxz;have HZn:=ak hzn;have HEn:=ak hen;have HRe:=ak hre;have HWe:=ak hwx.2;obtain⟨g,hg⟩:=aj (wr.heap.size)
   obtain⟨w3,hw3⟩:=aj (wr.alloc (.cells #[.string xn,.slice eA en0 ec] 117))
   have HT:=ak (show At w3 g [.string xn,.slice eA en0 ec] by rw[← hw3,← hg];exact At.new wr #[.string xn,.slice eA en0 ec] 117);have HBa:=ak (show Below w0.heap.size w0 w3 by rw[← hw3];exact HB.out.alloc HB.out.size _);replace HBr:=ak (show Below w.heap.size w w3 by rw[← hw3];exact HBr.out.alloc HBr.out.size _);obtain⟨t0,t1,_⟩:=HT.out.two;clear hwx hxn hxz hzn hre hen
   by_cases p1:(12:Int)<(en0:Int)
   ·go_wp2;go_ret
    exact⟨.inl rfl,by first|exact HBr.out|(rw[← hh];exact HBr.out)⟩
   by_cases p2:(1000:Int)<(xn.size:Int)
   ·go_wp2;go_ret
    exact⟨.inl rfl,by first|exact HBr.out|(rw[← hh];exact HBr.out)⟩
   go_wp2;clear t0 t1 x0 x1;go_loopw [47] (fun i wr=>SRel Src.SmE z.2 en0 w0 i wr) (fun i _=>en0 - (intOf i).toNat)
   case atStart=>exact⟨0,Nat.zero_le _,rfl,(fun a ha=>by simp at ha),HBa.out⟩
   case round=>
    obtain⟨j,hk,rfl,HPj,HB⟩:=hrel;have HBr:=ak (HB0.out.trans (HB.out.mono HB0.out.size))
    by_cases hlt:j<en0
    ·have q3:=am j
     have q4:(j:Int)<(en0:Int):=(by omega);obtain⟨ad2,x,rfl,hab2,Hx2,HL2⟩:=Ix.reads_cells (enc:=Er.E.cells) (m:=13) (fun _=>rfl) HEn.out (HRe.out.below HBr.out) hlt;have hwx:=HWe.out x (List.mem_of_getElem? Hx2.out);obtain⟨std,ek,esv,ru,fm,en,⟨y,m,dk,dn,dd,sc,cc⟩⟩:=x;have hs1:ru.size≤maxLen:=hwx.2.1;have hs2:fm.size≤maxLen:=hwx.2.2;unfold maxLen at hs1 hs2;have yy0:wr.cell? (ad2.add (j*13))=some (.int .i64 std):=HL2.out 0 _ rfl;have yy1:wr.cell? ⟨(ad2.add (j*13)).block,(ad2.add (j*13)).off+1,none⟩=some (.int .u8 ek):=HL2.out 1 _ rfl;have yy2:wr.cell? ⟨(ad2.add (j*13)).block,(ad2.add (j*13)).off+2,none⟩=some (.int .i64 esv):=HL2.out 2 _ rfl;have yy3:wr.cell? ⟨(ad2.add (j*13)).block,(ad2.add (j*13)).off+3,none⟩=some (.string ru):=HL2.out 3 _ rfl;have yy4:wr.cell? ⟨(ad2.add (j*13)).block,(ad2.add (j*13)).off+4,none⟩=some (.string fm):=HL2.out 4 _ rfl;have yy5:wr.cell? ⟨(ad2.add (j*13)).block,(ad2.add (j*13)).off+5,none⟩=some (.bool en):=HL2.out 5 _ rfl;have yy6:wr.cell? ⟨(ad2.add (j*13)).block,(ad2.add (j*13)).off+6,none⟩=some (.int .i64 y):=HL2.out 6 _ rfl;have yy7:wr.cell? ⟨(ad2.add (j*13)).block,(ad2.add (j*13)).off+7,none⟩=some (.int .i64 m):=HL2.out 7 _ rfl;have yy8:wr.cell? ⟨(ad2.add (j*13)).block,(ad2.add (j*13)).off+8,none⟩=some (.int .u8 dk):=HL2.out 8 _ rfl;have yy9:wr.cell? ⟨(ad2.add (j*13)).block,(ad2.add (j*13)).off+9,none⟩=some (.int .i64 dn):=HL2.out 9 _ rfl
     have yy10:wr.cell? ⟨(ad2.add (j*13)).block,(ad2.add (j*13)).off+10,none⟩=some (.int .i64 dd):=HL2.out 10 _ rfl;have yy11:wr.cell? ⟨(ad2.add (j*13)).block,(ad2.add (j*13)).off+11,none⟩=some (.int .i64 sc):=HL2.out 11 _ rfl;have yy12:wr.cell? ⟨(ad2.add (j*13)).block,(ad2.add (j*13)).off+12,none⟩=some (.int .u8 cc):=HL2.out 12 _ rfl;have HBa:=ak (HB.out.alloc HB.out.size (.cells #[.int .i64 std,.int .u8 ek,.int .i64 esv,.string ru,.string fm,.bool en,.int .i64 y,.int .i64 m,.int .u8 dk,.int .i64 dn,.int .i64 dd,.int .i64 sc,.int .u8 cc] 191));replace HBr:=ak (HBr.out.alloc HBr.out.size (.cells #[.int .i64 std,.int .u8 ek,.int .i64 esv,.string ru,.string fm,.bool en,.int .i64 y,.int .i64 m,.int .u8 dk,.int .i64 dn,.int .i64 dd,.int .i64 sc,.int .u8 cc] 191));clear hwx
     by_cases p3:(1000:Int)<(ru.size:Int)
     ·go_wp2;go_ret
      exact⟨.inl rfl,by first|exact HBr.out|(rw[← hh];exact HBr.out)⟩
     by_cases p4:(1000:Int)<(fm.size:Int)
     ·go_wp2;go_ret
      exact⟨.inl rfl,by first|exact HBr.out|(rw[← hh];exact HBr.out)⟩
     have HP2:=ak (Src.take_all HPj.out Hx2.out (show Src.SmE ⟨std,ek,esv,ru,fm,en,⟨y,m,dk,dn,dd,sc,cc⟩⟩ from⟨by show ru.size≤1000;omega,by show fm.size≤1000;omega⟩));go_wp2;go_roundw
     case rel=>exact⟨j+1,by omega,by go_num,HP2.out,HBa.out⟩
     case measure=>simp[intOf];omega
    ·have q4:¬(j:Int)<(en0:Int):=(by omega);have hkn:en0=j:=(by omega);subst hkn;have hall:=HPj.out;rw[List.take_of_length_le (by rw[HEn.out];exact Nat.le_refl _)] at hall;have HP2:=ak (Src.take_all HPk.out HXz.out (show Src.SmZ z from⟨by rw[HEn.out];omega,by rw[← HZn.out];omega,hall⟩));clear hall;go_wp2;go_roundw
     case rel=>exact⟨k+1,by omega,by go_num,HP2.out,HB.out⟩
     case measure=>simp[intOf];omega
  ·have q4:¬(k:Int)<(nz:Int):=(by omega);have hkn:nz=k:=(by omega);subst hkn;have hall:=HPk.out;rw[List.take_of_length_le (by rw[HNz.out];exact Nat.le_refl _)] at hall;have HAz:=ak hall;clear hall;obtain⟨c0,c1,c2,_⟩:=(HA0.out.below HB.out HA0.out.lt).three;go_wp2;clear c0 c1 c2;go_loopw [66] (fun i wr=>SRel Src.SmR rules nr w0 i wr) (fun i _=>nr - (intOf i).toNat)
   case atStart=>exact⟨0,Nat.zero_le _,rfl,(fun a ha=>by simp at ha),HB.out⟩
   case round=>
    obtain⟨k,hk,rfl,HPk,HB⟩:=hrel;have HBr:=ak (HB0.out.trans (HB.out.mono HB0.out.size))
    by_cases hlt:k<nr
    ·have q3:=am k
     have q4:(k:Int)<(nr:Int):=(by omega);obtain⟨ad,x,rfl,hab,Hx,HL0⟩:=Ix.reads_cells (enc:=Ru.R.cells) (m:=11) (fun _=>rfl) HNr.out (HRr.out.below HBr.out) hlt;have hwx:=HWr.out x (List.mem_of_getElem? Hx.out);obtain⟨nm,fr,tt,mo,rk,rn,rd,rs,rc0,sv,lt⟩:=x;have hs1:nm.size≤maxLen:=hwx.2.1;have hs2:lt.size≤maxLen:=hwx.2.2;unfold maxLen at hs1 hs2;have x0:wr.cell? (ad.add (k*11))=some (.string nm):=HL0.out 0 _ rfl;have x1:wr.cell? ⟨(ad.add (k*11)).block,(ad.add (k*11)).off+1,none⟩=some (.int .i64 fr):=HL0.out 1 _ rfl;have x2:wr.cell? ⟨(ad.add (k*11)).block,(ad.add (k*11)).off+2,none⟩=some (.int .i64 tt):=HL0.out 2 _ rfl;have x3:wr.cell? ⟨(ad.add (k*11)).block,(ad.add (k*11)).off+3,none⟩=some (.int .i64 mo):=HL0.out 3 _ rfl;have x4:wr.cell? ⟨(ad.add (k*11)).block,(ad.add (k*11)).off+4,none⟩=some (.int .u8 rk):=HL0.out 4 _ rfl;have x5:wr.cell? ⟨(ad.add (k*11)).block,(ad.add (k*11)).off+5,none⟩=some (.int .i64 rn):=HL0.out 5 _ rfl;have x6:wr.cell? ⟨(ad.add (k*11)).block,(ad.add (k*11)).off+6,none⟩=some (.int .i64 rd):=HL0.out 6 _ rfl;have x7:wr.cell? ⟨(ad.add (k*11)).block,(ad.add (k*11)).off+7,none⟩=some (.int .i64 rs):=HL0.out 7 _ rfl;have x8:wr.cell? ⟨(ad.add (k*11)).block,(ad.add (k*11)).off+8,none⟩=some (.int .u8 rc0):=HL0.out 8 _ rfl;have x9:wr.cell? ⟨(ad.add (k*11)).block,(ad.add (k*11)).off+9,none⟩=some (.int .i64 sv):=HL0.out 9 _ rfl;have x10:wr.cell? ⟨(ad.add (k*11)).block,(ad.add (k*11)).off+10,none⟩=some (.string lt):=HL0.out 10 _ rfl
     have HT:=ak (At.new wr #[.string nm,.int .i64 fr,.int .i64 tt,.int .i64 mo,.int .u8 rk,.int .i64 rn,.int .i64 rd,.int .i64 rs,.int .u8 rc0,.int .i64 sv,.string lt] 112);have HBa:=ak (HB.out.alloc HB.out.size (.cells #[.string nm,.int .i64 fr,.int .i64 tt,.int .i64 mo,.int .u8 rk,.int .i64 rn,.int .i64 rd,.int .i64 rs,.int .u8 rc0,.int .i64 sv,.string lt] 112));replace HBr:=ak (HBr.out.alloc HBr.out.size (.cells #[.string nm,.int .i64 fr,.int .i64 tt,.int .i64 mo,.int .u8 rk,.int .i64 rn,.int .i64 rd,.int .i64 rs,.int .u8 rc0,.int .i64 sv,.string lt] 112));clear hwx
     by_cases p1:(1000:Int)<(nm.size:Int)
     ·go_wp2;go_ret
      exact⟨.inl rfl,by first|exact HBr.out|(rw[← hh];exact HBr.out)⟩
     by_cases p2:(1000:Int)<(lt.size:Int)
     ·go_wp2;go_ret
      exact⟨.inl rfl,by first|exact HBr.out|(rw[← hh];exact HBr.out)⟩
     have HP2:=ak (Src.take_all HPk.out Hx.out (show Src.SmR ⟨nm,fr,tt,mo,rk,rn,rd,rs,rc0,sv,lt⟩ from⟨by show nm.size≤1000;omega,by show lt.size≤1000;omega⟩));go_wp2;go_roundw
     case rel=>exact⟨k+1,by omega,by go_num,HP2.out,HBa.out⟩
     case measure=>simp[intOf];omega
    ·have q4:¬(k:Int)<(nr:Int):=(by omega);have hkn:nr=k:=(by omega);subst hkn;have hall:=HPk.out;rw[List.take_of_length_le (by rw[HNr.out];exact Nat.le_refl _)] at hall;have HAr:=ak hall;clear hall;obtain⟨c0,c1,c2,_⟩:=(HA0.out.below HB.out HA0.out.lt).three;go_wp2;clear c0 c1 c2;go_loopw [84] (fun i wr=>SRel Src.SmL links nl w0 i wr) (fun i _=>nl - (intOf i).toNat)
     case atStart=>exact⟨0,Nat.zero_le _,rfl,(fun a ha=>by simp at ha),HB.out⟩
     case round=>
      obtain⟨k,hk,rfl,HPk,HB⟩:=hrel;have HBr:=ak (HB0.out.trans (HB.out.mono HB0.out.size))
      by_cases hlt:k<nl
      ·have q3:=am k
       have q4:(k:Int)<(nl:Int):=(by omega);obtain⟨ad,x,rfl,hab,Hx,HL0⟩:=Ix.reads_cells (enc:=Src.lc) (m:=2) (fun _=>rfl) HNl.out (HRl.out.below HBr.out) hlt;have hwx:=HWl.out x (List.mem_of_getElem? Hx.out);obtain⟨xa,hxa⟩:=aj (Src.bts x.1)
       obtain⟨xb,hxb⟩:=aj (Src.bts x.2)
       have hza:xa.size=x.1.length:=by rw[← hxa];rfl
       have hzb:xb.size=x.2.length:=by rw[← hxb];rfl
       have hs1:xa.size≤maxLen:=by rw[hza];exact hwx.1
       have hs2:xb.size≤maxLen:=by rw[hzb];exact hwx.2
       unfold maxLen at hs1 hs2;have x0:wr.cell? (ad.add (k*2))=some (.string xa):=by rw[← hxa];exact HL0.out 0 _ rfl
       have x1:wr.cell? ⟨(ad.add (k*2)).block,(ad.add (k*2)).off+1,none⟩=some (.string xb):=by rw[← hxb];exact HL0.out 1 _ rfl
       have HBa:=ak (HB.out.alloc HB.out.size (.cells #[.string xa,.string xb] 114));replace HBr:=ak (HBr.out.alloc HBr.out.size (.cells #[.string xa,.string xb] 114));have HZa:=ak hza;have HZb:=ak hzb;clear hwx hxa hxb hza hzb
       by_cases p1:(1000:Int)<(xa.size:Int)
       ·go_wp2;go_ret
        exact⟨.inl rfl,by first|exact HBr.out|(rw[← hh];exact HBr.out)⟩
       by_cases p2:(1000:Int)<(xb.size:Int)
       ·go_wp2;go_ret
        exact⟨.inl rfl,by first|exact HBr.out|(rw[← hh];exact HBr.out)⟩
       have HP2:=ak (Src.take_all HPk.out Hx.out (show Src.SmL x from⟨by rw[← HZa.out];omega,by rw[← HZb.out];omega⟩));go_wp2;go_roundw
       case rel=>exact⟨k+1,by omega,by go_num,HP2.out,HBa.out⟩
       case measure=>simp[intOf];omega
      ·have q4:¬(k:Int)<(nl:Int):=(by omega);have hkn:nl=k:=(by omega);subst hkn;have hall:=HPk.out;rw[List.take_of_length_le (by rw[HNl.out];exact Nat.le_refl _)] at hall;have HF:=ak (show Src.Few ⟨rules,zones,links,op⟩ from⟨by show rules.length≤40;rw[HNr.out];omega,by show zones.length≤12;rw[HNz.out];omega,by show links.length≤20;rw[HNl.out];omega,HAr.out,HAz.out,hall⟩);clear hall;go_wp2;go_ret
       exact⟨.inr ⟨rfl,HF.out⟩,by first|exact HBr.out|(rw[← hh];exact HBr.out)⟩
end Go.Proofs.YtjobhjemnmleaaaGreatDoor
namespace Go.Proofs.YtjobhjemnmleaaaGreatDoor
open Go.RowKit
namespace Eg
def SomeB (w:World)(e:Ending)(w':World):Prop:=(∃b,e=.returned (.bool b))∧Below w.heap.size w w'
def SomeN (w:World)(e:Ending)(w':World):Prop:=(e=.returned (.int .i64 0)∨e=.returned (.int .i64 2))∧Below w.heap.size w w'
def SomeZ (w:World)(e:Ending)(w':World):Prop:=(e=.returned (.int .i64 0)∨e=.returned (.int .i64 1))∧Below w.heap.size w w'
def SomeC (fr tt:Int)(w:World)(e:Ending)(w':World):Prop:=((e=.returned (.int .i64 0)∧1≤fr∧fr≤tt∧tt≤9999)∨e=.returned (.int .i64 2))∧Below w.heap.size w w'
end Eg
theorem refSigns_some (s:ByteArray)(w:World)(hs:s.size≤maxLen):
  Calls Tryz.prog 195 #[.string s] w (Eg.SomeB w):=by
 unfold maxLen at hs;go_enter Tryz.func195,Tryz.ntmps195
 go_wp2;go_loop [3] (fun i=>∃j:Nat,j≤s.size∧i=.int .i64 j) (fun i=>s.size - (intOf i).toNat)
 case atStart=>exact⟨0,Nat.zero_le _,rfl⟩
 case round=>
  obtain⟨j,hj,rfl⟩:=hrel
  by_cases hlj:j<s.size
  ·have p1:=am j
   have p2:(j:Int)<(s.size:Int):=(by omega);obtain⟨b1,b2⟩:=u8_bd s[j];have hcs:=Ab.cases_ (s[j].toNat:Int) b1 b2
   ·rcases hcs with hc|hc|hc|hc|hc|hc|hc|hc|hc|hc|hc
    ·obtain⟨i1,i2⟩:=hc;have f97:¬97≤(s[j].toNat:Int):=(by omega);have f65:¬65≤(s[j].toNat:Int):=(by omega);have f48:¬48≤(s[j].toNat:Int):=(by omega);have h122:(s[j].toNat:Int)≤122:=(by omega);have h90:(s[j].toNat:Int)≤90:=(by omega);have h57:(s[j].toNat:Int)≤57:=(by omega);have e43:((s[j].toNat:Int) == 43)=false:=bqf (by omega);have e45:((s[j].toNat:Int) == 45)=false:=bqf (by omega);go_wp2;go_ret
     exact⟨⟨_,rfl⟩,Below.refl _ _⟩
    ·obtain⟨i1,i2⟩:=hc;have f97:¬97≤(s[j].toNat:Int):=(by omega);have f65:¬65≤(s[j].toNat:Int):=(by omega);have f48:¬48≤(s[j].toNat:Int):=(by omega);have h122:(s[j].toNat:Int)≤122:=(by omega);have h90:(s[j].toNat:Int)≤90:=(by omega);have h57:(s[j].toNat:Int)≤57:=(by omega);have e43:((s[j].toNat:Int) == 43)=true:=by rw[beq_iff_eq];omega
     have e45:((s[j].toNat:Int) == 45)=false:=bqf (by omega);go_wp2;go_round
     case rel=>exact⟨j+1,by omega,by go_num⟩
     case measure=>simp[intOf];omega
    ·obtain⟨i1,i2⟩:=hc;have f97:¬97≤(s[j].toNat:Int):=(by omega);have f65:¬65≤(s[j].toNat:Int):=(by omega);have f48:¬48≤(s[j].toNat:Int):=(by omega);have h122:(s[j].toNat:Int)≤122:=(by omega);have h90:(s[j].toNat:Int)≤90:=(by omega);have h57:(s[j].toNat:Int)≤57:=(by omega);have e43:((s[j].toNat:Int) == 43)=false:=bqf (by omega);have e45:((s[j].toNat:Int) == 45)=false:=bqf (by omega);go_wp2;go_ret
     exact⟨⟨_,rfl⟩,Below.refl _ _⟩
    ·obtain⟨i1,i2⟩:=hc;have f97:¬97≤(s[j].toNat:Int):=(by omega);have f65:¬65≤(s[j].toNat:Int):=(by omega);have f48:¬48≤(s[j].toNat:Int):=(by omega);have h122:(s[j].toNat:Int)≤122:=(by omega);have h90:(s[j].toNat:Int)≤90:=(by omega);have h57:(s[j].toNat:Int)≤57:=(by omega);have e43:((s[j].toNat:Int) == 43)=false:=bqf (by omega);have e45:((s[j].toNat:Int) == 45)=true:=by rw[beq_iff_eq];omega
     go_wp2;go_round
     case rel=>exact⟨j+1,by omega,by go_num⟩
     case measure=>simp[intOf];omega
    ·obtain⟨i1,i2⟩:=hc;have f97:¬97≤(s[j].toNat:Int):=(by omega);have f65:¬65≤(s[j].toNat:Int):=(by omega);have f48:¬48≤(s[j].toNat:Int):=(by omega);have h122:(s[j].toNat:Int)≤122:=(by omega);have h90:(s[j].toNat:Int)≤90:=(by omega);have h57:(s[j].toNat:Int)≤57:=(by omega);have e43:((s[j].toNat:Int) == 43)=false:=bqf (by omega);have e45:((s[j].toNat:Int) == 45)=false:=bqf (by omega);go_wp2;go_ret
     exact⟨⟨_,rfl⟩,Below.refl _ _⟩
    ·obtain⟨i1,i2⟩:=hc;have f97:¬97≤(s[j].toNat:Int):=(by omega);have f65:¬65≤(s[j].toNat:Int):=(by omega);have f48:48≤(s[j].toNat:Int):=(by omega);have h122:(s[j].toNat:Int)≤122:=(by omega);have h90:(s[j].toNat:Int)≤90:=(by omega);have h57:(s[j].toNat:Int)≤57:=(by omega);have e43:((s[j].toNat:Int) == 43)=false:=bqf (by omega);have e45:((s[j].toNat:Int) == 45)=false:=bqf (by omega);go_wp2;go_round
     case rel=>exact⟨j+1,by omega,by go_num⟩
     case measure=>simp[intOf];omega
    ·obtain⟨i1,i2⟩:=hc;have f97:¬97≤(s[j].toNat:Int):=(by omega);have f65:¬65≤(s[j].toNat:Int):=(by omega);have f48:48≤(s[j].toNat:Int):=(by omega);have h122:(s[j].toNat:Int)≤122:=(by omega);have h90:(s[j].toNat:Int)≤90:=(by omega);have h57:¬(s[j].toNat:Int)≤57:=(by omega);have e43:((s[j].toNat:Int) == 43)=false:=bqf (by omega);have e45:((s[j].toNat:Int) == 45)=false:=bqf (by omega);go_wp2;go_ret
     exact⟨⟨_,rfl⟩,Below.refl _ _⟩
    ·obtain⟨i1,i2⟩:=hc;have f97:¬97≤(s[j].toNat:Int):=(by omega);have f65:65≤(s[j].toNat:Int):=(by omega);have f48:48≤(s[j].toNat:Int):=(by omega);have h122:(s[j].toNat:Int)≤122:=(by omega);have h90:(s[j].toNat:Int)≤90:=(by omega);have h57:¬(s[j].toNat:Int)≤57:=(by omega);have e43:((s[j].toNat:Int) == 43)=false:=bqf (by omega);have e45:((s[j].toNat:Int) == 45)=false:=bqf (by omega);go_wp2;go_round
     case rel=>exact⟨j+1,by omega,by go_num⟩
     case measure=>simp[intOf];omega
    ·obtain⟨i1,i2⟩:=hc;have f97:¬97≤(s[j].toNat:Int):=(by omega);have f65:65≤(s[j].toNat:Int):=(by omega);have f48:48≤(s[j].toNat:Int):=(by omega);have h122:(s[j].toNat:Int)≤122:=(by omega);have h90:¬(s[j].toNat:Int)≤90:=(by omega);have h57:¬(s[j].toNat:Int)≤57:=(by omega);have e43:((s[j].toNat:Int) == 43)=false:=bqf (by omega);have e45:((s[j].toNat:Int) == 45)=false:=bqf (by omega);go_wp2;go_ret
     exact⟨⟨_,rfl⟩,Below.refl _ _⟩
    ·obtain⟨i1,i2⟩:=hc;have f97:97≤(s[j].toNat:Int):=(by omega);have f65:65≤(s[j].toNat:Int):=(by omega);have f48:48≤(s[j].toNat:Int):=(by omega);have h122:(s[j].toNat:Int)≤122:=(by omega);have h90:¬(s[j].toNat:Int)≤90:=(by omega);have h57:¬(s[j].toNat:Int)≤57:=(by omega);have e43:((s[j].toNat:Int) == 43)=false:=bqf (by omega);have e45:((s[j].toNat:Int) == 45)=false:=bqf (by omega);go_wp2;go_round
     case rel=>exact⟨j+1,by omega,by go_num⟩
     case measure=>simp[intOf];omega
    ·obtain⟨i1,i2⟩:=hc;have f97:97≤(s[j].toNat:Int):=(by omega);have f65:65≤(s[j].toNat:Int):=(by omega);have f48:48≤(s[j].toNat:Int):=(by omega);have h122:¬(s[j].toNat:Int)≤122:=(by omega);have h90:¬(s[j].toNat:Int)≤90:=(by omega);have h57:¬(s[j].toNat:Int)≤57:=(by omega);have e43:((s[j].toNat:Int) == 43)=false:=bqf (by omega);have e45:((s[j].toNat:Int) == 45)=false:=bqf (by omega);go_wp2;go_ret
     exact⟨⟨_,rfl⟩,Below.refl _ _⟩
  ·obtain rfl:j=s.size:=by omega
   go_wp2;go_ret
   exact⟨⟨_,rfl⟩,Below.refl _ _⟩
theorem refName_some (s:ByteArray)(w:World)(hs:s.size≤maxLen):
  Calls Tryz.prog 159 #[.string s] w (Eg.SomeB w):=by
 unfold maxLen at hs
 by_cases h1:(s.size:Int)<1
 ·go_enter Tryz.func159,Tryz.ntmps159
  go_wp2;go_ret
  exact⟨⟨_,rfl⟩,Below.refl _ _⟩
 by_cases h2:(64:Int)<(s.size:Int)
 ·go_enter Tryz.func159,Tryz.ntmps159
  go_wp2;go_ret
  exact⟨⟨_,rfl⟩,Below.refl _ _⟩
 go_enter Tryz.func159,Tryz.ntmps159
 go_wp2;go_loop [3] (fun i=>∃j:Nat,j≤s.size∧i=.int .i64 j) (fun i=>s.size - (intOf i).toNat)
 case atStart=>exact⟨0,Nat.zero_le _,rfl⟩
 case round=>
  obtain⟨j,hj,rfl⟩:=hrel
  by_cases hlj:j<s.size
  ·have p1:=am j
   have p2:(j:Int)<(s.size:Int):=(by omega);obtain⟨b1,b2⟩:=u8_bd s[j];have hcs:=Ru.cases_ (s[j].toNat:Int) b1 b2
   ·rcases hcs with hc|hc|hc|hc|hc|hc|hc|hc|hc|hc|hc|hc|hc|hc
    ·obtain⟨i1,i2⟩:=hc;have f97:¬97≤(s[j].toNat:Int):=(by omega);have f65:¬65≤(s[j].toNat:Int):=(by omega);have f48:¬48≤(s[j].toNat:Int):=(by omega);have h122:(s[j].toNat:Int)≤122:=(by omega);have h90:(s[j].toNat:Int)≤90:=(by omega);have h57:(s[j].toNat:Int)≤57:=(by omega);have e43:((s[j].toNat:Int) == 43)=false:=bqf (by omega);have e45:((s[j].toNat:Int) == 45)=false:=bqf (by omega);have e47:((s[j].toNat:Int) == 47)=false:=bqf (by omega);have e95:((s[j].toNat:Int) == 95)=false:=bqf (by omega);rcases Nat.eq_zero_or_pos j with rfl|hj0
     ·go_wp2;go_ret
      exact⟨⟨_,rfl⟩,Below.refl _ _⟩
     ·have ej:((j:Int) == 0)=false:=bqf (by omega);go_wp2;go_ret
      exact⟨⟨_,rfl⟩,Below.refl _ _⟩
    ·obtain⟨i1,i2⟩:=hc;have f97:¬97≤(s[j].toNat:Int):=(by omega);have f65:¬65≤(s[j].toNat:Int):=(by omega);have f48:¬48≤(s[j].toNat:Int):=(by omega);have h122:(s[j].toNat:Int)≤122:=(by omega);have h90:(s[j].toNat:Int)≤90:=(by omega);have h57:(s[j].toNat:Int)≤57:=(by omega);have e43:((s[j].toNat:Int) == 43)=true:=by rw[beq_iff_eq];omega
     have e45:((s[j].toNat:Int) == 45)=false:=bqf (by omega);have e47:((s[j].toNat:Int) == 47)=false:=bqf (by omega);have e95:((s[j].toNat:Int) == 95)=false:=bqf (by omega);rcases Nat.eq_zero_or_pos j with rfl|hj0
     ·go_wp2;go_ret
      exact⟨⟨_,rfl⟩,Below.refl _ _⟩
     ·have ej:((j:Int) == 0)=false:=bqf (by omega);go_wp2;go_round
      case rel=>exact⟨j+1,by omega,by go_num⟩
      case measure=>simp[intOf];omega
    ·obtain⟨i1,i2⟩:=hc;have f97:¬97≤(s[j].toNat:Int):=(by omega);have f65:¬65≤(s[j].toNat:Int):=(by omega);have f48:¬48≤(s[j].toNat:Int):=(by omega);have h122:(s[j].toNat:Int)≤122:=(by omega);have h90:(s[j].toNat:Int)≤90:=(by omega);have h57:(s[j].toNat:Int)≤57:=(by omega);have e43:((s[j].toNat:Int) == 43)=false:=bqf (by omega);have e45:((s[j].toNat:Int) == 45)=false:=bqf (by omega);have e47:((s[j].toNat:Int) == 47)=false:=bqf (by omega);have e95:((s[j].toNat:Int) == 95)=false:=bqf (by omega);rcases Nat.eq_zero_or_pos j with rfl|hj0
     ·go_wp2;go_ret
      exact⟨⟨_,rfl⟩,Below.refl _ _⟩
     ·have ej:((j:Int) == 0)=false:=bqf (by omega);go_wp2;go_ret
      exact⟨⟨_,rfl⟩,Below.refl _ _⟩
    ·obtain⟨i1,i2⟩:=hc;have f97:¬97≤(s[j].toNat:Int):=(by omega);have f65:¬65≤(s[j].toNat:Int):=(by omega);have f48:¬48≤(s[j].toNat:Int):=(by omega);have h122:(s[j].toNat:Int)≤122:=(by omega);have h90:(s[j].toNat:Int)≤90:=(by omega);have h57:(s[j].toNat:Int)≤57:=(by omega);have e43:((s[j].toNat:Int) == 43)=false:=bqf (by omega);have e45:((s[j].toNat:Int) == 45)=true:=by rw[beq_iff_eq];omega
     have e47:((s[j].toNat:Int) == 47)=false:=bqf (by omega);have e95:((s[j].toNat:Int) == 95)=false:=bqf (by omega);rcases Nat.eq_zero_or_pos j with rfl|hj0
     ·go_wp2;go_ret
      exact⟨⟨_,rfl⟩,Below.refl _ _⟩
     ·have ej:((j:Int) == 0)=false:=bqf (by omega);go_wp2;go_round
      case rel=>exact⟨j+1,by omega,by go_num⟩
      case measure=>simp[intOf];omega
    ·obtain⟨i1,i2⟩:=hc;have f97:¬97≤(s[j].toNat:Int):=(by omega);have f65:¬65≤(s[j].toNat:Int):=(by omega);have f48:¬48≤(s[j].toNat:Int):=(by omega);have h122:(s[j].toNat:Int)≤122:=(by omega);have h90:(s[j].toNat:Int)≤90:=(by omega);have h57:(s[j].toNat:Int)≤57:=(by omega);have e43:((s[j].toNat:Int) == 43)=false:=bqf (by omega);have e45:((s[j].toNat:Int) == 45)=false:=bqf (by omega);have e47:((s[j].toNat:Int) == 47)=false:=bqf (by omega);have e95:((s[j].toNat:Int) == 95)=false:=bqf (by omega);rcases Nat.eq_zero_or_pos j with rfl|hj0
     ·go_wp2;go_ret
      exact⟨⟨_,rfl⟩,Below.refl _ _⟩
     ·have ej:((j:Int) == 0)=false:=bqf (by omega);go_wp2;go_ret
      exact⟨⟨_,rfl⟩,Below.refl _ _⟩
    ·obtain⟨i1,i2⟩:=hc;have f97:¬97≤(s[j].toNat:Int):=(by omega);have f65:¬65≤(s[j].toNat:Int):=(by omega);have f48:¬48≤(s[j].toNat:Int):=(by omega);have h122:(s[j].toNat:Int)≤122:=(by omega);have h90:(s[j].toNat:Int)≤90:=(by omega);have h57:(s[j].toNat:Int)≤57:=(by omega);have e43:((s[j].toNat:Int) == 43)=false:=bqf (by omega);have e45:((s[j].toNat:Int) == 45)=false:=bqf (by omega);have e47:((s[j].toNat:Int) == 47)=true:=by rw[beq_iff_eq];omega
     have e95:((s[j].toNat:Int) == 95)=false:=bqf (by omega);rcases Nat.eq_zero_or_pos j with rfl|hj0
     ·go_wp2;go_ret
      exact⟨⟨_,rfl⟩,Below.refl _ _⟩
     ·have ej:((j:Int) == 0)=false:=bqf (by omega);go_wp2;go_round
      case rel=>exact⟨j+1,by omega,by go_num⟩
      case measure=>simp[intOf];omega
    ·obtain⟨i1,i2⟩:=hc;have f97:¬97≤(s[j].toNat:Int):=(by omega);have f65:¬65≤(s[j].toNat:Int):=(by omega);have f48:48≤(s[j].toNat:Int):=(by omega);have h122:(s[j].toNat:Int)≤122:=(by omega);have h90:(s[j].toNat:Int)≤90:=(by omega);have h57:(s[j].toNat:Int)≤57:=(by omega);have e43:((s[j].toNat:Int) == 43)=false:=bqf (by omega);have e45:((s[j].toNat:Int) == 45)=false:=bqf (by omega);have e47:((s[j].toNat:Int) == 47)=false:=bqf (by omega);have e95:((s[j].toNat:Int) == 95)=false:=bqf (by omega);rcases Nat.eq_zero_or_pos j with rfl|hj0
     ·go_wp2;go_ret
      exact⟨⟨_,rfl⟩,Below.refl _ _⟩
     ·have ej:((j:Int) == 0)=false:=bqf (by omega);go_wp2;go_round
      case rel=>exact⟨j+1,by omega,by go_num⟩
      case measure=>simp[intOf];omega
    ·obtain⟨i1,i2⟩:=hc;have f97:¬97≤(s[j].toNat:Int):=(by omega);have f65:¬65≤(s[j].toNat:Int):=(by omega);have f48:48≤(s[j].toNat:Int):=(by omega);have h122:(s[j].toNat:Int)≤122:=(by omega);have h90:(s[j].toNat:Int)≤90:=(by omega);have h57:¬(s[j].toNat:Int)≤57:=(by omega);have e43:((s[j].toNat:Int) == 43)=false:=bqf (by omega);have e45:((s[j].toNat:Int) == 45)=false:=bqf (by omega);have e47:((s[j].toNat:Int) == 47)=false:=bqf (by omega);have e95:((s[j].toNat:Int) == 95)=false:=bqf (by omega);rcases Nat.eq_zero_or_pos j with rfl|hj0
     ·go_wp2;go_ret
      exact⟨⟨_,rfl⟩,Below.refl _ _⟩
     ·have ej:((j:Int) == 0)=false:=bqf (by omega);go_wp2;go_ret
      exact⟨⟨_,rfl⟩,Below.refl _ _⟩
    ·obtain⟨i1,i2⟩:=hc;have f97:¬97≤(s[j].toNat:Int):=(by omega);have f65:65≤(s[j].toNat:Int):=(by omega);have f48:48≤(s[j].toNat:Int):=(by omega);have h122:(s[j].toNat:Int)≤122:=(by omega);have h90:(s[j].toNat:Int)≤90:=(by omega);have h57:¬(s[j].toNat:Int)≤57:=(by omega);have e43:((s[j].toNat:Int) == 43)=false:=bqf (by omega);have e45:((s[j].toNat:Int) == 45)=false:=bqf (by omega);have e47:((s[j].toNat:Int) == 47)=false:=bqf (by omega);have e95:((s[j].toNat:Int) == 95)=false:=bqf (by omega);go_wp2;go_round
     case rel=>exact⟨j+1,by omega,by go_num⟩
     case measure=>simp[intOf];omega
    ·obtain⟨i1,i2⟩:=hc;have f97:¬97≤(s[j].toNat:Int):=(by omega);have f65:65≤(s[j].toNat:Int):=(by omega);have f48:48≤(s[j].toNat:Int):=(by omega);have h122:(s[j].toNat:Int)≤122:=(by omega);have h90:¬(s[j].toNat:Int)≤90:=(by omega);have h57:¬(s[j].toNat:Int)≤57:=(by omega);have e43:((s[j].toNat:Int) == 43)=false:=bqf (by omega);have e45:((s[j].toNat:Int) == 45)=false:=bqf (by omega);have e47:((s[j].toNat:Int) == 47)=false:=bqf (by omega);have e95:((s[j].toNat:Int) == 95)=false:=bqf (by omega);rcases Nat.eq_zero_or_pos j with rfl|hj0
     ·go_wp2;go_ret
      exact⟨⟨_,rfl⟩,Below.refl _ _⟩
     ·have ej:((j:Int) == 0)=false:=bqf (by omega);go_wp2;go_ret
      exact⟨⟨_,rfl⟩,Below.refl _ _⟩
    ·obtain⟨i1,i2⟩:=hc;have f97:¬97≤(s[j].toNat:Int):=(by omega);have f65:65≤(s[j].toNat:Int):=(by omega);have f48:48≤(s[j].toNat:Int):=(by omega);have h122:(s[j].toNat:Int)≤122:=(by omega);have h90:¬(s[j].toNat:Int)≤90:=(by omega);have h57:¬(s[j].toNat:Int)≤57:=(by omega);have e43:((s[j].toNat:Int) == 43)=false:=bqf (by omega);have e45:((s[j].toNat:Int) == 45)=false:=bqf (by omega);have e47:((s[j].toNat:Int) == 47)=false:=bqf (by omega);have e95:((s[j].toNat:Int) == 95)=true:=by rw[beq_iff_eq];omega
     go_wp2;go_round
     case rel=>exact⟨j+1,by omega,by go_num⟩
     case measure=>simp[intOf];omega
    ·obtain⟨i1,i2⟩:=hc;have f97:¬97≤(s[j].toNat:Int):=(by omega);have f65:65≤(s[j].toNat:Int):=(by omega);have f48:48≤(s[j].toNat:Int):=(by omega);have h122:(s[j].toNat:Int)≤122:=(by omega);have h90:¬(s[j].toNat:Int)≤90:=(by omega);have h57:¬(s[j].toNat:Int)≤57:=(by omega);have e43:((s[j].toNat:Int) == 43)=false:=bqf (by omega);have e45:((s[j].toNat:Int) == 45)=false:=bqf (by omega);have e47:((s[j].toNat:Int) == 47)=false:=bqf (by omega);have e95:((s[j].toNat:Int) == 95)=false:=bqf (by omega);rcases Nat.eq_zero_or_pos j with rfl|hj0
     ·go_wp2;go_ret
      exact⟨⟨_,rfl⟩,Below.refl _ _⟩
     ·have ej:((j:Int) == 0)=false:=bqf (by omega);go_wp2;go_ret
      exact⟨⟨_,rfl⟩,Below.refl _ _⟩
    ·obtain⟨i1,i2⟩:=hc;have f97:97≤(s[j].toNat:Int):=(by omega);have f65:65≤(s[j].toNat:Int):=(by omega);have f48:48≤(s[j].toNat:Int):=(by omega);have h122:(s[j].toNat:Int)≤122:=(by omega);have h90:¬(s[j].toNat:Int)≤90:=(by omega);have h57:¬(s[j].toNat:Int)≤57:=(by omega);have e43:((s[j].toNat:Int) == 43)=false:=bqf (by omega);have e45:((s[j].toNat:Int) == 45)=false:=bqf (by omega);have e47:((s[j].toNat:Int) == 47)=false:=bqf (by omega);have e95:((s[j].toNat:Int) == 95)=false:=bqf (by omega);go_wp2;go_round
     case rel=>exact⟨j+1,by omega,by go_num⟩
     case measure=>simp[intOf];omega
    ·obtain⟨i1,i2⟩:=hc;have f97:97≤(s[j].toNat:Int):=(by omega);have f65:65≤(s[j].toNat:Int):=(by omega);have f48:48≤(s[j].toNat:Int):=(by omega);have h122:¬(s[j].toNat:Int)≤122:=(by omega);have h90:¬(s[j].toNat:Int)≤90:=(by omega);have h57:¬(s[j].toNat:Int)≤57:=(by omega);have e43:((s[j].toNat:Int) == 43)=false:=bqf (by omega);have e45:((s[j].toNat:Int) == 45)=false:=bqf (by omega);have e47:((s[j].toNat:Int) == 47)=false:=bqf (by omega);have e95:((s[j].toNat:Int) == 95)=false:=bqf (by omega);rcases Nat.eq_zero_or_pos j with rfl|hj0
     ·go_wp2;go_ret
      exact⟨⟨_,rfl⟩,Below.refl _ _⟩
     ·have ej:((j:Int) == 0)=false:=bqf (by omega);go_wp2;go_ret
      exact⟨⟨_,rfl⟩,Below.refl _ _⟩
  ·obtain rfl:j=s.size:=by omega
   go_wp2;go_ret
   exact⟨⟨_,rfl⟩,Below.refl _ _⟩
theorem refLetter_some (s:ByteArray)(w:World)(hs:s.size≤maxLen):
  Calls Tryz.prog 163 #[.string s] w (Eg.SomeN w):=by
 have HS:=ak fun W=>refSigns_some s W hs
 unfold maxLen at hs
 by_cases h1:(32:Int)<(s.size:Int)
 ·go_enter Tryz.func163,Tryz.ntmps163
  go_wp2;go_ret
  exact⟨.inr rfl,Below.refl _ _⟩
 obtain⟨d,hd⟩:=aj ((s.toList == [45]))
 go_enter Tryz.func163,Tryz.ntmps163
 go_wp2_with fail
 refine(HS.out _).mono ?_;rintro e w1 ⟨⟨b,rfl⟩,hb⟩;have HB:=ak hb;clear hb;cases b with
 |false=>
  go_wp2;go_ret
  exact⟨.inr rfl,HB.out⟩
 |true=>
  cases d with
  |true=>
   go_wp2;go_ret
   exact⟨.inr rfl,HB.out⟩
  |false=>
   go_wp2;go_ret
   exact⟨.inl rfl,HB.out⟩
end Go.Proofs.YtjobhjemnmleaaaGreatDoor
