/- What the laws of plans call, at a row's source. -/
import Derived.Test.YtjobhjemnmleaaaGreatDoorQ42
import Derived.Test.YtjobhjemnmleaaaGreatDoorQ43
set_option maxRecDepth 100000
set_option maxHeartbeats 8000000
namespace Go.Proofs.YtjobhjemnmleaaaGreatDoor
open Go.RowKit Go.Sort
namespace Cp
structure Use (s:Src.S)(rv zv lv:Value)(w:World):Prop where
 near:∀lo hi,-9223372036854775808≤lo∧lo<9223372036854775808→-9223372036854775808≤hi∧hi<9223372036854775808→∀W,Below w.heap.size w W→Calls Tryz.prog 12 #[.agg #[rv,zv,lv],.int .i64 lo,.int .i64 hi] W (Near s lo hi W)
 zone:Src.Few s→∀nm:ByteArray,nm.size≤maxLen→∀lo hi,-9223372036854775808≤lo∧lo<9223372036854775808→-9223372036854775808≤hi∧hi<9223372036854775808→∀W,Below w.heap.size w W→Calls Tryz.prog 19 #[.agg #[rv,zv,lv],.string nm,.int .i64 lo,.int .i64 hi] W (Cm.ZoneRet s nm lo hi W)
 link:Src.Few s→∀nm:ByteArray,nm.size≤maxLen→∀W,Below w.heap.size w W→Calls Tryz.prog 21 #[.agg #[rv,zv,lv],.string nm] W fun e w'=>e=.returned (.tuple #[.int .i64 (Lk.walk s nm).2.1,.int .i64 (Lk.walk s nm).2.2])∧Below W.heap.size W w'
 line:Src.Few s→∀nm:ByteArray,∀lo hi,-9223372036854775808≤lo∧lo<9223372036854775808→-9223372036854775808≤hi∧hi<9223372036854775808→∀W,Below w.heap.size w W→Calls Tryz.prog 22 #[.agg #[rv,zv,lv],.int .i64 (Lk.walk s nm).2.1,.int .i64 lo,.int .i64 hi] W fun e w'=>Below W.heap.size W w'∧Ln.OfRet s (Lk.walk s nm).2.1 lo hi W.heap.size e w'
 alias:Src.Few s→Vd.well s=true→∀nm:ByteArray,nm.size≤maxLen→(Lk.walk s nm).2.2=0→∀W,Below w.heap.size w W→Calls Tryz.prog 27 #[.agg #[rv,zv,lv],.string nm] W (Lk.AlRet s nm W)
 rules:Src.Few s→Vd.well s=true→Eg.RulesOk s.rules
 names:Src.Few s→∀x∈Src.names s,x.size≤maxLen
 lens:∀W,Below w.heap.size w W→Lens W
theorem use (s:Src.S)(rv zv lv:Value)(evs:List Value)(w:World)(hR:Src.SrcR w w.heap.size s rv zv lv evs)(hw:Src.Wide s)(hW:Wo w)(hA:Wa w):Use s rv zv lv w:=by
 have hcc:∀x∈s.zones,∀e∈x.2,0≤e.u.c:=fun x hx e he=>((hw.zones x hx).2 e he).1
 have hsz:Src.Few s→Vd.Sz s:=fun hf=>⟨⟨by have:=hf.nr;omega,by have:=hf.nz;omega,by have:=hf.nl;omega⟩,fun x hx=>by have:=(hf.zones x hx).1;omega,hw.smw⟩
 have hwc:∀r∈s.rules,0≤r.c:=fun r hr=>(hw.rules r hr).1
 refine⟨fun lo hi h1 h2 W hb=>near27_some s rv zv lv evs lo hi W (hR.call hb) hw h1 h2,fun hf nm hn lo hi h1 h2 W hb=>cmZone_any s nm lo hi rv zv lv evs W (hR.call hb) (hsz hf) (hW.below hb) (hA.below hb) hn h1 h2 hcc hwc,fun hf nm hn W hb=>linkZone_any s rv zv lv evs nm W (hR.call hb) (hsz hf).nm hn,fun hf nm lo hi h1 h2 W hb=>lnOf_any s (Lk.walk s nm).2.1 lo hi rv zv lv evs W (hR.call hb) (hsz hf) (hW.below hb) (hA.below hb) ?_ h1 h2 hcc hwc,fun hf hwl nm hn hl W hb=>linkAliases_any s rv zv lv evs nm W (hR.call hb) (hsz hf).nm (hsz hf).lims (by have:=hf.nz;omega) (by have:=hf.nl;omega) hn (Vd.well_leads hwl) (Vd.walk_leads hl).1,fun hf h=>Eg.rules_ok2 h (hsz hf).lims.rules,fun hf x hx=>?_,fun W hb=>?_⟩
 ·have:=walk_bd s nm (hsz hf).lims.zones;omega
 ·unfold Src.names at hx;rcases List.mem_append.1 hx with hx|hx
  ·exact(hsz hf).nm.zn x hx
  ·exact(hsz hf).nm.ln x hx
 ·have h:Lens w:=by first|exact hW.lens|exact hW.l|exact hW.c.lens|exact hW.1
  exact h.below hb
section
variable {s:Src.S} {rv zv lv:Value} {w:World}
theorem Use.lineOk (h:Use s rv zv lv w)(hf:Src.Few s){nm:ByteArray}{lo hi:Int}{x:Src.Txt × List Er.E}{n:Nat}(hz:Cm.Zn s nm lo hi x n)(W:World)(hb:Below w.heap.size w W):
  Calls Tryz.prog 22 #[.agg #[rv,zv,lv],.int .i64 (Lk.walk s nm).2.1,.int .i64 lo,.int .i64 hi] W fun e w'=>(∃A m c,e=.returned (.tuple #[.slice A m c,.int .i64 0])∧(Ln.lineOf s x.2 lo hi).length=m∧m≤900000000∧m≤c∧c≤maxLen∧Reads w' w'.heap.size 3 A m ((Ln.lineOf s x.2 lo hi).flatMap Ln.Sp.cells))∧Below W.heap.size W w':=by
 have hi2:=hz.iny;unfold Ln.InY at hi2;refine(h.line hf nm lo hi (by omega) (by omega) W hb).mono ?_;rintro e w' ⟨hb',h4⟩;refine⟨?_,hb'⟩;rcases h4 with ⟨q,_⟩|⟨_,q,_⟩|⟨_,_,_,q,_⟩|⟨x',v,_,hx,_,rfl,ho⟩
 ·rw[hz.wl] at q;cases q
 ·rw[hz.zn] at q;cases q
 ·exact absurd hz.iny q
 ·rw[hz.zn] at hx;obtain rfl:=Option.some.inj hx;obtain⟨A,c,rfl,h1,h2⟩:=own_slice_cap ho;have hl:=Tp.len_le (h.rules hf hz.wl) hz.zo hz.iny;exact⟨A,_,c,rfl,rfl,by omega,h1,h2,Reads.of_own ho⟩
theorem Use.yearOk (h:Use s rv zv lv w)(hf:Src.Few s){nm:ByteArray}{lo hi y:Int}{x:Src.Txt × List Er.E}{n:Nat}(hz:Cm.Zn s nm lo hi x n)(h1:lo≤y)(h2:y≤hi){A:Option Addr}{m c:Nat}(hm:(Ln.lineOf s x.2 lo hi).length=m)(hm2:m≤900000000)(hmc:m≤c)(hc:c≤maxLen)(W:World)
  (hR:Reads W W.heap.size 3 A m ((Ln.lineOf s x.2 lo hi).flatMap Ln.Sp.cells)):
  Calls Tryz.prog 23 #[.slice A m c,.int .i64 y] W fun e w'=>(∃A' m' c',e=.returned (.tuple #[.slice A' m' c',.int .i64 0])∧(Cm.yr s x.2 y).length=m'∧m'≤maxLen∧Reads w' w'.heap.size 3 A' m' ((Cm.yr s x.2 y).flatMap Ln.Sp.cells))∧Below W.heap.size W w':=by
 refine(lookLine_any (h.rules hf hz.wl) hz.zo hz.iny h1 h2 A m c W hm hm2 hmc hc hR).mono ?_;rintro e w' ⟨v,rfl,ho,hb⟩;obtain⟨A',c',rfl,k1,k2⟩:=own_slice_cap ho;exact⟨⟨A',_,c',rfl,rfl,Nat.le_trans k1 k2,Reads.of_own ho⟩,hb⟩
theorem zn_same {nm y:ByteArray}{lo hi:Int}{x x':Src.Txt × List Er.E}{n n':Nat}(hz:Cm.Zn s nm lo hi x n)(hz':Cm.Zn s y lo hi x' n')(he:(Lk.walk s y).2=(Lk.walk s nm).2):x'=x∧n'=n:=by
 have h1:=hz.zn;have h2:=hz'.zn;rw[he,h1] at h2;have h3:=hz.n;have h4:=hz'.n;exact⟨(Option.some.inj h2).symm,by omega⟩
theorem Use.zoneOk (h:Use s rv zv lv w)(hf:Src.Few s){nm y:ByteArray}{lo hi:Int}{x:Src.Txt × List Er.E}{n:Nat}(hz:Cm.Zn s nm lo hi x n)(hy:y.size≤maxLen)(he:(Lk.walk s y).2=(Lk.walk s nm).2)(W:World)(hb:Below w.heap.size w W):
  Calls Tryz.prog 19 #[.agg #[rv,zv,lv],.string y,.int .i64 lo,.int .i64 hi] W fun e w'=>(∃g1 g2 c1 c2,e=.returned (.tuple #[.agg #[.int .i64 lo,.slice (some ⟨g1,0,none⟩) n c1,.slice (some ⟨g2,0,none⟩) n c2],.int .i64 0])∧Cm.Rd W.heap.size n g1 g2 c1 c2 (Cm.run (Cm.yr s x.2) lo n) w')∧Below W.heap.size W w':=by
 have hi2:=hz.iny;unfold Ln.InY at hi2;refine(h.zone hf y hy lo hi (by omega) (by omega) W hb).mono ?_;intro e w' hr;obtain⟨x',n',g1,g2,c1,c2,hz',rfl,hrd,hb'⟩:=hr.good (by rw[he];exact hz.err);obtain⟨rfl,rfl⟩:=zn_same hz hz' he;exact⟨⟨g1,g2,c1,c2,rfl,hrd⟩,hb'⟩
end
end Cp
end Go.Proofs.YtjobhjemnmleaaaGreatDoor
namespace Go.Proofs.YtjobhjemnmleaaaGreatDoor
open Go.RowKit
namespace Rc
def same (a b:R):Bool:=decide (a.b=b.b) && (decide (a.sb=b.sb) && (decide (a.db=b.db) && (decide (a.std.y=b.std.y) && (decide (a.std.mo=b.std.mo) && (decide (a.std.dw=b.std.dw) && (decide (a.std.d=b.std.d) && (decide (a.std.h=b.std.h) && (decide (a.std.mi=b.std.mi) && (decide (a.std.s=b.std.s) && (decide (a.std.ms=b.std.ms) && (decide (a.dst.y=b.dst.y) && (decide (a.dst.mo=b.dst.mo) && (decide (a.dst.dw=b.dst.dw) && (decide (a.dst.d=b.dst.d) && (decide (a.dst.h=b.dst.h) && (decide (a.dst.mi=b.dst.mi) && (decide (a.dst.s=b.dst.s) && (decide (a.dst.ms=b.dst.ms)))))))))))))))))))
theorem same_eq (a b:R):same a b=decide (a=b):=by
 rw[Bool.eq_iff_iff,decide_eq_true_eq];obtain⟨ab,asb,adb,⟨y,mo,dw,d,h,mi,s,ms⟩,⟨ey,emo,edw,ed,eh,emi,es,ems⟩⟩:=a;obtain⟨bb,bsb,bdb,⟨y',mo',dw',d',h',mi',s',ms'⟩,⟨ey',emo',edw',ed',eh',emi',es',ems'⟩⟩:=b;simp only[same,Bool.and_eq_true,decide_eq_true_eq,R.mk.injEq,Sm.S.mk.injEq,and_assoc]
end Rc
theorem rec_same (a b:Rc.R)(w:World):(Op.equalIn 10000 49 (.agg a.arr) (.agg b.arr)).run Tryz.prog w=.ok (decide (a=b)) w:=by
 rw[← Rc.same_eq];obtain⟨ab,asb,adb,⟨y,mo,dw,d,h,mi,s,ms⟩,⟨ey,emo,edw,ed,eh,emi,es,ems⟩⟩:=a;obtain⟨bb,bsb,bdb,⟨y',mo',dw',d',h',mi',s',ms'⟩,⟨ey',emo',edw',ed',eh',emi',es',ems'⟩⟩:=b;unfold Rc.R.arr Rc.same;simp only;go_simp
 iterate 18 refine Sm.and_if ?_
 exact Sm.last_if _ _
end Go.Proofs.YtjobhjemnmleaaaGreatDoor
namespace Go.Proofs.YtjobhjemnmleaaaGreatDoor
open Go.RowKit
namespace Ln
end Ln
end Go.Proofs.YtjobhjemnmleaaaGreatDoor
namespace Go.Proofs.YtjobhjemnmleaaaGreatDoor
open Go.RowKit
namespace Ln
end Ln
end Go.Proofs.YtjobhjemnmleaaaGreatDoor
namespace Go.Proofs.YtjobhjemnmleaaaGreatDoor
open Go.RowKit
namespace Hv
theorem bl {a w:World}(h:Below a.heap.size a w)(o:Obj):Below a.heap.size a (w.alloc o):=h.alloc h.size o
theorem bl1 (w:World)(o:Obj):Below w.heap.size w (w.alloc o):=bl (Below.refl _ _) o
end Hv
end Go.Proofs.YtjobhjemnmleaaaGreatDoor
namespace Go.Proofs.YtjobhjemnmleaaaGreatDoor
open Go.RowKit
namespace L46
def r0 : Ru.R:=⟨⟨#[69]⟩,1996,9999,3,1,0,0,3600,2,3600,⟨#[83]⟩⟩
def r1 : Ru.R:=⟨⟨#[69]⟩,1996,9999,10,1,0,0,3600,2,0,⟨#[]⟩⟩
def e0_0 : Er.E:=⟨3620,0,0,⟨#[]⟩,⟨#[120]⟩,true,⟨1996,1,0,1,0,0,2⟩⟩
def e0_1 : Er.E:=⟨3600,2,0,⟨#[69]⟩,⟨#[67,69,37,115,84]⟩,false,⟨0,0,0,0,0,0,0⟩⟩
def s : Src.S:=⟨[r0,r1],[([65,47,66],[e0_0,e0_1])],[([65,47,66],[67])],false⟩
theorem r0_ok : r0.Ok:=⟨by decide +kernel,⟨by decide +kernel,by decide +kernel,by decide +kernel⟩,⟨by decide +kernel,by decide +kernel⟩,by unfold Dy.Ok;decide +kernel,by decide +kernel,by decide +kernel,by decide +kernel⟩
theorem r1_ok : r1.Ok:=⟨by decide +kernel,⟨by decide +kernel,by decide +kernel,by decide +kernel⟩,⟨by decide +kernel,by decide +kernel⟩,by unfold Dy.Ok;decide +kernel,by decide +kernel,by decide +kernel,by decide +kernel⟩
theorem e0_0_ok : e0_0.Ok:=⟨by decide +kernel,by decide +kernel,.inl ⟨rfl,rfl,rfl⟩,fun _=>⟨⟨by decide +kernel,by decide +kernel,by decide +kernel,by decide +kernel⟩,by decide +kernel,by decide +kernel⟩,fun h=>(by cases h)⟩
theorem e0_1_ok : e0_1.Ok:=⟨by decide +kernel,by decide +kernel,.inr (.inr ⟨rfl,rfl,by decide +kernel⟩),fun h=>(by cases h),fun _=>rfl⟩
theorem right : Src.srcB s=true:=by
 have hr0:r0.good=true:=(Ru.R.good_iff r0).2 r0_ok;have hr1:r1.good=true:=(Ru.R.good_iff r1).2 r1_ok;have he0_0:e0_0.good=true:=by unfold Er.E.good;rw[Er.chk_ok e0_0 e0_0_ok];rfl
 have he0_1:e0_1.good=true:=by unfold Er.E.good;rw[Er.chk_ok e0_1 e0_1_ok];rfl
 have hz0:Src.zoneB ([65,47,66],[e0_0,e0_1])=true:=by
  unfold Src.zoneB Src.erasB Src.erasB Src.erasB;simp only[he0_0,he0_1]
  decide +kernel
 have hl0:Src.linkB ([65,47,66],[67])=true:=by decide +kernel
 unfold Src.srcB s;simp only[List.all_cons,List.all_nil,hr0,hr1,hz0,hl0];rfl
theorem names : (Src.names s).Nodup:=by
 have h:Src.names s=[⟨#[65,47,66]⟩,⟨#[67]⟩]:=rfl;rw[h]
 decide +kernel
theorem flaws : Vd.flaws s=[]:=by
 rw[Vd.flaws_iff];refine⟨names,?_,?_,?_⟩
 ·intro z hz e he hk;obtain rfl:z=([65,47,66],[e0_0,e0_1]):=by simpa [s] using hz
  have h2:e=e0_0∨e=e0_1:=by simpa using he
  rcases h2 with rfl|rfl
  ·exact absurd hk (by decide)
  ·exact List.mem_map.2 ⟨r0,by simp[s],rfl⟩
 ·intro z hz;obtain rfl:z=([65,47,66],[e0_0,e0_1]):=by simpa [s] using hz
  decide +kernel
 ·intro l hl;obtain rfl:l=([65,47,66],[67]):=by simpa [s] using hl
  exact⟨0,by show _∈Lk.zn s;exact List.mem_singleton.2 rfl⟩
theorem well : Vd.well s=true:=(Vd.well_iff s).2 ⟨right,flaws⟩
theorem sz : Vd.Sz s:=by
 refine⟨⟨by decide,by decide,by decide⟩,?_,⟨?_,?_,?_⟩⟩
 ·intro z hz;obtain rfl:z=([65,47,66],[e0_0,e0_1]):=by simpa [s] using hz
  decide
 ·intro r hr;have h2:r=r0∨r=r1:=by simpa [s] using hr
  rcases h2 with rfl|rfl <;> exact⟨by decide,by decide⟩
 ·intro z hz;obtain rfl:z=([65,47,66],[e0_0,e0_1]):=by simpa [s] using hz
  refine⟨by decide,fun e he=>?_⟩;have h2:e=e0_0∨e=e0_1:=by simpa using he
  rcases h2 with rfl|rfl <;> exact⟨by decide,by decide⟩
 ·intro k hk;obtain rfl:k=([65,47,66],[67]):=by simpa [s] using hk
  exact⟨by decide,by decide⟩
theorem rcs : ∀r∈s.rules,0≤r.c:=by
 intro r hr;have h2:r=r0∨r=r1:=by simpa [s] using hr
 rcases h2 with rfl|rfl <;> decide
theorem ccs : ∀z∈s.zones,∀e∈z.2,0≤e.u.c:=by
 intro z hz e he;obtain rfl:z=([65,47,66],[e0_0,e0_1]):=by simpa [s] using hz
 have h2:e=e0_0∨e=e0_1:=by simpa using he
 rcases h2 with rfl|rfl <;> decide
end L46
namespace M46
end M46
namespace K46
end K46
end Go.Proofs.YtjobhjemnmleaaaGreatDoor
namespace Go.Proofs.YtjobhjemnmleaaaGreatDoor
open Go.RowKit
namespace L27
def es : List Er.E:=[L46.e0_0,L46.e0_1]
def want : Rc.R:=⟨-60,0,-60,⟨0,10,0,5,3,0,0,0⟩,⟨0,3,0,5,2,0,0,0⟩⟩
theorem recs : (Cm.run (Cm.yr L46.s es) 1995 4).recs=[want,want,want,want]:=by decide +kernel
theorem why : (Cm.run (Cm.yr L46.s es) 1995 4).why=[1,0,0,0]:=by decide +kernel
theorem walkC : (Lk.walk L46.s ⟨#[67]⟩).2=(0,0):=by decide +kernel
theorem walkD : (Lk.walk L46.s ⟨#[68]⟩).2.2=3:=by decide +kernel
theorem zone : Eg.zoneAt L46.s 0=some ([65,47,66],es):=rfl
end L27
end Go.Proofs.YtjobhjemnmleaaaGreatDoor
namespace Go.Proofs.YtjobhjemnmleaaaGreatDoor
open Go.RowKit
namespace Lit
theorem reads {w:World}{g size n:Nat}{xs:List Value}(h:At w g xs)(hl:xs.length=n*size):Reads w w.heap.size size (some ⟨g,0,none⟩) n xs:=by
 refine⟨hl,fun _=>⟨_,rfl,h.lt,fun j u hu=>?_⟩⟩;have e:(⟨g,0,none⟩:Addr).add j=⟨g,j,none⟩:=by
  unfold Addr.add;split
  ·subst_vars;rfl
  ·simp
 rw[e];exact h.cell j u hu
theorem newAt (w:World)(cs:Array Value)(t:TypeId)(g:Nat)(hg:g=w.heap.size):At (w.alloc (.cells cs t)) g cs.toList:=by
 subst hg;exact At.new w cs t
end Lit
end Go.Proofs.YtjobhjemnmleaaaGreatDoor
namespace Go.Proofs.YtjobhjemnmleaaaGreatDoor
open Go.RowKit
namespace Eu
structure Is (sec:Int)(nm:ByteArray)(g:Nat)(w:World):Prop where
 rules:At w (g+1) [.string ⟨#[69]⟩,.int .i64 1996,.int .i64 9999,.int .i64 3,.int .u8 1,.int .i64 0,.int .i64 0,.int .i64 sec,.int .u8 2,.int .i64 3600,.string ⟨#[83]⟩,.string ⟨#[69]⟩,.int .i64 1996,.int .i64 9999,.int .i64 10,.int .u8 1,.int .i64 0,.int .i64 0,.int .i64 3600,.int .u8 2,.int .i64 0,.string ⟨#[]⟩]
 eras:At w (g+1+1+1) [.int .i64 3620,.int .u8 0,.int .i64 0,.string ⟨#[]⟩,.string ⟨#[120]⟩,.bool true,.int .i64 1996,.int .i64 1,.int .u8 0,.int .i64 1,.int .i64 0,.int .i64 0,.int .u8 2,.int .i64 3600,.int .u8 2,.int .i64 0,.string ⟨#[69]⟩,.string ⟨#[67,69,37,115,84]⟩,.bool false,.int .i64 0,.int .i64 0,.int .u8 0,.int .i64 0,.int .i64 0,.int .i64 0,.int .u8 0]
 zone:At w (g+1+1+1+1) [.string ⟨#[65,47,66]⟩,.slice (some ⟨g+1+1+1,0,none⟩) 2 2]
 link:At w (g+1+1+1+1+1) [.string ⟨#[65,47,66]⟩,.string nm]
theorem Is.call {sec:Int}{nm:ByteArray}{g:Nat}{w w':World}(h:Is sec nm g w)(hb:Below w.heap.size w w'):Is sec nm g w':=⟨h.rules.call hb,h.eras.call hb,h.zone.call hb,h.link.call hb⟩
theorem Is.src {g:Nat}{w:World}(h:Is 3600 ⟨#[67]⟩ g w):Src.SrcR w w.heap.size L46.s (.slice (some ⟨g+1,0,none⟩) 2 2) (.slice (some ⟨g+1+1+1+1,0,none⟩) 1 1) (.slice (some ⟨g+1+1+1+1+1,0,none⟩) 1 1) [.slice (some ⟨g+1+1+1,0,none⟩) 2 2]:=by
 refine⟨⟨_,2,rfl,Nat.le_refl _,by unfold maxLen;omega,Lit.reads h.rules rfl⟩,⟨_,1,rfl,Nat.le_refl _,by unfold maxLen;omega,Lit.reads h.zone rfl⟩,⟨_,1,rfl,Nat.le_refl _,by unfold maxLen;omega,Lit.reads h.link rfl⟩,rfl,?_⟩;intro p hp;have e:p=(([65,47,66],[L46.e0_0,L46.e0_1]),.slice (some ⟨g+1+1+1,0,none⟩) 2 2):=by simpa [L46.s] using hp
 subst e;exact⟨_,2,rfl,Nat.le_refl _,by unfold maxLen;omega,Lit.reads h.eras rfl⟩
def Ret (w:World)(e:Ending)(w':World):Prop:=∃g,e=.returned (.agg #[.slice (some ⟨g+1,0,none⟩) 2 2,.slice (some ⟨g+1+1+1+1,0,none⟩) 1 1,.slice (some ⟨g+1+1+1+1+1,0,none⟩) 1 1])∧Is 3600 ⟨#[67]⟩ g w'∧w.heap.size≤g∧Below w.heap.size w w'
end Eu
theorem eu_results {tmps:Array Value}{w:World}{g:Nat}{a b c:Value}(h0:tmps[0]?.getD undef=.pointer (some ⟨g,0,none⟩))(c0:w.cell? ⟨g,0,none⟩=some a)(c1:w.cell? ⟨g,1,none⟩=some b)(c2:w.cell? ⟨g,2,none⟩=some c):
  (results Tryz.f46 tmps).run Tryz.prog w=.ok (.agg #[a,b,c]) w:=by
 simp[results,Tryz.f46,go_sem,h0,c0,c1,c2]
theorem europe_at (w:World):Calls Tryz.prog 46 #[] w (Eu.Ret w):=by
 obtain⟨g,hg⟩:=aj (w.heap.size)
 have hB:Below w.heap.size w ((((((w.alloc (.cells #[.slice (some ⟨g+1,0,none⟩) 2 2,.slice (some ⟨g+1+1+1+1,0,none⟩) 1 1,.slice (some ⟨g+1+1+1+1+1,0,none⟩) 1 1] 26)).alloc (.cells #[.string ⟨#[69]⟩,.int .i64 1996,.int .i64 9999,.int .i64 3,.int .u8 1,.int .i64 0,.int .i64 0,.int .i64 3600,.int .u8 2,.int .i64 3600,.string ⟨#[83]⟩,.string ⟨#[69]⟩,.int .i64 1996,.int .i64 9999,.int .i64 10,.int .u8 1,.int .i64 0,.int .i64 0,.int .i64 3600,.int .u8 2,.int .i64 0,.string ⟨#[]⟩] 112)).alloc (.cells #[.slice (some ⟨g+1,0,none⟩) 2 2,.slice (some ⟨g+1+1+1+1,0,none⟩) 1 1,.slice (some ⟨g+1+1+1+1+1,0,none⟩) 1 1] 26)).alloc (.cells #[.int .i64 3620,.int .u8 0,.int .i64 0,.string ⟨#[]⟩,.string ⟨#[120]⟩,.bool true,.int .i64 1996,.int .i64 1,.int .u8 0,.int .i64 1,.int .i64 0,.int .i64 0,.int .u8 2,.int .i64 3600,.int .u8 2,.int .i64 0,.string ⟨#[69]⟩,.string ⟨#[67,69,37,115,84]⟩,.bool false,.int .i64 0,.int .i64 0,.int .u8 0,.int .i64 0,.int .i64 0,.int .i64 0,.int .u8 0] 191)).alloc (.cells #[.string ⟨#[65,47,66]⟩,.slice (some ⟨g+1+1+1,0,none⟩) 2 2] 117)).alloc (.cells #[.string ⟨#[65,47,66]⟩,.string ⟨#[67]⟩] 114)):=Hv.bl (Hv.bl (Hv.bl (Hv.bl (Hv.bl (Hv.bl1 _ _) _) _) _) _) _;have hI:Eu.Is 3600 ⟨#[67]⟩ g ((((((w.alloc (.cells #[.slice (some ⟨g+1,0,none⟩) 2 2,.slice (some ⟨g+1+1+1+1,0,none⟩) 1 1,.slice (some ⟨g+1+1+1+1+1,0,none⟩) 1 1] 26)).alloc (.cells #[.string ⟨#[69]⟩,.int .i64 1996,.int .i64 9999,.int .i64 3,.int .u8 1,.int .i64 0,.int .i64 0,.int .i64 3600,.int .u8 2,.int .i64 3600,.string ⟨#[83]⟩,.string ⟨#[69]⟩,.int .i64 1996,.int .i64 9999,.int .i64 10,.int .u8 1,.int .i64 0,.int .i64 0,.int .i64 3600,.int .u8 2,.int .i64 0,.string ⟨#[]⟩] 112)).alloc (.cells #[.slice (some ⟨g+1,0,none⟩) 2 2,.slice (some ⟨g+1+1+1+1,0,none⟩) 1 1,.slice (some ⟨g+1+1+1+1+1,0,none⟩) 1 1] 26)).alloc (.cells #[.int .i64 3620,.int .u8 0,.int .i64 0,.string ⟨#[]⟩,.string ⟨#[120]⟩,.bool true,.int .i64 1996,.int .i64 1,.int .u8 0,.int .i64 1,.int .i64 0,.int .i64 0,.int .u8 2,.int .i64 3600,.int .u8 2,.int .i64 0,.string ⟨#[69]⟩,.string ⟨#[67,69,37,115,84]⟩,.bool false,.int .i64 0,.int .i64 0,.int .u8 0,.int .i64 0,.int .i64 0,.int .i64 0,.int .u8 0] 191)).alloc (.cells #[.string ⟨#[65,47,66]⟩,.slice (some ⟨g+1+1+1,0,none⟩) 2 2] 117)).alloc (.cells #[.string ⟨#[65,47,66]⟩,.string ⟨#[67]⟩] 114)):=⟨((((Lit.newAt (w.alloc (.cells #[.slice (some ⟨g+1,0,none⟩) 2 2,.slice (some ⟨g+1+1+1+1,0,none⟩) 1 1,.slice (some ⟨g+1+1+1+1+1,0,none⟩) 1 1] 26)) #[.string ⟨#[69]⟩,.int .i64 1996,.int .i64 9999,.int .i64 3,.int .u8 1,.int .i64 0,.int .i64 0,.int .i64 3600,.int .u8 2,.int .i64 3600,.string ⟨#[83]⟩,.string ⟨#[69]⟩,.int .i64 1996,.int .i64 9999,.int .i64 10,.int .u8 1,.int .i64 0,.int .i64 0,.int .i64 3600,.int .u8 2,.int .i64 0,.string ⟨#[]⟩] 112 (g+1) (by simp[hg])).allocO (.cells #[.slice (some ⟨g+1,0,none⟩) 2 2,.slice (some ⟨g+1+1+1+1,0,none⟩) 1 1,.slice (some ⟨g+1+1+1+1+1,0,none⟩) 1 1] 26)).allocO (.cells #[.int .i64 3620,.int .u8 0,.int .i64 0,.string ⟨#[]⟩,.string ⟨#[120]⟩,.bool true,.int .i64 1996,.int .i64 1,.int .u8 0,.int .i64 1,.int .i64 0,.int .i64 0,.int .u8 2,.int .i64 3600,.int .u8 2,.int .i64 0,.string ⟨#[69]⟩,.string ⟨#[67,69,37,115,84]⟩,.bool false,.int .i64 0,.int .i64 0,.int .u8 0,.int .i64 0,.int .i64 0,.int .i64 0,.int .u8 0] 191)).allocO (.cells #[.string ⟨#[65,47,66]⟩,.slice (some ⟨g+1+1+1,0,none⟩) 2 2] 117)).allocO (.cells #[.string ⟨#[65,47,66]⟩,.string ⟨#[67]⟩] 114),((Lit.newAt (((w.alloc (.cells #[.slice (some ⟨g+1,0,none⟩) 2 2,.slice (some ⟨g+1+1+1+1,0,none⟩) 1 1,.slice (some ⟨g+1+1+1+1+1,0,none⟩) 1 1] 26)).alloc (.cells #[.string ⟨#[69]⟩,.int .i64 1996,.int .i64 9999,.int .i64 3,.int .u8 1,.int .i64 0,.int .i64 0,.int .i64 3600,.int .u8 2,.int .i64 3600,.string ⟨#[83]⟩,.string ⟨#[69]⟩,.int .i64 1996,.int .i64 9999,.int .i64 10,.int .u8 1,.int .i64 0,.int .i64 0,.int .i64 3600,.int .u8 2,.int .i64 0,.string ⟨#[]⟩] 112)).alloc (.cells #[.slice (some ⟨g+1,0,none⟩) 2 2,.slice (some ⟨g+1+1+1+1,0,none⟩) 1 1,.slice (some ⟨g+1+1+1+1+1,0,none⟩) 1 1] 26)) #[.int .i64 3620,.int .u8 0,.int .i64 0,.string ⟨#[]⟩,.string ⟨#[120]⟩,.bool true,.int .i64 1996,.int .i64 1,.int .u8 0,.int .i64 1,.int .i64 0,.int .i64 0,.int .u8 2,.int .i64 3600,.int .u8 2,.int .i64 0,.string ⟨#[69]⟩,.string ⟨#[67,69,37,115,84]⟩,.bool false,.int .i64 0,.int .i64 0,.int .u8 0,.int .i64 0,.int .i64 0,.int .i64 0,.int .u8 0] 191 (g+1+1+1) (by simp[hg])).allocO (.cells #[.string ⟨#[65,47,66]⟩,.slice (some ⟨g+1+1+1,0,none⟩) 2 2] 117)).allocO (.cells #[.string ⟨#[65,47,66]⟩,.string ⟨#[67]⟩] 114),(Lit.newAt ((((w.alloc (.cells #[.slice (some ⟨g+1,0,none⟩) 2 2,.slice (some ⟨g+1+1+1+1,0,none⟩) 1 1,.slice (some ⟨g+1+1+1+1+1,0,none⟩) 1 1] 26)).alloc (.cells #[.string ⟨#[69]⟩,.int .i64 1996,.int .i64 9999,.int .i64 3,.int .u8 1,.int .i64 0,.int .i64 0,.int .i64 3600,.int .u8 2,.int .i64 3600,.string ⟨#[83]⟩,.string ⟨#[69]⟩,.int .i64 1996,.int .i64 9999,.int .i64 10,.int .u8 1,.int .i64 0,.int .i64 0,.int .i64 3600,.int .u8 2,.int .i64 0,.string ⟨#[]⟩] 112)).alloc (.cells #[.slice (some ⟨g+1,0,none⟩) 2 2,.slice (some ⟨g+1+1+1+1,0,none⟩) 1 1,.slice (some ⟨g+1+1+1+1+1,0,none⟩) 1 1] 26)).alloc (.cells #[.int .i64 3620,.int .u8 0,.int .i64 0,.string ⟨#[]⟩,.string ⟨#[120]⟩,.bool true,.int .i64 1996,.int .i64 1,.int .u8 0,.int .i64 1,.int .i64 0,.int .i64 0,.int .u8 2,.int .i64 3600,.int .u8 2,.int .i64 0,.string ⟨#[69]⟩,.string ⟨#[67,69,37,115,84]⟩,.bool false,.int .i64 0,.int .i64 0,.int .u8 0,.int .i64 0,.int .i64 0,.int .i64 0,.int .u8 0] 191)) #[.string ⟨#[65,47,66]⟩,.slice (some ⟨g+1+1+1,0,none⟩) 2 2] 117 (g+1+1+1+1) (by simp[hg])).allocO (.cells #[.string ⟨#[65,47,66]⟩,.string ⟨#[67]⟩] 114),Lit.newAt (((((w.alloc (.cells #[.slice (some ⟨g+1,0,none⟩) 2 2,.slice (some ⟨g+1+1+1+1,0,none⟩) 1 1,.slice (some ⟨g+1+1+1+1+1,0,none⟩) 1 1] 26)).alloc (.cells #[.string ⟨#[69]⟩,.int .i64 1996,.int .i64 9999,.int .i64 3,.int .u8 1,.int .i64 0,.int .i64 0,.int .i64 3600,.int .u8 2,.int .i64 3600,.string ⟨#[83]⟩,.string ⟨#[69]⟩,.int .i64 1996,.int .i64 9999,.int .i64 10,.int .u8 1,.int .i64 0,.int .i64 0,.int .i64 3600,.int .u8 2,.int .i64 0,.string ⟨#[]⟩] 112)).alloc (.cells #[.slice (some ⟨g+1,0,none⟩) 2 2,.slice (some ⟨g+1+1+1+1,0,none⟩) 1 1,.slice (some ⟨g+1+1+1+1+1,0,none⟩) 1 1] 26)).alloc (.cells #[.int .i64 3620,.int .u8 0,.int .i64 0,.string ⟨#[]⟩,.string ⟨#[120]⟩,.bool true,.int .i64 1996,.int .i64 1,.int .u8 0,.int .i64 1,.int .i64 0,.int .i64 0,.int .u8 2,.int .i64 3600,.int .u8 2,.int .i64 0,.string ⟨#[69]⟩,.string ⟨#[67,69,37,115,84]⟩,.bool false,.int .i64 0,.int .i64 0,.int .u8 0,.int .i64 0,.int .i64 0,.int .i64 0,.int .u8 0] 191)).alloc (.cells #[.string ⟨#[65,47,66]⟩,.slice (some ⟨g+1+1+1,0,none⟩) 2 2] 117)) #[.string ⟨#[65,47,66]⟩,.string ⟨#[67]⟩] 114 (g+1+1+1+1+1) (by simp[hg])⟩
 have HF:=ak (show Eu.Ret w (.returned (.agg #[.slice (some ⟨g+1,0,none⟩) 2 2,.slice (some ⟨g+1+1+1+1,0,none⟩) 1 1,.slice (some ⟨g+1+1+1+1+1,0,none⟩) 1 1])) ((((((w.alloc (.cells #[.slice (some ⟨g+1,0,none⟩) 2 2,.slice (some ⟨g+1+1+1+1,0,none⟩) 1 1,.slice (some ⟨g+1+1+1+1+1,0,none⟩) 1 1] 26)).alloc (.cells #[.string ⟨#[69]⟩,.int .i64 1996,.int .i64 9999,.int .i64 3,.int .u8 1,.int .i64 0,.int .i64 0,.int .i64 3600,.int .u8 2,.int .i64 3600,.string ⟨#[83]⟩,.string ⟨#[69]⟩,.int .i64 1996,.int .i64 9999,.int .i64 10,.int .u8 1,.int .i64 0,.int .i64 0,.int .i64 3600,.int .u8 2,.int .i64 0,.string ⟨#[]⟩] 112)).alloc (.cells #[.slice (some ⟨g+1,0,none⟩) 2 2,.slice (some ⟨g+1+1+1+1,0,none⟩) 1 1,.slice (some ⟨g+1+1+1+1+1,0,none⟩) 1 1] 26)).alloc (.cells #[.int .i64 3620,.int .u8 0,.int .i64 0,.string ⟨#[]⟩,.string ⟨#[120]⟩,.bool true,.int .i64 1996,.int .i64 1,.int .u8 0,.int .i64 1,.int .i64 0,.int .i64 0,.int .u8 2,.int .i64 3600,.int .u8 2,.int .i64 0,.string ⟨#[69]⟩,.string ⟨#[67,69,37,115,84]⟩,.bool false,.int .i64 0,.int .i64 0,.int .u8 0,.int .i64 0,.int .i64 0,.int .i64 0,.int .u8 0] 191)).alloc (.cells #[.string ⟨#[65,47,66]⟩,.slice (some ⟨g+1+1+1,0,none⟩) 2 2] 117)).alloc (.cells #[.string ⟨#[65,47,66]⟩,.string ⟨#[67]⟩] 114)) from⟨g,rfl,hI,by omega,hB⟩);have HA:=ak ((((((Lit.newAt w #[.slice (some ⟨g+1,0,none⟩) 2 2,.slice (some ⟨g+1+1+1+1,0,none⟩) 1 1,.slice (some ⟨g+1+1+1+1+1,0,none⟩) 1 1] 26 (g) (by simp[hg])).allocO (.cells #[.string ⟨#[69]⟩,.int .i64 1996,.int .i64 9999,.int .i64 3,.int .u8 1,.int .i64 0,.int .i64 0,.int .i64 3600,.int .u8 2,.int .i64 3600,.string ⟨#[83]⟩,.string ⟨#[69]⟩,.int .i64 1996,.int .i64 9999,.int .i64 10,.int .u8 1,.int .i64 0,.int .i64 0,.int .i64 3600,.int .u8 2,.int .i64 0,.string ⟨#[]⟩] 112)).allocO (.cells #[.slice (some ⟨g+1,0,none⟩) 2 2,.slice (some ⟨g+1+1+1+1,0,none⟩) 1 1,.slice (some ⟨g+1+1+1+1+1,0,none⟩) 1 1] 26)).allocO (.cells #[.int .i64 3620,.int .u8 0,.int .i64 0,.string ⟨#[]⟩,.string ⟨#[120]⟩,.bool true,.int .i64 1996,.int .i64 1,.int .u8 0,.int .i64 1,.int .i64 0,.int .i64 0,.int .u8 2,.int .i64 3600,.int .u8 2,.int .i64 0,.string ⟨#[69]⟩,.string ⟨#[67,69,37,115,84]⟩,.bool false,.int .i64 0,.int .i64 0,.int .u8 0,.int .i64 0,.int .i64 0,.int .i64 0,.int .u8 0] 191)).allocO (.cells #[.string ⟨#[65,47,66]⟩,.slice (some ⟨g+1+1+1,0,none⟩) 2 2] 117)).allocO (.cells #[.string ⟨#[65,47,66]⟩,.string ⟨#[67]⟩] 114))
 clear hB hI;go_enter Tryz.func46,Tryz.ntmps46
 obtain⟨c0,c1,c2,_⟩:=HA.out.three;go_wp2;refine bodyPost_ret (eu_results rfl c0 c1 c2) rfl ?_;exact HF.out
end Go.Proofs.YtjobhjemnmleaaaGreatDoor
namespace Go.Proofs.YtjobhjemnmleaaaGreatDoor
open Go.RowKit Go.Sort
namespace Cm
theorem eu_err {nm:ByteArray}{lo hi:Int}(hw:(Lk.walk L46.s nm).2=(0,0))(h:Ln.InY lo hi)(hlo:1601≤lo):Cm.err (Src.srcB L46.s) (Vd.well L46.s) (Eg.zoneAt L46.s (Lk.walk L46.s nm).2.1).isSome (Lk.walk L46.s nm).2.2 lo hi=0:=by
 rw[L46.right,L46.well,hw];unfold Ln.InY at h;simp[Cm.err,L27.zone,h]
 omega
end Cm
section
variable {g:Nat} {w:World}
theorem eu_any (hI:Eu.Is 3600 ⟨#[67]⟩ g w)(hW:Wo w)(hA:Wa w)(nm:ByteArray)(hn:nm.size≤100)(lo hi:Int)(hlo:-9223372036854775808≤lo∧lo<9223372036854775808)(hhi:-9223372036854775808≤hi∧hi<9223372036854775808):
  Calls Tryz.prog 19 #[.agg #[.slice (some ⟨g+1,0,none⟩) 2 2,.slice (some ⟨g+1+1+1+1,0,none⟩) 1 1,.slice (some ⟨g+1+1+1+1+1,0,none⟩) 1 1],.string nm,.int .i64 lo,.int .i64 hi] w (Cm.ZoneRet L46.s nm lo hi w):=
 cmZone_any L46.s nm lo hi _ _ _ _ w hI.src L46.sz hW hA (by unfold maxLen;omega) hlo hhi L46.ccs L46.rcs
theorem eu_zone (hI:Eu.Is 3600 ⟨#[67]⟩ g w)(hW:Wo w)(hA:Wa w)(nm:ByteArray)(hn:nm.size≤100)(hw:(Lk.walk L46.s nm).2=(0,0))(lo hi:Int)(hin:Ln.InY lo hi)(hlo:1601≤lo)(n:Nat)(hnn:(n:Int)=hi - lo+1):
  Calls Tryz.prog 19 #[.agg #[.slice (some ⟨g+1,0,none⟩) 2 2,.slice (some ⟨g+1+1+1+1,0,none⟩) 1 1,.slice (some ⟨g+1+1+1+1+1,0,none⟩) 1 1],.string nm,.int .i64 lo,.int .i64 hi] w fun e w'=>
   (∃g1 g2 c1 c2,e=.returned (.tuple #[.agg #[.int .i64 lo,.slice (some ⟨g1,0,none⟩) n c1,.slice (some ⟨g2,0,none⟩) n c2],.int .i64 0])∧Cm.Rd w.heap.size n g1 g2 c1 c2 (Cm.run (Cm.yr L46.s L27.es) lo n) w')∧Below w.heap.size w w':=by
 have hi2:=hin;unfold Ln.InY at hi2;refine(eu_any hI hW hA nm hn lo hi (by omega) (by omega)).mono ?_;intro e w' h;obtain⟨x,m,g1,g2,c1,c2,hz,rfl,hrd,hb⟩:=h.good (Cm.eu_err hw hin hlo);obtain rfl:m=n:=by have:=hz.n;omega
 obtain rfl:x=([65,47,66],L27.es):=by
  have h:=hz.zn;rw[hw,L27.zone] at h;exact(Option.some.inj h).symm
 exact⟨⟨g1,g2,c1,c2,rfl,hrd⟩,hb⟩
theorem eu_bad (hI:Eu.Is 3600 ⟨#[67]⟩ g w)(hW:Wo w)(hA:Wa w)(nm:ByteArray)(hn:nm.size≤100)(lo hi:Int)(hlo:-9223372036854775808≤lo∧lo<9223372036854775808)(hhi:-9223372036854775808≤hi∧hi<9223372036854775808)(er:Int)(h0:er≠0)
  (he:Cm.err (Src.srcB L46.s) (Vd.well L46.s) (Eg.zoneAt L46.s (Lk.walk L46.s nm).2.1).isSome (Lk.walk L46.s nm).2.2 lo hi=er):
  Calls Tryz.prog 19 #[.agg #[.slice (some ⟨g+1,0,none⟩) 2 2,.slice (some ⟨g+1+1+1+1,0,none⟩) 1 1,.slice (some ⟨g+1+1+1+1+1,0,none⟩) 1 1],.string nm,.int .i64 lo,.int .i64 hi] w fun e w'=>
   e=.returned (.tuple #[.agg #[.int .i64 0,.slice none 0 0,.slice none 0 0],.int .i64 er])∧Below w.heap.size w w':=
 (eu_any hI hW hA nm hn lo hi hlo hhi).mono fun _ _ h=>h.bad h0 he
theorem eu_good {lo hi:Int}(hin:Ln.InY lo hi)(hlo:1601≤lo){n:Nat}(hnn:(n:Int)=hi - lo+1):Cm.Good (Cm.yr L46.s L27.es) lo n (Cm.run (Cm.yr L46.s L27.es) lo n):=
 Cm.good_zone (Eg.rules_ok2 L46.well L46.sz.lims.rules) (Eg.zone_ok L46.well (show (([65,47,66],L27.es):Src.Txt × List Er.E)∈L46.s.zones from List.mem_singleton.2 rfl)) hin hlo (by omega)
end
theorem cmCheck_none (w:World):Calls Tryz.prog 26 #[.agg #[.int .i64 0,.slice none 0 0,.slice none 0 0]] w fun e w'=>e=.returned (.int .i64 2)∧Below w.heap.size w w':=by
 obtain⟨V1,gP,HEV1,HGgP,HS⟩:=(St.start w).lay #[.int .i64 0,.slice none 0 0,.slice none 0 0] 53;have P0:=(HS.out.get 0 rfl).cell 0 _ rfl;have P1:=(HS.out.get 0 rfl).cell 1 _ rfl;have P2:=(HS.out.get 0 rfl).cell 2 _ rfl;have zP:=(HS.out.get 0 rfl).lt;go_enter Tryz.func26,Tryz.ntmps26
 go_upto_region 1 with fail
 rw[HEV1.out]
 try rw[HGgP.out]
 go_wp2;go_ret
 exact⟨rfl,HS.out.b⟩
end Go.Proofs.YtjobhjemnmleaaaGreatDoor
