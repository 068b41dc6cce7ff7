/- Hives as the program holds them: keys of two cells, values of five; sets of texts. -/
import Derived.Test.YtjobhjemnmleaaaGreatDoorR42
set_option maxRecDepth 100000
set_option maxHeartbeats 8000000
namespace Go.Proofs.YtjobhjemnmleaaaGreatDoor
open Go.RowKit
namespace Hv
theorem bl {a w:World}(h:Below a.heap.size a w)(o:Obj):Below a.heap.size a (w.alloc o):=h.alloc h.size o
theorem bl1 (w:World)(o:Obj):Below w.heap.size w (w.alloc o):=bl (Below.refl _ _) o
end Hv
end Go.Proofs.YtjobhjemnmleaaaGreatDoor
namespace Go.Proofs.YtjobhjemnmleaaaGreatDoor
open Go.RowKit
namespace L46
def r0 : Ru.R:=⟨⟨#[69]⟩,1996,9999,3,1,0,0,3600,2,3600,⟨#[83]⟩⟩
def r1 : Ru.R:=⟨⟨#[69]⟩,1996,9999,10,1,0,0,3600,2,0,⟨#[]⟩⟩
def e0_0 : Er.E:=⟨3620,0,0,⟨#[]⟩,⟨#[120]⟩,true,⟨1996,1,0,1,0,0,2⟩⟩
def e0_1 : Er.E:=⟨3600,2,0,⟨#[69]⟩,⟨#[67,69,37,115,84]⟩,false,⟨0,0,0,0,0,0,0⟩⟩
def s : Src.S:=⟨[r0,r1],[([65,47,66],[e0_0,e0_1])],[([65,47,66],[67])],false⟩
theorem r0_ok : r0.Ok:=⟨by decide +kernel,⟨by decide +kernel,by decide +kernel,by decide +kernel⟩,⟨by decide +kernel,by decide +kernel⟩,by unfold Dy.Ok;decide +kernel,by decide +kernel,by decide +kernel,by decide +kernel⟩
theorem r1_ok : r1.Ok:=⟨by decide +kernel,⟨by decide +kernel,by decide +kernel,by decide +kernel⟩,⟨by decide +kernel,by decide +kernel⟩,by unfold Dy.Ok;decide +kernel,by decide +kernel,by decide +kernel,by decide +kernel⟩
theorem e0_0_ok : e0_0.Ok:=⟨by decide +kernel,by decide +kernel,.inl ⟨rfl,rfl,rfl⟩,fun _=>⟨⟨by decide +kernel,by decide +kernel,by decide +kernel,by decide +kernel⟩,by decide +kernel,by decide +kernel⟩,fun h=>(by cases h)⟩
theorem e0_1_ok : e0_1.Ok:=⟨by decide +kernel,by decide +kernel,.inr (.inr ⟨rfl,rfl,by decide +kernel⟩),fun h=>(by cases h),fun _=>rfl⟩
theorem right : Src.srcB s=true:=by
 have hr0:r0.good=true:=(Ru.R.good_iff r0).2 r0_ok;have hr1:r1.good=true:=(Ru.R.good_iff r1).2 r1_ok;have he0_0:e0_0.good=true:=by unfold Er.E.good;rw[Er.chk_ok e0_0 e0_0_ok];rfl
 have he0_1:e0_1.good=true:=by unfold Er.E.good;rw[Er.chk_ok e0_1 e0_1_ok];rfl
 have hz0:Src.zoneB ([65,47,66],[e0_0,e0_1])=true:=by
  unfold Src.zoneB Src.erasB Src.erasB Src.erasB;simp only[he0_0,he0_1]
  decide +kernel
 have hl0:Src.linkB ([65,47,66],[67])=true:=by decide +kernel
 unfold Src.srcB s;simp only[List.all_cons,List.all_nil,hr0,hr1,hz0,hl0];rfl
theorem names : (Src.names s).Nodup:=by
 have h:Src.names s=[⟨#[65,47,66]⟩,⟨#[67]⟩]:=rfl;rw[h]
 decide +kernel
theorem flaws : Vd.flaws s=[]:=by
 rw[Vd.flaws_iff];refine⟨names,?_,?_,?_⟩
 ·intro z hz e he hk;obtain rfl:z=([65,47,66],[e0_0,e0_1]):=by simpa [s] using hz
  have h2:e=e0_0∨e=e0_1:=by simpa using he
  rcases h2 with rfl|rfl
  ·exact absurd hk (by decide)
  ·exact List.mem_map.2 ⟨r0,by simp[s],rfl⟩
 ·intro z hz;obtain rfl:z=([65,47,66],[e0_0,e0_1]):=by simpa [s] using hz
  decide +kernel
 ·intro l hl;obtain rfl:l=([65,47,66],[67]):=by simpa [s] using hl
  exact⟨0,by show _∈Lk.zn s;exact List.mem_singleton.2 rfl⟩
theorem well : Vd.well s=true:=(Vd.well_iff s).2 ⟨right,flaws⟩
theorem sz : Vd.Sz s:=by
 refine⟨⟨by decide,by decide,by decide⟩,?_,⟨?_,?_,?_⟩⟩
 ·intro z hz;obtain rfl:z=([65,47,66],[e0_0,e0_1]):=by simpa [s] using hz
  decide
 ·intro r hr;have h2:r=r0∨r=r1:=by simpa [s] using hr
  rcases h2 with rfl|rfl <;> exact⟨by decide,by decide⟩
 ·intro z hz;obtain rfl:z=([65,47,66],[e0_0,e0_1]):=by simpa [s] using hz
  refine⟨by decide,fun e he=>?_⟩;have h2:e=e0_0∨e=e0_1:=by simpa using he
  rcases h2 with rfl|rfl <;> exact⟨by decide,by decide⟩
 ·intro k hk;obtain rfl:k=([65,47,66],[67]):=by simpa [s] using hk
  exact⟨by decide,by decide⟩
theorem rcs : ∀r∈s.rules,0≤r.c:=by
 intro r hr;have h2:r=r0∨r=r1:=by simpa [s] using hr
 rcases h2 with rfl|rfl <;> decide
theorem ccs : ∀z∈s.zones,∀e∈z.2,0≤e.u.c:=by
 intro z hz e he;obtain rfl:z=([65,47,66],[e0_0,e0_1]):=by simpa [s] using hz
 have h2:e=e0_0∨e=e0_1:=by simpa using he
 rcases h2 with rfl|rfl <;> decide
end L46
namespace M46
end M46
namespace K46
end K46
end Go.Proofs.YtjobhjemnmleaaaGreatDoor
namespace Go.Proofs.YtjobhjemnmleaaaGreatDoor
open Go.RowKit
namespace L27
def es : List Er.E:=[L46.e0_0,L46.e0_1]
def want : Rc.R:=⟨-60,0,-60,⟨0,10,0,5,3,0,0,0⟩,⟨0,3,0,5,2,0,0,0⟩⟩
theorem walkC : (Lk.walk L46.s ⟨#[67]⟩).2=(0,0):=by decide +kernel
theorem zone : Eg.zoneAt L46.s 0=some ([65,47,66],es):=rfl
end L27
end Go.Proofs.YtjobhjemnmleaaaGreatDoor
namespace Go.Proofs.YtjobhjemnmleaaaGreatDoor
open Go.RowKit
namespace Lit
theorem reads {w:World}{g size n:Nat}{xs:List Value}(h:At w g xs)(hl:xs.length=n*size):Reads w w.heap.size size (some ⟨g,0,none⟩) n xs:=by
 refine⟨hl,fun _=>⟨_,rfl,h.lt,fun j u hu=>?_⟩⟩;have e:(⟨g,0,none⟩:Addr).add j=⟨g,j,none⟩:=by
  unfold Addr.add;split
  ·subst_vars;rfl
  ·simp
 rw[e];exact h.cell j u hu
theorem newAt (w:World)(cs:Array Value)(t:TypeId)(g:Nat)(hg:g=w.heap.size):At (w.alloc (.cells cs t)) g cs.toList:=by
 subst hg;exact At.new w cs t
end Lit
end Go.Proofs.YtjobhjemnmleaaaGreatDoor
namespace Go.Proofs.YtjobhjemnmleaaaGreatDoor
open Go.RowKit
namespace Eu
structure Is (sec:Int)(nm:ByteArray)(g:Nat)(w:World):Prop where
 rules:At w (g+1) [.string ⟨#[69]⟩,.int .i64 1996,.int .i64 9999,.int .i64 3,.int .u8 1,.int .i64 0,.int .i64 0,.int .i64 sec,.int .u8 2,.int .i64 3600,.string ⟨#[83]⟩,.string ⟨#[69]⟩,.int .i64 1996,.int .i64 9999,.int .i64 10,.int .u8 1,.int .i64 0,.int .i64 0,.int .i64 3600,.int .u8 2,.int .i64 0,.string ⟨#[]⟩]
 eras:At w (g+1+1+1) [.int .i64 3620,.int .u8 0,.int .i64 0,.string ⟨#[]⟩,.string ⟨#[120]⟩,.bool true,.int .i64 1996,.int .i64 1,.int .u8 0,.int .i64 1,.int .i64 0,.int .i64 0,.int .u8 2,.int .i64 3600,.int .u8 2,.int .i64 0,.string ⟨#[69]⟩,.string ⟨#[67,69,37,115,84]⟩,.bool false,.int .i64 0,.int .i64 0,.int .u8 0,.int .i64 0,.int .i64 0,.int .i64 0,.int .u8 0]
 zone:At w (g+1+1+1+1) [.string ⟨#[65,47,66]⟩,.slice (some ⟨g+1+1+1,0,none⟩) 2 2]
 link:At w (g+1+1+1+1+1) [.string ⟨#[65,47,66]⟩,.string nm]
theorem Is.src {g:Nat}{w:World}(h:Is 3600 ⟨#[67]⟩ g w):Src.SrcR w w.heap.size L46.s (.slice (some ⟨g+1,0,none⟩) 2 2) (.slice (some ⟨g+1+1+1+1,0,none⟩) 1 1) (.slice (some ⟨g+1+1+1+1+1,0,none⟩) 1 1) [.slice (some ⟨g+1+1+1,0,none⟩) 2 2]:=by
 refine⟨⟨_,2,rfl,Nat.le_refl _,by unfold maxLen;omega,Lit.reads h.rules rfl⟩,⟨_,1,rfl,Nat.le_refl _,by unfold maxLen;omega,Lit.reads h.zone rfl⟩,⟨_,1,rfl,Nat.le_refl _,by unfold maxLen;omega,Lit.reads h.link rfl⟩,rfl,?_⟩;intro p hp;have e:p=(([65,47,66],[L46.e0_0,L46.e0_1]),.slice (some ⟨g+1+1+1,0,none⟩) 2 2):=by simpa [L46.s] using hp
 subst e;exact⟨_,2,rfl,Nat.le_refl _,by unfold maxLen;omega,Lit.reads h.eras rfl⟩
def Ret (w:World)(e:Ending)(w':World):Prop:=∃g,e=.returned (.agg #[.slice (some ⟨g+1,0,none⟩) 2 2,.slice (some ⟨g+1+1+1+1,0,none⟩) 1 1,.slice (some ⟨g+1+1+1+1+1,0,none⟩) 1 1])∧Is 3600 ⟨#[67]⟩ g w'∧w.heap.size≤g∧Below w.heap.size w w'
end Eu
theorem eu_results {tmps:Array Value}{w:World}{g:Nat}{a b c:Value}(h0:tmps[0]?.getD undef=.pointer (some ⟨g,0,none⟩))(c0:w.cell? ⟨g,0,none⟩=some a)(c1:w.cell? ⟨g,1,none⟩=some b)(c2:w.cell? ⟨g,2,none⟩=some c):
  (results Tryz.f46 tmps).run Tryz.prog w=.ok (.agg #[a,b,c]) w:=by
 simp[results,Tryz.f46,go_sem,h0,c0,c1,c2]
theorem europe_at (w:World):Calls Tryz.prog 46 #[] w (Eu.Ret w):=by
 obtain⟨g,hg⟩:=aj (w.heap.size)
 have hB:Below w.heap.size w ((((((w.alloc (.cells #[.slice (some ⟨g+1,0,none⟩) 2 2,.slice (some ⟨g+1+1+1+1,0,none⟩) 1 1,.slice (some ⟨g+1+1+1+1+1,0,none⟩) 1 1] 26)).alloc (.cells #[.string ⟨#[69]⟩,.int .i64 1996,.int .i64 9999,.int .i64 3,.int .u8 1,.int .i64 0,.int .i64 0,.int .i64 3600,.int .u8 2,.int .i64 3600,.string ⟨#[83]⟩,.string ⟨#[69]⟩,.int .i64 1996,.int .i64 9999,.int .i64 10,.int .u8 1,.int .i64 0,.int .i64 0,.int .i64 3600,.int .u8 2,.int .i64 0,.string ⟨#[]⟩] 112)).alloc (.cells #[.slice (some ⟨g+1,0,none⟩) 2 2,.slice (some ⟨g+1+1+1+1,0,none⟩) 1 1,.slice (some ⟨g+1+1+1+1+1,0,none⟩) 1 1] 26)).alloc (.cells #[.int .i64 3620,.int .u8 0,.int .i64 0,.string ⟨#[]⟩,.string ⟨#[120]⟩,.bool true,.int .i64 1996,.int .i64 1,.int .u8 0,.int .i64 1,.int .i64 0,.int .i64 0,.int .u8 2,.int .i64 3600,.int .u8 2,.int .i64 0,.string ⟨#[69]⟩,.string ⟨#[67,69,37,115,84]⟩,.bool false,.int .i64 0,.int .i64 0,.int .u8 0,.int .i64 0,.int .i64 0,.int .i64 0,.int .u8 0] 191)).alloc (.cells #[.string ⟨#[65,47,66]⟩,.slice (some ⟨g+1+1+1,0,none⟩) 2 2] 117)).alloc (.cells #[.string ⟨#[65,47,66]⟩,.string ⟨#[67]⟩] 114)):=Hv.bl (Hv.bl (Hv.bl (Hv.bl (Hv.bl (Hv.bl1 _ _) _) _) _) _) _;have hI:Eu.Is 3600 ⟨#[67]⟩ g ((((((w.alloc (.cells #[.slice (some ⟨g+1,0,none⟩) 2 2,.slice (some ⟨g+1+1+1+1,0,none⟩) 1 1,.slice (some ⟨g+1+1+1+1+1,0,none⟩) 1 1] 26)).alloc (.cells #[.string ⟨#[69]⟩,.int .i64 1996,.int .i64 9999,.int .i64 3,.int .u8 1,.int .i64 0,.int .i64 0,.int .i64 3600,.int .u8 2,.int .i64 3600,.string ⟨#[83]⟩,.string ⟨#[69]⟩,.int .i64 1996,.int .i64 9999,.int .i64 10,.int .u8 1,.int .i64 0,.int .i64 0,.int .i64 3600,.int .u8 2,.int .i64 0,.string ⟨#[]⟩] 112)).alloc (.cells #[.slice (some ⟨g+1,0,none⟩) 2 2,.slice (some ⟨g+1+1+1+1,0,none⟩) 1 1,.slice (some ⟨g+1+1+1+1+1,0,none⟩) 1 1] 26)).alloc (.cells #[.int .i64 3620,.int .u8 0,.int .i64 0,.string ⟨#[]⟩,.string ⟨#[120]⟩,.bool true,.int .i64 1996,.int .i64 1,.int .u8 0,.int .i64 1,.int .i64 0,.int .i64 0,.int .u8 2,.int .i64 3600,.int .u8 2,.int .i64 0,.string ⟨#[69]⟩,.string ⟨#[67,69,37,115,84]⟩,.bool false,.int .i64 0,.int .i64 0,.int .u8 0,.int .i64 0,.int .i64 0,.int .i64 0,.int .u8 0] 191)).alloc (.cells #[.string ⟨#[65,47,66]⟩,.slice (some ⟨g+1+1+1,0,none⟩) 2 2] 117)).alloc (.cells #[.string ⟨#[65,47,66]⟩,.string ⟨#[67]⟩] 114)):=⟨((((Lit.newAt (w.alloc (.cells #[.slice (some ⟨g+1,0,none⟩) 2 2,.slice (some ⟨g+1+1+1+1,0,none⟩) 1 1,.slice (some ⟨g+1+1+1+1+1,0,none⟩) 1 1] 26)) #[.string ⟨#[69]⟩,.int .i64 1996,.int .i64 9999,.int .i64 3,.int .u8 1,.int .i64 0,.int .i64 0,.int .i64 3600,.int .u8 2,.int .i64 3600,.string ⟨#[83]⟩,.string ⟨#[69]⟩,.int .i64 1996,.int .i64 9999,.int .i64 10,.int .u8 1,.int .i64 0,.int .i64 0,.int .i64 3600,.int .u8 2,.int .i64 0,.string ⟨#[]⟩] 112 (g+1) (by simp[hg])).allocO (.cells #[.slice (some ⟨g+1,0,none⟩) 2 2,.slice (some ⟨g+1+1+1+1,0,none⟩) 1 1,.slice (some ⟨g+1+1+1+1+1,0,none⟩) 1 1] 26)).allocO (.cells #[.int .i64 3620,.int .u8 0,.int .i64 0,.string ⟨#[]⟩,.string ⟨#[120]⟩,.bool true,.int .i64 1996,.int .i64 1,.int .u8 0,.int .i64 1,.int .i64 0,.int .i64 0,.int .u8 2,.int .i64 3600,.int .u8 2,.int .i64 0,.string ⟨#[69]⟩,.string ⟨#[67,69,37,115,84]⟩,.bool false,.int .i64 0,.int .i64 0,.int .u8 0,.int .i64 0,.int .i64 0,.int .i64 0,.int .u8 0] 191)).allocO (.cells #[.string ⟨#[65,47,66]⟩,.slice (some ⟨g+1+1+1,0,none⟩) 2 2] 117)).allocO (.cells #[.string ⟨#[65,47,66]⟩,.string ⟨#[67]⟩] 114),((Lit.newAt (((w.alloc (.cells #[.slice (some ⟨g+1,0,none⟩) 2 2,.slice (some ⟨g+1+1+1+1,0,none⟩) 1 1,.slice (some ⟨g+1+1+1+1+1,0,none⟩) 1 1] 26)).alloc (.cells #[.string ⟨#[69]⟩,.int .i64 1996,.int .i64 9999,.int .i64 3,.int .u8 1,.int .i64 0,.int .i64 0,.int .i64 3600,.int .u8 2,.int .i64 3600,.string ⟨#[83]⟩,.string ⟨#[69]⟩,.int .i64 1996,.int .i64 9999,.int .i64 10,.int .u8 1,.int .i64 0,.int .i64 0,.int .i64 3600,.int .u8 2,.int .i64 0,.string ⟨#[]⟩] 112)).alloc (.cells #[.slice (some ⟨g+1,0,none⟩) 2 2,.slice (some ⟨g+1+1+1+1,0,none⟩) 1 1,.slice (some ⟨g+1+1+1+1+1,0,none⟩) 1 1] 26)) #[.int .i64 3620,.int .u8 0,.int .i64 0,.string ⟨#[]⟩,.string ⟨#[120]⟩,.bool true,.int .i64 1996,.int .i64 1,.int .u8 0,.int .i64 1,.int .i64 0,.int .i64 0,.int .u8 2,.int .i64 3600,.int .u8 2,.int .i64 0,.string ⟨#[69]⟩,.string ⟨#[67,69,37,115,84]⟩,.bool false,.int .i64 0,.int .i64 0,.int .u8 0,.int .i64 0,.int .i64 0,.int .i64 0,.int .u8 0] 191 (g+1+1+1) (by simp[hg])).allocO (.cells #[.string ⟨#[65,47,66]⟩,.slice (some ⟨g+1+1+1,0,none⟩) 2 2] 117)).allocO (.cells #[.string ⟨#[65,47,66]⟩,.string ⟨#[67]⟩] 114),(Lit.newAt ((((w.alloc (.cells #[.slice (some ⟨g+1,0,none⟩) 2 2,.slice (some ⟨g+1+1+1+1,0,none⟩) 1 1,.slice (some ⟨g+1+1+1+1+1,0,none⟩) 1 1] 26)).alloc (.cells #[.string ⟨#[69]⟩,.int .i64 1996,.int .i64 9999,.int .i64 3,.int .u8 1,.int .i64 0,.int .i64 0,.int .i64 3600,.int .u8 2,.int .i64 3600,.string ⟨#[83]⟩,.string ⟨#[69]⟩,.int .i64 1996,.int .i64 9999,.int .i64 10,.int .u8 1,.int .i64 0,.int .i64 0,.int .i64 3600,.int .u8 2,.int .i64 0,.string ⟨#[]⟩] 112)).alloc (.cells #[.slice (some ⟨g+1,0,none⟩) 2 2,.slice (some ⟨g+1+1+1+1,0,none⟩) 1 1,.slice (some ⟨g+1+1+1+1+1,0,none⟩) 1 1] 26)).alloc (.cells #[.int .i64 3620,.int .u8 0,.int .i64 0,.string ⟨#[]⟩,.string ⟨#[120]⟩,.bool true,.int .i64 1996,.int .i64 1,.int .u8 0,.int .i64 1,.int .i64 0,.int .i64 0,.int .u8 2,.int .i64 3600,.int .u8 2,.int .i64 0,.string ⟨#[69]⟩,.string ⟨#[67,69,37,115,84]⟩,.bool false,.int .i64 0,.int .i64 0,.int .u8 0,.int .i64 0,.int .i64 0,.int .i64 0,.int .u8 0] 191)) #[.string ⟨#[65,47,66]⟩,.slice (some ⟨g+1+1+1,0,none⟩) 2 2] 117 (g+1+1+1+1) (by simp[hg])).allocO (.cells #[.string ⟨#[65,47,66]⟩,.string ⟨#[67]⟩] 114),Lit.newAt (((((w.alloc (.cells #[.slice (some ⟨g+1,0,none⟩) 2 2,.slice (some ⟨g+1+1+1+1,0,none⟩) 1 1,.slice (some ⟨g+1+1+1+1+1,0,none⟩) 1 1] 26)).alloc (.cells #[.string ⟨#[69]⟩,.int .i64 1996,.int .i64 9999,.int .i64 3,.int .u8 1,.int .i64 0,.int .i64 0,.int .i64 3600,.int .u8 2,.int .i64 3600,.string ⟨#[83]⟩,.string ⟨#[69]⟩,.int .i64 1996,.int .i64 9999,.int .i64 10,.int .u8 1,.int .i64 0,.int .i64 0,.int .i64 3600,.int .u8 2,.int .i64 0,.string ⟨#[]⟩] 112)).alloc (.cells #[.slice (some ⟨g+1,0,none⟩) 2 2,.slice (some ⟨g+1+1+1+1,0,none⟩) 1 1,.slice (some ⟨g+1+1+1+1+1,0,none⟩) 1 1] 26)).alloc (.cells #[.int .i64 3620,.int .u8 0,.int .i64 0,.string ⟨#[]⟩,.string ⟨#[120]⟩,.bool true,.int .i64 1996,.int .i64 1,.int .u8 0,.int .i64 1,.int .i64 0,.int .i64 0,.int .u8 2,.int .i64 3600,.int .u8 2,.int .i64 0,.string ⟨#[69]⟩,.string ⟨#[67,69,37,115,84]⟩,.bool false,.int .i64 0,.int .i64 0,.int .u8 0,.int .i64 0,.int .i64 0,.int .i64 0,.int .u8 0] 191)).alloc (.cells #[.string ⟨#[65,47,66]⟩,.slice (some ⟨g+1+1+1,0,none⟩) 2 2] 117)) #[.string ⟨#[65,47,66]⟩,.string ⟨#[67]⟩] 114 (g+1+1+1+1+1) (by simp[hg])⟩
 have HF:=ak (show Eu.Ret w (.returned (.agg #[.slice (some ⟨g+1,0,none⟩) 2 2,.slice (some ⟨g+1+1+1+1,0,none⟩) 1 1,.slice (some ⟨g+1+1+1+1+1,0,none⟩) 1 1])) ((((((w.alloc (.cells #[.slice (some ⟨g+1,0,none⟩) 2 2,.slice (some ⟨g+1+1+1+1,0,none⟩) 1 1,.slice (some ⟨g+1+1+1+1+1,0,none⟩) 1 1] 26)).alloc (.cells #[.string ⟨#[69]⟩,.int .i64 1996,.int .i64 9999,.int .i64 3,.int .u8 1,.int .i64 0,.int .i64 0,.int .i64 3600,.int .u8 2,.int .i64 3600,.string ⟨#[83]⟩,.string ⟨#[69]⟩,.int .i64 1996,.int .i64 9999,.int .i64 10,.int .u8 1,.int .i64 0,.int .i64 0,.int .i64 3600,.int .u8 2,.int .i64 0,.string ⟨#[]⟩] 112)).alloc (.cells #[.slice (some ⟨g+1,0,none⟩) 2 2,.slice (some ⟨g+1+1+1+1,0,none⟩) 1 1,.slice (some ⟨g+1+1+1+1+1,0,none⟩) 1 1] 26)).alloc (.cells #[.int .i64 3620,.int .u8 0,.int .i64 0,.string ⟨#[]⟩,.string ⟨#[120]⟩,.bool true,.int .i64 1996,.int .i64 1,.int .u8 0,.int .i64 1,.int .i64 0,.int .i64 0,.int .u8 2,.int .i64 3600,.int .u8 2,.int .i64 0,.string ⟨#[69]⟩,.string ⟨#[67,69,37,115,84]⟩,.bool false,.int .i64 0,.int .i64 0,.int .u8 0,.int .i64 0,.int .i64 0,.int .i64 0,.int .u8 0] 191)).alloc (.cells #[.string ⟨#[65,47,66]⟩,.slice (some ⟨g+1+1+1,0,none⟩) 2 2] 117)).alloc (.cells #[.string ⟨#[65,47,66]⟩,.string ⟨#[67]⟩] 114)) from⟨g,rfl,hI,by omega,hB⟩);have HA:=ak ((((((Lit.newAt w #[.slice (some ⟨g+1,0,none⟩) 2 2,.slice (some ⟨g+1+1+1+1,0,none⟩) 1 1,.slice (some ⟨g+1+1+1+1+1,0,none⟩) 1 1] 26 (g) (by simp[hg])).allocO (.cells #[.string ⟨#[69]⟩,.int .i64 1996,.int .i64 9999,.int .i64 3,.int .u8 1,.int .i64 0,.int .i64 0,.int .i64 3600,.int .u8 2,.int .i64 3600,.string ⟨#[83]⟩,.string ⟨#[69]⟩,.int .i64 1996,.int .i64 9999,.int .i64 10,.int .u8 1,.int .i64 0,.int .i64 0,.int .i64 3600,.int .u8 2,.int .i64 0,.string ⟨#[]⟩] 112)).allocO (.cells #[.slice (some ⟨g+1,0,none⟩) 2 2,.slice (some ⟨g+1+1+1+1,0,none⟩) 1 1,.slice (some ⟨g+1+1+1+1+1,0,none⟩) 1 1] 26)).allocO (.cells #[.int .i64 3620,.int .u8 0,.int .i64 0,.string ⟨#[]⟩,.string ⟨#[120]⟩,.bool true,.int .i64 1996,.int .i64 1,.int .u8 0,.int .i64 1,.int .i64 0,.int .i64 0,.int .u8 2,.int .i64 3600,.int .u8 2,.int .i64 0,.string ⟨#[69]⟩,.string ⟨#[67,69,37,115,84]⟩,.bool false,.int .i64 0,.int .i64 0,.int .u8 0,.int .i64 0,.int .i64 0,.int .i64 0,.int .u8 0] 191)).allocO (.cells #[.string ⟨#[65,47,66]⟩,.slice (some ⟨g+1+1+1,0,none⟩) 2 2] 117)).allocO (.cells #[.string ⟨#[65,47,66]⟩,.string ⟨#[67]⟩] 114))
 clear hB hI;go_enter Tryz.func46,Tryz.ntmps46
 obtain⟨c0,c1,c2,_⟩:=HA.out.three;go_wp2;refine bodyPost_ret (eu_results rfl c0 c1 c2) rfl ?_;exact HF.out
end Go.Proofs.YtjobhjemnmleaaaGreatDoor
namespace Go.Proofs.YtjobhjemnmleaaaGreatDoor
open Go.RowKit Go.Sort
namespace Cm
theorem eu_err {nm:ByteArray}{lo hi:Int}(hw:(Lk.walk L46.s nm).2=(0,0))(h:Ln.InY lo hi)(hlo:1601≤lo):Cm.err (Src.srcB L46.s) (Vd.well L46.s) (Eg.zoneAt L46.s (Lk.walk L46.s nm).2.1).isSome (Lk.walk L46.s nm).2.2 lo hi=0:=by
 rw[L46.right,L46.well,hw];unfold Ln.InY at h;simp[Cm.err,L27.zone,h]
 omega
end Cm
section
variable {g:Nat} {w:World}
theorem eu_any (hI:Eu.Is 3600 ⟨#[67]⟩ g w)(hW:Wo w)(hA:Wa w)(nm:ByteArray)(hn:nm.size≤100)(lo hi:Int)(hlo:-9223372036854775808≤lo∧lo<9223372036854775808)(hhi:-9223372036854775808≤hi∧hi<9223372036854775808):
  Calls Tryz.prog 19 #[.agg #[.slice (some ⟨g+1,0,none⟩) 2 2,.slice (some ⟨g+1+1+1+1,0,none⟩) 1 1,.slice (some ⟨g+1+1+1+1+1,0,none⟩) 1 1],.string nm,.int .i64 lo,.int .i64 hi] w (Cm.ZoneRet L46.s nm lo hi w):=
 cmZone_any L46.s nm lo hi _ _ _ _ w hI.src L46.sz hW hA (by unfold maxLen;omega) hlo hhi L46.ccs L46.rcs
theorem eu_zone (hI:Eu.Is 3600 ⟨#[67]⟩ g w)(hW:Wo w)(hA:Wa w)(nm:ByteArray)(hn:nm.size≤100)(hw:(Lk.walk L46.s nm).2=(0,0))(lo hi:Int)(hin:Ln.InY lo hi)(hlo:1601≤lo)(n:Nat)(hnn:(n:Int)=hi - lo+1):
  Calls Tryz.prog 19 #[.agg #[.slice (some ⟨g+1,0,none⟩) 2 2,.slice (some ⟨g+1+1+1+1,0,none⟩) 1 1,.slice (some ⟨g+1+1+1+1+1,0,none⟩) 1 1],.string nm,.int .i64 lo,.int .i64 hi] w fun e w'=>
   (∃g1 g2 c1 c2,e=.returned (.tuple #[.agg #[.int .i64 lo,.slice (some ⟨g1,0,none⟩) n c1,.slice (some ⟨g2,0,none⟩) n c2],.int .i64 0])∧Cm.Rd w.heap.size n g1 g2 c1 c2 (Cm.run (Cm.yr L46.s L27.es) lo n) w')∧Below w.heap.size w w':=by
 have hi2:=hin;unfold Ln.InY at hi2;refine(eu_any hI hW hA nm hn lo hi (by omega) (by omega)).mono ?_;intro e w' h;obtain⟨x,m,g1,g2,c1,c2,hz,rfl,hrd,hb⟩:=h.good (Cm.eu_err hw hin hlo);obtain rfl:m=n:=by have:=hz.n;omega
 obtain rfl:x=([65,47,66],L27.es):=by
  have h:=hz.zn;rw[hw,L27.zone] at h;exact(Option.some.inj h).symm
 exact⟨⟨g1,g2,c1,c2,rfl,hrd⟩,hb⟩
theorem eu_good {lo hi:Int}(hin:Ln.InY lo hi)(hlo:1601≤lo){n:Nat}(hnn:(n:Int)=hi - lo+1):Cm.Good (Cm.yr L46.s L27.es) lo n (Cm.run (Cm.yr L46.s L27.es) lo n):=
 Cm.good_zone (Eg.rules_ok2 L46.well L46.sz.lims.rules) (Eg.zone_ok L46.well (show (([65,47,66],L27.es):Src.Txt × List Er.E)∈L46.s.zones from List.mem_singleton.2 rfl)) hin hlo (by omega)
end
theorem cmCheck_none (w:World):Calls Tryz.prog 26 #[.agg #[.int .i64 0,.slice none 0 0,.slice none 0 0]] w fun e w'=>e=.returned (.int .i64 2)∧Below w.heap.size w w':=by
 obtain⟨V1,gP,HEV1,HGgP,HS⟩:=(St.start w).lay #[.int .i64 0,.slice none 0 0,.slice none 0 0] 53;have P0:=(HS.out.get 0 rfl).cell 0 _ rfl;have P1:=(HS.out.get 0 rfl).cell 1 _ rfl;have P2:=(HS.out.get 0 rfl).cell 2 _ rfl;have zP:=(HS.out.get 0 rfl).lt;go_enter Tryz.func26,Tryz.ntmps26
 go_upto_region 1 with fail
 rw[HEV1.out]
 try rw[HGgP.out]
 go_wp2;go_ret
 exact⟨rfl,HS.out.b⟩
end Go.Proofs.YtjobhjemnmleaaaGreatDoor
namespace Go.Proofs.YtjobhjemnmleaaaGreatDoor
open Go.RowKit
namespace Rc
def same (a b:R):Bool:=decide (a.b=b.b) && (decide (a.sb=b.sb) && (decide (a.db=b.db) && (decide (a.std.y=b.std.y) && (decide (a.std.mo=b.std.mo) && (decide (a.std.dw=b.std.dw) && (decide (a.std.d=b.std.d) && (decide (a.std.h=b.std.h) && (decide (a.std.mi=b.std.mi) && (decide (a.std.s=b.std.s) && (decide (a.std.ms=b.std.ms) && (decide (a.dst.y=b.dst.y) && (decide (a.dst.mo=b.dst.mo) && (decide (a.dst.dw=b.dst.dw) && (decide (a.dst.d=b.dst.d) && (decide (a.dst.h=b.dst.h) && (decide (a.dst.mi=b.dst.mi) && (decide (a.dst.s=b.dst.s) && (decide (a.dst.ms=b.dst.ms)))))))))))))))))))
theorem same_eq (a b:R):same a b=decide (a=b):=by
 rw[Bool.eq_iff_iff,decide_eq_true_eq];obtain⟨ab,asb,adb,⟨y,mo,dw,d,h,mi,s,ms⟩,⟨ey,emo,edw,ed,eh,emi,es,ems⟩⟩:=a;obtain⟨bb,bsb,bdb,⟨y',mo',dw',d',h',mi',s',ms'⟩,⟨ey',emo',edw',ed',eh',emi',es',ems'⟩⟩:=b;simp only[same,Bool.and_eq_true,decide_eq_true_eq,R.mk.injEq,Sm.S.mk.injEq,and_assoc]
end Rc
theorem rec_same (a b:Rc.R)(w:World):(Op.equalIn 10000 49 (.agg a.arr) (.agg b.arr)).run Tryz.prog w=.ok (decide (a=b)) w:=by
 rw[← Rc.same_eq];obtain⟨ab,asb,adb,⟨y,mo,dw,d,h,mi,s,ms⟩,⟨ey,emo,edw,ed,eh,emi,es,ems⟩⟩:=a;obtain⟨bb,bsb,bdb,⟨y',mo',dw',d',h',mi',s',ms'⟩,⟨ey',emo',edw',ed',eh',emi',es',ems'⟩⟩:=b;unfold Rc.R.arr Rc.same;simp only;go_simp
 iterate 18 refine Sm.and_if ?_
 exact Sm.last_if _ _
end Go.Proofs.YtjobhjemnmleaaaGreatDoor
namespace Go.Proofs.YtjobhjemnmleaaaGreatDoor
open Go.RowKit
namespace Sq
structure Cut (l:List Rc.R)(a b:Nat):Prop where
 le:a≤b
 lt:b<l.length
 ahead:∀i,i≤a→l[i]?=l[a]?
 behind:∀i,b≤i→i<l.length→l[i]?=l[b]?
 up:a<b→l[a+1]?≠l[a]?
 down:a<b→l[b - 1]?≠l[b]?
 zero:a=b→a=0
theorem cut_all {l:List Rc.R}(h0:0<l.length)(h:∀i,i<l.length→l[i]?=l[0]?):Cut l 0 0:=
 ⟨Nat.le_refl _,h0,fun i hi=>by rw[Nat.le_zero.1 hi],fun i _ hi=>h i hi,fun q=>absurd q (Nat.lt_irrefl _),fun q=>absurd q (Nat.lt_irrefl _),fun _=>rfl⟩
theorem cut_some {l:List Rc.R}{a b:Nat}(ha:a+1<l.length)(hb:b<l.length)(h1:∀i,i≤a→l[i]?=l[0]?)(h2:l[a+1]?≠l[0]?)(h3:∀i,b≤i→i<l.length→l[i]?=l[l.length - 1]?)(h4:0<b→l[b - 1]?≠l[l.length - 1]?):Cut l a b:=by
 have hlt:a<b:=by
  rcases Nat.lt_or_ge a b with q|q
  ·exact q
  ·exfalso
   have e1:=h3 a q (by omega);have e2:=h3 (a+1) (by omega) ha;have e3:=h1 a (Nat.le_refl _);exact h2 (by rw[e2,← e1,e3])
 refine⟨Nat.le_of_lt hlt,hb,fun i hi=>by rw[h1 i hi,h1 a (Nat.le_refl _)],fun i hi hl=>by rw[h3 i hi hl,h3 b (Nat.le_refl _) hb],fun _=>by rw[h1 a (Nat.le_refl _)];exact h2,fun _=>by rw[h3 b (Nat.le_refl _) hb];exact h4 (by omega),fun q=>by omega⟩
theorem Cut.tells {l:List Rc.R}{a b:Nat}(h:Cut l a b){i:Nat}(hi:i<l.length):l[min (max i a) b]?=l[i]?:=by
 rcases Nat.lt_or_ge i a with q|q
 ·rw[Nat.max_eq_right (Nat.le_of_lt q),Nat.min_eq_left h.le,h.ahead i (Nat.le_of_lt q)]
 ·rw[Nat.max_eq_left q];rcases Nat.lt_or_ge b i with p|p
  ·rw[Nat.min_eq_right (Nat.le_of_lt p),h.behind i (Nat.le_of_lt p) hi]
  ·rw[Nat.min_eq_left p]
theorem Cut.longer {l m:List Rc.R}{a b c d:Nat}(h:Cut l a b)(k:Cut (l ++ m) c d):b - a≤d - c:=by
 rcases Nat.lt_or_ge a b with q|q
 ·have hb:=h.lt;have e:∀i,i<l.length→(l ++ m)[i]?=l[i]?:=fun i hi=>List.getElem?_append_left hi
  have h1:=h.up q;have h2:=h.down q;have hca:c=a:=by
   rcases Nat.lt_trichotomy c a with p|p|p
   ·exfalso
    rcases Nat.lt_or_ge c d with r|r
    ·refine k.up r ?_;rw[e c (by omega),e (c+1) (by omega),h.ahead c (by omega),h.ahead (c+1) (by omega)]
    ·have hd:c=d:=Nat.le_antisymm k.le r;subst hd;have z1:=k.behind (a+1) (by omega) (by rw[List.length_append];omega);have z2:=k.behind a (by omega) (by rw[List.length_append];omega);rw[e (a+1) (by omega)] at z1;rw[e a (by omega)] at z2;exact h1 (by rw[z1,z2])
   ·exact p
   ·exfalso
    have z1:=k.ahead (a+1) (by omega);have z2:=k.ahead a (by omega);rw[e (a+1) (by omega)] at z1;rw[e a (by omega)] at z2;exact h1 (by rw[z1,z2])
  have hdb:b≤d:=by
   rcases Nat.lt_or_ge d b with p|p
   ·exfalso
    have z1:=k.behind (b - 1) (by omega) (by rw[List.length_append];omega);have z2:=k.behind b (by omega) (by rw[List.length_append];omega);rw[e (b - 1) (by omega)] at z1;rw[e b (by omega)] at z2;exact h2 (by rw[z1,z2])
   ·exact p
  omega
 ·omega
structure T where
 fi:Int
 la:Int
 recs:List Rc.R
structure Ok (t:T):Prop where
 f1:1601≤t.fi
 f2:t.fi≤9999
 l1:t.fi≤t.la
 l2:t.la≤9999
 l3:t.la<t.fi+400
 n:(t.recs.length:Int)=t.la - t.fi+1
 ok:∀r∈t.recs,Rc.Ok r
instance decOkT (t:T):Decidable (Ok t):=decidable_of_iff ((1601≤t.fi∧t.fi≤9999∧t.fi≤t.la∧t.la≤9999)∧t.la<t.fi+400∧(t.recs.length:Int)=t.la - t.fi+1∧∀r∈t.recs,Rc.Ok r)
 ⟨fun h=>⟨h.1.1,h.1.2.1,h.1.2.2.1,h.1.2.2.2,h.2.1,h.2.2.1,h.2.2.2⟩,fun h=>⟨⟨h.f1,h.f2,h.l1,h.l2⟩,h.l3,h.n,h.ok⟩⟩
def at_ (t:T)(y:Int):Nat:=(min (max y t.fi) t.la - t.fi).toNat
def of (t:T)(y:Int):Rc.R:=t.recs.getD (at_ t y) Rc.R.zero
theorem at_lt {t:T}(h:Ok t)(y:Int):at_ t y<t.recs.length:=by
 have h1:=h.l1;have h2:=h.n;unfold at_;omega
theorem of_mem {t:T}(h:Ok t)(y:Int):t.recs[at_ t y]?=some (of t y):=by
 unfold of;rw[List.getD_eq_getElem?_getD,List.getElem?_eq_getElem (at_lt h y)];rfl
def table (lo:Int)(l:List Rc.R)(a b:Nat):T:=⟨lo+(a:Int),lo+(b:Int),(l.drop a).take (b - a+1)⟩
theorem table_len {lo:Int}{l:List Rc.R}{a b:Nat}(h:Cut l a b):(table lo l a b).recs.length=b - a+1:=by
 have h1:=h.le;have h2:=h.lt;unfold table;simp only[List.length_take,List.length_drop];omega
theorem table_get {lo:Int}{l:List Rc.R}{a b:Nat}{j:Nat}(hj:j<b - a+1):(table lo l a b).recs[j]?=l[a+j]?:=by
 unfold table;simp only;rw[List.getElem?_take_of_lt hj,List.getElem?_drop]
theorem table_ok {lo:Int}{l:List Rc.R}{a b:Nat}(h:Cut l a b)(h1:1601≤lo)(h2:lo+(l.length:Int)≤10000)(h3:l.length≤400)(hr:∀r∈l,Rc.Ok r):Ok (table lo l a b):=by
 have k1:=h.le;have k2:=h.lt;have k3:=table_len (lo:=lo) h;refine⟨?_,?_,?_,?_,?_,?_,fun r q=>?_⟩
 ·show 1601≤lo+(a:Int)
  omega
 ·show lo+(a:Int)≤9999
  omega
 ·show lo+(a:Int)≤lo+(b:Int)
  omega
 ·show lo+(b:Int)≤9999
  omega
 ·show lo+(b:Int)<lo+(a:Int)+400
  omega
 ·rw[k3];show ((b - a+1:Nat):Int)=lo+(b:Int) - (lo+(a:Int))+1
  omega
 ·exact hr r (List.mem_of_mem_drop (List.mem_of_mem_take q))
theorem table_of {lo:Int}{l:List Rc.R}{a b:Nat}(h:Cut l a b){i:Nat}(hi:i<l.length):l[i]?=some (of (table lo l a b) (lo+(i:Int))):=by
 have k1:=h.le;have k2:=h.lt;have e:at_ (table lo l a b) (lo+(i:Int))=min (max i a) b - a:=by
  unfold at_ table;simp only;omega
 have hj:min (max i a) b - a<b - a+1:=by omega
 have e2:=table_get (lo:=lo) (l:=l) (a:=a) (b:=b) hj;rw[show a+(min (max i a) b - a)=min (max i a) b by omega,h.tells hi] at e2;unfold of;rw[e,List.getD_eq_getElem?_getD,e2,List.getElem?_eq_getElem hi];rfl
end Sq
end Go.Proofs.YtjobhjemnmleaaaGreatDoor
namespace Go.Proofs.YtjobhjemnmleaaaGreatDoor
open Go.RowKit Go.Sort
theorem loadVar_ad (w:World)(ad:Addr)(ty:TypeId)(cs:List Value)(d:TypeDesc)(hc:∀j v,cs[j]?=some v→w.cell? (ad.add j)=some v)
  (hu:Tryz.prog.underlying ty=some d) (hd:d.isRow=true) (hi:(Tryz.prog.info? ty).map (·.size)=some cs.length):(loadVar ty ad).run Tryz.prog w=.ok (.agg cs.toArray) w:=by
 have hl:(loadCells ad cs.length).run Tryz.prog w=.ok cs.toArray w:=run_loadCells_list (P:=Tryz.prog) w ad cs hc;cases hq:Tryz.prog.info? ty with
 |none=>simp[hq] at hi
 |some i=>
  have hs:i.size=cs.length:=by simpa [hq] using hi
  have hagg:(isAgg ty).run Tryz.prog w=.ok true w:=by
   unfold isAgg;rw[Sem.run_bind,run_underlying hu w];cases d <;> simp_all
  simp[loadVar,Sem.run_bind,hagg,sizeOf,typeInfo,hq,hs,hl]
theorem wpList_load_ad {ops:Array Oper}{rest:List Oper}{o:Oper}{a:Act}{w:World}{Q:Exit→Act→World→Prop}(hgd:o.guard=none)(ty:TypeId)(x:Operand)(ho:o.op=.load ty x)
  (ad:Addr) (hx:a.eval x=.pointer (some ad)) (ca:Array Value) (hA:∀j v,ca.toList[j]?=some v→w.cell? (ad.add j)=some v) (d:TypeDesc)
  (hu:Tryz.prog.underlying ty=some d) (hd:d.isRow=true) (hi:(Tryz.prog.info? ty).map (·.size)=some ca.size)
  (h:wpList Tryz.prog ops Q rest (a.put o.dst (.agg ca)) w):wpList Tryz.prog ops Q (o :: rest) a w:=by
 refine wpList_plain hgd fun _ hK=>?_
 have hr:=loadVar_ad w ad ty ca.toList d hA hu hd (by simpa using hi);unfold Oper.wp execOp;simp only[ho,hx,Instr.loadAt,Instr.sureAddr,Sem.run_bind,Sem.run_pure,Result.andThen_ok,hr];exact hK _ _ (by simpa using h)
namespace Sq
structure TabR (w:World)(t:T)(v:Value):Prop where
 f:-9223372036854775808≤t.fi∧t.fi<9223372036854775808
 l:-9223372036854775808≤t.la∧t.la<9223372036854775808
 r:Src.RowR w w.heap.size 19 t.recs.length v (Cm.rc t.recs)
 i:∀r∈t.recs,Rc.I r
theorem TabR.call {w w':World}{t:T}{v:Value}(h:TabR w t v)(hb:Below w.heap.size w w'):TabR w' t v:=⟨h.f,h.l,(h.r.below hb).more hb.size,h.i⟩
theorem TabR.at_ {w:World}{t:T}{A:Option Addr}{n c k:Nat}(h:TabR w t (.slice A n c))(hk:k<t.recs.length):
  ∃ad r,A=some ad∧ad.block<w.heap.size∧t.recs[k]?=some r∧∀j v,r.arr.toList[j]?=some v→w.cell? ((ad.add (k*19)).add j)=some v:=by
 obtain⟨A',c',e,_,_,hr⟩:=h.r;cases e
 obtain⟨ad,r,e,h1,h2,h3⟩:=Ix.reads_cells (enc:=fun r:Rc.R=>r.arr.toList) (m:=19) (fun _=>rfl) rfl hr hk;exact⟨ad,r,e,h1,h2.out,h3.out⟩
theorem TabR.slice {w:World}{t:T}{v:Value}(h:TabR w t v):∃A c,v=.slice A t.recs.length c∧t.recs.length≤c∧c≤maxLen:=by
 obtain⟨A,c,e,h1,h2,_⟩:=h.r;exact⟨A,c,e,h1,h2⟩
end Sq
theorem idx_rec (p:Rc.R→Bool)(g:FuncId)(lb:Array Value)(eg:∀args w,(callFunc g args).run Tryz.prog w=.ok (.enter g args) w)(A:Option Addr)(n c:Nat)(xs:List Rc.R)(w:World)(hn:n≤maxLen)(hl:xs.length=n)
  (hr:Reads w w.heap.size 19 A n (xs.flatMap fun r=>r.arr.toList)) (hp:Ix.Tells g lb (fun r:Rc.R=>.agg r.arr) p xs w):
  Calls Tryz.prog 156 #[.slice A n c,.func (.func g) #[] lb] w fun e w'=>e=.returned (.int .i64 (Ix.at_ p xs 0))∧Below w.heap.size w w':=by
 unfold maxLen at hn;obtain⟨X,hX⟩:=aj (Ix.at_ p xs 0)
 rw[hX];have HX:=ak hX;have HR:=ak hr;have HP:=ak hp;have HL:=ak hl;clear hX hr hp hl;go_enter Tryz.func156,Tryz.ntmps156
 go_wp2;go_loopw [5,8] (fun _ i wr=>∃k:Nat,k≤n∧i=.int .i64 k∧Hid (X=Ix.at_ p (xs.drop k) k)∧Hid (Below w.heap.size w wr)) (fun _ i _=>n - (intOf i).toNat)
 case atStart=>exact⟨0,Nat.zero_le _,rfl,HX.out.symm,Below.refl _ _⟩
 case round=>
  obtain⟨k,hk,rfl,HK,HB⟩:=hrel
  by_cases hlt:k<n
  ·have q2:(k:Int)<(n:Int):=(by omega);have q1:=am k
   obtain⟨ad,x,rfl,hab,Hx,HL0⟩:=Ix.reads_cells (enc:=fun r:Rc.R=>r.arr.toList) (m:=19) (fun _=>rfl) HL.out (HR.out.below HB.out) hlt;have HC:=HP.out wr x (List.mem_of_getElem? Hx.out) HB.out;have HN:=Ix.at_next HK.out Hx.out
   cases hq:p x with
   |true=>
    rw[hq] at HC HN;replace HN:=ak (HN.trans (if_pos rfl));replace HC:=ak HC;clear hq;go_wp2_with (first|(refine wpList_load_ad rfl 49 _ rfl _ rfl x.arr HL0.out _ Tryz.underlying49 rfl (by kernel_rfl) ?_)|(go_at_fn g;refine HC.out.mono ?_;rintro e w' ⟨rfl,hb⟩))
    go_ret
    exact⟨ret_int HN.out.symm,hb⟩
   |false=>
    rw[hq] at HC HN;replace HN:=ak (HN.trans (if_neg (by decide)));replace HC:=ak HC;clear hq;go_wp2_with (first|(refine wpList_load_ad rfl 49 _ rfl _ rfl x.arr HL0.out _ Tryz.underlying49 rfl (by kernel_rfl) ?_)|(go_at_fn g;refine HC.out.mono ?_;rintro e w' ⟨rfl,hb⟩))
    go_roundw
    case rel=>exact⟨k+1,by omega,by go_num,HN.out,hb⟩
    case measure=>simp[intOf];omega
  ·have q2:¬(k:Int)<(n:Int):=(by omega);have HE:=ak (Ix.at_end HK.out (by rw[HL.out];omega));go_wp2;go_ret
   exact⟨ret_int HE.out.symm,HB.out⟩
theorem has_rec (p:Rc.R→Bool)(g:FuncId)(lb:Array Value)(eg:∀args w,(callFunc g args).run Tryz.prog w=.ok (.enter g args) w)(A:Option Addr)(n c:Nat)(xs:List Rc.R)(w:World)(hn:n≤maxLen)(hl:xs.length=n)
  (hr:Reads w w.heap.size 19 A n (xs.flatMap fun r=>r.arr.toList)) (hp:Ix.Tells g lb (fun r:Rc.R=>.agg r.arr) p xs w):
  Calls Tryz.prog 119 #[.slice A n c,.func (.func g) #[] lb] w fun e w'=>e=.returned (.bool (xs.any p))∧Below w.heap.size w w':=by
 have h:=idx_rec p g lb eg A n c xs w hn hl hr hp;have hb:=Ix.at_bd p xs 0
 rw[← Ix.at_any p xs 0 (by omega)];obtain⟨X,hX⟩:=aj (Ix.at_ p xs 0)
 rw[hX] at h ⊢;have H:=ak h;clear h hX hr hp hb;go_enter Tryz.func119,Tryz.ntmps119
 go_wp2_with fail
 refine H.out.mono ?_;rintro e w1 ⟨rfl,hb⟩;have HB:=ak hb;clear hb;go_wp2;go_ret
 exact⟨rfl,HB.out⟩
theorem tbBad_any (r:Rc.R)(w:World)(hL:Lens w)(hi:Rc.I r):Calls Tryz.prog 120 #[.agg r.arr] w fun e w'=>e=.returned (.bool (!Rc.right r))∧Below w.heap.size w w':=by
 have hCk:=fun W (hb:Below w.heap.size w W)=>rcCheck_any r W (hL.below hb) hi
 simp only[Rc.R.v_arr] at hCk;obtain⟨V1,gR,HEV1,HGgR,HS⟩:=(St.start w).lay r.arr 49;cases hr:Rc.right r with
 |true=>
  simp only[hr] at hCk;have HCk:=ak hCk;clear hCk hL hi hr;go_enter Tryz.func120,Tryz.ntmps120
  go_upto_region 1 with fail
  rw[HEV1.out]
  try rw[HGgR.out]
  go_wp2_with (refine wpList_load_arr rfl 49 _ rfl gR 0 rfl r.arr (HS.out.get 0 rfl).range _ Tryz.underlying49 rfl (by kernel_rfl) ?_)
  refine(HCk.out _ HS.out.b).mono ?_;rintro e V2 ⟨rfl,hb⟩;replace HS:=ak (HS.out.call hb);clear hb;go_wp2;go_ret
  exact⟨rfl,HS.out.b⟩
 |false=>
  simp only[hr] at hCk;have HCk:=ak hCk;clear hCk hL hi hr;go_enter Tryz.func120,Tryz.ntmps120
  go_upto_region 1 with fail
  rw[HEV1.out]
  try rw[HGgR.out]
  go_wp2_with (refine wpList_load_arr rfl 49 _ rfl gR 0 rfl r.arr (HS.out.get 0 rfl).range _ Tryz.underlying49 rfl (by kernel_rfl) ?_)
  refine(HCk.out _ HS.out.b).mono ?_;rintro e V2 ⟨rfl,hb⟩;replace HS:=ak (HS.out.call hb);clear hb;go_wp2;go_ret
  exact⟨rfl,HS.out.b⟩
end Go.Proofs.YtjobhjemnmleaaaGreatDoor
