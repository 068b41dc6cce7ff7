/- The contract of day.In. -/
import Derived.Test.YtjobhjemnmleaaaGreatDoorR03
import Derived.Lib.Split
import Derived.Lib.CutLaws
import Derived.Laws.IdiomStrings
set_option maxRecDepth 100000
set_option maxHeartbeats 2000000
namespace Go.Proofs.YtjobhjemnmleaaaGreatDoor
open Go.RowKit
namespace Dy
def base (k n y m:Int):Int:=Cv.num y m (if k=1 then Cv.len y m else n)
def res (k n d y m:Int):Int:=if k=2 then base k n y m+(d - dow (base k n y m)) % 7 else if k=0 then base k n y m else base k n y m - (dow (base k n y m) - d) % 7
def inS (k n d y m:Int):Int × Int:=
 if ¬Ok k n d then (0,2) else if ¬(1≤y∧y≤9999∧1≤m∧m≤12) then (0,1) else if n > Cv.len y m then (0,3)
 else if -719162≤res k n d y m∧res k n d y m<2932897 then (res k n d y m,0) else (0,1)
end Dy
theorem dow_bd (n:Int):0≤dow n∧dow n≤6:=by unfold dow;omega
theorem num_bd (y m d:Int)(h:Cv.Valid y m d):-719162≤Cv.num y m d∧Cv.num y m d<2932897:=by
 have h1:=Cv.first_le y m d h;obtain⟨a,b,_⟩:=h;have h2:=Cv.first_mono 1 y a;have h3:=Cv.first_mono (y+1) 10000 (by omega);rw[num_min] at h2;rw[num_max] at h3;omega
theorem in_form (k n d:Int)(y m:Int)(w:World)(h:¬Dy.Ok k n d):
  Calls Tryz.prog 145 #[.agg #[.int .u8 k,.int .i64 n,.int .i64 d],.int .i64 y,.int .i64 m] w fun e w'=>e=.returned (.tuple #[.int .i64 0,.int .i64 2])∧Below w.heap.size w w':=by
 have HC:=ak fun W=>dayCheck_bad k n d W h
 clear h;go_enter Tryz.func145,Tryz.ntmps145
 go_wp2_with fail
 refine(HC.out _).mono ?_;rintro e w1 ⟨rfl,hb1⟩;have HB:=ak (below_new (hb1.mono (by simp):Below (w.heap.size+1) (w.alloc (.cells #[.int .u8 k,.int .i64 n,.int .i64 d] 110)) w1));clear hb1;go_wp2;go_ret2
 exact⟨rfl,HB.out⟩
theorem in_range (k n d:Int)(y m:Int)(w:World)(h:Dy.Ok k n d)(hc:¬InCal y m):
  Calls Tryz.prog 145 #[.agg #[.int .u8 k,.int .i64 n,.int .i64 d],.int .i64 y,.int .i64 m] w fun e w'=>e=.returned (.tuple #[.int .i64 0,.int .i64 1])∧Below w.heap.size w w':=by
 have HC:=ak fun W=>dayCheck_ok k n d W h
 have HL:=ak fun W=>length_bad y m W hc
 clear h hc;go_enter Tryz.func145,Tryz.ntmps145
 go_wp2_with fail
 refine(HC.out _).mono ?_;rintro e w1 ⟨rfl,hb1⟩;have HB:=ak (below_new (hb1.mono (by simp):Below (w.heap.size+1) (w.alloc (.cells #[.int .u8 k,.int .i64 n,.int .i64 d] 110)) w1));clear hb1;go_wp2_with fail
 refine(HL.out _).mono ?_;rintro e w2 ⟨rfl,rfl⟩;go_wp2;go_ret2
 exact⟨rfl,HB.out⟩
theorem in_none (k n d:Int)(y m:Int)(w:World)(hW:Wo w)(h:Dy.Ok k n d)(hc:InCal y m)(hn:n > Cv.len y m):
  Calls Tryz.prog 145 #[.agg #[.int .u8 k,.int .i64 n,.int .i64 d],.int .i64 y,.int .i64 m] w fun e w'=>e=.returned (.tuple #[.int .i64 0,.int .i64 3])∧Below w.heap.size w w':=by
 have HC:=ak fun W=>dayCheck_ok k n d W h
 have hL:=fun W (hw:Lens W)=>length_ok y m W hw hc
 obtain⟨L,hl⟩:=aj (Cv.len y m)
 rw[hl] at hn;simp only[hl] at hL;have HL:=ak hL;have HW:=ak hW;clear h hc hL hl hW;go_enter Tryz.func145,Tryz.ntmps145
 go_wp2_with fail
 refine(HC.out _).mono ?_;rintro e w1 ⟨rfl,hb1⟩;have hb':Below (w.heap.size+1) (w.alloc (.cells #[.int .u8 k,.int .i64 n,.int .i64 d] 110)) w1:=hb1.mono (by simp);obtain⟨c0,c1,c2,_,_,_⟩:=new3 hb';have HB:=ak (below_new hb');clear hb1 hb';go_wp2_with fail
 refine(HL.out _ (HW.out.below HB.out).lens).mono ?_;rintro e w2 ⟨rfl,rfl⟩;go_wp2;go_ret2
 exact⟨rfl,HB.out⟩
theorem in_k0 (n y m:Int)(w:World)(hW:Wo w)(hc:InCal y m)(h1:1≤n)(h2:n≤31)(hn:n≤Cv.len y m):
  Calls Tryz.prog 145 #[.agg #[.int .u8 0,.int .i64 n,.int .i64 0],.int .i64 y,.int .i64 m] w fun e w'=>e=.returned (.tuple #[.int .i64 (if -719162≤Dy.res 0 n 0 y m∧Dy.res 0 n 0 y m<2932897 then Dy.res 0 n 0 y m else 0),.int .i64 (if -719162≤Dy.res 0 n 0 y m∧Dy.res 0 n 0 y m<2932897 then 0 else 1)])∧Below w.heap.size w w':=by
 have HC:=ak fun W=>dayCheck_ok 0 n 0 W (.inl ⟨rfl,h1,h2,rfl⟩)
 have hL:=fun W (hw:Lens W)=>length_ok y m W hw hc
 have hl31:28≤Cv.len y m∧Cv.len y m≤31:=by
  rw[Cv.len_month y m hc.2.2.1 hc.2.2.2];split
  ·split <;> omega
  ·split <;> omega
 have hv:Cv.Valid y m (n):=⟨hc.1,hc.2.1,hc.2.2.1,hc.2.2.2,by omega,by omega⟩
 have hD:=fun W (hw:Lens W)=>days_ok y m (n) W hw hv
 obtain⟨L,hl⟩:=aj (Cv.len y m)
 rw[hl] at hl31 hn;simp only[hl] at hL
 try simp only[hl] at hD
 have hnb:=num_bd y m (n) hv;have hR:Dy.res 0 n 0 y m=Dy.res 0 n 0 y m:=rfl;obtain⟨B,hB⟩:=aj (Cv.num y m (n))
 rw[hB] at hnb
 try simp only[hl] at hB
 simp only[hB] at hD;have hX0:∀W,Calls Tryz.prog 179 #[.int .i64 B] W fun e w'=>e=.returned (.int .i64 (dow B))∧w'=W:=fun W=>(civWeekday_any B W).mono fun _ _ ⟨a,b⟩=>⟨a,b.symm⟩
 have hXb:=dow_bd B;obtain⟨X,hX⟩:=aj (dow B)
 rw[hX] at hXb;simp only[hX] at hX0;have hres:Dy.res 0 n 0 y m=B:=by
  unfold Dy.res Dy.base;simp[hB]
 rw[hres];have HL:=ak hL;have HD:=ak hD;have HX:=ak hX0;have HW:=ak hW;obtain⟨l1,l2⟩:=hl31;obtain⟨n1,n2⟩:=hnb;obtain⟨x1,x2⟩:=hXb;clear hL hl hW hD hX0 hX hB hres hR hv hc
 by_cases hr:-719162≤B∧B<2932897
 ·rw[if_pos hr,if_pos hr];obtain⟨r1,r2⟩:=hr;have HOf:=ak fun W=>of_ok (B) W r1 r2
  go_enter Tryz.func145,Tryz.ntmps145
  go_wp2_with fail
  refine(HC.out _).mono ?_;rintro e w1 ⟨rfl,hb1⟩;have hb':Below (w.heap.size+1) (w.alloc (.cells #[.int .u8 0,.int .i64 n,.int .i64 0] 110)) w1:=hb1.mono (by simp);obtain⟨c0,c1,c2,_,_,_⟩:=new3 hb';have HB:=ak (below_new hb');have HB':=ak hb';clear hb1 hb';go_wp2_with fail
  refine(HL.out _ (HW.out.below HB.out).lens).mono ?_;rintro e w2 ⟨rfl,rfl⟩;go_wp2_with fail
  refine(HD.out _ (HW.out.below HB.out).lens).mono ?_;rintro e w2 ⟨rfl,hb2⟩;have hb':=HB'.out.trans (hb2.mono (by have:=HB'.out.size;simpa using this));clear c0 c1 c2 HB HB' hb2;obtain⟨c0,c1,c2,_,_,_⟩:=new3 hb';have HB:=ak (below_new hb');clear hb';go_wp2_with fail
  go_wp2_with fail
  refine(HOf.out _).mono ?_;rintro e w3 ⟨rfl,hb3⟩;go_wp2;go_ret2
  exact⟨rfl,(below_then HB.out hb3).alloc (by have:=(below_then HB.out hb3).size;exact this) _⟩
 ·rw[if_neg hr,if_neg hr];have HOf:=ak fun W=>of_bad (B) W (by omega)
  clear hr;go_enter Tryz.func145,Tryz.ntmps145
  go_wp2_with fail
  refine(HC.out _).mono ?_;rintro e w1 ⟨rfl,hb1⟩;have hb':Below (w.heap.size+1) (w.alloc (.cells #[.int .u8 0,.int .i64 n,.int .i64 0] 110)) w1:=hb1.mono (by simp);obtain⟨c0,c1,c2,_,_,_⟩:=new3 hb';have HB:=ak (below_new hb');have HB':=ak hb';clear hb1 hb';go_wp2_with fail
  refine(HL.out _ (HW.out.below HB.out).lens).mono ?_;rintro e w2 ⟨rfl,rfl⟩;go_wp2_with fail
  refine(HD.out _ (HW.out.below HB.out).lens).mono ?_;rintro e w2 ⟨rfl,hb2⟩;have hb':=HB'.out.trans (hb2.mono (by have:=HB'.out.size;simpa using this));clear c0 c1 c2 HB HB' hb2;obtain⟨c0,c1,c2,_,_,_⟩:=new3 hb';have HB:=ak (below_new hb');clear hb';go_wp2_with fail
  go_wp2_with fail
  refine(HOf.out _).mono ?_;rintro e w3 ⟨rfl,hb3⟩;go_wp2;go_ret2
  exact⟨rfl,(below_then HB.out hb3).alloc (by have:=(below_then HB.out hb3).size;exact this) _⟩
theorem in_k1 (d y m:Int)(w:World)(hW:Wo w)(hc:InCal y m)(d0:0≤d)(d1:d≤6):
  Calls Tryz.prog 145 #[.agg #[.int .u8 1,.int .i64 0,.int .i64 d],.int .i64 y,.int .i64 m] w fun e w'=>e=.returned (.tuple #[.int .i64 (if -719162≤Dy.res 1 0 d y m∧Dy.res 1 0 d y m<2932897 then Dy.res 1 0 d y m else 0),.int .i64 (if -719162≤Dy.res 1 0 d y m∧Dy.res 1 0 d y m<2932897 then 0 else 1)])∧Below w.heap.size w w':=by
 have HC:=ak fun W=>dayCheck_ok 1 0 d W (.inr (.inl ⟨rfl,rfl,d0,d1⟩))
 have hL:=fun W (hw:Lens W)=>length_ok y m W hw hc
 have hl31:28≤Cv.len y m∧Cv.len y m≤31:=by
  rw[Cv.len_month y m hc.2.2.1 hc.2.2.2];split
  ·split <;> omega
  ·split <;> omega
 have hv:Cv.Valid y m (Cv.len y m):=⟨hc.1,hc.2.1,hc.2.2.1,hc.2.2.2,by omega,by omega⟩
 have hD:=fun W (hw:Lens W)=>days_ok y m (Cv.len y m) W hw hv
 obtain⟨L,hl⟩:=aj (Cv.len y m)
 rw[hl] at hl31;simp only[hl] at hL
 try simp only[hl] at hD
 have hnb:=num_bd y m (Cv.len y m) hv;have hR:Dy.res 1 0 d y m=Dy.res 1 0 d y m:=rfl;obtain⟨B,hB⟩:=aj (Cv.num y m (Cv.len y m))
 rw[hB] at hnb
 try simp only[hl] at hB
 simp only[hB] at hD;have hX0:∀W,Calls Tryz.prog 179 #[.int .i64 B] W fun e w'=>e=.returned (.int .i64 (dow B))∧w'=W:=fun W=>(civWeekday_any B W).mono fun _ _ ⟨a,b⟩=>⟨a,b.symm⟩
 have hXb:=dow_bd B;obtain⟨X,hX⟩:=aj (dow B)
 rw[hX] at hXb;simp only[hX] at hX0;have hres:Dy.res 1 0 d y m=B - (X - d) % 7:=by
  unfold Dy.res Dy.base;simp[hl,hB,hX]
 rw[hres];have HL:=ak hL;have HD:=ak hD;have HX:=ak hX0;have HW:=ak hW;obtain⟨l1,l2⟩:=hl31;obtain⟨n1,n2⟩:=hnb;obtain⟨x1,x2⟩:=hXb;clear hL hl hW hD hX0 hX hB hres hR hv hc
 by_cases hr:-719162≤B - (X - d) % 7∧B - (X - d) % 7<2932897
 ·rw[if_pos hr,if_pos hr];obtain⟨r1,r2⟩:=hr;have HOf:=ak fun W=>of_ok (B - (X - d) % 7) W r1 r2
  go_enter Tryz.func145,Tryz.ntmps145
  go_wp2_with fail
  refine(HC.out _).mono ?_;rintro e w1 ⟨rfl,hb1⟩;have hb':Below (w.heap.size+1) (w.alloc (.cells #[.int .u8 1,.int .i64 0,.int .i64 d] 110)) w1:=hb1.mono (by simp);obtain⟨c0,c1,c2,_,_,_⟩:=new3 hb';have HB:=ak (below_new hb');have HB':=ak hb';clear hb1 hb';go_wp2_with fail
  refine(HL.out _ (HW.out.below HB.out).lens).mono ?_;rintro e w2 ⟨rfl,rfl⟩;go_wp2_with fail
  refine(HD.out _ (HW.out.below HB.out).lens).mono ?_;rintro e w2 ⟨rfl,hb2⟩;have hb':=HB'.out.trans (hb2.mono (by have:=HB'.out.size;simpa using this));clear c0 c1 c2 HB HB' hb2;obtain⟨c0,c1,c2,_,_,_⟩:=new3 hb';have HB:=ak (below_new hb');clear hb';go_wp2_with fail
  have s1:IntKind.i64.wrap (X - d)=X - d:=IntWalk.i64_in _ (by omega);have s2:IntKind.i64.wrap (X - d+7)=X - d+7:=IntWalk.i64_in _ (by omega);have s3:(X - d+7).tmod 7=(X - d+7) % 7:=Int.tmod_eq_emod_of_nonneg (by omega);have s4:IntKind.i64.wrap (B - (X - d) % 7)=B - (X - d) % 7:=IntWalk.i64_in _ (by omega);go_quiet ((go_at_call 179;exact Calls.quiet_of_same (HX.out _)))
  clear s1 s2 s3 s4;go_wp2_with fail
  refine(HOf.out _).mono ?_;rintro e w3 ⟨rfl,hb3⟩;go_wp2;go_ret2
  exact⟨rfl,(HB.out.trans (((below_drewN (Below.refl _ w2) _).trans hb3).mono HB.out.size)).alloc (by have:=HB.out.size;have:=hb3.size;simp at this;omega) _⟩
 ·rw[if_neg hr,if_neg hr];have HOf:=ak fun W=>of_bad (B - (X - d) % 7) W (by omega)
  clear hr;go_enter Tryz.func145,Tryz.ntmps145
  go_wp2_with fail
  refine(HC.out _).mono ?_;rintro e w1 ⟨rfl,hb1⟩;have hb':Below (w.heap.size+1) (w.alloc (.cells #[.int .u8 1,.int .i64 0,.int .i64 d] 110)) w1:=hb1.mono (by simp);obtain⟨c0,c1,c2,_,_,_⟩:=new3 hb';have HB:=ak (below_new hb');have HB':=ak hb';clear hb1 hb';go_wp2_with fail
  refine(HL.out _ (HW.out.below HB.out).lens).mono ?_;rintro e w2 ⟨rfl,rfl⟩;go_wp2_with fail
  refine(HD.out _ (HW.out.below HB.out).lens).mono ?_;rintro e w2 ⟨rfl,hb2⟩;have hb':=HB'.out.trans (hb2.mono (by have:=HB'.out.size;simpa using this));clear c0 c1 c2 HB HB' hb2;obtain⟨c0,c1,c2,_,_,_⟩:=new3 hb';have HB:=ak (below_new hb');clear hb';go_wp2_with fail
  have s1:IntKind.i64.wrap (X - d)=X - d:=IntWalk.i64_in _ (by omega);have s2:IntKind.i64.wrap (X - d+7)=X - d+7:=IntWalk.i64_in _ (by omega);have s3:(X - d+7).tmod 7=(X - d+7) % 7:=Int.tmod_eq_emod_of_nonneg (by omega);have s4:IntKind.i64.wrap (B - (X - d) % 7)=B - (X - d) % 7:=IntWalk.i64_in _ (by omega);go_quiet ((go_at_call 179;exact Calls.quiet_of_same (HX.out _)))
  clear s1 s2 s3 s4;go_wp2_with fail
  refine(HOf.out _).mono ?_;rintro e w3 ⟨rfl,hb3⟩;go_wp2;go_ret2
  exact⟨rfl,(HB.out.trans (((below_drewN (Below.refl _ w2) _).trans hb3).mono HB.out.size)).alloc (by have:=HB.out.size;have:=hb3.size;simp at this;omega) _⟩
theorem in_k2 (n d y m:Int)(w:World)(hW:Wo w)(hc:InCal y m)(h1:1≤n)(h2:n≤31)(d0:0≤d)(d1:d≤6)(hn:n≤Cv.len y m):
  Calls Tryz.prog 145 #[.agg #[.int .u8 2,.int .i64 n,.int .i64 d],.int .i64 y,.int .i64 m] w fun e w'=>e=.returned (.tuple #[.int .i64 (if -719162≤Dy.res 2 n d y m∧Dy.res 2 n d y m<2932897 then Dy.res 2 n d y m else 0),.int .i64 (if -719162≤Dy.res 2 n d y m∧Dy.res 2 n d y m<2932897 then 0 else 1)])∧Below w.heap.size w w':=by
 have HC:=ak fun W=>dayCheck_ok 2 n d W (.inr (.inr ⟨.inl rfl,h1,h2,d0,d1⟩))
 have hL:=fun W (hw:Lens W)=>length_ok y m W hw hc
 have hl31:28≤Cv.len y m∧Cv.len y m≤31:=by
  rw[Cv.len_month y m hc.2.2.1 hc.2.2.2];split
  ·split <;> omega
  ·split <;> omega
 have hv:Cv.Valid y m (n):=⟨hc.1,hc.2.1,hc.2.2.1,hc.2.2.2,by omega,by omega⟩
 have hD:=fun W (hw:Lens W)=>days_ok y m (n) W hw hv
 obtain⟨L,hl⟩:=aj (Cv.len y m)
 rw[hl] at hl31 hn;simp only[hl] at hL
 try simp only[hl] at hD
 have hnb:=num_bd y m (n) hv;have hR:Dy.res 2 n d y m=Dy.res 2 n d y m:=rfl;obtain⟨B,hB⟩:=aj (Cv.num y m (n))
 rw[hB] at hnb
 try simp only[hl] at hB
 simp only[hB] at hD;have hX0:∀W,Calls Tryz.prog 179 #[.int .i64 B] W fun e w'=>e=.returned (.int .i64 (dow B))∧w'=W:=fun W=>(civWeekday_any B W).mono fun _ _ ⟨a,b⟩=>⟨a,b.symm⟩
 have hXb:=dow_bd B;obtain⟨X,hX⟩:=aj (dow B)
 rw[hX] at hXb;simp only[hX] at hX0;have hres:Dy.res 2 n d y m=B+(d - X) % 7:=by
  unfold Dy.res Dy.base;simp[hB,hX]
 rw[hres];have HL:=ak hL;have HD:=ak hD;have HX:=ak hX0;have HW:=ak hW;obtain⟨l1,l2⟩:=hl31;obtain⟨n1,n2⟩:=hnb;obtain⟨x1,x2⟩:=hXb;clear hL hl hW hD hX0 hX hB hres hR hv hc
 by_cases hr:-719162≤B+(d - X) % 7∧B+(d - X) % 7<2932897
 ·rw[if_pos hr,if_pos hr];obtain⟨r1,r2⟩:=hr;have HOf:=ak fun W=>of_ok (B+(d - X) % 7) W r1 r2
  go_enter Tryz.func145,Tryz.ntmps145
  go_wp2_with fail
  refine(HC.out _).mono ?_;rintro e w1 ⟨rfl,hb1⟩;have hb':Below (w.heap.size+1) (w.alloc (.cells #[.int .u8 2,.int .i64 n,.int .i64 d] 110)) w1:=hb1.mono (by simp);obtain⟨c0,c1,c2,_,_,_⟩:=new3 hb';have HB:=ak (below_new hb');have HB':=ak hb';clear hb1 hb';go_wp2_with fail
  refine(HL.out _ (HW.out.below HB.out).lens).mono ?_;rintro e w2 ⟨rfl,rfl⟩;go_wp2_with fail
  refine(HD.out _ (HW.out.below HB.out).lens).mono ?_;rintro e w2 ⟨rfl,hb2⟩;have hb':=HB'.out.trans (hb2.mono (by have:=HB'.out.size;simpa using this));clear c0 c1 c2 HB HB' hb2;obtain⟨c0,c1,c2,_,_,_⟩:=new3 hb';have HB:=ak (below_new hb');clear hb';go_wp2_with fail
  have s1:IntKind.i64.wrap (d - X)=d - X:=IntWalk.i64_in _ (by omega);have s2:IntKind.i64.wrap (d - X+7)=d - X+7:=IntWalk.i64_in _ (by omega);have s3:(d - X+7).tmod 7=(d - X+7) % 7:=Int.tmod_eq_emod_of_nonneg (by omega);have s4:IntKind.i64.wrap (B+(d - X) % 7)=B+(d - X) % 7:=IntWalk.i64_in _ (by omega);go_quiet ((go_at_call 179;exact Calls.quiet_of_same (HX.out _)))
  clear s1 s2 s3 s4;go_wp2_with fail
  refine(HOf.out _).mono ?_;rintro e w3 ⟨rfl,hb3⟩;go_wp2;go_ret2
  exact⟨rfl,(HB.out.trans (((below_drewN (Below.refl _ w2) _).trans hb3).mono HB.out.size)).alloc (by have:=HB.out.size;have:=hb3.size;simp at this;omega) _⟩
 ·rw[if_neg hr,if_neg hr];have HOf:=ak fun W=>of_bad (B+(d - X) % 7) W (by omega)
  clear hr;go_enter Tryz.func145,Tryz.ntmps145
  go_wp2_with fail
  refine(HC.out _).mono ?_;rintro e w1 ⟨rfl,hb1⟩;have hb':Below (w.heap.size+1) (w.alloc (.cells #[.int .u8 2,.int .i64 n,.int .i64 d] 110)) w1:=hb1.mono (by simp);obtain⟨c0,c1,c2,_,_,_⟩:=new3 hb';have HB:=ak (below_new hb');have HB':=ak hb';clear hb1 hb';go_wp2_with fail
  refine(HL.out _ (HW.out.below HB.out).lens).mono ?_;rintro e w2 ⟨rfl,rfl⟩;go_wp2_with fail
  refine(HD.out _ (HW.out.below HB.out).lens).mono ?_;rintro e w2 ⟨rfl,hb2⟩;have hb':=HB'.out.trans (hb2.mono (by have:=HB'.out.size;simpa using this));clear c0 c1 c2 HB HB' hb2;obtain⟨c0,c1,c2,_,_,_⟩:=new3 hb';have HB:=ak (below_new hb');clear hb';go_wp2_with fail
  have s1:IntKind.i64.wrap (d - X)=d - X:=IntWalk.i64_in _ (by omega);have s2:IntKind.i64.wrap (d - X+7)=d - X+7:=IntWalk.i64_in _ (by omega);have s3:(d - X+7).tmod 7=(d - X+7) % 7:=Int.tmod_eq_emod_of_nonneg (by omega);have s4:IntKind.i64.wrap (B+(d - X) % 7)=B+(d - X) % 7:=IntWalk.i64_in _ (by omega);go_quiet ((go_at_call 179;exact Calls.quiet_of_same (HX.out _)))
  clear s1 s2 s3 s4;go_wp2_with fail
  refine(HOf.out _).mono ?_;rintro e w3 ⟨rfl,hb3⟩;go_wp2;go_ret2
  exact⟨rfl,(HB.out.trans (((below_drewN (Below.refl _ w2) _).trans hb3).mono HB.out.size)).alloc (by have:=HB.out.size;have:=hb3.size;simp at this;omega) _⟩
theorem in_k3 (n d y m:Int)(w:World)(hW:Wo w)(hc:InCal y m)(h1:1≤n)(h2:n≤31)(d0:0≤d)(d1:d≤6)(hn:n≤Cv.len y m):
  Calls Tryz.prog 145 #[.agg #[.int .u8 3,.int .i64 n,.int .i64 d],.int .i64 y,.int .i64 m] w fun e w'=>e=.returned (.tuple #[.int .i64 (if -719162≤Dy.res 3 n d y m∧Dy.res 3 n d y m<2932897 then Dy.res 3 n d y m else 0),.int .i64 (if -719162≤Dy.res 3 n d y m∧Dy.res 3 n d y m<2932897 then 0 else 1)])∧Below w.heap.size w w':=by
 have HC:=ak fun W=>dayCheck_ok 3 n d W (.inr (.inr ⟨.inr rfl,h1,h2,d0,d1⟩))
 have hL:=fun W (hw:Lens W)=>length_ok y m W hw hc
 have hl31:28≤Cv.len y m∧Cv.len y m≤31:=by
  rw[Cv.len_month y m hc.2.2.1 hc.2.2.2];split
  ·split <;> omega
  ·split <;> omega
 have hv:Cv.Valid y m (n):=⟨hc.1,hc.2.1,hc.2.2.1,hc.2.2.2,by omega,by omega⟩
 have hD:=fun W (hw:Lens W)=>days_ok y m (n) W hw hv
 obtain⟨L,hl⟩:=aj (Cv.len y m)
 rw[hl] at hl31 hn;simp only[hl] at hL
 try simp only[hl] at hD
 have hnb:=num_bd y m (n) hv;have hR:Dy.res 3 n d y m=Dy.res 3 n d y m:=rfl;obtain⟨B,hB⟩:=aj (Cv.num y m (n))
 rw[hB] at hnb
 try simp only[hl] at hB
 simp only[hB] at hD;have hX0:∀W,Calls Tryz.prog 179 #[.int .i64 B] W fun e w'=>e=.returned (.int .i64 (dow B))∧w'=W:=fun W=>(civWeekday_any B W).mono fun _ _ ⟨a,b⟩=>⟨a,b.symm⟩
 have hXb:=dow_bd B;obtain⟨X,hX⟩:=aj (dow B)
 rw[hX] at hXb;simp only[hX] at hX0;have hres:Dy.res 3 n d y m=B - (X - d) % 7:=by
  unfold Dy.res Dy.base;simp[hB,hX]
 rw[hres];have HL:=ak hL;have HD:=ak hD;have HX:=ak hX0;have HW:=ak hW;obtain⟨l1,l2⟩:=hl31;obtain⟨n1,n2⟩:=hnb;obtain⟨x1,x2⟩:=hXb;clear hL hl hW hD hX0 hX hB hres hR hv hc
 by_cases hr:-719162≤B - (X - d) % 7∧B - (X - d) % 7<2932897
 ·rw[if_pos hr,if_pos hr];obtain⟨r1,r2⟩:=hr;have HOf:=ak fun W=>of_ok (B - (X - d) % 7) W r1 r2
  go_enter Tryz.func145,Tryz.ntmps145
  go_wp2_with fail
  refine(HC.out _).mono ?_;rintro e w1 ⟨rfl,hb1⟩;have hb':Below (w.heap.size+1) (w.alloc (.cells #[.int .u8 3,.int .i64 n,.int .i64 d] 110)) w1:=hb1.mono (by simp);obtain⟨c0,c1,c2,_,_,_⟩:=new3 hb';have HB:=ak (below_new hb');have HB':=ak hb';clear hb1 hb';go_wp2_with fail
  refine(HL.out _ (HW.out.below HB.out).lens).mono ?_;rintro e w2 ⟨rfl,rfl⟩;go_wp2_with fail
  refine(HD.out _ (HW.out.below HB.out).lens).mono ?_;rintro e w2 ⟨rfl,hb2⟩;have hb':=HB'.out.trans (hb2.mono (by have:=HB'.out.size;simpa using this));clear c0 c1 c2 HB HB' hb2;obtain⟨c0,c1,c2,_,_,_⟩:=new3 hb';have HB:=ak (below_new hb');clear hb';go_wp2_with fail
  have s1:IntKind.i64.wrap (X - d)=X - d:=IntWalk.i64_in _ (by omega);have s2:IntKind.i64.wrap (X - d+7)=X - d+7:=IntWalk.i64_in _ (by omega);have s3:(X - d+7).tmod 7=(X - d+7) % 7:=Int.tmod_eq_emod_of_nonneg (by omega);have s4:IntKind.i64.wrap (B - (X - d) % 7)=B - (X - d) % 7:=IntWalk.i64_in _ (by omega);go_quiet ((go_at_call 179;exact Calls.quiet_of_same (HX.out _)))
  clear s1 s2 s3 s4;go_wp2_with fail
  refine(HOf.out _).mono ?_;rintro e w3 ⟨rfl,hb3⟩;go_wp2;go_ret2
  exact⟨rfl,(HB.out.trans (((below_drewN (Below.refl _ w2) _).trans hb3).mono HB.out.size)).alloc (by have:=HB.out.size;have:=hb3.size;simp at this;omega) _⟩
 ·rw[if_neg hr,if_neg hr];have HOf:=ak fun W=>of_bad (B - (X - d) % 7) W (by omega)
  clear hr;go_enter Tryz.func145,Tryz.ntmps145
  go_wp2_with fail
  refine(HC.out _).mono ?_;rintro e w1 ⟨rfl,hb1⟩;have hb':Below (w.heap.size+1) (w.alloc (.cells #[.int .u8 3,.int .i64 n,.int .i64 d] 110)) w1:=hb1.mono (by simp);obtain⟨c0,c1,c2,_,_,_⟩:=new3 hb';have HB:=ak (below_new hb');have HB':=ak hb';clear hb1 hb';go_wp2_with fail
  refine(HL.out _ (HW.out.below HB.out).lens).mono ?_;rintro e w2 ⟨rfl,rfl⟩;go_wp2_with fail
  refine(HD.out _ (HW.out.below HB.out).lens).mono ?_;rintro e w2 ⟨rfl,hb2⟩;have hb':=HB'.out.trans (hb2.mono (by have:=HB'.out.size;simpa using this));clear c0 c1 c2 HB HB' hb2;obtain⟨c0,c1,c2,_,_,_⟩:=new3 hb';have HB:=ak (below_new hb');clear hb';go_wp2_with fail
  have s1:IntKind.i64.wrap (X - d)=X - d:=IntWalk.i64_in _ (by omega);have s2:IntKind.i64.wrap (X - d+7)=X - d+7:=IntWalk.i64_in _ (by omega);have s3:(X - d+7).tmod 7=(X - d+7) % 7:=Int.tmod_eq_emod_of_nonneg (by omega);have s4:IntKind.i64.wrap (B - (X - d) % 7)=B - (X - d) % 7:=IntWalk.i64_in _ (by omega);go_quiet ((go_at_call 179;exact Calls.quiet_of_same (HX.out _)))
  clear s1 s2 s3 s4;go_wp2_with fail
  refine(HOf.out _).mono ?_;rintro e w3 ⟨rfl,hb3⟩;go_wp2;go_ret2
  exact⟨rfl,(HB.out.trans (((below_drewN (Below.refl _ w2) _).trans hb3).mono HB.out.size)).alloc (by have:=HB.out.size;have:=hb3.size;simp at this;omega) _⟩
end Go.Proofs.YtjobhjemnmleaaaGreatDoor
namespace Go.Proofs.YtjobhjemnmleaaaGreatDoor
open Go.RowKit
theorem inS_ok (k n d y m:Int)(h:Dy.Ok k n d)(hc:InCal y m)(hn:¬n > Cv.len y m):Dy.inS k n d y m=(if -719162≤Dy.res k n d y m∧Dy.res k n d y m<2932897 then Dy.res k n d y m else 0,if -719162≤Dy.res k n d y m∧Dy.res k n d y m<2932897 then 0 else 1):=by
 unfold Dy.inS;rw[if_neg (fun x=>x h),if_neg (fun x=>x hc),if_neg hn]
 by_cases hr:-719162≤Dy.res k n d y m∧Dy.res k n d y m<2932897
 ·rw[if_pos hr,if_pos hr,if_pos hr]
 ·rw[if_neg hr,if_neg hr,if_neg hr]
theorem in_any (k n d y m:Int)(w:World)(hW:Wo w):
  Calls Tryz.prog 145 #[.agg #[.int .u8 k,.int .i64 n,.int .i64 d],.int .i64 y,.int .i64 m] w fun e w'=>e=.returned (.tuple #[.int .i64 (Dy.inS k n d y m).1,.int .i64 (Dy.inS k n d y m).2])∧Below w.heap.size w w':=by
 by_cases h:Dy.Ok k n d
 ·by_cases hc:InCal y m
  ·by_cases hn:n > Cv.len y m
   ·have e:Dy.inS k n d y m=(0,3):=by unfold Dy.inS;rw[if_neg (fun x=>x h),if_neg (fun x=>x hc),if_pos hn]
    rw[e];exact in_none k n d y m w hW h hc hn
   ·rw[inS_ok k n d y m h hc hn];rcases h with ⟨rfl,h1,h2,rfl⟩|⟨rfl,rfl,h1,h2⟩|⟨rfl|rfl,h1,h2,h3,h4⟩
    ·exact in_k0 n y m w hW hc h1 h2 (by omega)
    ·exact in_k1 d y m w hW hc h1 h2
    ·exact in_k2 n d y m w hW hc h1 h2 h3 h4 (by omega)
    ·exact in_k3 n d y m w hW hc h1 h2 h3 h4 (by omega)
  ·have e:Dy.inS k n d y m=(0,1):=by unfold Dy.inS;rw[if_neg (fun x=>x h),if_pos (show ¬(1≤y∧y≤9999∧1≤m∧m≤12) from hc)]
   rw[e];exact in_range k n d y m w h hc
 ·have e:Dy.inS k n d y m=(0,2):=by unfold Dy.inS;rw[if_pos h]
  rw[e];exact in_form k n d y m w h
theorem in_is (k n d y m:Int)(w:World)(hW:Wo w)(a b:Int)(h:Dy.inS k n d y m=(a,b)):
  Calls Tryz.prog 145 #[.agg #[.int .u8 k,.int .i64 n,.int .i64 d],.int .i64 y,.int .i64 m] w fun e w'=>e=.returned (.tuple #[.int .i64 a,.int .i64 b])∧Below w.heap.size w w':=
 calls_val (in_any k n d y m w hW) (by rw[h])
namespace Ck
def numC (l:List UInt8)(least most:Nat):Int:=if l.length<least∨most<l.length then -1 else Dy.numLoop l 0
end Ck
end Go.Proofs.YtjobhjemnmleaaaGreatDoor
namespace Go.Proofs.YtjobhjemnmleaaaGreatDoor
open Go.RowKit
namespace Ck
def part (i:Nat):Int:=if i=0 then 3600 else if i=1 then 60 else 1
def least (i:Nat):Nat:=if i=0 then 1 else 2
def most (i:Nat):Nat:=if i=0 then 3 else 2
def bad (v:Int)(i:Nat):Bool:=decide (v=-1) || (decide (0<i) && decide (60≤v))
def loop : List ByteArray→Nat→Int→Option Int
 |[],_,s=>some s
 |f :: r,i,s=>if bad (numC (tl f) (least i) (most i)) i=true then none else loop r (i+1) (s+numC (tl f) (least i) (most i)*part i)
def fin (o:Option Int)(b:Bool):Int × Int:=
 match o with
 |none=>(0,4)
 |some v=>if IsTime (if b then -v else v) then (if b then -v else v,0) else (0,1)
def rest (s:ByteArray):ByteArray:=⟨(Lib.trimPrefix s.data.toList [45]).toArray⟩
def fields (r:ByteArray):List ByteArray:=Lib.splitB ⟨#[58]⟩ 0 (min 4 (r.size+1) - 1) r
def parse (s:ByteArray):Int × Int:=if 3<(fields (rest s)).length then (0,4) else fin (loop (fields (rest s)) 0 0) (Lib.hasPrefix s.data.toList [45])
end Ck
end Go.Proofs.YtjobhjemnmleaaaGreatDoor
namespace Go.Proofs.YtjobhjemnmleaaaGreatDoor
open Go.RowKit
namespace Ck
def two (n:Int):List UInt8:=[58,UInt8.ofNat (48+n.toNat / 10),UInt8.ofNat (48+n.toNat % 10)]
def body (a:Int):List UInt8:=Lib.itoa (a / 3600) ++ two (a % 3600 / 60) ++ (if 0<a % 3600 % 60 then two (a % 3600 % 60) else [])
def sign (s:Int):List UInt8:=if s<0 then [45] else []
def text (s:Int):List UInt8:=if IsTime s then sign s ++ body (if s<0 then -s else s) else []
end Ck
theorem reads_cells (w:World)(cs:Array Value)(t:TypeId):Reads (w.alloc (.cells cs t)) (w.heap.size+1) 1 (some ⟨w.heap.size,0,none⟩) cs.size cs.toList:=by
 refine⟨by simp,fun _=>⟨_,rfl,Nat.lt_succ_self _,fun j u hu=>?_⟩⟩;have h:=cell_of_row (w.alloc (.cells cs t)) w.heap.size j cs t (0,0) (heap_alloc_new w _);have e:(⟨w.heap.size,0,none⟩:Addr).add j=⟨w.heap.size,j,none⟩:=by
  unfold Addr.add;split
  ·subst_vars;rfl
  ·simp
 rw[e,h];simpa using hu
end Go.Proofs.YtjobhjemnmleaaaGreatDoor
namespace Go.Proofs.YtjobhjemnmleaaaGreatDoor
open Go.RowKit
namespace Ck
def dec3 (n:Int):List UInt8:=if n<10 then [UInt8.ofNat (48+n.toNat)] else if n<100 then [UInt8.ofNat (48+n.toNat / 10),UInt8.ofNat (48+n.toNat % 10)] else [UInt8.ofNat (48+n.toNat / 10 / 10),UInt8.ofNat (48+n.toNat / 10 % 10),UInt8.ofNat (48+n.toNat % 10)]
def body' (a:Int):List UInt8:=dec3 (a / 3600) ++ two (a % 3600 / 60) ++ (if 0<a % 3600 % 60 then two (a % 3600 % 60) else [])
def text' (s:Int):List UInt8:=if IsTime s then sign s ++ body' (if s<0 then -s else s) else []
end Ck
theorem itoa_dec3 (n:Int)(h0:0≤n)(h1:n<1000):Lib.itoa n=Ck.dec3 n:=by
 unfold Lib.itoa Ck.dec3;rw[if_neg (by omega)];unfold Lib.decDigits
 by_cases a:n<10
 ·rw[dif_pos (by omega),if_pos a]
 ·rw[dif_neg (by omega),if_neg a];unfold Lib.decDigits
  by_cases b:n<100
  ·rw[dif_pos (by omega),if_pos b];rfl
  ·rw[dif_neg (by omega),if_neg b];unfold Lib.decDigits;rw[dif_pos (by omega)];rfl
theorem text_eq (s:Int):Ck.text s=Ck.text' s:=by
 unfold Ck.text Ck.text'
 by_cases h:IsTime s
 ·rw[if_pos h,if_pos h];have hb:0≤(if s<0 then -s else s)∧(if s<0 then -s else s)≤604800:=by obtain⟨a,b⟩:=h;split <;> omega
  unfold Ck.body Ck.body';rw[itoa_dec3 _ (by omega) (by omega)]
 ·rw[if_neg h,if_neg h]
end Go.Proofs.YtjobhjemnmleaaaGreatDoor
namespace Go.Proofs.YtjobhjemnmleaaaGreatDoor
open Go.RowKit
namespace Ck
def loopL : List (List UInt8)→Nat→Int→Option Int
 |[],_,s=>some s
 |f :: r,i,s=>if bad (numC f (least i) (most i)) i=true then none else loopL r (i+1) (s+numC f (least i) (most i)*part i)
theorem loop_lists : ∀(F:List ByteArray) (i:Nat) (s:Int),loop F i s=loopL (F.map tl) i s
 |[],_,_=>rfl
 |f :: r,i,s=>by
  simp only[loop,List.map_cons,loopL];split
  ·rfl
  ·exact loop_lists r _ _
theorem index_free : ∀(p q:List UInt8),(∀c∈p,c≠58)→Lib.index (p ++ 58 :: q) [58]=p.length:=by
 intro p q h;rw[Lib.index_one]
 induction p with
 |nil=>simp[Lib.indexByte]
 |cons c p ih=>
  have hc:(c == 58)=false:=by simp[h c]
  have hi:=ih fun d hd=>h d (by simp[hd])
  simp only[List.cons_append,Lib.indexByte,hc,hi];have:(((p.length:Nat):Int) == -1)=false:=bqf (by omega);simp[this]
theorem index_none : ∀(p:List UInt8),(∀c∈p,c≠58)→Lib.index p [58]=-1:=by
 intro p h;rw[Lib.index_one]
 induction p with
 |nil=>rfl
 |cons c p ih=>
  have hc:(c == 58)=false:=by simp[h c]
  have hi:=ih fun d hd=>h d (by simp[hd])
  simp[Lib.indexByte,hc,hi]
theorem split_next (p q:List UInt8)(k:Nat)(h:∀c∈p,c≠58):Lib.splitK [58] 0 (k+1) (p ++ 58 :: q)=p :: Lib.splitK [58] 0 k q:=by
 have e:(((p.length:Nat):Int) == -1)=false:=bqf (by omega);have hd:(p ++ 58 :: q).drop (p.length+1)=q:=by
  rw[List.drop_append];simp
 have ht:(p ++ 58 :: q).take p.length=p:=by simp
 show (if Lib.index (p ++ 58 :: q) [58] == -1 then [p ++ 58 :: q] else (p ++ 58 :: q).take ((Lib.index (p ++ 58 :: q) [58]).toNat+0) :: Lib.splitK [58] 0 k ((p ++ 58 :: q).drop ((Lib.index (p ++ 58 :: q) [58]).toNat+([58]:List UInt8).length)))=_
 rw[index_free p q h,e,Int.toNat_natCast];simp only[List.length_cons,List.length_nil,Nat.zero_add,Nat.add_zero,hd,ht];rfl
theorem split_last (p:List UInt8)(k:Nat)(h:∀c∈p,c≠58):Lib.splitK [58] 0 k p=[p]:=by
 cases k with
 |zero=>rfl
 |succ k=>
  show (if Lib.index p [58] == -1 then [p] else _)=_
  rw[index_none p h];rfl
def dig2 (n:Int):List UInt8:=[UInt8.ofNat (48+n.toNat / 10),UInt8.ofNat (48+n.toNat % 10)]
theorem two_dig (n:Int):two n=58 :: dig2 n:=rfl
def hourOk (h:Nat):Bool:=decide (numC (dec3 (h:Int)) 1 3=(h:Int)) && (dec3 (h:Int)).all (fun c=>decide (c≠58)) && decide (Lib.hasPrefix (dec3 (h:Int)) [45]=false)
theorem hours_ok : ∀h,h<169→hourOk h=true:=by decide +kernel
def minOk (m:Nat):Bool:=decide (numC (dig2 (m:Int)) 2 2=(m:Int)) && (dig2 (m:Int)).all (fun c=>decide (c≠58))
theorem mins_ok : ∀m,m<60→minOk m=true:=by decide +kernel
theorem hour (h:Int)(h0:0≤h)(h1:h<169):numC (dec3 h) 1 3=h∧(∀c∈dec3 h,c≠58)∧Lib.hasPrefix (dec3 h) [45]=false:=by
 have:=hours_ok h.toNat (by omega);unfold hourOk at this;rw[show ((h.toNat:Nat):Int)=h by omega] at this;simp only[Bool.and_eq_true,decide_eq_true_eq,List.all_eq_true] at this;exact⟨this.1.1,this.1.2,this.2⟩
theorem minute (m:Int)(h0:0≤m)(h1:m<60):numC (dig2 m) 2 2=m∧(∀c∈dig2 m,c≠58):=by
 have:=mins_ok m.toNat (by omega);unfold minOk at this;rw[show ((m.toNat:Nat):Int)=m by omega] at this;simp only[Bool.and_eq_true,decide_eq_true_eq,List.all_eq_true] at this;exact this
theorem bad_not (v:Int)(i:Nat)(h0:0≤v)(h:i=0∨v<60):bad v i=false:=by
 unfold bad;rw[decide_eq_false (by omega)];rcases h with h|h
 ·subst h;rfl
 ·rw[decide_eq_false (show ¬60≤v by omega)];simp
theorem loop_body (a:Int)(h0:0≤a)(h1:a≤604800):loopL (Lib.splitK [58] 0 3 (body' a)) 0 0=some a∧(Lib.splitK [58] 0 3 (body' a)).length≤3:=by
 have H:=hour (a / 3600) (by omega) (by omega);have M:=minute (a % 3600 / 60) (by omega) (by omega);have S:=minute (a % 3600 % 60) (by omega) (by omega)
 by_cases hs:0<a % 3600 % 60
 ·have e:body' a=dec3 (a / 3600) ++ 58 :: (dig2 (a % 3600 / 60) ++ 58 :: dig2 (a % 3600 % 60)):=by
   unfold body';rw[if_pos hs,two_dig,two_dig];simp
  rw[e,split_next _ _ 2 H.2.1,split_next _ _ 1 M.2,split_last _ 1 S.2];refine⟨?_,by simp⟩;simp only[loopL,least,most,part,if_true,H.1,M.1,S.1,Nat.zero_add,Nat.one_ne_zero,if_false,show (1+1:Nat)≠0 by omega];rw[bad_not _ 0 (by omega) (.inl rfl),bad_not _ 1 (by omega) (.inr (by omega)),bad_not _ (1+1) (by omega) (.inr (by omega))];simp
  omega
 ·have e:body' a=dec3 (a / 3600) ++ 58 :: dig2 (a % 3600 / 60):=by
   unfold body';rw[if_neg hs,two_dig];simp
  rw[e,split_next _ _ 2 H.2.1,split_last _ 2 M.2];refine⟨?_,by simp⟩;simp only[loopL,least,most,part,if_true,H.1,M.1,Nat.zero_add,Nat.one_ne_zero,if_false];rw[bad_not _ 0 (by omega) (.inl rfl),bad_not _ 1 (by omega) (.inr (by omega))];simp
  omega
theorem body_prefix (a:Int)(h0:0≤a)(h1:a≤604800):Lib.hasPrefix (body' a) [45]=false∧4≤(body' a).length:=by
 have H:=hour (a / 3600) (by omega) (by omega);obtain⟨h,hh⟩:=aj (dec3 (a / 3600))
 unfold body';rw[hh] at H ⊢
 match h,H with
 |[],H=>
  have:=H.1;simp[numC] at this
  omega
 |c :: l,H=>
  have hp:=H.2.2;refine⟨?_,?_⟩
  ·unfold Lib.hasPrefix at hp ⊢;simp only[List.isPrefixOf,Bool.and_true] at hp;simp[List.isPrefixOf]
   simpa using hp
  ·split <;> simp[two] <;> omega
theorem fields_lists (r:ByteArray):(fields r).map tl=Lib.splitK [58] 0 (min 4 (r.size+1) - 1) (tl r):=Lib.splitB_data ⟨#[58]⟩ 0 _ r
theorem parse_of (s:ByteArray)(a:Int)(b:Bool)(h0:0≤a)(h1:a≤604800)(hb:Lib.hasPrefix s.data.toList [45]=b)(hr:tl (rest s)=body' a):parse s=(if b then -a else a,0):=by
 have hl:=loop_body a h0 h1;have hp:=body_prefix a h0 h1;have hsz:(rest s).size=(body' a).length:=by rw[← tl_length,hr]
 have hf:=fields_lists (rest s);rw[hr,hsz,show min 4 ((body' a).length+1) - 1=3 by omega] at hf;have hlen:(fields (rest s)).length≤3:=by
  have:=congrArg List.length hf;rw[List.length_map] at this;omega
 unfold parse;rw[if_neg (by omega),loop_lists,hf,hl.1,hb];unfold fin;have ht:IsTime (if b then -a else a):=by unfold IsTime;split <;> omega
 simp only[if_pos ht]
theorem parse_text (n:Int)(h:IsTime n):parse ⟨(text n).toArray⟩=(n,0):=by
 have ht:=text_eq n;unfold text' at ht;rw[if_pos h] at ht;obtain⟨a1,a2⟩:=h
 by_cases hn:n<0
 ·have e:text n=45 :: body' (-n):=by rw[ht];unfold sign;rw[if_pos hn,if_pos hn];rfl
  have hb:Lib.hasPrefix (⟨(text n).toArray⟩:ByteArray).data.toList [45]=true:=by
   show Lib.hasPrefix (text n) [45]=true
   rw[e];simp[Lib.hasPrefix,List.isPrefixOf]
  have hr:tl (rest ⟨(text n).toArray⟩)=body' (-n):=by
   show (Lib.trimPrefix (text n) [45]).toArray.toList=_
   unfold Lib.trimPrefix;have hb':Lib.hasPrefix (text n) [45]=true:=hb;rw[hb',e];simp
  have:=parse_of _ (-n) true (by omega) (by omega) hb hr;rw[this];simp
 ·have e:text n=body' n:=by rw[ht];unfold sign;rw[if_neg hn,if_neg hn];rfl
  have hb:Lib.hasPrefix (⟨(text n).toArray⟩:ByteArray).data.toList [45]=false:=by
   show Lib.hasPrefix (text n) [45]=false
   rw[e];exact(body_prefix n (by omega) (by omega)).1
  have hr:tl (rest ⟨(text n).toArray⟩)=body' n:=by
   show (Lib.trimPrefix (text n) [45]).toArray.toList=_
   unfold Lib.trimPrefix;have hb':Lib.hasPrefix (text n) [45]=false:=hb;rw[hb',e];simp
  have:=parse_of _ n false (by omega) (by omega) hb hr;rw[this];simp
end Ck
end Go.Proofs.YtjobhjemnmleaaaGreatDoor
namespace Go.Proofs.YtjobhjemnmleaaaGreatDoor
open Go.RowKit
theorem text_ne (n:Int)(h:IsTime n):(⟨(Ck.text n).toArray⟩:ByteArray).toList.isEmpty=false:=by
 rw[ByteArray.toList_eq];cases e:Ck.text n with
 |nil=>
  have a:=Ck.parse_text n h;rw[e] at a;have b:Ck.parse ⟨([]:List UInt8).toArray⟩=(0,4):=by decide +kernel
  rw[b] at a;simp at a
 |cons c l=>rfl
end Go.Proofs.YtjobhjemnmleaaaGreatDoor
