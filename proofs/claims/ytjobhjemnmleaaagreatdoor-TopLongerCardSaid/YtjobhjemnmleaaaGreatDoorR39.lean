/- fit.Year: a record of a year's spans, or why there is none. -/
import Derived.Test.YtjobhjemnmleaaaGreatDoorR38
set_option maxRecDepth 200000
set_option maxHeartbeats 16000000
namespace Go.Proofs.YtjobhjemnmleaaaGreatDoor
open Go.RowKit Go.Sort
namespace Rc
def fyV (l:List Ln.Sp)(y:Int):Value:=.tuple #[(if why l (Oc.D y*86400) (Oc.D (y+1)*86400)=0 then fitted l y else R.zero).v,.int .u8 (why l (Oc.D y*86400) (Oc.D (y+1)*86400)),.int .i64 0]
end Rc
theorem ftYear_any (l:List Ln.Sp)(y:Int)(A:Option Addr)(n c:Nat)(w:World)(hL:Lens w)(hy:1601≤y∧y≤9999)(ho:Rc.Of l y)(hn:l.length=n)(hn2:n≤1000000000)(hnc:n≤c)(hob:∀p∈l,-1000000000≤p.off∧p.off≤1000000000)(hR:Reads w w.heap.size 3 A n (l.flatMap Ln.Sp.cells)):
  Calls Tryz.prog 103 #[.slice A n c,.int .i64 y] w fun e w'=>e=.returned (Rc.fyV l y)∧Below w.heap.size w w':=by
 have hn0:0<n:=by rw[← hn];exact List.length_pos_iff.2 ho.right.ne
 obtain⟨ad,x0,rfl,hab0,Hx0,HL0⟩:=Ix.reads_cells (enc:=Ln.Sp.cells) (m:=3) (fun _=>rfl) hn hR hn0;obtain⟨_,x1,e1,hab1,Hx1,HL1⟩:=Ix.reads_cells (enc:=Ln.Sp.cells) (m:=3) (fun _=>rfl) hn hR (show n - 1<n by omega);obtain rfl:=Option.some.inj e1;have e00:ad.add (0*3)=ad:=by cases ad;rfl
 have h0f:x0.fr=Oc.D y*86400:=ho.fr x0 Hx0.out;have h1f:x1.fr<Oc.D (y+1)*86400:=ho.te x1 (List.mem_of_getElem? Hx1.out);have hfrb:∀p∈l,-20000000000≤p.fr∧p.fr≤300000000000:=fun p hp=>by
  have a:=Oc.D_mono (y:=1601) (z:=y) (by omega);have b:=Oc.D_mono (y:=y+1) (z:=10000) (by omega);have e1:Oc.D 1601=-134774:=by decide
  have e2:Oc.D 10000=2932897:=by decide
  have h2:=ho.te p hp;obtain⟨j,hj⟩:=List.mem_iff_getElem?.1 hp;have h1:=ho.right.mono j 0 x0 p Hx0.out (by rw[Nat.zero_add];exact hj);omega
 have HBd:=ak fun W=>ftBounds_any y W hy
 have HCk:=ak fun W (hb:Below w.heap.size w W)=>lookCheck_any l (some ad) n c W hn hn2 ho.right ((hR.below hb).more hb.size)
 have hWy:=fun W (hb:Below w.heap.size w W)=>ftWhy_any l (Oc.D y*86400) (Oc.D (y+1)*86400) (some ad) n c W hn hn0 hn2 hnc (fun p hp=>⟨⟨by have:=hfrb p hp;omega,by have:=hfrb p hp;omega⟩,hob p hp⟩) ((hR.below hb).more hb.size)
 have hFd:=fun(h:Rc.why l (Oc.D y*86400) (Oc.D (y+1)*86400)=0) W (hb:Below w.heap.size w W)=>ftFitted_ok l y (some ad) n c W (hL.below hb) hy ho hn h hnc ((hR.below hb).more hb.size)
 unfold Rc.fyV;obtain⟨fr,hfr⟩:=aj (Oc.D y*86400)
 obtain⟨te,hte⟩:=aj (Oc.D (y+1)*86400)
 rw[hfr] at HBd h0f;rw[hte] at HBd h1f;rw[hfr,hte];simp only[hfr,hte] at hWy hFd;obtain⟨wy,hwy⟩:=aj (Rc.why l fr te)
 rw[hwy];simp only[hwy] at hWy hFd;simp only[Rc.R.v_arr] at hFd ⊢;have HWy:=ak hWy;have HFd:=ak hFd;have HC0:Hid (∀W,Below w.heap.size w W→W.cell? ad=some (.int .i64 fr)):=fun W hb=>(hb.cell (p:=ad) hab0).trans (by have h:=HL0.out 0 _ rfl;rw[e00,h0f] at h;exact h)
 have HC1:Hid (∀W,Below w.heap.size w W→W.cell? (ad.add ((n - 1)*3))=some (.int .i64 x1.fr)):=fun W hb=>(hb.cell (p:=ad.add ((n - 1)*3)) (by rw[block_of_add];exact hab1)).trans (HL1.out 0 _ rfl)
 have q0:(0:Int)<(n:Int):=by omega
 have q1:(0:Int)≤(n:Int) - 1:=by omega
 have q2:(n:Int) - 1<(n:Int):=by omega
 have wm:IntKind.i64.wrap ((n:Int) - 1)=(n:Int) - 1:=by rw[IntKind.wrap_i64];omega
 have tn:((n:Int) - 1).toNat=n - 1:=by omega
 have p1:¬te≤x1.fr:=by omega
 have p2:decide (te≤x1.fr)=false:=by rw[decide_eq_false_iff_not];exact p1
 have p3:(fr == fr)=true:=by rw[beq_iff_eq]
 have p4:(fr != fr)=false:=by rw[bne_eq_false_iff_eq]
 clear hWy hFd hfr hte hwy hfrb h0f h1f HL0 HL1 hab0 hab1 Hx0 Hx1 hR hob ho hy hL hn hn2 hnc hn0 e00
 by_cases hz:wy=0
 case pos=>
  subst hz;rw[if_pos rfl];have HFe:=ak (fun W hb=>HFd.out rfl W hb);clear HFd;obtain⟨V1,gR,HEV1,HGgR,HS⟩:=(St.start w).lay #[.int .i32 0,.int .i32 0,.int .i32 0,.int .u16 0,.int .u16 0,.int .u16 0,.int .u16 0,.int .u16 0,.int .u16 0,.int .u16 0,.int .u16 0,.int .u16 0,.int .u16 0,.int .u16 0,.int .u16 0,.int .u16 0,.int .u16 0,.int .u16 0,.int .u16 0] 49;go_enter Tryz.func103,Tryz.ntmps103
  go_upto_region 1 with fail
  rw[HEV1.out]
  try rw[HGgR.out]
  go_wp2_with fail
  refine(HBd.out _).mono ?_;rintro e V2 ⟨rfl,hb⟩;replace HS:=ak (HS.out.call hb);clear hb;go_wp2_with fail
  refine(HCk.out _ HS.out.b).mono ?_;rintro e V3 ⟨rfl,hb⟩;replace HS:=ak (HS.out.call hb);clear hb;have c0:=HC0.out _ HS.out.b;have c1:=HC1.out _ HS.out.b;go_upto_region 6 with fail
  clear c0 c1;go_wp2_with fail
  refine(HWy.out _ (by first|exact HS.out.b|exact(HS.out.drewN _).b|exact HS.out.drew.b)).mono ?_;rintro e V4 ⟨rfl,hb⟩;replace HS:=ak (by first|exact HS.out.call hb|exact(HS.out.drewN _).call hb|exact HS.out.drew.call hb);clear hb;go_wp2_with fail
  refine(HFe.out _ HS.out.b).mono ?_;rintro e V5 ⟨rfl,hb⟩;replace HS:=ak (HS.out.call hb);clear hb;obtain⟨gT,HGgT⟩:∃q,Hid (V5.heap.size=q):=⟨_,rfl⟩
  go_upto_region 10 with (refine wpList_store_all rfl 49 _ _ rfl V5.heap.size rfl (Rc.fitted l y).arr rfl _ (At.new V5 #[.int .i32 0,.int .i32 0,.int .i32 0,.int .u16 0,.int .u16 0,.int .u16 0,.int .u16 0,.int .u16 0,.int .u16 0,.int .u16 0,.int .u16 0,.int .u16 0,.int .u16 0,.int .u16 0,.int .u16 0,.int .u16 0,.int .u16 0,.int .u16 0,.int .u16 0] 49) (by rfl) (by kernel_rfl) (by first|exact Sm.S.arr_one _|exact Rc.R.arr_one _|simp[Value.oneCell']) ?_;intro V6 hAn hMn)
  rw[HGgT.out];replace HS:=ak (HS.out.laid #[.int .i32 0,.int .i32 0,.int .i32 0,.int .u16 0,.int .u16 0,.int .u16 0,.int .u16 0,.int .u16 0,.int .u16 0,.int .u16 0,.int .u16 0,.int .u16 0,.int .u16 0,.int .u16 0,.int .u16 0,.int .u16 0,.int .u16 0,.int .u16 0,.int .u16 0] 49 hMn hAn);rw[HGgT.out] at HS;clear hMn hAn;go_wp2_with (first|(refine wpList_load_arr rfl 49 _ rfl (gT) 0 rfl (Rc.fitted l y).arr (HS.out.get 0 rfl).range _ Tryz.underlying49 rfl (by kernel_rfl) ?_)|(refine wpList_store_all rfl 49 _ _ rfl (gR) rfl (Rc.fitted l y).arr rfl _ (HS.out.get 1 rfl) (by rfl) (by kernel_rfl) (by first|exact Sm.S.arr_one _|exact Rc.R.arr_one _|simp[Value.oneCell']) ?_;intro V7 hAn hMn))
  replace HS:Hid (St w V7 [(gT,(Rc.fitted l y).arr.toList),(gR,(Rc.fitted l y).arr.toList)]):=HS.out.put 1 rfl hMn hAn;clear hMn hAn;refine bodyPost_ret (res_ctt (p:=4) (q:=5) (q2:=6) rfl (HS.out.get 1 rfl) _ Tryz.underlying49 rfl (by kernel_rfl) rfl rfl rfl) rfl ⟨rfl,HS.out.b⟩
 case neg=>
  rw[if_neg hz];have z1:(wy == 0)=false:=by rw[beq_eq_false_iff_ne];exact hz
  have z2:(wy != 0)=true:=by rw[bne_iff_ne];exact hz
  clear hz HFd;obtain⟨V1,gR,HEV1,HGgR,HS⟩:=(St.start w).lay #[.int .i32 0,.int .i32 0,.int .i32 0,.int .u16 0,.int .u16 0,.int .u16 0,.int .u16 0,.int .u16 0,.int .u16 0,.int .u16 0,.int .u16 0,.int .u16 0,.int .u16 0,.int .u16 0,.int .u16 0,.int .u16 0,.int .u16 0,.int .u16 0,.int .u16 0] 49;go_enter Tryz.func103,Tryz.ntmps103
  go_upto_region 1 with fail
  rw[HEV1.out]
  try rw[HGgR.out]
  go_wp2_with fail
  refine(HBd.out _).mono ?_;rintro e V2 ⟨rfl,hb⟩;replace HS:=ak (HS.out.call hb);clear hb;go_wp2_with fail
  refine(HCk.out _ HS.out.b).mono ?_;rintro e V3 ⟨rfl,hb⟩;replace HS:=ak (HS.out.call hb);clear hb;have c0:=HC0.out _ HS.out.b;have c1:=HC1.out _ HS.out.b;go_upto_region 6 with fail
  clear c0 c1;go_wp2_with fail
  refine(HWy.out _ (by first|exact HS.out.b|exact(HS.out.drewN _).b|exact HS.out.drew.b)).mono ?_;rintro e V4 ⟨rfl,hb⟩;replace HS:=ak (by first|exact HS.out.call hb|exact(HS.out.drewN _).call hb|exact HS.out.drew.call hb);clear hb;go_wp2_with (refine wpList_store_all rfl 49 _ _ rfl (gR) rfl (Rc.R.zero.arr) rfl _ (HS.out.get 0 rfl) (by rfl) (by kernel_rfl) (by first|exact Sm.S.arr_one _|exact Rc.R.arr_one _|simp[Value.oneCell']) ?_;intro V5 hAn hMn)
  replace HS:Hid (St w V5 [(gR,Rc.R.zero.arr.toList)]):=HS.out.put 0 rfl hMn hAn;clear hMn hAn;refine bodyPost_ret (res_ctt (p:=4) (q:=5) (q2:=6) rfl (HS.out.get 0 rfl) _ Tryz.underlying49 rfl (by kernel_rfl) rfl rfl rfl) rfl ⟨rfl,HS.out.b⟩
end Go.Proofs.YtjobhjemnmleaaaGreatDoor
namespace Go.Proofs.YtjobhjemnmleaaaGreatDoor
open Go.RowKit
theorem shLike_any (s o:Sm.S)(y:Int)(w:World)(hL:Lens w)(hu:Sm.U s)(hv:Sm.U o)(hy:1601≤y∧y≤9999):Calls Tryz.prog 143 #[s.v,o.v,.int .i64 y] w fun e w'=>e=.returned (Rc.like s o y).v∧Below w.heap.size w w':=by
 have h1:=fun W (hb:Below w.heap.size w W)=>stampLocal_all s y W (hL.below hb) hu hy
 have h2:=fun W (hb:Below w.heap.size w W)=>stampLocal_all o y W (hL.below hb) hv hy
 unfold Sm.locV at h1 h2;have hcase:(¬Sm.no s y=0∧Rc.like s o y=s)∨(Sm.no s y=0∧¬Sm.no o y=0∧Rc.like s o y=s)∨(Sm.no s y=0∧Sm.no o y=0∧Sm.loc s y=Sm.loc o y∧Rc.like s o y=o)∨(Sm.no s y=0∧Sm.no o y=0∧¬Sm.loc s y=Sm.loc o y∧Rc.like s o y=s):=by
  unfold Rc.like
  by_cases a:Sm.no s y=0 <;> by_cases b:Sm.no o y=0 <;> by_cases c:Sm.loc s y=Sm.loc o y <;> simp[a,b,c]
 simp only[Sm.S.v_arr] at h1 h2 ⊢;rcases hcase with ⟨a,hE⟩|⟨a,b,hE⟩|⟨a,b,c,hE⟩|⟨a,b,c,hE⟩
 ·simp only[if_neg a] at h1;rw[hE];obtain⟨n,hn⟩:=aj (Sm.no s y)
  rw[hn] at a;simp only[hn] at h1;have p1:(n == 0)=false:=by rw[beq_eq_false_iff_ne];exact a
  have p2:(n != 0)=true:=by rw[bne_iff_ne];exact a
  have H1:=ak h1;clear h1 h2 hn a hE hL hu hv hy;obtain⟨V1,gS,HEV1,HGgS,HS⟩:=(St.start w).lay3 (s.arr) 47 (o.arr) 47 #[.int .u16 0,.int .u16 0,.int .u16 0,.int .u16 0,.int .u16 0,.int .u16 0,.int .u16 0,.int .u16 0] 47;go_enter Tryz.func143,Tryz.ntmps143
  go_upto_region 1 with fail
  rw[HEV1.out]
  try rw[HGgS.out]
  go_wp2_with (refine wpList_load_arr rfl 47 _ rfl (gS) 0 rfl (s.arr) (HS.out.get 2 rfl).range _ Tryz.underlying47 rfl (by kernel_rfl) ?_)
  refine(H1.out _ HS.out.b).mono ?_;rintro e V2 ⟨rfl,hb⟩;replace HS:=ak (HS.out.call hb);clear hb;go_wp2_with (first|(refine wpList_load_arr rfl 47 _ rfl (gS) 0 rfl (s.arr) (HS.out.get 2 rfl).range _ Tryz.underlying47 rfl (by kernel_rfl) ?_)|(refine wpList_store_all rfl 47 _ _ rfl (gS+1+1) rfl (s.arr) rfl _ (HS.out.get 0 rfl) (by rfl) (by kernel_rfl) (by first|exact Sm.S.arr_one _|exact Rc.R.arr_one _|simp[Value.oneCell']) ?_;intro V3 hAn hMn))
  replace HS:Hid (St w V3 [(gS+1+1,s.arr.toList),(gS+1,o.arr.toList),(gS,s.arr.toList)]):=HS.out.put 0 rfl hMn hAn;clear hMn hAn;refine bodyPost_ret (res_c (p:=6) rfl (HS.out.get 0 rfl) _ Tryz.underlying47 rfl (by kernel_rfl) rfl) rfl ⟨rfl,HS.out.b⟩
 ·simp only[if_pos a] at h1;simp only[if_neg b] at h2;rw[hE];obtain⟨n,hn⟩:=aj (Sm.no o y)
  rw[hn] at b;simp only[hn] at h2;have p1:(n == 0)=false:=by rw[beq_eq_false_iff_ne];exact b
  have p2:(n != 0)=true:=by rw[bne_iff_ne];exact b
  have H1:=ak h1;have H2:=ak h2;clear h1 h2 hn a b hE hL hu hv hy;obtain⟨V1,gS,HEV1,HGgS,HS⟩:=(St.start w).lay3 (s.arr) 47 (o.arr) 47 #[.int .u16 0,.int .u16 0,.int .u16 0,.int .u16 0,.int .u16 0,.int .u16 0,.int .u16 0,.int .u16 0] 47;go_enter Tryz.func143,Tryz.ntmps143
  go_upto_region 1 with fail
  rw[HEV1.out]
  try rw[HGgS.out]
  go_wp2_with (refine wpList_load_arr rfl 47 _ rfl (gS) 0 rfl (s.arr) (HS.out.get 2 rfl).range _ Tryz.underlying47 rfl (by kernel_rfl) ?_)
  refine(H1.out _ HS.out.b).mono ?_;rintro e V2 ⟨rfl,hb⟩;replace HS:=ak (HS.out.call hb);clear hb;go_wp2_with (refine wpList_load_arr rfl 47 _ rfl (gS+1) 0 rfl (o.arr) (HS.out.get 1 rfl).range _ Tryz.underlying47 rfl (by kernel_rfl) ?_)
  refine(H2.out _ HS.out.b).mono ?_;rintro e V3 ⟨rfl,hb⟩;replace HS:=ak (HS.out.call hb);clear hb;go_wp2_with (first|(refine wpList_load_arr rfl 47 _ rfl (gS) 0 rfl (s.arr) (HS.out.get 2 rfl).range _ Tryz.underlying47 rfl (by kernel_rfl) ?_)|(refine wpList_store_all rfl 47 _ _ rfl (gS+1+1) rfl (s.arr) rfl _ (HS.out.get 0 rfl) (by rfl) (by kernel_rfl) (by first|exact Sm.S.arr_one _|exact Rc.R.arr_one _|simp[Value.oneCell']) ?_;intro V4 hAn hMn))
  replace HS:Hid (St w V4 [(gS+1+1,s.arr.toList),(gS+1,o.arr.toList),(gS,s.arr.toList)]):=HS.out.put 0 rfl hMn hAn;clear hMn hAn;refine bodyPost_ret (res_c (p:=6) rfl (HS.out.get 0 rfl) _ Tryz.underlying47 rfl (by kernel_rfl) rfl) rfl ⟨rfl,HS.out.b⟩
 ·simp only[if_pos a] at h1;simp only[if_pos b] at h2;rw[hE];obtain⟨x,hx⟩:=aj (Sm.loc s y)
  obtain⟨z,hz⟩:=aj (Sm.loc o y)
  rw[hx,hz] at c;simp only[hx] at h1;simp only[hz] at h2;have p1:(x == z)=true:=by rw[beq_iff_eq];exact c
  have p2:(x != z)=false:=by rw[bne_eq_false_iff_eq];exact c
  have H1:=ak h1;have H2:=ak h2;clear h1 h2 hx hz a b c hE hL hu hv hy;obtain⟨V1,gS,HEV1,HGgS,HS⟩:=(St.start w).lay3 (s.arr) 47 (o.arr) 47 #[.int .u16 0,.int .u16 0,.int .u16 0,.int .u16 0,.int .u16 0,.int .u16 0,.int .u16 0,.int .u16 0] 47;go_enter Tryz.func143,Tryz.ntmps143
  go_upto_region 1 with fail
  rw[HEV1.out]
  try rw[HGgS.out]
  go_wp2_with (refine wpList_load_arr rfl 47 _ rfl (gS) 0 rfl (s.arr) (HS.out.get 2 rfl).range _ Tryz.underlying47 rfl (by kernel_rfl) ?_)
  refine(H1.out _ HS.out.b).mono ?_;rintro e V2 ⟨rfl,hb⟩;replace HS:=ak (HS.out.call hb);clear hb;go_wp2_with (refine wpList_load_arr rfl 47 _ rfl (gS+1) 0 rfl (o.arr) (HS.out.get 1 rfl).range _ Tryz.underlying47 rfl (by kernel_rfl) ?_)
  refine(H2.out _ HS.out.b).mono ?_;rintro e V3 ⟨rfl,hb⟩;replace HS:=ak (HS.out.call hb);clear hb;go_wp2_with (first|(refine wpList_load_arr rfl 47 _ rfl (gS+1) 0 rfl (o.arr) (HS.out.get 1 rfl).range _ Tryz.underlying47 rfl (by kernel_rfl) ?_)|(refine wpList_store_all rfl 47 _ _ rfl (gS+1+1) rfl (o.arr) rfl _ (HS.out.get 0 rfl) (by rfl) (by kernel_rfl) (by first|exact Sm.S.arr_one _|exact Rc.R.arr_one _|simp[Value.oneCell']) ?_;intro V4 hAn hMn))
  replace HS:Hid (St w V4 [(gS+1+1,o.arr.toList),(gS+1,o.arr.toList),(gS,s.arr.toList)]):=HS.out.put 0 rfl hMn hAn;clear hMn hAn;refine bodyPost_ret (res_c (p:=6) rfl (HS.out.get 0 rfl) _ Tryz.underlying47 rfl (by kernel_rfl) rfl) rfl ⟨rfl,HS.out.b⟩
 ·simp only[if_pos a] at h1;simp only[if_pos b] at h2;rw[hE];obtain⟨x,hx⟩:=aj (Sm.loc s y)
  obtain⟨z,hz⟩:=aj (Sm.loc o y)
  rw[hx,hz] at c;simp only[hx] at h1;simp only[hz] at h2;have p1:(x == z)=false:=by rw[beq_eq_false_iff_ne];exact c
  have p2:(x != z)=true:=by rw[bne_iff_ne];exact c
  have H1:=ak h1;have H2:=ak h2;clear h1 h2 hx hz a b c hE hL hu hv hy;obtain⟨V1,gS,HEV1,HGgS,HS⟩:=(St.start w).lay3 (s.arr) 47 (o.arr) 47 #[.int .u16 0,.int .u16 0,.int .u16 0,.int .u16 0,.int .u16 0,.int .u16 0,.int .u16 0,.int .u16 0] 47;go_enter Tryz.func143,Tryz.ntmps143
  go_upto_region 1 with fail
  rw[HEV1.out]
  try rw[HGgS.out]
  go_wp2_with (refine wpList_load_arr rfl 47 _ rfl (gS) 0 rfl (s.arr) (HS.out.get 2 rfl).range _ Tryz.underlying47 rfl (by kernel_rfl) ?_)
  refine(H1.out _ HS.out.b).mono ?_;rintro e V2 ⟨rfl,hb⟩;replace HS:=ak (HS.out.call hb);clear hb;go_wp2_with (refine wpList_load_arr rfl 47 _ rfl (gS+1) 0 rfl (o.arr) (HS.out.get 1 rfl).range _ Tryz.underlying47 rfl (by kernel_rfl) ?_)
  refine(H2.out _ HS.out.b).mono ?_;rintro e V3 ⟨rfl,hb⟩;replace HS:=ak (HS.out.call hb);clear hb;go_wp2_with (first|(refine wpList_load_arr rfl 47 _ rfl (gS) 0 rfl (s.arr) (HS.out.get 2 rfl).range _ Tryz.underlying47 rfl (by kernel_rfl) ?_)|(refine wpList_store_all rfl 47 _ _ rfl (gS+1+1) rfl (s.arr) rfl _ (HS.out.get 0 rfl) (by rfl) (by kernel_rfl) (by first|exact Sm.S.arr_one _|exact Rc.R.arr_one _|simp[Value.oneCell']) ?_;intro V4 hAn hMn))
  replace HS:Hid (St w V4 [(gS+1+1,s.arr.toList),(gS+1,o.arr.toList),(gS,s.arr.toList)]):=HS.out.put 0 rfl hMn hAn;clear hMn hAn;refine bodyPost_ret (res_c (p:=6) rfl (HS.out.get 0 rfl) _ Tryz.underlying47 rfl (by kernel_rfl) rfl) rfl ⟨rfl,HS.out.b⟩
theorem shRecord_any (r o:Rc.R)(y:Int)(w:World)(hL:Lens w)(hi:Rc.I r)(hj:Rc.I o)(hy:1601≤y∧y≤9999):Calls Tryz.prog 104 #[r.v,o.v,.int .i64 y] w fun e w'=>e=.returned (Rc.shape r o y).v∧Below w.heap.size w w':=by
 have h1:=fun W (hb:Below w.heap.size w W)=>rcCheck_any r W (hL.below hb) hi
 have h2:=fun W (hb:Below w.heap.size w W)=>rcCheck_any o W (hL.below hb) hj
 have h3:=fun W (hb:Below w.heap.size w W)=>shLike_any r.std o.std y W (hL.below hb) hi.std hj.std hy
 have h4:=fun W (hb:Below w.heap.size w W)=>shLike_any r.dst o.dst y W (hL.below hb) hi.dst hj.dst hy
 have hcase:(Rc.right r=false∧Rc.shape r o y=r)∨(Rc.right r=true∧Rc.right o=false∧Rc.shape r o y=r)∨(Rc.right r=true∧Rc.right o=true∧Rc.shape r o y=⟨r.b,r.sb,r.db,Rc.like r.std o.std y,Rc.like r.dst o.dst y⟩):=by
  unfold Rc.shape Rc.right
  by_cases a:Rc.Ok r <;> by_cases b:Rc.Ok o <;> simp[a,b]
 simp only[Sm.S.v_arr,Rc.R.v_arr] at h1 h2 h3 h4 ⊢;rcases hcase with ⟨a,hE⟩|⟨a,b,hE⟩|⟨a,b,hE⟩
 ·simp only[a] at h1;rw[hE];have H1:=ak h1;clear h1 h2 h3 h4 a hE hL hi hj hy;obtain⟨V1,gR,HEV1,HGgR,HS⟩:=(St.start w).lay3 (r.arr) 49 (o.arr) 49 #[.int .i32 0,.int .i32 0,.int .i32 0,.int .u16 0,.int .u16 0,.int .u16 0,.int .u16 0,.int .u16 0,.int .u16 0,.int .u16 0,.int .u16 0,.int .u16 0,.int .u16 0,.int .u16 0,.int .u16 0,.int .u16 0,.int .u16 0,.int .u16 0,.int .u16 0] 49;go_enter Tryz.func104,Tryz.ntmps104
  go_upto_region 1 with fail
  rw[HEV1.out]
  try rw[HGgR.out]
  go_wp2_with (refine wpList_load_arr rfl 49 _ rfl (gR) 0 rfl (r.arr) (HS.out.get 2 rfl).range _ Tryz.underlying49 rfl (by kernel_rfl) ?_)
  refine(H1.out _ HS.out.b).mono ?_;rintro e V2 ⟨rfl,hb⟩;replace HS:=ak (HS.out.call hb);clear hb;go_wp2_with (first|(refine wpList_load_arr rfl 49 _ rfl (gR) 0 rfl (r.arr) (HS.out.get 2 rfl).range _ Tryz.underlying49 rfl (by kernel_rfl) ?_)|(refine wpList_store_all rfl 49 _ _ rfl (gR+1+1) rfl (r.arr) rfl _ (HS.out.get 0 rfl) (by rfl) (by kernel_rfl) (by first|exact Sm.S.arr_one _|exact Rc.R.arr_one _|simp[Value.oneCell']) ?_;intro V3 hAn hMn))
  replace HS:Hid (St w V3 [(gR+1+1,r.arr.toList),(gR+1,o.arr.toList),(gR,r.arr.toList)]):=HS.out.put 0 rfl hMn hAn;clear hMn hAn;refine bodyPost_ret (res_c (p:=6) rfl (HS.out.get 0 rfl) _ Tryz.underlying49 rfl (by kernel_rfl) rfl) rfl ⟨rfl,HS.out.b⟩
 ·simp only[a] at h1;simp only[b] at h2;rw[hE];have H1:=ak h1;have H2:=ak h2;clear h1 h2 h3 h4 a b hE hL hi hj hy;obtain⟨V1,gR,HEV1,HGgR,HS⟩:=(St.start w).lay3 (r.arr) 49 (o.arr) 49 #[.int .i32 0,.int .i32 0,.int .i32 0,.int .u16 0,.int .u16 0,.int .u16 0,.int .u16 0,.int .u16 0,.int .u16 0,.int .u16 0,.int .u16 0,.int .u16 0,.int .u16 0,.int .u16 0,.int .u16 0,.int .u16 0,.int .u16 0,.int .u16 0,.int .u16 0] 49;go_enter Tryz.func104,Tryz.ntmps104
  go_upto_region 1 with fail
  rw[HEV1.out]
  try rw[HGgR.out]
  go_wp2_with (refine wpList_load_arr rfl 49 _ rfl (gR) 0 rfl (r.arr) (HS.out.get 2 rfl).range _ Tryz.underlying49 rfl (by kernel_rfl) ?_)
  refine(H1.out _ HS.out.b).mono ?_;rintro e V2 ⟨rfl,hb⟩;replace HS:=ak (HS.out.call hb);clear hb;go_wp2_with (refine wpList_load_gar rfl 49 _ rfl (gR+1) 0 rfl (o.arr) (HS.out.get 1 rfl).range _ Tryz.underlying49 rfl (by kernel_rfl) ?_)
  refine(H2.out _ HS.out.b).mono ?_;rintro e V3 ⟨rfl,hb⟩;replace HS:=ak (HS.out.call hb);clear hb;go_wp2_with (first|(refine wpList_load_arr rfl 49 _ rfl (gR) 0 rfl (r.arr) (HS.out.get 2 rfl).range _ Tryz.underlying49 rfl (by kernel_rfl) ?_)|(refine wpList_store_all rfl 49 _ _ rfl (gR+1+1) rfl (r.arr) rfl _ (HS.out.get 0 rfl) (by rfl) (by kernel_rfl) (by first|exact Sm.S.arr_one _|exact Rc.R.arr_one _|simp[Value.oneCell']) ?_;intro V4 hAn hMn))
  replace HS:Hid (St w V4 [(gR+1+1,r.arr.toList),(gR+1,o.arr.toList),(gR,r.arr.toList)]):=HS.out.put 0 rfl hMn hAn;clear hMn hAn;refine bodyPost_ret (res_c (p:=6) rfl (HS.out.get 0 rfl) _ Tryz.underlying49 rfl (by kernel_rfl) rfl) rfl ⟨rfl,HS.out.b⟩
 ·simp only[a] at h1;simp only[b] at h2;rw[hE];have H1:=ak h1;have H2:=ak h2;have H3:=ak h3;have H4:=ak h4;clear h1 h2 h3 h4 a b hE hL hi hj hy;obtain⟨p,hp⟩:=aj (Rc.like r.std o.std y)
  obtain⟨q,hq⟩:=aj (Rc.like r.dst o.dst y)
  rw[hp] at H3;rw[hq] at H4;rw[hp,hq];clear hp hq;obtain⟨V1,gR,HEV1,HGgR,HS⟩:=(St.start w).lay3 (r.arr) 49 (o.arr) 49 #[.int .i32 0,.int .i32 0,.int .i32 0,.int .u16 0,.int .u16 0,.int .u16 0,.int .u16 0,.int .u16 0,.int .u16 0,.int .u16 0,.int .u16 0,.int .u16 0,.int .u16 0,.int .u16 0,.int .u16 0,.int .u16 0,.int .u16 0,.int .u16 0,.int .u16 0] 49;go_enter Tryz.func104,Tryz.ntmps104
  go_upto_region 1 with fail
  rw[HEV1.out]
  try rw[HGgR.out]
  go_wp2_with (refine wpList_load_arr rfl 49 _ rfl (gR) 0 rfl (r.arr) (HS.out.get 2 rfl).range _ Tryz.underlying49 rfl (by kernel_rfl) ?_)
  refine(H1.out _ HS.out.b).mono ?_;rintro e V2 ⟨rfl,hb⟩;replace HS:=ak (HS.out.call hb);clear hb;go_wp2_with (refine wpList_load_gar rfl 49 _ rfl (gR+1) 0 rfl (o.arr) (HS.out.get 1 rfl).range _ Tryz.underlying49 rfl (by kernel_rfl) ?_)
  refine(H2.out _ HS.out.b).mono ?_;rintro e V3 ⟨rfl,hb⟩;replace HS:=ak (HS.out.call hb);clear hb;go_wp2_with (first|(refine wpList_load_arr rfl 47 _ rfl (gR) 3 rfl (r.std.arr) ((HS.out.get 2 rfl).mid 3 _ (Rc.R.std_at r)) _ Tryz.underlying47 rfl (by kernel_rfl) ?_)|(refine wpList_load_arr rfl 47 _ rfl (gR+1) 3 rfl (o.std.arr) ((HS.out.get 1 rfl).mid 3 _ (Rc.R.std_at o)) _ Tryz.underlying47 rfl (by kernel_rfl) ?_))
  refine(H3.out _ HS.out.b).mono ?_;rintro e V4 ⟨rfl,hb⟩;replace HS:=ak (HS.out.call hb);clear hb;go_upto_region 4 with (refine wpList_store_arr rfl 47 _ _ rfl (gR) 3 rfl (p.arr) rfl _ (HS.out.get 2 rfl) (Nat.le_of_ble_eq_true rfl) (by kernel_rfl) (by first|exact Sm.S.arr_one _|exact Rc.R.arr_one _|simp[Value.oneCell']) ?_;intro V5 hAn hMn)
  replace HS:Hid (St w V5 [(gR+1+1,[.int .i32 0,.int .i32 0,.int .i32 0,.int .u16 0,.int .u16 0,.int .u16 0,.int .u16 0,.int .u16 0,.int .u16 0,.int .u16 0,.int .u16 0,.int .u16 0,.int .u16 0,.int .u16 0,.int .u16 0,.int .u16 0,.int .u16 0,.int .u16 0,.int .u16 0]),(gR+1,o.arr.toList),(gR,(Rc.R.mk r.b r.sb r.db p r.dst).arr.toList)]):=HS.out.put 2 rfl hMn hAn;clear hMn hAn;go_wp2_with (first|(refine wpList_load_arr rfl 47 _ rfl (gR) 11 rfl (r.dst.arr) ((HS.out.get 2 rfl).mid 11 _ (Rc.R.dst_at (Rc.R.mk r.b r.sb r.db p r.dst))) _ Tryz.underlying47 rfl (by kernel_rfl) ?_)|(refine wpList_load_arr rfl 47 _ rfl (gR+1) 11 rfl (o.dst.arr) ((HS.out.get 1 rfl).mid 11 _ (Rc.R.dst_at o)) _ Tryz.underlying47 rfl (by kernel_rfl) ?_))
  refine(H4.out _ HS.out.b).mono ?_;rintro e V6 ⟨rfl,hb⟩;replace HS:=ak (HS.out.call hb);clear hb;go_upto_region 5 with (refine wpList_store_arr rfl 47 _ _ rfl (gR) 11 rfl (q.arr) rfl _ (HS.out.get 2 rfl) (Nat.le_of_ble_eq_true rfl) (by kernel_rfl) (by first|exact Sm.S.arr_one _|exact Rc.R.arr_one _|simp[Value.oneCell']) ?_;intro V7 hAn hMn)
  replace HS:Hid (St w V7 [(gR+1+1,[.int .i32 0,.int .i32 0,.int .i32 0,.int .u16 0,.int .u16 0,.int .u16 0,.int .u16 0,.int .u16 0,.int .u16 0,.int .u16 0,.int .u16 0,.int .u16 0,.int .u16 0,.int .u16 0,.int .u16 0,.int .u16 0,.int .u16 0,.int .u16 0,.int .u16 0]),(gR+1,o.arr.toList),(gR,(Rc.R.mk r.b r.sb r.db p q).arr.toList)]):=HS.out.put 2 rfl hMn hAn;clear hMn hAn;go_wp2_with (first|(refine wpList_load_arr rfl 49 _ rfl (gR) 0 rfl (Rc.R.mk r.b r.sb r.db p q).arr (HS.out.get 2 rfl).range _ Tryz.underlying49 rfl (by kernel_rfl) ?_)|(refine wpList_store_all rfl 49 _ _ rfl (gR+1+1) rfl (Rc.R.mk r.b r.sb r.db p q).arr rfl _ (HS.out.get 0 rfl) (by rfl) (by kernel_rfl) (by first|exact Sm.S.arr_one _|exact Rc.R.arr_one _|simp[Value.oneCell']) ?_;intro V8 hAn hMn))
  replace HS:Hid (St w V8 [(gR+1+1,(Rc.R.mk r.b r.sb r.db p q).arr.toList),(gR+1,o.arr.toList),(gR,(Rc.R.mk r.b r.sb r.db p q).arr.toList)]):=HS.out.put 0 rfl hMn hAn;clear hMn hAn;refine bodyPost_ret (res_c (p:=6) rfl (HS.out.get 0 rfl) _ Tryz.underlying49 rfl (by kernel_rfl) rfl) rfl ⟨rfl,HS.out.b⟩
namespace Cm
theorem year_cut {s:Src.S}{eras:List Er.E}(hr:Eg.RulesOk s.rules)(hz:Eg.ZoneOk eras){lo hi y:Int}(h:Ln.InY lo hi)(h1:lo≤y)(h2:y≤hi){k:Nat}{x:Ln.Sp}
  (ha:Lo.Ab (Ln.lineOf s eras lo hi) (Oc.D y*86400) (k+1)) (hx:(Ln.lineOf s eras lo hi)[k]?=some x):Lo.cutL (Ln.lineOf s eras lo hi) (Oc.D y*86400) (Oc.D (y+1)*86400) (k+1) x=Ln.lineOf s eras y y:=by
 obtain⟨k1,k2,k3,k4⟩:=h;have a:=Oc.D_mono h1;have b:=Oc.D_mono (show y+1≤hi+1 by omega);have c:=Oc.D_next y;exact Ln.Cov.one (Lo.cov_cut (Ln.lineOf_cov hr hz ⟨k1,k2,k3,k4⟩) (by omega) (by omega) (by omega) ha hx) (Ln.lineOf_cov hr hz ⟨by omega,by omega,by omega,by omega⟩)
theorem of_line {s:Src.S}{eras:List Er.E}(hr:Eg.RulesOk s.rules)(hz:Eg.ZoneOk eras){y:Int}(h:Ln.InY y y):Rc.Of (Ln.lineOf s eras y y) y:=by
 have hc:=Ln.lineOf_cov hr hz h;have c:=Oc.D_next y;refine⟨Lo.right_cov hc (by omega),fun x hx=>?_,fun x hx=>?_⟩
 ·cases hl:Ln.lineOf s eras y y with
  |nil=>rw[hl] at hx;cases hx
  |cons a l=>
   rw[hl] at hc hx;obtain rfl:a=x:=by simpa using hx
   exact hc.1
 ·obtain⟨k,hk⟩:=List.mem_iff_getElem?.1 hx;exact(Ln.Cov.in_ hc k x hk).2.1
structure P where
 recs:List Rc.R
 why:List Int
 found:Bool
def no (f:Int→List Ln.Sp)(y:Int):Int:=Rc.why (f y) (Oc.D y*86400) (Oc.D (y+1)*86400)
def ahead (l:List Rc.R):Rc.R:=l.getLast?.getD Rc.R.zero
def step (f:Int→List Ln.Sp)(y:Int)(p:P):P:=
 if no f y≠0 then ⟨p.recs ++ [ahead p.recs],p.why ++ [no f y],p.found⟩
 else if p.found=true then ⟨p.recs ++ [Rc.shape (Rc.fitted (f y) y) (ahead p.recs) y],p.why ++ [0],true⟩
 else ⟨p.recs.map (fun _=>Rc.fitted (f y) y) ++ [Rc.fitted (f y) y],p.why ++ [0],true⟩
def run (f:Int→List Ln.Sp)(lo:Int):Nat→P
 |0=>⟨[],[],false⟩
 |n+1=>step f (lo+(n:Int)) (run f lo n)
theorem zero_ok : Rc.Ok Rc.R.zero∧Rc.I Rc.R.zero:=by
 refine⟨by decide,⟨by decide,by decide,by decide,?_,?_⟩⟩
 all_goals exact⟨by decide,by decide,by decide,by decide,by decide,by decide,by decide,by decide⟩
theorem ahead_ok {l:List Rc.R}(h:∀r∈l,Rc.Ok r∧Rc.I r):Rc.Ok (ahead l)∧Rc.I (ahead l):=by
 unfold ahead;cases hl:l.getLast? with
 |none=>exact zero_ok
 |some r=>exact h r (List.mem_of_getLast? hl)
structure Good (f:Int→List Ln.Sp)(lo:Int)(n:Nat)(p:P):Prop where
 lr:p.recs.length=n
 lw:p.why.length=n
 ok:∀r∈p.recs,Rc.Ok r∧Rc.I r
 why:∀i,i<n→p.why[i]?=some (no f (lo+(i:Int)))
 none:p.found=false→∀i,i<n→no f (lo+(i:Int))≠0
 own:∀i,i<n→no f (lo+(i:Int))=0→∃r,p.recs[i]?=some r∧Rc.spans r (lo+(i:Int))=f (lo+(i:Int))
theorem snoc_lt {α:Type}{l:List α}{a x:α}{i:Nat}(h:l[i]?=some x):(l ++ [a])[i]?=some x:=by
 rw[List.getElem?_append_left (List.getElem?_eq_some_iff.1 h).1];exact h
theorem snoc_eq {α:Type}{l:List α}{a:α}{n:Nat}(h:l.length=n):(l ++ [a])[n]?=some a:=by
 subst h;simp
theorem good_step {f:Int→List Ln.Sp}{lo:Int}{n:Nat}{p:P}(h:Good f lo n p)(hy:1601≤lo+(n:Int)∧lo+(n:Int)≤9999)(ho:Rc.Of (f (lo+(n:Int))) (lo+(n:Int))):Good f lo (n+1) (step f (lo+(n:Int)) p):=by
 obtain⟨y,hye⟩:=aj (lo+(n:Int))
 rw[hye] at hy ho ⊢;have hah:=ahead_ok h.ok;unfold step
 by_cases hn:no f y=0
 ·rw[if_neg (fun q=>q hn)];obtain⟨f1,f2,f3⟩:=Rc.fitted_spans hy ho hn
  by_cases hf:p.found=true
  ·rw[if_pos hf];obtain⟨s1,s2,s3⟩:=Rc.shape_ok (o:=ahead p.recs) (y:=y) f1 f2 hah.2;refine⟨by simp[h.lr],by simp[h.lw],fun r hr=>?_,fun i hi=>?_,fun q=>(nomatch (show true=false from q)),fun i hi hz=>?_⟩
   ·rcases List.mem_append.1 hr with q|q
    ·exact h.ok r q
    ·rw[List.mem_singleton.1 q];exact⟨s1,s2⟩
   ·by_cases hin:i=n
    ·subst hin;rw[hye,hn];exact snoc_eq h.lw
    ·exact snoc_lt (h.why i (by omega))
   ·by_cases hin:i=n
    ·subst hin;exact⟨_,snoc_eq h.lr,by rw[hye,s3,f3]⟩
    ·obtain⟨r,k1,k2⟩:=h.own i (by omega) hz;exact⟨r,snoc_lt k1,k2⟩
  ·rw[if_neg hf];have hno:=h.none (by simpa using hf);refine⟨by simp[h.lr],by simp[h.lw],fun r hr=>?_,fun i hi=>?_,fun q=>(nomatch (show true=false from q)),fun i hi hz=>?_⟩
   ·rcases List.mem_append.1 hr with q|q
    ·obtain⟨_,_,rfl⟩:=List.mem_map.1 q;exact⟨f1,f2⟩
    ·rw[List.mem_singleton.1 q];exact⟨f1,f2⟩
   ·by_cases hin:i=n
    ·subst hin;rw[hye,hn];exact snoc_eq h.lw
    ·exact snoc_lt (h.why i (by omega))
   ·by_cases hin:i=n
    ·subst hin;exact⟨_,snoc_eq (by rw[List.length_map];exact h.lr),by rw[hye,f3]⟩
    ·exact absurd hz (hno i (by omega))
 ·rw[if_pos hn];refine⟨by simp[h.lr],by simp[h.lw],fun r hr=>?_,fun i hi=>?_,fun q i hi=>?_,fun i hi hz=>?_⟩
  ·rcases List.mem_append.1 hr with q|q
   ·exact h.ok r q
   ·rw[List.mem_singleton.1 q];exact hah
  ·by_cases hin:i=n
   ·subst hin;rw[hye];exact snoc_eq h.lw
   ·exact snoc_lt (h.why i (by omega))
  ·by_cases hin:i=n
   ·subst hin;rw[hye];exact hn
   ·exact h.none q i (by omega)
  ·by_cases hin:i=n
   ·subst hin;exact absurd (hye ▸ hz) hn
   ·obtain⟨r,k1,k2⟩:=h.own i (by omega) hz;exact⟨r,snoc_lt k1,k2⟩
theorem good_run {f:Int→List Ln.Sp}{lo:Int}:∀{n:Nat},(∀i,i<n→1601≤lo+(i:Int)∧lo+(i:Int)≤9999∧Rc.Of (f (lo+(i:Int))) (lo+(i:Int)))→Good f lo n (run f lo n)
 |0,_=>⟨rfl,rfl,fun r hr=>(by cases hr),fun i hi=>absurd hi (Nat.not_lt_zero _),fun _ i hi=>absurd hi (Nat.not_lt_zero _),fun i hi=>absurd hi (Nat.not_lt_zero _)⟩
 |n+1,h=>by
  have q:=h n (Nat.lt_succ_self _);exact good_step (good_run fun i hi=>h i (Nat.lt_succ_of_lt hi)) ⟨q.1,q.2.1⟩ q.2.2
theorem never {f:Int→List Ln.Sp}{y:Int}{r:Rc.R}(hy:1601≤y∧y≤9999)(h:Rc.Ok r)(hi:Rc.I r)(hn:no f y≠0):Rc.spans r y≠f y:=fun e=>hn (by
 unfold no;rw[← e];exact Rc.spans_why hy h hi)
theorem found_iff {f:Int→List Ln.Sp}{lo:Int}:∀{n:Nat},(run f lo n).found=true↔∃i,i<n∧no f (lo+(i:Int))=0
 |0=>⟨fun h=>(nomatch (show false=true from h)),fun⟨i,hi,_⟩=>absurd hi (Nat.not_lt_zero _)⟩
 |n+1=>by
  show (step f (lo+(n:Int)) (run f lo n)).found=true↔_
  have ih:=found_iff (f:=f) (lo:=lo) (n:=n);unfold step
  by_cases hn:no f (lo+(n:Int))=0
  ·rw[if_neg (fun q=>q hn)];constructor
   ·exact fun _=>⟨n,Nat.lt_succ_self _,hn⟩
   ·intro _;split <;> rfl
  ·rw[if_pos hn];constructor
   ·intro q;obtain⟨i,h1,h2⟩:=ih.1 q;exact⟨i,Nat.lt_succ_of_lt h1,h2⟩
   ·rintro ⟨i,h1,h2⟩;refine ih.2 ⟨i,?_,h2⟩
    by_cases hin:i=n
    ·subst hin;exact absurd h2 hn
    ·omega
theorem run_more {f:Int→List Ln.Sp}{lo:Int}{n:Nat}(h:(run f lo n).found=true):∀m,∃t,(run f lo (n+m)).recs=(run f lo n).recs ++ t∧(run f lo (n+m)).found=true
 |0=>⟨[],by simp,h⟩
 |m+1=>by
  obtain⟨t,h1,h2⟩:=run_more h m;have e:run f lo (n+(m+1))=step f (lo+((n+m:Nat):Int)) (run f lo (n+m)):=rfl;rw[e];unfold step;simp only[h2,if_true];split
  ·exact⟨t ++ [ahead (run f lo (n+m)).recs],by rw[h1,List.append_assoc],by first|exact h2|rfl⟩
  ·exact⟨_,by rw[h1,List.append_assoc],rfl⟩
def missed (lo:Int):List Int→List (Int × Int)
 |[]=>[]
 |x :: l=>(if x≠0 then [(lo,x)] else []) ++ missed (lo+1) l
end Cm
end Go.Proofs.YtjobhjemnmleaaaGreatDoor
namespace Go.Proofs.YtjobhjemnmleaaaGreatDoor
open Go.RowKit Go.Sort
theorem quiet_load_arr {ops:Array Oper}{Lq:Act→Prop}{rest:List Oper}{o:Oper}{a:Act}{w:World}(hgd:o.guard=none)(ty:TypeId)(x:Operand)(ho:o.op=.load ty x)
  (g off:Nat) (hx:a.eval x=.pointer (some ⟨g,off,none⟩)) (ca:Array Value) (hA:w.rangeAt g off ca.toList) (d:TypeDesc)
  (hu:Tryz.prog.underlying ty=some d) (hd:d.isRow=true) (hi:(Tryz.prog.info? ty).map (·.size)=some ca.size)
  (h:wpQuiet Tryz.prog ops (fun w'=>∃p:Regrown,w'=grow (redrawn w p.d) p.os) Lq rest (a.put o.dst (.agg ca))):wpQuiet Tryz.prog ops (fun w'=>∃p:Regrown,w'=grow (redrawn w p.d) p.os) Lq (o :: rest) a:=by
 unfold wpQuiet;rw[if_pos (show Region.wanted o (yielded ops a.tmps)=true by simp[Region.wanted,hgd])];refine⟨.agg ca,?_,h⟩;rintro w' ⟨p,rfl⟩;have hr:=run_loadVar_mid (P:=Tryz.prog) (grow (redrawn w p.d) p.os) g off ty ca.toList d (fun j v hv=>cell_regrown (hA j v hv) _ _) hu hd (by simpa using hi);unfold Oper.quietAt execOp;simp only[ho,hx,Instr.loadAt,Instr.sureAddr,Sem.run_bind,Sem.run_pure,Result.andThen_ok,hr];exact⟨rfl,by simp⟩
theorem below_le {B C:Nat}{w w':World}(h:Below B w w')(hc:C≤B):Below C w w':=⟨h.os,h.tape,h.output,h.size,fun k hk=>h.block k (Nat.lt_of_lt_of_le hk hc)⟩
theorem size_cells (g:Nat):∀(vs:List Value) (o:Nat) (w:World),(w.setCells g o vs).heap.size=w.heap.size
 |[],_,_=>rfl
 |_ :: r,o,_=>(size_cells g r (o+1) _).trans (heap_set _ _ _)
theorem wpList_store_one {ops:Array Oper}{rest:List Oper}{o:Oper}{a:Act}{w:World}{Q:Exit→Act→World→Prop}(hgd:o.guard=none)(ty:TypeId)(x y:Operand)(ho:o.op=.store ty x y)
  (g off:Nat) (hx:a.eval x=.pointer (some ⟨g,off,none⟩)) (v:Value) (hy:a.eval y=v) (hv:v.cells=#[v]) (old:List Value) (hA:At w g old) (hfit:off+1≤old.length)
  (hi:(Tryz.prog.info? ty).map (·.size)=some 1) (h1:v.oneCell'=true)
  (h:∀w',At w' g (old.set off v)→Moved g w w'→wpList Tryz.prog ops Q rest (a.put o.dst undef) w'):wpList Tryz.prog ops Q (o :: rest) a w:=by
 refine wpList_plain hgd fun K hK=>?_
 have ht:=hA.there off 1 hfit;have hst:=run_storeCells_cells (P:=Tryz.prog) g off [v] 0 w (fun j hj=>by simpa using (ht j (by simpa using hj)).1) (fun j hj=>by simpa using (ht j (by simpa using hj)).2) (fun u hu=>by
  rw[List.mem_singleton] at hu;rw[hu];exact h1)
 have hr:(storeVar ty ⟨g,off,none⟩ v).run Tryz.prog w=.ok () (w.setCells g off [v]):=by
  cases hq:Tryz.prog.info? ty with
  |none=>simp[hq] at hi
  |some i=>
   have hs:i.size=1:=by simpa [hq] using hi
   simp only[Nat.add_zero] at hst;simp[storeVar,sizeOf,typeInfo,hq,hv,hs,hst]
 unfold Oper.wp execOp;simp only[ho,hx,hy,Instr.storeAt,Instr.sureAddr,Sem.run_bind,Sem.run_pure,Result.andThen_ok,hr];exact hK _ _ (h _ (hA.set off v) ⟨off,[v],rfl⟩)
theorem wp_store_one {o:Oper}{a:Act}{w:World}{K:Act→World→Prop}{Q:Exit→Act→World→Prop}(ty:TypeId)(x y:Operand)(ho:o.op=.store ty x y)
  (g off:Nat) (hx:a.eval x=.pointer (some ⟨g,off,none⟩)) (v:Value) (hy:a.eval y=v) (hv:v.cells=#[v]) (old:List Value) (hA:At w g old) (hfit:off+1≤old.length)
  (hi:(Tryz.prog.info? ty).map (·.size)=some 1) (h1:v.oneCell'=true)
  (h:∀w',At w' g (old.set off v)→Moved g w w'→K (a.put o.dst undef) w'):o.wp Tryz.prog a w K Q:=by
 have ht:=hA.there off 1 hfit;have hst:=run_storeCells_cells (P:=Tryz.prog) g off [v] 0 w (fun j hj=>by simpa using (ht j (by simpa using hj)).1) (fun j hj=>by simpa using (ht j (by simpa using hj)).2) (fun u hu=>by
  rw[List.mem_singleton] at hu;rw[hu];exact h1)
 have hr:(storeVar ty ⟨g,off,none⟩ v).run Tryz.prog w=.ok () (w.setCells g off [v]):=by
  cases hq:Tryz.prog.info? ty with
  |none=>simp[hq] at hi
  |some i=>
   have hs:i.size=1:=by simpa [hq] using hi
   simp only[Nat.add_zero] at hst;simp[storeVar,sizeOf,typeInfo,hq,hv,hs,hst]
 unfold Oper.wp execOp;simp only[ho,hx,hy,Instr.storeAt,Instr.sureAddr,Sem.run_bind,Sem.run_pure,Result.andThen_ok,hr];exact h _ (hA.set off v) ⟨off,[v],rfl⟩
theorem own_at_ {w:World}{B size n:Nat}{e:TypeId}{v:Value}{xs:List Value}(h:w.ownsRow B e size v n xs)(hn:0<n):
  ∃g c,v=.slice (some ⟨g,0,none⟩) n c∧B≤g∧n≤c∧c≤maxLen∧g<w.heap.size∧∀j u,xs[j]?=some u→w.cell? ⟨g,j,none⟩=some u∧w.frozen? ⟨g,j,none⟩=false:=by
 rcases h.2 with ⟨rfl,h0⟩|⟨g,cap,cur,rfl,h1,h2,h3,h4,h5,h6⟩
 ·omega
 ·refine⟨g,cap,rfl,h1,h3,h4,(Array.getElem?_eq_some_iff.1 h2).1,fun j u hu=>?_⟩;rw[← h6] at hu;have hj:=(List.getElem?_eq_some_iff.1 hu).1;rw[List.length_take] at hj;rw[List.getElem?_take_of_lt (by omega)] at hu;refine⟨?_,by simp[World.frozen?,h2]⟩;have:cur[j]?=some u:=by simpa using hu
  simp[World.cell?,h2,this]
theorem setCells_row (g:Nat)(t:TypeId):∀(vs:List Value) (o:Nat) (cur:Array Value) (w:World),w.heap[g]?=some (.cells cur t (0,0))→o+vs.length≤cur.size→
  (w.setCells g o vs).heap[g]?=some (.cells (cur.toList.take o ++ vs ++ cur.toList.drop (o+vs.length)).toArray t (0,0))
 |[],o,cur,w,h,_=>by
  show w.heap[g]?=_
  simpa using h
 |v :: r,o,cur,w,h,hl=>by
  have hl':o+(r.length+1)≤cur.size:=by simpa using hl
  have h2:(w.setCell ⟨g,o,none⟩ v).heap[g]?=some (.cells (cur.setIfInBounds o v) t (0,0)):=by
   rw[setCell_eq_setRow w g o cur t (0,0) v h];exact setRow_heap w g cur _ t (0,0) h
  have:=setCells_row g t r (o+1) (cur.setIfInBounds o v) (w.setCell ⟨g,o,none⟩ v) h2 (by simp;omega);refine this.trans ?_;have e:=list_seg_step cur.toList o v r (by simpa using hl')
  congr 3
  simpa [Array.toList_setIfInBounds] using e
theorem own_store {w:World}{B size n g c:Nat}{e:TypeId}{xs:List Value}(h:w.ownsRow B e size (.slice (some ⟨g,0,none⟩) n c) n xs)(o:Nat)(vs:List Value)(hl:o+vs.length≤xs.length):
  (w.setCells g o vs).ownsRow B e size (.slice (some ⟨g,0,none⟩) n c) n (xs.take o ++ vs ++ xs.drop (o+vs.length)):=by
 obtain⟨hx,h⟩:=h;refine⟨by simp only[List.length_append,List.length_take,List.length_drop];omega,.inr ?_⟩;rcases h with ⟨h,_⟩|⟨g',cap,cur,hv,h1,h2,h3,h4,h5,h6⟩
 ·cases h
 ·obtain⟨rfl,rfl⟩:g=g'∧c=cap:=by
   cases hv
   exact⟨rfl,rfl⟩
  have hn:n*size≤c*size:=Nat.mul_le_mul_right _ h3;refine⟨g,c,_,rfl,h1,setCells_row g e vs o cur w h2 (by omega),h3,h4,?_,?_⟩
  ·simp only[List.size_toArray,List.length_append,List.length_take,List.length_drop,Array.length_toList];omega
  ·have hc:cur.toList=xs ++ cur.toList.drop (n*size):=by rw[← h6,List.take_append_drop]
   obtain⟨rest,hr⟩:=aj (cur.toList.drop (n*size))
   rw[hr] at hc;rw[hc];show List.take (n*size) (_:List Value)=_
   rw[List.take_append_of_le_length (l₁:=xs) (by omega),List.drop_append_of_le_length (l₁:=xs) (by omega),← List.append_assoc,List.take_append_of_le_length (by simp only[List.length_append,List.length_take,List.length_drop];omega),List.take_of_length_le (by simp only[List.length_append,List.length_take,List.length_drop];omega)]
theorem own_there {w:World}{B size n g c:Nat}{e:TypeId}{xs:List Value}(h:w.ownsRow B e size (.slice (some ⟨g,0,none⟩) n c) n xs){o m:Nat}(hl:o+m≤xs.length):w.there g o m:=by
 rcases h.2 with ⟨h,_⟩|⟨g',cap,cur,hv,h1,h2,h3,h4,h5,h6⟩
 ·cases h
 ·obtain⟨rfl,rfl⟩:g=g'∧c=cap:=by
   cases hv
   exact⟨rfl,rfl⟩
  have hn:n*size≤c*size:=Nat.mul_le_mul_right _ h3;have hx:=h.1;intro j hj;have hlt:o+j<cur.size:=by omega
  exact⟨by simp[World.cell?,h2,hlt],by simp[World.frozen?,h2]⟩
theorem own_keep {w w':World}{B:Nat}{e:TypeId}{size n:Nat}{v:Value}{xs:List Value}{row:Option Nat}(h:w.ownsRow B e size v n xs)(hg:w.grownBy w' row)(hne:∀g,v.ownBlock=some g→row≠some g):w'.ownsRow B e size v n xs:=by
 refine h.kept hg ?_;cases hq:v.ownBlock with
 |none=>exact .inl rfl
 |some g=>exact .inr fun q=>hne g hq q.symm
theorem own_ne {w:World}{B1 B2 s1 s2 n1 n2:Nat}{e1 e2:TypeId}{v1 v2:Value}{x1 x2:List Value}(h1:w.ownsRow B1 e1 s1 v1 n1 x1)(h2:w.ownsRow B2 e2 s2 v2 n2 x2)(he:e1≠e2):∀g,v1.ownBlock=some g→v2.ownBlock≠some g:=fun g k1 k2=>by
 rcases h1.2 with ⟨rfl,_⟩|⟨a,_,_,rfl,_,ha,_⟩
 ·cases k1
 ·rcases h2.2 with ⟨rfl,_⟩|⟨b,_,_,rfl,_,hb,_⟩
  ·cases k2
  ·cases k1
   cases k2
   rw[ha] at hb;cases hb
   exact he rfl
namespace Cm
def rc (l:List Rc.R):List Value:=l.flatMap fun r=>r.arr.toList
def wc (l:List Int):List Value:=l.map fun x=>.int .u8 x
theorem rc_len : ∀l:List Rc.R,(rc l).length=l.length*19
 |[]=>rfl
 |r :: l=>by
  show (r.arr.toList ++ rc l).length=_
  rw[List.length_append,rc_len];show 19+_=(l.length+1)*19
  omega
theorem rc_app (a b:List Rc.R):rc (a ++ b)=rc a ++ rc b:=by unfold rc;rw[List.flatMap_append]
theorem rc_one (r:Rc.R):rc [r]=r.arr.toList:=by unfold rc;simp
theorem wc_app (a b:List Int):wc (a ++ b)=wc a ++ wc b:=by unfold wc;rw[List.map_append]
theorem rc_get {l:List Rc.R}{i:Nat}{r:Rc.R}(h:l[i]?=some r)(j:Nat)(v:Value)(hv:r.arr.toList[j]?=some v):(rc l)[i*19+j]?=some v:=by
 have hi:=(List.getElem?_eq_some_iff.1 h).1;have hs:l=l.take i ++ (r :: l.drop (i+1)):=by
  rw[← (List.getElem?_eq_some_iff.1 h).2,← List.drop_eq_getElem_cons hi,List.take_append_drop]
 have hl:(rc (l.take i)).length=i*19:=by rw[rc_len,List.length_take,Nat.min_eq_left (by omega)]
 rw[hs,rc_app,List.getElem?_append_right (by omega),hl,Nat.add_sub_cancel_left];show (r.arr.toList ++ rc (l.drop (i+1)))[j]?=some v
 rw[List.getElem?_append_left (List.getElem?_eq_some_iff.1 hv).1];exact hv
def put (r:Rc.R)(k:Nat)(l:List Rc.R):List Rc.R:=(l.take k).map (fun _=>r) ++ l.drop k
theorem put_len (r:Rc.R)(k:Nat)(l:List Rc.R):(put r k l).length=l.length:=by unfold put;simp;omega
theorem put_all (r:Rc.R)(l:List Rc.R):put r l.length l=l.map fun _=>r:=by unfold put;simp
theorem put_zero (r:Rc.R)(l:List Rc.R):put r 0 l=l:=by unfold put;simp
theorem put_next (r:Rc.R){k:Nat}{l:List Rc.R}(h:k<l.length):(rc (put r k l)).take (k*19) ++ r.arr.toList ++ (rc (put r k l)).drop (k*19+r.arr.toList.length)=rc (put r (k+1) l):=by
 have h1:(rc ((l.take k).map fun _=>r)).length=k*19:=by rw[rc_len,List.length_map,List.length_take,Nat.min_eq_left (by omega)]
 have h2:l.drop k=l[k] :: l.drop (k+1):=List.drop_eq_getElem_cons h;have h3:put r (k+1) l=(l.take k).map (fun _=>r) ++ (r :: l.drop (k+1)):=by
  unfold put;rw[List.take_add_one,List.getElem?_eq_getElem h,List.map_append,List.append_assoc];rfl
 have h4:rc (put r k l)=rc ((l.take k).map fun _=>r) ++ (l[k].arr.toList ++ rc (l.drop (k+1))):=by
  unfold put;rw[rc_app,h2];rfl
 rw[h4,h3,rc_app,List.take_append_of_le_length (by omega),List.take_of_length_le (by omega),List.drop_append,List.drop_of_length_le (by omega),h1];show rc ((l.take k).map fun _=>r) ++ r.arr.toList ++ ([] ++ (l[k].arr.toList ++ rc (l.drop (k+1))).drop (k*19+19 - k*19))=_
 rw[show k*19+19 - k*19=19 by omega,List.nil_append,List.append_assoc];rfl
structure Pl (B g:Nat)(lo:Int)(p:P)(v1 v2:Value)(w:World):Prop where
 at_:At w g [.int .i64 lo,v1,v2,.bool p.found]
 r:w.ownsRow B 49 19 v1 p.recs.length (rc p.recs)
 q:w.ownsRow B 56 1 v2 p.why.length (wc p.why)
 lt:g<B
section
variable {B g:Nat} {lo:Int} {p:P} {v1 v2:Value} {w w':World}
theorem Pl.call (h:Pl B g lo p v1 v2 w)(hb:Below w.heap.size w w'):Pl B g lo p v1 v2 w':=⟨h.at_.call hb,own_below h.r hb,own_below h.q hb,h.lt⟩
theorem Pl.lay (h:Pl B g lo p v1 v2 w){o:Obj}(he:w.alloc o=w'):Pl B g lo p v1 v2 w':=he ▸ h.call ((Below.refl _ _).alloc (Nat.le_refl _) o)
theorem Pl.moved (h:Pl B g lo p v1 v2 w){k:Nat}(hM:Moved k w w')(hn:v1.ownBlock≠some k∧v2.ownBlock≠some k∧g≠k):Pl B g lo p v1 v2 w':=⟨hM.at hn.2.2 h.at_,hM.own hn.1 h.r,hM.own hn.2.1 h.q,h.lt⟩
theorem Pl.laid (h:Pl B g lo p v1 v2 w){o:Obj}(hM:Moved w.heap.size (w.alloc o) w'):Pl B g lo p v1 v2 w':=(h.lay rfl).moved hM ⟨fun q=>by have:=(h.r.lt _ q).2;omega,fun q=>by have:=(h.q.lt _ q).2;omega,Nat.ne_of_lt h.at_.lt⟩
theorem Pl.own1 (h:Pl B g lo p v1 v2 w):∀k,v1.ownBlock=some k→B≤k∧k<w.heap.size:=fun k e=>h.r.lt k e
theorem Pl.own2 (h:Pl B g lo p v1 v2 w):∀k,v2.ownBlock=some k→B≤k∧k<w.heap.size:=fun k e=>h.q.lt k e
end
theorem rec_info : (Tryz.prog.info? 49).map (fun i=>(i.zero,i.size,i.bytes))=some (some Rc.R.zero.v,19,44):=by kernel_rfl
theorem why_info : (Tryz.prog.info? 56).map (fun i=>(i.zero,i.size,i.bytes))=some (some (.int .u8 0),1,1):=by kernel_rfl
end Cm
end Go.Proofs.YtjobhjemnmleaaaGreatDoor
