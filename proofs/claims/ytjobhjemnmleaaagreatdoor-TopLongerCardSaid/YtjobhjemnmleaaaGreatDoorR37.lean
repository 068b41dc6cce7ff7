/- fit.why: why there is no record of spans. -/
import Derived.Test.YtjobhjemnmleaaaGreatDoorR31
import Derived.Test.YtjobhjemnmleaaaGreatDoorR36
set_option maxRecDepth 200000
set_option maxHeartbeats 32000000
namespace Go.Proofs.YtjobhjemnmleaaaGreatDoor
open Go.RowKit Go.Sort
namespace Rc
theorem any_step {α:Type}{l:List α}{f:α→Bool}{k:Nat}{p:α}(h:(l.take k).any f=false)(hp:l[k]?=some p)(hf:f p=false):(l.take (k+1)).any f=false:=by
 rw[List.take_add_one,hp,List.any_append,h];simp[hf]
theorem any_hit {α:Type}{l:List α}{f:α→Bool}{k:Nat}{p:α}(hp:l[k]?=some p)(hf:f p=true):l.any f=true:=List.any_eq_true.2 ⟨p,List.mem_of_getElem? hp,hf⟩
theorem any_all {α:Type}{l:List α}{f:α→Bool}{n:Nat}(hn:l.length=n)(h:(l.take n).any f=false):l.any f=false:=by
 rwa[List.take_of_length_le (by omega)] at h
theorem range_step {f:Nat→Bool}{k:Nat}(h:(List.range k).any f=false)(hf:f k=false):(List.range (k+1)).any f=false:=by
 rw[List.range_succ,List.any_append,h];simp[hf]
theorem range_hit {f:Nat→Bool}{k n:Nat}(hk:k<n)(hf:f k=true):(List.range n).any f=true:=List.any_eq_true.2 ⟨k,List.mem_range.2 hk,hf⟩
section
variable {l:List Ln.Sp} {fr te:Int}
theorem why_1 (h:l.any (fun p:Ln.Sp=>decide (p.off % 60≠0))=true):why l fr te=1:=by
 unfold why;rw[if_pos h]
theorem why_2 (h1:l.any (fun p:Ln.Sp=>decide (p.off % 60≠0))=false)(h:l.any (fun p:Ln.Sp=>decide (p.off < -86400) || decide (86400<p.off))=true):why l fr te=2:=by
 unfold why;rw[if_neg (by rw[h1];decide),if_pos h]
theorem why_3 (h1:l.any (fun p:Ln.Sp=>decide (p.off % 60≠0))=false)(h2:l.any (fun p:Ln.Sp=>decide (p.off < -86400) || decide (86400<p.off))=false)(h:3<l.length):why l fr te=3:=by
 unfold why;rw[if_neg (by rw[h1];decide),if_neg (by rw[h2];decide),if_pos h]
theorem why_4 (h1:l.any (fun p:Ln.Sp=>decide (p.off % 60≠0))=false)(h2:l.any (fun p:Ln.Sp=>decide (p.off < -86400) || decide (86400<p.off))=false)(h3:¬3<l.length)(h:shift l=true):why l fr te=4:=by
 unfold why;rw[if_neg (by rw[h1];decide),if_neg (by rw[h2];decide),if_neg h3,if_pos h]
theorem why_5 (h1:l.any (fun p:Ln.Sp=>decide (p.off % 60≠0))=false)(h2:l.any (fun p:Ln.Sp=>decide (p.off < -86400) || decide (86400<p.off))=false)(h3:¬3<l.length)(h4:shift l=false)(h:date l fr te=true):why l fr te=5:=by
 unfold why;rw[if_neg (by rw[h1];decide),if_neg (by rw[h2];decide),if_neg h3,if_neg (by rw[h4];decide),if_pos h]
theorem why_0 (h1:l.any (fun p:Ln.Sp=>decide (p.off % 60≠0))=false)(h2:l.any (fun p:Ln.Sp=>decide (p.off < -86400) || decide (86400<p.off))=false)(h3:¬3<l.length)(h4:shift l=false)(h:date l fr te=false):why l fr te=0:=by
 unfold why;rw[if_neg (by rw[h1];decide),if_neg (by rw[h2];decide),if_neg h3,if_neg (by rw[h4];decide),if_neg (by rw[h];decide)]
end
theorem mod_zero {x:Int}(h:x % 60=0):x.tmod 60=0:=by
 obtain⟨q,hq⟩:∃q,x=60*q:=⟨x / 60,by omega⟩
 rw[hq];exact Int.mul_tmod_right 60 q
theorem mod_some {x:Int}(h:¬x % 60=0):¬x.tmod 60=0:=fun e=>h (by
 have:=Int.dvd_of_tmod_eq_zero e;omega)
end Rc
theorem ftWhy_any (l:List Ln.Sp)(fr te:Int)(A:Option Addr)(n c:Nat)(w:World)(hn:l.length=n)(hn0:0<n)(hn2:n≤1000000000)(hnc:n≤c)
  (hbd:∀p∈l,(-1000000000000≤p.fr∧p.fr≤1000000000000)∧(-1000000000≤p.off∧p.off≤1000000000)) (hR:Reads w w.heap.size 3 A n (l.flatMap Ln.Sp.cells)):
  Calls Tryz.prog 141 #[.slice A n c,.int .i64 fr,.int .i64 te] w fun e w'=>e=.returned (.int .u8 (Rc.why l fr te))∧Below w.heap.size w w':=by
 obtain⟨ad,x0,rfl,_,_,_⟩:=Ix.reads_cells (enc:=Ln.Sp.cells) (m:=3) (fun _=>rfl) hn hR hn0;obtain⟨X,hX⟩:=aj (Rc.why l fr te)
 rw[hX];have HX:=ak hX;have HN:=ak hn;have HR:=ak hR;have HBd:=ak hbd;have HC:Hid (n≤c):=hnc;clear hX hn hR hbd hnc;go_enter Tryz.func141,Tryz.ntmps141
 go_wp2_with fail
 go_loopw [19] (fun i wr=>∃k:Nat,k≤n∧i=.int .i64 (k:Int)∧Hid (Below w.heap.size w wr)∧Hid ((l.take k).any (fun p:Ln.Sp=>decide (p.off % 60≠0))=false)) (fun i _=>n - (intOf i).toNat)
 case atStart=>exact⟨0,Nat.zero_le _,rfl,by first|exact Below.refl _ _|exact below_drewN (Below.refl _ _) _|exact(Below.refl _ _).drew,rfl⟩
 case round=>
  obtain⟨k,hk,rfl,HB,HE1⟩:=hrel
  by_cases hlt:k<n
  ·have q1:=am k
   have q2:(k:Int)<(n:Int):=(by omega);have wk:IntKind.i64.wrap ((k:Int)+1)=(k:Int)+1:=by rw[IntKind.wrap_i64];omega
   obtain⟨_,x,e1,habx,Hx,HLx⟩:=Ix.reads_cells (enc:=Ln.Sp.cells) (m:=3) (fun _=>rfl) HN.out (HR.out.below HB.out) hlt;obtain rfl:=Option.some.inj e1;have c0:wr.cell? (ad.add (k*3))=some (.int .i64 x.fr):=HLx.out 0 _ rfl;have c1:wr.cell? ⟨(ad.add (k*3)).block,(ad.add (k*3)).off+1,none⟩=some (.int .i64 x.off):=HLx.out 1 _ rfl;have c2:wr.cell? ⟨(ad.add (k*3)).block,(ad.add (k*3)).off+2,none⟩=some (.bool x.dst):=HLx.out 2 _ rfl;have hob:=(HBd.out x (List.mem_of_getElem? Hx.out)).2;clear HLx;have HS:Hid (St w wr []):=⟨HB.out,trivial⟩
   clear HB;have hLy:=HS.out.lay #[.int .i64 x.fr,.int .i64 x.off,.bool x.dst] 164;clear HS;obtain⟨Va1,gP,HEVa1,HGgP,HS⟩:=hLy;go_upto_region 4 with fail
   rw[HEVa1.out]
   try rw[HGgP.out]
   have P0:=(HS.out.get 0 rfl).cell 0 _ rfl;have P1:=(HS.out.get 0 rfl).cell 1 _ rfl;have P2:=(HS.out.get 0 rfl).cell 2 _ rfl;have zP:=(HS.out.get 0 rfl).lt;have HB:=ak HS.out.b
   by_cases h60:x.off % 60=0
   ·have hf:(fun p:Ln.Sp=>decide (p.off % 60≠0)) x=false:=by simpa using h60
    have HF:=ak (Rc.any_step HE1.out Hx.out hf);have h6:=Rc.mod_zero h60;clear hf h60 HE1 hob;go_wp2_with fail
    go_roundw
    case rel=>exact⟨k+1,by omega,by go_num,(by first|exact HB.out|exact below_drewN HB.out _|exact HB.out.drew),HF.out⟩
    case measure=>simp[intOf];omega
   ·have hf:(fun p:Ln.Sp=>decide (p.off % 60≠0)) x=true:=by simpa using h60
    have h6:=Rc.mod_some h60;have h61:-60<x.off.tmod 60∧x.off.tmod 60<60:=⟨by have:=Int.lt_tmod_of_pos x.off (b:=60) (by decide);omega,Int.tmod_lt_of_pos x.off (by decide)⟩
    obtain⟨r,hr⟩:=aj (x.off.tmod 60)
    rw[hr] at h6 h61;have r1:IntKind.i64.wrap r=r:=by rw[IntKind.wrap_i64];omega
    have r2:(r == 0)=false:=by rw[beq_eq_false_iff_ne];exact h6
    have r3:(r != 0)=true:=by rw[bne_iff_ne];exact h6
    have HE:Hid (X=1):=by
     show X=1
     rw[← HX.out];exact Rc.why_1 (Rc.any_hit Hx.out hf)
    clear hf;clear h60 HE1 hob h6 h61;go_wp2_with fail
    try go_quiet (fail)
    try go_wp2
    go_ret
    exact⟨by rw[HE.out];rfl,by first|exact HB.out|exact below_drewN HB.out _|exact HB.out.drew⟩
  ·have hkn:k=n:=(by omega);subst hkn;have q2:¬(k:Int)<(k:Int):=(by omega);have HF1:=ak (Rc.any_all HN.out HE1.out);have HB1:=HB;clear HB HE1 hlt;go_wp2_with fail
   go_loopw [30] (fun i wr=>∃j:Nat,j≤k∧i=.int .i64 (j:Int)∧Hid (Below w.heap.size w wr)∧Hid ((l.take j).any (fun p:Ln.Sp=>decide (p.off < -86400) || decide (86400<p.off))=false)) (fun i _=>k - (intOf i).toNat)
   case atStart=>exact⟨0,Nat.zero_le _,rfl,by first|exact HB1.out|exact below_drewN HB1.out _|exact HB1.out.drew,rfl⟩
   case round=>
    obtain⟨j,hj,rfl,HB,HE1⟩:=hrel
    by_cases hlt:j<k
    ·have q1:=am j
     have q3:(j:Int)<(k:Int):=(by omega);have wk:IntKind.i64.wrap ((j:Int)+1)=(j:Int)+1:=by rw[IntKind.wrap_i64];omega
     obtain⟨_,x,e1,habx,Hx,HLx⟩:=Ix.reads_cells (enc:=Ln.Sp.cells) (m:=3) (fun _=>rfl) HN.out (HR.out.below HB.out) hlt;obtain rfl:=Option.some.inj e1;have c0:wr.cell? (ad.add (j*3))=some (.int .i64 x.fr):=HLx.out 0 _ rfl;have c1:wr.cell? ⟨(ad.add (j*3)).block,(ad.add (j*3)).off+1,none⟩=some (.int .i64 x.off):=HLx.out 1 _ rfl;have c2:wr.cell? ⟨(ad.add (j*3)).block,(ad.add (j*3)).off+2,none⟩=some (.bool x.dst):=HLx.out 2 _ rfl;clear HLx;have HS:Hid (St w wr []):=⟨HB.out,trivial⟩
     clear HB;have hLy:=HS.out.lay #[.int .i64 x.fr,.int .i64 x.off,.bool x.dst] 164;clear HS;obtain⟨Vb1,gP,HEVb1,HGgP,HS⟩:=hLy;go_upto_region 10 with fail
     rw[HEVb1.out]
     try rw[HGgP.out]
     have P0:=(HS.out.get 0 rfl).cell 0 _ rfl;have P1:=(HS.out.get 0 rfl).cell 1 _ rfl;have P2:=(HS.out.get 0 rfl).cell 2 _ rfl;have zP:=(HS.out.get 0 rfl).lt;have HB:=ak HS.out.b;have hc3:(x.off < -86400∧(fun p:Ln.Sp=>decide (p.off < -86400) || decide (86400<p.off)) x=true)∨((¬x.off < -86400∧86400<x.off)∧(fun p:Ln.Sp=>decide (p.off < -86400) || decide (86400<p.off)) x=true)∨((¬x.off < -86400∧¬86400<x.off)∧(fun p:Ln.Sp=>decide (p.off < -86400) || decide (86400<p.off)) x=false):=by
      by_cases h1:x.off < -86400
      ·exact .inl ⟨h1,by simp[h1]⟩
      ·by_cases h2:86400<x.off
       ·exact .inr (.inl ⟨⟨h1,h2⟩,by simp[h2]⟩)
       ·exact .inr (.inr ⟨⟨h1,h2⟩,by simp[h1,h2]⟩)
     rcases hc3 with ⟨h1,hf⟩|⟨⟨h1,h2⟩,hf⟩|⟨⟨h1,h2⟩,hf⟩
     ·have d1:=decide_eq_true h1;have HE:Hid (X=2):=by
       show X=2
       rw[← HX.out];exact Rc.why_2 HF1.out (Rc.any_hit Hx.out hf)
      clear hf;clear HE1;go_wp2_with fail
      try go_quiet (fail)
      try go_wp2
      go_ret
      exact⟨by rw[HE.out];rfl,by first|exact HB.out|exact below_drewN HB.out _|exact HB.out.drew⟩
     ·have d1:=decide_eq_false h1;have d2:=decide_eq_true h2;have HE:Hid (X=2):=by
       show X=2
       rw[← HX.out];exact Rc.why_2 HF1.out (Rc.any_hit Hx.out hf)
      clear hf;clear HE1;go_wp2_with fail
      try go_quiet (fail)
      try go_wp2
      go_ret
      exact⟨by rw[HE.out];rfl,by first|exact HB.out|exact below_drewN HB.out _|exact HB.out.drew⟩
     ·have d1:=decide_eq_false h1;have d2:=decide_eq_false h2;have HF:=ak (Rc.any_step HE1.out Hx.out hf);clear hf HE1;go_wp2_with fail
      try go_quiet (fail)
      try go_wp2_with fail
      go_roundw
      case rel=>exact⟨j+1,by omega,by go_num,(by first|exact HB.out|exact below_drewN HB.out _|exact HB.out.drew),HF.out⟩
      case measure=>simp[intOf];omega
    ·have hkn:j=k:=(by omega);subst hkn;have HF2:=ak (Rc.any_all HN.out HE1.out);clear HE1 hlt HB1
     by_cases h3:3<j
     ·have hq3:(3:Int)<(j:Int):=(by omega);have HE:Hid (X=3):=by
       show X=3
       rw[← HX.out];exact Rc.why_3 HF1.out HF2.out (by rw[HN.out];exact h3)
      go_wp2_with fail
      try go_quiet (fail)
      try go_wp2
      go_ret
      exact⟨by rw[HE.out];rfl,by first|exact HB.out|exact below_drewN HB.out _|exact HB.out.drew⟩
     ·have hq3:¬(3:Int)<(j:Int):=(by omega);have H3:Hid (¬3<l.length):=by
       show ¬3<l.length
       rw[HN.out];exact h3
      have HB2:=HB;clear HB h3;go_wp2_with fail
      go_loopw [48] (fun i wr=>∃k:Nat,k≤j∧i=.int .i64 (k:Int)∧Hid (Below w.heap.size w wr)∧Hid ((List.range k).any (fun i=>Rc.shiftAt l i)=false)) (fun i _=>j - (intOf i).toNat)
      case atStart=>exact⟨0,Nat.zero_le _,rfl,by first|exact HB2.out|exact below_drewN HB2.out _|exact HB2.out.drew,rfl⟩
      case round=>
       obtain⟨k,hk,rfl,HB,HE1⟩:=hrel
       by_cases hlt:k<j
       ·have q1:=am k
        have q3:(k:Int)<(j:Int):=(by omega);have wk:IntKind.i64.wrap ((k:Int)+1)=(k:Int)+1:=by rw[IntKind.wrap_i64];omega
        have qc:(k:Int)≤(c:Int):=by have:=HC.out;omega
        obtain⟨_,x,e1,habx,Hx,HLx⟩:=Ix.reads_cells (enc:=Ln.Sp.cells) (m:=3) (fun _=>rfl) HN.out (HR.out.below HB.out) hlt;obtain rfl:=Option.some.inj e1;have c0:wr.cell? (ad.add (k*3))=some (.int .i64 x.fr):=HLx.out 0 _ rfl;have c1:wr.cell? ⟨(ad.add (k*3)).block,(ad.add (k*3)).off+1,none⟩=some (.int .i64 x.off):=HLx.out 1 _ rfl;have c2:wr.cell? ⟨(ad.add (k*3)).block,(ad.add (k*3)).off+2,none⟩=some (.bool x.dst):=HLx.out 2 _ rfl;clear HLx;have hga:Rc.shiftAt l k=(l.take k).any (fun q:Ln.Sp=>decide (x.dst=q.dst) && decide (x.off≠q.off)):=by
         unfold Rc.shiftAt;rw[Rc.getD_some Hx.out]
        have HGA:=ak hga;clear hga;have HS:Hid (St w wr []):=⟨HB.out,trivial⟩
        clear HB;have hLy:=HS.out.lay #[.int .i64 x.fr,.int .i64 x.off,.bool x.dst] 164;clear HS;obtain⟨Vc1,gP,HEVc1,HGgP,HS⟩:=hLy;go_upto_region 18 with fail
        rw[HEVc1.out]
        try rw[HGgP.out]
        have P0:=(HS.out.get 0 rfl).cell 0 _ rfl;have P1:=(HS.out.get 0 rfl).cell 1 _ rfl;have P2:=(HS.out.get 0 rfl).cell 2 _ rfl;have zP:=(HS.out.get 0 rfl).lt;have HB:=ak HS.out.b;clear P0 P1 P2 zP;go_wp2_with fail
        clear HB c0 c1 c2 habx;go_loopw [57] (fun i wr=>∃m:Nat,m≤k∧i=.int .i64 (m:Int)∧Hid (St w wr [(gP,[.int .i64 x.fr,.int .i64 x.off,.bool x.dst])])∧Hid ((l.take m).any (fun q:Ln.Sp=>decide (x.dst=q.dst) && decide (x.off≠q.off))=false)) (fun i _=>k - (intOf i).toNat)
        case atStart=>exact⟨0,Nat.zero_le _,rfl,by first|exact HS.out|exact HS.out.drewN _|exact HS.out.drew,rfl⟩
        case round=>
         obtain⟨m,hm,rfl,HS,HE2⟩:=hrel;have HB:=ak HS.out.b
         by_cases hlt2:m<k
         ·have q4:=am m
          have q5:(m:Int)<(k:Int):=(by omega);have wm:IntKind.i64.wrap ((m:Int)+1)=(m:Int)+1:=by rw[IntKind.wrap_i64];omega
          obtain⟨_,y,e1,haby,Hy,HLy⟩:=Ix.reads_cells (enc:=Ln.Sp.cells) (m:=3) (fun _=>rfl) HN.out (HR.out.below HB.out) (show m<j by omega);obtain rfl:=Option.some.inj e1;have d0:wr.cell? (ad.add (m*3))=some (.int .i64 y.fr):=HLy.out 0 _ rfl;have d1:wr.cell? ⟨(ad.add (m*3)).block,(ad.add (m*3)).off+1,none⟩=some (.int .i64 y.off):=HLy.out 1 _ rfl;have d2:wr.cell? ⟨(ad.add (m*3)).block,(ad.add (m*3)).off+2,none⟩=some (.bool y.dst):=HLy.out 2 _ rfl;clear HLy;have hLy:=HS.out.lay #[.int .i64 y.fr,.int .i64 y.off,.bool y.dst] 164;clear HS;obtain⟨Vd1,gQ,HEVd1,HGgQ,HS⟩:=hLy;go_upto_region 21 with fail
          rw[HEVd1.out]
          try rw[HGgQ.out]
          have P0:=(HS.out.get 1 rfl).cell 0 _ rfl;have P1:=(HS.out.get 1 rfl).cell 1 _ rfl;have P2:=(HS.out.get 1 rfl).cell 2 _ rfl;have zP:=(HS.out.get 1 rfl).lt;have Q0:=(HS.out.get 0 rfl).cell 0 _ rfl;have Q1:=(HS.out.get 0 rfl).cell 1 _ rfl;have Q2:=(HS.out.get 0 rfl).cell 2 _ rfl;have zQ:=(HS.out.get 0 rfl).lt;replace HB:=ak HS.out.b;have hc3:((x.dst == y.dst)=false∧(fun q:Ln.Sp=>decide (x.dst=q.dst) && decide (x.off≠q.off)) y=false)∨(((x.dst == y.dst)=true∧x.off=y.off)∧(fun q:Ln.Sp=>decide (x.dst=q.dst) && decide (x.off≠q.off)) y=false)∨(((x.dst == y.dst)=true∧¬x.off=y.off)∧(fun q:Ln.Sp=>decide (x.dst=q.dst) && decide (x.off≠q.off)) y=true):=by
           cases hxd:(x.dst == y.dst) with
           |false=>
            refine .inl ⟨rfl,?_⟩;rw[beq_eq_false_iff_ne] at hxd;simp[hxd]
           |true=>
            rw[beq_iff_eq] at hxd
            by_cases hxo:x.off=y.off
            ·exact .inr (.inl ⟨⟨rfl,hxo⟩,by simp[hxo]⟩)
            ·exact .inr (.inr ⟨⟨rfl,hxo⟩,by simp[hxd,hxo]⟩)
          rcases hc3 with ⟨h1,hf⟩|⟨⟨h1,h2⟩,hf⟩|⟨⟨h1,h2⟩,hf⟩
          ·have HF:=ak (Rc.any_step HE2.out Hy.out hf);clear hf HE2;go_wp2_with fail
           try go_quiet (fail)
           try go_wp2_with fail
           go_roundw
           case rel=>exact⟨m+1,by omega,by go_num,(by first|exact⟨HS.out.b,HS.out.z.2.2.2⟩|exact⟨(HS.out.drewN _).b,(HS.out.drewN _).z.2.2.2⟩|exact⟨HS.out.drew.b,HS.out.drew.z.2.2.2⟩),HF.out⟩
           case measure=>simp[intOf];omega
          ·have b1:(x.off == y.off)=true:=by rw[beq_iff_eq];exact h2
           have b2:(x.off != y.off)=false:=by rw[bne_eq_false_iff_eq];exact h2
           clear h2;have HF:=ak (Rc.any_step HE2.out Hy.out hf);clear hf HE2;go_wp2_with fail
           try go_quiet (fail)
           try go_wp2_with fail
           go_roundw
           case rel=>exact⟨m+1,by omega,by go_num,(by first|exact⟨HS.out.b,HS.out.z.2.2.2⟩|exact⟨(HS.out.drewN _).b,(HS.out.drewN _).z.2.2.2⟩|exact⟨HS.out.drew.b,HS.out.drew.z.2.2.2⟩),HF.out⟩
           case measure=>simp[intOf];omega
          ·have b1:(x.off == y.off)=false:=by rw[beq_eq_false_iff_ne];exact h2
           have b2:(x.off != y.off)=true:=by rw[bne_iff_ne];exact h2
           have HE:Hid (X=4):=by
            show X=4
            rw[← HX.out];refine Rc.why_4 HF1.out HF2.out H3.out (Rc.range_hit (k:=k) (by rw[HN.out];exact hlt) ?_);rw[HGA.out];exact Rc.any_hit (k:=m) (by rw[List.getElem?_take_of_lt hlt2];exact Hy.out) hf
           clear h2 hf HE2;go_wp2_with fail
           try go_quiet (fail)
           try go_wp2
           go_ret
           exact⟨by rw[HE.out];rfl,by first|exact HB.out|exact below_drewN HB.out _|exact HB.out.drew⟩
         ·have hmk:m=k:=(by omega);subst hmk;have HF:Hid ((List.range (m+1)).any (fun i=>Rc.shiftAt l i)=false):=Rc.range_step HE1.out (by rw[HGA.out];exact HE2.out);have q6:¬(m:Int)<(m:Int):=(by omega);clear HE1 HE2 hlt2;go_wp2_with fail
          go_roundw
          case rel=>exact⟨m+1,by omega,by go_num,(by first|exact HB.out|exact below_drewN HB.out _|exact HB.out.drew),HF.out⟩
          case measure=>simp[intOf];omega
       ·have hkj:k=j:=(by omega);subst hkj;have HF4:Hid (Rc.shift l=false):=by
         show Rc.shift l=false
         unfold Rc.shift;rw[HN.out];exact HE1.out
        have HB4:=HB;clear HE1 hlt HB HB2;go_wp2_with fail
        go_loopw [15] (fun i wr=>∃j:Nat,j+1≤k∧i=.int .i64 ((j:Int)+1)∧Hid (Below w.heap.size w wr)∧Hid ((List.range j).any (fun i=>Rc.dateAt l fr te i)=false)) (fun i _=>k - (intOf i).toNat)
        case atStart=>exact⟨0,by omega,rfl,by first|exact HB4.out|exact below_drewN HB4.out _|exact HB4.out.drew,rfl⟩
        case round=>
         obtain⟨j,hj,rfl,HB,HE1⟩:=hrel
         by_cases hlt:j+1<k
         ·have q1:=am j
          have q4:(0:Int)≤(j:Int)+1:=(by omega);have q3:(j:Int)+1<(k:Int):=(by omega);have q5:(j:Int)<(k:Int):=(by omega);have wk:IntKind.i64.wrap ((j:Int)+1+1)=(j:Int)+1+1:=by rw[IntKind.wrap_i64];omega
          have wm:IntKind.i64.wrap ((j:Int)+1 - 1)=(j:Int):=by rw[IntKind.wrap_i64];omega
          have wj:IntKind.i64.wrap (j:Int)=(j:Int):=by rw[IntKind.wrap_i64];omega
          have tn:((j:Int)+1).toNat=j+1:=(by omega);obtain⟨_,x,e1,habx,Hx,HLx⟩:=Ix.reads_cells (enc:=Ln.Sp.cells) (m:=3) (fun _=>rfl) HN.out (HR.out.below HB.out) (show j<k by omega);obtain rfl:=Option.some.inj e1;have c0:wr.cell? (ad.add (j*3))=some (.int .i64 x.fr):=HLx.out 0 _ rfl;have c1:wr.cell? ⟨(ad.add (j*3)).block,(ad.add (j*3)).off+1,none⟩=some (.int .i64 x.off):=HLx.out 1 _ rfl;have c2:wr.cell? ⟨(ad.add (j*3)).block,(ad.add (j*3)).off+2,none⟩=some (.bool x.dst):=HLx.out 2 _ rfl;obtain⟨_,z,e1,habz,Hz,HLz⟩:=Ix.reads_cells (enc:=Ln.Sp.cells) (m:=3) (fun _=>rfl) HN.out (HR.out.below HB.out) hlt;obtain rfl:=Option.some.inj e1;have d0:wr.cell? (ad.add ((j+1)*3))=some (.int .i64 z.fr):=HLz.out 0 _ rfl;have d1:wr.cell? ⟨(ad.add ((j+1)*3)).block,(ad.add ((j+1)*3)).off+1,none⟩=some (.int .i64 z.off):=HLz.out 1 _ rfl;have d2:wr.cell? ⟨(ad.add ((j+1)*3)).block,(ad.add ((j+1)*3)).off+2,none⟩=some (.bool z.dst):=HLz.out 2 _ rfl;have b1:=(HBd.out x (List.mem_of_getElem? Hx.out)).2;have b2:=(HBd.out z (List.mem_of_getElem? Hz.out)).1;have wc:IntKind.i64.wrap (z.fr+x.off)=z.fr+x.off:=by rw[IntKind.wrap_i64];omega
          have hda:Rc.dateAt l fr te j=(decide (z.fr+x.off<fr) || decide (te<z.fr+x.off)):=by
           unfold Rc.dateAt;rw[Rc.getD_some Hx.out,Rc.getD_some Hz.out]
          obtain⟨cc,hcc⟩:=aj (z.fr+x.off)
          rw[hcc] at wc hda;have HDA:=ak hda;have zx:=block_lt_of_cell c1;have zz:=block_lt_of_cell d0;have g1:=cell_regrown c1;have g0:=cell_regrown d0;clear HLx HLz b1 b2 hda;go_upto_region 28 with fail
          refine wp_region_tail 12 (by kernel_rfl) (by kernel_rfl) ?_
          repeat (quiet_step (fail))
          refine wpQuiet_nil ?_;intro V9 hwz;obtain⟨⟨dq,osq⟩,hwz⟩:=hwz;have hb:Below wr.heap.size wr V9:=by rw[hwz];exact below_regrown _ _ _
          have HB9:=ak (below_then HB.out hb);clear hwz hb HB g1 g0 c0 c1 c2 d0 d1 d2 zx zz habx habz hcc;show wpList _ _ _ (_ :: _) _ _
          have hc3:(cc<fr∧Rc.dateAt l fr te j=true)∨((¬cc<fr∧te<cc)∧Rc.dateAt l fr te j=true)∨((¬cc<fr∧¬te<cc)∧Rc.dateAt l fr te j=false):=by
           rw[HDA.out]
           by_cases h1:cc<fr
           ·exact .inl ⟨h1,by simp[h1]⟩
           ·by_cases h2:te<cc
            ·exact .inr (.inl ⟨⟨h1,h2⟩,by simp[h2]⟩)
            ·exact .inr (.inr ⟨⟨h1,h2⟩,by simp[h1,h2]⟩)
          have HB:=HB9;clear HB9;rcases hc3 with ⟨h1,hf⟩|⟨⟨h1,h2⟩,hf⟩|⟨⟨h1,h2⟩,hf⟩
          ·have d1:=decide_eq_true h1;have HE:Hid (X=5):=by
            show X=5
            rw[← HX.out];refine Rc.why_5 HF1.out HF2.out H3.out HF4.out (Rc.range_hit (k:=j) (by rw[HN.out];omega) hf)
           clear hf HE1;go_wp2_with fail
           try go_quiet (fail)
           try go_wp2
           go_ret
           exact⟨by rw[HE.out];rfl,by first|exact HB.out|exact below_drewN HB.out _|exact HB.out.drew⟩
          ·have d1:=decide_eq_false h1;have d2:=decide_eq_true h2;have HE:Hid (X=5):=by
            show X=5
            rw[← HX.out];refine Rc.why_5 HF1.out HF2.out H3.out HF4.out (Rc.range_hit (k:=j) (by rw[HN.out];omega) hf)
           clear hf HE1;go_wp2_with fail
           try go_quiet (fail)
           try go_wp2
           go_ret
           exact⟨by rw[HE.out];rfl,by first|exact HB.out|exact below_drewN HB.out _|exact HB.out.drew⟩
          ·have d1:=decide_eq_false h1;have d2:=decide_eq_false h2;have HF:=ak (Rc.range_step HE1.out hf);clear hf HE1;go_wp2_with fail
           try go_quiet (fail)
           try go_wp2_with fail
           go_roundw
           case rel=>exact⟨j+1,by omega,by go_num,(by first|exact HB.out|exact below_drewN HB.out _|exact HB.out.drew),HF.out⟩
           case measure=>simp[intOf];omega
         ·have hjk:j+1=k:=(by omega);have q3:¬(j:Int)+1<(k:Int):=(by omega);have HE:Hid (X=0):=by
           show X=0
           rw[← HX.out];refine Rc.why_0 HF1.out HF2.out H3.out HF4.out ?_;unfold Rc.date;rw[HN.out,show k - 1=j by omega];exact HE1.out
          clear HE1 hjk;go_wp2_with fail
          try go_quiet (fail)
          try go_wp2
          go_ret
          exact⟨by rw[HE.out];rfl,by first|exact HB.out|exact below_drewN HB.out _|exact HB.out.drew⟩
end Go.Proofs.YtjobhjemnmleaaaGreatDoor
namespace Go.Proofs.YtjobhjemnmleaaaGreatDoor
open Go.RowKit
theorem quo60 {x:Int}(h60:x % 60=0):(-x).tdiv 60=-x / 60∧x.tdiv 60=x / 60:=by
 obtain⟨q,hq⟩:∃q,x=60*q:=⟨x / 60,by omega⟩
 subst hq;constructor
 ·rw[show -(60*q)=60*-q by omega,Int.mul_tdiv_cancel_left _ (by decide),Int.mul_ediv_cancel_left _ (by decide)]
 ·rw[Int.mul_tdiv_cancel_left _ (by decide),Int.mul_ediv_cancel_left _ (by decide)]
theorem rcPlain_ok (x:Int)(w:World)(h60:x % 60=0)(hn:Rc.near x=true):Calls Tryz.prog 172 #[.int .i64 x] w fun e w'=>e=.returned (.tuple #[(Rc.plain x).v,.int .i64 0])∧Below w.heap.size w w':=by
 have HW:=ak fun g c W c0=>rcWhole1 x g c W c0 h60
 have hI:=fun g c W c0=>rcInside1 x g c W c0
 simp only[hn] at hI;have HI:=ak hI;obtain⟨b1,b2⟩:=Rc.near_yes hn;have t2:=(quo60 h60).1;obtain⟨X,hX⟩:=aj ((Rc.plain x).v)
 rw[hX];unfold Rc.plain Rc.R.v Sm.S.zero at hX;simp only at hX;obtain⟨d,hd⟩:=aj (-x / 60)
 rw[hd] at t2 hX;have d1:-1440≤d∧d≤1440:=by omega
 have t1:IntKind.i64.wrap (-x)=-x:=by rw[IntKind.wrap_i64];omega
 have t3:IntKind.i64.wrap d=d:=by rw[IntKind.wrap_i64];omega
 have t4:IntKind.i32.wrap d=d:=by rw[IntKind.wrap_i32];omega
 have HX:=ak hX;clear hn h60 hd hI b1 b2 hX d1;obtain⟨V1,gR,HEV1,HGgR,HS⟩:=(St.start w).lay #[.int .i32 0,.int .i32 0,.int .i32 0,.int .u16 0,.int .u16 0,.int .u16 0,.int .u16 0,.int .u16 0,.int .u16 0,.int .u16 0,.int .u16 0,.int .u16 0,.int .u16 0,.int .u16 0,.int .u16 0,.int .u16 0,.int .u16 0,.int .u16 0,.int .u16 0] 49;go_enter Tryz.func172,Tryz.ntmps172
 go_upto_region 1 with fail
 rw[HEV1.out]
 try rw[HGgR.out]
 have hLy:=HS.out.lay #[.int .i64 x] 2;clear HS;obtain⟨V2,gS,HEV2,HGgS,HS⟩:=hLy;have S0:=(HS.out.get 0 rfl).cell 0 _ rfl;have zS:=(HS.out.get 0 rfl).lt;go_wp2_with fail
 rw[HEV2.out]
 try rw[HGgS.out]
 refine(HW.out _ _ _ S0).mono ?_;rintro e _ ⟨rfl,rfl⟩;clear S0 zS;have hLy:=HS.out.lay #[.int .i64 x] 2;clear HS;obtain⟨V3,gT,HEV3,HGgT,HS⟩:=hLy;have T0:=(HS.out.get 0 rfl).cell 0 _ rfl;have zT:=(HS.out.get 0 rfl).lt;go_wp2_with fail
 rw[HEV3.out]
 try rw[HGgT.out]
 refine(HI.out _ _ _ T0).mono ?_;rintro e _ ⟨rfl,rfl⟩;clear T0 zT;go_wp2_with (refine wpList_store_all rfl 49 _ _ rfl (gR) rfl #[.int .i32 d,.int .i32 0,.int .i32 0,.int .u16 0,.int .u16 0,.int .u16 0,.int .u16 0,.int .u16 0,.int .u16 0,.int .u16 0,.int .u16 0,.int .u16 0,.int .u16 0,.int .u16 0,.int .u16 0,.int .u16 0,.int .u16 0,.int .u16 0,.int .u16 0] rfl _ (HS.out.get 2 rfl) (by rfl) (by kernel_rfl) (by first|exact Sm.S.arr_one _|exact Rc.R.arr_one _|simp[Value.oneCell']) ?_;intro V4 hAn hMn)
 replace HS:Hid (St w V4 [(gT,[.int .i64 x]),(gS,[.int .i64 x]),(gR,[.int .i32 d,.int .i32 0,.int .i32 0,.int .u16 0,.int .u16 0,.int .u16 0,.int .u16 0,.int .u16 0,.int .u16 0,.int .u16 0,.int .u16 0,.int .u16 0,.int .u16 0,.int .u16 0,.int .u16 0,.int .u16 0,.int .u16 0,.int .u16 0,.int .u16 0])]):=HS.out.put 2 rfl hMn hAn;clear hMn hAn;refine bodyPost_ret (res_ct (p:=2) (q:=3) rfl (HS.out.get 2 rfl) _ Tryz.underlying49 rfl (by kernel_rfl) rfl rfl) rfl ⟨by first|(rw[← HX.out];rfl)|rw[← HX.out],HS.out.b⟩
theorem rcMake_ok (x z:Int)(a b:Sm.S)(w:World)(hL:Lens w)(h:x % 60=0)(h2:-86400≤x∧x≤86400)(k:z % 60=0)(k2:-86400≤z∧z≤86400)(ha:Sm.U a∧Sm.Fine a)(hb:Sm.U b∧Sm.Fine b):
  Calls Tryz.prog 176 #[.int .i64 x,.int .i64 z,a.v,b.v] w fun e w'=>e=.returned (.tuple #[(Rc.make x z a b).v,.int .i64 0])∧Below w.heap.size w w':=by
 have HW:=ak fun g c W c0 c1=>rcWhole2 x z g c W c0 c1 h k
 have hI:=fun g c W c0 c1=>rcInside2 x z g c W c0 c1
 have hnr:(Rc.near x && Rc.near z)=true:=by unfold Rc.near;simp;omega
 simp only[hnr] at hI;have HI:=ak hI;obtain⟨ho,hin,_,_⟩:=Rc.make_ok h h2 k k2 ha hb;have hCk:=fun W (hb:Below w.heap.size w W)=>rcCheck_any (Rc.make x z a b) W (hL.below hb) hin
 have hrt:Rc.right (Rc.make x z a b)=true:=by unfold Rc.right;rw[decide_eq_true_eq];exact ho
 simp only[hrt] at hCk;have t1:=(quo60 h).1;have t2:=(quo60 (x:=x - z) (by omega)).2;simp only[Rc.R.v_arr,Sm.S.v_arr] at hCk ⊢;have hcells:(Rc.make x z a b).arr=#[.int .i32 (-x / 60),.int .i32 0,.int .i32 ((x - z) / 60),.int .u16 a.y,.int .u16 a.mo,.int .u16 a.dw,.int .u16 a.d,.int .u16 a.h,.int .u16 a.mi,.int .u16 a.s,.int .u16 a.ms,.int .u16 b.y,.int .u16 b.mo,.int .u16 b.dw,.int .u16 b.d,.int .u16 b.h,.int .u16 b.mi,.int .u16 b.s,.int .u16 b.ms]:=rfl;rw[hcells] at hCk ⊢;obtain⟨d,hd⟩:=aj (-x / 60)
 obtain⟨q,hq⟩:=aj ((x - z) / 60)
 simp only[hd,hq] at t1 t2 hCk ⊢;have w1:IntKind.i64.wrap (-x)=-x:=by rw[IntKind.wrap_i64];omega
 have w2:IntKind.i64.wrap d=d:=by rw[IntKind.wrap_i64];omega
 have w3:IntKind.i32.wrap d=d:=by rw[IntKind.wrap_i32];omega
 have w4:IntKind.i64.wrap (x - z)=x - z:=by rw[IntKind.wrap_i64];omega
 have w5:IntKind.i64.wrap q=q:=by rw[IntKind.wrap_i64];omega
 have w6:IntKind.i32.wrap q=q:=by rw[IntKind.wrap_i32];omega
 have HCk:=ak hCk;clear hCk hcells hd hq hrt hnr hI ho hin h h2 k k2 ha hb hL;obtain⟨ay,amo,adw,ad,ah,ami,asx,ams⟩:=a;obtain⟨by_,bmo,bdw,bd,bh,bmi,bs,bms⟩:=b;unfold Sm.S.arr;simp only at HCk ⊢;obtain⟨V1,gP,HEV1,HGgP,HS⟩:=(St.start w).lay3 #[.int .u16 ay,.int .u16 amo,.int .u16 adw,.int .u16 ad,.int .u16 ah,.int .u16 ami,.int .u16 asx,.int .u16 ams] 47 #[.int .u16 by_,.int .u16 bmo,.int .u16 bdw,.int .u16 bd,.int .u16 bh,.int .u16 bmi,.int .u16 bs,.int .u16 bms] 47 #[.int .i32 0,.int .i32 0,.int .i32 0,.int .u16 0,.int .u16 0,.int .u16 0,.int .u16 0,.int .u16 0,.int .u16 0,.int .u16 0,.int .u16 0,.int .u16 0,.int .u16 0,.int .u16 0,.int .u16 0,.int .u16 0,.int .u16 0,.int .u16 0,.int .u16 0] 49;go_enter Tryz.func176,Tryz.ntmps176
 go_upto_region 1 with fail
 rw[HEV1.out]
 try rw[HGgP.out]
 have hLy:=HS.out.lay #[.int .i64 x,.int .i64 z] 2;clear HS;obtain⟨V2,gS,HEV2,HGgS,HS⟩:=hLy;have S0:=(HS.out.get 0 rfl).cell 0 _ rfl;have S1:=(HS.out.get 0 rfl).cell 1 _ rfl;have zS:=(HS.out.get 0 rfl).lt;go_wp2_with fail
 rw[HEV2.out]
 try rw[HGgS.out]
 refine(HW.out _ _ _ S0 S1).mono ?_;rintro e _ ⟨rfl,rfl⟩;clear S0 S1 zS;have hLy:=HS.out.lay #[.int .i64 x,.int .i64 z] 2;clear HS;obtain⟨V3,gT,HEV3,HGgT,HS⟩:=hLy;have T0:=(HS.out.get 0 rfl).cell 0 _ rfl;have T1:=(HS.out.get 0 rfl).cell 1 _ rfl;have zT:=(HS.out.get 0 rfl).lt;go_wp2_with fail
 rw[HEV3.out]
 try rw[HGgT.out]
 refine(HI.out _ _ _ T0 T1).mono ?_;rintro e _ ⟨rfl,rfl⟩;clear T0 T1 zT;obtain⟨gM,HGgM⟩:∃q,Hid (V3.heap.size=q):=⟨_,rfl⟩
 go_upto_region 4 with (first|(refine wpList_load_arr rfl 47 _ rfl (gP) 0 rfl #[.int .u16 ay,.int .u16 amo,.int .u16 adw,.int .u16 ad,.int .u16 ah,.int .u16 ami,.int .u16 asx,.int .u16 ams] (HS.out.get 4 rfl).range _ Tryz.underlying47 rfl (by kernel_rfl) ?_)|(refine wpList_load_arr rfl 47 _ rfl (gP+1) 0 rfl #[.int .u16 by_,.int .u16 bmo,.int .u16 bdw,.int .u16 bd,.int .u16 bh,.int .u16 bmi,.int .u16 bs,.int .u16 bms] (HS.out.get 3 rfl).range _ Tryz.underlying47 rfl (by kernel_rfl) ?_)|(refine wpList_store_all rfl 49 _ _ rfl V3.heap.size rfl #[.int .i32 d,.int .i32 0,.int .i32 q,.int .u16 ay,.int .u16 amo,.int .u16 adw,.int .u16 ad,.int .u16 ah,.int .u16 ami,.int .u16 asx,.int .u16 ams,.int .u16 by_,.int .u16 bmo,.int .u16 bdw,.int .u16 bd,.int .u16 bh,.int .u16 bmi,.int .u16 bs,.int .u16 bms] rfl _ (At.new V3 #[.int .i32 0,.int .i32 0,.int .i32 0,.int .u16 0,.int .u16 0,.int .u16 0,.int .u16 0,.int .u16 0,.int .u16 0,.int .u16 0,.int .u16 0,.int .u16 0,.int .u16 0,.int .u16 0,.int .u16 0,.int .u16 0,.int .u16 0,.int .u16 0,.int .u16 0] 49) (by rfl) (by kernel_rfl) (by first|exact Sm.S.arr_one _|exact Rc.R.arr_one _|simp[Value.oneCell']) ?_;intro V4 hAn hMn))
 rw[HGgM.out];replace HS:=ak (HS.out.laid #[.int .i32 0,.int .i32 0,.int .i32 0,.int .u16 0,.int .u16 0,.int .u16 0,.int .u16 0,.int .u16 0,.int .u16 0,.int .u16 0,.int .u16 0,.int .u16 0,.int .u16 0,.int .u16 0,.int .u16 0,.int .u16 0,.int .u16 0,.int .u16 0,.int .u16 0] 49 hMn hAn);rw[HGgM.out] at HS;clear hMn hAn;go_wp2_with (refine wpList_load_arr rfl 49 _ rfl (gM) 0 rfl #[.int .i32 d,.int .i32 0,.int .i32 q,.int .u16 ay,.int .u16 amo,.int .u16 adw,.int .u16 ad,.int .u16 ah,.int .u16 ami,.int .u16 asx,.int .u16 ams,.int .u16 by_,.int .u16 bmo,.int .u16 bdw,.int .u16 bd,.int .u16 bh,.int .u16 bmi,.int .u16 bs,.int .u16 bms] (HS.out.get 0 rfl).range _ Tryz.underlying49 rfl (by kernel_rfl) ?_)
 refine(HCk.out _ HS.out.b).mono ?_;rintro e V8 ⟨rfl,hb⟩;replace HS:=ak (HS.out.call hb);clear hb;go_wp2_with (first|(refine wpList_load_arr rfl 49 _ rfl (gM) 0 rfl #[.int .i32 d,.int .i32 0,.int .i32 q,.int .u16 ay,.int .u16 amo,.int .u16 adw,.int .u16 ad,.int .u16 ah,.int .u16 ami,.int .u16 asx,.int .u16 ams,.int .u16 by_,.int .u16 bmo,.int .u16 bdw,.int .u16 bd,.int .u16 bh,.int .u16 bmi,.int .u16 bs,.int .u16 bms] (HS.out.get 0 rfl).range _ Tryz.underlying49 rfl (by kernel_rfl) ?_)|(refine wpList_store_all rfl 49 _ _ rfl (gP+1+1) rfl #[.int .i32 d,.int .i32 0,.int .i32 q,.int .u16 ay,.int .u16 amo,.int .u16 adw,.int .u16 ad,.int .u16 ah,.int .u16 ami,.int .u16 asx,.int .u16 ams,.int .u16 by_,.int .u16 bmo,.int .u16 bdw,.int .u16 bd,.int .u16 bh,.int .u16 bmi,.int .u16 bs,.int .u16 bms] rfl _ (HS.out.get 3 rfl) (by rfl) (by kernel_rfl) (by first|exact Sm.S.arr_one _|exact Rc.R.arr_one _|simp[Value.oneCell']) ?_;intro V9 hAn hMn))
 replace HS:Hid (St w V9 [(gM,[.int .i32 d,.int .i32 0,.int .i32 q,.int .u16 ay,.int .u16 amo,.int .u16 adw,.int .u16 ad,.int .u16 ah,.int .u16 ami,.int .u16 asx,.int .u16 ams,.int .u16 by_,.int .u16 bmo,.int .u16 bdw,.int .u16 bd,.int .u16 bh,.int .u16 bmi,.int .u16 bs,.int .u16 bms]),(gT,[.int .i64 x,.int .i64 z]),(gS,[.int .i64 x,.int .i64 z]),(gP+1+1,[.int .i32 d,.int .i32 0,.int .i32 q,.int .u16 ay,.int .u16 amo,.int .u16 adw,.int .u16 ad,.int .u16 ah,.int .u16 ami,.int .u16 asx,.int .u16 ams,.int .u16 by_,.int .u16 bmo,.int .u16 bdw,.int .u16 bd,.int .u16 bh,.int .u16 bmi,.int .u16 bs,.int .u16 bms]),(gP+1,[.int .u16 by_,.int .u16 bmo,.int .u16 bdw,.int .u16 bd,.int .u16 bh,.int .u16 bmi,.int .u16 bs,.int .u16 bms]),(gP,[.int .u16 ay,.int .u16 amo,.int .u16 adw,.int .u16 ad,.int .u16 ah,.int .u16 ami,.int .u16 asx,.int .u16 ams])]):=HS.out.put 3 rfl hMn hAn;clear hMn hAn;refine bodyPost_ret (res_ct (p:=8) (q:=9) rfl (HS.out.get 3 rfl) _ Tryz.underlying49 rfl (by kernel_rfl) rfl rfl) rfl ⟨rfl,HS.out.b⟩
end Go.Proofs.YtjobhjemnmleaaaGreatDoor
