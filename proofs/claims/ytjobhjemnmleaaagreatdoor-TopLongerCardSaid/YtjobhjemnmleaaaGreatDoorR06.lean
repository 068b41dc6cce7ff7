/- The contracts of package rule: rising, Name. -/
import Derived.Test.YtjobhjemnmleaaaGreatDoorR05
import Derived.Deep.RegionWith
set_option maxRecDepth 100000
set_option maxHeartbeats 2000000
namespace Go.Proofs.YtjobhjemnmleaaaGreatDoor
open Go.RowKit
namespace Ru
def letr (c:Int):Bool:=decide ((97≤c∧c≤122)∨(65≤c∧c≤90)∨c=95)
def rest (c:Int):Bool:=decide ((48≤c∧c≤57)∨c=43∨c=45∨c=47)
def nameAll : List UInt8→Bool→Bool
 |[],_=>true
 |c :: r,f=>(letr (c.toNat:Int) || (!f && rest (c.toNat:Int))) && nameAll r false
def name (l:List UInt8):Bool:=decide (1≤l.length∧l.length≤64) && nameAll l true
theorem cases_ (c:Int)(h0:0≤c)(h1:c≤255):(0≤c∧c≤42)∨(43≤c∧c≤43)∨(44≤c∧c≤44)∨(45≤c∧c≤45)∨(46≤c∧c≤46)∨(47≤c∧c≤47)∨(48≤c∧c≤57)∨(58≤c∧c≤64)∨(65≤c∧c≤90)∨(91≤c∧c≤94)∨(95≤c∧c≤95)∨(96≤c∧c≤96)∨(97≤c∧c≤122)∨(123≤c∧c≤255):=by omega
theorem name_step (l:List UInt8)(k:Nat)(c:UInt8)(X:Bool)(h:X=nameAll (l.drop k) (decide (k=0)))(hc:l[k]?=some c):X=((letr (c.toNat:Int) || (!decide (k=0) && rest (c.toNat:Int))) && nameAll (l.drop (k+1)) false):=by
 rw[h,drop_of hc];rfl
end Ru
theorem rising2_any (a b:Int)(w:World):
  Calls Tryz.prog 126 #[.slice (some ⟨w.heap.size,0,none⟩) 2 2] (w.alloc (.cells #[.int .i64 a,.int .i64 b] 3)) fun e w'=>e=.returned (.bool (decide (a≤b)))∧Below w.heap.size w w':=by
 have hA:=At.new w #[.int .i64 a,.int .i64 b] 3;obtain⟨W,hW⟩:=aj (w.alloc (.cells #[.int .i64 a,.int .i64 b] 3))
 have hB:Below w.heap.size w W:=by rw[← hW];exact al
 rw[hW] at hA ⊢;have HA:=ak hA;have HB:=ak hB;clear hA hB hW;obtain⟨g,hg⟩:=aj (w.heap.size)
 rw[hg] at HA HB ⊢;clear hg;go_enter Tryz.func126,Tryz.ntmps126
 go_wp2;go_loopw [3] (fun i wr=>∃j:Nat,1≤j∧j≤2∧i=.int .i64 j∧Hid (Drew W wr)∧Hid (2≤j→a≤b)) (fun i _=>2 - (intOf i).toNat)
 case atStart=>exact⟨1,by omega,by omega,rfl,Drew.refl _,fun h=>absurd h (by omega)⟩
 case round=>
  obtain⟨j,j1,j2,rfl,HD,P2⟩:=hrel;have hAt:=HA.out.drew HD.out;have c0:=hAt.cell 0 _ rfl;have c1:=hAt.cell 1 _ rfl;have hj:j=1∨j=2:=by omega
  rcases hj with rfl|rfl
  ·by_cases h:a≤b
   ·go_wp2;go_quiet (fail)
    go_wp2;go_roundw
    case rel=>exact⟨2,by omega,by omega,rfl,by first|exact HD.out|exact HD.out.drewN _,fun _=>h⟩
    case measure=>simp[intOf]
   ·have HX:Hid ((decide (a≤b))=false):=by show (decide (a≤b))=false;simp[h]
    have h':b<a:=(by omega);go_wp2;go_quiet (fail)
    go_wp2;go_ret
    exact⟨ret_bool (by rw[HX.out]),by first|exact HB.out.trans (HD.out.below _)|exact HB.out.trans ((HD.out.drewN _).below _)⟩
  ·have HX:Hid ((decide (a≤b))=true):=by
    have:=P2.out (by omega);show (decide (a≤b))=true
    simp[*]
   go_wp2;go_ret
   exact⟨ret_bool (by rw[HX.out]),HB.out.trans (HD.out.below _)⟩
theorem rising3_any (a b c:Int)(w:World):
  Calls Tryz.prog 126 #[.slice (some ⟨w.heap.size,0,none⟩) 3 3] (w.alloc (.cells #[.int .i64 a,.int .i64 b,.int .i64 c] 3)) fun e w'=>e=.returned (.bool (decide (a≤b) && decide (b≤c)))∧Below w.heap.size w w':=by
 have hA:=At.new w #[.int .i64 a,.int .i64 b,.int .i64 c] 3;obtain⟨W,hW⟩:=aj (w.alloc (.cells #[.int .i64 a,.int .i64 b,.int .i64 c] 3))
 have hB:Below w.heap.size w W:=by rw[← hW];exact al
 rw[hW] at hA ⊢;have HA:=ak hA;have HB:=ak hB;clear hA hB hW;obtain⟨g,hg⟩:=aj (w.heap.size)
 rw[hg] at HA HB ⊢;clear hg;go_enter Tryz.func126,Tryz.ntmps126
 go_wp2;go_loopw [3] (fun i wr=>∃j:Nat,1≤j∧j≤3∧i=.int .i64 j∧Hid (Drew W wr)∧Hid (2≤j→a≤b)∧Hid (3≤j→b≤c)) (fun i _=>3 - (intOf i).toNat)
 case atStart=>exact⟨1,by omega,by omega,rfl,Drew.refl _,fun h=>absurd h (by omega),fun h=>absurd h (by omega)⟩
 case round=>
  obtain⟨j,j1,j2,rfl,HD,P2,P3⟩:=hrel;have hAt:=HA.out.drew HD.out;have c0:=hAt.cell 0 _ rfl;have c1:=hAt.cell 1 _ rfl;have c2:=hAt.cell 2 _ rfl;have hj:j=1∨j=2∨j=3:=by omega
  rcases hj with rfl|rfl|rfl
  ·by_cases h:a≤b
   ·go_wp2;go_quiet (fail)
    go_wp2;go_roundw
    case rel=>exact⟨2,by omega,by omega,rfl,by first|exact HD.out|exact HD.out.drewN _,fun _=>h,fun h=>absurd h (by omega)⟩
    case measure=>simp[intOf]
   ·have HX:Hid ((decide (a≤b) && decide (b≤c))=false):=by show (decide (a≤b) && decide (b≤c))=false;simp[h]
    have h':b<a:=(by omega);go_wp2;go_quiet (fail)
    go_wp2;go_ret
    exact⟨ret_bool (by rw[HX.out]),by first|exact HB.out.trans (HD.out.below _)|exact HB.out.trans ((HD.out.drewN _).below _)⟩
  ·by_cases h:b≤c
   ·go_wp2;go_quiet (fail)
    go_wp2;go_roundw
    case rel=>exact⟨3,by omega,by omega,rfl,by first|exact HD.out|exact HD.out.drewN _,fun _=>P2.out (by omega),fun _=>h⟩
    case measure=>simp[intOf]
   ·have HX:Hid ((decide (a≤b) && decide (b≤c))=false):=by show (decide (a≤b) && decide (b≤c))=false;simp[h]
    have h':c<b:=(by omega);go_wp2;go_quiet (fail)
    go_wp2;go_ret
    exact⟨ret_bool (by rw[HX.out]),by first|exact HB.out.trans (HD.out.below _)|exact HB.out.trans ((HD.out.drewN _).below _)⟩
  ·have HX:Hid ((decide (a≤b) && decide (b≤c))=true):=by
    have:=P2.out (by omega);have:=P3.out (by omega);show (decide (a≤b) && decide (b≤c))=true
    simp[*]
   go_wp2;go_ret
   exact⟨ret_bool (by rw[HX.out]),HB.out.trans (HD.out.below _)⟩
theorem rising4_any (a b c d:Int)(w:World):
  Calls Tryz.prog 126 #[.slice (some ⟨w.heap.size,0,none⟩) 4 4] (w.alloc (.cells #[.int .i64 a,.int .i64 b,.int .i64 c,.int .i64 d] 3)) fun e w'=>e=.returned (.bool (decide (a≤b) && decide (b≤c) && decide (c≤d)))∧Below w.heap.size w w':=by
 have hA:=At.new w #[.int .i64 a,.int .i64 b,.int .i64 c,.int .i64 d] 3;obtain⟨W,hW⟩:=aj (w.alloc (.cells #[.int .i64 a,.int .i64 b,.int .i64 c,.int .i64 d] 3))
 have hB:Below w.heap.size w W:=by rw[← hW];exact al
 rw[hW] at hA ⊢;have HA:=ak hA;have HB:=ak hB;clear hA hB hW;obtain⟨g,hg⟩:=aj (w.heap.size)
 rw[hg] at HA HB ⊢;clear hg;go_enter Tryz.func126,Tryz.ntmps126
 go_wp2;go_loopw [3] (fun i wr=>∃j:Nat,1≤j∧j≤4∧i=.int .i64 j∧Hid (Drew W wr)∧Hid (2≤j→a≤b)∧Hid (3≤j→b≤c)∧Hid (4≤j→c≤d)) (fun i _=>4 - (intOf i).toNat)
 case atStart=>exact⟨1,by omega,by omega,rfl,Drew.refl _,fun h=>absurd h (by omega),fun h=>absurd h (by omega),fun h=>absurd h (by omega)⟩
 case round=>
  obtain⟨j,j1,j2,rfl,HD,P2,P3,P4⟩:=hrel;have hAt:=HA.out.drew HD.out;have c0:=hAt.cell 0 _ rfl;have c1:=hAt.cell 1 _ rfl;have c2:=hAt.cell 2 _ rfl;have c3:=hAt.cell 3 _ rfl;have hj:j=1∨j=2∨j=3∨j=4:=by omega
  rcases hj with rfl|rfl|rfl|rfl
  ·by_cases h:a≤b
   ·go_wp2;go_quiet (fail)
    go_wp2;go_roundw
    case rel=>exact⟨2,by omega,by omega,rfl,by first|exact HD.out|exact HD.out.drewN _,fun _=>h,fun h=>absurd h (by omega),fun h=>absurd h (by omega)⟩
    case measure=>simp[intOf]
   ·have HX:Hid ((decide (a≤b) && decide (b≤c) && decide (c≤d))=false):=by show (decide (a≤b) && decide (b≤c) && decide (c≤d))=false;simp[h]
    have h':b<a:=(by omega);go_wp2;go_quiet (fail)
    go_wp2;go_ret
    exact⟨ret_bool (by rw[HX.out]),by first|exact HB.out.trans (HD.out.below _)|exact HB.out.trans ((HD.out.drewN _).below _)⟩
  ·by_cases h:b≤c
   ·go_wp2;go_quiet (fail)
    go_wp2;go_roundw
    case rel=>exact⟨3,by omega,by omega,rfl,by first|exact HD.out|exact HD.out.drewN _,fun _=>P2.out (by omega),fun _=>h,fun h=>absurd h (by omega)⟩
    case measure=>simp[intOf]
   ·have HX:Hid ((decide (a≤b) && decide (b≤c) && decide (c≤d))=false):=by show (decide (a≤b) && decide (b≤c) && decide (c≤d))=false;simp[h]
    have h':c<b:=(by omega);go_wp2;go_quiet (fail)
    go_wp2;go_ret
    exact⟨ret_bool (by rw[HX.out]),by first|exact HB.out.trans (HD.out.below _)|exact HB.out.trans ((HD.out.drewN _).below _)⟩
  ·by_cases h:c≤d
   ·go_wp2;go_quiet (fail)
    go_wp2;go_roundw
    case rel=>exact⟨4,by omega,by omega,rfl,by first|exact HD.out|exact HD.out.drewN _,fun _=>P2.out (by omega),fun _=>P3.out (by omega),fun _=>h⟩
    case measure=>simp[intOf]
   ·have HX:Hid ((decide (a≤b) && decide (b≤c) && decide (c≤d))=false):=by show (decide (a≤b) && decide (b≤c) && decide (c≤d))=false;simp[h]
    have h':d<c:=(by omega);go_wp2;go_quiet (fail)
    go_wp2;go_ret
    exact⟨ret_bool (by rw[HX.out]),by first|exact HB.out.trans (HD.out.below _)|exact HB.out.trans ((HD.out.drewN _).below _)⟩
  ·have HX:Hid ((decide (a≤b) && decide (b≤c) && decide (c≤d))=true):=by
    have:=P2.out (by omega);have:=P3.out (by omega);have:=P4.out (by omega);show (decide (a≤b) && decide (b≤c) && decide (c≤d))=true
    simp[*]
   go_wp2;go_ret
   exact⟨ret_bool (by rw[HX.out]),HB.out.trans (HD.out.below _)⟩
theorem name_any (s:ByteArray)(w:World)(hs:s.size≤1000000):
  Calls Tryz.prog 92 #[.string s] w fun e w'=>e=.returned (.bool (Ru.name (tl s)))∧Below w.heap.size w w':=by
 by_cases hl:1≤s.size∧s.size≤64
 ·obtain⟨h1,h2⟩:=hl;have HRs:=ak fun W=>calls_bool (rising3_any 1 (s.size:Int) 64 W) (show _=true by simp;omega)
  obtain⟨X,hX⟩:=aj (Ru.name (tl s))
  have h0:X=Ru.nameAll ((tl s).drop 0) (decide (0=0)):=by rw[← hX];unfold Ru.name;rw[tl_length,decide_eq_true ⟨h1,h2⟩];rfl
  rw[hX];have H0:=ak h0;clear hX h0;go_enter Tryz.func92,Tryz.ntmps92
  go_wp2_with fail
  refine(HRs.out _).mono ?_;rintro e w1 ⟨rfl,hb⟩;have HB:=ak hb;clear hb;go_wp2;go_loop [12] (fun i=>∃k:Nat,k≤s.size∧i=.int .i64 k∧Hid (X=Ru.nameAll ((tl s).drop k) (decide (k=0)))) (fun i=>s.size - (intOf i).toNat)
  case atStart=>exact⟨0,Nat.zero_le _,rfl,H0.out⟩
  case round=>
   obtain⟨k,hk,rfl,HK⟩:=hrel
   by_cases hlt:k<s.size
   ·have p1:=am k
    have p2:(k:Int)<(s.size:Int):=(by omega);obtain⟨b1,b2⟩:=u8_bd s[k];have hst:=Ru.name_step (tl s) k s[k] X HK.out (Dy.tl_get s k hlt);have hcs:=Ru.cases_ (s[k].toNat:Int) b1 b2;have HSt:=ak hst;clear hst;rcases hcs with hc|hc|hc|hc|hc|hc|hc|hc|hc|hc|hc|hc|hc|hc
    ·obtain⟨i1,i2⟩:=hc;have f97:¬97≤(s[k].toNat:Int):=(by omega);have f65:¬65≤(s[k].toNat:Int):=(by omega);have f48:¬48≤(s[k].toNat:Int):=(by omega);have e95:((s[k].toNat:Int) == 95)=false:=bqf (by omega);have e43:((s[k].toNat:Int) == 43)=false:=bqf (by omega);have e45:((s[k].toNat:Int) == 45)=false:=bqf (by omega);have e47:((s[k].toNat:Int) == 47)=false:=bqf (by omega);have hr:Ru.rest (s[k].toNat:Int)=false:=by unfold Ru.rest;rw[decide_eq_false_iff_not];omega
     have hl:Ru.letr (s[k].toNat:Int)=false:=by unfold Ru.letr;rw[decide_eq_false_iff_not];omega
     have HG:Hid (X=false):=by
      show X=false
      rw[HSt.out,hr,hl];simp
     clear hr hl;go_wp2;go_ret
     exact⟨ret_bool (by rw[HG.out]),HB.out⟩
    ·obtain⟨i1,i2⟩:=hc;have f97:¬97≤(s[k].toNat:Int):=(by omega);have f65:¬65≤(s[k].toNat:Int):=(by omega);have f48:¬48≤(s[k].toNat:Int):=(by omega);have e95:((s[k].toNat:Int) == 95)=false:=bqf (by omega);have e43:((s[k].toNat:Int) == 43)=true:=by rw[beq_iff_eq];omega
     have e45:((s[k].toNat:Int) == 45)=false:=bqf (by omega);have e47:((s[k].toNat:Int) == 47)=false:=bqf (by omega);have hr:Ru.rest (s[k].toNat:Int)=true:=by unfold Ru.rest;rw[decide_eq_true_eq];omega
     have hl:Ru.letr (s[k].toNat:Int)=false:=by unfold Ru.letr;rw[decide_eq_false_iff_not];omega
     have hst:=HSt.out;rw[hr,hl] at hst;have Hst:=ak hst;clear hr hl hst
     by_cases hk0:k=0
     ·have HG:Hid (X=false):=by
       show X=false
       rw[Hst.out,hk0];rfl
      have e0:((k:Int) == 0)=true:=by rw[beq_iff_eq];omega
      clear hk0;go_wp2;go_ret
      exact⟨ret_bool (by rw[HG.out]),HB.out⟩
     ·have HG:Hid (X=Ru.nameAll ((tl s).drop (k+1)) (decide (k+1=0))):=by
       show X=_
       rw[Hst.out,decide_eq_false hk0];rfl
      have e0:((k:Int) == 0)=false:=bqf (by omega);clear hk0;go_wp2;go_round
      case rel=>exact⟨k+1,by omega,by go_num,HG⟩
      case measure=>simp[intOf];omega
    ·obtain⟨i1,i2⟩:=hc;have f97:¬97≤(s[k].toNat:Int):=(by omega);have f65:¬65≤(s[k].toNat:Int):=(by omega);have f48:¬48≤(s[k].toNat:Int):=(by omega);have e95:((s[k].toNat:Int) == 95)=false:=bqf (by omega);have e43:((s[k].toNat:Int) == 43)=false:=bqf (by omega);have e45:((s[k].toNat:Int) == 45)=false:=bqf (by omega);have e47:((s[k].toNat:Int) == 47)=false:=bqf (by omega);have hr:Ru.rest (s[k].toNat:Int)=false:=by unfold Ru.rest;rw[decide_eq_false_iff_not];omega
     have hl:Ru.letr (s[k].toNat:Int)=false:=by unfold Ru.letr;rw[decide_eq_false_iff_not];omega
     have HG:Hid (X=false):=by
      show X=false
      rw[HSt.out,hr,hl];simp
     clear hr hl;go_wp2;go_ret
     exact⟨ret_bool (by rw[HG.out]),HB.out⟩
    ·obtain⟨i1,i2⟩:=hc;have f97:¬97≤(s[k].toNat:Int):=(by omega);have f65:¬65≤(s[k].toNat:Int):=(by omega);have f48:¬48≤(s[k].toNat:Int):=(by omega);have e95:((s[k].toNat:Int) == 95)=false:=bqf (by omega);have e43:((s[k].toNat:Int) == 43)=false:=bqf (by omega);have e45:((s[k].toNat:Int) == 45)=true:=by rw[beq_iff_eq];omega
     have e47:((s[k].toNat:Int) == 47)=false:=bqf (by omega);have hr:Ru.rest (s[k].toNat:Int)=true:=by unfold Ru.rest;rw[decide_eq_true_eq];omega
     have hl:Ru.letr (s[k].toNat:Int)=false:=by unfold Ru.letr;rw[decide_eq_false_iff_not];omega
     have hst:=HSt.out;rw[hr,hl] at hst;have Hst:=ak hst;clear hr hl hst
     by_cases hk0:k=0
     ·have HG:Hid (X=false):=by
       show X=false
       rw[Hst.out,hk0];rfl
      have e0:((k:Int) == 0)=true:=by rw[beq_iff_eq];omega
      clear hk0;go_wp2;go_ret
      exact⟨ret_bool (by rw[HG.out]),HB.out⟩
     ·have HG:Hid (X=Ru.nameAll ((tl s).drop (k+1)) (decide (k+1=0))):=by
       show X=_
       rw[Hst.out,decide_eq_false hk0];rfl
      have e0:((k:Int) == 0)=false:=bqf (by omega);clear hk0;go_wp2;go_round
      case rel=>exact⟨k+1,by omega,by go_num,HG⟩
      case measure=>simp[intOf];omega
    ·obtain⟨i1,i2⟩:=hc;have f97:¬97≤(s[k].toNat:Int):=(by omega);have f65:¬65≤(s[k].toNat:Int):=(by omega);have f48:¬48≤(s[k].toNat:Int):=(by omega);have e95:((s[k].toNat:Int) == 95)=false:=bqf (by omega);have e43:((s[k].toNat:Int) == 43)=false:=bqf (by omega);have e45:((s[k].toNat:Int) == 45)=false:=bqf (by omega);have e47:((s[k].toNat:Int) == 47)=false:=bqf (by omega);have hr:Ru.rest (s[k].toNat:Int)=false:=by unfold Ru.rest;rw[decide_eq_false_iff_not];omega
     have hl:Ru.letr (s[k].toNat:Int)=false:=by unfold Ru.letr;rw[decide_eq_false_iff_not];omega
     have HG:Hid (X=false):=by
      show X=false
      rw[HSt.out,hr,hl];simp
     clear hr hl;go_wp2;go_ret
     exact⟨ret_bool (by rw[HG.out]),HB.out⟩
    ·obtain⟨i1,i2⟩:=hc;have f97:¬97≤(s[k].toNat:Int):=(by omega);have f65:¬65≤(s[k].toNat:Int):=(by omega);have f48:¬48≤(s[k].toNat:Int):=(by omega);have e95:((s[k].toNat:Int) == 95)=false:=bqf (by omega);have e43:((s[k].toNat:Int) == 43)=false:=bqf (by omega);have e45:((s[k].toNat:Int) == 45)=false:=bqf (by omega);have e47:((s[k].toNat:Int) == 47)=true:=by rw[beq_iff_eq];omega
     have hr:Ru.rest (s[k].toNat:Int)=true:=by unfold Ru.rest;rw[decide_eq_true_eq];omega
     have hl:Ru.letr (s[k].toNat:Int)=false:=by unfold Ru.letr;rw[decide_eq_false_iff_not];omega
     have hst:=HSt.out;rw[hr,hl] at hst;have Hst:=ak hst;clear hr hl hst
     by_cases hk0:k=0
     ·have HG:Hid (X=false):=by
       show X=false
       rw[Hst.out,hk0];rfl
      have e0:((k:Int) == 0)=true:=by rw[beq_iff_eq];omega
      clear hk0;go_wp2;go_ret
      exact⟨ret_bool (by rw[HG.out]),HB.out⟩
     ·have HG:Hid (X=Ru.nameAll ((tl s).drop (k+1)) (decide (k+1=0))):=by
       show X=_
       rw[Hst.out,decide_eq_false hk0];rfl
      have e0:((k:Int) == 0)=false:=bqf (by omega);clear hk0;go_wp2;go_round
      case rel=>exact⟨k+1,by omega,by go_num,HG⟩
      case measure=>simp[intOf];omega
    ·obtain⟨i1,i2⟩:=hc;have f97:¬97≤(s[k].toNat:Int):=(by omega);have f65:¬65≤(s[k].toNat:Int):=(by omega);have f48:48≤(s[k].toNat:Int):=(by omega);have f57:(s[k].toNat:Int)≤57:=(by omega);have e95:((s[k].toNat:Int) == 95)=false:=bqf (by omega);have e43:((s[k].toNat:Int) == 43)=false:=bqf (by omega);have e45:((s[k].toNat:Int) == 45)=false:=bqf (by omega);have e47:((s[k].toNat:Int) == 47)=false:=bqf (by omega);have hr:Ru.rest (s[k].toNat:Int)=true:=by unfold Ru.rest;rw[decide_eq_true_eq];omega
     have hl:Ru.letr (s[k].toNat:Int)=false:=by unfold Ru.letr;rw[decide_eq_false_iff_not];omega
     have hst:=HSt.out;rw[hr,hl] at hst;have Hst:=ak hst;clear hr hl hst
     by_cases hk0:k=0
     ·have HG:Hid (X=false):=by
       show X=false
       rw[Hst.out,hk0];rfl
      have e0:((k:Int) == 0)=true:=by rw[beq_iff_eq];omega
      clear hk0;go_wp2;go_ret
      exact⟨ret_bool (by rw[HG.out]),HB.out⟩
     ·have HG:Hid (X=Ru.nameAll ((tl s).drop (k+1)) (decide (k+1=0))):=by
       show X=_
       rw[Hst.out,decide_eq_false hk0];rfl
      have e0:((k:Int) == 0)=false:=bqf (by omega);clear hk0;go_wp2;go_round
      case rel=>exact⟨k+1,by omega,by go_num,HG⟩
      case measure=>simp[intOf];omega
    ·obtain⟨i1,i2⟩:=hc;have f97:¬97≤(s[k].toNat:Int):=(by omega);have f65:¬65≤(s[k].toNat:Int):=(by omega);have f48:48≤(s[k].toNat:Int):=(by omega);have f57:¬(s[k].toNat:Int)≤57:=(by omega);have e95:((s[k].toNat:Int) == 95)=false:=bqf (by omega);have e43:((s[k].toNat:Int) == 43)=false:=bqf (by omega);have e45:((s[k].toNat:Int) == 45)=false:=bqf (by omega);have e47:((s[k].toNat:Int) == 47)=false:=bqf (by omega);have hr:Ru.rest (s[k].toNat:Int)=false:=by unfold Ru.rest;rw[decide_eq_false_iff_not];omega
     have hl:Ru.letr (s[k].toNat:Int)=false:=by unfold Ru.letr;rw[decide_eq_false_iff_not];omega
     have HG:Hid (X=false):=by
      show X=false
      rw[HSt.out,hr,hl];simp
     clear hr hl;go_wp2;go_ret
     exact⟨ret_bool (by rw[HG.out]),HB.out⟩
    ·obtain⟨i1,i2⟩:=hc;have f97:¬97≤(s[k].toNat:Int):=(by omega);have f65:65≤(s[k].toNat:Int):=(by omega);have f90:(s[k].toNat:Int)≤90:=(by omega);have f48:48≤(s[k].toNat:Int):=(by omega);have f57:¬(s[k].toNat:Int)≤57:=(by omega);have e95:((s[k].toNat:Int) == 95)=false:=bqf (by omega);have e43:((s[k].toNat:Int) == 43)=false:=bqf (by omega);have e45:((s[k].toNat:Int) == 45)=false:=bqf (by omega);have e47:((s[k].toNat:Int) == 47)=false:=bqf (by omega);have HG:Hid (X=Ru.nameAll ((tl s).drop (k+1)) (decide (k+1=0))):=by
      show X=_
      rw[HSt.out];have:Ru.letr (s[k].toNat:Int)=true:=by unfold Ru.letr;rw[decide_eq_true_eq];omega
      rw[this,Bool.true_or,Bool.true_and];rfl
     go_wp2;go_round
     case rel=>exact⟨k+1,by omega,by go_num,HG⟩
     case measure=>simp[intOf];omega
    ·obtain⟨i1,i2⟩:=hc;have f97:¬97≤(s[k].toNat:Int):=(by omega);have f65:65≤(s[k].toNat:Int):=(by omega);have f90:¬(s[k].toNat:Int)≤90:=(by omega);have f48:48≤(s[k].toNat:Int):=(by omega);have f57:¬(s[k].toNat:Int)≤57:=(by omega);have e95:((s[k].toNat:Int) == 95)=false:=bqf (by omega);have e43:((s[k].toNat:Int) == 43)=false:=bqf (by omega);have e45:((s[k].toNat:Int) == 45)=false:=bqf (by omega);have e47:((s[k].toNat:Int) == 47)=false:=bqf (by omega);have hr:Ru.rest (s[k].toNat:Int)=false:=by unfold Ru.rest;rw[decide_eq_false_iff_not];omega
     have hl:Ru.letr (s[k].toNat:Int)=false:=by unfold Ru.letr;rw[decide_eq_false_iff_not];omega
     have HG:Hid (X=false):=by
      show X=false
      rw[HSt.out,hr,hl];simp
     clear hr hl;go_wp2;go_ret
     exact⟨ret_bool (by rw[HG.out]),HB.out⟩
    ·obtain⟨i1,i2⟩:=hc;have f97:¬97≤(s[k].toNat:Int):=(by omega);have f65:65≤(s[k].toNat:Int):=(by omega);have f90:¬(s[k].toNat:Int)≤90:=(by omega);have f48:48≤(s[k].toNat:Int):=(by omega);have f57:¬(s[k].toNat:Int)≤57:=(by omega);have e95:((s[k].toNat:Int) == 95)=true:=by rw[beq_iff_eq];omega
     have e43:((s[k].toNat:Int) == 43)=false:=bqf (by omega);have e45:((s[k].toNat:Int) == 45)=false:=bqf (by omega);have e47:((s[k].toNat:Int) == 47)=false:=bqf (by omega);have HG:Hid (X=Ru.nameAll ((tl s).drop (k+1)) (decide (k+1=0))):=by
      show X=_
      rw[HSt.out];have:Ru.letr (s[k].toNat:Int)=true:=by unfold Ru.letr;rw[decide_eq_true_eq];omega
      rw[this,Bool.true_or,Bool.true_and];rfl
     go_wp2;go_round
     case rel=>exact⟨k+1,by omega,by go_num,HG⟩
     case measure=>simp[intOf];omega
    ·obtain⟨i1,i2⟩:=hc;have f97:¬97≤(s[k].toNat:Int):=(by omega);have f65:65≤(s[k].toNat:Int):=(by omega);have f90:¬(s[k].toNat:Int)≤90:=(by omega);have f48:48≤(s[k].toNat:Int):=(by omega);have f57:¬(s[k].toNat:Int)≤57:=(by omega);have e95:((s[k].toNat:Int) == 95)=false:=bqf (by omega);have e43:((s[k].toNat:Int) == 43)=false:=bqf (by omega);have e45:((s[k].toNat:Int) == 45)=false:=bqf (by omega);have e47:((s[k].toNat:Int) == 47)=false:=bqf (by omega);have hr:Ru.rest (s[k].toNat:Int)=false:=by unfold Ru.rest;rw[decide_eq_false_iff_not];omega
     have hl:Ru.letr (s[k].toNat:Int)=false:=by unfold Ru.letr;rw[decide_eq_false_iff_not];omega
     have HG:Hid (X=false):=by
      show X=false
      rw[HSt.out,hr,hl];simp
     clear hr hl;go_wp2;go_ret
     exact⟨ret_bool (by rw[HG.out]),HB.out⟩
    ·obtain⟨i1,i2⟩:=hc;have f97:97≤(s[k].toNat:Int):=(by omega);have f122:(s[k].toNat:Int)≤122:=(by omega);have f65:65≤(s[k].toNat:Int):=(by omega);have f90:¬(s[k].toNat:Int)≤90:=(by omega);have f48:48≤(s[k].toNat:Int):=(by omega);have f57:¬(s[k].toNat:Int)≤57:=(by omega);have e95:((s[k].toNat:Int) == 95)=false:=bqf (by omega);have e43:((s[k].toNat:Int) == 43)=false:=bqf (by omega);have e45:((s[k].toNat:Int) == 45)=false:=bqf (by omega);have e47:((s[k].toNat:Int) == 47)=false:=bqf (by omega);have HG:Hid (X=Ru.nameAll ((tl s).drop (k+1)) (decide (k+1=0))):=by
      show X=_
      rw[HSt.out];have:Ru.letr (s[k].toNat:Int)=true:=by unfold Ru.letr;rw[decide_eq_true_eq];omega
      rw[this,Bool.true_or,Bool.true_and];rfl
     go_wp2;go_round
     case rel=>exact⟨k+1,by omega,by go_num,HG⟩
     case measure=>simp[intOf];omega
    ·obtain⟨i1,i2⟩:=hc;have f97:97≤(s[k].toNat:Int):=(by omega);have f122:¬(s[k].toNat:Int)≤122:=(by omega);have f65:65≤(s[k].toNat:Int):=(by omega);have f90:¬(s[k].toNat:Int)≤90:=(by omega);have f48:48≤(s[k].toNat:Int):=(by omega);have f57:¬(s[k].toNat:Int)≤57:=(by omega);have e95:((s[k].toNat:Int) == 95)=false:=bqf (by omega);have e43:((s[k].toNat:Int) == 43)=false:=bqf (by omega);have e45:((s[k].toNat:Int) == 45)=false:=bqf (by omega);have e47:((s[k].toNat:Int) == 47)=false:=bqf (by omega);have hr:Ru.rest (s[k].toNat:Int)=false:=by unfold Ru.rest;rw[decide_eq_false_iff_not];omega
     have hl:Ru.letr (s[k].toNat:Int)=false:=by unfold Ru.letr;rw[decide_eq_false_iff_not];omega
     have HG:Hid (X=false):=by
      show X=false
      rw[HSt.out,hr,hl];simp
     clear hr hl;go_wp2;go_ret
     exact⟨ret_bool (by rw[HG.out]),HB.out⟩
   ·obtain rfl:k=s.size:=by omega
    have HX3:Hid (X=true):=by
     show X=true
     rw[HK.out,List.drop_eq_nil_of_le (by rw[tl_length];exact Nat.le_refl _)];rfl
    go_wp2;go_ret
    exact⟨ret_bool (by rw[HX3.out]),HB.out⟩
 ·have HRs:=ak fun W=>calls_bool (rising3_any 1 (s.size:Int) 64 W) (show _=false by simp;omega)
  have HX:Hid (Ru.name (tl s)=false):=by show Ru.name (tl s)=false;unfold Ru.name;rw[tl_length,decide_eq_false hl];rfl
  clear hl;go_enter Tryz.func92,Tryz.ntmps92
  go_wp2_with fail
  refine(HRs.out _).mono ?_;rintro e w1 ⟨rfl,hb⟩;go_wp2;go_ret
  exact⟨ret_bool (by rw[HX.out]),hb⟩
end Go.Proofs.YtjobhjemnmleaaaGreatDoor
namespace Go.Proofs.YtjobhjemnmleaaaGreatDoor
open Go.RowKit
namespace Mo
end Mo
end Go.Proofs.YtjobhjemnmleaaaGreatDoor
namespace Go.Proofs.YtjobhjemnmleaaaGreatDoor
open Go.RowKit
namespace Mo
structure U where
 y:Int
 m:Int
 k:Int
 n:Int
 d:Int
 s:Int
 c:Int
def U.v (u:U):Value:=.agg #[.int .i64 u.y,.int .i64 u.m,.int .u8 u.k,.int .i64 u.n,.int .i64 u.d,.int .i64 u.s,.int .u8 u.c]
def U.Ok (u:U):Prop:=InCal u.y u.m∧Dy.Ok u.k u.n u.d∧Mo.Ok u.s u.c
def U.zero : U:=⟨0,0,0,0,0,0,0⟩
end Mo
theorem checkUntil_ok (u:Mo.U)(w:World)(h:u.Ok):
  Calls Tryz.prog 167 #[u.v] w fun e w'=>e=.returned (.int .i64 0)∧Below w.heap.size w w':=by
 obtain⟨⟨h1,h2,h3,h4⟩,hd,hm⟩:=h;have HD:=ak fun W=>dayCheck_ok u.k u.n u.d W hd
 have HM:=ak fun W=>momCheck_ok u.s u.c W hm
 obtain⟨y,m,k,n,d,s,c⟩:=u;simp only at h1 h2 h3 h4 HD HM;unfold Mo.U.v;clear hd hm;go_enter Tryz.func167,Tryz.ntmps167
 go_wp2_with fail
 refine(HD.out _).mono ?_;rintro e w1 ⟨rfl,hb1⟩;obtain⟨c1,f1⟩:=bcell hb1;have HB:=ak ((((Below.refl w.heap.size w).alloc (Nat.le_refl _) (.cells #[.int .i64 y,.int .i64 m,.int .u8 k,.int .i64 n,.int .i64 d,.int .i64 s,.int .u8 c] 188))).trans (hb1.mono (by simp)));clear hb1;go_wp2_with fail
 refine(HM.out _).mono ?_;rintro e w2 ⟨rfl,hb2⟩;replace HB:=ak (below_then HB.out hb2);clear hb2;go_wp2;go_ret
 exact⟨rfl,HB.out⟩
theorem checkUntil_bad (u:Mo.U)(w:World)(h:¬u.Ok):
  Calls Tryz.prog 167 #[u.v] w fun e w'=>e=.returned (.int .i64 2)∧Below w.heap.size w w':=by
 by_cases hc:InCal u.y u.m
 ·by_cases hd:Dy.Ok u.k u.n u.d
  ·have HD:=ak fun W=>dayCheck_ok u.k u.n u.d W hd
   have HM:=ak fun W=>momCheck_bad u.s u.c W (fun x=>h ⟨hc,hd,x⟩)
   obtain⟨h1,h2,h3,h4⟩:=hc;clear h hd;obtain⟨y,m,k,n,d,s,c⟩:=u;simp only at h1 h2 h3 h4 HD HM;unfold Mo.U.v;go_enter Tryz.func167,Tryz.ntmps167
   go_wp2_with fail
   refine(HD.out _).mono ?_;rintro e w1 ⟨rfl,hb1⟩;obtain⟨c1,f1⟩:=bcell hb1;have HB:=ak ((((Below.refl w.heap.size w).alloc (Nat.le_refl _) (.cells #[.int .i64 y,.int .i64 m,.int .u8 k,.int .i64 n,.int .i64 d,.int .i64 s,.int .u8 c] 188))).trans (hb1.mono (by simp)));clear hb1;go_wp2_with fail
   refine(HM.out _).mono ?_;rintro e w2 ⟨rfl,hb2⟩;replace HB:=ak (below_then HB.out hb2);clear hb2;go_wp2;go_ret
   exact⟨rfl,HB.out⟩
  ·have HD:=ak fun W=>dayCheck_bad u.k u.n u.d W hd
   obtain⟨h1,h2,h3,h4⟩:=hc;clear h hd;obtain⟨y,m,k,n,d,s,c⟩:=u;simp only at h1 h2 h3 h4 HD;unfold Mo.U.v;go_enter Tryz.func167,Tryz.ntmps167
   go_wp2_with fail
   refine(HD.out _).mono ?_;rintro e w1 ⟨rfl,hb1⟩;have HB:=ak ((((Below.refl w.heap.size w).alloc (Nat.le_refl _) (.cells #[.int .i64 y,.int .i64 m,.int .u8 k,.int .i64 n,.int .i64 d,.int .i64 s,.int .u8 c] 188))).trans (hb1.mono (by simp)));clear hb1;go_wp2;go_ret
   exact⟨rfl,HB.out⟩
 ·obtain⟨y,m,k,n,d,s,c⟩:=u;have h':y<1∨9999<y∨m<1∨12<m:=by unfold InCal at hc;simp only at hc;omega
  clear h hc;unfold Mo.U.v
  by_cases h1:y<1
  ·clear h';go_enter Tryz.func167,Tryz.ntmps167
   go_wp2;go_ret
   exact⟨rfl,al⟩
  by_cases h2:9999<y
  ·clear h';go_enter Tryz.func167,Tryz.ntmps167
   go_wp2;go_ret
   exact⟨rfl,al⟩
  by_cases h3:m<1
  ·clear h';go_enter Tryz.func167,Tryz.ntmps167
   go_wp2;go_ret
   exact⟨rfl,al⟩
  have h4:12<m:=by omega
  clear h';go_enter Tryz.func167,Tryz.ntmps167
  go_wp2;go_ret
  exact⟨rfl,al⟩
end Go.Proofs.YtjobhjemnmleaaaGreatDoor
namespace Go.Proofs.YtjobhjemnmleaaaGreatDoor
open Go.RowKit
namespace Mo
end Mo
theorem four {w:World}{g:Nat}{a b c d:Value}(h:At w g [a,b,c,d]):w.cell? ⟨g,0,none⟩=some a∧w.cell? ⟨g,1,none⟩=some b∧w.cell? ⟨g,2,none⟩=some c∧w.cell? ⟨g,3,none⟩=some d:=
 ⟨h.cell 0 a rfl,h.cell 1 b rfl,h.cell 2 c rfl,h.cell 3 d rfl⟩
end Go.Proofs.YtjobhjemnmleaaaGreatDoor
