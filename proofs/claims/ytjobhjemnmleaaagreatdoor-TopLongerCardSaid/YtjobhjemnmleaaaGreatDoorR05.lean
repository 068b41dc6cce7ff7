/- The contracts of package moment: Check, Nominal, Instant. -/
import Derived.Test.YtjobhjemnmleaaaGreatDoorR04
set_option maxRecDepth 100000
set_option maxHeartbeats 2000000
namespace Go.Proofs.YtjobhjemnmleaaaGreatDoor
open Go.RowKit
theorem bcell {B:Nat}{W w1:World}(hb:Below B W w1):(∀b o,b<B→w1.cell? ⟨b,o,none⟩=W.cell? ⟨b,o,none⟩)∧(∀b o,b<B→w1.frozen? ⟨b,o,none⟩=W.frozen? ⟨b,o,none⟩):=
 ⟨fun b o h=>hb.cell (p:=⟨b,o,none⟩) h,fun b o h=>hb.frozen (p:=⟨b,o,none⟩) h⟩
namespace Mo
def Ok (s c:Int):Prop:=IsTime s∧c<3
instance (s c:Int):Decidable (Ok s c):=by unfold Ok;exact inferInstance
def nom (k n d y m s c:Int):Int × Int:=if Ok s c then (if (Dy.inS k n d y m).2=0 then ((Dy.inS k n d y m).1*86400+s,0) else (0,(Dy.inS k n d y m).2)) else (0,2)
def ins (n c std save:Int):Int × Int:=
 if 3≤c then (0,2) else if InT n∧InT std∧InT save then (if c=0 then n - save - std else if c=1 then n - std else n,0) else (0,1)
end Mo
theorem momCheck_ok (s c:Int)(w:World)(h:Mo.Ok s c):
  Calls Tryz.prog 128 #[.agg #[.int .i64 s,.int .u8 c]] w fun e w'=>e=.returned (.int .i64 0)∧Below w.heap.size w w':=by
 obtain⟨⟨h1,h2⟩,h3⟩:=h;go_enter Tryz.func128,Tryz.ntmps128
 go_wp2;go_ret
 exact⟨rfl,al⟩
theorem momCheck_bad (s c:Int)(w:World)(h:¬Mo.Ok s c):
  Calls Tryz.prog 128 #[.agg #[.int .i64 s,.int .u8 c]] w fun e w'=>e=.returned (.int .i64 2)∧Below w.heap.size w w':=by
 have h':s < -604800∨604800<s∨3≤c:=by unfold Mo.Ok IsTime at h;omega
 clear h
 by_cases h1:s < -604800
 ·clear h';go_enter Tryz.func128,Tryz.ntmps128
  go_wp2;go_ret
  exact⟨rfl,al⟩
 ·by_cases h2:604800<s
  ·clear h';go_enter Tryz.func128,Tryz.ntmps128
   go_wp2;go_ret
   exact⟨rfl,al⟩
  ·have h3:3≤c:=(by omega);clear h';go_enter Tryz.func128,Tryz.ntmps128
   go_wp2;go_ret
   exact⟨rfl,al⟩
theorem inS_range (k n d y m a:Int)(h:Dy.inS k n d y m=(a,0)):-719162≤a∧a<2932897:=by
 unfold Dy.inS at h;split at h
 ·simp at h
 ·split at h
  ·simp at h
  ·split at h
   ·simp at h
   ·split at h
    ·rename_i hr
     simp at h
     subst h;exact hr
    ·simp at h
theorem nominal_any (y m k n d s c:Int)(w:World)(hW:Wo w):
  Calls Tryz.prog 108 #[.int .i64 y,.int .i64 m,.agg #[.int .u8 k,.int .i64 n,.int .i64 d],.agg #[.int .i64 s,.int .u8 c]] w fun e w'=>e=.returned (.tuple #[.int .i64 (Mo.nom k n d y m s c).1,.int .i64 (Mo.nom k n d y m s c).2])∧Below w.heap.size w w':=by
 by_cases hok:Mo.Ok s c
 ·obtain⟨a,b,hin⟩:∃a b,Dy.inS k n d y m=(a,b):=⟨_,_,rfl⟩
  have HC:=ak fun W=>momCheck_ok s c W hok
  have HI:=ak fun W hw=>in_is k n d y m W hw a b hin
  have HW:=ak hW
  by_cases hb0:b=0
  ·subst hb0;obtain⟨r1,r2⟩:=inS_range k n d y m a hin;have HX:Hid (Mo.nom k n d y m s c=(a*86400+s,0)):=by show Mo.nom k n d y m s c=_;unfold Mo.nom;rw[if_pos hok,hin];rfl
   have HA:=ak fun W=>at_ok a s W r1 r2 hok.1
   clear hin hok hW r1 r2;go_enter Tryz.func108,Tryz.ntmps108
   go_wp2_with fail
   refine(HC.out _).mono ?_;rintro e w1 ⟨rfl,hb1⟩;obtain⟨c1,f1⟩:=bcell hb1;have HB:=ak ((((Below.refl w.heap.size w).alloc (Nat.le_refl _) (.cells #[.int .u8 k,.int .i64 n,.int .i64 d] 110)).alloc (by simp) (.cells #[.int .i64 s,.int .u8 c] 107)).trans (hb1.mono (by simp;omega)));have z1:w.heap.size+1<w1.heap.size:=by have:=hb1.size;simp at this;omega
   clear hb1;go_wp2_with fail
   refine(HI.out _ (HW.out.below HB.out)).mono ?_;rintro e w2 ⟨rfl,hb2⟩;obtain⟨c2,f2⟩:=bcell hb2;replace HB:=ak (below_then HB.out hb2);clear hb2;go_wp2_with fail
   refine(HA.out _).mono ?_;rintro e w3 ⟨rfl,hb3⟩;replace HB:=ak (below_then HB.out hb3);clear hb3;go_wp2;go_ret2
   exact⟨ret_int22 (by rw[HX.out]) (by rw[HX.out]),HB.out⟩
  ·have HX:Hid (Mo.nom k n d y m s c=(0,b)):=by show Mo.nom k n d y m s c=_;unfold Mo.nom;rw[if_pos hok,hin];exact if_neg hb0
   have q:(b != 0)=true:=by simpa using hb0
   have q':(b == 0)=false:=by simpa using hb0
   clear hin hok hW;go_enter Tryz.func108,Tryz.ntmps108
   go_wp2_with fail
   refine(HC.out _).mono ?_;rintro e w1 ⟨rfl,hb1⟩;obtain⟨c1,f1⟩:=bcell hb1;have HB:=ak ((((Below.refl w.heap.size w).alloc (Nat.le_refl _) (.cells #[.int .u8 k,.int .i64 n,.int .i64 d] 110)).alloc (by simp) (.cells #[.int .i64 s,.int .u8 c] 107)).trans (hb1.mono (by simp;omega)));have z1:w.heap.size+1<w1.heap.size:=by have:=hb1.size;simp at this;omega
   clear hb1;go_wp2_with fail
   refine(HI.out _ (HW.out.below HB.out)).mono ?_;rintro e w2 ⟨rfl,hb2⟩;replace HB:=ak (below_then HB.out hb2);clear hb2;go_wp2;go_ret2
   exact⟨ret_int22 (by rw[HX.out]) (by rw[HX.out]),HB.out⟩
 ·have HX:Hid (Mo.nom k n d y m s c=(0,2)):=by show Mo.nom k n d y m s c=_;unfold Mo.nom;rw[if_neg hok]
  have HC:=ak fun W=>momCheck_bad s c W hok
  clear hok hW;go_enter Tryz.func108,Tryz.ntmps108
  go_wp2_with fail
  refine(HC.out _).mono ?_;rintro e w1 ⟨rfl,hb1⟩;have HB:=ak ((((Below.refl w.heap.size w).alloc (Nat.le_refl _) (.cells #[.int .u8 k,.int .i64 n,.int .i64 d] 110)).alloc (by simp) (.cells #[.int .i64 s,.int .u8 c] 107)).trans (hb1.mono (by simp;omega)));clear hb1;go_wp2;go_ret2
  exact⟨ret_int22 (by rw[HX.out]) (by rw[HX.out]),HB.out⟩
theorem inT_bd (n:Int)(h:¬InT n):n < -1099511627776∨1099511627776<n:=by unfold InT at h;omega
theorem instant_any (n c std save:Int)(w:World)(hc:0≤c):
  Calls Tryz.prog 109 #[.int .i64 n,.int .u8 c,.int .i64 std,.int .i64 save] w fun e w'=>e=.returned (.tuple #[.int .i64 (Mo.ins n c std save).1,.int .i64 (Mo.ins n c std save).2])∧w=w':=by
 have i0:∀w,(Instr.index 270 (.agg #[.int .i64 n,.int .i64 std,.int .i64 save]) (.int .i64 0)).run Tryz.prog w=.ok (.int .i64 n) w:=fun _=>by kernel_rfl
 have i1:∀w,(Instr.index 270 (.agg #[.int .i64 n,.int .i64 std,.int .i64 save]) (.int .i64 1)).run Tryz.prog w=.ok (.int .i64 std) w:=fun _=>by kernel_rfl
 have i2:∀w,(Instr.index 270 (.agg #[.int .i64 n,.int .i64 std,.int .i64 save]) (.int .i64 2)).run Tryz.prog w=.ok (.int .i64 save) w:=fun _=>by kernel_rfl
 by_cases h3:3≤c
 ·have HX:Hid (Mo.ins n c std save=(0,2)):=by show Mo.ins n c std save=_;unfold Mo.ins;rw[if_pos h3]
  go_enter Tryz.func109,Tryz.ntmps109
  go_wp2;go_ret2
  exact⟨ret_int22 (by rw[HX.out]) (by rw[HX.out]),rfl⟩
 by_cases h:InT n∧InT std∧InT save
 ·have hX:Mo.ins n c std save=(if c=0 then n - save - std else if c=1 then n - std else n,0):=by unfold Mo.ins;rw[if_neg h3,if_pos h]
  obtain⟨⟨a1,a2⟩,⟨b1,b2⟩,⟨c1,c2⟩⟩:=h;have hcc:c=0∨c=1∨c=2:=by omega
  rcases hcc with rfl|rfl|rfl
  all_goals
   have HX:=ak hX;clear hX h3 hc;go_enter Tryz.func109,Tryz.ntmps109
   go_wp2;go_loop [18] (fun i=>∃k:Nat,k≤3∧i=.int .i64 k) (fun i=>3 - (intOf i).toNat)
   case atStart=>exact⟨0,by omega,rfl⟩
   case round=>
    obtain⟨k,hk,rfl⟩:=hrel;have:k=0∨k=1∨k=2∨k=3:=(by omega);rcases this with rfl|rfl|rfl|rfl
    ·go_wp2;go_round
     case rel=>exact⟨1,by omega,rfl⟩
     case measure=>simp[intOf]
    ·go_wp2;go_round
     case rel=>exact⟨2,by omega,rfl⟩
     case measure=>simp[intOf]
    ·go_wp2;go_round
     case rel=>exact⟨3,by omega,rfl⟩
     case measure=>simp[intOf]
    ·go_wp2;go_ret2
     exact⟨ret_int22 (by rw[HX.out];rfl) (by rw[HX.out]),rfl⟩
 ·have HX:Hid (Mo.ins n c std save=(0,1)):=by show Mo.ins n c std save=_;unfold Mo.ins;rw[if_neg h3,if_neg h]
  by_cases ha:InT n
  ·by_cases hb:InT std
   ·have hs:¬InT save:=fun x=>h ⟨ha,hb,x⟩
    obtain⟨a1,a2⟩:=ha;obtain⟨b1,b2⟩:=hb;rcases inT_bd _ hs with h1|h1
    all_goals
     clear h hs;go_enter Tryz.func109,Tryz.ntmps109
     go_wp2;go_loop [18] (fun i=>∃k:Nat,k≤2∧i=.int .i64 k) (fun i=>3 - (intOf i).toNat)
     case atStart=>exact⟨0,by omega,rfl⟩
     case round=>
      obtain⟨k,hk,rfl⟩:=hrel;have:k=0∨k=1∨k=2:=(by omega);rcases this with rfl|rfl|rfl
      ·go_wp2;go_round
       case rel=>exact⟨1,by omega,rfl⟩
       case measure=>simp[intOf]
      ·go_wp2;go_round
       case rel=>exact⟨2,by omega,rfl⟩
       case measure=>simp[intOf]
      ·go_wp2;go_ret2
       exact⟨ret_int22 (by rw[HX.out]) (by rw[HX.out]),rfl⟩
   ·obtain⟨a1,a2⟩:=ha;rcases inT_bd _ hb with h1|h1
    all_goals
     clear h hb;go_enter Tryz.func109,Tryz.ntmps109
     go_wp2;go_loop [18] (fun i=>∃k:Nat,k≤1∧i=.int .i64 k) (fun i=>3 - (intOf i).toNat)
     case atStart=>exact⟨0,by omega,rfl⟩
     case round=>
      obtain⟨k,hk,rfl⟩:=hrel;have:k=0∨k=1:=(by omega);rcases this with rfl|rfl
      ·go_wp2;go_round
       case rel=>exact⟨1,by omega,rfl⟩
       case measure=>simp[intOf]
      ·go_wp2;go_ret2
       exact⟨ret_int22 (by rw[HX.out]) (by rw[HX.out]),rfl⟩
  ·rcases inT_bd _ ha with h1|h1
   all_goals
    clear h ha;go_enter Tryz.func109,Tryz.ntmps109
    go_wp2;go_loop [18] (fun i=>i=.int .i64 0) (fun i=>3 - (intOf i).toNat)
    case atStart=>exact rfl
    case round=>
     obtain rfl:=hrel;go_wp2;go_ret2
     exact⟨ret_int22 (by rw[HX.out]) (by rw[HX.out]),rfl⟩
end Go.Proofs.YtjobhjemnmleaaaGreatDoor
namespace Go.Proofs.YtjobhjemnmleaaaGreatDoor
open Go.RowKit
namespace Mo
end Mo
theorem ba_ne (s:ByteArray)(l:List UInt8)(h:¬s=⟨l.toArray⟩):(s.toList == l)=false:=by
 rw[beq_eq_false_iff_ne];intro e;apply h;apply ByteArray.ext;rw[ByteArray.toList_eq] at e;simp[← e]
namespace Mo
end Mo
end Go.Proofs.YtjobhjemnmleaaaGreatDoor
namespace Go.Proofs.YtjobhjemnmleaaaGreatDoor
open Go.RowKit
namespace Ab
def sgn (c:Int):Bool:=decide ((97≤c∧c≤122)∨(65≤c∧c≤90)∨(48≤c∧c≤57)∨c=43∨c=45)
def signs (l:List UInt8):Bool:=l.all fun c=>sgn (c.toNat:Int)
def all (ss:List ByteArray):Bool:=ss.all fun s=>signs (tl s)
def letter (s:ByteArray):Bool:=decide (s.size≤32) && !decide (s=⟨#[45]⟩) && signs (tl s)
theorem cases_ (c:Int)(h0:0≤c)(h1:c≤255):(0≤c∧c≤42)∨(43≤c∧c≤43)∨(44≤c∧c≤44)∨(45≤c∧c≤45)∨(46≤c∧c≤47)∨(48≤c∧c≤57)∨(58≤c∧c≤64)∨(65≤c∧c≤90)∨(91≤c∧c≤96)∨(97≤c∧c≤122)∨(123≤c∧c≤255):=by omega
theorem signs_step (l:List UInt8)(k:Nat)(c:UInt8)(X Y:Bool)(h:X=(signs (l.drop k) && Y))(hc:l[k]?=some c):X=(sgn (c.toNat:Int) && (signs (l.drop (k+1)) && Y)):=by
 rw[h,drop_of hc];unfold signs;rw[List.all_cons,Bool.and_assoc]
end Ab
theorem signs_any (A:Option Addr)(n c:Nat)(ss:List ByteArray)(w:World)(hn:n≤maxLen)(hr:Reads w w.heap.size 1 A n (ss.map Value.string))(hs:∀t∈ss,t.size≤1000000):
  Calls Tryz.prog 164 #[.slice A n c] w fun e w'=>e=.returned (.bool (Ab.all ss))∧w=w':=by
 unfold maxLen at hn;have hlen:ss.length=n:=by have:=hr.1;simpa using this
 obtain⟨X,hX⟩:=aj (Ab.all ss)
 have h0:X=Ab.all (ss.drop 0):=hX.symm;rw[hX];have H0:=ak h0;have HR:=ak hr;have HS:=ak hs;have HLen:=ak hlen;clear hX h0 hr hs hlen;go_enter Tryz.func164,Tryz.ntmps164
 go_wp2;go_loop [9] (fun i=>∃k:Nat,k≤n∧i=.int .i64 k∧Hid (X=Ab.all (ss.drop k))) (fun i=>n - (intOf i).toNat)
 case atStart=>exact⟨0,Nat.zero_le _,rfl,H0.out⟩
 case round=>
  obtain⟨k,hk,rfl,HK⟩:=hrel
  by_cases hlt:k<n
  ·obtain⟨ad,s,rfl,hnm,hcell⟩:∃ad nm,A=some ad∧Hid (ss[k]?=some nm)∧w.cell? (ad.add k)=some (.string nm):=reads_str HR.out hlt;have q1:=am k
   have q2:(k:Int)<(n:Int):=(by omega);have hsz:s.size≤1000000:=HS.out s (List.mem_iff_getElem?.2 ⟨k,hnm.out⟩);obtain⟨Y,hY⟩:=aj (Ab.all (ss.drop (k+1)))
   have hX2:X=(Ab.signs ((tl s).drop 0) && Y):=by
    rw[HK.out,drop_of hnm.out,← hY];rfl
   have HY:=ak hY;have HX2:=ak hX2;clear hY hX2;go_wp2;go_loop [15] (fun i=>∃j:Nat,j≤s.size∧i=.int .i64 j∧Hid (X=(Ab.signs ((tl s).drop j) && Y))) (fun i=>s.size - (intOf i).toNat)
   case atStart=>exact⟨0,Nat.zero_le _,rfl,HX2.out⟩
   case round=>
    obtain⟨j,hj,rfl,HJ⟩:=hrel
    by_cases hlj:j<s.size
    ·have p1:=am j
     have p2:(j:Int)<(s.size:Int):=(by omega);obtain⟨b1,b2⟩:=u8_bd s[j];have hst:=Ab.signs_step (tl s) j s[j] X Y HJ.out (Dy.tl_get s j hlj);have hcs:=Ab.cases_ (s[j].toNat:Int) b1 b2;have HSt:=ak hst;clear hst;rcases hcs with hc|hc|hc|hc|hc|hc|hc|hc|hc|hc|hc
     ·obtain⟨i1,i2⟩:=hc;have f97:¬97≤(s[j].toNat:Int):=(by omega);have f65:¬65≤(s[j].toNat:Int):=(by omega);have f48:¬48≤(s[j].toNat:Int):=(by omega);have e43:((s[j].toNat:Int) == 43)=false:=bqf (by omega);have e45:((s[j].toNat:Int) == 45)=false:=bqf (by omega);have HG:Hid (X=false):=by
       show X=false
       rw[HSt.out];have:Ab.sgn (s[j].toNat:Int)=false:=by unfold Ab.sgn;rw[decide_eq_false_iff_not];omega
       rw[this,Bool.false_and]
      go_wp2;go_ret
      exact⟨ret_bool (by rw[HG.out]),rfl⟩
     ·obtain⟨i1,i2⟩:=hc;have f97:¬97≤(s[j].toNat:Int):=(by omega);have f65:¬65≤(s[j].toNat:Int):=(by omega);have f48:¬48≤(s[j].toNat:Int):=(by omega);have e43:((s[j].toNat:Int) == 43)=true:=by rw[beq_iff_eq];omega
      have e45:((s[j].toNat:Int) == 45)=false:=bqf (by omega);have HG:Hid (X=(Ab.signs ((tl s).drop (j+1)) && Y)):=by
       show X=_
       rw[HSt.out];have:Ab.sgn (s[j].toNat:Int)=true:=by unfold Ab.sgn;rw[decide_eq_true_eq];omega
       rw[this,Bool.true_and]
      go_wp2;go_round
      case rel=>exact⟨j+1,by omega,by go_num,HG⟩
      case measure=>simp[intOf];omega
     ·obtain⟨i1,i2⟩:=hc;have f97:¬97≤(s[j].toNat:Int):=(by omega);have f65:¬65≤(s[j].toNat:Int):=(by omega);have f48:¬48≤(s[j].toNat:Int):=(by omega);have e43:((s[j].toNat:Int) == 43)=false:=bqf (by omega);have e45:((s[j].toNat:Int) == 45)=false:=bqf (by omega);have HG:Hid (X=false):=by
       show X=false
       rw[HSt.out];have:Ab.sgn (s[j].toNat:Int)=false:=by unfold Ab.sgn;rw[decide_eq_false_iff_not];omega
       rw[this,Bool.false_and]
      go_wp2;go_ret
      exact⟨ret_bool (by rw[HG.out]),rfl⟩
     ·obtain⟨i1,i2⟩:=hc;have f97:¬97≤(s[j].toNat:Int):=(by omega);have f65:¬65≤(s[j].toNat:Int):=(by omega);have f48:¬48≤(s[j].toNat:Int):=(by omega);have e43:((s[j].toNat:Int) == 43)=false:=bqf (by omega);have e45:((s[j].toNat:Int) == 45)=true:=by rw[beq_iff_eq];omega
      have HG:Hid (X=(Ab.signs ((tl s).drop (j+1)) && Y)):=by
       show X=_
       rw[HSt.out];have:Ab.sgn (s[j].toNat:Int)=true:=by unfold Ab.sgn;rw[decide_eq_true_eq];omega
       rw[this,Bool.true_and]
      go_wp2;go_round
      case rel=>exact⟨j+1,by omega,by go_num,HG⟩
      case measure=>simp[intOf];omega
     ·obtain⟨i1,i2⟩:=hc;have f97:¬97≤(s[j].toNat:Int):=(by omega);have f65:¬65≤(s[j].toNat:Int):=(by omega);have f48:¬48≤(s[j].toNat:Int):=(by omega);have e43:((s[j].toNat:Int) == 43)=false:=bqf (by omega);have e45:((s[j].toNat:Int) == 45)=false:=bqf (by omega);have HG:Hid (X=false):=by
       show X=false
       rw[HSt.out];have:Ab.sgn (s[j].toNat:Int)=false:=by unfold Ab.sgn;rw[decide_eq_false_iff_not];omega
       rw[this,Bool.false_and]
      go_wp2;go_ret
      exact⟨ret_bool (by rw[HG.out]),rfl⟩
     ·obtain⟨i1,i2⟩:=hc;have f97:¬97≤(s[j].toNat:Int):=(by omega);have f65:¬65≤(s[j].toNat:Int):=(by omega);have f48:48≤(s[j].toNat:Int):=(by omega);have f57:(s[j].toNat:Int)≤57:=(by omega);have e43:((s[j].toNat:Int) == 43)=false:=bqf (by omega);have e45:((s[j].toNat:Int) == 45)=false:=bqf (by omega);have HG:Hid (X=(Ab.signs ((tl s).drop (j+1)) && Y)):=by
       show X=_
       rw[HSt.out];have:Ab.sgn (s[j].toNat:Int)=true:=by unfold Ab.sgn;rw[decide_eq_true_eq];omega
       rw[this,Bool.true_and]
      go_wp2;go_round
      case rel=>exact⟨j+1,by omega,by go_num,HG⟩
      case measure=>simp[intOf];omega
     ·obtain⟨i1,i2⟩:=hc;have f97:¬97≤(s[j].toNat:Int):=(by omega);have f65:¬65≤(s[j].toNat:Int):=(by omega);have f48:48≤(s[j].toNat:Int):=(by omega);have f57:¬(s[j].toNat:Int)≤57:=(by omega);have e43:((s[j].toNat:Int) == 43)=false:=bqf (by omega);have e45:((s[j].toNat:Int) == 45)=false:=bqf (by omega);have HG:Hid (X=false):=by
       show X=false
       rw[HSt.out];have:Ab.sgn (s[j].toNat:Int)=false:=by unfold Ab.sgn;rw[decide_eq_false_iff_not];omega
       rw[this,Bool.false_and]
      go_wp2;go_ret
      exact⟨ret_bool (by rw[HG.out]),rfl⟩
     ·obtain⟨i1,i2⟩:=hc;have f97:¬97≤(s[j].toNat:Int):=(by omega);have f65:65≤(s[j].toNat:Int):=(by omega);have f90:(s[j].toNat:Int)≤90:=(by omega);have f48:48≤(s[j].toNat:Int):=(by omega);have f57:¬(s[j].toNat:Int)≤57:=(by omega);have e43:((s[j].toNat:Int) == 43)=false:=bqf (by omega);have e45:((s[j].toNat:Int) == 45)=false:=bqf (by omega);have HG:Hid (X=(Ab.signs ((tl s).drop (j+1)) && Y)):=by
       show X=_
       rw[HSt.out];have:Ab.sgn (s[j].toNat:Int)=true:=by unfold Ab.sgn;rw[decide_eq_true_eq];omega
       rw[this,Bool.true_and]
      go_wp2;go_round
      case rel=>exact⟨j+1,by omega,by go_num,HG⟩
      case measure=>simp[intOf];omega
     ·obtain⟨i1,i2⟩:=hc;have f97:¬97≤(s[j].toNat:Int):=(by omega);have f65:65≤(s[j].toNat:Int):=(by omega);have f90:¬(s[j].toNat:Int)≤90:=(by omega);have f48:48≤(s[j].toNat:Int):=(by omega);have f57:¬(s[j].toNat:Int)≤57:=(by omega);have e43:((s[j].toNat:Int) == 43)=false:=bqf (by omega);have e45:((s[j].toNat:Int) == 45)=false:=bqf (by omega);have HG:Hid (X=false):=by
       show X=false
       rw[HSt.out];have:Ab.sgn (s[j].toNat:Int)=false:=by unfold Ab.sgn;rw[decide_eq_false_iff_not];omega
       rw[this,Bool.false_and]
      go_wp2;go_ret
      exact⟨ret_bool (by rw[HG.out]),rfl⟩
     ·obtain⟨i1,i2⟩:=hc;have f97:97≤(s[j].toNat:Int):=(by omega);have f122:(s[j].toNat:Int)≤122:=(by omega);have f65:65≤(s[j].toNat:Int):=(by omega);have f90:¬(s[j].toNat:Int)≤90:=(by omega);have f48:48≤(s[j].toNat:Int):=(by omega);have f57:¬(s[j].toNat:Int)≤57:=(by omega);have e43:((s[j].toNat:Int) == 43)=false:=bqf (by omega);have e45:((s[j].toNat:Int) == 45)=false:=bqf (by omega);have HG:Hid (X=(Ab.signs ((tl s).drop (j+1)) && Y)):=by
       show X=_
       rw[HSt.out];have:Ab.sgn (s[j].toNat:Int)=true:=by unfold Ab.sgn;rw[decide_eq_true_eq];omega
       rw[this,Bool.true_and]
      go_wp2;go_round
      case rel=>exact⟨j+1,by omega,by go_num,HG⟩
      case measure=>simp[intOf];omega
     ·obtain⟨i1,i2⟩:=hc;have f97:97≤(s[j].toNat:Int):=(by omega);have f122:¬(s[j].toNat:Int)≤122:=(by omega);have f65:65≤(s[j].toNat:Int):=(by omega);have f90:¬(s[j].toNat:Int)≤90:=(by omega);have f48:48≤(s[j].toNat:Int):=(by omega);have f57:¬(s[j].toNat:Int)≤57:=(by omega);have e43:((s[j].toNat:Int) == 43)=false:=bqf (by omega);have e45:((s[j].toNat:Int) == 45)=false:=bqf (by omega);have HG:Hid (X=false):=by
       show X=false
       rw[HSt.out];have:Ab.sgn (s[j].toNat:Int)=false:=by unfold Ab.sgn;rw[decide_eq_false_iff_not];omega
       rw[this,Bool.false_and]
      go_wp2;go_ret
      exact⟨ret_bool (by rw[HG.out]),rfl⟩
    ·obtain rfl:j=s.size:=by omega
     have HX3:Hid (X=Ab.all (ss.drop (k+1))):=by
      show X=_
      rw[HJ.out,List.drop_eq_nil_of_le (by rw[tl_length];exact Nat.le_refl _),HY.out];rfl
     go_wp2;go_round
     case rel=>exact⟨k+1,by omega,by go_num,HX3⟩
     case measure=>simp[intOf];omega
  ·obtain rfl:k=n:=by omega
   have HX3:Hid (X=true):=by
    show X=true
    rw[HK.out,List.drop_eq_nil_of_le (by have:=HLen.out;omega)];rfl
   go_wp2;go_ret
   exact⟨ret_bool (by rw[HX3.out]),rfl⟩
theorem reads_one (w:World)(s:ByteArray)(t:TypeId):Reads (w.alloc (.cells #[.string s] t)) (w.alloc (.cells #[.string s] t)).heap.size 1 (some ⟨w.heap.size,0,none⟩) 1 ([s].map Value.string):=reads_new w [s] t
theorem checkLetter_yes (s:ByteArray)(w:World)(hs:s.size≤1000000)(h:Ab.letter s=true):
  Calls Tryz.prog 129 #[.string s] w fun e w'=>e=.returned (.int .i64 0)∧Below w.heap.size w w':=by
 unfold Ab.letter at h;simp only[Bool.and_eq_true,decide_eq_true_eq,Bool.not_eq_true',decide_eq_false_iff_not] at h;obtain⟨⟨h1,h2⟩,h3⟩:=h;have q1:¬(32:Int)<(s.size:Int):=by omega
 have q2:(s.toList == [45])=false:=ba_ne s [45] h2;have HS:=ak fun W=>calls_bool (signs_any _ 1 1 [s] (W.alloc (.cells #[.string s] 9)) (by decide) (reads_one W s _) (by intro t ht;simp at ht;subst ht;exact hs)) (show _=true by unfold Ab.all;simp[h3])
 clear h1 h2 h3;go_enter Tryz.func129,Tryz.ntmps129
 go_wp2_with fail
 refine(HS.out _).mono ?_;rintro e w1 ⟨rfl,rfl⟩;go_wp2;go_ret
 exact⟨rfl,al⟩
theorem checkLetter_no (s:ByteArray)(w:World)(hs:s.size≤1000000)(h:Ab.letter s=false):
  Calls Tryz.prog 129 #[.string s] w fun e w'=>e=.returned (.int .i64 2)∧Below w.heap.size w w':=by
 unfold Ab.letter at h
 by_cases h1:s.size≤32
 ·have q1:¬(32:Int)<(s.size:Int):=by omega
  rw[decide_eq_true h1,Bool.true_and] at h
  by_cases h2:s=⟨#[45]⟩
  ·have q2:(s.toList == [45])=true:=by rw[h2,ByteArray.toList_eq];rfl
   clear h h1 h2;go_enter Tryz.func129,Tryz.ntmps129
   go_wp2;go_ret
   exact⟨rfl,Below.refl _ _⟩
  ·rw[decide_eq_false h2] at h;have h3:Ab.signs (tl s)=false:=by simpa using h
   have q2:(s.toList == [45])=false:=ba_ne s [45] h2;have HS:=ak fun W=>calls_bool (signs_any _ 1 1 [s] (W.alloc (.cells #[.string s] 9)) (by decide) (reads_one W s _) (by intro t ht;simp at ht;subst ht;exact hs)) (show _=false by unfold Ab.all;simp[h3])
   clear h h1 h2 h3;go_enter Tryz.func129,Tryz.ntmps129
   go_wp2_with fail
   refine(HS.out _).mono ?_;rintro e w1 ⟨rfl,rfl⟩;go_wp2;go_ret
   exact⟨rfl,al⟩
 ·have q1:(32:Int)<(s.size:Int):=by omega
  clear h h1;go_enter Tryz.func129,Tryz.ntmps129
  go_wp2;go_ret
  exact⟨rfl,Below.refl _ _⟩
end Go.Proofs.YtjobhjemnmleaaaGreatDoor
