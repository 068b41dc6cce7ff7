/- squeeze.Missed: the years of a plan that have no record of their own. -/
import Derived.Test.YtjobhjemnmleaaaGreatDoorR43
set_option maxRecDepth 200000
set_option maxHeartbeats 16000000
namespace Go.Proofs.YtjobhjemnmleaaaGreatDoor
open Go.RowKit Go.Sort
theorem missed_info : (Tryz.prog.info? 86).map (fun i=>(i.zero,i.size,i.bytes))=some (some (.agg #[.string ⟨#[]⟩,.int .i64 0,.int .u8 0]),3,32):=by kernel_rfl
namespace Cm
def mc (key:ByteArray)(q:Int × Int):List Value:=[.string key,.int .i64 q.1,.int .u8 q.2]
def mcs (key:ByteArray)(l:List (Int × Int)):List Value:=l.flatMap (mc key)
theorem mcs_snoc (key:ByteArray)(l:List (Int × Int))(q:Int × Int):mcs key (l ++ [q])=mcs key l ++ mc key q:=by unfold mcs;rw[List.flatMap_append];simp
theorem missed_app {x:Int}:∀{l:List Int} {lo:Int},missed lo (l ++ [x])=missed lo l ++ (if x≠0 then [(lo+(l.length:Int),x)] else [])
 |[],lo=>by
  show (if x≠0 then [(lo,x)] else []) ++ []=[] ++ _
  rw[List.append_nil,List.nil_append];simp
 |y :: l,lo=>by
  show (if y≠0 then [(lo,y)] else []) ++ missed (lo+1) (l ++ [x])=((if y≠0 then [(lo,y)] else []) ++ missed (lo+1) l) ++ _
  rw[missed_app,List.append_assoc,show lo+1+(l.length:Int)=lo+((y :: l).length:Int) by simp;omega]
theorem missed_len : ∀(l:List Int) (lo:Int),(missed lo l).length≤l.length
 |[],_=>Nat.le_refl _
 |x :: l,lo=>by
  have h:=missed_len l (lo+1);unfold missed;split <;> simp <;> omega
def MsRet (key:ByteArray)(lo:Int)(l:List Int)(w:World)(e:Ending)(w':World):Prop:=(∃v,e=.returned v∧w'.ownsRow w.heap.size 86 3 v (missed lo l).length (mcs key (missed lo l)))∧Below w.heap.size w w'
end Cm
theorem sqMissed_ok (key:ByteArray)(lo:Int)(p:Cm.P)(B n g1 g2 c1 c2:Nat)(w:World)(h:Cm.Rd B n g1 g2 c1 c2 p w)(hl:p.why.length=n)(hn:n≤400)(hlo:1601≤lo)(hhi:lo+(n:Int)≤10000):
  Calls Tryz.prog 36 #[.string key,.agg #[.int .i64 lo,.slice (some ⟨g1,0,none⟩) n c1,.slice (some ⟨g2,0,none⟩) n c2]] w (Cm.MsRet key lo p.why w):=by
 have had:∀j,(⟨g2,0,none⟩:Addr).add j=⟨g2,j,none⟩:=add_zero_at g2;obtain⟨P,hP⟩:=aj (Cm.MsRet key lo p.why w)
 rw[hP];have HP:=ak hP;obtain⟨ws,hws⟩:=aj (p.why)
 rw[hws] at hl HP;have HW:Hid (∀W,Below w.heap.size w W→∀i x,ws[i]?=some x→W.cell? ⟨g2,i,none⟩=some (.int .u8 x)∧g2<W.heap.size):=fun W hb i x hx=>⟨(h.call hb).why_at (by rw[hws];exact hx),(h.call hb).lt2⟩
 have HL:=ak hl;clear h hP hl hws;obtain⟨V1,gP,HEV1,HGgP,HS⟩:=(St.start w).lay #[.int .i64 lo,.slice (some ⟨g1,0,none⟩) n c1,.slice (some ⟨g2,0,none⟩) n c2] 53;have P0:=(HS.out.get 0 rfl).cell 0 _ rfl;have P1:=(HS.out.get 0 rfl).cell 1 _ rfl;have P2:=(HS.out.get 0 rfl).cell 2 _ rfl;have zP:=(HS.out.get 0 rfl).lt;go_enter Tryz.func36,Tryz.ntmps36
 go_upto_region 1 with fail
 rw[HEV1.out]
 try rw[HGgP.out]
 have HO:Hid (V1.ownsRow (gP+1) 86 3 (.slice none 0 0) (Cm.missed lo (ws.take 0)).length (Cm.mcs key (Cm.missed lo (ws.take 0)))):=World.ownsRow_nil _ _ _ _;go_wp2_with fail
 clear P0 P1 P2 zP;go_loopw [5,11] (fun v i wr=>∃k:Nat,k≤n∧i=.int .i64 (k:Int)∧∃A c,v=.slice A (Cm.missed lo (ws.take k)).length c∧Hid (St w wr [(gP,[.int .i64 lo,.slice (some ⟨g1,0,none⟩) n c1,.slice (some ⟨g2,0,none⟩) n c2])])∧Hid (wr.ownsRow (gP+1) 86 3 (.slice A (Cm.missed lo (ws.take k)).length c) (Cm.missed lo (ws.take k)).length (Cm.mcs key (Cm.missed lo (ws.take k))))) (fun _ i _=>n - (intOf i).toNat)
 case atStart=>exact⟨0,Nat.zero_le _,rfl,none,0,rfl,HS.out,HO.out⟩
 case round=>
  clear HS HO;obtain⟨k,hk,rfl,A,c,rfl,HS,HO⟩:=hrel
  by_cases hlt:k<n
  ·have q1:=am k
   have q2:(k:Int)<(n:Int):=(by omega);have wk:IntKind.i64.wrap ((k:Int)+1)=(k:Int)+1:=by rw[IntKind.wrap_i64];omega
   have w1:IntKind.i64.wrap (9999 - (k:Int))=9999 - (k:Int):=by rw[IntKind.wrap_i64];omega
   have w2:IntKind.i64.wrap (lo+(k:Int))=lo+(k:Int):=by rw[IntKind.wrap_i64];omega
   have d1:¬9999 - (k:Int)<lo:=(by omega);have d1':=decide_eq_false d1;obtain⟨x,hx⟩:∃x,ws[k]?=some x:=⟨_,List.getElem?_eq_getElem (by rw[HL.out];exact hlt)⟩
   obtain⟨c0,zc⟩:=HW.out wr HS.out.b k x hx;have htk:ws.take (k+1)=ws.take k ++ [x]:=by rw[List.take_add_one,hx];rfl
   have hms:=Cm.missed_app (x:=x) (l:=ws.take k) (lo:=lo);rw[← htk,List.length_take,HL.out,Nat.min_eq_left hk] at hms;have hml:=Cm.missed_len (ws.take k) lo;rw[List.length_take,HL.out,Nat.min_eq_left hk] at hml;obtain⟨M,hM⟩:=aj (Cm.missed lo (ws.take k))
   rw[hM] at hms hml HO;rw[hM];obtain⟨mn,hmn⟩:=aj (M.length)
   rw[hmn] at hml HO;rw[hmn];have HMn:=ak hmn;clear hx htk hM hmn
   by_cases hx0:x=0
   ·subst hx0;rw[if_neg (fun q=>q rfl),List.append_nil] at hms;have HMs:=ak hms;clear hms;have P0:=(HS.out.get 0 rfl).cell 0 _ rfl;have zP:=(HS.out.get 0 rfl).lt;go_wp2;go_roundw
    case rel=>
     refine⟨k+1,by omega,by go_num,A,c,?_,HS.out,?_⟩
     ·rw[HMs.out,HMn.out]
     ·rw[HMs.out,HMn.out];exact HO.out
    case measure=>simp[intOf];omega
   ·rw[if_pos hx0] at hms;have HMs:=ak hms;have z1:(x == 0)=false:=by rw[beq_eq_false_iff_ne];exact hx0
    have z2:(x != 0)=true:=by rw[bne_iff_ne];exact hx0
    have P0:=(HS.out.get 0 rfl).cell 0 _ rfl;have zP:=(HS.out.get 0 rfl).lt;have zP1:gP+1≤wr.heap.size:=zP;clear hms hx0;have HAp:=fun {ops:Array Oper} {rest:List Oper} {o:Oper} {a:Act} {Q:Exit→Act→World→Prop} hgd ho hs hx h=>row_append (ops:=ops) (rest:=rest) (o:=o) (a:=a) (Q:=Q) 83 86 3 32 _ #[.string key,.int .i64 (lo+(k:Int)),.int .u8 x] Tryz.underlying83 missed_info rfl (by decide) rfl (by
     intro u hu;simp at hu
     rcases hu with rfl|rfl|rfl <;> rfl) (by decide) wr (gP+1) mn _ (.slice A mn c) 23 31 wr.heap.size rfl HO.out (by omega) zP1 hgd ho hs hx h
    go_upto_region 8 with (at_builtin;refine HAp rfl rfl rfl rfl ?_;intro v9 U4 hown9 hb9 hg9 hat9)
    obtain⟨A9,c9,rfl,_,_⟩:=own_slice_cap hown9;have HS4:=ak (show St w U4 [(gP,[.int .i64 lo,.slice (some ⟨g1,0,none⟩) n c1,.slice (some ⟨g2,0,none⟩) n c2])] from⟨HS.out.b.trans (hb9.mono (by have:=HS.out.ge 0 rfl;omega)),Ats.below HS.out.z hb9 (Ats.top HS.out.z)⟩);have HO9:=ak hown9;clear HAp hg9 hat9 hown9 hb9 HS HO;go_wp2;go_roundw
    case rel=>
     refine⟨k+1,by omega,by go_num,A9,c9,?_,HS4.out,?_⟩
     ·rw[HMs.out,List.length_append,HMn.out];rfl
     ·rw[HMs.out,List.length_append,HMn.out,Cm.mcs_snoc];exact HO9.out
    case measure=>simp[intOf];omega
  ·have hkn:k=n:=(by omega);subst hkn;have q2:¬(k:Int)<(k:Int):=(by omega);have HTk:Hid (ws.take k=ws):=List.take_of_length_le (by rw[HL.out];exact Nat.le_refl _);rw[HTk.out] at HO;rw[HTk.out];go_wp2;rw[← HP.out];refine⟨⟨_,rfl,?_⟩,HS.out.b⟩;exact Oc.own_low HO.out (by have:=HS.out.ge 0 rfl;omega)
end Go.Proofs.YtjobhjemnmleaaaGreatDoor
namespace Go.Proofs.YtjobhjemnmleaaaGreatDoor
open Go.RowKit Go.Sort
namespace Sq
def ok (t:T):Bool:=decide (Ok t)
theorem ok_no {t:T}(h:¬Ok t):(if ok t=true then (0:Int) else 2)=2:=by
 unfold ok;rw[decide_eq_false h];rfl
theorem ok_yes {t:T}(h:Ok t):(if ok t=true then (0:Int) else 2)=0:=by
 unfold ok;rw[decide_eq_true h];rfl
end Sq
theorem tbCheck_any (t:Sq.T)(tv:Value)(w:World)(hL:Lens w)(hT:Sq.TabR w t tv):
  Calls Tryz.prog 72 #[.agg #[.int .i64 t.fi,.int .i64 t.la,tv]] w fun e w'=>e=.returned (.int .i64 (if Sq.ok t=true then 0 else 2))∧Below w.heap.size w w':=by
 obtain⟨A,c,rfl,hnc,hcm⟩:=hT.slice;have hf:=hT.f;have hl:=hT.l;have hHs:∀W,Below w.heap.size w W→Calls Tryz.prog 119 #[.slice A t.recs.length c,.func (.func 120) #[] #[]] W fun e w'=>e=.returned (.bool (t.recs.any fun r=>!Rc.right r))∧Below W.heap.size W w':=fun W hb=>by
  obtain⟨A',c',e,_,_,hr⟩:=hT.r;cases e
  exact has_rec (fun r=>!Rc.right r) 120 #[] (enters_of Tryz.func120 (by kernel_rfl) rfl) A t.recs.length c t.recs W (Nat.le_trans hnc hcm) rfl ((hr.below hb).more hb.size)
   (fun V x hx hv=>(tbBad_any x V (hL.below (below_then hb hv)) (hT.i x hx)).mono fun e w' h=>⟨h.1,below_then hv h.2⟩)
 have hany:(t.recs.any fun r=>!Rc.right r)=false↔∀r∈t.recs,Rc.Ok r:=by
  rw[List.any_eq_false];constructor
  ·intro h r hr;have:=h r hr;unfold Rc.right at this;simpa using this
  ·intro h r hr;have:=h r hr;unfold Rc.right;simpa using this
 have hno:=fun h=>Sq.ok_no (t:=t) h
 have hyes:=fun h=>Sq.ok_yes (t:=t) h
 obtain⟨X,hX⟩:∃X:Int,(if Sq.ok t=true then 0 else 2)=X:=⟨_,rfl⟩
 rw[hX] at hno hyes ⊢;have hokt:∀q:Sq.Ok t,1601≤t.fi∧t.fi≤9999∧t.fi≤t.la∧t.la≤9999∧t.la<t.fi+400∧(t.recs.length:Int)=t.la - t.fi+1∧∀r∈t.recs,Rc.Ok r:=fun q=>⟨q.f1,q.f2,q.l1,q.l2,q.l3,q.n,q.ok⟩
 have htok:(1601≤t.fi∧t.fi≤9999∧t.fi≤t.la∧t.la≤9999∧t.la<t.fi+400∧(t.recs.length:Int)=t.la - t.fi+1)→(∀r∈t.recs,Rc.Ok r)→Sq.Ok t:=fun q k=>⟨q.1,q.2.1,q.2.2.1,q.2.2.2.1,q.2.2.2.2.1,q.2.2.2.2.2,k⟩
 obtain⟨b,hb⟩:=aj ((t.recs.any fun r=>!Rc.right r))
 rw[hb] at hany;simp only[hb] at hHs;obtain⟨fi,hfi⟩:=aj (t.fi)
 obtain⟨la,hla⟩:=aj (t.la)
 obtain⟨n,hn⟩:=aj (t.recs.length)
 rw[hfi,hla,hn] at hokt htok;rw[hn] at hHs hnc;rw[hfi] at hf;rw[hla] at hl;rw[hfi,hla,hn];have HHs:=ak hHs;clear hHs hT hL hX hb hfi hla hn;have hc:fi<1601∨(¬fi<1601∧9999<fi)∨(¬fi<1601∧¬9999<fi∧la<fi)∨(¬fi<1601∧¬9999<fi∧¬la<fi∧9999<la)∨(¬fi<1601∧¬9999<fi∧¬la<fi∧¬9999<la∧fi+400≤la)∨(¬fi<1601∧¬9999<fi∧¬la<fi∧¬9999<la∧¬fi+400≤la∧(n:Int)≠la - fi+1)∨(¬fi<1601∧¬9999<fi∧¬la<fi∧¬9999<la∧¬fi+400≤la∧(n:Int)=la - fi+1):=by omega
 rcases hc with k1|⟨k1,k2⟩|⟨k1,k2,k3⟩|⟨k1,k2,k3,k4⟩|⟨k1,k2,k3,k4,k5⟩|⟨k1,k2,k3,k4,k5,k6⟩|⟨k1,k2,k3,k4,k5,k6⟩
 ·have d1:=decide_eq_true k1;have hEq:=hno (fun q=>by have:=hokt q;omega);subst hEq;clear hno hyes hokt htok hany HHs;obtain⟨V1,gP,HEV1,HGgP,HS⟩:=(St.start w).lay #[.int .i64 fi,.int .i64 la,.slice A n c] 73;have P0:=(HS.out.get 0 rfl).cell 0 _ rfl;have P1:=(HS.out.get 0 rfl).cell 1 _ rfl;have P2:=(HS.out.get 0 rfl).cell 2 _ rfl;have zP:=(HS.out.get 0 rfl).lt;go_enter Tryz.func72,Tryz.ntmps72
  go_upto_region 1 with fail
  rw[HEV1.out]
  try rw[HGgP.out]
  go_wp2;go_ret
  exact⟨rfl,HS.out.b⟩
 ·have d1:=decide_eq_false k1;have d2:=decide_eq_true k2;have hEq:=hno (fun q=>by have:=hokt q;omega);subst hEq;clear hno hyes hokt htok hany HHs;obtain⟨V1,gP,HEV1,HGgP,HS⟩:=(St.start w).lay #[.int .i64 fi,.int .i64 la,.slice A n c] 73;have P0:=(HS.out.get 0 rfl).cell 0 _ rfl;have P1:=(HS.out.get 0 rfl).cell 1 _ rfl;have P2:=(HS.out.get 0 rfl).cell 2 _ rfl;have zP:=(HS.out.get 0 rfl).lt;go_enter Tryz.func72,Tryz.ntmps72
  go_upto_region 1 with fail
  rw[HEV1.out]
  try rw[HGgP.out]
  go_wp2;go_ret
  exact⟨rfl,HS.out.b⟩
 ·have d1:=decide_eq_false k1;have d2:=decide_eq_false k2;have d3:=decide_eq_true k3;have hEq:=hno (fun q=>by have:=hokt q;omega);subst hEq;clear hno hyes hokt htok hany HHs;obtain⟨V1,gP,HEV1,HGgP,HS⟩:=(St.start w).lay #[.int .i64 fi,.int .i64 la,.slice A n c] 73;have P0:=(HS.out.get 0 rfl).cell 0 _ rfl;have P1:=(HS.out.get 0 rfl).cell 1 _ rfl;have P2:=(HS.out.get 0 rfl).cell 2 _ rfl;have zP:=(HS.out.get 0 rfl).lt;go_enter Tryz.func72,Tryz.ntmps72
  go_upto_region 1 with fail
  rw[HEV1.out]
  try rw[HGgP.out]
  go_wp2;go_ret
  exact⟨rfl,HS.out.b⟩
 ·have d1:=decide_eq_false k1;have d2:=decide_eq_false k2;have d3:=decide_eq_false k3;have d4:=decide_eq_true k4;have hEq:=hno (fun q=>by have:=hokt q;omega);subst hEq;clear hno hyes hokt htok hany HHs;obtain⟨V1,gP,HEV1,HGgP,HS⟩:=(St.start w).lay #[.int .i64 fi,.int .i64 la,.slice A n c] 73;have P0:=(HS.out.get 0 rfl).cell 0 _ rfl;have P1:=(HS.out.get 0 rfl).cell 1 _ rfl;have P2:=(HS.out.get 0 rfl).cell 2 _ rfl;have zP:=(HS.out.get 0 rfl).lt;go_enter Tryz.func72,Tryz.ntmps72
  go_upto_region 1 with fail
  rw[HEV1.out]
  try rw[HGgP.out]
  go_wp2;go_ret
  exact⟨rfl,HS.out.b⟩
 ·have d1:=decide_eq_false k1;have d2:=decide_eq_false k2;have d3:=decide_eq_false k3;have d4:=decide_eq_false k4;have d5:=decide_eq_true k5;have w1:IntKind.i64.wrap (fi+400)=fi+400:=by rw[IntKind.wrap_i64];omega
  have hEq:=hno (fun q=>by have:=hokt q;omega);subst hEq;clear hno hyes hokt htok hany HHs;obtain⟨V1,gP,HEV1,HGgP,HS⟩:=(St.start w).lay #[.int .i64 fi,.int .i64 la,.slice A n c] 73;have P0:=(HS.out.get 0 rfl).cell 0 _ rfl;have P1:=(HS.out.get 0 rfl).cell 1 _ rfl;have P2:=(HS.out.get 0 rfl).cell 2 _ rfl;have zP:=(HS.out.get 0 rfl).lt;go_enter Tryz.func72,Tryz.ntmps72
  go_upto_region 1 with fail
  rw[HEV1.out]
  try rw[HGgP.out]
  go_wp2;go_ret
  exact⟨rfl,HS.out.b⟩
 ·have d1:=decide_eq_false k1;have d2:=decide_eq_false k2;have d3:=decide_eq_false k3;have d4:=decide_eq_false k4;have d5:=decide_eq_false k5;have w1:IntKind.i64.wrap (fi+400)=fi+400:=by rw[IntKind.wrap_i64];omega
  have w2:IntKind.i64.wrap (la - fi)=la - fi:=by rw[IntKind.wrap_i64];omega
  have w3:IntKind.i64.wrap (la - fi+1)=la - fi+1:=by rw[IntKind.wrap_i64];omega
  have hEq:=hno (fun q=>by have:=hokt q;omega);have e1:((n:Int) != la - fi+1)=true:=by rw[bne_iff_ne];exact k6
  have e2:((n:Int) == la - fi+1)=false:=by rw[beq_eq_false_iff_ne];exact k6
  clear k6;subst hEq;clear hno hyes hokt htok hany HHs;obtain⟨V1,gP,HEV1,HGgP,HS⟩:=(St.start w).lay #[.int .i64 fi,.int .i64 la,.slice A n c] 73;have P0:=(HS.out.get 0 rfl).cell 0 _ rfl;have P1:=(HS.out.get 0 rfl).cell 1 _ rfl;have P2:=(HS.out.get 0 rfl).cell 2 _ rfl;have zP:=(HS.out.get 0 rfl).lt;go_enter Tryz.func72,Tryz.ntmps72
  go_upto_region 1 with fail
  rw[HEV1.out]
  try rw[HGgP.out]
  go_wp2;go_ret
  exact⟨rfl,HS.out.b⟩
 ·have d1:=decide_eq_false k1;have d2:=decide_eq_false k2;have d3:=decide_eq_false k3;have d4:=decide_eq_false k4;have d5:=decide_eq_false k5;have w1:IntKind.i64.wrap (fi+400)=fi+400:=by rw[IntKind.wrap_i64];omega
  have w2:IntKind.i64.wrap (la - fi)=la - fi:=by rw[IntKind.wrap_i64];omega
  have w3:IntKind.i64.wrap (la - fi+1)=la - fi+1:=by rw[IntKind.wrap_i64];omega
  have e1:((n:Int) != la - fi+1)=false:=by rw[bne_eq_false_iff_eq];exact k6
  have e2:((n:Int) == la - fi+1)=true:=by rw[beq_iff_eq];exact k6
  have hEq:X=if b=false then 0 else 2:=by
   cases b with
   |false=>exact hyes (htok ⟨by omega,by omega,by omega,by omega,by omega,k6⟩ (hany.1 rfl))
   |true=>exact hno (fun q=>nomatch (hany.2 (hokt q).2.2.2.2.2.2))
  clear hno hyes hokt htok hany k6;obtain⟨V1,gP,HEV1,HGgP,HS⟩:=(St.start w).lay #[.int .i64 fi,.int .i64 la,.slice A n c] 73;have P0:=(HS.out.get 0 rfl).cell 0 _ rfl;have P1:=(HS.out.get 0 rfl).cell 1 _ rfl;have P2:=(HS.out.get 0 rfl).cell 2 _ rfl;have zP:=(HS.out.get 0 rfl).lt;go_enter Tryz.func72,Tryz.ntmps72
  go_upto_region 1 with fail
  rw[HEV1.out]
  try rw[HGgP.out]
  go_wp2_with fail
  refine(HHs.out _ HS.out.b).mono ?_;rintro e V2 ⟨rfl,hb⟩;clear P0 P1 P2 zP;replace HS:=ak (HS.out.call hb);clear hb;cases b with
  |false=>
   subst hEq;go_wp2;go_ret
   exact⟨rfl,HS.out.b⟩
  |true=>
   subst hEq;go_wp2;go_ret
   exact⟨rfl,HS.out.b⟩
end Go.Proofs.YtjobhjemnmleaaaGreatDoor
namespace Go.Proofs.YtjobhjemnmleaaaGreatDoor
open Go.RowKit Go.Sort
theorem tbOf_any (t:Sq.T)(tv:Value)(y:Int)(w:World)(hT:Sq.TabR w t tv)(ho:Sq.Ok t):
  Calls Tryz.prog 78 #[.agg #[.int .i64 t.fi,.int .i64 t.la,tv],.int .i64 y] w fun e w'=>e=.returned (.agg (Sq.of t y).arr)∧Below w.heap.size w w':=by
 obtain⟨A,c,rfl,hnc,hcm⟩:=hT.slice;have hlt:=Sq.at_lt ho y
 have hat:(Sq.at_ t y:Int)=min (max y t.fi) t.la - t.fi:=by
  have h1:=ho.l1;unfold Sq.at_;omega
 obtain⟨ad,r,rfl,hbk,hr,hc⟩:=hT.at_ hlt;have hre:=Sq.of_mem ho y;rw[hr] at hre;obtain rfl:=Option.some.inj hre;obtain⟨k,hk⟩:=aj (Sq.at_ t y)
 rw[hk] at hlt hat hc;obtain⟨r,hrr⟩:=aj (Sq.of t y)
 rw[hrr] at hc ⊢;have hfi:=ho.f1;have hfi2:=ho.f2;have hla:=ho.l1;have hla2:=ho.l2;obtain⟨fi,hf⟩:=aj (t.fi)
 obtain⟨la,hl⟩:=aj (t.la)
 obtain⟨n,hn⟩:=aj (t.recs.length)
 rw[hf,hl] at hat;rw[hn] at hlt hnc;rw[hf] at hfi hfi2 hla;rw[hl] at hla hla2;rw[hf,hl,hn];have HC:Hid (∀W,Below w.heap.size w W→∀j v,r.arr.toList[j]?=some v→W.cell? ((ad.add (k*19)).add j)=some v):=fun W hb j v hv=>(hb.cell (by rw[block_of_add,block_of_add];exact hbk)).trans (hc j v hv)
 obtain⟨m1,hm1⟩:=aj (max y fi)
 obtain⟨m2,hm2⟩:=aj (min m1 la)
 rw[hm1,hm2] at hat;have w1:IntKind.i64.wrap (m2 - fi)=(k:Int):=by rw[← hat,IntKind.wrap_i64];omega
 have q1:=am k
 have q2:(k:Int)<(n:Int):=by omega
 have hat2:m2 - fi=(k:Int):=hat.symm;clear hT ho hr hc hk hrr hf hl hn hat;obtain⟨V1,gP,HEV1,HGgP,HS⟩:=(St.start w).lay2 #[.int .i64 fi,.int .i64 la,.slice (some ad) n c] 73 #[.int .i32 0,.int .i32 0,.int .i32 0,.int .u16 0,.int .u16 0,.int .u16 0,.int .u16 0,.int .u16 0,.int .u16 0,.int .u16 0,.int .u16 0,.int .u16 0,.int .u16 0,.int .u16 0,.int .u16 0,.int .u16 0,.int .u16 0,.int .u16 0,.int .u16 0] 49;have P0:=(HS.out.get 1 rfl).cell 0 _ rfl;have P1:=(HS.out.get 1 rfl).cell 1 _ rfl;have P2:=(HS.out.get 1 rfl).cell 2 _ rfl;have zP:=(HS.out.get 1 rfl).lt;go_enter Tryz.func78,Tryz.ntmps78
 go_upto_region 1 with fail
 rw[HEV1.out]
 try rw[HGgP.out]
 have HCw:=ak (HC.out _ HS.out.b);go_wp2_with (first|(refine wpList_load_ad rfl 49 _ rfl _ rfl r.arr HCw.out _ Tryz.underlying49 rfl (by kernel_rfl) ?_)|(refine wpList_store_all rfl 49 _ _ rfl (gP+1) rfl (r.arr) rfl _ (HS.out.get 0 rfl) (by rfl) (by kernel_rfl) (by first|exact Sm.S.arr_one _|exact Rc.R.arr_one _|simp[Value.oneCell']) ?_;intro V2 hAn hMn))
 clear P0 P1 P2 zP;replace HS:Hid (St w V2 [(gP+1,r.arr.toList),(gP,[.int .i64 fi,.int .i64 la,.slice (some ad) n c])]):=HS.out.put 0 rfl hMn hAn;clear hMn hAn;refine bodyPost_ret (res_c (p:=4) rfl (HS.out.get 0 rfl) _ Tryz.underlying49 rfl (by kernel_rfl) rfl) rfl ⟨rfl,HS.out.b⟩
theorem tbPick_ok (t:Sq.T)(tv:Value)(y:Int)(w:World)(hL:Lens w)(hT:Sq.TabR w t tv)(ho:Sq.Ok t)(hy:1601≤y∧y≤9999):
  Calls Tryz.prog 79 #[.agg #[.int .i64 t.fi,.int .i64 t.la,tv],.int .i64 y] w fun e w'=>e=.returned (.tuple #[.agg (Sq.of t y).arr,.int .i64 0])∧Below w.heap.size w w':=by
 have HCk:Hid (∀W,Below w.heap.size w W→Calls Tryz.prog 72 #[.agg #[.int .i64 t.fi,.int .i64 t.la,tv]] W fun e w'=>e=.returned (.int .i64 0)∧Below W.heap.size W w'):=fun W hb=>(tbCheck_any t tv W (hL.below hb) (hT.call hb)).mono fun e w' h=>⟨by rw[h.1,Sq.ok_yes ho],h.2⟩
 have HOf:=ak fun W (hb:Below w.heap.size w W)=>tbOf_any t tv y W (hT.call hb) ho
 have d1:¬y<1601:=by omega
 have d2:¬9999<y:=by omega
 have d1':=decide_eq_false d1;have d2':=decide_eq_false d2;obtain⟨fi,hf⟩:=aj (t.fi)
 obtain⟨la,hl⟩:=aj (t.la)
 obtain⟨r,hr⟩:=aj (Sq.of t y)
 rw[hf,hl] at HCk HOf;rw[hr] at HOf;rw[hf,hl,hr];clear hL hT ho hf hl hr;obtain⟨V1,gP,HEV1,HGgP,HS⟩:=(St.start w).lay2 #[.int .i64 fi,.int .i64 la,tv] 73 #[.int .i32 0,.int .i32 0,.int .i32 0,.int .u16 0,.int .u16 0,.int .u16 0,.int .u16 0,.int .u16 0,.int .u16 0,.int .u16 0,.int .u16 0,.int .u16 0,.int .u16 0,.int .u16 0,.int .u16 0,.int .u16 0,.int .u16 0,.int .u16 0,.int .u16 0] 49;have P0:=(HS.out.get 1 rfl).cell 0 _ rfl;have P1:=(HS.out.get 1 rfl).cell 1 _ rfl;have P2:=(HS.out.get 1 rfl).cell 2 _ rfl;have zP:=(HS.out.get 1 rfl).lt;go_enter Tryz.func79,Tryz.ntmps79
 go_upto_region 1 with fail
 rw[HEV1.out]
 try rw[HGgP.out]
 go_wp2_with fail
 refine(HCk.out _ HS.out.b).mono ?_;rintro e V2 ⟨rfl,hb⟩;clear P0 P1 P2 zP;replace HS:=ak (HS.out.call hb);clear hb;have P0:=(HS.out.get 1 rfl).cell 0 _ rfl;have P1:=(HS.out.get 1 rfl).cell 1 _ rfl;have P2:=(HS.out.get 1 rfl).cell 2 _ rfl;have zP:=(HS.out.get 1 rfl).lt;go_wp2_with fail
 refine(HOf.out _ HS.out.b).mono ?_;rintro e V3 ⟨rfl,hb⟩;clear P0 P1 P2 zP;replace HS:=ak (HS.out.call hb);clear hb;go_wp2_with (refine wpList_store_all rfl 49 _ _ rfl (gP+1) rfl (r.arr) rfl _ (HS.out.get 0 rfl) (by rfl) (by kernel_rfl) (by first|exact Sm.S.arr_one _|exact Rc.R.arr_one _|simp[Value.oneCell']) ?_;intro V4 hAn hMn)
 replace HS:Hid (St w V4 [(gP+1,r.arr.toList),(gP,[.int .i64 fi,.int .i64 la,tv])]):=HS.out.put 0 rfl hMn hAn;clear hMn hAn;refine bodyPost_ret (res_ct (p:=4) (q:=5) rfl (HS.out.get 0 rfl) _ Tryz.underlying49 rfl (by kernel_rfl) rfl rfl) rfl ⟨rfl,HS.out.b⟩
theorem tbSpans_ok (t:Sq.T)(tv:Value)(y:Int)(w:World)(hL:Lens w)(hT:Sq.TabR w t tv)(ho:Sq.Ok t)(hy:1601≤y∧y≤9999):
  Calls Tryz.prog 38 #[.agg #[.int .i64 t.fi,.int .i64 t.la,tv],.int .i64 y] w fun e w'=>(∃A m c,e=.returned (.tuple #[.slice A m c,.int .i64 0])∧(Rc.spans (Sq.of t y) y).length=m∧m≤maxLen∧Reads w' w'.heap.size 3 A m ((Rc.spans (Sq.of t y) y).flatMap Ln.Sp.cells))∧Below w.heap.size w w':=by
 have HPk:=ak fun W (hb:Below w.heap.size w W)=>tbPick_ok t tv y W (hL.below hb) (hT.call hb) ho hy
 have hm:=List.mem_of_getElem? (Sq.of_mem ho y);have hi:=hT.i _ hm;have hrt:Rc.right (Sq.of t y)=true:=by unfold Rc.right;rw[decide_eq_true_eq];exact ho.ok _ hm
 have hss:=fun W (hb:Below w.heap.size w W)=>yrSpans_any (Sq.of t y) y W (hL.below hb) hi hy
 obtain⟨fi,hf⟩:=aj (t.fi)
 obtain⟨la,hl⟩:=aj (t.la)
 obtain⟨r,hr⟩:=aj (Sq.of t y)
 rw[hf,hl,hr] at HPk;rw[hr] at hrt;simp only[hr,Rc.R.v_arr] at hss;rw[hf,hl,hr];have HSs:=ak hss;have HRt:=ak hrt;clear hL hT ho hf hl hr hm hi hrt hss;obtain⟨V1,gP,HEV1,HGgP,HS⟩:=(St.start w).lay #[.int .i64 fi,.int .i64 la,tv] 73;have P0:=(HS.out.get 0 rfl).cell 0 _ rfl;have P1:=(HS.out.get 0 rfl).cell 1 _ rfl;have P2:=(HS.out.get 0 rfl).cell 2 _ rfl;have zP:=(HS.out.get 0 rfl).lt;go_enter Tryz.func38,Tryz.ntmps38
 go_upto_region 1 with fail
 rw[HEV1.out]
 try rw[HGgP.out]
 go_wp2_with fail
 refine(HPk.out _ HS.out.b).mono ?_;rintro e V2 ⟨rfl,hb⟩;clear P0 P1 P2 zP;replace HS:=ak (HS.out.call hb);clear hb;obtain⟨gE,HGgE⟩:∃q,Hid (V2.heap.size=q):=⟨_,rfl⟩
 go_upto_region 2 with (refine wpList_store_all rfl 49 _ _ rfl V2.heap.size rfl (r.arr) rfl _ (At.new V2 #[.int .i32 0,.int .i32 0,.int .i32 0,.int .u16 0,.int .u16 0,.int .u16 0,.int .u16 0,.int .u16 0,.int .u16 0,.int .u16 0,.int .u16 0,.int .u16 0,.int .u16 0,.int .u16 0,.int .u16 0,.int .u16 0,.int .u16 0,.int .u16 0,.int .u16 0] 49) (by rfl) (by kernel_rfl) (by first|exact Sm.S.arr_one _|exact Rc.R.arr_one _|simp[Value.oneCell']) ?_;intro V3 hAn hMn)
 rw[HGgE.out];replace HS:=ak (HS.out.laid #[.int .i32 0,.int .i32 0,.int .i32 0,.int .u16 0,.int .u16 0,.int .u16 0,.int .u16 0,.int .u16 0,.int .u16 0,.int .u16 0,.int .u16 0,.int .u16 0,.int .u16 0,.int .u16 0,.int .u16 0,.int .u16 0,.int .u16 0,.int .u16 0,.int .u16 0] 49 hMn hAn);rw[HGgE.out] at HS;clear hMn hAn;go_wp2_with (refine wpList_load_arr rfl 49 _ rfl (gE) 0 rfl (r.arr) (HS.out.get 0 rfl).range _ Tryz.underlying49 rfl (by kernel_rfl) ?_)
 refine(HSs.out _ HS.out.b).mono ?_;intro e V4 hsr;obtain⟨hb,hsr⟩:=hsr;rcases hsr with ⟨q,_⟩|⟨_,v,rfl,ho⟩
 ·rw[HRt.out] at q;cases q
 obtain⟨A2,d2,rfl,k1,k2⟩:=own_slice_cap ho;have HRd:=ak (Reads.of_own ho);have HKk:=ak (Nat.le_trans k1 k2);clear ho k1 k2;replace HS:=ak (HS.out.call hb);clear hb;go_wp2;go_ret2
 exact⟨⟨A2,_,d2,rfl,rfl,HKk.out,HRd.out⟩,HS.out.b⟩
end Go.Proofs.YtjobhjemnmleaaaGreatDoor
