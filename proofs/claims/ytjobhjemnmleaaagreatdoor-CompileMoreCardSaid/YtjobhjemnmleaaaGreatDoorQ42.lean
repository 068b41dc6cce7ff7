/- A plan in memory, as its callers read it: compile.Check, compile.Year. -/
import Derived.Test.YtjobhjemnmleaaaGreatDoorQ41
set_option maxRecDepth 100000
set_option maxHeartbeats 16000000
namespace Go.Proofs.YtjobhjemnmleaaaGreatDoor
open Go.RowKit Go.Sort
theorem quiet_load_gar {ops:Array Oper}{Lq:Act→Prop}{rest:List Oper}{o:Oper}{a:Act}{w:World}(hwt:Region.wanted o (yielded ops a.tmps)=true)(ty:TypeId)(x:Operand)(ho:o.op=.load ty x)
  (g off:Nat) (hx:a.eval x=.pointer (some ⟨g,off,none⟩)) (ca:Array Value) (hA:w.rangeAt g off ca.toList) (d:TypeDesc)
  (hu:Tryz.prog.underlying ty=some d) (hd:d.isRow=true) (hi:(Tryz.prog.info? ty).map (·.size)=some ca.size)
  (h:wpQuiet Tryz.prog ops (fun w'=>∃p:Regrown,w'=grow (redrawn w p.d) p.os) Lq rest (a.put o.dst (.agg ca))):wpQuiet Tryz.prog ops (fun w'=>∃p:Regrown,w'=grow (redrawn w p.d) p.os) Lq (o :: rest) a:=by
 unfold wpQuiet;rw[if_pos hwt];refine⟨.agg ca,?_,h⟩;rintro w' ⟨p,rfl⟩;have hr:=run_loadVar_mid (P:=Tryz.prog) (grow (redrawn w p.d) p.os) g off ty ca.toList d (fun j v hv=>cell_regrown (hA j v hv) _ _) hu hd (by simpa using hi);unfold Oper.quietAt execOp;simp only[ho,hx,Instr.loadAt,Instr.sureAddr,Sem.run_bind,Sem.run_pure,Result.andThen_ok,hr];exact⟨rfl,by simp⟩
namespace Cm
structure Rd (B n g1 g2 c1 c2:Nat)(p:P)(w:World):Prop where
 r:w.ownsRow B 49 19 (.slice (some ⟨g1,0,none⟩) n c1) n (rc p.recs)
 q:w.ownsRow B 56 1 (.slice (some ⟨g2,0,none⟩) n c2) n (wc p.why)
 k1:n≤c1∧c1≤maxLen
 k2:n≤c2∧c2≤maxLen
section
variable {B n g1 g2 c1 c2:Nat} {p:P} {w w':World}
theorem Rd.call (h:Rd B n g1 g2 c1 c2 p w)(hb:Below w.heap.size w w'):Rd B n g1 g2 c1 c2 p w':=⟨own_below h.r hb,own_below h.q hb,h.k1,h.k2⟩
theorem Rd.lt1 (h:Rd B n g1 g2 c1 c2 p w):g1<w.heap.size:=(h.r.lt g1 rfl).2
theorem Rd.lt2 (h:Rd B n g1 g2 c1 c2 p w):g2<w.heap.size:=(h.q.lt g2 rfl).2
theorem Rd.row (h:Rd B n g1 g2 c1 c2 p w){i:Nat}{r:Rc.R}(hr:p.recs[i]?=some r):w.rangeAt g1 (i*19) r.arr.toList:=fun j v hv=>by
 obtain⟨_,_,e,_,_,_,_,hc⟩:=own_at_ h.r (by
  have h1:=(List.getElem?_eq_some_iff.1 hr).1;have h2:=h.r.1;rw[rc_len] at h2;omega)
 cases e
 exact(hc _ _ (rc_get hr j v hv)).1
theorem Rd.why (h:Rd B n g1 g2 c1 c2 p w):Reads w w.heap.size 1 (some ⟨g2,0,none⟩) n (wc p.why):=Reads.of_own h.q
theorem Rd.why_at (h:Rd B n g1 g2 c1 c2 p w){i:Nat}{x:Int}(hx:p.why[i]?=some x):w.cell? ⟨g2,i,none⟩=some (.int .u8 x):=by
 have hl:(wc p.why)[i]?=some (.int .u8 x):=by unfold wc;rw[List.getElem?_map,hx];rfl
 obtain⟨_,_,e,_,_,_,_,hc⟩:=own_at_ h.q (by
  have h1:=(List.getElem?_eq_some_iff.1 hl).1;have h2:=h.q.1;omega)
 cases e
 exact(hc _ _ hl).1
end
theorem rd_of {B n:Nat}{p:P}{u1 u2:Value}{w:World}(hn:0<n)(h1:w.ownsRow B 49 19 u1 n (rc p.recs))(h2:w.ownsRow B 56 1 u2 n (wc p.why)):
  ∃g1 g2 c1 c2,u1=.slice (some ⟨g1,0,none⟩) n c1∧u2=.slice (some ⟨g2,0,none⟩) n c2∧Rd B n g1 g2 c1 c2 p w∧B≤g1∧B≤g2:=by
 obtain⟨g1,c1,rfl,a1,a2,a3,_,_⟩:=own_at_ h1 hn;obtain⟨g2,c2,rfl,b1,b2,b3,_,_⟩:=own_at_ h2 hn;exact⟨g1,g2,c1,c2,rfl,rfl,⟨h1,h2,⟨a2,a3⟩,⟨b2,b3⟩⟩,a1,b1⟩
structure Zn (s:Src.S)(nm:ByteArray)(lo hi:Int)(x:Src.Txt × List Er.E)(n:Nat):Prop where
 sb:Src.srcB s=true
 le:(Lk.walk s nm).2.2=0
 wl:Vd.well s=true
 zn:Eg.zoneAt s (Lk.walk s nm).2.1=some x
 iny:Ln.InY lo hi
 n:(n:Int)=hi - lo+1
 lo:1601≤lo
theorem Zn.mem {s:Src.S}{nm:ByteArray}{lo hi:Int}{x:Src.Txt × List Er.E}{n:Nat}(h:Zn s nm lo hi x n):x∈s.zones:=by
 have hx:=h.zn;unfold Eg.zoneAt at hx;split at hx
 ·exact List.mem_of_getElem? hx
 ·cases hx
theorem Zn.zo {s:Src.S}{nm:ByteArray}{lo hi:Int}{x:Src.Txt × List Er.E}{n:Nat}(h:Zn s nm lo hi x n):Eg.ZoneOk x.2:=Eg.zone_ok h.wl h.mem
theorem Zn.pos {s:Src.S}{nm:ByteArray}{lo hi:Int}{x:Src.Txt × List Er.E}{n:Nat}(h:Zn s nm lo hi x n):0<n∧n≤400∧lo+(n:Int)=hi+1∧lo+(n:Int)≤10000:=by
 have h1:=h.n;obtain⟨k1,k2,k3,k4⟩:=h.iny;omega
theorem Zn.err {s:Src.S}{nm:ByteArray}{lo hi:Int}{x:Src.Txt × List Er.E}{n:Nat}(h:Zn s nm lo hi x n):Cm.err (Src.srcB s) (Vd.well s) (Eg.zoneAt s (Lk.walk s nm).2.1).isSome (Lk.walk s nm).2.2 lo hi=0:=by
 rw[h.sb,h.le,h.wl,h.zn];have h1:=h.iny;have h2:=h.lo;unfold Ln.InY at h1;simp[Cm.err,h1]
 omega
theorem Zn.good {s:Src.S}{nm:ByteArray}{lo hi:Int}{x:Src.Txt × List Er.E}{n:Nat}(h:Zn s nm lo hi x n)(hr:Eg.RulesOk s.rules):Good (yr s x.2) lo n (run (yr s x.2) lo n):=good_zone hr h.zo h.iny h.lo (by have:=h.pos.2.2.1;omega)
theorem ZoneRet.cases {s : Src.S} {nm : ByteArray} {lo hi : Int} {w w' : World} {e : Ending} (h : ZoneRet s nm lo hi w e w') : Below w.heap.size w w' ∧
    ((∃ er, Bad s nm lo hi er ∧ e = .returned (.tuple #[.agg #[.int .i64 0, .slice none 0 0, .slice none 0 0], .int .i64 er])) ∨
     (∃ x n g1 g2 c1 c2, Zn s nm lo hi x n ∧ e = .returned (.tuple #[.agg #[.int .i64 lo, .slice (some ⟨g1, 0, none⟩) n c1, .slice (some ⟨g2, 0, none⟩) n c2], .int .i64 0]) ∧ Rd w.heap.size n g1 g2 c1 c2 (run (yr s x.2) lo n) w')) := by
  obtain ⟨hb, h | ⟨x, n, u1, u2, a1, a2, a3, a4, a5, a6, a7, rfl, ho1, ho2⟩⟩ := h
  · exact ⟨hb, .inl h⟩
  · have hz : Zn s nm lo hi x n := ⟨a1, a2, a3, a4, a5, a7, a6⟩
    obtain ⟨g1, g2, c1, c2, rfl, rfl, hrd, _, _⟩ := rd_of hz.pos.1 ho1 ho2;exact ⟨hb, .inr ⟨x, n, g1, g2, c1, c2, hz, rfl, hrd⟩⟩
theorem ZoneRet.bad {s:Src.S}{nm:ByteArray}{lo hi er:Int}{w w':World}{e:Ending}(h:ZoneRet s nm lo hi w e w')(h0:er≠0)(he:Cm.err (Src.srcB s) (Vd.well s) (Eg.zoneAt s (Lk.walk s nm).2.1).isSome (Lk.walk s nm).2.2 lo hi=er):
  e=.returned (.tuple #[.agg #[.int .i64 0,.slice none 0 0,.slice none 0 0],.int .i64 er])∧Below w.heap.size w w':=by
 obtain⟨hb,⟨er',hbd,rfl⟩|⟨x,n,_,_,_,_,hz,_,_⟩⟩:=h.cases
 ·obtain rfl:er'=er:=hbd.2.symm.trans he;exact⟨rfl,hb⟩
 ·exact absurd (he.symm.trans hz.err) h0
theorem ZoneRet.good {s:Src.S}{nm:ByteArray}{lo hi:Int}{w w':World}{e:Ending}(h:ZoneRet s nm lo hi w e w')(he:Cm.err (Src.srcB s) (Vd.well s) (Eg.zoneAt s (Lk.walk s nm).2.1).isSome (Lk.walk s nm).2.2 lo hi=0):
  ∃x n g1 g2 c1 c2,Zn s nm lo hi x n∧e=.returned (.tuple #[.agg #[.int .i64 lo,.slice (some ⟨g1,0,none⟩) n c1,.slice (some ⟨g2,0,none⟩) n c2],.int .i64 0])∧Rd w.heap.size n g1 g2 c1 c2 (run (yr s x.2) lo n) w'∧Below w.heap.size w w':=by
 obtain⟨hb,⟨er',hbd,rfl⟩|⟨x,n,g1,g2,c1,c2,hz,he,hrd⟩⟩:=h.cases
 ·exact absurd (hbd.2.symm.trans he) hbd.1
 ·exact⟨x,n,g1,g2,c1,c2,hz,he,hrd,hb⟩
theorem yr_in {f:Int→List Ln.Sp}{lo y:Int}{n:Nat}{p:P}(h:Good f lo n p)(h1:lo≤y)(h2:y<lo+(n:Int)):
  ∃r,yrV lo y p.recs p.why=.tuple #[.agg r.arr,.int .u8 (no f y),.int .i64 0]∧Rc.Ok r∧Rc.I r∧(no f y=0→Rc.spans r y=f y):=by
 obtain⟨j,hj⟩:∃j:Nat,y=lo+(j:Int):=⟨(y - lo).toNat,by omega⟩
 have hjn:j<n:=by omega
 have hw:=h.why j hjn;obtain⟨r,hr⟩:∃r,p.recs[j]?=some r:=⟨_,List.getElem?_eq_getElem (by rw[h.lr];exact hjn)⟩
 have hok:=h.ok r (List.mem_of_getElem? hr);rw[← hj] at hw;refine⟨r,?_,hok.1,hok.2,fun hz=>?_⟩
 ·unfold yrV;rw[if_pos (by rw[h.lr];omega),show (y - lo).toNat=j by omega,List.getD_eq_getElem?_getD,List.getD_eq_getElem?_getD,hr,hw];rfl
 ·obtain⟨r2,k1,k2⟩:=h.own j hjn (by rw[← hj];exact hz);rw[hr] at k1;obtain rfl:=Option.some.inj k1;rw[hj];exact k2
theorem yr_out {f:Int→List Ln.Sp}{lo y:Int}{n:Nat}{p:P}(h:Good f lo n p)(h1:¬(lo≤y∧y<lo+(n:Int))):yrV lo y p.recs p.why=.tuple #[.agg Rc.R.zero.arr,.int .u8 0,.int .i64 3]:=by
 unfold yrV;rw[if_neg (by rw[h.lr];exact h1)];rfl
theorem Rd.year {f:Int→List Ln.Sp}{B n g1 g2 c1 c2:Nat}{lo:Int}{p:P}{w:World}(h:Rd B n g1 g2 c1 c2 p w)(hg:Good f lo n p)(hn:0<n∧n≤400)(h1:1601≤lo)(h2:lo+(n:Int)≤10000)(hL:Lens w)(y:Int):
  Calls Tryz.prog 20 #[.agg #[.int .i64 lo,.slice (some ⟨g1,0,none⟩) n c1,.slice (some ⟨g2,0,none⟩) n c2],.int .i64 y] w fun e w'=>e=.returned (yrV lo y p.recs p.why)∧Below w.heap.size w w':=
 cmYear_ok lo y p.recs p.why g1 _ n c1 c2 w hL hg.lr hg.lw hn.1 hn.2 h1 h2 hg.ok (why_get hg) (fun _ _ hr=>h.row hr) h.lt1 h.why
theorem Rd.check {f:Int→List Ln.Sp}{B n g1 g2 c1 c2:Nat}{lo:Int}{p:P}{w:World}(h:Rd B n g1 g2 c1 c2 p w)(hg:Good f lo n p)(hn:0<n∧n≤400)(h1:1601≤lo)(h2:lo+(n:Int)≤10000)(hL:Lens w):
  Calls Tryz.prog 26 #[.agg #[.int .i64 lo,.slice (some ⟨g1,0,none⟩) n c1,.slice (some ⟨g2,0,none⟩) n c2]] w fun e w'=>e=.returned (.int .i64 0)∧Below w.heap.size w w':=
 cmCheck_ok lo p.recs p.why g1 _ n c1 c2 w hL hg.lr hg.lw hn.1 hn.2 h1 h2 hg.ok (why_get hg) (fun _ _ hr=>h.row hr) h.lt1 h.why
end Cm
end Go.Proofs.YtjobhjemnmleaaaGreatDoor
namespace Go.Proofs.YtjobhjemnmleaaaGreatDoor
open Go.RowKit
namespace Cp
def Near (s:Src.S)(lo hi:Int)(w:World)(e:Ending)(w':World):Prop:=(e=.returned (.int .i64 0)∨(e=.returned (.int .i64 1)∧Src.Few s∧hi≤2098∧1500≤lo∧(lo≤hi→hi - lo≤30)))∧Below w.heap.size w w'
end Cp
theorem near27_some (s:Src.S)(rv zv lv:Value)(evs:List Value)(lo hi:Int)(w:World)(hR:Src.SrcR w w.heap.size s rv zv lv evs)(hw:Src.Wide s)(hlo:-9223372036854775808≤lo∧lo<9223372036854775808)(hhi:-9223372036854775808≤hi∧hi<9223372036854775808):
  Calls Tryz.prog 12 #[.agg #[rv,zv,lv],.int .i64 lo,.int .i64 hi] w (Cp.Near s lo hi w):=by
 have HNe0:=ak fun W (hb:Below w.heap.size w W)=>near16_some s rv zv lv evs 2100 W (hR.call hb) hw (by omega)
 obtain⟨rA,rc,rfl,_⟩:=hR.rules;obtain⟨zA,zc,rfl,_⟩:=hR.zones;obtain⟨lA,lc,rfl,_⟩:=hR.links;obtain⟨n1,hn1⟩:=aj (s.rules.length)
 obtain⟨n2,hn2⟩:=aj (s.zones.length)
 obtain⟨n3,hn3⟩:=aj (s.links.length)
 rw[hn1,hn2,hn3] at HNe0;rw[hn1,hn2,hn3];clear hn1 hn2 hn3 hR hw;obtain⟨V1,hV1⟩:=aj ((w.alloc (.cells #[.slice rA n1 rc,.slice zA n2 zc,.slice lA n3 lc] 26)))
 obtain⟨gA,hgA⟩:=aj (w.heap.size)
 have hbn:Below w.heap.size w V1:=by rw[← hV1];exact al
 have hAA:At V1 gA [.slice rA n1 rc,.slice zA n2 zc,.slice lA n3 lc]:=by
  have h:=(At.new w #[.slice rA n1 rc,.slice zA n2 zc,.slice lA n3 lc] 26)
  rw[hV1] at h
  try rw[hgA] at h
  exact h
 have geA:w.heap.size≤gA:=by have:=(Below.refl w.heap.size w).size;omega
 have hBz:=below_then (Below.refl w.heap.size w) hbn;have HB:=ak hBz;clear hBz;have HAA:=ak hAA;have HEV1:=ak hV1;have HGgA:=ak hgA;clear hbn hV1 hgA hAA;have HNe:=ak (HNe0.out _ HB.out);clear HNe0;have A0:=HAA.out.cell 0 _ rfl;have A1:=HAA.out.cell 1 _ rfl;have A2:=HAA.out.cell 2 _ rfl;have zA:=HAA.out.lt;go_enter Tryz.func12,Tryz.ntmps12
 go_upto_region 1 with fail
 rw[HEV1.out]
 try rw[HGgA.out]
 go_wp2_with fail
 clear A0 A1 A2 zA;refine HNe.out.mono ?_;rintro e V2 ⟨he,hb⟩;have hBz:=below_then HB.out hb;clear HB;have HB:=ak hBz;clear hBz;have hAz:=HAA.out.call hb;clear HAA;have HAA:=ak hAz;clear hAz;clear hb;rcases he with rfl|⟨rfl,hf⟩
 ·have HF:Hid (Cp.Near s lo hi w (.returned (.int .i64 0)) V2):=⟨.inl rfl,HB.out⟩
  go_wp2;go_ret
  exact HF.out
 have HFw:=ak hf;clear hf;have hc:(2098<hi)∨(¬2098<hi∧lo<1500)∨(¬2098<hi∧¬lo<1500∧30<hi - lo)∨(¬2098<hi∧¬lo<1500∧¬30<hi - lo):=by omega
 have HF0:Hid (Cp.Near s lo hi w (.returned (.int .i64 0)) V2):=⟨.inl rfl,HB.out⟩
 rcases hc with p1|⟨p1,p2⟩|⟨p1,p2,p3⟩|⟨p1,p2,p3⟩
 ·go_wp2;go_ret
  exact HF0.out
 ·go_wp2;go_ret
  exact HF0.out
 ·go_wp2;go_ret
  exact HF0.out
 ·by_cases hw1:hi - lo < -9223372036854775808
  ·have u1:wrap64 (hi - lo)=hi - lo+18446744073709551616:=by unfold wrap64;omega
   have u2:IntKind.i64.wrap (hi - lo)=hi - lo+18446744073709551616:=by rw[IntKind.wrap_i64];omega
   have HF1:Hid (Cp.Near s lo hi w (.returned (.int .i64 1)) V2):=⟨.inr ⟨rfl,HFw.out,by omega,by omega,fun h=>by omega⟩,HB.out⟩
   obtain⟨q,hq⟩:=aj (hi - lo+18446744073709551616)
   rw[hq] at u1 u2;clear hq hw1 p3
   by_cases u3:30<q
   ·go_wp2;go_ret
    exact HF0.out
   ·go_wp2;go_ret
    exact HF1.out
  ·have HF1:Hid (Cp.Near s lo hi w (.returned (.int .i64 1)) V2):=⟨.inr ⟨rfl,HFw.out,by omega,by omega,fun _=>by omega⟩,HB.out⟩
   go_wp2;go_ret
   exact HF1.out
end Go.Proofs.YtjobhjemnmleaaaGreatDoor
namespace Go.Proofs.YtjobhjemnmleaaaGreatDoor
open Go.RowKit
namespace Lk
def Ds (s:Src.S):Nat→ByteArray→Nat→Prop
 |0,x,p=>first (zn s) x=some p
 |n+1,x,p=>first (zn s) x=none∧∃j,first (ln s) x=some j∧Ds s n ((tg s).getD j ⟨#[]⟩) p
theorem ds_good {s:Src.S}:∀{n:Nat} {x:ByteArray} {p:Nat},Ds s n x p→Vd.Good s n x
 |0,_,_,h=>List.mem_of_getElem? (first_some h)
 |_+1,_,_,⟨h,j,hj,hd⟩=>⟨first_none.1 h,j,hj,ds_good hd⟩
theorem good_ds {s:Src.S}:∀{n:Nat} {x:ByteArray},Vd.Good s n x→∃p,Ds s n x p
 |0,x,h=>by
  cases hf:first (zn s) x with
  |none=>exact absurd h (first_none.1 hf)
  |some p=>exact⟨p,hf⟩
 |n+1,x,⟨h,j,hj,hg⟩=>by
  obtain⟨p,hp⟩:=good_ds hg;exact⟨p,first_none.2 h,j,hj,hp⟩
theorem ds_same {s:Src.S}:∀{n:Nat} {x:ByteArray} {p q:Nat},Ds s n x p→Ds s n x q→p=q
 |0,_,_,_,h,k=>by
  unfold Ds at h k;rw[h] at k;exact Option.some.inj k
 |n+1,_,_,_,⟨_,j,hj,h⟩,⟨_,i,hi,k⟩=>by
  rw[hj] at hi;cases hi
  exact ds_same h k
def KT (s:Src.S)(K:Kn):Prop:=∀y e,K y=some e→∃m q,Ds s m y q∧e=((q:Int),0)
theorem KT.none (s:Src.S):KT s (fun _=>Option.none):=fun _ _ e=>by cases e
theorem find_ds {s:Src.S}:∀(n f:Nat) (K:Kn) (x:ByteArray) (p:Nat),Ds s n x p→n<f→(∀m y e,m≤n→Vd.Good s m y→K y=some e→∃q,Ds s m y q∧e=((q:Int),0))→
  (find (zn s) (ln s) (tg s) f K x).2=((p:Int),0)∧∀y∈(find (zn s) (ln s) (tg s) f K x).1,∃m,Ds s m y p
 |0,f+1,K,x,p,h,_,hK=>by
  cases hk:K x with
  |some e=>
   obtain⟨q,hq,rfl⟩:=hK 0 x e (Nat.le_refl _) (ds_good h) hk;rw[find,hk,ds_same h hq];exact⟨rfl,fun y hy=>by cases hy⟩
  |none=>
   have h':first (zn s) x=some p:=h;rw[find,hk];simp only[h'];exact⟨trivial,fun y hy=>⟨0,by rw[List.mem_singleton.1 hy];exact h⟩⟩
 |n+1,f+1,K,x,p,h,hf,hK=>by
  cases hk:K x with
  |some e=>
   obtain⟨q,hq,rfl⟩:=hK (n+1) x e (Nat.le_refl _) (ds_good h) hk;rw[find,hk,ds_same h hq];exact⟨rfl,fun y hy=>by cases hy⟩
  |none=>
   have hgx:=ds_good h;obtain⟨hz,j,hj,hd⟩:=h;rw[find,hk];simp only[hz,hj];have ih:=find_ds n f (mark K x loop) ((tg s).getD j ⟨#[]⟩) p hd (by omega) (fun m y e hm hy he=>by
    have hne:y≠x:=fun e=>by
     rw[e] at hy;have:=Vd.good_one hy hgx;omega
    unfold mark at he;rw[if_neg hne] at he;exact hK m y e (by omega) hy he)
   refine⟨ih.1,fun y hy=>?_⟩;rcases List.mem_cons.1 hy with rfl|hy
   ·exact⟨n+1,hz,j,hj,hd⟩
   ·exact ih.2 y hy
theorem find_kt {s:Src.S}{K:Kn}(hK:KT s K){x:ByteArray}{n p:Nat}(h:Ds s n x p):
  (find (zn s) (ln s) (tg s) (s.links.length+1) K x).2=((p:Int),0)∧KT s (marks K (find (zn s) (ln s) (tg s) (s.links.length+1) K x).1 (find (zn s) (ln s) (tg s) (s.links.length+1) K x).2):=by
 have hl:=Vd.good_le (ds_good h);have k:=find_ds n (s.links.length+1) K x p h (by omega) (fun m y e _ hy he=>by
  obtain⟨m',q,hq,rfl⟩:=hK y e he;have:=Vd.good_one hy (ds_good hq);subst this;exact⟨q,hq,rfl⟩)
 refine⟨k.1,fun y e he=>?_⟩
 by_cases hm:y∈(find (zn s) (ln s) (tg s) (s.links.length+1) K x).1
 ·rw[marks_in hm,k.1] at he;obtain⟨m,hd⟩:=k.2 y hm;exact⟨m,p,hd,(Option.some.inj he).symm⟩
 ·rw[marks_out hm] at he;exact hK y e he
theorem leads_ds {s:Src.S}{x:ByteArray}(h:Vd.Leads s x):∃n p,Ds s n x p:=by
 obtain⟨n,hn⟩:=h;obtain⟨p,hp⟩:=good_ds hn;exact⟨n,p,hp⟩
theorem walk_ds {s:Src.S}{x:ByteArray}{n p:Nat}(h:Ds s n x p):(walk s x).2=((p:Int),0):=(find_kt (KT.none s) h).1
end Lk
end Go.Proofs.YtjobhjemnmleaaaGreatDoor
namespace Go.Proofs.YtjobhjemnmleaaaGreatDoor
open Go.RowKit
theorem found_yes (p:Int)(w:World):(Op.equalIn 10000 146 (.agg #[.int .i64 p,.int .i64 0]) (.agg #[.int .i64 p,.int .i64 0])).run Tryz.prog w=.ok true w:=by
 go_simp
theorem found_no (p q:Int)(h:p≠q)(w:World):(Op.equalIn 10000 146 (.agg #[.int .i64 p,.int .i64 0]) (.agg #[.int .i64 q,.int .i64 0])).run Tryz.prog w=.ok false w:=by
 go_simp
namespace Lk
theorem own_kept_r {w w':World}{base size n r:Nat}{e:TypeId}{v:Value}{xs:List Value}(hO:w.ownsRow base e size v n xs)(hg:w.grownBy w' (some r))(h:r<base):w'.ownsRow base e size v n xs:=
 hO.kept hg (.inr (fun e=>by have:=(hO.lt r e).1;omega))
theorem own_kept_v {w w':World}{base size n B:Nat}{e:TypeId}{v v':Value}{xs:List Value}(hO:w.ownsRow base e size v n xs)(hg:w.grownBy w' v'.ownBlock)(h1:∀j,v.ownBlock=some j→j<B)(h2:∀j,v'.ownBlock=some j→B≤j):w'.ownsRow base e size v n xs:=by
 cases hv:v.ownBlock with
 |none=>exact hO.kept hg (.inl hv)
 |some j=>exact hO.kept hg (.inr (fun e=>by rw[hv] at e;have:=h1 j hv;have:=h2 j e.symm;omega))
theorem ne_row {v:Value}{B g:Nat}(h2:∀j,v.ownBlock=some j→B≤j)(hg:g<B):some g≠v.ownBlock:=fun e=>by have:=h2 g e.symm;omega
theorem Fr.kept {s:Src.S}{lv:Value}{w w':World}{g bz bl bk n:Nat}{K:Mp.Fn}{row:Option Nat}(h:Fr s lv w g bz bl bk n K)(hg:w.grownBy w' row)(h1:some g≠row)(h2:some bz≠row)(h3:some bl≠row)(h4:some bk≠row):Fr s lv w' g bz bl bk n K:=
 ⟨at_kept h.at_ hg h1,h.z.kept hg h2,h.l.kept hg h3,h.k.kept hg h4,h.ne1,h.ne2⟩
theorem Fr.alloc {s:Src.S}{lv:Value}{w:World}{g bz bl bk n:Nat}{K:Mp.Fn}(h:Fr s lv w g bz bl bk n K)(o:Obj):Fr s lv (w.alloc o) g bz bl bk n K:=
 ⟨h.at_.allocO o,h.z.alloc o,h.l.alloc o,h.k.alloc o,h.ne1,h.ne2⟩
theorem Fr.below {s:Src.S}{lv:Value}{w w':World}{g bz bl bk n:Nat}{K:Mp.Fn}(h:Fr s lv w g bz bl bk n K)(hb:Below w.heap.size w w'):Fr s lv w' g bz bl bk n K:=
 ⟨h.at_.call hb,h.z.below hb,h.l.below hb,h.k.below hb,h.ne1,h.ne2⟩
theorem Fr.more {s:Src.S}{lv:Value}{w:World}{g bz bl bk n m:Nat}{K:Mp.Fn}(h:Fr s lv w g bz bl bk n K)(hn:n≤m):Fr s lv w g bz bl bk m K:=
 ⟨h.at_,h.z,h.l,h.k.more hn,h.ne1,h.ne2⟩
structure AlSt (s:Src.S)(lv:Value)(w:World)(g bz bl bk bm q:Nat)(e:Fd)(A:Option Addr)(n c B:Nat)(l:List ByteArray)(v:Value)(m k:Nat)(K:Kn)(f:Mp.Fn)(ns:List ByteArray)(wr:World):Prop where
 fr:Fr s lv wr g bz bl bk m (kf K)
 told:MapF Tryz.prog 9 wr bm k f
 own:wr.ownsRow B 9 1 v ns.length (ns.map Value.string)
 end_:At wr q [.int .i64 e.1,.int .i64 e.2]
 row:wr.ownsRow (bm+1) 9 1 (.slice A n c) n (l.map Value.string)
 rowB:∀j,(Value.slice A n c).ownBlock=some j→j<B
 below:Below w.heap.size w wr
 size:B≤wr.heap.size
 lts:g<bm∧bz<bm∧bl<bm∧bk<bm∧q<bm∧bm<B∧w.heap.size≤bk∧bk<q∧w.heap.size≤q
section
variable {s:Src.S} {lv:Value} {w:World} {g bz bl bk bm q:Nat} {e:Fd} {A:Option Addr} {n c B:Nat} {l:List ByteArray} {v:Value} {m k:Nat} {K:Kn} {f:Mp.Fn} {ns:List ByteArray} {wr w':World}
theorem AlSt.ownB (h:AlSt s lv w g bz bl bk bm q e A n c B l v m k K f ns wr):∀j,v.ownBlock=some j→B≤j:=fun j hj=>(h.own.lt j hj).1
theorem AlSt.tell (h:AlSt s lv w g bz bl bk bm q e A n c B l v m k K f ns wr){f':Mp.Fn}(hM:MapF Tryz.prog 9 w' bm (k+1) f')(hg:wr.grownBy w' (some bm)):AlSt s lv w g bz bl bk bm q e A n c B l v m (k+1) K f' ns w':=by
 obtain⟨a,b,c',d,x,y,z,z2,z3⟩:=h.lts;have ne:∀{i:Nat},i<bm→some i≠some bm:=fun hi e=>by injection e with e;omega
 exact⟨h.fr.kept hg (ne a) (ne b) (ne c') (ne d),hM,own_kept_r h.own hg y,at_kept h.end_ hg (ne x),own_kept_r h.row hg (by omega),h.rowB,h.below.grown hg h.below.size (fun j e=>by cases e;omega),Nat.le_trans h.size hg.size,h.lts⟩
theorem AlSt.found (h:AlSt s lv w g bz bl bk bm q e A n c B l v m k K f ns wr){K':Kn}{m':Nat}(hF:Fr s lv w' g bz bl bk m' (kf K'))(hg:wr.grownBy w' (some bk)):AlSt s lv w g bz bl bk bm q e A n c B l v m' k K' f ns w':=by
 obtain⟨a,b,c',d,x,y,z,z2,z3⟩:=h.lts;exact⟨hF,h.told.kept hg (fun e=>by injection e with e;omega),own_kept_r h.own hg (by omega),at_kept h.end_ hg (fun e=>by injection e with e;omega),own_kept_r h.row hg (by omega),h.rowB,h.below.grown hg h.below.size (fun j e=>by cases e;omega),Nat.le_trans h.size hg.size,h.lts⟩
theorem AlSt.alloc (h:AlSt s lv w g bz bl bk bm q e A n c B l v m k K f ns wr)(o:Obj):AlSt s lv w g bz bl bk bm q e A n c B l v m k K f ns (wr.alloc o):=
 ⟨h.fr.alloc o,h.told.alloc o,h.own.alloc o,h.end_.allocO o,h.row.alloc o,h.rowB,h.below.alloc h.below.size o,by rw[World.size_alloc];have:=h.size;omega,h.lts⟩
theorem AlSt.list (h:AlSt s lv w g bz bl bk bm q e A n c B l v m k K f ns wr){v':Value}{x:ByteArray}{o:Obj}(hO:w'.ownsRow B 9 1 v' (ns.length+1) (ns.map Value.string ++ [.string x]))(hg:(wr.alloc o).grownBy w' v.ownBlock):AlSt s lv w g bz bl bk bm q e A n c B l v' m k K f (ns ++ [x]) w':=by
 obtain⟨a,b,c',d,x',y,z,z2,z3⟩:=h.lts;have hv:=h.ownB;have ne:∀{i:Nat},i<B→some i≠v.ownBlock:=fun hi=>ne_row hv hi
 have h':=h.alloc o;refine⟨h'.fr.kept hg (ne (by omega)) (ne (by omega)) (ne (by omega)) (ne (by omega)),h'.told.kept hg (ne y),?_,at_kept h'.end_ hg (ne (by omega)),own_kept_v h'.row hg h.rowB hv,h.rowB,h'.below.grown hg h'.below.size (fun j e=>by have:=hv j e;omega),Nat.le_trans h'.size hg.size,h.lts⟩;rw[List.length_append,List.map_append];exact hO
end
structure AlAt (s:Src.S)(lv:Value)(w:World)(g bz bl bk bm q:Nat)(e:Fd)(A:Option Addr)(n c B:Nat)(l:List ByteArray)(v i:Value)(wr:World):Prop where
 st:∃(k m:Nat) (K:Kn) (f:Mp.Fn) (ns:List ByteArray),k≤n∧i=.int .i64 (k:Int)∧m≤202*(k+1)∧KT s K∧ns.length≤k∧(∀y∈ns,y∈l∧(walk s y).2=e)∧AlSt s lv w g bz bl bk bm q e A n c B l v m k K f ns wr
def AlRet (s:Src.S)(name:ByteArray)(w:World)(e:Ending)(w':World):Prop:=
 (∃(A:Option Addr) (ns:List ByteArray) (c:Nat),e=.returned (.slice A ns.length c)∧ns.length≤1100∧Reads w' w'.heap.size 1 A ns.length (ns.map Value.string)∧∀y∈ns,y∈Src.names s∧(walk s y).2=(walk s name).2)∧Below w.heap.size w w'
end Lk
theorem linkAliases_any (s:Src.S)(rv zv lv:Value)(evs:List Value)(name:ByteArray)(w:World)(hR:Src.SrcR w w.heap.size s rv zv lv evs)(hN:Lk.Nm s)(hLm:Src.Lims s)(hz:s.zones.length≤1000)(hl:s.links.length≤100)(hx:name.size≤maxLen)(hG:∀x∈Src.names s,Vd.Leads s x)(hx2:Vd.Leads s name):
  Calls Tryz.prog 27 #[.agg #[rv,zv,lv],.string name] w (Lk.AlRet s name w):=by
 obtain⟨n0,p0,hp0⟩:=Lk.leads_ds hx2;have hwk:=Lk.walk_ds hp0;have hA0:=At.new w #[rv,zv,lv] 26;have hB0:=(Below.refl w.heap.size w).alloc (Nat.le_refl _) (.cells #[rv,zv,lv] 26);obtain⟨W0,hW0⟩:=aj (w.alloc (.cells #[rv,zv,lv] 26))
 obtain⟨h,hh⟩:=aj (w.heap.size)
 have hW0s:W0.heap.size=h+1:=by rw[← hW0,World.size_alloc,hh]
 rw[hW0] at hA0 hB0;have hOf:=linkOf_any s rv zv lv evs W0 (hR.call hB0) ⟨hN.nz,hN.nl⟩ hN.zn hN.ln;have hsz:∀x∈Src.names s,x.size≤maxLen:=by
  intro x hx;unfold Src.names at hx;rcases List.mem_append.1 hx with hx|hx
  ·exact hN.zn x hx
  ·exact hN.ln x hx
 obtain⟨l,hl2⟩:=aj (Src.names s)
 have hll:s.zones.length+s.links.length=l.length:=by rw[← hl2];simp[Src.names,Src.zoneNames,Src.linkNames]
 have hln:l.length≤1100:=by omega
 have hfind:=fun(g bz bl bk m:Nat) (K:Lk.Kn) (x:ByteArray) (W:World) (hF:Lk.Fr s lv W g bz bl bk m (Lk.kf K)) (hb:Below w.heap.size w W) (hm:m≤1000000) (hx:x.size≤maxLen)=>find_any s lv g bz bl bk m K x W hF (hR.links.below hb |>.more hb.size) hN.nl hm hx (fun k hk=>(hN.l k hk).1)
 have hnms:=fun(W:World) (hb:Below w.heap.size w W)=>srcNames_own s rv zv lv evs W (hR.call hb) hLm
 rw[hl2] at hG hsz;simp only[hl2,hll] at hnms;obtain⟨n,hn⟩:=aj (l.length)
 rw[hn] at hln;simp only[hn] at hnms;obtain⟨rA,rc,rfl,_⟩:=hR.rules;obtain⟨zA,zc,rfl,_⟩:=hR.zones;obtain⟨lA,lc,rfl,_⟩:=hR.links;have hfl:=Lk.find_len (Lk.zn s) (Lk.ln s) (Lk.tg s) (s.links.length+1);obtain⟨nr,hnr⟩:=aj (s.rules.length)
 obtain⟨nz,hnz⟩:=aj (s.zones.length)
 obtain⟨nl,hnl⟩:=aj (s.links.length)
 have HLk:Hid (∀(K:Lk.Kn) (x:ByteArray) n p,Lk.KT s K→Lk.Ds s n x p→∃ch:List ByteArray,Lk.find (Lk.zn s) (Lk.ln s) (Lk.tg s) (s.links.length+1) K x=(ch,((p:Int),0))∧Lk.KT s (Lk.marks K ch ((p:Int),0))∧ch.length≤101):=fun K x n p hK hd=>by
  have h1:=Lk.find_kt hK hd;have h2:=hfl K x;obtain⟨F,hF⟩:=aj (Lk.find (Lk.zn s) (Lk.ln s) (Lk.tg s) (s.links.length+1) K x)
  rw[hF] at h1 h2 ⊢;obtain⟨ch,r⟩:=F;obtain⟨h3,h4⟩:=h1;replace h2:ch.length≤s.links.length+1:=h2;replace h3:r=_:=h3;replace h4:Lk.KT s (Lk.marks K ch r):=h4;subst h3;exact⟨ch,rfl,h4,by omega⟩
 clear hfl;rw[hnr,hnz,hnl] at hA0 hOf hW0;simp only[hnr,hnz] at hnms;simp only[hnl] at hfind hnms HLk;rw[hnr,hnz,hnl];rw[hh] at hA0;have HOf:=ak hOf;have HFd:=ak hfind;have HNm:=ak hnms;have HB0:=ak hB0;have HA0:=ak hA0;have HSz:=ak hsz;have HG:=ak hG;have HP:=ak hp0;have HW0:=ak hW0;have HS0:=ak hW0s;have HH:=ak hh;have HNn:=ak hn;have HL2:=ak (And.intro hl2 hwk);clear hOf hfind hnms hB0 hA0 hsz hG hp0 hW0 hW0s hR hN hLm hwk hx2 hll hl2 hnr hnz hnl hz hn;have hmk:=@run_makeMap Tryz.prog;obtain⟨s0,s1,s2,_⟩:=HA0.out.three;go_enter Tryz.func27,Tryz.ntmps27
 go_wp2_with fail
 rw[HW0.out];refine HOf.out.mono ?_;rintro e w1 ⟨g,bz,bl,bk,rfl,hF1,⟨hg0,hbk0⟩,hb1⟩;have hB1:=below_then HB0.out hb1;have hA1:=HA0.out.call hb1;have hw1:=hb1.size;rw[HS0.out] at hg0 hbk0 hw1;obtain⟨ch,hr1,hr3,hr4⟩:=HLk.out (fun _=>none) name n0 p0 (Lk.KT.none s) HP.out;have hC:=HFd.out g bz bl bk 0 (fun _=>none) name w1 hF1 hB1 (by omega) hx;rw[hr1] at hC;have hlt:=And.intro hF1.at_.lt (And.intro hF1.z.lt (And.intro hF1.l.lt hF1.k.lt));have HC:=ak hC;have HB1:=ak hB1;have HA1:=ak hA1;have HR3:=ak hr3;clear hF1 hb1 hB1 hA1 hC hr1 hr3 s0 s1 s2;go_wp2_with fail
 refine HC.out.mono ?_;rintro e w2 ⟨⟨A1,c1,rfl,_⟩,hF2,hg2⟩;have hA2:=Lk.at_kept HA1.out hg2 (fun e=>by injection e with e;omega)
 have hB2:=HB1.out.grown hg2 HB1.out.size (fun j e=>by cases e;have:=HH.out;omega);have hw2:=hg2.size;obtain⟨q,hq⟩:=aj (w2.heap.size)
 rw[hq] at hw2;have hE3:=(At.new w2 #[.int .i64 (p0:Int),.int .i64 0] 146).allocO (.map #[] 0);have hE3':=At.new w2 #[.int .i64 (p0:Int),.int .i64 0] 146;have hF3:=(hF2.alloc (.cells #[.int .i64 (p0:Int),.int .i64 0] 146)).alloc (.map #[] 0);have hB3:=(hB2.alloc hB2.size (.cells #[.int .i64 (p0:Int),.int .i64 0] 146))
 have hB4:=hB3.alloc hB3.size (.map #[] 0);have hA4:=(hA2.allocO (.cells #[.int .i64 (p0:Int),.int .i64 0] 146)).allocO (.map #[] 0);have hM4:=MapF.made (P:=Tryz.prog) (k:=9) (w2.alloc (.cells #[.int .i64 (p0:Int),.int .i64 0] 146));have hW3s:(w2.alloc (.cells #[.int .i64 (p0:Int),.int .i64 0] 146)).heap.size=q+1:=by rw[World.size_alloc,hq]
 rw[hW3s] at hM4;rw[hq] at hE3 hE3';obtain⟨a0,a1,a2,_⟩:=hA4.three;obtain⟨W4,hW4⟩:=aj ((w2.alloc (.cells #[.int .i64 (p0:Int),.int .i64 0] 146)).alloc (.map #[] 0))
 have hW4s:W4.heap.size=q+2:=by rw[← hW4,World.size_alloc,hW3s]
 rw[hW4] at hE3 hF3 hB4 hA4 hM4;have hC4:=HNm.out W4 hB4;obtain⟨f0,f1,_⟩:=hE3'.two;have HC4:=ak hC4;have HB4:=ak hB4;have HE4:=ak hE3;have HF4:=ak hF3;have HM4:=ak hM4;have HW4:=ak hW4;have HS4:=ak hW4s;have HQ:=ak hq;clear hF2 hg2 hA2 hB2 hE3 hE3' hF3 hB3 hB4 hA4 hM4 hW3s hW4 hW4s hC4;go_wp2_with fail
 rw[HW4.out];refine HC4.out.mono ?_;rintro e w5 ⟨A,c,rfl,hb5,_,_,hO⟩;have hz5:=hb5.size;have hB5:=below_then HB4.out hb5;rw[HS4.out] at hO hz5;have hSt:Lk.AlSt s (.slice lA nl lc) w g bz bl bk (q+1) q ((p0:Int),0) A n c w5.heap.size l (.slice none 0 0) 202 0 (Lk.marks (fun _=>none) ch ((p0:Int),0)) (fun _=>none) [] w5:=
  ⟨(HF4.out.below hb5).more (by omega),HM4.out.below hb5,World.ownsRow_nil _ _ _ _,HE4.out.call hb5,hO,fun j hj=>(hO.lt j hj).2,hB5,Nat.le_refl _,by have:=HH.out;omega⟩
 have HSt:=ak hSt;clear hb5 hB5 hO hSt a0 a1 a2 f0 f1 hmk;go_wp2_with fail
 obtain⟨B,hBe⟩:=aj (w5.heap.size)
 rw[hBe] at HSt;clear hBe;go_loopw [8,31] (fun v i wr=>Lk.AlAt s (.slice lA nl lc) w g bz bl bk (q+1) q ((p0:Int),0) A n c B l v i wr) (fun _ i _=>n - (intOf i).toNat)
 case atStart=>exact⟨⟨0,202,_,_,[],Nat.zero_le _,rfl,by omega,HR3.out,Nat.zero_le _,(fun y hy=>by cases hy),HSt.out⟩⟩
 case round=>
  obtain⟨k,m,K,f,ns,hk,rfl,hm,hKT,hns,hmem,hSt⟩:=hrel.st;have HS:=ak hSt;have HMem:=ak hmem;clear hSt hmem
  by_cases hlt:k<n
  ·obtain⟨x,hx⟩:∃y,l[k]?=some y:=⟨_,List.getElem?_eq_getElem (by rw[HNn.out];exact hlt)⟩
   have hxl:=List.mem_of_getElem? hx;have hxs:=HSz.out x hxl;obtain⟨ad,u1,rfl,hab,hu,hcu⟩:=(Reads.of_own HS.out.row).at_ hlt;have hu2:u1=.string x:=by
    rw[List.getElem?_map,hx] at hu;exact(Option.some.inj hu).symm
   rw[hu2] at hcu;have q1:=am k
   have q2:(k:Int)<(n:Int):=(by omega);have hbn:k<maxLen:=by unfold maxLen;omega
   obtain⟨u2,hu2⟩:=aj ((f x).getD (.int .i64 0))
   obtain⟨b,hb⟩:=aj ((f x).isSome)
   have hM:=HS.out.told;clear hu hx;cases b with
   |true=>
    have HS2:Hid (Lk.AlSt s (.slice lA nl lc) w g bz bl bk (q+1) q ((p0:Int),0) (some ad) n c B l u8 m (k+1) K f ns wr):=⟨HS.out.fr,HS.out.told.more (by omega),HS.out.own,HS.out.end_,HS.out.row,HS.out.rowB,HS.out.below,HS.out.size,HS.out.lts⟩
    go_wp2_with (first|(at_lookup;refine look_int _ rfl _ _ (q+1) k f x hxs rfl rfl rfl hM u2 hu2 true hb ?_))
    go_roundw
    case rel=>exact⟨⟨k+1,m,K,f,ns,by omega,by go_num,by omega,hKT,by omega,HMem.out,HS2.out⟩⟩
    case measure=>simp[intOf];omega
   |false=>
    obtain⟨nx,px,hd⟩:=Lk.leads_ds (HG.out x hxl);have hwx:=Lk.walk_ds hd;obtain⟨ch2,hr1,hr3,hr4⟩:=HLk.out K x nx px hKT hd;have HCs:Hid (∀W f',Lk.AlSt s (.slice lA nl lc) w g bz bl bk (q+1) q ((p0:Int),0) (some ad) n c B l u8 m (k+1) K f' ns W→Calls Tryz.prog 63 #[.pointer (some ⟨g,0,none⟩),.string x] W (Lk.FdR s (.slice lA nl lc) g bz bl bk m K (ch2,((px:Int),0)) W)):=fun W f' hW=>by
     have h1:=HFd.out g bz bl bk m K x W hW.fr hW.below (by omega) hxs;rw[hr1] at h1;exact h1
    have hm2:m+ch2.length+ch2.length≤202*(k+1+1):=(by omega);have HR5:=ak hr3;have HWx:=ak hwx;clear hr1 hr3 hwx hd;go_wp2_with (first|(at_lookup;refine look_int _ rfl _ _ (q+1) k f x hxs rfl rfl rfl hM u2 hu2 false hb ?_)|(at_mapUpdate;refine store_int _ rfl _ _ _ (q+1) k f x hxs hbn (k:Int) rfl rfl rfl rfl hM ?_;intro w3 hM5 hg5;have HS3:=ak (HS.out.tell hM5 hg5);have HC3:=ak (HCs.out w3 _ HS3.out);clear hM5 hg5))
    refine HC3.out.mono ?_;rintro e w4 ⟨⟨A2,c2,rfl,_⟩,hF4,hg4⟩;have HS4:=ak (HS3.out.found hF4 hg4);have HS5:=ak (HS4.out.alloc (.cells #[.int .i64 (px:Int),.int .i64 0] 146));obtain⟨d0,d1,_⟩:=(At.new w4 #[.int .i64 (px:Int),.int .i64 0] 146).two;obtain⟨e0,e1,_⟩:=HS5.out.end_.two;clear hF4 hg4 hcu hM
    by_cases hpe:px=p0
    ·subst hpe;have hq:=found_yes (px:Int);go_wp2_with (at_builtin;refine name_append (w4.alloc (.cells #[.int .i64 (px:Int),.int .i64 0] 146)) B ns.length _ _ x 55 57 HS5.out.own (by omega) HS5.out.size rfl rfl rfl (by show Value.slice (some ⟨w4.heap.size+1,0,none⟩) 1 1=_;rw[World.size_alloc]) ?_;intro v9 w9 hown9 _ _ hg9;have HS9:=ak (HS5.out.list hown9 hg9);clear hown9 hg9)
     go_roundw
     case rel=>
      refine⟨⟨k+1,_,_,_,ns ++ [x],by omega,by go_num,hm2,HR5.out,by simp;omega,fun y hy=>?_,HS9.out⟩⟩;rcases List.mem_append.1 hy with hy|hy
      ·exact HMem.out y hy
      ·rw[List.mem_singleton.1 hy];exact⟨hxl,HWx.out⟩
     case measure=>simp[intOf];omega
    ·have hq:=found_no (px:Int) (p0:Int) (by omega);go_wp2;go_roundw
     case rel=>exact⟨⟨k+1,_,_,_,ns,by omega,by go_num,hm2,HR5.out,by omega,HMem.out,HS5.out⟩⟩
     case measure=>simp[intOf];omega
  ·have hkn:k=n:=(by omega);subst hkn;have q2:¬(k:Int)<(k:Int):=(by omega);have hO:=HS.out.own;have hB:=HS.out.below;obtain⟨A9,c9,rfl,_⟩:=own_slice hO;have HRes:Hid (Lk.AlRet s name w (.returned (.slice A9 ns.length c9)) wr):=⟨⟨A9,ns,c9,rfl,by omega,Reads.of_own hO,by rw[HL2.out.1,HL2.out.2];exact HMem.out⟩,hB⟩
   clear hO hB;go_wp2;refine bodyPost_ret (v:=.slice A9 ns.length c9) (by simp[results,Tryz.results27,go_sem, *]) rfl ?_;exact HRes.out
end Go.Proofs.YtjobhjemnmleaaaGreatDoor
namespace Go.Proofs.YtjobhjemnmleaaaGreatDoor
open Go.RowKit
namespace Ln
theorem take_more {α:Type}{l m:List α}{k:Nat}{a:α}(h:l.take k=m.take k)(h1:l[k]?=some a)(h2:m[k]?=some a):l.take (k+1)=m.take (k+1):=by
 rw[List.take_add_one,List.take_add_one,h,h1,h2]
def spSame (a b:Sp):Bool:=decide (a.fr=b.fr) && (decide (a.off=b.off) && decide (a.dst=b.dst))
theorem spSame_iff (a b:Sp):spSame a b=true↔a=b:=by
 obtain⟨x,y,z⟩:=a;obtain⟨x',y',z'⟩:=b;simp only[spSame,Bool.and_eq_true,decide_eq_true_eq,Sp.mk.injEq]
theorem and_if {p:Prop}[Decidable p]{q:Bool}{w:World}{R:Result Bool}(h:R=.ok q w):(if p then R else .ok false w)=.ok (decide p && q) w:=by
 by_cases hp:p
 ·rw[if_pos hp,h,decide_eq_true hp,Bool.true_and]
 ·rw[if_neg hp,decide_eq_false hp,Bool.false_and]
theorem last_if (p:Prop)[Decidable p](w:World):(if p then (.ok true w:Result Bool) else .ok false w)=.ok (decide p) w:=by
 by_cases hp:p
 ·rw[if_pos hp,decide_eq_true hp]
 ·rw[if_neg hp,decide_eq_false hp]
end Ln
theorem span_same (a b:Ln.Sp)(w:World):(Op.equalIn 10000 164 (.agg #[.int .i64 a.fr,.int .i64 a.off,.bool a.dst]) (.agg #[.int .i64 b.fr,.int .i64 b.off,.bool b.dst])).run Tryz.prog w=.ok (Ln.spSame a b) w:=by
 obtain⟨x,y,z⟩:=a;obtain⟨x',y',z'⟩:=b;unfold Ln.spSame;simp only;go_simp
 iterate 2 refine Ln.and_if ?_
 exact Ln.last_if _ _
theorem same18_any (A A':Option Addr)(n n' c c':Nat)(l l':List Ln.Sp)(w:World)(hn:n≤maxLen)(hn':n'≤maxLen)(h1:l.length=n)(h2:l'.length=n')(hr:Reads w w.heap.size 3 A n (l.flatMap Ln.Sp.cells))(hr':Reads w w.heap.size 3 A' n' (l'.flatMap Ln.Sp.cells)):
  Calls Tryz.prog 25 #[.slice A n c,.slice A' n' c'] w fun e w'=>e=.returned (.bool (decide (l=l')))∧Drew w w':=by
 unfold maxLen at hn hn'
 by_cases he:n=n'
 ·subst he;have q0:((n:Int) != (n:Int))=false:=by simp
  have H1:=ak h1;have H2:=ak h2;have HR:=ak hr;have HR':=ak hr';clear h1 h2 hr hr';go_enter Tryz.func25,Tryz.ntmps25
  go_wp2;go_loopw [13] (fun i wr=>∃k:Nat,k≤n∧i=.int .i64 k∧Hid (Drew w wr)∧Hid (l.take k=l'.take k)) (fun i _=>n - (intOf i).toNat)
  case atStart=>exact⟨0,Nat.zero_le _,rfl,Drew.refl w,rfl⟩
  case round=>
   obtain⟨k,hk,rfl,HD,HE⟩:=hrel
   by_cases hlt:k<n
   ·obtain⟨x,hx⟩:∃m,l[k]?=some m:=⟨_,List.getElem?_eq_getElem (by rw[H1.out];exact hlt)⟩
    obtain⟨y,hy⟩:∃m,l'[k]?=some m:=⟨_,List.getElem?_eq_getElem (by rw[H2.out];exact hlt)⟩
    obtain⟨ad,x',rfl,_,Hx,HL0⟩:=Ix.reads_cells (enc:=Ln.Sp.cells) (m:=3) (fun _=>rfl) H1.out (HR.out.of_drew HD.out) hlt;obtain⟨ad',y',rfl,_,Hy,HL0'⟩:=Ix.reads_cells (enc:=Ln.Sp.cells) (m:=3) (fun _=>rfl) H2.out (HR'.out.of_drew HD.out) hlt;have ex:x'=x:=by have:=Hx.out;rw[hx] at this;exact(Option.some.inj this).symm
    have ey:y'=y:=by have:=Hy.out;rw[hy] at this;exact(Option.some.inj this).symm
    have c0:wr.cell? (ad.add (k*3))=some (.int .i64 x.fr):=by rw[← ex];exact HL0.out 0 _ rfl
    have c1:wr.cell? ⟨(ad.add (k*3)).block,(ad.add (k*3)).off+1,none⟩=some (.int .i64 x.off):=by rw[← ex];exact HL0.out 1 _ rfl
    have c2:wr.cell? ⟨(ad.add (k*3)).block,(ad.add (k*3)).off+2,none⟩=some (.bool x.dst):=by rw[← ex];exact HL0.out 2 _ rfl
    have d0:wr.cell? (ad'.add (k*3))=some (.int .i64 y.fr):=by rw[← ey];exact HL0'.out 0 _ rfl
    have d1:wr.cell? ⟨(ad'.add (k*3)).block,(ad'.add (k*3)).off+1,none⟩=some (.int .i64 y.off):=by rw[← ey];exact HL0'.out 1 _ rfl
    have d2:wr.cell? ⟨(ad'.add (k*3)).block,(ad'.add (k*3)).off+2,none⟩=some (.bool y.dst):=by rw[← ey];exact HL0'.out 2 _ rfl
    clear ex ey Hx Hy HL0 HL0';have q1:=am k
    have q2:(k:Int)<(n:Int):=(by omega);have hq:=span_same x y
    by_cases hxy:x=y
    ·subst hxy;have HN:=ak (Ln.take_more HE.out hx hy);rw[(Ln.spSame_iff x x).2 rfl] at hq;clear hx hy;go_wp2;go_quiet (fail)
     go_wp2;go_roundw
     case rel=>exact⟨k+1,by omega,by go_num,by first|exact HD.out|exact HD.out.drewN _,HN⟩
     case measure=>simp[intOf];omega
    ·have hs:Ln.spSame x y=false:=by
      cases h:Ln.spSame x y with
      |false=>rfl
      |true=>exact absurd ((Ln.spSame_iff x y).1 h) hxy
     have HN:Hid (decide (l=l')=false):=by
      show decide (l=l')=false
      apply decide_eq_false;intro e;apply hxy;rw[e,hy] at hx;exact(Option.some.inj hx).symm
     rw[hs] at hq;clear hx hy hxy hs;go_wp2;go_quiet (fail)
     go_wp2;go_ret
     exact⟨by rw[HN.out];rfl,by first|exact HD.out|exact HD.out.drewN _⟩
   ·have q2:¬(k:Int)<(n:Int):=(by omega);have hkn:k=n:=(by omega);have HN:Hid (decide (l=l')=true):=by
     show decide (l=l')=true
     apply decide_eq_true;have:=HE.out
     rwa[List.take_of_length_le (by rw[H1.out];omega),List.take_of_length_le (by rw[H2.out];omega)] at this
    go_wp2;go_ret
    exact⟨by rw[HN.out];rfl,HD.out⟩
 ·have q0:((n:Int) != (n':Int))=true:=by simp;omega
  have q0':¬(n:Int)=(n':Int):=by omega
  have HN:Hid (decide (l=l')=false):=by
   show decide (l=l')=false
   apply decide_eq_false;intro e;apply he;rw[← h1,← h2,e]
  clear h1 h2 hr hr' he;go_enter Tryz.func25,Tryz.ntmps25
  go_wp2;go_ret
  exact⟨by rw[HN.out];rfl,Drew.refl w⟩
end Go.Proofs.YtjobhjemnmleaaaGreatDoor
