/- valid.finder.astray: links that lead to no zone: the plain part. -/
import Derived.Test.YtjobhjemnmleaaaGreatDoorR21
import Derived.ProofKit
import Derived.OpenShut
import Derived.Lib.SmallJoins
import Derived.SliceStrings
import Derived.Deep.RegionHeld
import Derived.Deep.Strs
import Derived.Lib.LaidTab
set_option maxRecDepth 100000
set_option maxHeartbeats 16000000
namespace Go.Proofs.YtjobhjemnmleaaaGreatDoor
open Go.RowKit
namespace Vd
abbrev Em :=ByteArray→Option Int
def ke (K:Em):Mp.Fn:=fun t=>(K t).map fun e=>Value.int .i64 e
def em (K:Em)(s:ByteArray)(e:Int):Em:=fun t=>if t=s then some e else K t
theorem ke_put (K:Em)(s:ByteArray)(e:Int):Mp.put (ke K) s (.int .i64 e)=ke (em K s e):=by
 funext t
 unfold Mp.put ke em
 by_cases h:t=s
 ·simp[h]
 ·simp[h]
def ems (K:Em)(l:List ByteArray)(e:Int):Em:=l.foldl (fun K n=>em K n e) K
theorem ems_next (K:Em){l:List ByteArray}{k:Nat}{x:ByteArray}(e:Int)(h:l[k]?=some x):ems K (l.take (k+1)) e=em (ems K (l.take k) e) x e:=by
 unfold ems;rw[List.take_add_one,h,List.foldl_append];rfl
def asq (s:Src.S)(K:Em)(T:ByteArray):Int × Em:=
 match K T with
 |some e=>(e,K)
 |none=>((Lk.walk s T).2.2,ems (em K T (Lk.walk s T).2.2) (Lk.walk s T).1 (Lk.walk s T).2.2)
theorem asq_some {s:Src.S}{K:Em}{T:ByteArray}{e:Int}(h:K T=some e):asq s K T=(e,K):=by unfold asq;rw[h]
theorem asq_none {s:Src.S}{K:Em}{T:ByteArray}(h:K T=none):asq s K T=((Lk.walk s T).2.2,ems (em K T (Lk.walk s T).2.2) (Lk.walk s T).1 (Lk.walk s T).2.2):=by unfold asq;rw[h]
def as1 (s : Src.S) (st : Em × List Fl) (l : Src.Txt × Src.Txt) : Em × List Fl :=
  (if ((asq s st.1 (Src.bts l.1)).2 (Src.bts l.2)).isSome then (asq s st.1 (Src.bts l.1)).2 else em (asq s st.1 (Src.bts l.1)).2 (Src.bts l.2) (asq s st.1 (Src.bts l.1)).1,
   if (asq s st.1 (Src.bts l.1)).1 = 0 then st.2 else st.2 ++ [((asq s st.1 (Src.bts l.1)).1, Src.bts l.2)])
def K0 (s:Src.S):Em:=ems (fun _=>none) (Lk.zn s) 0
def asl (s:Src.S)(l:List (Src.Txt × Src.Txt)):Em × List Fl:=l.foldl (as1 s) (K0 s,[])
theorem asl_next {s:Src.S}{l:List (Src.Txt × Src.Txt)}{j:Nat}{x:Src.Txt × Src.Txt}(h:l[j]?=some x):asl s (l.take (j+1))=as1 s (asl s (l.take j)) x:=by
 unfold asl;rw[List.take_add_one,h,List.foldl_append];rfl
theorem as1_len (s:Src.S)(st:Em × List Fl)(l:Src.Txt × Src.Txt):(as1 s st l).2.length≤st.2.length+1:=by
 unfold as1;simp only;split
 ·omega
 ·simp
theorem asl_len (s:Src.S):∀(l:List (Src.Txt × Src.Txt)) (st:Em × List Fl),(l.foldl (as1 s) st).2.length≤st.2.length+l.length
 |[],st=>by simp
 |e :: es,st=>by
  have h1:=as1_len s st e;have h2:=asl_len s es (as1 s st e);rw[List.foldl_cons,List.length_cons];omega
theorem walk_len (s:Src.S)(x:ByteArray):(Lk.walk s x).1.length≤s.links.length+1:=Lk.find_len _ _ _ _ _ _
theorem walk_size (s:Src.S)(x:ByteArray)(hx:x.size≤maxLen)(hN:Lk.Nm s):∀y∈(Lk.walk s x).1,y.size≤maxLen:=Lk.find_size _ _ _ _ _ _ hx (fun y hy=>by
 unfold Lk.tg at hy;obtain⟨k,hk,rfl⟩:=List.mem_map.1 hy;exact(hN.l k hk).1)
def KsAt (w0:World)(bm:Nat)(l:List ByteArray)(n:Nat)(i:Value)(wr:World):Prop:=
 ∃k,k≤n∧i=.int .i64 (k:Int)∧Below w0.heap.size w0 wr∧MapF Tryz.prog 9 wr bm k (ke (ems (fun _=>none) (l.take k) 0))
def LsAt (s:Src.S)(n:Nat)(rv zv lv:Value)(B g:Nat)(fl:List Fl)(v0:Value)(w0:World)(bm:Nat)(i:Value)(wr:World):Prop:=
 ∃k v m K fs,k≤n∧i=.int .i64 (k:Int)∧asl s (s.links.take k)=(K,fs)∧Fd rv zv lv B g (fl ++ fs) v wr∧Kp g v0 v w0 wr∧MapF Tryz.prog 9 wr bm m (ke K)∧m≤2000+k*5000
def LmAt (why:Int)(K:Em)(rv zv lv:Value)(B g:Nat)(fl:List Fl)(v0:Value)(w0:World)(bm k lb:Nat)(cs:List Value)(b:Value)(wr:World):Prop:=
 ∃v m,b=.int .i64 why∧Fd rv zv lv B g fl v wr∧Kp g v0 v w0 wr∧MapF Tryz.prog 9 wr bm m (ke K)∧m≤2000+k*5000+4900∧At wr lb cs∧lb≠g∧v.ownBlock≠some lb∧lb≠bm
def NsAt (W4:World)(bm n:Nat)(K:Em)(l:List ByteArray)(e:Int)(L:Nat)(i:Value)(wr:World):Prop:=
 ∃j,j≤L∧i=.int .i64 (j:Int)∧MapF Tryz.prog 9 wr bm (n+j) (ke (ems K (l.take j) e))∧W4.grownBy wr (some bm)
end Vd
theorem zero_errno (W:World):(zeroValue 30).run Tryz.prog W=.ok (.int .i64 0) W:=by kernel_rfl
theorem store_err (w:World){ops:Array Oper}{rest:List Oper}{o:Oper}{a:Act}{Q:Exit→Act→World→Prop}(hg:o.guard=none)(m x v:Operand)(b n:Nat)(K:Vd.Em)(s:ByteArray)(hs:s.size≤maxLen)(hn:n<maxLen)(e:Int)(hop:o.op=Op.mapUpdate 253 m x v)
  (hm:a.eval m=.map (some b)) (hx:a.eval x=.string s) (hv:a.eval v=.int .i64 e) (h:MapF Tryz.prog 9 w b n (Vd.ke K))
  (hK:∀w',MapF Tryz.prog 9 w' b (n+1) (Vd.ke (Vd.em K s e))→w.grownBy w' (some b)→wpList Tryz.prog ops Q rest (a.put o.dst undef) w'):wpList Tryz.prog ops Q (o :: rest) a w:=by
 refine wpList_store w hg m x v 253 9 30 hop Tryz.underlying9 Tryz.underlying253 b n _ s hs hn _ hm hx hv h ?_;intro w' hM hg';rw[Vd.ke_put] at hM;exact hK w' hM hg'
theorem look_err (w:World){ops:Array Oper}{rest:List Oper}{o:Oper}{a:Act}{Q:Exit→Act→World→Prop}(hg:o.guard=none)(m x:Operand)(b n:Nat)(K:Vd.Em)(s:ByteArray)(hs:s.size≤maxLen)(hop:o.op=Op.lookup 253 m x true)
  (hm:a.eval m=.map (some b)) (hx:a.eval x=.string s) (h:MapF Tryz.prog 9 w b n (Vd.ke K)) (r:Option Int) (hr:K s=r)
  (hK:wpList Tryz.prog ops Q rest (a.put o.dst (.tuple #[.int .i64 (r.getD 0),.bool r.isSome])) w):wpList Tryz.prog ops Q (o :: rest) a w:=by
 subst hr;refine wpList_look_ok w hg m x 253 9 30 hop Tryz.underlying9 Tryz.underlying253 zero_errno b n _ s hs hm hx h ?_;have e1:(Vd.ke K s).getD (.int .i64 0)=.int .i64 ((K s).getD 0):=by unfold Vd.ke;cases K s <;> rfl
 have e2:(Vd.ke K s).isSome=(K s).isSome:=by unfold Vd.ke;cases K s <;> rfl
 rw[e1,e2];exact hK
end Go.Proofs.YtjobhjemnmleaaaGreatDoor
namespace Go.Proofs.YtjobhjemnmleaaaGreatDoor
open Go.RowKit
section
variable {g lb:Nat} {a b c d e:Value} {W0 W W':World}
theorem Vd.s5_below (hs:W.cell? ⟨g,0,none⟩=some a∧W.cell? ⟨g,1,none⟩=some b∧W.cell? ⟨g,2,none⟩=some c∧W.cell? ⟨lb,0,none⟩=some d∧W.cell? ⟨lb,1,none⟩=some e∧Hid (g<W0.heap.size∧lb<W0.heap.size∧Below W0.heap.size W0 W))(k:Below W.heap.size W W'):
  W'.cell? ⟨g,0,none⟩=some a∧W'.cell? ⟨g,1,none⟩=some b∧W'.cell? ⟨g,2,none⟩=some c∧W'.cell? ⟨lb,0,none⟩=some d∧W'.cell? ⟨lb,1,none⟩=some e∧Hid (g<W0.heap.size∧lb<W0.heap.size∧Below W0.heap.size W0 W'):=by
 obtain⟨h0,h1,h2,h3,h4,hg,hl,hb⟩:=hs;have hg2:g<W.heap.size:=Nat.lt_of_lt_of_le hg hb.size;have hl2:lb<W.heap.size:=Nat.lt_of_lt_of_le hl hb.size;exact⟨(k.cell (p:=⟨g,0,none⟩) hg2).trans h0,(k.cell (p:=⟨g,1,none⟩) hg2).trans h1,(k.cell (p:=⟨g,2,none⟩) hg2).trans h2,(k.cell (p:=⟨lb,0,none⟩) hl2).trans h3,(k.cell (p:=⟨lb,1,none⟩) hl2).trans h4,hg,hl,hb.trans (k.mono hb.size)⟩
end
theorem vdAstray_any (s:Src.S)(rv zv lv v:Value)(evs:List Value)(B g:Nat)(fl:List Vd.Fl)(w:World)(hF:Vd.Fd rv zv lv B g fl v w)(hR:Src.SrcR w B s rv zv lv evs)(hB:B≤g)(hL:Src.Lims s)(hN:Lk.Nm s)(hfl:fl.length≤900000):
  Calls Tryz.prog 99 #[.pointer (some ⟨g,0,none⟩)] w (Vd.Ret rv zv lv B g fl (Vd.asl s s.links).2 v w):=by
 have hgl:=hF.at_.lt;obtain⟨bm,hbm⟩:=aj (w.heap.size)
 have hB1:=(Below.refl w.heap.size w).alloc (Nat.le_refl _) (.map #[] 0);have hF1:=hF.alloc (.map #[] 0);have hM1:=MapF.made (P:=Tryz.prog) (k:=9) w;have hvb:=hF.base;have hvl:∀j,v.ownBlock=some j→j<w.heap.size:=fun j hj=>(hF.row.lt j hj).2
 have hlen:(s.zones.zip evs).length=s.zones.length:=by rw[List.length_zip,hR.len];omega
 have hers:=hR.eras;have hR0:=hR;obtain⟨zA,zc,rfl,_,hzc,hrz⟩:=hR.zones;obtain⟨lA,lc,rfl,_,hlc,hrl⟩:=hR.links;obtain⟨W1,hW1⟩:=aj (w.alloc (.map #[] 0))
 rw[hW1] at hB1 hF1 hM1;rw[hbm] at hM1 hgl hvl;have a1:=hF1.at_.cell 1 _ rfl;have L2:=hL.zones;have L3:=hL.links;have hzn:∀k x,(s.zones.zip evs)[k]?=some x→(Lk.zn s)[k]?=some (Src.bts x.1.1)∧x∈s.zones.zip evs:=fun k x h=>⟨by unfold Lk.zn;rw[List.getElem?_map,(List.getElem?_zip_eq_some.1 h).1];rfl,List.mem_of_getElem? h⟩
 have hzl:(Lk.zn s).length=s.zones.length:=by unfold Lk.zn;simp
 have hzs:=hN.zn;obtain⟨n2,hn2⟩:=aj (s.zones.length)
 obtain⟨n3,hn3⟩:=aj (s.links.length)
 rw[hn2] at hrz L2 hF hF1 a1 hlen hzl hR0 ⊢;rw[hn3] at hrl L3 hF hF1 hR0 ⊢;unfold maxLen at hzc hlc;have HN3:=ak hn3;have HRz:=ak hrz;have HRl:=ak hrl;have HLen:=ak hlen;have HErs:=ak hers;have HZn:=ak hzn;have HZl:=ak hzl;have HZs:=ak hzs;have HNm:=ak hN;have HF0:=ak hF;have HM:=ak hM1;have HB1:=ak hB1;have HVb:=ak hvb;have HVl:=ak hvl;have HR0:=ak hR0;have HBm:=ak hbm;have hgm:g<w.heap.size:=hF.at_.lt;clear hF hF1 hR hR0 hB1 hM1 hvb hvl hn2 hn3 hrz hrl hlen hers hzn hzl hzs hN hL;have hmk:=@run_makeMap Tryz.prog;go_enter Tryz.func99,Tryz.ntmps99
 go_wp2_with fail
 clear a1 hmk;go_loopw [20] (fun i wr=>Vd.KsAt w bm (Lk.zn s) n2 i wr) (fun i _=>n2 - (intOf i).toNat)
 case atStart=>exact⟨0,Nat.zero_le _,rfl,HB1.out,HM.out⟩
 case round=>
  obtain⟨k,hk,rfl,hB',hM⟩:=hrel
  by_cases hlt:k<n2
  ·have q1:=am k
   have q2:(k:Int)<(n2:Int):=(by omega);obtain⟨adz,x,rfl,hab,Hx,HLc⟩:=Ix.reads_cells (enc:=Src.zc) (m:=2) (fun _=>rfl) HLen.out (HRz.out.below (hB'.mono (by omega))) hlt;obtain⟨hnk,hzm⟩:=HZn.out k x Hx.out;obtain⟨eA,ec,he2,_⟩:=HErs.out x hzm;have hxs:(Src.bts x.1.1).size≤maxLen:=HZs.out _ (List.mem_of_getElem? hnk);obtain⟨zb,hzb⟩:=aj (Src.bts x.1.1)
   obtain⟨me,hme⟩:=aj (x.1.2.length)
   rw[hme] at he2;have c0:wr.cell? (adz.add (k*2))=some (.string zb):=by rw[← hzb];exact HLc.out 0 _ rfl
   have c1:wr.cell? ⟨(adz.add (k*2)).block,(adz.add (k*2)).off+1,none⟩=some (.slice eA me ec):=by rw[← he2];exact HLc.out 1 _ rfl
   rw[hzb] at hnk hxs;have hM2:=hM.alloc (.cells #[.string zb,.slice eA me ec] 117);have hB2:=hB'.alloc hB'.size (.cells #[.string zb,.slice eA me ec] 117);have hbn:k<maxLen:=by unfold maxLen;omega
   have hnx:=Vd.ems_next (fun _=>none) 0 hnk;have hbmw:=HBm.out;have hnext:Hid (∀w3,MapF Tryz.prog 9 w3 bm (k+1) (Vd.ke (Vd.em (Vd.ems (fun _=>none) ((Lk.zn s).take k) 0) zb 0))→(wr.alloc (.cells #[.string zb,.slice eA me ec] 117)).grownBy w3 (some bm)→Vd.KsAt w bm (Lk.zn s) n2 (.int .i64 ((k:Int)+1)) w3):=by
    intro w3 hM3 hg3;refine⟨k+1,by omega,by simp,hB2.grown hg3 hB2.size (fun j e=>by injection e with e;omega),?_⟩;rw[hnx];exact hM3
   have HM2:=ak hM2;clear hM2 hB2 hM hB' hnx hnk hzb hme he2 Hx HLc hzm hbmw;go_wp2_with (first|(at_mapUpdate;refine store_err _ rfl _ _ _ bm k _ zb hxs hbn 0 rfl rfl rfl rfl HM2.out ?_;intro w3 hM5 hg5;have HN5:=ak (hnext.out w3 hM5 hg5);clear hM5 hg5))
   go_roundw
   case rel=>exact HN5.out
   case measure=>simp[intOf];omega
  ·have hkn:k=n2:=(by omega);subst hkn;have q2:¬(k:Int)<(k:Int):=(by omega);rw[List.take_of_length_le (by rw[HZl.out];exact Nat.le_refl _)] at hM;have hF2:=HF0.out.kept hB';have hK2:=Vd.Kp.below (g:=g) (v:=v) hB';have a2:=hF2.at_.cell 2 _ rfl;have H0:Hid (Vd.LsAt s n3 rv (.slice zA k zc) (.slice lA n3 lc) B g fl v w bm (.int .i64 0) wr):=⟨0,v,k,Vd.K0 s,[],Nat.zero_le _,rfl,rfl,by simpa using hF2,hK2,hM,by omega⟩
   clear hF2 hK2 hM hB';go_wp2_with fail
   clear a2;go_loopw [34] (fun i wr=>Vd.LsAt s n3 rv (.slice zA k zc) (.slice lA n3 lc) B g fl v w bm i wr) (fun i _=>n3 - (intOf i).toNat)
   case atStart=>exact H0.out
   case round=>
    clear H0;obtain⟨j,u,m,K,fs,hj,rfl,hst,hF,hK,hM,hm⟩:=hrel
    by_cases hlt2:j<n3
    ·have q3:=am j
     have q4:(j:Int)<(n3:Int):=(by omega);have hBw:=hK.base hB HVb.out (by omega);obtain⟨adl,x,rfl,hab,Hx,HLc⟩:=Ix.reads_cells (enc:=Src.lc) (m:=2) (fun _=>rfl) HN3.out (HRl.out.below hBw) hlt2;have hsz:=HNm.out.l x (List.mem_of_getElem? Hx.out);have hnx:=Vd.asl_next (s:=s) Hx.out;rw[hst] at hnx;obtain⟨ta,hta⟩:=aj (Src.bts x.1)
     obtain⟨nb,hnb⟩:=aj (Src.bts x.2)
     have hts:ta.size≤maxLen:=by rw[← hta];exact hsz.1
     have hns:nb.size≤maxLen:=by rw[← hnb];exact hsz.2
     have c0:wr.cell? (adl.add (j*2))=some (.string ta):=by rw[← hta];exact HLc.out 0 _ rfl
     have c1:wr.cell? ⟨(adl.add (j*2)).block,(adl.add (j*2)).off+1,none⟩=some (.string nb):=by rw[← hnb];exact HLc.out 1 _ rfl
     unfold Vd.as1 at hnx;simp only[hta,hnb] at hnx;have hjl:fs.length≤j:=by
      have h1:=Vd.asl_len s (s.links.take j) (Vd.K0 s,[]);rw[show (s.links.take j).foldl (Vd.as1 s) (Vd.K0 s,[])=(K,fs) from hst,List.length_take] at h1;simp only[List.length_nil] at h1;omega
     have hBa:=(Below.refl wr.heap.size wr).alloc (Nat.le_refl _) (.cells #[.string ta,.string nb] 114);have hA2:=At.new wr #[.string ta,.string nb] 114;have hF2:=hF.kept hBa;have hK2:=hK.then_ hBa;have hM2:=hM.below hBa;obtain⟨lb,hlb⟩:=aj (wr.heap.size)
     have hlg:lb≠g:=by have:=hF.at_.lt;omega
     have hlu:u.ownBlock≠some lb:=fun e=>by have:=(hF.row.lt lb e).2;omega
     have hlm:lb≠bm:=by have:=hM.lt;omega
     rw[hlb] at hA2;obtain⟨r,hr⟩:=aj (K ta)
     have HF2:=ak hF2;have HK2:=ak hK2;have HM2:=ak hM2;have HA2:=ak hA2;have HNx:=ak hnx;clear hF hK hM hF2 hK2 hM2 hA2 hBa hBw Hx HLc hta hnb hsz hnx hst;go_upto_if 46 with (first|(at_lookup;refine look_err _ rfl _ _ bm m K ta hts rfl rfl rfl HM2.out r hr ?_))
     go_cut [7] (fun b wx=>Vd.LmAt (Vd.asq s K ta).1 (Vd.asq s K ta).2 rv (.slice zA k zc) (.slice (some adl) n3 lc) B g (fl ++ fs) v w bm j lb [.string ta,.string nb] b wx)
     case first=>
      cases r with
      |some e0=>
       have HE:Hid (Vd.LmAt (Vd.asq s K ta).1 (Vd.asq s K ta).2 rv (.slice zA k zc) (.slice (some adl) n3 lc) B g (fl ++ fs) v w bm j lb [.string ta,.string nb] (.int .i64 e0) (wr.alloc (.cells #[.string ta,.string nb] 114))):=by
        show Vd.LmAt _ _ _ _ _ _ _ _ _ _ _ _ _ _ _ _
        rw[Vd.asq_some hr];exact⟨u,m,rfl,HF2.out,HK2.out,HM2.out,by omega,HA2.out,hlg,hlu,hlm⟩
       clear HF2 HK2 HM2 HA2 hr hlb;go_wp2;go_meet
       exact HE.out
      |none=>
       have hq9:=Vd.asq_none (s:=s) hr;have hwl:=Vd.walk_len s ta;have hws:=Vd.walk_size s ta hts HNm.out;have hWo:=fun W hR=>linkZone_any s rv (.slice zA k zc) (.slice (some adl) n3 lc) evs ta W hR HNm.out hts
       have hCh:=fun W hR=>linkChain_any s rv (.slice zA k zc) (.slice (some adl) n3 lc) evs ta W hR HNm.out hts
       unfold Lk.ChRet at hCh;rw[HN3.out] at hwl;obtain⟨ns,p0,why,hwk⟩:∃a b c,Lk.walk s ta=(a,b,c):=⟨_,_,_,rfl⟩
       simp only[hwk] at hwl hws hWo hCh hq9;have HQ9:=ak hq9;clear hq9;obtain⟨W2,hW2⟩:=aj (wr.alloc (.cells #[.string ta,.string nb] 114))
       rw[hW2] at HF2 HK2 HM2 HA2 ⊢;have hmn:m<maxLen:=by unfold maxLen;omega
       have hB2:=HK2.out.base hB HVb.out (by omega);have hBs2:B≤W2.heap.size:=by have:=HF2.out.at_.lt;omega
       have HR2:=ak ((HR0.out.below hB2).more hBs2);have S1:W2.drew.cell? ⟨g,0,none⟩=some rv∧W2.drew.cell? ⟨g,1,none⟩=some (.slice zA k zc)∧W2.drew.cell? ⟨g,2,none⟩=some (.slice (some adl) n3 lc)∧W2.drew.cell? ⟨lb,0,none⟩=some (.string ta)∧W2.drew.cell? ⟨lb,1,none⟩=some (.string nb)∧Hid (g<W2.heap.size∧lb<W2.heap.size∧Below W2.heap.size W2 W2.drew):=⟨HF2.out.at_.cell 0 _ rfl,HF2.out.at_.cell 1 _ rfl,HF2.out.at_.cell 2 _ rfl,HA2.out.cell 0 _ rfl,HA2.out.cell 1 _ rfl,HF2.out.at_.lt,HA2.out.lt,(Below.refl _ _).drew⟩
       have HZ:Hid (∀W,W.cell? ⟨g,0,none⟩=some rv∧W.cell? ⟨g,1,none⟩=some (.slice zA k zc)∧W.cell? ⟨g,2,none⟩=some (.slice (some adl) n3 lc)∧W.cell? ⟨lb,0,none⟩=some (.string ta)∧W.cell? ⟨lb,1,none⟩=some (.string nb)∧Hid (g<W2.heap.size∧lb<W2.heap.size∧Below W2.heap.size W2 W)→_):=fun W hs=>hWo W (HR2.out.call hs.2.2.2.2.2.2.2)
       have HMS:Hid (∀W,W.cell? ⟨g,0,none⟩=some rv∧W.cell? ⟨g,1,none⟩=some (.slice zA k zc)∧W.cell? ⟨g,2,none⟩=some (.slice (some adl) n3 lc)∧W.cell? ⟨lb,0,none⟩=some (.string ta)∧W.cell? ⟨lb,1,none⟩=some (.string nb)∧Hid (g<W2.heap.size∧lb<W2.heap.size∧Below W2.heap.size W2 W)→MapF Tryz.prog 9 W bm m (Vd.ke K)):=fun W hs=>HM2.out.below hs.2.2.2.2.2.2.2
       have hbmw:=HBm.out;have HS3:Hid (∀W w3,W.cell? ⟨g,0,none⟩=some rv∧W.cell? ⟨g,1,none⟩=some (.slice zA k zc)∧W.cell? ⟨g,2,none⟩=some (.slice (some adl) n3 lc)∧W.cell? ⟨lb,0,none⟩=some (.string ta)∧W.cell? ⟨lb,1,none⟩=some (.string nb)∧Hid (g<W2.heap.size∧lb<W2.heap.size∧Below W2.heap.size W2 W)→MapF Tryz.prog 9 w3 bm (m+1) (Vd.ke (Vd.em K ta why))→W.grownBy w3 (some bm)→Hid (Vd.Fd rv (.slice zA k zc) (.slice (some adl) n3 lc) B g (fl ++ fs) u w3∧Vd.Kp g v u w w3∧At w3 lb [.string ta,.string nb]∧Src.SrcR w3 w3.heap.size s rv (.slice zA k zc) (.slice (some adl) n3 lc) evs)∧w3.drew.cell? ⟨g,0,none⟩=some rv∧w3.drew.cell? ⟨g,1,none⟩=some (.slice zA k zc)∧w3.drew.cell? ⟨g,2,none⟩=some (.slice (some adl) n3 lc)∧w3.drew.cell? ⟨lb,0,none⟩=some (.string ta)∧w3.drew.cell? ⟨lb,1,none⟩=some (.string nb)∧Hid (g<w3.heap.size∧lb<w3.heap.size∧Below w3.heap.size w3 w3.drew)):=by
        intro W w3 hs hM3 hg3;have hb:=hs.2.2.2.2.2.2.2;have hFW:=HF2.out.kept hb;have hMW:=HM2.out.below hb;have hF3:=hFW.grown hMW hg3;have hK3:=(HK2.out.then_ hb).grown hg3 (by omega);have hA3:=Lk.at_kept2 (HA2.out.call hb) hMW hg3
        have hB3:=hK3.base hB HVb.out (by omega);exact⟨⟨hF3,hK3,hA3,(HR0.out.below hB3).more (by have:=hF3.at_.lt;omega)⟩,hF3.at_.cell 0 _ rfl,hF3.at_.cell 1 _ rfl,hF3.at_.cell 2 _ rfl,hA3.cell 0 _ rfl,hA3.cell 1 _ rfl,hF3.at_.lt,hA3.lt,(Below.refl _ _).drew⟩
       have HCh:=ak hCh;have HWs:=ak hws;clear hWo hCh hws hwk hB2 hBs2 HR2 hr hW2 HF2 HK2 HM2 HA2;go_wp2_with fail
       go_region_held3 (fun w'=>w'.cell? ⟨g,0,none⟩=some rv∧w'.cell? ⟨g,1,none⟩=some (.slice zA k zc)∧w'.cell? ⟨g,2,none⟩=some (.slice (some adl) n3 lc)∧w'.cell? ⟨lb,0,none⟩=some (.string ta)∧w'.cell? ⟨lb,1,none⟩=some (.string nb)∧Hid (g<W2.heap.size∧lb<W2.heap.size∧Below W2.heap.size W2 w')) (first|assumption|exact S1|exact Vd.s5_below (by assumption) hbq)
        ((go_at_call 21;refine(HZ.out _ (by assumption)).mono ?_;rintro e wz ⟨rfl,hbq⟩))
       all_goals
        go_wp2_with (first|(at_mapUpdate;refine store_err _ rfl _ _ _ bm m K ta hts hmn why rfl rfl rfl rfl (HMS.out _ (by assumption)) ?_;intro w3 hM3 hg3;obtain⟨hG3,S3⟩:=HS3.out _ w3 (by assumption) hM3 hg3))
        have HM3:=ak hM3;have HC3:Hid (∀W,W.cell? ⟨g,0,none⟩=some rv∧W.cell? ⟨g,1,none⟩=some (.slice zA k zc)∧W.cell? ⟨g,2,none⟩=some (.slice (some adl) n3 lc)∧W.cell? ⟨lb,0,none⟩=some (.string ta)∧W.cell? ⟨lb,1,none⟩=some (.string nb)∧Hid (g<w3.heap.size∧lb<w3.heap.size∧Below w3.heap.size w3 W)→_):=fun W hs=>HCh.out W (hG3.2.2.2.call hs.2.2.2.2.2.2.2)
        clear hM3 hg3 hbq HZ HMS HS3 HCh S1;go_region_held3 (fun w'=>w'.cell? ⟨g,0,none⟩=some rv∧w'.cell? ⟨g,1,none⟩=some (.slice zA k zc)∧w'.cell? ⟨g,2,none⟩=some (.slice (some adl) n3 lc)∧w'.cell? ⟨lb,0,none⟩=some (.string ta)∧w'.cell? ⟨lb,1,none⟩=some (.string nb)∧Hid (g<w3.heap.size∧lb<w3.heap.size∧Below w3.heap.size w3 w')) (first|assumption|exact S3|exact Vd.s5_below (by assumption) hbq)
         ((go_at_call 135;refine(HC3.out _ (by assumption)).mono ?_;rintro e w4 ⟨⟨A,c,rfl,hrn⟩,hbq⟩))
        all_goals
         have hS4:w4.cell? ⟨g,0,none⟩=some rv∧w4.cell? ⟨g,1,none⟩=some (.slice zA k zc)∧w4.cell? ⟨g,2,none⟩=some (.slice (some adl) n3 lc)∧w4.cell? ⟨lb,0,none⟩=some (.string ta)∧w4.cell? ⟨lb,1,none⟩=some (.string nb)∧Hid (g<w3.heap.size∧lb<w3.heap.size∧Below w3.heap.size w3 w4):=by assumption
         have hb4:Below w3.heap.size w3 w4:=hS4.2.2.2.2.2.2.2;obtain⟨L,hL⟩:=aj (ns.length)
         rw[hL] at hwl hrn ⊢;have HG4:Hid (Vd.Fd rv (.slice zA k zc) (.slice (some adl) n3 lc) B g (fl ++ fs) u w4∧Vd.Kp g v u w w4∧At w4 lb [.string ta,.string nb]∧MapF Tryz.prog 9 w4 bm (m+1) (Vd.ke (Vd.em K ta why))∧Reads w4 w4.heap.size 1 A L (ns.map Value.string)):=
          ⟨hG3.1.kept hb4,hG3.2.1.then_ hb4,hG3.2.2.1.call hb4,HM3.out.below hb4,hrn⟩
         have HL:=ak hL;clear hrn hbq hG3 S3 HM3 HC3 hL hb4 hS4;go_wp2;go_loopw [69] (fun i wr=>Vd.NsAt w4 bm (m+1) (Vd.em K ta why) ns why L i wr) (fun i _=>L - (intOf i).toNat)
         case atStart=>exact⟨0,Nat.zero_le _,rfl,HG4.out.2.2.2.1,World.grownBy.refl _ _⟩
         case round=>
          obtain⟨q,hq,rfl,hMr,hgr⟩:=hrel
          by_cases hlt3:q<L
          ·obtain⟨nm,hnm⟩:∃y,ns[q]?=some y:=⟨_,List.getElem?_eq_getElem (by rw[HL.out];exact hlt3)⟩
           have hnz:=HWs.out nm (List.mem_of_getElem? hnm);obtain⟨ad9,x9,rfl,hab9,hx9,hc9⟩:=(HG4.out.2.2.2.2.beside HG4.out.2.2.2.1 hgr).at_ hlt3;have hx2:x9=.string nm:=by
            rw[List.getElem?_map,hnm] at hx9;exact(Option.some.inj hx9).symm
           rw[hx2] at hc9;have q5:=am q
           have q6:(q:Int)<(L:Int):=(by omega);have hmq:m+1+q<maxLen:=by unfold maxLen;omega
           have hnn:=Vd.ems_next (Vd.em K ta why) why hnm;have HN9:Hid (∀w5,MapF Tryz.prog 9 w5 bm (m+1+q+1) (Vd.ke (Vd.em (Vd.ems (Vd.em K ta why) (ns.take q) why) nm why))→wr.grownBy w5 (some bm)→Vd.NsAt w4 bm (m+1) (Vd.em K ta why) ns why L (.int .i64 ((q:Int)+1)) w5):=by
            intro w5 hM5 hg5;refine⟨q+1,by omega,by simp,?_,gb_then hgr hg5 (fun j e=>.inr e)⟩;rw[hnn];exact hM5
           have HMr:=ak hMr;clear hMr hgr hx9 hx2 hnm hnn;go_wp2_with (first|(at_mapUpdate;refine store_err _ rfl _ _ _ bm (m+1+q) _ nm hnz hmq why rfl rfl rfl rfl HMr.out ?_;intro w5 hM5 hg5;have HN5:=ak (HN9.out w5 hM5 hg5);clear hM5 hg5))
           go_roundw
           case rel=>exact HN5.out
           case measure=>simp[intOf];omega
          ·have hqL:q=L:=(by omega);subst hqL;have q6:¬(q:Int)<(q:Int):=(by omega);rw[List.take_of_length_le (by rw[HL.out];exact Nat.le_refl _)] at hMr;have HE:Hid (Vd.LmAt (Vd.asq s K ta).1 (Vd.asq s K ta).2 rv (.slice zA k zc) (.slice (some adl) n3 lc) B g (fl ++ fs) v w bm j lb [.string ta,.string nb] (.int .i64 why) wr):=by
            show Vd.LmAt _ _ _ _ _ _ _ _ _ _ _ _ _ _ _ _
            rw[HQ9.out];exact⟨u,_,rfl,HG4.out.1.grown HG4.out.2.2.2.1 hgr,HG4.out.2.1.grown hgr (by have:=HBm.out;omega),hMr,by omega,Lk.at_kept2 HG4.out.2.2.1 HG4.out.2.2.2.1 hgr,hlg,hlu,hlm⟩
           clear hMr hgr;go_wp2;go_meet
           exact HE.out
     case rest=>
      obtain⟨u,m,rfl,hF,hK,hM,hm,hA,hlg,hlu,hlm⟩:=hcut;obtain⟨why,K1,hq⟩:∃a b,Vd.asq s K ta=(a,b):=⟨_,_,rfl⟩
      have hnx:=HNx.out;rw[hq] at hnx hM ⊢;simp only at hnx hM ⊢;have hmn:m<maxLen:=by unfold maxLen;omega
      have l0:=hA.cell 0 _ rfl;have l1:=hA.cell 1 _ rfl;have hbmw:=HBm.out
      by_cases h0:why=0
      ·subst h0;simp only[if_true] at hnx;have HX:Hid ((∀e2,K1 nb=some e2→Vd.LsAt s n3 rv (.slice zA k zc) (.slice (some adl) n3 lc) B g fl v w bm (.int .i64 ((j:Int)+1)) wc)∧MapF Tryz.prog 9 wc bm m (Vd.ke K1)∧∀w5,K1 nb=none→MapF Tryz.prog 9 w5 bm (m+1) (Vd.ke (Vd.em K1 nb 0))→wc.grownBy w5 (some bm)→Vd.LsAt s n3 rv (.slice zA k zc) (.slice (some adl) n3 lc) B g fl v w bm (.int .i64 ((j:Int)+1)) w5):=by
        refine⟨fun e2 he=>⟨j+1,u,m,K1,fs,by omega,by simp,by rw[hnx,he];simp,hF,hK,hM,by omega⟩,hM,fun w5 he hM5 hg5=>⟨j+1,u,m+1,_,fs,by omega,by simp,by rw[hnx,he];simp,hF.grown hM hg5,hK.grown hg5 (by omega),hM5,by omega⟩⟩
       clear hF hK hM hA hnx hq HF2 HK2 HM2 HA2 HNx;cases hr2:K1 nb with
       |some e2=>
        have HN6:=ak ((HX.out).1 e2 hr2);have HMl:=ak (HX.out).2.1;go_wp2_with (first|(at_lookup;refine look_err _ rfl _ _ bm m K1 nb hns rfl rfl rfl HMl.out (some e2) hr2 ?_))
        go_roundw
        case rel=>exact HN6.out
        case measure=>simp[intOf];omega
       |none=>
        have HN7:=ak (HX.out).2.2;have HMl:=ak (HX.out).2.1;go_wp2_with (first|(at_lookup;refine look_err _ rfl _ _ bm m K1 nb hns rfl rfl rfl HMl.out none hr2 ?_)|(at_mapUpdate;refine store_err _ rfl _ _ _ bm m K1 nb hns hmn 0 rfl rfl rfl rfl HMl.out ?_;intro w5 hM5 hg5;have HN6:=ak (HN7.out w5 hr2 hM5 hg5);clear hM5 hg5))
        go_roundw
        case rel=>exact HN6.out
        case measure=>simp[intOf];omega
      ·have h00:(why == 0)=false:=by rw[beq_eq_false_iff_ne];exact h0
       rw[if_neg h0] at hnx;have HP:=ak (vdPut_any _ _ _ u B g _ why nb wc hF (by rw[List.length_append];omega) (by have:=hF.at_.lt;omega));have HX2:Hid (∀e w2,Vd.PutRet rv (.slice zA k zc) (.slice (some adl) n3 lc) B g (fl ++ fs) (why,nb) u wc e w2→(∃y,e=.returned y)∧w2.cell? ⟨lb,0,none⟩=some (.string ta)∧w2.cell? ⟨lb,1,none⟩=some (.string nb)∧Hid ((∀e2,K1 nb=some e2→Vd.LsAt s n3 rv (.slice zA k zc) (.slice (some adl) n3 lc) B g fl v w bm (.int .i64 ((j:Int)+1)) w2)∧MapF Tryz.prog 9 w2 bm m (Vd.ke K1)∧∀w5,K1 nb=none→MapF Tryz.prog 9 w5 bm (m+1) (Vd.ke (Vd.em K1 nb why))→w2.grownBy w5 (some bm)→Vd.LsAt s n3 rv (.slice zA k zc) (.slice (some adl) n3 lc) B g fl v w bm (.int .i64 ((j:Int)+1)) w5)):=by
        rintro e w2 ⟨he,u2,hF2,hK2⟩;obtain⟨hm1,hm2⟩:=hF.map_ne hM;have hM2:=hK2.map hM hm1 hm2;have hA2:=hK2.at_ hA hlg hlu;rw[List.append_assoc] at hF2;have hK3:=hK.trans hK2;exact⟨he,hA2.cell 0 _ rfl,hA2.cell 1 _ rfl,fun e2 he=>⟨j+1,u2,m,K1,_,by omega,by simp,by rw[hnx,he];simp,hF2,hK3,hM2,by omega⟩,hM2,fun w5 he hM5 hg5=>⟨j+1,u2,m+1,_,_,by omega,by simp,by rw[hnx,he];simp,hF2.grown hM2 hg5,hK3.grown hg5 (by omega),hM5,by omega⟩⟩
       clear hF hK hM hA hnx hq HF2 HK2 HM2 HA2 HNx;go_wp2_with fail
       refine HP.out.mono ?_;intro e w2 hpr;obtain⟨⟨y9,rfl⟩,p0,p1,HX⟩:=HX2.out e w2 hpr;clear hpr HX2 HP l0 l1;cases hr2:K1 nb with
       |some e2=>
        have HN6:=ak ((HX.out).1 e2 hr2);have HMl:=ak (HX.out).2.1;go_wp2_with (first|(at_lookup;refine look_err _ rfl _ _ bm m K1 nb hns rfl rfl rfl HMl.out (some e2) hr2 ?_))
        go_roundw
        case rel=>exact HN6.out
        case measure=>simp[intOf];omega
       |none=>
        have HN7:=ak (HX.out).2.2;have HMl:=ak (HX.out).2.1;go_wp2_with (first|(at_lookup;refine look_err _ rfl _ _ bm m K1 nb hns rfl rfl rfl HMl.out none hr2 ?_)|(at_mapUpdate;refine store_err _ rfl _ _ _ bm m K1 nb hns hmn why rfl rfl rfl rfl HMl.out ?_;intro w5 hM5 hg5;have HN6:=ak (HN7.out w5 hr2 hM5 hg5);clear hM5 hg5))
        go_roundw
        case rel=>exact HN6.out
        case measure=>simp[intOf];omega
    ·have hjn:j=n3:=(by omega);subst hjn;have q4:¬(j:Int)<(j:Int):=(by omega);have HE9:Hid (Vd.Ret rv (.slice zA k zc) (.slice lA j lc) B g fl (Vd.asl s s.links).2 v w (.returned (.tuple #[])) wr):=by
      refine⟨⟨_,rfl⟩,u,?_,hK⟩;rw[List.take_of_length_le (by rw[HN3.out];exact Nat.le_refl _)] at hst;rw[hst];exact hF
     clear hF hK hM hst;go_wp2;refine bodyPost_ret (results_none rfl _ _ _) rfl ?_;exact HE9.out
end Go.Proofs.YtjobhjemnmleaaaGreatDoor
namespace Go.Proofs.YtjobhjemnmleaaaGreatDoor
open Go.Deep
open Go.ChangeShapes Go.WideShapes Go.ChangeAt Go.RowKit Go.Joins
theorem byte_nonneg {c:Int}(h:(Lit.int .u8 c).wf=true):0≤c:=by
 have:0≤c∧c≤255:=by simpa [Lit.wf,IntKind.min,IntKind.max,IntKind.signed,IntKind.bits] using h
 exact this.1
section
variable {H:Type} {enc:TypeId × Value→H} {P:Program} {w:World} {base:Nat} {spare:Nat→Bool} {held:Bool}
theorem trod_struct8 {t:TypeId}{f0 f1 f2 f3 f4 f5 f6 f7:Field}{fuel:Nat}{cs:List Value}{x:DataW H × List MemPlace}(ht:P.underlying t=some (.struct #[f0,f1,f2,f3,f4,f5,f6,f7]))(h:DataW.trod enc P w base spare held fuel t cs=some x):
  ∃y0 y1 y2 y3 y4 y5 y6 y7 n,DataW.trod enc P w base spare held n f0.type ((cs.drop f0.offset).take (P.cellsOf f0.type))=some y0∧
   DataW.trod enc P w base spare held n f1.type ((cs.drop f1.offset).take (P.cellsOf f1.type))=some y1∧DataW.trod enc P w base spare held n f2.type ((cs.drop f2.offset).take (P.cellsOf f2.type))=some y2∧
   DataW.trod enc P w base spare held n f3.type ((cs.drop f3.offset).take (P.cellsOf f3.type))=some y3∧DataW.trod enc P w base spare held n f4.type ((cs.drop f4.offset).take (P.cellsOf f4.type))=some y4∧
   DataW.trod enc P w base spare held n f5.type ((cs.drop f5.offset).take (P.cellsOf f5.type))=some y5∧DataW.trod enc P w base spare held n f6.type ((cs.drop f6.offset).take (P.cellsOf f6.type))=some y6∧
   DataW.trod enc P w base spare held n f7.type ((cs.drop f7.offset).take (P.cellsOf f7.type))=some y7:=by
 obtain⟨xs,n,_,rfl,hl,hlen,hf⟩:=DataW.trod_struct ht h
 match xs,hlen with
 |[y0,y1,y2,y3,y4,y5,y6,y7],_=>exact⟨y0,y1,y2,y3,y4,y5,y6,y7,n,by simpa using hf 0 f0 rfl,by simpa using hf 1 f1 rfl,by simpa using hf 2 f2 rfl,by simpa using hf 3 f3 rfl,by simpa using hf 4 f4 rfl,by simpa using hf 5 f5 rfl,by simpa using hf 6 f6 rfl,by simpa using hf 7 f7 rfl⟩
theorem trod_struct7 {t:TypeId}{f0 f1 f2 f3 f4 f5 f6:Field}{fuel:Nat}{cs:List Value}{x:DataW H × List MemPlace}(ht:P.underlying t=some (.struct #[f0,f1,f2,f3,f4,f5,f6]))(h:DataW.trod enc P w base spare held fuel t cs=some x):
  ∃y0 y1 y2 y3 y4 y5 y6 n,DataW.trod enc P w base spare held n f0.type ((cs.drop f0.offset).take (P.cellsOf f0.type))=some y0∧
   DataW.trod enc P w base spare held n f1.type ((cs.drop f1.offset).take (P.cellsOf f1.type))=some y1∧DataW.trod enc P w base spare held n f2.type ((cs.drop f2.offset).take (P.cellsOf f2.type))=some y2∧
   DataW.trod enc P w base spare held n f3.type ((cs.drop f3.offset).take (P.cellsOf f3.type))=some y3∧DataW.trod enc P w base spare held n f4.type ((cs.drop f4.offset).take (P.cellsOf f4.type))=some y4∧
   DataW.trod enc P w base spare held n f5.type ((cs.drop f5.offset).take (P.cellsOf f5.type))=some y5∧DataW.trod enc P w base spare held n f6.type ((cs.drop f6.offset).take (P.cellsOf f6.type))=some y6:=by
 obtain⟨xs,n,_,rfl,hl,hlen,hf⟩:=DataW.trod_struct ht h
 match xs,hlen with
 |[y0,y1,y2,y3,y4,y5,y6],_=>exact⟨y0,y1,y2,y3,y4,y5,y6,n,by simpa using hf 0 f0 rfl,by simpa using hf 1 f1 rfl,by simpa using hf 2 f2 rfl,by simpa using hf 3 f3 rfl,by simpa using hf 4 f4 rfl,by simpa using hf 5 f5 rfl,by simpa using hf 6 f6 rfl⟩
end
theorem strs_of_head {P:Program}{W:World}{name:String}{ls:List (List UInt8)}{rest:List (String × DataW Unit)}{g:Nat}{t e:TypeId}{n:Nat}
  (hg:P.globalNamed name=some g) (hty:(P.globals[g]?).map (·.type)=some t) (ht:P.underlying t=some (.array n e)) (he:P.underlying e=some .string) (hce:P.cellsOf e=1) (hct:P.cellsOf t=n)
  (h:laidMet P ((name,.agg (ls.map fun l=>.lit (.string l))) :: rest) W):∀i l,ls[i]?=some l→W.cell? ⟨g,i,none⟩=some (.string ⟨l.toArray⟩):=by
 obtain⟨ps,⟨g',t',cs,fuel,p,q,hg',ht',hvar,hd,_,_⟩,_⟩:=h;obtain rfl:=Option.some.inj (hg.symm.trans hg');obtain rfl:=Option.some.inj (hty.symm.trans ht');obtain⟨xs,m,rfl,hx,hl,hxl,hel⟩:=DataW.trod_array ht hd;intro i l hi;have hmap:xs.map (·.1)=ls.map fun l=>(DataW.lit (.string l)):=by
  have:=congrArg Prod.fst hx;simpa using this.symm
 have hn:i<n:=by
  have h1:=congrArg List.length hmap;have h2:=(List.getElem?_eq_some_iff.1 hi).1;simp only[List.length_map] at h1;omega
 have hE:=hel i hn;rw[hce,Nat.mul_one,List.getElem?_eq_getElem (by omega)] at hE;obtain⟨s,hc,hd',_⟩:=DataW.trod_string he hE;have h2:(xs.map (·.1))[i]?=some xs[i].1:=by simp[List.getElem?_eq_getElem (show i<xs.length by omega)]
 rw[hmap,List.getElem?_map,hi,Option.map_some,hd'] at h2;simp only[Option.some.injEq,DataW.lit.injEq,Lit.string.injEq] at h2;have h3:cs[i]?=some (.string s):=by
  have:=congrArg (·[0]?) hc;simpa [List.getElem?_take,List.getElem?_drop] using this
 have:=World.var?_cell hg hvar i;rw[this];rw[h2];exact h3
end Go.Proofs.YtjobhjemnmleaaaGreatDoor
