/- valid.finder.twice: names that were there. -/
import Derived.Test.YtjobhjemnmleaaaGreatDoorR20
set_option maxRecDepth 100000
set_option maxHeartbeats 8000000
namespace Go.Proofs.YtjobhjemnmleaaaGreatDoor
open Go.RowKit
theorem vdTwice_any (s:Src.S)(rv zv lv v:Value)(evs:List Value)(B g:Nat)(fl:List Vd.Fl)(w:World)(hF:Vd.Fd rv zv lv B g fl v w)(hR:Src.SrcR w B s rv zv lv evs)(hB:B≤g)(hL:Src.Lims s)(hsz:∀x∈Src.names s,x.size≤maxLen)(hfl:fl.length≤100000):
  Calls Tryz.prog 96 #[.pointer (some ⟨g,0,none⟩)] w (Vd.Ret rv zv lv B g fl (Vd.tw (Src.names s)) v w):=by
 have hgl:=hF.at_.lt;obtain⟨bm,hbm⟩:=aj (w.heap.size)
 have hB1:=(Below.refl w.heap.size w).alloc (Nat.le_refl _) (.map #[] 0);have hF1:=hF.alloc (.map #[] 0);have hM1:=MapF.made (P:=Tryz.prog) (k:=9) w;obtain⟨W1,hW1⟩:=aj (w.alloc (.map #[] 0))
 have hs1:W1.heap.size=bm+1:=by rw[← hW1,World.size_alloc,hbm]
 have hR1:=(hR.below (hB1.mono (by omega))).more (show B≤W1.heap.size by omega);rw[hW1] at hB1 hF1 hM1 hR1;have hC:=srcNames_own s rv zv lv evs W1 hR1 hL;have hK1:=Vd.Kp.below (g:=g) (v:=v) hB1;have hvl:∀j,v.ownBlock=some j→j<w.heap.size:=fun j hj=>(hF.row.lt j hj).2
 obtain⟨l,hl⟩:=aj (Src.names s)
 have hll:s.zones.length+s.links.length=l.length:=by rw[← hl];simp[Src.names,Src.zoneNames,Src.linkNames]
 have hln:l.length≤6000:=by have:=hL.zones;have:=hL.links;omega
 rw[hl] at hsz hC ⊢;rw[hll,hs1] at hC;rw[hbm] at hM1 hgl hvl;obtain⟨n,hn⟩:=aj (l.length)
 unfold Vd.tw;rw[hn] at hC hln ⊢;have a0:=hF1.at_.cell 0 _ rfl;have a1:=hF1.at_.cell 1 _ rfl;have a2:=hF1.at_.cell 2 _ rfl;have HC:=ak hC;have HF:=ak hF1;have HM:=ak hM1;have HK:=ak hK1;have HSz:=ak hsz;have HVl:=ak hvl;have HN:=ak hn;have HS1:=ak hs1;clear hF hR hB1 hF1 hM1 hR1 hC hK1 hvl hsz hl hll hn hs1;have hmk:=@run_makeMap Tryz.prog;go_enter Tryz.func96,Tryz.ntmps96
 go_wp2_with fail
 refine HC.out.mono ?_;rintro e w2 ⟨A,c,rfl,hb,_,_,hO⟩;replace hb:Below W1.heap.size W1 w2:=by rw[HS1.out];exact hb
 have hF2:=HF.out.kept hb;have hK2:=HK.out.then_ hb;have hM2:=HM.out.below hb;have h0:Vd.TwAt rv zv lv B g fl v w bm A n c l (.int .i64 0) w2:=⟨⟨0,v,_,Nat.zero_le _,rfl,by rw[Vd.steps,List.append_nil];exact hF2,hK2,hM2,Vd.Seen.nil,fun j hj=>by
  have h1:=(hO.lt j hj).1;exact⟨by omega,fun e=>by have:=HVl.out j e;omega⟩⟩,hO⟩
 have H0:=ak h0;clear hb hF2 hK2 hM2 hO h0 a0 a1 a2;go_wp2_with fail
 go_loopw [14] (fun i wr=>Vd.TwAt rv zv lv B g fl v w bm A n c l i wr) (fun i _=>n - (intOf i).toNat)
 case atStart=>exact H0.out
 case round=>
  obtain⟨⟨k,u,f,hk,rfl,hF,hK,hM,hS,hBs⟩,hO⟩:=hrel
  by_cases hlt:k<n
  ·obtain⟨x,hx⟩:∃y,l[k]?=some y:=⟨_,List.getElem?_eq_getElem (by rw[HN.out];exact hlt)⟩
   have hxs:=HSz.out x (List.mem_of_getElem? hx);obtain⟨ad,u1,rfl,hab,hu,hcu⟩:=(Reads.of_own hO).at_ hlt;have hu2:u1=.string x:=by
    rw[List.getElem?_map,hx] at hu;exact(Option.some.inj hu).symm
   rw[hu2] at hcu;have q1:=am k
   have q2:(k:Int)<(n:Int):=(by omega);have htk:l.take (k+1)=l.take k ++ [x]:=by rw[List.take_add_one,hx];rfl
   have hst:=Vd.steps_next (f:=Vd.tw1 l) hx;have hbn:k<maxLen:=by unfold maxLen;omega
   have hle:=Vd.tw_le l k;have hmg:=(hF.map_ne hM).1
   by_cases hin:x∈l.take k
   ·rw[Vd.tw1_in hin] at hst;have hq:=hS.yes hin;obtain⟨u2,hu2⟩:=aj ((f x).getD (.int .i64 0))
    have hp:=vdPut_any rv zv lv u B g _ 8 x wr hF (by rw[List.length_append];omega) (by have:=hK.size;omega);have hrw:=hK.size;have hnext:Hid (∀e w2,Vd.PutRet rv zv lv B g (fl ++ Vd.steps (Vd.tw1 l) l k) (8,x) u wr e w2→(∃y,e=.returned y)∧Vd.TwAt rv zv lv B g fl v w bm (some ad) n c l (.int .i64 ((k:Int)+1)) w2):=by
     rintro e w2 ⟨he,v2,hF2,hK2⟩;have hM2:=hK2.map hM hmg (hF.map_ne hM).2;obtain⟨hO2,hBs2⟩:=hK2.row hO hBs;refine⟨he,⟨k+1,v2,f,by omega,by simp,?_,hK.trans hK2,hM2.more (by omega),?_,hBs2⟩,hO2⟩
     ·rw[hst,← List.append_assoc];exact hF2
     ·rw[htk];exact hS.again hin
    have HP:=ak hp;have HM3:=ak hM;clear hp hF hK hM hS hBs hO hu hx htk hst hin hmg hle;go_wp2_with (first|(at_lookup;refine look_int _ rfl _ _ bm k f x hxs rfl rfl rfl HM3.out u2 hu2 true hq ?_))
    refine HP.out.mono ?_;intro e w2 hpr;obtain⟨⟨y,rfl⟩,hN4⟩:=hnext.out e w2 hpr;have HN5:=ak hN4;clear hpr hN4 hq hu2;go_wp2;go_roundw
    case rel=>exact HN5.out
    case measure=>simp[intOf];omega
   ·rw[Vd.tw1_out hin,List.append_nil] at hst;have hq:=hS.no hin;obtain⟨u2,hu2⟩:=aj ((f x).getD (.int .i64 0))
    have hrw:=hK.size;have hnext:Hid (∀w3,MapF Tryz.prog 9 w3 bm (k+1) (Mp.put f x (.int .i64 (k:Int)))→wr.grownBy w3 (some bm)→Vd.TwAt rv zv lv B g fl v w bm (some ad) n c l (.int .i64 ((k:Int)+1)) w3):=by
     refine fun w3 hM3 hg3=>⟨⟨k+1,u,_,by omega,by simp,?_,hK.grown hg3 (by omega),hM3,?_,hBs⟩,hO.kept hg3 (.inr (fun e=>by have:=(hO.lt bm e).1;omega))⟩
     ·rw[hst];exact hF.grown hM hg3
     ·rw[htk];exact hS.put _ _
    have HM3:=ak hM;clear hF hK hM hS hBs hO hu hx htk hst hin hmg hle;go_wp2_with (first|(at_lookup;refine look_int _ rfl _ _ bm k f x hxs rfl rfl rfl HM3.out u2 hu2 false hq ?_)|(at_mapUpdate;refine store_int _ rfl _ _ _ bm k f x hxs hbn (k:Int) rfl rfl rfl rfl HM3.out ?_;intro w3 hM5 hg5;have HN5:=ak (hnext.out w3 hM5 hg5);clear hM5 hg5))
    go_roundw
    case rel=>exact HN5.out
    case measure=>simp[intOf];omega
  ·have hkn:k=n:=(by omega);subst hkn;have q2:¬(k:Int)<(k:Int):=(by omega);have HE:Hid (Vd.Ret rv zv lv B g fl (Vd.steps (Vd.tw1 l) l k) v w (.returned (.tuple #[])) wr):=⟨⟨_,rfl⟩,u,hF,hK⟩
   clear hF hK hM hS hBs hO;go_wp2;refine bodyPost_ret (results_none rfl _ _ _) rfl ?_;exact HE.out
namespace Vd
theorem flat_next {α β:Type}(f:α→List β){l:List α}{k:Nat}{x:α}(h:l[k]?=some x):(l.take (k+1)).flatMap f=(l.take k).flatMap f ++ f x:=by
 rw[List.take_add_one,h,List.flatMap_append];simp
theorem flat_all {α β:Type}(f:α→List β){l:List α}{k:Nat}(h:l.length=k):(l.take k).flatMap f=l.flatMap f:=by
 rw[List.take_of_length_le (by omega)]
theorem flat_len {α β:Type}(f:α→List β)(m:Nat):∀(l:List α),(∀x∈l,(f x).length≤m)→(l.flatMap f).length≤l.length*m
 |[],_=>by simp
 |x :: l,h=>by
  rw[List.flatMap_cons,List.length_append,List.length_cons,Nat.add_mul];have h1:=h x (by simp);have h2:=flat_len f m l (fun y hy=>h y (by simp[hy]));omega
noncomputable def ms (rn:List ByteArray)(e:Er.E):List Fl:=@ite _ (e.k=2∧e.ru∉rn) (Classical.propDecidable _) [(3,e.ru)] []
theorem ms_yes {rn:List ByteArray}{e:Er.E}(h:e.k=2)(h2:e.ru∉rn):ms rn e=[(3,e.ru)]:=by unfold ms;rw[if_pos ⟨h,h2⟩]
theorem ms_kind {rn:List ByteArray}{e:Er.E}(h:¬e.k=2):ms rn e=[]:=by unfold ms;rw[if_neg (fun q=>h q.1)]
theorem ms_there {rn:List ByteArray}{e:Er.E}(h:e.ru∈rn):ms rn e=[]:=by unfold ms;rw[if_neg (fun q=>q.2 h)]
theorem ms_le (rn:List ByteArray)(e:Er.E):(ms rn e).length≤1:=by
 unfold ms;split
 ·exact Nat.le_refl _
 ·exact Nat.zero_le _
def rn (s:Src.S):List ByteArray:=s.rules.map fun r=>r.nm
noncomputable def mz (s:Src.S)(z:Src.Txt × List Er.E):List Fl:=z.2.flatMap (ms (rn s))
def RsAt (w0:World)(bm:Nat)(l:List ByteArray)(n:Nat)(i:Value)(wr:World):Prop:=
 ∃k f,k≤n∧i=.int .i64 (k:Int)∧Below w0.heap.size w0 wr∧MapF Tryz.prog 9 wr bm k f∧Seen f (l.take k)
def ZsAt {α:Type}(h:α→List Fl)(l:List α)(n:Nat)(rv zv lv:Value)(B g:Nat)(fl:List Fl)(v0:Value)(w0:World)(bm nm:Nat)(f:Mp.Fn)(i:Value)(wr:World):Prop:=
 ∃k v,k≤n∧i=.int .i64 (k:Int)∧Fd rv zv lv B g (fl ++ (l.take k).flatMap h) v wr∧Kp g v0 v w0 wr∧MapF Tryz.prog 9 wr bm nm f
end Vd
theorem vdMissing_any (s:Src.S)(rv zv lv v:Value)(evs:List Value)(B g:Nat)(fl:List Vd.Fl)(w:World)(hF:Vd.Fd rv zv lv B g fl v w)(hR:Src.SrcR w B s rv zv lv evs)(hB:B≤g)(hL:Src.Lims s)(hE:∀z∈s.zones,z.2.length≤100)(hsz:∀x∈Vd.rn s,x.size≤maxLen)(hse:∀z∈s.zones,∀e∈z.2,e.ru.size≤maxLen)(hfl:fl.length≤100000):
  Calls Tryz.prog 97 #[.pointer (some ⟨g,0,none⟩)] w (Vd.Ret rv zv lv B g fl (s.zones.flatMap (Vd.mz s)) v w):=by
 have hgl:=hF.at_.lt;obtain⟨bm,hbm⟩:=aj (w.heap.size)
 have hB1:=(Below.refl w.heap.size w).alloc (Nat.le_refl _) (.map #[] 0);have hF1:=hF.alloc (.map #[] 0);have hM1:=MapF.made (P:=Tryz.prog) (k:=9) w;have hvl:∀j,v.ownBlock=some j→j<w.heap.size:=fun j hj=>(hF.row.lt j hj).2
 have hvb:=hF.base;have hlen:(s.zones.zip evs).length=s.zones.length:=by rw[List.length_zip,hR.len];omega
 have hers:=hR.eras;obtain⟨rA,rc,rfl,_,hrc,hrr⟩:=hR.rules;obtain⟨zA,zc,rfl,_,hzc,hrz⟩:=hR.zones;obtain⟨lA,lc,rfl,_⟩:=hR.links;obtain⟨W1,hW1⟩:=aj (w.alloc (.map #[] 0))
 have hs1:W1.heap.size=bm+1:=by rw[← hW1,World.size_alloc,hbm]
 rw[hW1] at hB1 hF1 hM1;rw[hbm] at hM1 hgl hvl;have a0:=hF1.at_.cell 0 _ rfl;have L1:=hL.rules;have L2:=hL.zones;have hzn:∀k x,(s.zones.zip evs)[k]?=some x→s.zones[k]?=some x.1∧x∈s.zones.zip evs:=fun k x h=>⟨(List.getElem?_zip_eq_some.1 h).1,List.mem_of_getElem? h⟩
 have hrnl:(Vd.rn s).length=s.rules.length:=by unfold Vd.rn;simp
 have hrnk:∀(k:Nat) (x:Ru.R),s.rules[k]?=some x→(Vd.rn s)[k]?=some x.nm:=fun k x h=>by unfold Vd.rn;rw[List.getElem?_map,h];rfl
 have hmz:∀k,((s.zones.take k).flatMap (Vd.mz s)).length≤k*100:=fun k=>Nat.le_trans (Vd.flat_len (Vd.mz s) 100 _ (fun z hz=>Nat.le_trans (Vd.flat_len (Vd.ms (Vd.rn s)) 1 z.2 (fun e _=>Vd.ms_le _ e)) (by have:=hE z (List.mem_of_mem_take hz);omega))) (by rw[List.length_take];exact Nat.mul_le_mul_right _ (Nat.min_le_left _ _))
 obtain⟨n1,hn1⟩:=aj (s.rules.length)
 obtain⟨n2,hn2⟩:=aj (s.zones.length)
 obtain⟨n3,hn3⟩:=aj (s.links.length)
 rw[hn1] at hrr L1 hF hF1 a0 hrnl ⊢;rw[hn2] at hrz L2 hF hF1 hlen ⊢;rw[hn3] at hF hF1 ⊢;unfold maxLen at hrc hzc;have HN1:=ak hn1;have HN2:=ak hn2;have HRr:=ak hrr;have HRz:=ak hrz;have HLen:=ak hlen;have HErs:=ak hers;have HZn:=ak hzn;have HE:=ak hE;have HSz:=ak hsz;have HSe:=ak hse;have HF0:=ak hF;have HF:=ak hF1;have HM:=ak hM1;have HB1:=ak hB1;have HVl:=ak (And.intro hvl hvb);have HS1:=ak hs1;have HRnl:=ak hrnl;have HRnk:=ak hrnk;have HMz:=ak hmz;have HBm:=ak hbm;clear hF hR hB1 hF1 hM1 hvl hvb hsz hse hn1 hn2 hn3 hrr hrz hlen hers hzn hE hs1 hrnl hrnk hmz hrc hzc hL;have hmk:=@run_makeMap Tryz.prog;go_enter Tryz.func97,Tryz.ntmps97
 go_wp2_with fail
 clear a0 hmk;go_loopw [18] (fun i wr=>Vd.RsAt w bm (Vd.rn s) n1 i wr) (fun i _=>n1 - (intOf i).toNat)
 case atStart=>exact⟨0,_,Nat.zero_le _,rfl,HB1.out,HM.out,Vd.Seen.nil⟩
 case round=>
  obtain⟨k,f,hk,rfl,hB',hM,hS⟩:=hrel
  by_cases hlt:k<n1
  ·have q1:=am k
   have q2:(k:Int)<(n1:Int):=(by omega);obtain⟨ad,x,rfl,hab,Hx,HLc⟩:=Ix.reads_cells (enc:=Ru.R.cells) (m:=11) (fun _=>rfl) HN1.out (HRr.out.below (hB'.mono (by have:=HF0.out.at_.lt;omega))) hlt;have hnk:=HRnk.out k x Hx.out;have hxs:x.nm.size≤maxLen:=HSz.out x.nm (List.mem_of_getElem? hnk);obtain⟨nm,fr,tt,mo,kk,nn,d,sc,cc,sv,lt⟩:=x;have x0:wr.cell? (ad.add (k*11))=some (.string nm):=HLc.out 0 _ rfl;have x1:wr.cell? ⟨(ad.add (k*11)).block,(ad.add (k*11)).off+1,none⟩=some (.int .i64 fr):=HLc.out 1 _ rfl;have x2:wr.cell? ⟨(ad.add (k*11)).block,(ad.add (k*11)).off+2,none⟩=some (.int .i64 tt):=HLc.out 2 _ rfl;have x3:wr.cell? ⟨(ad.add (k*11)).block,(ad.add (k*11)).off+3,none⟩=some (.int .i64 mo):=HLc.out 3 _ rfl;have x4:wr.cell? ⟨(ad.add (k*11)).block,(ad.add (k*11)).off+4,none⟩=some (.int .u8 kk):=HLc.out 4 _ rfl;have x5:wr.cell? ⟨(ad.add (k*11)).block,(ad.add (k*11)).off+5,none⟩=some (.int .i64 nn):=HLc.out 5 _ rfl;have x6:wr.cell? ⟨(ad.add (k*11)).block,(ad.add (k*11)).off+6,none⟩=some (.int .i64 d):=HLc.out 6 _ rfl;have x7:wr.cell? ⟨(ad.add (k*11)).block,(ad.add (k*11)).off+7,none⟩=some (.int .i64 sc):=HLc.out 7 _ rfl;have x8:wr.cell? ⟨(ad.add (k*11)).block,(ad.add (k*11)).off+8,none⟩=some (.int .u8 cc):=HLc.out 8 _ rfl;have x9:wr.cell? ⟨(ad.add (k*11)).block,(ad.add (k*11)).off+9,none⟩=some (.int .i64 sv):=HLc.out 9 _ rfl;have x10:wr.cell? ⟨(ad.add (k*11)).block,(ad.add (k*11)).off+10,none⟩=some (.string lt):=HLc.out 10 _ rfl
   obtain⟨cs,hcs⟩:∃c:Array Value,#[.string nm,.int .i64 fr,.int .i64 tt,.int .i64 mo,.int .u8 kk,.int .i64 nn,.int .i64 d,.int .i64 sc,.int .u8 cc,.int .i64 sv,.string lt]=c:=⟨_,rfl⟩
   have hM2:=hM.alloc (.cells cs 112);rw[← hcs] at hM2;have hB2:=hB'.alloc hB'.size (.cells cs 112);rw[← hcs] at hB2;have hbn:k<maxLen:=by unfold maxLen;omega
   have htk:(Vd.rn s).take (k+1)=(Vd.rn s).take k ++ [nm]:=by rw[List.take_add_one,hnk];rfl
   have hbmw:=HBm.out;have hnext:Hid (∀w3,MapF Tryz.prog 9 w3 bm (k+1) (Mp.put f nm (.int .i64 (k:Int)))→(wr.alloc (.cells #[.string nm,.int .i64 fr,.int .i64 tt,.int .i64 mo,.int .u8 kk,.int .i64 nn,.int .i64 d,.int .i64 sc,.int .u8 cc,.int .i64 sv,.string lt] 112)).grownBy w3 (some bm)→Vd.RsAt w bm (Vd.rn s) n1 (.int .i64 ((k:Int)+1)) w3):=by
    intro w3 hM3 hg3;refine⟨k+1,_,by omega,by simp,hB2.grown hg3 hB2.size (fun j e=>by injection e with e;omega),hM3,?_⟩;rw[htk];exact hS.put _ _
   have HM2:=ak hM2;clear hM2 hB2 hM hB' hS htk hnk hcs Hx HLc;go_wp2_with (first|(at_mapUpdate;refine store_int _ rfl _ _ _ bm k f nm hxs hbn (k:Int) rfl rfl rfl rfl HM2.out ?_;intro w3 hM5 hg5;have HN5:=ak (hnext.out w3 hM5 hg5);clear hM5 hg5))
   go_roundw
   case rel=>exact HN5.out
   case measure=>simp[intOf];omega
  ·have hkn:k=n1:=(by omega);subst hkn;have q2:¬(k:Int)<(k:Int):=(by omega);rw[List.take_of_length_le (by rw[HRnl.out];exact Nat.le_refl _)] at hS;have hF2:=HF0.out.kept hB';have hK2:=Vd.Kp.below (g:=g) (v:=v) hB';have a1:=hF2.at_.cell 1 _ rfl;have H0:Hid (Vd.ZsAt (Vd.mz s) s.zones n2 (.slice rA k rc) (.slice zA n2 zc) (.slice lA n3 lc) B g fl v w bm k f (.int .i64 0) wr):=⟨0,v,Nat.zero_le _,rfl,by simpa using hF2,hK2,hM⟩
   have HS:=ak hS;clear hF2 hK2 hM hS hB';go_wp2_with fail
   clear a1;go_loopw [34] (fun i wr=>Vd.ZsAt (Vd.mz s) s.zones n2 (.slice rA k rc) (.slice zA n2 zc) (.slice lA n3 lc) B g fl v w bm k f i wr) (fun i _=>n2 - (intOf i).toNat)
   case atStart=>exact H0.out
   case round=>
    clear H0;obtain⟨k2,u,hk2,rfl,hF,hK,hM⟩:=hrel
    by_cases hlt2:k2<n2
    ·have q1:=am k2
     have q3:(k2:Int)<(n2:Int):=(by omega);have hBw:=hK.base hB HVl.out.2 (by have:=HF0.out.at_.lt;omega);obtain⟨adz,x,rfl,hab,Hx,HL⟩:=Ix.reads_cells (enc:=Src.zc) (m:=2) (fun _=>rfl) HLen.out (HRz.out.below hBw) hlt2;obtain⟨hzk,hzm⟩:=HZn.out k2 x Hx.out;obtain⟨eA,ec,he2,_,hec,hre⟩:=HErs.out x hzm;have hmem:x.1∈s.zones:=List.mem_of_getElem? hzk;obtain⟨zb,hzb⟩:=aj (Src.bts x.1.1)
     obtain⟨es,hes⟩:=aj (x.1.2)
     obtain⟨me,hme⟩:=aj (es.length)
     have hm100:me≤100:=by rw[← hme,← hes];exact HE.out _ hmem
     have hsz:∀e∈es,e.ru.size≤maxLen:=by rw[← hes];exact HSe.out _ hmem
     have hmz:Vd.mz s x.1=es.flatMap (Vd.ms (Vd.rn s)):=by unfold Vd.mz;rw[hes]
     rw[hes,hme] at he2 hre;have c0:wr.cell? (adz.add (k2*2))=some (.string zb):=by rw[← hzb];exact HL.out 0 _ rfl
     have c1:wr.cell? ⟨(adz.add (k2*2)).block,(adz.add (k2*2)).off+1,none⟩=some (.slice eA me ec):=by rw[← he2];exact HL.out 1 _ rfl
     have hnx:=Vd.flat_next (Vd.mz s) hzk;rw[hmz] at hnx;have hfk:=HMz.out k2;have hBa:=(Below.refl wr.heap.size wr).alloc (Nat.le_refl _) (.cells #[.string zb,.slice eA me ec] 117);have hA:Hid (Vd.ZsAt (Vd.ms (Vd.rn s)) es me (.slice rA k rc) (.slice (some adz) n2 zc) (.slice lA n3 lc) B g (fl ++ (s.zones.take k2).flatMap (Vd.mz s)) v w bm k f (.int .i64 0) (wr.alloc (.cells #[.string zb,.slice eA me ec] 117))):=⟨0,u,Nat.zero_le _,rfl,by simpa using hF.kept hBa,hK.then_ hBa,hM.below hBa⟩
     have HMe:=ak hme;have HRe:=ak hre;have HSe2:=ak hsz;have HNx:=ak hnx;unfold maxLen at hec;clear hF hK hM hBw hBa Hx HL hzk hzm he2 hre hmem hzb hes hme hsz hmz hnx;go_wp2;go_loopw [41] (fun i wr=>Vd.ZsAt (Vd.ms (Vd.rn s)) es me (.slice rA k rc) (.slice (some adz) n2 zc) (.slice lA n3 lc) B g (fl ++ (s.zones.take k2).flatMap (Vd.mz s)) v w bm k f i wr) (fun i _=>me - (intOf i).toNat)
     case atStart=>exact hA.out
     case round=>
      clear hA c0 c1;obtain⟨j,u,hj,rfl,hF,hK,hM⟩:=hrel
      by_cases hlt3:j<me
      ·have q4:=am j
       have q5:(j:Int)<(me:Int):=(by omega);have hBw:=hK.base hB HVl.out.2 (by have:=HF0.out.at_.lt;omega);obtain⟨ad,x,rfl,hab,Hx,HLe⟩:=Ix.reads_cells (enc:=Er.E.cells) (m:=13) (fun _=>rfl) HMe.out (HRe.out.below hBw) hlt3;have hxs:=HSe2.out x (List.mem_of_getElem? Hx.out);have hnj:=Vd.flat_next (Vd.ms (Vd.rn s)) Hx.out;obtain⟨std,ek,esv,ru,fm,en,⟨y,m,dk,dn,dd,sc,cc⟩⟩:=x;simp only at hxs;have y0:wr.cell? (ad.add (j*13))=some (.int .i64 std):=HLe.out 0 _ rfl;have y1:wr.cell? ⟨(ad.add (j*13)).block,(ad.add (j*13)).off+1,none⟩=some (.int .u8 ek):=HLe.out 1 _ rfl;have y2:wr.cell? ⟨(ad.add (j*13)).block,(ad.add (j*13)).off+2,none⟩=some (.int .i64 esv):=HLe.out 2 _ rfl;have y3:wr.cell? ⟨(ad.add (j*13)).block,(ad.add (j*13)).off+3,none⟩=some (.string ru):=HLe.out 3 _ rfl;have y4:wr.cell? ⟨(ad.add (j*13)).block,(ad.add (j*13)).off+4,none⟩=some (.string fm):=HLe.out 4 _ rfl;have y5:wr.cell? ⟨(ad.add (j*13)).block,(ad.add (j*13)).off+5,none⟩=some (.bool en):=HLe.out 5 _ rfl;have y6:wr.cell? ⟨(ad.add (j*13)).block,(ad.add (j*13)).off+6,none⟩=some (.int .i64 y):=HLe.out 6 _ rfl;have y7:wr.cell? ⟨(ad.add (j*13)).block,(ad.add (j*13)).off+7,none⟩=some (.int .i64 m):=HLe.out 7 _ rfl;have y8:wr.cell? ⟨(ad.add (j*13)).block,(ad.add (j*13)).off+8,none⟩=some (.int .u8 dk):=HLe.out 8 _ rfl;have y9:wr.cell? ⟨(ad.add (j*13)).block,(ad.add (j*13)).off+9,none⟩=some (.int .i64 dn):=HLe.out 9 _ rfl
       have y10:wr.cell? ⟨(ad.add (j*13)).block,(ad.add (j*13)).off+10,none⟩=some (.int .i64 dd):=HLe.out 10 _ rfl;have y11:wr.cell? ⟨(ad.add (j*13)).block,(ad.add (j*13)).off+11,none⟩=some (.int .i64 sc):=HLe.out 11 _ rfl;have y12:wr.cell? ⟨(ad.add (j*13)).block,(ad.add (j*13)).off+12,none⟩=some (.int .u8 cc):=HLe.out 12 _ rfl;have hBa:=(Below.refl wr.heap.size wr).alloc (Nat.le_refl _) (.cells #[.int .i64 std,.int .u8 ek,.int .i64 esv,.string ru,.string fm,.bool en,.int .i64 y,.int .i64 m,.int .u8 dk,.int .i64 dn,.int .i64 dd,.int .i64 sc,.int .u8 cc] 191);have hF2:=hF.kept hBa;have hK2:=hK.then_ hBa;have hM2:=hM.below hBa;have hjl:((es.take j).flatMap (Vd.ms (Vd.rn s))).length≤j:=Nat.le_trans (Vd.flat_len _ 1 _ (fun e _=>Vd.ms_le _ e)) (by rw[List.length_take];omega)
       by_cases hkd:ek=2
       ·subst hkd
        by_cases hin:ru∈Vd.rn s
        ·rw[Vd.ms_there hin,List.append_nil] at hnj;have hq:=HS.out.yes hin;obtain⟨u2,hu2⟩:=aj ((f ru).getD (.int .i64 0))
         have HN5:Hid (Vd.ZsAt (Vd.ms (Vd.rn s)) es me (.slice rA k rc) (.slice (some adz) n2 zc) (.slice lA n3 lc) B g (fl ++ (s.zones.take k2).flatMap (Vd.mz s)) v w bm k f (.int .i64 ((j:Int)+1)) (wr.alloc (.cells #[.int .i64 std,.int .u8 2,.int .i64 esv,.string ru,.string fm,.bool en,.int .i64 y,.int .i64 m,.int .u8 dk,.int .i64 dn,.int .i64 dd,.int .i64 sc,.int .u8 cc] 191))):=⟨j+1,u,by omega,by simp,by rw[hnj];exact hF2,hK2,hM2⟩
         have HM2:=ak hM2;clear hF hK hM hF2 hK2 hM2 hBa hBw hnj Hx HLe hin;go_wp2_with (first|(at_lookup;refine look_int _ rfl _ _ bm k f ru hxs rfl rfl rfl HM2.out u2 hu2 true hq ?_))
         go_roundw
         case rel=>exact HN5.out
         case measure=>simp[intOf];omega
        ·rw[Vd.ms_yes rfl hin] at hnj;have hq:=HS.out.no hin;obtain⟨u2,hu2⟩:=aj ((f ru).getD (.int .i64 0))
         have HP:=ak (vdPut_any _ _ _ u B g _ 3 ru _ hF2 (by rw[List.length_append,List.length_append];omega) (by have:=hK2.size;have:=HF0.out.at_.lt;omega));have HN5:Hid (∀e w2,Vd.PutRet (.slice rA k rc) (.slice (some adz) n2 zc) (.slice lA n3 lc) B g ((fl ++ (s.zones.take k2).flatMap (Vd.mz s)) ++ (es.take j).flatMap (Vd.ms (Vd.rn s))) (3,ru) u (wr.alloc (.cells #[.int .i64 std,.int .u8 2,.int .i64 esv,.string ru,.string fm,.bool en,.int .i64 y,.int .i64 m,.int .u8 dk,.int .i64 dn,.int .i64 dd,.int .i64 sc,.int .u8 cc] 191)) e w2→(∃y,e=.returned y)∧Vd.ZsAt (Vd.ms (Vd.rn s)) es me (.slice rA k rc) (.slice (some adz) n2 zc) (.slice lA n3 lc) B g (fl ++ (s.zones.take k2).flatMap (Vd.mz s)) v w bm k f (.int .i64 ((j:Int)+1)) w2):=by
          rintro e w2 ⟨he,v2,hF3,hK3⟩;obtain⟨hm1,hm2⟩:=hF2.map_ne hM2;exact⟨he,j+1,v2,by omega,by simp,by rw[hnj,← List.append_assoc];exact hF3,hK2.trans hK3,hK3.map hM2 hm1 hm2⟩
         have HM2:=ak hM2;clear hF hK hM hF2 hK2 hM2 hBa hBw hnj Hx HLe hin hfk hjl;go_wp2_with (first|(at_lookup;refine look_int _ rfl _ _ bm k f ru hxs rfl rfl rfl HM2.out u2 hu2 false hq ?_))
         refine HP.out.mono ?_;intro e w2 hpr;obtain⟨⟨y,rfl⟩,hN6⟩:=HN5.out e w2 hpr;have HN6:=ak hN6;clear hpr hN6 hq hu2;go_wp2;go_roundw
         case rel=>exact HN6.out
         case measure=>simp[intOf];omega
       ·have hk0:(ek == 2)=false:=by rw[beq_eq_false_iff_ne];exact hkd
        rw[Vd.ms_kind hkd,List.append_nil] at hnj;have HN5:Hid (Vd.ZsAt (Vd.ms (Vd.rn s)) es me (.slice rA k rc) (.slice (some adz) n2 zc) (.slice lA n3 lc) B g (fl ++ (s.zones.take k2).flatMap (Vd.mz s)) v w bm k f (.int .i64 ((j:Int)+1)) (wr.alloc (.cells #[.int .i64 std,.int .u8 ek,.int .i64 esv,.string ru,.string fm,.bool en,.int .i64 y,.int .i64 m,.int .u8 dk,.int .i64 dn,.int .i64 dd,.int .i64 sc,.int .u8 cc] 191))):=⟨j+1,u,by omega,by simp,by rw[hnj];exact hF2,hK2,hM2⟩
        clear hF hK hM hF2 hK2 hM2 hBa hBw hnj Hx HLe;go_wp2;go_roundw
        case rel=>exact HN5.out
        case measure=>simp[intOf];omega
      ·have hjm:j=me:=(by omega);subst hjm;have q5:¬(j:Int)<(j:Int):=(by omega);have HN5:Hid (Vd.ZsAt (Vd.mz s) s.zones n2 (.slice rA k rc) (.slice (some adz) n2 zc) (.slice lA n3 lc) B g fl v w bm k f (.int .i64 ((k2:Int)+1)) wr):=by
        refine⟨k2+1,u,by omega,by simp,?_,hK,hM⟩;rw[HNx.out,← List.append_assoc,← Vd.flat_all _ HMe.out];exact hF
       clear hF hK hM;go_wp2;go_roundw
       case rel=>exact HN5.out
       case measure=>simp[intOf];omega
    ·have hkz:k2=n2:=(by omega);subst hkz;have q3:¬(k2:Int)<(k2:Int):=(by omega);have HE9:Hid (Vd.Ret (.slice rA k rc) (.slice zA k2 zc) (.slice lA n3 lc) B g fl (s.zones.flatMap (Vd.mz s)) v w (.returned (.tuple #[])) wr):=⟨⟨_,rfl⟩,u,by rw[← Vd.flat_all _ HN2.out];exact hF,hK⟩
     clear hF hK hM;go_wp2;refine bodyPost_ret (results_none rfl _ _ _) rfl ?_;exact HE9.out
end Go.Proofs.YtjobhjemnmleaaaGreatDoor
namespace Go.Proofs.YtjobhjemnmleaaaGreatDoor
open Go.RowKit
namespace Vd
def ds1 (zn:ByteArray)(st:Int × Bool × List Fl)(e:Er.E):Int × Bool × List Fl:=
 if e.en then (if (Mo.nom e.u.k e.u.n e.u.d e.u.y e.u.m e.u.s e.u.c).2=0 then ((Mo.nom e.u.k e.u.n e.u.d e.u.y e.u.m e.u.s e.u.c).1,true,if st.2.1=true∧(Mo.nom e.u.k e.u.n e.u.d e.u.y e.u.m e.u.s e.u.c).1≤st.1 then st.2.2 ++ [(10,zn)] else st.2.2) else (st.1,st.2.1,st.2.2 ++ [(10,zn)])) else st
theorem ds1_no {zn:ByteArray}{st:Int × Bool × List Fl}{e:Er.E}(h:e.en=false):ds1 zn st e=st:=by unfold ds1;rw[h];rfl
theorem ds1_bad {zn:ByteArray}{la:Int}{eb:Bool}{fs:List Fl}{e:Er.E}(h:e.en=true){a b:Int}(hn:Mo.nom e.u.k e.u.n e.u.d e.u.y e.u.m e.u.s e.u.c=(a,b))(hb:¬b=0):ds1 zn (la,eb,fs) e=(la,eb,fs ++ [(10,zn)]):=by unfold ds1;rw[h,hn];simp[hb]
theorem ds1_late {zn:ByteArray}{la:Int}{fs:List Fl}{e:Er.E}(h:e.en=true){a:Int}(hn:Mo.nom e.u.k e.u.n e.u.d e.u.y e.u.m e.u.s e.u.c=(a,0))(hb:a≤la):ds1 zn (la,true,fs) e=(a,true,fs ++ [(10,zn)]):=by unfold ds1;rw[h,hn];simp[hb]
theorem ds1_well {zn:ByteArray}{la:Int}{eb:Bool}{fs:List Fl}{e:Er.E}(h:e.en=true){a:Int}(hn:Mo.nom e.u.k e.u.n e.u.d e.u.y e.u.m e.u.s e.u.c=(a,0))(hb:eb=true→¬a≤la):ds1 zn (la,eb,fs) e=(a,true,fs):=by
 unfold ds1;rw[h,hn];cases eb with
 |false=>simp
 |true=>simp[hb rfl]
def ds (zn:ByteArray)(es:List Er.E):Int × Bool × List Fl:=es.foldl (ds1 zn) (0,false,[])
theorem ds_next {zn:ByteArray}{es:List Er.E}{j:Nat}{x:Er.E}(h:es[j]?=some x):ds zn (es.take (j+1))=ds1 zn (ds zn (es.take j)) x:=by
 unfold ds;rw[List.take_add_one,h,List.foldl_append];rfl
theorem ds1_len (zn:ByteArray)(st:Int × Bool × List Fl)(e:Er.E):(ds1 zn st e).2.2.length≤st.2.2.length+1:=by
 unfold ds1;split
 ·split
  ·simp only;split <;> simp
  ·simp
 ·omega
theorem ds_len (zn:ByteArray):∀(es:List Er.E) (st:Int × Bool × List Fl),(es.foldl (ds1 zn) st).2.2.length≤st.2.2.length+es.length
 |[],st=>by simp
 |e :: es,st=>by
  have h1:=ds1_len zn st e;have h2:=ds_len zn es (ds1 zn st e);rw[List.foldl_cons,List.length_cons];omega
def dz (z:Src.Txt × List Er.E):List Fl:=(ds (Src.bts z.1) z.2).2.2
def EsAt (zn:ByteArray)(es:List Er.E)(n:Nat)(rv zv lv:Value)(B g:Nat)(fl:List Fl)(v0:Value)(w0:World)(zk:Nat)(ev:Value)(a b i:Value)(wr:World):Prop:=
 ∃j u la eb fs,j≤n∧i=.int .i64 (j:Int)∧a=.int .i64 la∧b=.bool eb∧ds zn (es.take j)=(la,eb,fs)∧Fd rv zv lv B g (fl ++ fs) u wr∧Kp g v0 u w0 wr∧At wr zk [.string zn,ev]∧zk≠g∧u.ownBlock≠some zk
def DsAt {α:Type}(h:α→List Fl)(l:List α)(n:Nat)(rv zv lv:Value)(B g:Nat)(fl:List Fl)(v0:Value)(w0:World)(i:Value)(wr:World):Prop:=
 ∃k v,k≤n∧i=.int .i64 (k:Int)∧Fd rv zv lv B g (fl ++ (l.take k).flatMap h) v wr∧Kp g v0 v w0 wr
def WoB (B:Nat)(w:World):Prop:=∀W,Below B w W→Wo W
theorem WoB.then_ {B:Nat}{w w':World}(h:WoB B w)(hb:Below B w w'):WoB B w':=fun W k=>h W (hb.trans k)
end Vd
theorem vdDisorder_any (s:Src.S)(rv zv lv v:Value)(evs:List Value)(B g:Nat)(fl:List Vd.Fl)(w:World)(hF:Vd.Fd rv zv lv B g fl v w)(hR:Src.SrcR w B s rv zv lv evs)(hB:B≤g)(hL:Src.Lims s)(hE:∀z∈s.zones,z.2.length≤100)(hfl:fl.length≤300000)(hWo:Vd.WoB B w):
  Calls Tryz.prog 98 #[.pointer (some ⟨g,0,none⟩)] w (Vd.Ret rv zv lv B g fl (s.zones.flatMap Vd.dz) v w):=by
 have hgl:=hF.at_.lt;have hvb:=hF.base;have hlen:(s.zones.zip evs).length=s.zones.length:=by rw[List.length_zip,hR.len];omega
 have hers:=hR.eras;obtain⟨zA,zc,rfl,_,hzc,hrz⟩:=hR.zones;have a1:=hF.at_.cell 1 _ rfl;have L2:=hL.zones;have hzn:∀k x,(s.zones.zip evs)[k]?=some x→s.zones[k]?=some x.1∧x∈s.zones.zip evs:=fun k x h=>⟨(List.getElem?_zip_eq_some.1 h).1,List.mem_of_getElem? h⟩
 have hmz:∀k,((s.zones.take k).flatMap Vd.dz).length≤k*100:=fun k=>Nat.le_trans (Vd.flat_len Vd.dz 100 _ (fun z hz=>Nat.le_trans (Vd.ds_len _ z.2 _) (by have:=hE z (List.mem_of_mem_take hz);simpa using this))) (by rw[List.length_take];exact Nat.mul_le_mul_right _ (Nat.min_le_left _ _))
 obtain⟨n2,hn2⟩:=aj (s.zones.length)
 rw[hn2] at hrz L2 hF a1 hlen ⊢;unfold maxLen at hzc;have HN2:=ak hn2;have HRz:=ak hrz;have HLen:=ak hlen;have HErs:=ak hers;have HZn:=ak hzn;have HE:=ak hE;have HF0:=ak hF;have HVb:=ak hvb;have HMz:=ak hmz;have HWo:=ak hWo;clear hF hR hvb hn2 hrz hlen hers hzn hE hmz hL hWo;go_enter Tryz.func98,Tryz.ntmps98
 go_wp2_with fail
 clear a1;go_loopw [17] (fun i wr=>Vd.DsAt Vd.dz s.zones n2 rv (.slice zA n2 zc) lv B g fl v w i wr) (fun i _=>n2 - (intOf i).toNat)
 case atStart=>exact⟨0,v,Nat.zero_le _,rfl,by simpa using HF0.out,Vd.Kp.refl _ _ _⟩
 case round=>
  obtain⟨k,u,hk,rfl,hF,hK⟩:=hrel
  by_cases hlt:k<n2
  ·have q1:=am k
   have q3:(k:Int)<(n2:Int):=(by omega);have hBw:=hK.base hB HVb.out (by omega);obtain⟨adz,x,rfl,hab,Hx,HL⟩:=Ix.reads_cells (enc:=Src.zc) (m:=2) (fun _=>rfl) HLen.out (HRz.out.below hBw) hlt;obtain⟨hzk,hzm⟩:=HZn.out k x Hx.out;obtain⟨eA,ec,he2,_,hec,hre⟩:=HErs.out x hzm;have hmem:x.1∈s.zones:=List.mem_of_getElem? hzk;obtain⟨zb,hzb⟩:=aj (Src.bts x.1.1)
   obtain⟨es,hes⟩:=aj (x.1.2)
   obtain⟨me,hme⟩:=aj (es.length)
   have hm100:me≤100:=by rw[← hme,← hes];exact HE.out _ hmem
   have hdz:Vd.dz x.1=(Vd.ds zb es).2.2:=by unfold Vd.dz;rw[hes,hzb]
   rw[hes,hme] at he2 hre;have c0:wr.cell? (adz.add (k*2))=some (.string zb):=by rw[← hzb];exact HL.out 0 _ rfl
   have c1:wr.cell? ⟨(adz.add (k*2)).block,(adz.add (k*2)).off+1,none⟩=some (.slice eA me ec):=by rw[← he2];exact HL.out 1 _ rfl
   have hnx:=Vd.flat_next Vd.dz hzk;rw[hdz] at hnx;have hfk:=HMz.out k;have hBa:=(Below.refl wr.heap.size wr).alloc (Nat.le_refl _) (.cells #[.string zb,.slice eA me ec] 117);have hgk:g<wr.heap.size:=hF.at_.lt;have huk:∀q,u.ownBlock=some q→q<wr.heap.size:=fun q hq=>(hF.row.lt q hq).2
   have hAz:=At.new wr #[.string zb,.slice eA me ec] 117;obtain⟨zk,hzk2⟩:=aj (wr.heap.size)
   have hA:Hid (Vd.EsAt zb es me rv (.slice (some adz) n2 zc) lv B g (fl ++ (s.zones.take k).flatMap Vd.dz) v w zk (.slice eA me ec) (.int .i64 0) (.bool false) (.int .i64 0) (wr.alloc (.cells #[.string zb,.slice eA me ec] 117))):=⟨0,u,0,false,[],Nat.zero_le _,rfl,rfl,rfl,rfl,by simpa using hF.kept hBa,hK.then_ hBa,by rw[← hzk2];exact hAz,by omega,fun e=>by have:=huk zk e;omega⟩
   have HMe:=ak hme;have HRe:=ak hre;have HNx:=ak hnx;unfold maxLen at hec;clear hF hK hBw hBa Hx HL hzk hzm he2 hre hmem hzb hes hme hdz hnx hgk huk hAz;go_wp2;clear hzk2;go_loopw [4,5,24] (fun a b i wr=>Vd.EsAt zb es me rv (.slice (some adz) n2 zc) lv B g (fl ++ (s.zones.take k).flatMap Vd.dz) v w zk (.slice eA me ec) a b i wr) (fun _ _ i _=>me - (intOf i).toNat)
   case atStart=>exact hA.out
   case round=>
    clear hA c0 c1;obtain⟨j,u,la,eb,fs,hj,rfl,rfl,rfl,hds,hF,hK,hA,hzg,huz⟩:=hrel
    by_cases hlt3:j<me
    ·have q4:=am j
     have q5:(j:Int)<(me:Int):=(by omega);have hBw:=hK.base hB HVb.out (by omega);obtain⟨ad,x,rfl,hab,Hx,HLe⟩:=Ix.reads_cells (enc:=Er.E.cells) (m:=13) (fun _=>rfl) HMe.out (HRe.out.below hBw) hlt3;have hnj:=Vd.ds_next (zn:=zb) Hx.out;rw[hds] at hnj;have hjl:fs.length≤j:=by
      have h1:=Vd.ds_len zb (es.take j) (0,false,[]);rw[show (es.take j).foldl (Vd.ds1 zb) (0,false,[])=(la,eb,fs) from hds,List.length_take] at h1;simp only[List.length_nil] at h1;omega
     have HWr:=ak (HWo.out.then_ hBw);have hBg:B≤wr.heap.size:=by have:=hF.at_.lt;omega
     -- what holds of a world in which all that lay here stays
     have HQ:Hid (∀w2,Below wr.heap.size wr w2→Wo w2∧w2.cell? ⟨zk,0,none⟩=some (.string zb)∧w2.cell? ⟨zk,1,none⟩=some (.slice (some ad) me ec)∧Hid (∀la' eb',Vd.ds1 zb (la,eb,fs) x=(la',eb',fs)→Vd.EsAt zb es me rv (.slice (some adz) n2 zc) lv B g (fl ++ (s.zones.take k).flatMap Vd.dz) v w zk (.slice (some ad) me ec) (.int .i64 la') (.bool eb') (.int .i64 ((j:Int)+1)) w2)∧
       Hid (Calls Tryz.prog 134 #[.pointer (some ⟨g,0,none⟩),.int .i64 10,.string zb] w2 fun e w3=>(∃y,e=.returned y)∧Hid (∀la' eb',Vd.ds1 zb (la,eb,fs) x=(la',eb',fs ++ [(10,zb)])→Vd.EsAt zb es me rv (.slice (some adz) n2 zc) lv B g (fl ++ (s.zones.take k).flatMap Vd.dz) v w zk (.slice (some ad) me ec) (.int .i64 la') (.bool eb') (.int .i64 ((j:Int)+1)) w3))):=by
      intro w2 hb2;have hF2:=hF.kept hb2;have hK2:=hK.then_ hb2;have hA2:=hA.call hb2;refine⟨HWr.out w2 (hb2.mono hBg),hA2.cell 0 _ rfl,hA2.cell 1 _ rfl,?_,?_⟩
      ·intro la' eb' hx;exact⟨j+1,u,la',eb',fs,by omega,by simp,rfl,rfl,by rw[hnj,hx],hF2,hK2,hA2,hzg,huz⟩
      ·refine(vdPut_any _ _ _ u B g _ 10 zb w2 hF2 (by rw[List.length_append,List.length_append];omega) (by have:=hb2.size;omega)).mono ?_;rintro e w3 ⟨he,v3,hF3,hK3⟩;refine⟨he,?_⟩;intro la' eb' hx;have hzl:=hA2.lt;exact⟨j+1,v3,la',eb',fs ++ [(10,zb)],by omega,by simp,rfl,rfl,by rw[hnj,hx],by rw[← List.append_assoc];exact hF3,hK2.trans hK3,hK3.at_ hA2 hzg huz,hzg,(hK3.same zk hzl hzg huz).2⟩
     obtain⟨std,ek,esv,ru,fm,en,⟨y,m,dk,dn,dd,sc,cc⟩⟩:=x;have y0:wr.cell? (ad.add (j*13))=some (.int .i64 std):=HLe.out 0 _ rfl;have y1:wr.cell? ⟨(ad.add (j*13)).block,(ad.add (j*13)).off+1,none⟩=some (.int .u8 ek):=HLe.out 1 _ rfl;have y2:wr.cell? ⟨(ad.add (j*13)).block,(ad.add (j*13)).off+2,none⟩=some (.int .i64 esv):=HLe.out 2 _ rfl;have y3:wr.cell? ⟨(ad.add (j*13)).block,(ad.add (j*13)).off+3,none⟩=some (.string ru):=HLe.out 3 _ rfl;have y4:wr.cell? ⟨(ad.add (j*13)).block,(ad.add (j*13)).off+4,none⟩=some (.string fm):=HLe.out 4 _ rfl;have y5:wr.cell? ⟨(ad.add (j*13)).block,(ad.add (j*13)).off+5,none⟩=some (.bool en):=HLe.out 5 _ rfl;have y6:wr.cell? ⟨(ad.add (j*13)).block,(ad.add (j*13)).off+6,none⟩=some (.int .i64 y):=HLe.out 6 _ rfl;have y7:wr.cell? ⟨(ad.add (j*13)).block,(ad.add (j*13)).off+7,none⟩=some (.int .i64 m):=HLe.out 7 _ rfl;have y8:wr.cell? ⟨(ad.add (j*13)).block,(ad.add (j*13)).off+8,none⟩=some (.int .u8 dk):=HLe.out 8 _ rfl;have y9:wr.cell? ⟨(ad.add (j*13)).block,(ad.add (j*13)).off+9,none⟩=some (.int .i64 dn):=HLe.out 9 _ rfl;have y10:wr.cell? ⟨(ad.add (j*13)).block,(ad.add (j*13)).off+10,none⟩=some (.int .i64 dd):=HLe.out 10 _ rfl;have y11:wr.cell? ⟨(ad.add (j*13)).block,(ad.add (j*13)).off+11,none⟩=some (.int .i64 sc):=HLe.out 11 _ rfl;have y12:wr.cell? ⟨(ad.add (j*13)).block,(ad.add (j*13)).off+12,none⟩=some (.int .u8 cc):=HLe.out 12 _ rfl
     have hBa:=(Below.refl wr.heap.size wr).alloc (Nat.le_refl _) (.cells #[.int .i64 std,.int .u8 ek,.int .i64 esv,.string ru,.string fm,.bool en,.int .i64 y,.int .i64 m,.int .u8 dk,.int .i64 dn,.int .i64 dd,.int .i64 sc,.int .u8 cc] 191);clear hF hK hA hBw hnj hds Hx HLe hfk hjl HWr;cases en with
     |false=>
      have HN5:=ak ((HQ.out _ hBa).2.2.2.1.out la eb (Vd.ds1_no rfl));clear HQ hBa;go_wp2;go_roundw
      case rel=>exact HN5.out
      case measure=>simp[intOf];omega
     |true=>
      have hBu:=hBa.alloc hBa.size (.cells #[.int .i64 y,.int .i64 m,.int .u8 dk,.int .i64 dn,.int .i64 dd,.int .i64 sc,.int .u8 cc] 188);obtain⟨na,nb,hn⟩:∃a b,Mo.nom dk dn dd y m sc cc=(a,b):=⟨_,_,rfl⟩
      have HNm:=ak (nominal_any y m dk dn dd sc cc _ (HQ.out _ hBu).1);rw[hn] at HNm;have HBu:=ak hBu;clear hBa hBu;go_wp2_with fail
      refine HNm.out.mono ?_;rintro e w2 ⟨rfl,hb⟩;have hb2:=below_then HBu.out hb;obtain⟨_,z0,z1,HN5,HP⟩:=HQ.out w2 hb2;clear HQ HNm HBu hb hb2
      by_cases hnb:nb=0
      ·subst hnb;have hw:=Vd.ds1_well (zn:=zb) (la:=la) (eb:=eb) (fs:=fs) (e:=⟨std,ek,esv,ru,fm,true,⟨y,m,dk,dn,dd,sc,cc⟩⟩) rfl hn
       by_cases hlate:na≤la
       ·cases eb with
        |false=>
         have HN6:=ak (HN5.out _ _ (hw (fun e=>by cases e)));clear HN5 HP hw hn;go_wp2;go_roundw
         case rel=>exact HN6.out
         case measure=>simp[intOf];omega
        |true=>
         have hl:=Vd.ds1_late (zn:=zb) (la:=la) (fs:=fs) (e:=⟨std,ek,esv,ru,fm,true,⟨y,m,dk,dn,dd,sc,cc⟩⟩) rfl hn hlate;have HL2:=ak hl;clear HN5 hw hn hl;go_wp2_with fail
         refine HP.out.mono ?_;rintro e w3 ⟨⟨y9,rfl⟩,hN6⟩;have HN6:=ak (hN6.out _ _ HL2.out);clear hN6 HP HL2 z0 z1;go_wp2;go_roundw
         case rel=>exact HN6.out
         case measure=>simp[intOf];omega
       ·have HN6:=ak (HN5.out _ _ (hw (fun _=>hlate)));clear HN5 HP hw hn;cases eb <;>
        ·go_wp2;go_roundw
         case rel=>exact HN6.out
         case measure=>simp[intOf];omega
      ·have hl:=Vd.ds1_bad (zn:=zb) (la:=la) (eb:=eb) (fs:=fs) (e:=⟨std,ek,esv,ru,fm,true,⟨y,m,dk,dn,dd,sc,cc⟩⟩) rfl hn hnb;have hnb0:(nb == 0)=false:=by rw[beq_eq_false_iff_ne];exact hnb
       have HL2:=ak hl;clear HN5 hn hl;go_wp2_with fail
       refine HP.out.mono ?_;rintro e w3 ⟨⟨y9,rfl⟩,hN6⟩;have HN6:=ak (hN6.out _ _ HL2.out);clear hN6 HP HL2 z0 z1;go_wp2;go_roundw
       case rel=>exact HN6.out
       case measure=>simp[intOf];omega
    ·have hjm:j=me:=(by omega);subst hjm;have q5:¬(j:Int)<(j:Int):=(by omega);have HN5:Hid (Vd.DsAt Vd.dz s.zones n2 rv (.slice (some adz) n2 zc) lv B g fl v w (.int .i64 ((k:Int)+1)) wr):=by
      refine⟨k+1,u,by omega,by simp,?_,hK⟩;rw[List.take_of_length_le (by rw[HMe.out];exact Nat.le_refl _)] at hds;rw[HNx.out,← List.append_assoc,hds];exact hF
     clear hF hK hA;go_wp2;go_roundw
     case rel=>exact HN5.out
     case measure=>simp[intOf];omega
  ·have hkz:k=n2:=(by omega);subst hkz;have q3:¬(k:Int)<(k:Int):=(by omega);have HE9:Hid (Vd.Ret rv (.slice zA k zc) lv B g fl (s.zones.flatMap Vd.dz) v w (.returned (.tuple #[])) wr):=⟨⟨_,rfl⟩,u,by rw[← Vd.flat_all _ HN2.out];exact hF,hK⟩
   clear hF hK;go_wp2;refine bodyPost_ret (results_none rfl _ _ _) rfl ?_;exact HE9.out
end Go.Proofs.YtjobhjemnmleaaaGreatDoor
