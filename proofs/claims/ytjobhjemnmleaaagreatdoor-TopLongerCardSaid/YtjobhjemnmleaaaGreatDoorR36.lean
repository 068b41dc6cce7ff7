/- The statements' Near, second part. -/
import Derived.Test.YtjobhjemnmleaaaGreatDoorR35
set_option maxRecDepth 200000
set_option maxHeartbeats 16000000
namespace Go.Proofs.YtjobhjemnmleaaaGreatDoor
open Go.RowKit
theorem refDayCheck_neg (k n d:Int)(w:World)(h0:k<0):
  Calls Tryz.prog 160 #[.agg #[.int .u8 k,.int .i64 n,.int .i64 d]] w fun e w'=>e=.returned (.int .i64 2)∧Below w.heap.size w w':=by
 have e0:(k == 0)=false:=bqf (by omega);have e1:(k == 1)=false:=bqf (by omega);have e2:(k == 2)=false:=bqf (by omega);have e3:(k == 3)=false:=bqf (by omega);have hn:(1≤n∧n≤31)∨n<1∨(1≤n∧31<n):=by omega
 have hd:(0≤d∧d≤6)∨d<0∨(0≤d∧6<d):=by omega
 rcases hn with ⟨n1,n2⟩|n1|⟨n1,n2⟩
 all_goals
  rcases hd with ⟨d1,d2⟩|d1|⟨d1,d2⟩
  all_goals
   go_enter Tryz.func160,Tryz.ntmps160
   go_wp2;go_ret
   exact⟨rfl,al⟩
theorem refRule_some (nm:ByteArray)(fr tt mo k n d sc cc sv:Int)(lt:ByteArray)(w:World)(h1:nm.size≤maxLen)(h2:lt.size≤maxLen):
  Calls Tryz.prog 125 #[.agg #[.string nm,.int .i64 fr,.int .i64 tt,.int .i64 mo,.int .u8 k,.int .i64 n,.int .i64 d,.int .i64 sc,.int .u8 cc,.int .i64 sv,.string lt]] w (Eg.SomeC fr tt w):=by
 have HN:=ak fun W=>refName_some nm W h1
 have HL:=ak fun W=>refLetter_some lt W h2
 have HD:Hid (∀W,Calls Tryz.prog 160 #[.agg #[.int .u8 k,.int .i64 n,.int .i64 d]] W (Eg.SomeN W)):=fun W=>by
  by_cases h:Dy.Ok k n d
  ·exact(refDayCheck_ok k n d W h).mono fun e w' he=>⟨.inl he.1,he.2⟩
  ·by_cases hk:0≤k
   ·exact(refDayCheck_bad k n d W hk h).mono fun e w' he=>⟨.inr he.1,he.2⟩
   ·exact(refDayCheck_neg k n d W (by omega)).mono fun e w' he=>⟨.inr he.1,he.2⟩
 have HM:Hid (∀W,Calls Tryz.prog 161 #[.agg #[.int .i64 sc,.int .u8 cc]] W (Eg.SomeN W)):=fun W=>by
  by_cases h:Mo.Ok sc cc
  ·exact(refMomCheck_ok sc cc W h).mono fun e w' he=>⟨.inl he.1,he.2⟩
  ·exact(refMomCheck_bad sc cc W h).mono fun e w' he=>⟨.inr he.1,he.2⟩
 have HT:=ak fun W=>refText_any sv W
 obtain⟨X,hX⟩:=aj (mk (Ck.text sv))
 rw[hX] at HT;obtain⟨xe,hxe⟩:=aj (X.toList.isEmpty)
 have hA0:=ak (At.new w #[.string nm,.int .i64 fr,.int .i64 tt,.int .i64 mo,.int .u8 k,.int .i64 n,.int .i64 d,.int .i64 sc,.int .u8 cc,.int .i64 sv,.string lt] 112);have hB0:=ak ((Below.refl w.heap.size w).alloc (Nat.le_refl _) (.cells #[.string nm,.int .i64 fr,.int .i64 tt,.int .i64 mo,.int .u8 k,.int .i64 n,.int .i64 d,.int .i64 sc,.int .u8 cc,.int .i64 sv,.string lt] 112));clear h1 h2 hX;go_enter Tryz.func125,Tryz.ntmps125
 go_wp2_with fail
 refine(HN.out _).mono ?_;rintro e w1 ⟨⟨b,rfl⟩,hb⟩;have HA:=ak (hA0.out.call hb);have HB:=ak (below_then hB0.out hb);clear hb hA0 hB0;have a0:=HA.out.cell 0 _ rfl;have a1:=HA.out.cell 1 _ rfl;have a2:=HA.out.cell 2 _ rfl;have a3:=HA.out.cell 3 _ rfl;have a4:=HA.out.cell 4 _ rfl;have a5:=HA.out.cell 5 _ rfl;have a6:=HA.out.cell 6 _ rfl;have a7:=HA.out.cell 7 _ rfl;have a8:=HA.out.cell 8 _ rfl;have a9:=HA.out.cell 9 _ rfl;have a10:=HA.out.cell 10 _ rfl;cases b with
 |false=>
  go_wp2;go_ret
  exact⟨.inr rfl,HB.out⟩
 |true=>
  by_cases q1:fr<1
  ·go_wp2;go_ret
   exact⟨.inr rfl,HB.out⟩
  by_cases q2:(9999:Int)<tt
  ·go_wp2;go_ret
   exact⟨.inr rfl,HB.out⟩
  by_cases q3:tt<fr
  ·go_wp2;go_ret
   exact⟨.inr rfl,HB.out⟩
  by_cases q4:mo<1
  ·go_wp2;go_ret
   exact⟨.inr rfl,HB.out⟩
  by_cases q5:(12:Int)<mo
  ·go_wp2;go_ret
   exact⟨.inr rfl,HB.out⟩
  go_wp2_with fail
  refine(HD.out _).mono ?_;rintro e w2 ⟨he,hb⟩;replace HA:=ak (HA.out.call hb);replace HB:=ak (below_then HB.out hb);clear hb a0 a1 a2 a3 a4 a5 a6 a7 a8 a9 a10;have a0:=HA.out.cell 0 _ rfl;have a1:=HA.out.cell 1 _ rfl;have a2:=HA.out.cell 2 _ rfl;have a3:=HA.out.cell 3 _ rfl;have a4:=HA.out.cell 4 _ rfl;have a5:=HA.out.cell 5 _ rfl;have a6:=HA.out.cell 6 _ rfl;have a7:=HA.out.cell 7 _ rfl;have a8:=HA.out.cell 8 _ rfl;have a9:=HA.out.cell 9 _ rfl;have a10:=HA.out.cell 10 _ rfl;rcases he with rfl|rfl
  rotate_left
  ·go_wp2;go_ret
   exact⟨.inr rfl,HB.out⟩
  go_wp2_with fail
  refine(HM.out _).mono ?_;rintro e w3 ⟨he,hb⟩;replace HA:=ak (HA.out.call hb);replace HB:=ak (below_then HB.out hb);clear hb a0 a1 a2 a3 a4 a5 a6 a7 a8 a9 a10;have a0:=HA.out.cell 0 _ rfl;have a1:=HA.out.cell 1 _ rfl;have a2:=HA.out.cell 2 _ rfl;have a3:=HA.out.cell 3 _ rfl;have a4:=HA.out.cell 4 _ rfl;have a5:=HA.out.cell 5 _ rfl;have a6:=HA.out.cell 6 _ rfl;have a7:=HA.out.cell 7 _ rfl;have a8:=HA.out.cell 8 _ rfl;have a9:=HA.out.cell 9 _ rfl;have a10:=HA.out.cell 10 _ rfl;rcases he with rfl|rfl
  rotate_left
  ·go_wp2;go_ret
   exact⟨.inr rfl,HB.out⟩
  go_wp2_with fail
  refine(HT.out _).mono ?_;rintro e w4 ⟨rfl,hb⟩;replace HA:=ak (HA.out.call hb);replace HB:=ak (below_then HB.out hb);clear hb a0 a1 a2 a3 a4 a5 a6 a7 a8 a9 a10;have a0:=HA.out.cell 0 _ rfl;have a1:=HA.out.cell 1 _ rfl;have a2:=HA.out.cell 2 _ rfl;have a3:=HA.out.cell 3 _ rfl;have a4:=HA.out.cell 4 _ rfl;have a5:=HA.out.cell 5 _ rfl;have a6:=HA.out.cell 6 _ rfl;have a7:=HA.out.cell 7 _ rfl;have a8:=HA.out.cell 8 _ rfl;have a9:=HA.out.cell 9 _ rfl;have a10:=HA.out.cell 10 _ rfl;cases xe with
  |true=>
   go_wp2;go_ret
   exact⟨.inr rfl,HB.out⟩
  |false=>
   go_wp2_with fail
   refine(HL.out _).mono ?_;rintro e w5 ⟨he,hb⟩;replace HB:=ak (below_then HB.out hb);clear hb;rcases he with rfl|rfl
   ·go_wp2;go_ret
    exact⟨.inl ⟨rfl,by omega,by omega,by omega⟩,HB.out⟩
   ·go_wp2;go_ret
    exact⟨.inr rfl,HB.out⟩
theorem near15_some (l:List Ru.R)(A:Option Addr)(c:Nat)(hi:Int)(w:World)(hR:Reads w w.heap.size 11 A l.length (l.flatMap Ru.R.cells))(hs:∀r∈l,r.nm.size≤maxLen∧r.lt.size≤maxLen)(hhi:0≤hi∧hi≤10000):
  Calls Tryz.prog 86 #[.slice A l.length c,.int .i64 hi] w (Eg.SomeZ w):=by
 obtain⟨m,hm⟩:=aj (l.length)
 rw[hm] at hR ⊢;have HR:=ak hR;have HM:=ak hm;have HS:=ak hs;have HB0:=ak (Below.refl w.heap.size w);clear hR hs hm
 by_cases h12:(12:Int)<(m:Int)
 ·go_enter Tryz.func86,Tryz.ntmps86
  go_wp2;go_ret
  exact⟨.inl rfl,HB0.out⟩
 go_enter Tryz.func86,Tryz.ntmps86
 go_wp2;go_loopw [12] (fun i wr=>∃j:Nat,j≤m∧i=.int .i64 (j:Int)∧Hid (Below w.heap.size w wr)) (fun i _=>m - (intOf i).toNat)
 case atStart=>exact⟨0,Nat.zero_le _,rfl,HB0.out⟩
 case round=>
  obtain⟨j,hj,rfl,HB⟩:=hrel
  by_cases hlt:j<m
  ·have p1:=am j
   have p2:(j:Int)<(m:Int):=(by omega);obtain⟨ad,x,rfl,hab,Hx,HL⟩:=Ix.reads_cells (enc:=Ru.R.cells) (m:=11) (fun _=>rfl) HM.out (HR.out.below HB.out) hlt;have hmem:=List.mem_of_getElem? Hx.out;have hs:=HS.out x hmem;obtain⟨nm,fr,tt,mo,k,n,d,sc,cc,sv,lt⟩:=x;simp only at hs;have y0:wr.cell? (ad.add (j*11))=some (.string nm):=HL.out 0 _ rfl;have y1:wr.cell? ⟨(ad.add (j*11)).block,(ad.add (j*11)).off+1,none⟩=some (.int .i64 fr):=HL.out 1 _ rfl;have y2:wr.cell? ⟨(ad.add (j*11)).block,(ad.add (j*11)).off+2,none⟩=some (.int .i64 tt):=HL.out 2 _ rfl;have y3:wr.cell? ⟨(ad.add (j*11)).block,(ad.add (j*11)).off+3,none⟩=some (.int .i64 mo):=HL.out 3 _ rfl;have y4:wr.cell? ⟨(ad.add (j*11)).block,(ad.add (j*11)).off+4,none⟩=some (.int .u8 k):=HL.out 4 _ rfl;have y5:wr.cell? ⟨(ad.add (j*11)).block,(ad.add (j*11)).off+5,none⟩=some (.int .i64 n):=HL.out 5 _ rfl;have y6:wr.cell? ⟨(ad.add (j*11)).block,(ad.add (j*11)).off+6,none⟩=some (.int .i64 d):=HL.out 6 _ rfl;have y7:wr.cell? ⟨(ad.add (j*11)).block,(ad.add (j*11)).off+7,none⟩=some (.int .i64 sc):=HL.out 7 _ rfl;have y8:wr.cell? ⟨(ad.add (j*11)).block,(ad.add (j*11)).off+8,none⟩=some (.int .u8 cc):=HL.out 8 _ rfl;have y9:wr.cell? ⟨(ad.add (j*11)).block,(ad.add (j*11)).off+9,none⟩=some (.int .i64 sv):=HL.out 9 _ rfl;have y10:wr.cell? ⟨(ad.add (j*11)).block,(ad.add (j*11)).off+10,none⟩=some (.string lt):=HL.out 10 _ rfl
   have HC:=ak fun W=>refRule_some nm fr tt mo k n d sc cc sv lt W hs.1 hs.2
   have hA0:=At.new wr #[.string nm,.int .i64 fr,.int .i64 tt,.int .i64 mo,.int .u8 k,.int .i64 n,.int .i64 d,.int .i64 sc,.int .u8 cc,.int .i64 sv,.string lt] 112;have hB0:=(Below.refl wr.heap.size wr).alloc (Nat.le_refl _) (.cells #[.string nm,.int .i64 fr,.int .i64 tt,.int .i64 mo,.int .u8 k,.int .i64 n,.int .i64 d,.int .i64 sc,.int .u8 cc,.int .i64 sv,.string lt] 112);have HB1:=ak (HB.out.alloc HB.out.size (.cells #[.string nm,.int .i64 fr,.int .i64 tt,.int .i64 mo,.int .u8 k,.int .i64 n,.int .i64 d,.int .i64 sc,.int .u8 cc,.int .i64 sv,.string lt] 112));have HA0:=ak hA0;obtain⟨hs1,hs2⟩:=hs;unfold maxLen at hs1 hs2;clear hA0 hB0 hmem Hx HL
   by_cases l1:(1000:Int)<(nm.size:Int)
   ·go_wp2;go_ret
    exact⟨.inl rfl,HB1.out⟩
   by_cases l2:(1000:Int)<(lt.size:Int)
   ·go_wp2;go_ret
    exact⟨.inl rfl,HB1.out⟩
   go_wp2_with fail
   refine(HC.out _).mono ?_;rintro e w1 ⟨he,hb⟩;have HA:=ak (HA0.out.call hb);replace HB:=ak (below_then HB1.out hb);clear hb HB1 HC y0 y1 y2 y3 y4 y5 y6 y7 y8 y9 y10;have a0:=HA.out.cell 0 _ rfl;have a1:=HA.out.cell 1 _ rfl;have a2:=HA.out.cell 2 _ rfl;have a3:=HA.out.cell 3 _ rfl;have a4:=HA.out.cell 4 _ rfl;have a5:=HA.out.cell 5 _ rfl;have a6:=HA.out.cell 6 _ rfl;have a7:=HA.out.cell 7 _ rfl;have a8:=HA.out.cell 8 _ rfl;have a9:=HA.out.cell 9 _ rfl;have a10:=HA.out.cell 10 _ rfl;rcases he with ⟨rfl,r1,r2,r3⟩|rfl
   ·by_cases hmin:tt≤hi
    ·by_cases hf:fr<tt - 80
     ·go_wp2;go_ret
      exact⟨.inl rfl,HB.out⟩
     ·go_wp2;go_roundw
      case rel=>exact⟨j+1,by omega,by go_num,HB.out⟩
      case measure=>simp[intOf];omega
    ·by_cases hf:fr<hi - 80
     ·go_wp2;go_ret
      exact⟨.inl rfl,HB.out⟩
     ·go_wp2;go_roundw
      case rel=>exact⟨j+1,by omega,by go_num,HB.out⟩
      case measure=>simp[intOf];omega
   ·go_wp2;go_roundw
    case rel=>exact⟨j+1,by omega,by go_num,HB.out⟩
    case measure=>simp[intOf];omega
  ·obtain rfl:j=m:=by omega
   go_wp2;go_ret
   exact⟨.inr rfl,HB.out⟩
namespace Eg
def Near (s:Src.S)(w:World)(e:Ending)(w':World):Prop:=(e=.returned (.int .i64 0)∨(e=.returned (.int .i64 1)∧Src.Few s))∧Below w.heap.size w w'
end Eg
theorem near16_some (s:Src.S)(rv zv lv:Value)(evs:List Value)(hi:Int)(w:World)(hR:Src.SrcR w w.heap.size s rv zv lv evs)(hw:Src.Wide s)(hhi:0≤hi∧hi≤10000):
  Calls Tryz.prog 49 #[.agg #[rv,zv,lv],.int .i64 hi] w (Eg.Near s w):=by
 have hlen:(s.zones.zip evs).length=s.zones.length:=by rw[List.length_zip,hR.len];omega
 have hers:=hR.eras;have hrs:∀r∈s.rules,r.nm.size≤maxLen∧r.lt.size≤maxLen:=fun r hr=>(hw.rules r hr).2
 obtain⟨rA,rc,rfl,hr1,hr2,hrr⟩:=hR.rules;obtain⟨zA,zc,rfl,hz1,hzc,hrz⟩:=hR.zones;obtain⟨lA,lc,rfl,_⟩:=hR.links;obtain⟨W1,hW1⟩:=aj (w.alloc (.cells #[.slice rA s.rules.length rc,.slice zA s.zones.length zc,.slice lA s.links.length lc] 26))
 have hb1:Below w.heap.size w W1:=by rw[← hW1];exact al
 have hA1:At W1 w.heap.size [.slice rA s.rules.length rc,.slice zA s.zones.length zc,.slice lA s.links.length lc]:=by rw[← hW1];exact At.new _ _ _
 have HCf:=ak (few_any s _ _ _ evs W1 (hR.call hb1) hw);have HCn:Hid (∀W,Below w.heap.size w W→Calls Tryz.prog 86 #[.slice rA s.rules.length rc,.int .i64 hi] W (Eg.SomeZ W)):=fun W hb=>near15_some s.rules rA rc hi W ((hrr.below hb).more hb.size) hrs hhi
 obtain⟨n1,hn1⟩:=aj (s.rules.length)
 obtain⟨n2,hn2⟩:=aj (s.zones.length)
 obtain⟨n3,hn3⟩:=aj (s.links.length)
 rw[hn1,hn2,hn3] at HCf hA1 hW1 ⊢;rw[hn1] at HCn hr1;rw[hn2] at hrz hlen hz1;unfold maxLen at hzc hr2;have HB1:=ak hb1;have HW1:=ak hW1;have HA1:=ak hA1;have HRz:=ak hrz;have HLen:=ak hlen;have HErs:=ak hers;obtain⟨b0,b1,b2,_⟩:=hA1.three;clear hR hw hb1 hW1 hA1 hrz hlen hers hrs hrr hn1 hn2 hn3;go_enter Tryz.func49,Tryz.ntmps49
 go_wp2_with fail
 rw[HW1.out];refine HCf.out.mono ?_;rintro e w2 ⟨he,hb2⟩;have HA2:=ak (HA1.out.call hb2);have HB2:=ak (below_then HB1.out hb2);clear hb2 b0 b1 b2;obtain⟨b0,b1,b2,_⟩:=HA2.out.three;rcases he with rfl|⟨rfl,hfew⟩
 ·go_wp2;go_ret
  exact⟨.inl rfl,HB2.out⟩
 have HF:=ak hfew;clear hfew
 by_cases h12:(12:Int)<(n1:Int)
 ·go_wp2;go_ret
  exact⟨.inl rfl,HB2.out⟩
 have HCn2:=ak (HCn.out w2 HB2.out);clear HCn;go_wp2_with fail
 refine HCn2.out.mono ?_;rintro e w3 ⟨he,hb3⟩;have HA3:=ak (HA2.out.call hb3);have HB3:=ak (below_then HB2.out hb3);clear hb3 b0 b1 b2;obtain⟨b0,b1,b2,_⟩:=HA3.out.three;rcases he with rfl|rfl
 ·go_wp2;go_ret
  exact⟨.inl rfl,HB3.out⟩
 go_wp2;clear b0 b1 b2;go_loopw [28] (fun i wr=>∃k:Nat,k≤n2∧i=.int .i64 (k:Int)∧Hid (Below w.heap.size w wr)) (fun i _=>n2 - (intOf i).toNat)
 case atStart=>exact⟨0,Nat.zero_le _,rfl,HB3.out⟩
 case round=>
  obtain⟨k,hk,rfl,HB⟩:=hrel
  by_cases hlt:k<n2
  ·have q1:=am k
   have q3:(k:Int)<(n2:Int):=(by omega);obtain⟨adz,x,rfl,hab,Hx,HL⟩:=Ix.reads_cells (enc:=Src.zc) (m:=2) (fun _=>rfl) HLen.out (HRz.out.below HB.out) hlt;obtain⟨eA,ec,he2,hme1,hec,hre⟩:=HErs.out x (List.mem_of_getElem? Hx.out);obtain⟨zb,hzb⟩:=aj (Src.bts x.1.1)
   obtain⟨es,hes⟩:=aj (x.1.2)
   obtain⟨me,hme⟩:=aj (es.length)
   rw[hes,hme] at he2 hre hme1;have c0:wr.cell? (adz.add (k*2))=some (.string zb):=by rw[← hzb];exact HL.out 0 _ rfl
   have c1:wr.cell? ⟨(adz.add (k*2)).block,(adz.add (k*2)).off+1,none⟩=some (.slice eA me ec):=by rw[← he2];exact HL.out 1 _ rfl
   have HBa:=ak (HB.out.alloc HB.out.size (.cells #[.string zb,.slice eA me ec] 117));have HMe:=ak hme;have HRe:=ak hre;unfold maxLen at hec;clear HL he2 hre hzb hes hme HB;go_wp2;clear c0 c1;go_loopw [35] (fun i wr=>∃j:Nat,j≤me∧i=.int .i64 (j:Int)∧Hid (Below w.heap.size w wr)) (fun i _=>me - (intOf i).toNat)
   case atStart=>exact⟨0,Nat.zero_le _,rfl,HBa.out⟩
   case round=>
    clear HBa;obtain⟨j,hj,rfl,HB⟩:=hrel
    by_cases hlt3:j<me
    ·have q4:=am j
     have q5:(j:Int)<(me:Int):=(by omega);obtain⟨ad,x9,rfl,habe,Hx9,HLe⟩:=Ix.reads_cells (enc:=Er.E.cells) (m:=13) (fun _=>rfl) HMe.out (HRe.out.below HB.out) hlt3;obtain⟨std,ek,esv,ru,fm,en,⟨y,m,dk,dn,dd,us,cc⟩⟩:=x9;have y0:wr.cell? (ad.add (j*13))=some (.int .i64 std):=HLe.out 0 _ rfl;have y1:wr.cell? ⟨(ad.add (j*13)).block,(ad.add (j*13)).off+1,none⟩=some (.int .u8 ek):=HLe.out 1 _ rfl;have y2:wr.cell? ⟨(ad.add (j*13)).block,(ad.add (j*13)).off+2,none⟩=some (.int .i64 esv):=HLe.out 2 _ rfl;have y3:wr.cell? ⟨(ad.add (j*13)).block,(ad.add (j*13)).off+3,none⟩=some (.string ru):=HLe.out 3 _ rfl;have y4:wr.cell? ⟨(ad.add (j*13)).block,(ad.add (j*13)).off+4,none⟩=some (.string fm):=HLe.out 4 _ rfl;have y5:wr.cell? ⟨(ad.add (j*13)).block,(ad.add (j*13)).off+5,none⟩=some (.bool en):=HLe.out 5 _ rfl;have y6:wr.cell? ⟨(ad.add (j*13)).block,(ad.add (j*13)).off+6,none⟩=some (.int .i64 y):=HLe.out 6 _ rfl;have y7:wr.cell? ⟨(ad.add (j*13)).block,(ad.add (j*13)).off+7,none⟩=some (.int .i64 m):=HLe.out 7 _ rfl;have y8:wr.cell? ⟨(ad.add (j*13)).block,(ad.add (j*13)).off+8,none⟩=some (.int .u8 dk):=HLe.out 8 _ rfl;have y9:wr.cell? ⟨(ad.add (j*13)).block,(ad.add (j*13)).off+9,none⟩=some (.int .i64 dn):=HLe.out 9 _ rfl;have y10:wr.cell? ⟨(ad.add (j*13)).block,(ad.add (j*13)).off+10,none⟩=some (.int .i64 dd):=HLe.out 10 _ rfl;have y11:wr.cell? ⟨(ad.add (j*13)).block,(ad.add (j*13)).off+11,none⟩=some (.int .i64 us):=HLe.out 11 _ rfl
     have y12:wr.cell? ⟨(ad.add (j*13)).block,(ad.add (j*13)).off+12,none⟩=some (.int .u8 cc):=HLe.out 12 _ rfl;have HB9:=ak (HB.out.alloc HB.out.size (.cells #[.int .i64 std,.int .u8 ek,.int .i64 esv,.string ru,.string fm,.bool en,.int .i64 y,.int .i64 m,.int .u8 dk,.int .i64 dn,.int .i64 dd,.int .i64 us,.int .u8 cc] 191));clear Hx9 HLe HB;cases en with
     |false=>
      go_wp2;go_roundw
      case rel=>exact⟨j+1,by omega,by go_num,HB9.out⟩
      case measure=>simp[intOf];omega
     |true=>
      by_cases l1:hi<y
      ·by_cases l2:y≤9999
       ·go_wp2;go_ret
        exact⟨.inl rfl,HB9.out⟩
       ·go_wp2;go_roundw
        case rel=>exact⟨j+1,by omega,by go_num,HB9.out⟩
        case measure=>simp[intOf];omega
      ·go_wp2;go_roundw
       case rel=>exact⟨j+1,by omega,by go_num,HB9.out⟩
       case measure=>simp[intOf];omega
    ·obtain rfl:j=me:=by omega
     have q5:¬(j:Int)<(j:Int):=(by omega);go_wp2;go_roundw
     case rel=>exact⟨k+1,by omega,by go_num,HB.out⟩
     case measure=>simp[intOf];omega
  ·obtain rfl:k=n2:=by omega
   have q3:¬(k:Int)<(k:Int):=(by omega);go_wp2;go_ret
   exact⟨.inr ⟨rfl,HF.out⟩,HB.out⟩
end Go.Proofs.YtjobhjemnmleaaaGreatDoor
namespace Go.Proofs.YtjobhjemnmleaaaGreatDoor
open Go.RowKit Go.Shelf
namespace Tp
theorem len_le {s:Src.S}{eras:List Er.E}(hr:Eg.RulesOk s.rules)(hz:Eg.ZoneOk eras){lo hi:Int}(h:Ln.InY lo hi):(Ln.lineOf s eras lo hi).length≤130000000:=by
 obtain⟨y1,y2,y3,y4⟩:=h;obtain⟨F1,F2,F3,F4,F5⟩:=Ln.years_in y1 y2 y3;have h1:=Ln.pieces_len (eras:=eras) (ends:=Eg.ends s.rules eras) hr.len F2 F3 (by rw[F4,F5];omega) eras.length;have h2:=Ln.fold_len (Ln.pieces s.rules eras (Eg.ends s.rules eras) (Oc.D lo*86400) (Oc.D (hi+1)*86400) eras.length) [];have h3:=hz.len;unfold Ln.lineOf Ln.line;simp only[List.length_nil] at h2;omega
end Tp
end Go.Proofs.YtjobhjemnmleaaaGreatDoor
namespace Go.Proofs.YtjobhjemnmleaaaGreatDoor
open Go.RowKit Go.Shelf
namespace Lo
theorem while_take {α:Type}{p:α→Bool}:∀{l:List α} {j:Nat},(∀i x,i<j→l[i]?=some x→p x=true)→(∀x,l[j]?=some x→p x=false)→l.takeWhile p=l.take j
 |[],j,_,_=>by simp
 |a :: l,0,_,h=>by
  rw[List.takeWhile_cons_of_neg (by rw[h a rfl];decide)];rfl
 |a :: l,j+1,h1,h2=>by
  rw[List.takeWhile_cons_of_pos (h1 0 a (Nat.succ_pos _) rfl),List.take_succ_cons,while_take (j:=j) (fun i x hi hx=>h1 (i+1) x (Nat.succ_lt_succ hi) (by simpa using hx)) (fun x hx=>h2 x (by simpa using hx))]
def CtRet (l:List Ln.Sp)(fr te:Int)(w:World)(e:Ending)(w':World):Prop:=(∃k x v,Ab l fr (k+1)∧l[k]?=some x∧e=.returned (.tuple #[v,.int .i64 0])∧w'.ownsRow w.heap.size 164 3 v (cutL l fr te (k+1) x).length (Ln.fl (cutL l fr te (k+1) x)))∧Below w.heap.size w w'
theorem drop_reads {w:World}{B n r:Nat}{ad:Addr}{l:List Ln.Sp}(h:Reads w B 3 (some ad) n (l.flatMap Ln.Sp.cells))(hn:l.length=n)(hr:r≤n):Reads w B 3 (some (ad.add (r*3))) (n - r) ((l.drop r).flatMap Ln.Sp.cells):=by
 have e:(l.drop r).flatMap Ln.Sp.cells=(l.flatMap Ln.Sp.cells).drop (r*3):=by
  have h1:=Ln.fl_len (l.take r);unfold Ln.fl at h1;have h2:l.flatMap Ln.Sp.cells=(l.take r).flatMap Ln.Sp.cells ++ (l.drop r).flatMap Ln.Sp.cells:=by rw[← List.flatMap_append,List.take_append_drop]
  have h3:((l.take r).flatMap Ln.Sp.cells).length=r*3:=by rw[h1,List.length_take,Nat.min_eq_left (by omega)]
  rw[h2,List.drop_append_of_le_length (by rw[h3];exact Nat.le_refl _),List.drop_of_length_le (l:=(l.take r).flatMap Ln.Sp.cells) (by rw[h3];exact Nat.le_refl _)];rfl
 rw[e];refine⟨by rw[List.length_drop,h.1,Nat.sub_mul],fun hlt=>?_⟩;obtain⟨ad',e',hb,hc⟩:=h.2 (by omega);obtain rfl:=Option.some.inj e';refine⟨_,rfl,by rw[block_of_add];exact hb,fun j u hu=>?_⟩;rw[add_of_add];exact hc _ _ (by rw[← List.getElem?_drop];exact hu)
end Lo
theorem lookCut_any (l:List Ln.Sp)(fr te:Int)(A:Option Addr)(n c:Nat)(w:World)(hn:l.length=n)(hn2:n≤900000000)(hnc:n≤c)(hcm:c≤maxLen)(hr:Lo.Right l)(h0:∀x,l[0]?=some x→x.fr≤fr)(hlt:fr<te)(hR:Reads w w.heap.size 3 A n (l.flatMap Ln.Sp.cells)):
  Calls Tryz.prog 67 #[.slice A n c,.int .i64 fr,.int .i64 te] w (Lo.CtRet l fr te w):=by
 have HCk:=ak fun W (hb:Below w.heap.size w W)=>lookCheck_any l A n c W hn (by omega) hr ((hR.below hb).more hb.size)
 have HAb:=ak fun W (hb:Below w.heap.size w W)=>lookAbove_any l fr A n c W hn (by omega) hr ((hR.below hb).more hb.size)
 have hn0:0<n:=by
  rw[← hn];exact List.length_pos_iff.2 hr.ne
 obtain⟨ad,p0,rfl,hab0,Hp0,HL0⟩:=Ix.reads_cells (enc:=Ln.Sp.cells) (m:=3) (fun _=>rfl) hn hR hn0;have hp0:=h0 p0 Hp0.out;have H0:=ak hp0;have HN:=ak hn;have HR:=ak hR;have HLZ:=ak (show ∀W,Below w.heap.size w W→W.cell? ad=some (.int .i64 p0.fr) from fun W hb=>by
  have h:=HL0.out 0 _ rfl;rw[Nat.zero_mul] at h;exact(hb.cell (p:=ad) hab0).trans h)
 have p1:decide (te≤fr)=false:=by rw[decide_eq_false_iff_not];omega
 have p1':¬te≤fr:=by omega
 have p2:¬fr<p0.fr:=by omega
 have q0:(0:Int)<(n:Int):=by omega
 unfold maxLen at hcm;clear hn hR hr h0 HL0 hp0 hab0;go_enter Tryz.func67,Tryz.ntmps67
 go_wp2_with fail
 refine(HCk.out w (Below.refl _ _)).mono ?_;rintro e w2 ⟨rfl,hb2⟩;have HB2:=ak hb2;have c0:=HLZ.out w2 hb2;clear hb2;go_wp2_with fail
 refine(HAb.out w2 HB2.out).mono ?_;rintro e w3 ⟨⟨r,rfl,hA⟩,hb3⟩;have HB3:=ak (HB2.out.trans (hb3.mono HB2.out.size));obtain⟨k,rfl⟩:∃k,r=k+1:=⟨r - 1,by
  rcases Nat.eq_zero_or_pos r with q|q
  ·subst q;have:=hA.hi 0 p0 (Nat.le_refl _) Hp0.out;have:=H0.out;omega
  ·omega⟩
 have hkn:k+1≤n:=by have:=hA.le;have:=HN.out;omega
 have HA:=ak hA;obtain⟨ad',x,e0,hab,Hx,HLx⟩:=Ix.reads_cells (enc:=Ln.Sp.cells) (m:=3) (fun _=>rfl) HN.out (HR.out.below HB3.out) (show k<n by omega);obtain rfl:=Option.some.inj e0;obtain⟨ri,hri⟩:∃ri:Int,((k+1:Nat):Int)=ri:=⟨_,rfl⟩
 rw[hri];have wj:IntKind.i64.wrap (ri - 1)=(k:Int):=by rw[IntKind.wrap_i64];omega
 have q1:=am k
 have q2:(k:Int)<(n:Int):=by omega
 have q3:0≤ri:=by omega
 have q4:ri≤(n:Int):=by omega
 have q5:ri≤(c:Int):=by omega
 have ht:ri.toNat=k+1:=by omega
 have x0:w3.cell? (ad.add (k*3))=some (.int .i64 x.fr):=HLx.out 0 _ rfl;have x1:w3.cell? ⟨(ad.add (k*3)).block,(ad.add (k*3)).off+1,none⟩=some (.int .i64 x.off):=HLx.out 1 _ rfl;have x2:w3.cell? ⟨(ad.add (k*3)).block,(ad.add (k*3)).off+2,none⟩=some (.bool x.dst):=HLx.out 2 _ rfl;clear hb3 hA HLx c0;go_upto_region 11 with fail
 case inl=>
  obtain⟨W5,hW5⟩:=aj ((w3.alloc (.cells #[.int .i64 fr,.int .i64 x.off,.bool x.dst] 164)).alloc (.cells #[.int .i64 fr,.int .i64 x.off,.bool x.dst] 164))
  rw[hW5];have hO5:W5.ownsRow w.heap.size 164 3 (.slice (some ⟨w3.heap.size+1,0,none⟩) 1 1) 1 [.int .i64 fr,.int .i64 x.off,.bool x.dst]:=by
   rw[← hW5];have h:=World.ownsRow_lit (base:=w.heap.size) (e:=164) (size:=3) (w3.alloc (.cells #[.int .i64 fr,.int .i64 x.off,.bool x.dst] 164)) #[.int .i64 fr,.int .i64 x.off,.bool x.dst] 1 (by rw[World.size_alloc];have:=HB3.out.size;omega) (by decide) rfl;rw[World.size_alloc] at h;exact h
  have hB5:Below w.heap.size w W5:=by rw[← hW5];exact(HB3.out.alloc HB3.out.size _).alloc (by rw[World.size_alloc];have:=HB3.out.size;omega) _
  have hm0:n - (k+1)=0:=by omega
  have HRB:=ak (show Reads w w.heap.size 3 (some ad) (n - (k+1)) ((l.drop (k+1)).flatMap Ln.Sp.cells) from⟨(Ln.fl_len (l.drop (k+1))).trans (by rw[List.length_drop,HN.out]),fun h=>absurd h (by omega)⟩);have HBl:Hid ((l.drop (k+1)).length=n - (k+1)):=by show _=_;rw[List.length_drop,HN.out]
  have HCt:=ak (fun(V:World) (v:Value) (h:V.ownsRow w.heap.size 164 3 v (Lo.cutL l fr te (k+1) x).length (Ln.fl (Lo.cutL l fr te (k+1) x))) (hb:Below w.heap.size w V)=>(show Lo.CtRet l fr te w (.returned (.tuple #[v,.int .i64 0])) V from⟨⟨k,x,v,HA.out,Hx.out,rfl,h⟩,hb⟩));unfold Lo.cutL at HCt;obtain⟨Bl,hBl⟩:=aj (l.drop (k+1))
  obtain⟨m,hm⟩:=aj (n - (k+1))
  obtain⟨ad2,had⟩:=aj (ad)
  rw[hBl] at HRB HBl HCt;rw[hm] at HRB HBl;rw[had] at HRB;rw[had,hm];have hmn:m≤900000000:=by omega
  have HO5:=ak hO5;have HB5:=ak hB5;clear hW5 hO5 hB5 hBl hm hm0 had x0 x1 x2;go_loopw [46,11] (fun i v wr=>∃j:Nat,j≤m∧i=.int .i64 (j:Int)∧∃vA vc,v=.slice vA (j+1) vc∧Hid (∀q y,q<j→Bl[q]?=some y→y.fr<te)∧Hid (wr.ownsRow w.heap.size 164 3 (.slice vA (j+1) vc) (j+1) (Ln.fl (⟨fr,x.off,x.dst⟩ :: Bl.take j)))∧Hid (Below w.heap.size w wr)) (fun i _ _=>m - (intOf i).toNat)
  case atStart=>exact⟨0,Nat.zero_le _,rfl,_,1,rfl,fun q y hq _=>(by omega),HO5.out,HB5.out⟩
  case round=>
   obtain⟨j,hj,rfl,vA,vc,rfl,HQ,HO,HB⟩:=hrel;have HEnd:Hid (∀V,(∀y,Bl[j]?=some y→¬y.fr<te)→V.ownsRow w.heap.size 164 3 (.slice vA (j+1) vc) (j+1) (Ln.fl (⟨fr,x.off,x.dst⟩ :: Bl.take j))→Below w.heap.size w V→Lo.CtRet l fr te w (.returned (.tuple #[.slice vA (j+1) vc,.int .i64 0])) V):=fun V hq ho hb=>by
    refine HCt.out V _ ?_ hb;rw[Lo.while_take (j:=j) (fun i y hi hy=>by rw[decide_eq_true_eq];exact HQ.out i y hi hy) (fun y hy=>by rw[decide_eq_false_iff_not];exact hq y hy)];rw[List.length_cons,List.length_take,HBl.out,Nat.min_eq_left hj];exact ho
   by_cases hlt2:j<m
   ·obtain⟨ad',y,e0,haby,Hy,HLy⟩:=Ix.reads_cells (enc:=Ln.Sp.cells) (m:=3) (fun _=>rfl) HBl.out (HRB.out.below HB.out) hlt2;obtain rfl:=Option.some.inj e0;have y0:wr.cell? (ad2.add (j*3))=some (.int .i64 y.fr):=HLy.out 0 _ rfl;have y1:wr.cell? ⟨(ad2.add (j*3)).block,(ad2.add (j*3)).off+1,none⟩=some (.int .i64 y.off):=HLy.out 1 _ rfl;have y2:wr.cell? ⟨(ad2.add (j*3)).block,(ad2.add (j*3)).off+2,none⟩=some (.bool y.dst):=HLy.out 2 _ rfl;have q6:=am j
    have q7:(j:Int)<(m:Int):=(by omega);obtain⟨V1,hV1⟩:=aj (wr.alloc (.cells #[.int .i64 y.fr,.int .i64 y.off,.bool y.dst] 164))
    have hvb:Below wr.heap.size wr V1:=by rw[← hV1];exact al
    obtain⟨b9,hb9⟩:=aj (wr.heap.size)
    have hAx:At V1 b9 [.int .i64 y.fr,.int .i64 y.off,.bool y.dst]:=by rw[← hV1,← hb9];exact At.new _ _ _
    have hO1:V1.ownsRow w.heap.size 164 3 (.slice vA (j+1) vc) (j+1) (Ln.fl (⟨fr,x.off,x.dst⟩ :: Bl.take j)):=by rw[← hV1];exact HO.out.alloc _
    have HV1:=ak hV1;have HB9:=ak hb9;have HB1:=ak (HB.out.trans (hvb.mono HB.out.size));have HO1:=ak hO1;have HAx:=ak hAx;clear hV1 hvb hb9 hAx hO1 haby HLy;go_upto_region 13 with fail
    rw[HV1.out]
    try rw[HB9.out]
    obtain⟨c0,c1,c2,_⟩:=HAx.out.three;have zc:=HAx.out.lt
    by_cases hbr:te≤y.fr
    ·have HFin:=ak (HEnd.out V1 (fun y' hy'=>by
      rw[Hy.out] at hy';cases hy'
      omega) HO1.out HB1.out)
     go_wp2;go_ret2
     exact HFin.out
    ·have HNx:Hid (Ln.fl (⟨fr,x.off,x.dst⟩ :: Bl.take (j+1))=Ln.fl (⟨fr,x.off,x.dst⟩ :: Bl.take j) ++ [.int .i64 y.fr,.int .i64 y.off,.bool y.dst]):=by
      show _=_
      rw[List.take_add_one,Hy.out];exact Ln.fl_snoc (⟨fr,x.off,x.dst⟩ :: Bl.take j) y
     have HQn:Hid (∀q y,q<j+1→Bl[q]?=some y→y.fr<te):=fun q z hq hz=>by
      rcases Nat.lt_or_ge q j with r|r
      ·exact HQ.out q z r hz
      ·obtain rfl:q=j:=by omega
       rw[Hy.out] at hz;cases hz
       omega
     have HAp:=fun {ops:Array Oper} {rest:List Oper} {o:Oper} {a:Act} {Q:Exit→Act→World→Prop} hgd ho hs hx h=>row_append (ops:=ops) (rest:=rest) (o:=o) (a:=a) (Q:=Q) 61 164 3 24 _ #[.int .i64 y.fr,.int .i64 y.off,.bool y.dst] Tryz.underlying61 span_info rfl (by decide) rfl (by
      intro u hu;simp at hu
      rcases hu with rfl|rfl|rfl <;> rfl) (by decide) V1 w.heap.size (j+1) _ (.slice vA (j+1) vc) 54 56 V1.heap.size rfl HO1.out (by omega) (HB1.out.size) hgd ho hs hx h
     go_wp2_with (at_builtin;refine HAp rfl rfl rfl rfl ?_;intro v9 w9 hown9 hb9 hg9 hat9;obtain⟨A9,c9,rfl,_,_⟩:=own_slice_cap hown9)
     have HO9:Hid (w9.ownsRow w.heap.size 164 3 (.slice A9 (j+1+1) c9) (j+1+1) (Ln.fl (⟨fr,x.off,x.dst⟩ :: Bl.take (j+1)))):=by
      show World.ownsRow _ _ _ _ _ _ _
      rw[HNx.out];exact hown9
     have HB9':Hid (Below w.heap.size w w9):=HB1.out.trans hb9;have HMk:=ak (show j+1≤m by omega);clear hown9 hb9 hg9 hat9 HAp;go_roundw
     case rel=>exact⟨j+1,HMk.out,by go_num,A9,c9,rfl,HQn.out,HO9.out,HB9'.out⟩
     case measure=>simp[intOf];omega
   ·have hjm:j=m:=(by omega);have HFin:=ak (HEnd.out wr (fun y hy=>by
     have h1:=(List.getElem?_eq_some_iff.1 hy).1;have h2:=HBl.out;omega) HO.out HB.out)
    have q7:¬(j:Int)<(m:Int):=(by omega);clear hjm;go_wp2;go_ret2
    exact HFin.out
 case inr=>
  obtain⟨W5,hW5⟩:=aj ((w3.alloc (.cells #[.int .i64 fr,.int .i64 x.off,.bool x.dst] 164)).alloc (.cells #[.int .i64 fr,.int .i64 x.off,.bool x.dst] 164))
  rw[hW5];have hO5:W5.ownsRow w.heap.size 164 3 (.slice (some ⟨w3.heap.size+1,0,none⟩) 1 1) 1 [.int .i64 fr,.int .i64 x.off,.bool x.dst]:=by
   rw[← hW5];have h:=World.ownsRow_lit (base:=w.heap.size) (e:=164) (size:=3) (w3.alloc (.cells #[.int .i64 fr,.int .i64 x.off,.bool x.dst] 164)) #[.int .i64 fr,.int .i64 x.off,.bool x.dst] 1 (by rw[World.size_alloc];have:=HB3.out.size;omega) (by decide) rfl;rw[World.size_alloc] at h;exact h
  have hB5:Below w.heap.size w W5:=by rw[← hW5];exact(HB3.out.alloc HB3.out.size _).alloc (by rw[World.size_alloc];have:=HB3.out.size;omega) _
  have HRB:=ak (Lo.drop_reads HR.out HN.out hkn);have HBl:Hid ((l.drop (k+1)).length=n - (k+1)):=by show _=_;rw[List.length_drop,HN.out]
  have HCt:=ak (fun(V:World) (v:Value) (h:V.ownsRow w.heap.size 164 3 v (Lo.cutL l fr te (k+1) x).length (Ln.fl (Lo.cutL l fr te (k+1) x))) (hb:Below w.heap.size w V)=>(show Lo.CtRet l fr te w (.returned (.tuple #[v,.int .i64 0])) V from⟨⟨k,x,v,HA.out,Hx.out,rfl,h⟩,hb⟩));unfold Lo.cutL at HCt;obtain⟨Bl,hBl⟩:=aj (l.drop (k+1))
  obtain⟨m,hm⟩:=aj (n - (k+1))
  obtain⟨ad2,had⟩:=aj (ad.add ((k+1)*3))
  obtain⟨cm,hcc⟩:=aj (c - (k+1))
  rw[hBl] at HRB HBl HCt;rw[hm] at HRB HBl;rw[had] at HRB;rw[had,hm,hcc];have hmn:m≤900000000:=by omega
  have HO5:=ak hO5;have HB5:=ak hB5;clear hW5 hO5 hB5 hBl hm had hcc x0 x1 x2;go_loopw [46,11] (fun i v wr=>∃j:Nat,j≤m∧i=.int .i64 (j:Int)∧∃vA vc,v=.slice vA (j+1) vc∧Hid (∀q y,q<j→Bl[q]?=some y→y.fr<te)∧Hid (wr.ownsRow w.heap.size 164 3 (.slice vA (j+1) vc) (j+1) (Ln.fl (⟨fr,x.off,x.dst⟩ :: Bl.take j)))∧Hid (Below w.heap.size w wr)) (fun i _ _=>m - (intOf i).toNat)
  case atStart=>exact⟨0,Nat.zero_le _,rfl,_,1,rfl,fun q y hq _=>(by omega),HO5.out,HB5.out⟩
  case round=>
   obtain⟨j,hj,rfl,vA,vc,rfl,HQ,HO,HB⟩:=hrel;have HEnd:Hid (∀V,(∀y,Bl[j]?=some y→¬y.fr<te)→V.ownsRow w.heap.size 164 3 (.slice vA (j+1) vc) (j+1) (Ln.fl (⟨fr,x.off,x.dst⟩ :: Bl.take j))→Below w.heap.size w V→Lo.CtRet l fr te w (.returned (.tuple #[.slice vA (j+1) vc,.int .i64 0])) V):=fun V hq ho hb=>by
    refine HCt.out V _ ?_ hb;rw[Lo.while_take (j:=j) (fun i y hi hy=>by rw[decide_eq_true_eq];exact HQ.out i y hi hy) (fun y hy=>by rw[decide_eq_false_iff_not];exact hq y hy)];rw[List.length_cons,List.length_take,HBl.out,Nat.min_eq_left hj];exact ho
   by_cases hlt2:j<m
   ·obtain⟨ad',y,e0,haby,Hy,HLy⟩:=Ix.reads_cells (enc:=Ln.Sp.cells) (m:=3) (fun _=>rfl) HBl.out (HRB.out.below HB.out) hlt2;obtain rfl:=Option.some.inj e0;have y0:wr.cell? (ad2.add (j*3))=some (.int .i64 y.fr):=HLy.out 0 _ rfl;have y1:wr.cell? ⟨(ad2.add (j*3)).block,(ad2.add (j*3)).off+1,none⟩=some (.int .i64 y.off):=HLy.out 1 _ rfl;have y2:wr.cell? ⟨(ad2.add (j*3)).block,(ad2.add (j*3)).off+2,none⟩=some (.bool y.dst):=HLy.out 2 _ rfl;have q6:=am j
    have q7:(j:Int)<(m:Int):=(by omega);obtain⟨V1,hV1⟩:=aj (wr.alloc (.cells #[.int .i64 y.fr,.int .i64 y.off,.bool y.dst] 164))
    have hvb:Below wr.heap.size wr V1:=by rw[← hV1];exact al
    obtain⟨b9,hb9⟩:=aj (wr.heap.size)
    have hAx:At V1 b9 [.int .i64 y.fr,.int .i64 y.off,.bool y.dst]:=by rw[← hV1,← hb9];exact At.new _ _ _
    have hO1:V1.ownsRow w.heap.size 164 3 (.slice vA (j+1) vc) (j+1) (Ln.fl (⟨fr,x.off,x.dst⟩ :: Bl.take j)):=by rw[← hV1];exact HO.out.alloc _
    have HV1:=ak hV1;have HB9:=ak hb9;have HB1:=ak (HB.out.trans (hvb.mono HB.out.size));have HO1:=ak hO1;have HAx:=ak hAx;clear hV1 hvb hb9 hAx hO1 haby HLy;go_upto_region 13 with fail
    rw[HV1.out]
    try rw[HB9.out]
    obtain⟨c0,c1,c2,_⟩:=HAx.out.three;have zc:=HAx.out.lt
    by_cases hbr:te≤y.fr
    ·have HFin:=ak (HEnd.out V1 (fun y' hy'=>by
      rw[Hy.out] at hy';cases hy'
      omega) HO1.out HB1.out)
     go_wp2;go_ret2
     exact HFin.out
    ·have HNx:Hid (Ln.fl (⟨fr,x.off,x.dst⟩ :: Bl.take (j+1))=Ln.fl (⟨fr,x.off,x.dst⟩ :: Bl.take j) ++ [.int .i64 y.fr,.int .i64 y.off,.bool y.dst]):=by
      show _=_
      rw[List.take_add_one,Hy.out];exact Ln.fl_snoc (⟨fr,x.off,x.dst⟩ :: Bl.take j) y
     have HQn:Hid (∀q y,q<j+1→Bl[q]?=some y→y.fr<te):=fun q z hq hz=>by
      rcases Nat.lt_or_ge q j with r|r
      ·exact HQ.out q z r hz
      ·obtain rfl:q=j:=by omega
       rw[Hy.out] at hz;cases hz
       omega
     have HAp:=fun {ops:Array Oper} {rest:List Oper} {o:Oper} {a:Act} {Q:Exit→Act→World→Prop} hgd ho hs hx h=>row_append (ops:=ops) (rest:=rest) (o:=o) (a:=a) (Q:=Q) 61 164 3 24 _ #[.int .i64 y.fr,.int .i64 y.off,.bool y.dst] Tryz.underlying61 span_info rfl (by decide) rfl (by
      intro u hu;simp at hu
      rcases hu with rfl|rfl|rfl <;> rfl) (by decide) V1 w.heap.size (j+1) _ (.slice vA (j+1) vc) 54 56 V1.heap.size rfl HO1.out (by omega) (HB1.out.size) hgd ho hs hx h
     go_wp2_with (at_builtin;refine HAp rfl rfl rfl rfl ?_;intro v9 w9 hown9 hb9 hg9 hat9;obtain⟨A9,c9,rfl,_,_⟩:=own_slice_cap hown9)
     have HO9:Hid (w9.ownsRow w.heap.size 164 3 (.slice A9 (j+1+1) c9) (j+1+1) (Ln.fl (⟨fr,x.off,x.dst⟩ :: Bl.take (j+1)))):=by
      show World.ownsRow _ _ _ _ _ _ _
      rw[HNx.out];exact hown9
     have HB9':Hid (Below w.heap.size w w9):=HB1.out.trans hb9;have HMk:=ak (show j+1≤m by omega);clear hown9 hb9 hg9 hat9 HAp;go_roundw
     case rel=>exact⟨j+1,HMk.out,by go_num,A9,c9,rfl,HQn.out,HO9.out,HB9'.out⟩
     case measure=>simp[intOf];omega
   ·have hjm:j=m:=(by omega);have HFin:=ak (HEnd.out wr (fun y hy=>by
     have h1:=(List.getElem?_eq_some_iff.1 hy).1;have h2:=HBl.out;omega) HO.out HB.out)
    have q7:¬(j:Int)<(m:Int):=(by omega);clear hjm;go_wp2;go_ret2
    exact HFin.out
theorem lookYear_any (l:List Ln.Sp)(y:Int)(A:Option Addr)(n c:Nat)(w:World)(hn:l.length=n)(hn2:n≤900000000)(hnc:n≤c)(hcm:c≤maxLen)(hr:Lo.Right l)(hy:1≤y∧y≤9999)(h0:∀x,l[0]?=some x→x.fr≤Oc.D y*86400)(hR:Reads w w.heap.size 3 A n (l.flatMap Ln.Sp.cells)):
  Calls Tryz.prog 23 #[.slice A n c,.int .i64 y] w (Lo.CtRet l (Oc.D y*86400) (Oc.D (y+1)*86400) w):=by
 have hlt:Oc.D y*86400<Oc.D (y+1)*86400:=by have:=Oc.D_next y;omega
 have HCk:=ak (lookCheck_any l A n c w hn (by omega) hr hR);have HCt:=ak fun W (hb:Below w.heap.size w W)=>lookCut_any l (Oc.D y*86400) (Oc.D (y+1)*86400) A n c W hn hn2 hnc hcm hr h0 hlt ((hR.below hb).more hb.size)
 have e1:Ln.begin_ y=(Oc.D y*86400,0):=by unfold Ln.begin_;rw[if_pos (by omega)]
 have e2:Ln.begin_ (y+1)=(Oc.D (y+1)*86400,0):=by unfold Ln.begin_;rw[if_pos (by omega)]
 have HB1:=ak fun W=>e1 ▸ lnBegin_any y W
 have HB2:=ak fun W=>e2 ▸ lnBegin_any (y+1) W
 have HMo:=ak (fun(w2:World) (hb:Below w.heap.size w w2) (e:Ending) (w':World) (h:Lo.CtRet l (Oc.D y*86400) (Oc.D (y+1)*86400) w2 e w')=>(show ∃v,e=.returned (.tuple #[v,.int .i64 0])∧Hid (Lo.CtRet l (Oc.D y*86400) (Oc.D (y+1)*86400) w (.returned (.tuple #[v,.int .i64 0])) w') from by
  obtain⟨⟨k,x,v,h1,h2,rfl,h3⟩,h4⟩:=h;exact⟨v,rfl,⟨k,x,v,h1,h2,rfl,Go.Joins.ownsRow_le h3 hb.size⟩,hb.trans (h4.mono hb.size)⟩))
 obtain⟨fr,hfr⟩:=aj (Oc.D y*86400)
 obtain⟨te,hte⟩:=aj (Oc.D (y+1)*86400)
 rw[hfr] at HB1 HCt HMo;rw[hte] at HB2 HCt HMo;rw[hfr,hte];have wy:IntKind.i64.wrap (y+1)=y+1:=by rw[IntKind.wrap_i64];omega
 clear e1 e2 hfr hte hR hr h0 hn hlt;go_enter Tryz.func23,Tryz.ntmps23
 go_wp2_with fail
 refine HCk.out.mono ?_;rintro e w2 ⟨rfl,hb2⟩;have HX2:=ak hb2;clear hb2;go_wp2_with fail
 refine(HB1.out _).mono ?_;rintro e w3 ⟨rfl,rfl⟩;go_wp2_with fail
 refine(HB2.out _).mono ?_;rintro e w3 ⟨rfl,rfl⟩;go_wp2_with fail
 refine(HCt.out w2 HX2.out).mono ?_;intro e w4 h4;obtain⟨v,rfl,HFin⟩:=HMo.out w2 HX2.out e w4 h4;clear h4;go_wp2;go_ret2
 exact HFin.out
end Go.Proofs.YtjobhjemnmleaaaGreatDoor
