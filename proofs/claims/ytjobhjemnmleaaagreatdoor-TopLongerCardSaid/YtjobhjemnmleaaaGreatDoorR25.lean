/- edge.Ends. -/
import Derived.Test.YtjobhjemnmleaaaGreatDoorR24
set_option maxRecDepth 100000
set_option maxHeartbeats 8000000
namespace Go.Proofs.YtjobhjemnmleaaaGreatDoor
open Go.RowKit Go.Shelf Go.Sort
attribute [local go_sem] Oper.semAt_some
theorem i64_info : (Tryz.prog.info? 2).map (fun i=>(i.zero,i.size,i.bytes))=some (some (.int .i64 0),1,8):=by kernel_rfl
namespace Eg
theorem rule_small {r:Ru.R}(h:r.Ok):r.nm.size≤1000000∧r.lt.size≤1000000:=by
 obtain⟨h1,_,_,_,_,_,h7⟩:=h;unfold Ru.name at h1;unfold Ab.letter at h7;rw[Bool.and_eq_true,decide_eq_true_eq,tl_length] at h1;rw[Bool.and_eq_true,Bool.and_eq_true,decide_eq_true_eq] at h7;omega
theorem rules_ok2 {s:Src.S}(h:Vd.well s=true)(hl:s.rules.length≤4096):RulesOk s.rules:=by
 obtain⟨h1,_⟩:=Vd.well_parts h;unfold Src.srcB at h1;rw[Bool.and_eq_true,List.all_eq_true] at h1;exact rules_ok h hl fun r hr=>rule_small ((Ru.R.good_iff r).1 (h1.1 r hr))
def zoneAt (s:Src.S)(z:Int):Option (Src.Txt × List Er.E):=if 0≤z then s.zones[z.toNat]? else none
def EndsOf (s:Src.S)(z:Int)(B:Nat)(e:Ending)(w':World):Prop:=
 (Vd.well s=false∧e=.returned (.tuple #[.slice none 0 0,.int .i64 2]))∨(Vd.well s=true∧zoneAt s z=none∧e=.returned (.tuple #[.slice none 0 0,.int .i64 3]))∨
 (∃x v,Vd.well s=true∧zoneAt s z=some x∧e=.returned (.tuple #[v,.int .i64 0])∧w'.ownsRow B 2 1 v (ends s.rules x.2).length (i64s (ends s.rules x.2)))
def EnAt (rules:List Ru.R)(es:List Er.E)(m0 B:Nat)(w2:World)(v i:Value)(wr:World):Prop:=
 ∃j:Nat,j≤m0∧i=.int .i64 (j:Int)∧Hid (wr.ownsRow (B+1) 2 1 v j (i64s ((ends rules es).take j)))∧Hid (Below (B+1) w2 wr)
theorem ends_next {rules:List Ru.R}{es:List Er.E}{j m0:Nat}{e:Er.E}(hm:es.length=m0+1)(hj:j<m0)(he:es[j]?=some e):i64s ((ends rules es).take (j+1))=i64s ((ends rules es).take j) ++ [.int .i64 (endOf rules e)]:=by
 have h:(ends rules es)[j]?=some (endOf rules e):=by
  unfold ends;rw[List.getElem?_map,List.getElem?_dropLast,if_pos (by omega),he];rfl
 unfold i64s;rw[List.take_add_one,h,List.map_append];rfl
end Eg
theorem ends_any (s:Src.S)(z:Int)(rv zv lv:Value)(evs:List Value)(w:World)(hR:Src.SrcR w w.heap.size s rv zv lv evs)(hS:Vd.Sz s)(hW:Wo w)(hA:Wa w)(hz:-9223372036854775808≤z∧z<9223372036854775808)(hcc:∀x∈s.zones,∀e∈x.2,0≤e.u.c):
  Calls Tryz.prog 64 #[.agg #[rv,zv,lv],.int .i64 z] w fun e w'=>Below w.heap.size w w'∧Eg.EndsOf s z w.heap.size e w':=by
 have hlen:(s.zones.zip evs).length=s.zones.length:=by rw[List.length_zip,hR.len];omega
 have hers:=hR.eras;have hzn:∀k x,(s.zones.zip evs)[k]?=some x→s.zones[k]?=some x.1∧x∈s.zones.zip evs:=fun k x h=>⟨(List.getElem?_zip_eq_some.1 h).1,List.mem_of_getElem? h⟩
 have L2:=hS.lims.zones;have hRu:Vd.well s=true→Eg.RulesOk s.rules:=fun h=>Eg.rules_ok2 h hS.lims.rules
 obtain⟨rA,rc,rfl,_⟩:=hR.rules;obtain⟨zA,zc,rfl,hz1,hzc,hrz⟩:=hR.zones;obtain⟨lA,lc,rfl,_⟩:=hR.links;obtain⟨n1,hn1⟩:=aj (s.rules.length)
 obtain⟨n2,hn2⟩:=aj (s.zones.length)
 obtain⟨n3,hn3⟩:=aj (s.links.length)
 obtain⟨W1,hW1⟩:=aj (w.alloc (.cells #[.slice rA n1 rc,.slice zA n2 zc,.slice lA n3 lc] 26))
 have hb1:Below w.heap.size w W1:=by rw[← hW1];exact al
 have hz9:w.heap.size+1≤W1.heap.size:=by rw[← hW1,World.size_alloc];omega
 have hA1:At W1 w.heap.size [.slice rA n1 rc,.slice zA n2 zc,.slice lA n3 lc]:=by rw[← hW1];exact At.new _ _ _
 have hCw:=vdWell_any s _ _ _ evs W1 (hR.call hb1) hS (hW.below hb1) (hA.below hb1);rw[hn1,hn2,hn3] at hR;rw[hn1,hn2,hn3] at hCw ⊢;rw[hn2] at hrz hlen L2;obtain⟨b0,b1,b2,_⟩:=hA1.three;unfold maxLen at hzc;have HS:=ak hS;have HR:=ak hR;have HN2:=ak hn2;have HB1:=ak hb1;have HW1:=ak hW1;have HA1:=ak hA1;have HRz:=ak hrz;have HLen:=ak hlen;have HErs:=ak hers;have HZn:=ak hzn;have HRu:=ak hRu;have HWo:=ak hW;obtain⟨bw,hbw⟩:=aj (Vd.well s)
 rw[hbw] at hCw;have HCw:=ak hCw;clear hR hS hW hA hn1 hn2 hn3 hb1 hW1 hA1 hCw hrz hlen hers hzn hRu;cases bw with
 |false=>
  have HFin:Hid (∀w',Below w.heap.size w w'→Below w.heap.size w w'∧Eg.EndsOf s z w.heap.size (.returned (.tuple #[.slice none 0 0,.int .i64 2])) w'):=fun w' hb=>⟨hb,.inl ⟨hbw,rfl⟩⟩
  clear hbw;go_enter Tryz.func64,Tryz.ntmps64
  go_wp2_with fail
  rw[HW1.out];refine HCw.out.mono ?_;rintro r w2 ⟨rfl,hb2⟩;have HB2:=ak (below_then HB1.out hb2);clear hb2 b0 b1 b2;go_wp2;go_ret2
  exact HFin.out _ HB2.out
 |true=>
  have HRu2:=ak (HRu.out hbw)
  by_cases hout:z<0∨(n2:Int)≤z
  ·have hno:Eg.zoneAt s z=none:=by
    unfold Eg.zoneAt;split
    ·rw[List.getElem?_eq_none (by rw[HN2.out];omega)]
    ·rfl
   have HFin:Hid (∀w',Below w.heap.size w w'→Below w.heap.size w w'∧Eg.EndsOf s z w.heap.size (.returned (.tuple #[.slice none 0 0,.int .i64 3])) w'):=fun w' hb=>⟨hb,.inr (.inl ⟨hbw,hno,rfl⟩)⟩
   clear hbw hno;rcases hout with ho|ho
   ·go_enter Tryz.func64,Tryz.ntmps64
    go_wp2_with fail
    rw[HW1.out];refine HCw.out.mono ?_;rintro r w2 ⟨rfl,hb2⟩;have HB2:=ak (below_then HB1.out hb2);have HA2:=ak (HA1.out.call hb2);clear hb2 b0 b1 b2;obtain⟨c0,c1,c2,_⟩:=HA2.out.three;go_wp2;go_ret2
    exact HFin.out _ HB2.out
   ·have ho2:¬z<0:=(by omega);go_enter Tryz.func64,Tryz.ntmps64
    go_wp2_with fail
    rw[HW1.out];refine HCw.out.mono ?_;rintro r w2 ⟨rfl,hb2⟩;have HB2:=ak (below_then HB1.out hb2);have HA2:=ak (HA1.out.call hb2);clear hb2 b0 b1 b2;obtain⟨c0,c1,c2,_⟩:=HA2.out.three;go_wp2;go_ret2
    exact HFin.out _ HB2.out
  ·obtain⟨k,rfl⟩:∃k:Nat,z=(k:Int):=⟨z.toNat,by omega⟩
   have hk:k<n2:=(by omega);obtain⟨adz,x,rfl,hab,Hx,HL⟩:=Ix.reads_cells (enc:=Src.zc) (m:=2) (fun _=>rfl) HLen.out HRz.out hk;obtain⟨hzk,hzm⟩:=HZn.out k x Hx.out;have hyes:Eg.zoneAt s (k:Int)=some x.1:=by
    unfold Eg.zoneAt;rw[if_pos (by omega)];exact hzk
   have hzo:=Eg.zone_ok hbw (List.mem_of_getElem? hzk);obtain⟨eA,ec,he2,hmec,hec,hre⟩:=HErs.out x hzm;obtain⟨zb,hzb⟩:=aj (Src.bts x.1.1)
   obtain⟨es,hes⟩:=aj (x.1.2)
   rw[hes] at he2 hre hzo;obtain⟨m0,hm0⟩:∃m0,es.length=m0+1:=⟨es.length - 1,by have:=hzo.len.1;omega⟩
   have hm63:m0≤63:=by have:=hzo.len.2;omega
   rw[hes,hm0] at hmec;rw[hm0] at he2 hre;have q5:m0≤ec:=(by omega);have q6:(m0:Int)≤(ec:Int):=(by omega);have q7:=am m0
   clear hmec;unfold maxLen at hec;obtain⟨i0,i1,i2,i3,i4⟩:=info_parts i64_info;have HI:=ak (And.intro i1 (And.intro i2 (And.intro i3 i4)));clear i1 i2 i3 i4;have hmk:=fun W:World=>run_make (P:=Tryz.prog) W 151 2 i0 _ Tryz.underlying151 HI.out.1 HI.out.2.1 .i64 .i64 0 ((m0:Int)+1) (by omega) (by omega) (by rw[HI.out.2.2.2];omega) (by omega)
   rw[HI.out.2.2.1] at hmk;obtain⟨MC,hMC⟩:=aj (madeCells (Value.int .i64 0).cells (((m0:Int)+1).toNat*1))
   rw[hMC] at hmk;have hMs:MC.size=(m0+1)*1:=by
    rw[← hMC,size_madeCells];simp
    try omega
   clear hMC;have hw:Hid (∀e (w':World) v,e=.returned (.tuple #[v,.int .i64 0])→Below w.heap.size w w'→w'.ownsRow (w.heap.size+1) 2 1 v m0 (Eg.i64s ((Eg.ends s.rules es).take m0))→Below w.heap.size w w'∧Eg.EndsOf s (k:Int) w.heap.size e w'):=fun e w' v he hb ho=>by
    refine⟨hb,.inr (.inr ⟨x.1,v,hbw,hyes,he,?_⟩)⟩;rw[hes];have hl:=Eg.ends_len s.rules es;rw[hl,hm0,Nat.add_sub_cancel];rw[List.take_of_length_le (by omega)] at ho;exact Sc.own_mono ho (by omega)
   have hcc2:∀e∈es,0≤e.u.c:=by rw[← hes];exact hcc _ (List.mem_of_getElem? hzk)
   have HCc:=ak hcc2;clear hcc hcc2;have HHe:=ak he2;have HHzb:=ak hzb;have HZo:=ak hzo;have HRe:=ak hre;have HM0:=ak hm0;have c0':Hid (∀W,Below w.heap.size w W→W.cell? (adz.add (k*2))=some (.string zb)∧W.cell? ⟨(adz.add (k*2)).block,(adz.add (k*2)).off+1,none⟩=some (.slice eA (m0+1) ec)):=fun W hb=>by
    have hg:=hb.block (adz.add (k*2)).block (by rw[block_of_add];exact hab);exact⟨(World.cell?_of_block hg).trans (by rw[← hzb];exact HL.out 0 _ rfl),(World.cell?_of_block (by exact hg)).trans (by rw[← he2];exact HL.out 1 _ rfl)⟩
   have q1:=am k
   have q2:¬(k:Int)<0:=(by omega);have q3:(k:Int)<(n2:Int):=(by omega);have q4:¬(n2:Int)≤(k:Int):=(by omega);clear hbw hyes hzo he2 hzb hes hm0 hre hzk hzm Hx HL hout hz;go_enter Tryz.func64,Tryz.ntmps64
   go_wp2_with fail
   rw[HW1.out];refine HCw.out.mono ?_;rintro r w2 ⟨rfl,hb2⟩;have HB2:=ak (below_then HB1.out hb2);have HA2:=ak (HA1.out.call hb2);have HZ2:w.heap.size+1≤w2.heap.size:=Nat.le_trans hz9 hb2.size;clear hb2 b0 b1 b2;obtain⟨c0,c1,c2,_⟩:=HA2.out.three;obtain⟨u0,u1⟩:=c0'.out w2 HB2.out;have hown0:Hid ((w2.alloc (.cells MC 2)).ownsRow (w.heap.size+1) 2 1 (.slice (some ⟨w2.heap.size,0,none⟩) 0 (m0+1)) 0 []):=World.ownsRow_made w2 MC (m0+1) HZ2 (by unfold maxLen;omega) hMs;have hbl0:Hid (Below (w.heap.size+1) w2 (w2.alloc (.cells MC 2))):=(Below.refl _ _).alloc HZ2 _;go_wp2_with fail
   clear hmk hMs c0 c1 c2 u0 u1 q2 q3 q4 q5 q6;go_loopw [7,41] (fun v i wr=>Eg.EnAt s.rules es m0 w.heap.size w2 v i wr) (fun _ i _=>m0 - (intOf i).toNat)
   case atStart=>exact⟨0,Nat.zero_le _,rfl,hown0,hbl0⟩
   case round=>
    clear hown0 hbl0;obtain⟨j,hj,rfl,HO,HB⟩:=hrel;obtain⟨vA,vc,rfl,hv1,hv2⟩:=own_slice_cap HO.out;have hsz:w2.heap.size≤wr.heap.size:=HB.out.size
    by_cases hlt:j<m0
    ·have p1:=am j
     have p2:(j:Int)<(m0:Int):=(by omega);have HBr:Hid (Below w.heap.size w wr):=HB2.out.trans (HB.out.mono (by omega));obtain⟨ad,xe,rfl,habe,Hxe,HLe⟩:=Ix.reads_cells (enc:=Er.E.cells) (m:=13) (fun _=>rfl) HM0.out (HRe.out.below HBr.out) (show j<m0+1 by omega);have hmem:xe∈es:=List.mem_of_getElem? Hxe.out;have hen:xe.en=true:=by rw[HZo.out.en j xe Hxe.out,HM0.out];exact decide_eq_true (by omega)
     have hno:=HZo.out.nom xe hmem hen;have heo:=Eg.end_ok HRu2.out HZo.out hmem hen;have hnx:=Eg.ends_next (rules:=s.rules) HM0.out hlt Hxe.out;have hcl:=(HZo.out.ok xe hmem).2.2.2;obtain⟨std,ek,esv,ru,fm,en,⟨y,m,dk,dn,dd,sc,cc⟩⟩:=xe;obtain rfl:en=true:=hen;obtain⟨na,hn⟩:∃a,Mo.nom dk dn dd y m sc cc=(a,0):=⟨_,Prod.ext rfl hno⟩
     have hn2:Eg.nomU ⟨y,m,dk,dn,dd,sc,cc⟩=(na,0):=hn;unfold Eg.endOf at hnx;simp only[hn2] at heo hnx;obtain⟨heo,hnT⟩:=heo;unfold InT at hnT;obtain⟨sv,hsv⟩:=aj (Eg.saved s.rules ⟨std,ek,esv,ru,fm,true,⟨y,m,dk,dn,dd,sc,cc⟩⟩ na)
     rw[hsv] at heo hnx;obtain⟨q,hins⟩:∃q,Mo.ins na cc std sv=(q,0):=⟨_,Prod.ext rfl heo⟩
     rw[hins] at hnx;have hcc0:0≤cc:=HCc.out _ hmem;have y0:wr.cell? (ad.add (j*13))=some (.int .i64 std):=HLe.out 0 _ rfl;have y1:wr.cell? ⟨(ad.add (j*13)).block,(ad.add (j*13)).off+1,none⟩=some (.int .u8 ek):=HLe.out 1 _ rfl;have y2:wr.cell? ⟨(ad.add (j*13)).block,(ad.add (j*13)).off+2,none⟩=some (.int .i64 esv):=HLe.out 2 _ rfl;have y3:wr.cell? ⟨(ad.add (j*13)).block,(ad.add (j*13)).off+3,none⟩=some (.string ru):=HLe.out 3 _ rfl;have y4:wr.cell? ⟨(ad.add (j*13)).block,(ad.add (j*13)).off+4,none⟩=some (.string fm):=HLe.out 4 _ rfl;have y5:wr.cell? ⟨(ad.add (j*13)).block,(ad.add (j*13)).off+5,none⟩=some (.bool true):=HLe.out 5 _ rfl;have y6:wr.cell? ⟨(ad.add (j*13)).block,(ad.add (j*13)).off+6,none⟩=some (.int .i64 y):=HLe.out 6 _ rfl;have y7:wr.cell? ⟨(ad.add (j*13)).block,(ad.add (j*13)).off+7,none⟩=some (.int .i64 m):=HLe.out 7 _ rfl;have y8:wr.cell? ⟨(ad.add (j*13)).block,(ad.add (j*13)).off+8,none⟩=some (.int .u8 dk):=HLe.out 8 _ rfl;have y9:wr.cell? ⟨(ad.add (j*13)).block,(ad.add (j*13)).off+9,none⟩=some (.int .i64 dn):=HLe.out 9 _ rfl;have y10:wr.cell? ⟨(ad.add (j*13)).block,(ad.add (j*13)).off+10,none⟩=some (.int .i64 dd):=HLe.out 10 _ rfl;have y11:wr.cell? ⟨(ad.add (j*13)).block,(ad.add (j*13)).off+11,none⟩=some (.int .i64 sc):=HLe.out 11 _ rfl;have y12:wr.cell? ⟨(ad.add (j*13)).block,(ad.add (j*13)).off+12,none⟩=some (.int .u8 cc):=HLe.out 12 _ rfl
     have hb10:=((Below.refl wr.heap.size wr).alloc (Nat.le_refl _) (.cells #[.int .i64 std,.int .u8 ek,.int .i64 esv,.string ru,.string fm,.bool true,.int .i64 y,.int .i64 m,.int .u8 dk,.int .i64 dn,.int .i64 dd,.int .i64 sc,.int .u8 cc] 191)).alloc (by simp) (.cells #[.int .i64 y,.int .i64 m,.int .u8 dk,.int .i64 dn,.int .i64 dd,.int .i64 sc,.int .u8 cc] 188);have HNm:=ak (nominal_any y m dk dn dd sc cc _ (HWo.out.below (HBr.out.trans (hb10.mono HBr.out.size))));rw[hn] at HNm;have HA9:=ak ((At.new wr #[.int .i64 std,.int .u8 ek,.int .i64 esv,.string ru,.string fm,.bool true,.int .i64 y,.int .i64 m,.int .u8 dk,.int .i64 dn,.int .i64 dd,.int .i64 sc,.int .u8 cc] 191).alloc #[.int .i64 y,.int .i64 m,.int .u8 dk,.int .i64 dn,.int .i64 dd,.int .i64 sc,.int .u8 cc] 188);have HAu:Hid (At ((wr.alloc (.cells #[.int .i64 std,.int .u8 ek,.int .i64 esv,.string ru,.string fm,.bool true,.int .i64 y,.int .i64 m,.int .u8 dk,.int .i64 dn,.int .i64 dd,.int .i64 sc,.int .u8 cc] 191)).alloc (.cells #[.int .i64 y,.int .i64 m,.int .u8 dk,.int .i64 dn,.int .i64 dd,.int .i64 sc,.int .u8 cc] 188)) (wr.heap.size+1) #[.int .i64 y,.int .i64 m,.int .u8 dk,.int .i64 dn,.int .i64 dd,.int .i64 sc,.int .u8 cc].toList):=by
      have:=At.new (wr.alloc (.cells #[.int .i64 std,.int .u8 ek,.int .i64 esv,.string ru,.string fm,.bool true,.int .i64 y,.int .i64 m,.int .u8 dk,.int .i64 dn,.int .i64 dd,.int .i64 sc,.int .u8 cc] 191)) #[.int .i64 y,.int .i64 m,.int .u8 dk,.int .i64 dn,.int .i64 dd,.int .i64 sc,.int .u8 cc] 188;rw[World.size_alloc] at this;exact this
     have HAs:=ak ((HA2.out.below HB.out (by omega)).call hb10);have HB10:=ak hb10;have HNx:=ak hnx;have HSv:=ak hsv;have HIns:=ak hins;clear hb10 hno hmem heo hcl hn hn2 hnx hsv hins;go_wp2_with fail
     refine HNm.out.mono ?_;rintro e w3 ⟨rfl,hb3⟩;replace HA9:=ak (HA9.out.call hb3);replace HAu:=ak (HAu.out.call hb3);replace HAs:=ak (HAs.out.call hb3);have HB3:=ak (below_then HB10.out hb3);clear hb3 HB10 y0 y1 y2 y3 y4 y5 y6 y7 y8 y9 y10 y11 y12;go_wp2_with fail
     have d0:=HA9.out.cell 0 _ rfl;have e0:=cell_regrown d0;have d1:=HA9.out.cell 1 _ rfl;have e1:=cell_regrown d1;have d2:=HA9.out.cell 2 _ rfl;have e2:=cell_regrown d2;have d3:=HA9.out.cell 3 _ rfl;have e3:=cell_regrown d3;have d4:=HA9.out.cell 4 _ rfl;have e4:=cell_regrown d4;have d5:=HA9.out.cell 5 _ rfl;have e5:=cell_regrown d5;have d6:=HA9.out.cell 6 _ rfl;have e6:=cell_regrown d6;have d7:=HA9.out.cell 7 _ rfl;have e7:=cell_regrown d7;have d8:=HA9.out.cell 8 _ rfl;have e8:=cell_regrown d8;have d9:=HA9.out.cell 9 _ rfl;have e9:=cell_regrown d9;have d10:=HA9.out.cell 10 _ rfl;have e10:=cell_regrown d10;have d11:=HA9.out.cell 11 _ rfl;have e11:=cell_regrown d11;have d12:=HA9.out.cell 12 _ rfl;have e12:=cell_regrown d12;have f0:=HAu.out.cell 0 _ rfl;have g0:=cell_regrown f0;have f1:=HAu.out.cell 1 _ rfl;have g1:=cell_regrown f1;have f2:=HAu.out.cell 2 _ rfl;have g2:=cell_regrown f2;have f3:=HAu.out.cell 3 _ rfl;have g3:=cell_regrown f3;have f4:=HAu.out.cell 4 _ rfl;have g4:=cell_regrown f4;have f5:=HAu.out.cell 5 _ rfl;have g5:=cell_regrown f5;have f6:=HAu.out.cell 6 _ rfl;have g6:=cell_regrown f6;have s0:=HAs.out.cell 0 _ rfl;have t0:=cell_regrown s0;have s1:=HAs.out.cell 1 _ rfl;have t1:=cell_regrown s1;have s2:=HAs.out.cell 2 _ rfl;have t2:=cell_regrown s2;have hs3:=HBr.out.trans (HB3.out.mono HBr.out.size);have hR3:=HR.out.call hs3;have cS:∀dd' os,Calls Tryz.prog 110 #[.agg #[.slice rA n1 rc,.slice (some adz) n2 zc,.slice lA n3 lc],.agg #[.int .i64 std,.int .u8 ek,.int .i64 esv,.string ru,.string fm,.bool true,.int .i64 y,.int .i64 m,.int .u8 dk,.int .i64 dn,.int .i64 dd,.int .i64 sc,.int .u8 cc],.int .i64 na] (grow (redrawn w3 dd') os) fun e w''=>e=.returned (.int .i64 sv)∧∃p:Regrown,w''=grow (redrawn w3 p.d) p.os:=fun dd' os=>Calls.regrown_of (by
      have hbq:=below_regrown w3 dd' os;have h:=saved_any s _ _ _ evs ⟨std,ek,esv,ru,fm,true,⟨y,m,dk,dn,dd,sc,cc⟩⟩ na (grow (redrawn w3 dd') os) (hR3.call hbq) HRu2.out (HWo.out.below (hs3.trans (hbq.mono hs3.size))) (by omega);rw[HSv.out] at h;exact h)
     have cI:∀dd' os,Calls Tryz.prog 109 #[.int .i64 na,.int .u8 cc,.int .i64 std,.int .i64 sv] (grow (redrawn w3 dd') os) fun e w''=>e=.returned (.tuple #[.int .i64 q,.int .i64 0])∧∃p:Regrown,w''=grow (redrawn w3 p.d) p.os:=fun dd' os=>Calls.regrown_of (by
      have h:=instant_any na cc std sv (grow (redrawn w3 dd') os) hcc0;rw[HIns.out] at h;exact h.mono fun e w' he=>⟨he.1,by rw[← he.2];exact Below.refl _ _⟩)
     refine wp_region_tail 15 (by kernel_rfl) (by kernel_rfl) ?_
     repeat (quiet_step (first|exact cS _ _|exact cI _ _))
     refine wpQuiet_nil ?_;intro w4 hwz;obtain⟨⟨dq,osq⟩,hwz⟩:=hwz;have hb4:Below w3.heap.size w3 w4:=by rw[hwz];exact below_regrown _ _ _
     clear hwz cS cI d0 e0 d1 e1 d2 e2 d3 e3 d4 e4 d5 e5 d6 e6 d7 e7 d8 e8 d9 e9 d10 e10 d11 e11 d12 e12 f0 g0 f1 g1 f2 g2 f3 g3 f4 g4 f5 g5 f6 g6 s0 t0 s1 t1 s2 t2;show wpList _ _ _ (_ :: _) _ _
     have hz4:w.heap.size+1≤w4.heap.size:=by have:=hs3.size;have:=hb4.size;have:=HB3.out.size;omega
     have hb14:=HB3.out.trans (hb4.mono HB3.out.size);have HO4:=ak (own_below HO.out hb14);have HB4:=ak (HB.out.trans (hb14.mono (show w.heap.size+1≤wr.heap.size by omega)));have HAp:=fun {ops:Array Oper} {rest:List Oper} {o:Oper} {a:Act} {Q:Exit→Act→World→Prop} hgd ho hs hx h=>row_append (ops:=ops) (rest:=rest) (o:=o) (a:=a) (Q:=Q) 151 2 1 8 _ #[.int .i64 q] Tryz.underlying151 i64_info rfl (by decide) rfl (by
      intro u hu;simp at hu
      subst hu;rfl) (by decide) w4 (w.heap.size+1) j _ (.slice vA j vc) 79 81 w4.heap.size rfl HO4.out (by omega) hz4 hgd ho hs hx h
     clear hb4 hb14 hs3 hR3;go_wp2_with (at_builtin;refine HAp rfl rfl rfl rfl ?_;intro v9 w9 hown9 hb9 hg9 hat9)
     have HO9:Hid (w9.ownsRow (w.heap.size+1) 2 1 v9 (j+1) (Eg.i64s ((Eg.ends s.rules es).take (j+1)))):=by
      show World.ownsRow _ _ _ _ _ _ _
      rw[HNx.out];exact hown9
     have HB9:Hid (Below (w.heap.size+1) w2 w9):=HB4.out.trans hb9;clear hown9 hb9 hg9 hat9 HAp hz4;go_roundw
     case rel=>exact⟨_,_,_,_,_,_,_,_,.int .i64 ((j:Int)+1),⟨j+1,by omega,by go_num,HO9,HB9⟩,rfl,rfl,rfl,rfl,rfl,rfl,rfl,rfl,rfl⟩
     case measure=>simp[intOf];omega
    ·have hjm:j=m0:=(by omega);subst hjm;have p2:¬(j:Int)<(j:Int):=(by omega);have HEnd:=ak (hw.out _ wr (.slice vA j vc) rfl (HB2.out.trans (HB.out.mono (by omega))) HO.out);clear hw;go_wp2;go_ret2
     exact HEnd.out
end Go.Proofs.YtjobhjemnmleaaaGreatDoor
namespace Go.Proofs.YtjobhjemnmleaaaGreatDoor
open Go.RowKit
namespace Oc
theorem of_len (l:List Ru.R)(lo hi:Int){k:Nat}(h:hi - lo+1≤k):(of l lo hi).length≤l.length+k*l.length:=by
 unfold of;rw[List.length_map,(perm_isort _).length_eq];unfold ofU;rw[List.length_append];have h1:=backs_len l lo (pls l 0);have h2:=pls_len l 0;have h3:=years_len l (yrs (hi - lo+1).toNat lo);rw[yrs_len] at h3;have h4:(hi - lo+1).toNat*l.length≤k*l.length:=Nat.mul_le_mul_right _ (by omega);omega
end Oc
namespace Ln
theorem inEra_len {rules:List Ru.R}(hl:rules.length≤4096)(e:Er.E)(fr te:Int){k:Nat}(h:yr (te - 1) - yr fr+3≤k):(inEra rules e fr te).length≤4096+k*4096+1:=by
 unfold inEra;split
 ·have h1:=inGo_len e.std fr (Oc.of (Src.ofName e.ru rules) (yr fr - 1) (yr (te - 1)+1)).reverse te;have h2:=Oc.of_len (Src.ofName e.ru rules) (yr fr - 1) (yr (te - 1)+1) (k:=k) (by omega);have h3:(Src.ofName e.ru rules).length≤4096:=Nat.le_trans (List.length_filter_le _ _) hl;have h4:k*(Src.ofName e.ru rules).length≤k*4096:=Nat.mul_le_mul_left _ h3;rw[List.length_reverse] at h1;omega
 ·simp
theorem yr_le {a b:Int}(ha:InDays a)(hb:InDays b)(h:a≤b):yr a≤yr b:=by
 have h1:=yr_bd ha;have h2:=yr_bd hb
 by_cases q:yr a≤yr b
 ·exact q
 ·have:=Oc.D_mono (show yr b+1≤yr a by omega);omega
theorem pieces_len {rules:List Ru.R}{eras:List Er.E}{ends:List Int}{fr te:Int}(hl:rules.length≤4096)(hd1:InDays fr)(hd2:InDays (te - 1))(hy:yr (te - 1) - yr fr≤400):
  ∀k,(pieces rules eras ends fr te k).length≤k*2000000
 |0=>by simp[pieces]
 |k+1=>by
  have ih:=pieces_len hl hd1 hd2 hy (eras:=eras) (ends:=ends) k;unfold pieces;rw[List.length_append];split
  ·simp only[List.length_nil];omega
  ·rename_i hgt
   have hup:upto ends te k≤te:=by unfold upto;split <;> omega
   have hm:=maxs_ge ends fr k;have i1:InDays (maxs ends fr k):=hd1.of hd2 hm.1 (by omega);have i2:InDays (upto ends te k - 1):=hd1.of hd2 (by omega) (by omega);have h1:=yr_le hd1 i1 hm.1;have h2:=yr_le i2 hd2 (by omega);have h3:=inEra_len hl (eras.getD k Er.E.zero) (maxs ends fr k) (upto ends te k) (k:=403) (by omega);omega
theorem years_in {lo hi:Int}(h1:1<lo)(h2:hi<9999)(h3:lo≤hi):Oc.D lo*86400<Oc.D (hi+1)*86400∧InDays (Oc.D lo*86400)∧InDays (Oc.D (hi+1)*86400 - 1)∧yr (Oc.D lo*86400)=lo∧yr (Oc.D (hi+1)*86400 - 1)=hi:=by
 have a:=d_bd (y:=lo) (by omega) (by omega);have b:=d_bd (y:=hi+1) (by omega) (by omega);have c:=Oc.D_mono (show lo+1≤hi+1 by omega);have d:=Oc.D_next lo;have e:=Oc.D_next hi;have i1:InDays (Oc.D lo*86400):=by unfold InDays;omega
 have i2:InDays (Oc.D (hi+1)*86400 - 1):=by unfold InDays;omega
 exact⟨by omega,i1,i2,yr_of i1 (by omega) (by omega),yr_of i2 (by omega) (by omega)⟩
def lineOf (s:Src.S)(eras:List Er.E)(lo hi:Int):List Sp:=line s.rules eras (Eg.ends s.rules eras) (Oc.D lo*86400) (Oc.D (hi+1)*86400)
def InY (lo hi:Int):Prop:=1<lo∧hi<9999∧lo≤hi∧hi - lo<400
def OfRet (s:Src.S)(z lo hi:Int)(B:Nat)(e:Ending)(w':World):Prop:=
 (Vd.well s=false∧e=.returned (.tuple #[.slice none 0 0,.int .i64 2]))∨(Vd.well s=true∧Eg.zoneAt s z=none∧e=.returned (.tuple #[.slice none 0 0,.int .i64 3]))∨
 (∃x,Vd.well s=true∧Eg.zoneAt s z=some x∧¬InY lo hi∧e=.returned (.tuple #[.slice none 0 0,.int .i64 1]))∨
 (∃x v,Vd.well s=true∧Eg.zoneAt s z=some x∧InY lo hi∧e=.returned (.tuple #[v,.int .i64 0])∧w'.ownsRow B 164 3 v (lineOf s x.2 lo hi).length ((lineOf s x.2 lo hi).flatMap Sp.cells))
end Ln
end Go.Proofs.YtjobhjemnmleaaaGreatDoor
namespace Go.Proofs.YtjobhjemnmleaaaGreatDoor
open Go.RowKit
namespace Ln
theorem lineOf_cov {s:Src.S}{eras:List Er.E}(hr:Eg.RulesOk s.rules)(hz:Eg.ZoneOk eras){lo hi:Int}(h:InY lo hi):Cov (st s.rules eras (Eg.ends s.rules eras)) (Oc.D (hi+1)*86400) (Oc.D lo*86400) (lineOf s eras lo hi):=by
 obtain⟨h1,h2,h3,_⟩:=h;obtain⟨k1,k2,k3,_⟩:=years_in h1 h2 h3;exact line_cov (hz.fit hr) (by rw[Eg.ends_len];have:=hz.len.1;omega) k1 k2 k3
end Ln
end Go.Proofs.YtjobhjemnmleaaaGreatDoor
namespace Go.Proofs.YtjobhjemnmleaaaGreatDoor
open Go.RowKit
namespace Ln
def i64s (l:List Int):List Value:=l.map fun t=>.int .i64 t
end Ln
theorem lnWhile_any (ends:List Int)(fr te:Int)(k m ec gd:Nat)(rv zv lv:Value)(z:Int)(eA:Option Addr)(w:World)(hm:ends.length=m)(hk:k≤m)(hm2:m≤ec)(hec:ec≤maxLen)(h0:eA=none→ec=0)
  (hA:At w gd [rv,zv,lv,.int .i64 z,.slice eA m ec,.int .i64 fr,.int .i64 te]) (hR:Reads w w.heap.size 1 eA m (Ln.i64s ends)):
  Calls Tryz.prog 150 #[.pointer (some ⟨gd,0,none⟩),.int .i64 (k:Int)] w fun e w'=>e=.returned (.tuple #[.int .i64 (Ln.maxs ends fr k),.int .i64 (Ln.upto ends te k)])∧Below w.heap.size w w':=by
 unfold maxLen at hec;have a4:=hA.cell 4 _ rfl;have a5:=hA.cell 5 _ rfl;have a6:=hA.cell 6 _ rfl;have za:=hA.lt;have q1:(k:Int)≤(ec:Int):=by omega
 have q2:=am k
 have q3:k≤ec:=by omega
 have HA:=ak hA;have HR:=ak hR;have HM:=ak hm;have HD:Hid (∀n,Below w.heap.size w (w.drewN n)):=fun n=>(show Drew w (w.drewN n) from⟨n,rfl⟩).below w.heap.size
 rcases eA with _|ad
 ·obtain rfl:=h0 rfl;obtain rfl:k=0:=by omega
  obtain rfl:m=0:=by omega
  have e1:Ln.maxs ends fr 0=fr:=rfl;have e2:Ln.upto ends te 0=te:=by
   obtain rfl:ends=[]:=List.eq_nil_of_length_eq_zero hm;rfl
  rw[e1,e2];clear hA hR hm h0 e1 e2 hk hm2 hec;go_enter Tryz.func150,Tryz.ntmps150
  go_wp2_with fail
  go_quiet (fail)
  go_wp2_with fail
  go_loopw [6,25] (fun v i wr=>v=.int .i64 fr∧i=.int .i64 0∧Hid (Below w.heap.size w wr)) (fun _ _ _=>0)
  case atStart=>exact⟨rfl,rfl,HD.out _⟩
  case round=>
   obtain⟨rfl,rfl,HB⟩:=hrel;have hA9:=HA.out.call HB.out;have b4:=hA9.cell 4 _ rfl;have zb:=hA9.lt;clear hA9 a4 a5 a6;go_wp2;go_ret2
   exact⟨rfl,HB.out⟩
 ·have hkl:k≤ends.length:=by omega
  obtain⟨U,hU⟩:=aj (Ln.upto ends te k)
  rw[hU];have HU:=ak hU;clear hA hR hm h0 hU;go_enter Tryz.func150,Tryz.ntmps150
  go_wp2_with fail
  go_quiet (fail)
  go_wp2_with fail
  go_loopw [6,25] (fun v i wr=>∃j:Nat,j≤k∧i=.int .i64 (j:Int)∧v=.int .i64 (Ln.maxs ends fr j)∧Hid (Below w.heap.size w wr)) (fun _ i _=>k - (intOf i).toNat)
  case atStart=>exact⟨0,Nat.zero_le _,rfl,rfl,HD.out _⟩
  case round=>
   obtain⟨j,hj,rfl,rfl,HB⟩:=hrel
   by_cases hlt:j<k
   ·obtain⟨ad',u,e,hab,hu,hcu⟩:=(HR.out.below HB.out).at_ (show j<m by omega);obtain rfl:ad=ad':=by injection e
    obtain⟨x,hx⟩:∃x,ends[j]?=some x:=⟨_,List.getElem?_eq_getElem (by rw[HM.out];omega)⟩
    have hux:u=.int .i64 x:=by
     unfold Ln.i64s at hu;rw[List.getElem?_map,hx] at hu;exact(Option.some.inj hu).symm
    subst hux;have hst:=Ln.maxs_succ ends fr j hx;obtain⟨M,hM⟩:=aj (Ln.maxs ends fr j)
    rw[hM] at hst ⊢;have p1:=am j
    have p2:(j:Int)<(k:Int):=(by omega);have HS:=ak hst;clear hst hM hx hu e;go_wp2;go_roundw
    case rel=>exact⟨j+1,by omega,by go_num,by rw[HS.out],HB.out⟩
    case measure=>simp[intOf];omega
   ·obtain rfl:j=k:=by omega
    have p2:¬(j:Int)<(j:Int):=(by omega);have hA9:=HA.out.call HB.out;have b4:=hA9.cell 4 _ rfl;have zb:=hA9.lt;have HR9:=ak (HR.out.below HB.out);clear hA9 a4 a5 a6
    by_cases hjm:j<m
    ·obtain⟨ad',u,e,hab,hu,hcu⟩:=HR9.out.at_ hjm;obtain rfl:ad=ad':=by injection e
     obtain⟨x,hx⟩:∃x,ends[j]?=some x:=⟨_,List.getElem?_eq_getElem (by rw[HM.out];omega)⟩
     have hux:u=.int .i64 x:=by
      unfold Ln.i64s at hu;rw[List.getElem?_map,hx] at hu;exact(Option.some.inj hu).symm
     subst hux;have hup:Ln.upto ends te j=min te x:=by unfold Ln.upto;rw[hx]
     obtain rfl:U=min te x:=HU.out.symm.trans hup;have p3:(j:Int)<(m:Int):=(by omega);clear hu e hx hup HU;go_wp2;go_ret2
     exact⟨rfl,HB.out⟩
    ·have hup:Ln.upto ends te j=te:=by
      unfold Ln.upto;rw[List.getElem?_eq_none (by rw[HM.out];omega)]
     obtain rfl:U=te:=HU.out.symm.trans hup;have p3:¬(j:Int)<(m:Int):=(by omega);clear hup HU;go_wp2;go_ret2
     exact⟨rfl,HB.out⟩
end Go.Proofs.YtjobhjemnmleaaaGreatDoor
namespace Go.Proofs.YtjobhjemnmleaaaGreatDoor
open Go.RowKit Go.Shelf
attribute [local go_sem] Oper.semAt_some
namespace Ln
def Bk (W:World)(k:Nat)(cs:Array Value)(t:TypeId):Prop:=W.heap[k]?=some (.cells cs t (0,0))
def Ty (W W':World):Prop:=∀(k:Nat) (cs:Array Value) (t:TypeId) (m:Nat × Nat),W.heap[k]?=some (.cells cs t m)→t≠164→t≠61→W'.heap[k]?=W.heap[k]?
structure Kp (n:Nat)(W W':World):Prop where
 below:Below n W W'
 ty:Ty W W'
section
variable {n:Nat} {W W' W'':World} {k:Nat} {cs:Array Value} {t:TypeId}
theorem Bk.lt (h:Bk W k cs t):k<W.heap.size:=(Array.getElem?_eq_some_iff.1 h).1
theorem Bk.new (W:World)(cs:Array Value)(t:TypeId):Bk (W.alloc (.cells cs t)) W.heap.size cs t:=World.alloc_heap_new W _
theorem Bk.call (h:Bk W k cs t)(hb:Below W.heap.size W W'):Bk W' k cs t:=(hb.block k h.lt).trans h
theorem Bk.alloc (h:Bk W k cs t)(o:Obj):Bk (W.alloc o) k cs t:=h.call (al)
theorem Bk.kp (h:Bk W k cs t)(hk:Kp n W W')(h1:t≠164)(h2:t≠61):Bk W' k cs t:=(hk.ty k cs t _ h h1 h2).trans h
theorem Bk.at_ (h:Bk W k cs t):At W k cs.toList:=by
 refine⟨h.lt,fun i v hi=>⟨?_,?_⟩⟩
 ·have:W.heap[k]?=some (.cells cs t (0,0)):=h;simp[World.cell?,this]
  simpa using hi
 ·have:W.heap[k]?=some (.cells cs t (0,0)):=h;simp[World.frozen?,this]
theorem Bk.grown {row:Option Nat}(h:Bk W k cs t)(hg:W.grownBy W' row)(hr:∀r,row=some r→∃o:Obj,W.heap[r]?=some o∧o.isCells=false):Bk W' k cs t:=by
 refine(hg.block k h.lt (fun e=>?_)).trans h;obtain⟨o,ho,hc⟩:=hr k e.symm;rw[show W.heap[k]?=_ from h] at ho;cases ho
 cases hc
theorem Ty.trans (h:Ty W W')(k:Ty W' W''):Ty W W'':=fun i cs t m hi h1 h2=>by
 have e:=h i cs t m hi h1 h2;exact(k i cs t m (e.trans hi) h1 h2).trans e
theorem Ty.of_below (hb:Below W.heap.size W W'):Ty W W':=fun i _ _ _ hi _ _=>hb.block i (Array.getElem?_eq_some_iff.1 hi).1
theorem Kp.refl (n:Nat)(W:World):Kp n W W:=⟨Below.refl _ _,fun _ _ _ _ _ _ _=>rfl⟩
theorem Kp.trans (h:Kp n W W')(k:Kp n W' W''):Kp n W W'':=⟨h.below.trans k.below,h.ty.trans k.ty⟩
theorem Kp.of_below (hb:Below W.heap.size W W')(hn:n≤W.heap.size):Kp n W W':=⟨hb.mono hn,Ty.of_below hb⟩
theorem Kp.then_ (h:Kp n W W')(hb:Below W'.heap.size W' W'')(hn:n≤W.heap.size):Kp n W W'':=h.trans (Kp.of_below hb (Nat.le_trans hn h.below.size))
theorem Kp.put {w:World}(hn:n≤w.heap.size)(W:World)(l:Nat)(o o':Obj)(hl:w.heap.size≤l)(h:W.heap[l]?=some o)(hc:o.isCells=false)(_:o.isWalk=false):Kp n W (W.putObj l o'):=by
 refine⟨(Below.refl n W).grown (grownBy_putObj' W l o') (by have:=(Array.getElem?_eq_some_iff.1 h).1;omega) (fun k e=>by cases e;omega),fun i cs t m hi _ _=>?_⟩;refine World.putObj_heap_other (fun e=>?_);subst e;rw[h] at hi;cases hi
 cases hc
end
structure Dr (s:Src.S)(rv zv lv:Value)(evs:List Value)(z:Int)(eA:Option Addr)(m ec:Nat)(fr te:Int)(gd:Nat)(w0:World):Prop where
 src:Src.SrcR w0 w0.heap.size s rv zv lv evs
 at_:At w0 gd [rv,zv,lv,.int .i64 z,.slice eA m ec,.int .i64 fr,.int .i64 te]
 wo:Wo w0
 ok:Eg.RulesOk s.rules
 wc:∀r∈s.rules,0≤r.c
theorem Dr.call {s:Src.S}{rv zv lv:Value}{evs:List Value}{z:Int}{eA:Option Addr}{m ec:Nat}{fr te:Int}{gd:Nat}{w0 w:World}(h:Dr s rv zv lv evs z eA m ec fr te gd w0)(hb:Below w0.heap.size w0 w):Dr s rv zv lv evs z eA m ec fr te gd w:=
 ⟨h.src.call hb,h.at_.call hb,h.wo.below hb,h.ok,h.wc⟩
structure EB (bE bF bD bT gd n:Nat)(e:Er.E)(fr te:Int)(w0 W:World):Prop where
 below:Below n w0 W
 e:Bk W bE e.cells.toArray 191
 f:Bk W bF #[.int .i64 fr] 2
 d:Bk W bD #[.pointer (some ⟨gd,0,none⟩)] 221
 t:Bk W bT #[.int .i64 te] 2
theorem EB.call {bE bF bD bT gd n:Nat}{e:Er.E}{fr te:Int}{w0 W W':World}(h:EB bE bF bD bT gd n e fr te w0 W)(hb:Below W.heap.size W W')(hn:n≤w0.heap.size):EB bE bF bD bT gd n e fr te w0 W':=
 ⟨h.below.trans (hb.mono (Nat.le_trans hn h.below.size)),h.e.call hb,h.f.call hb,h.d.call hb,h.t.call hb⟩
theorem EB.kp {bE bF bD bT gd n:Nat}{e:Er.E}{fr te:Int}{w0 W W':World}(h:EB bE bF bD bT gd n e fr te w0 W)(hk:Kp n W W'):EB bE bF bD bT gd n e fr te w0 W':=
 ⟨h.below.trans hk.below,h.e.kp hk (by decide) (by decide),h.f.kp hk (by decide) (by decide),h.d.kp hk (by decide) (by decide),h.t.kp hk (by decide) (by decide)⟩
theorem own_kp {n base:Nat}{W W':World}{e:TypeId}{size k:Nat}{v:Value}{xs:List Value}(h:W.ownsRow base e size v k xs)(hk:Kp n W W')(h1:e≠164)(h2:e≠61):W'.ownsRow base e size v k xs:=by
 refine⟨h.1,?_⟩;rcases h.2 with hn|⟨g,cap,cur,hv,hb,hg,rest⟩
 ·exact .inl hn
 ·exact .inr ⟨g,cap,cur,hv,hb,(hk.ty g cur e _ hg h1 h2).trans hg,rest⟩
def OcOk (std:Int)(o:Oc.E):Prop:=0≤o.c∧IsTime o.sv∧(Mo.ins o.n o.c std o.bf).2=0
theorem oc_ok {rules:List Ru.R}{std lo hi:Int}(hr:Eg.RulesOk rules)(hc:∀r∈rules,0≤r.c)(hs:IsTime std):∀o∈Oc.of rules lo hi,OcOk std o:=by
 intro o ho;unfold Oc.of at ho;obtain⟨e,he,rfl⟩:=List.mem_map.1 ho;have hev:Oc.Ev rules e:=((Oc.mem_ofU e).1 ((Oc.mem_isort e _).1 he)).1;obtain⟨i1,i2,_⟩:=hev.inT;have hb:=Oc.before_is hr.time hev;have h3:=(Oc.ins_ok i1 i2 hs hb).1;obtain⟨r,h4,h5,h6⟩:=hev;have hm:=List.mem_of_getElem? h4;refine⟨?_,?_,h3⟩
 ·show 0≤e.c
  rw[h6];exact hc r hm
 ·show IsTime e.sv
  rw[h6];exact hr.time r hm
end Ln
end Go.Proofs.YtjobhjemnmleaaaGreatDoor
namespace Go.Proofs.YtjobhjemnmleaaaGreatDoor
open Go.RowKit Go.Shelf
attribute [local go_sem] Oper.semAt_some
theorem inEra_any (gd:Nat)(e:Er.E)(fr te:Int)(w:World):
  Calls Tryz.prog 151 #[.pointer (some ⟨gd,0,none⟩),e.v,.int .i64 fr,.int .i64 te] w fun r w'=>r=.returned (.func (.func 185) #[] #[.pointer (some ⟨w.heap.size+1,0,none⟩),.pointer (some ⟨w.heap.size+2,0,none⟩),.pointer (some ⟨w.heap.size,0,none⟩),.pointer (some ⟨w.heap.size+3,0,none⟩)])∧
   ((((w.alloc (.cells #[.pointer (some ⟨gd,0,none⟩)] 221)).alloc (.cells e.cells.toArray 191)).alloc (.cells #[.int .i64 fr] 2)).alloc (.cells #[.int .i64 te] 2))=w':=by
 unfold Er.E.v Er.E.cells;go_enter Tryz.func151,Tryz.ntmps151
 go_wp2;go_ret
 exact⟨rfl,rfl⟩
namespace Ln
def SqRet (xs:List Sp)(JY JX:List Sp→World→Prop)(e:Ending)(W':World):Prop:=
 (∃v,e=.returned v)∧((∃ys,ys=xs∧JY ys W')∨(∃pre:List Sp,True∧JX pre W'))
def Yd (n:Nat)(JY JX:List Sp→World→Prop)(pre:List Sp)(x:Sp)(W:World)(e:Ending)(W':World):Prop:=
 ∃b,e=.returned (.bool b)∧((b=true∧JY (pre ++ [x]) W'∧Kp n W W')∨(b=false∧JX (pre ++ [x]) W'))
end Ln
theorem inEra1_one (n:Nat)(l bE bF bD bT gd n₀:Nat)(e:Er.E)(fr te:Int)(w0:World)(JY JX:List Ln.Sp→World→Prop)
  (hk:e.k≠2) (h1:IsTime e.std) (h2:IsTime e.sv)
  (hY:∀pre x W,JY pre W→pre.length<1→YieldAt Fence.wide n Tryz.prog l #[x.v] W (Ln.Yd n₀ JY JX pre x W))
  (hJ:∀pre W W',JY pre W→Below W.heap.size W W'→JY pre W')
  (W:World) (hB:Ln.EB bE bF bD bT gd n₀ e fr te w0 W) (h0:JY [] W):
  CallsIn Fence.wide (n+1) Tryz.prog 185 #[.func (.yield l) #[] #[],.pointer (some ⟨bE,0,none⟩),.pointer (some ⟨bF,0,none⟩),.pointer (some ⟨bD,0,none⟩),.pointer (some ⟨bT,0,none⟩)] W (Ln.SqRet [Ln.piece fr e.std e.sv] JY JX):=by
 obtain⟨std,ek,esv,ru,fm,en,⟨y,m,dk,dn,dd,sc,cc⟩⟩:=e;simp only at hk h1 h2 ⊢;have hA:=hB.e.at_;have e0:=hA.cell 0 _ rfl;have e1:=hA.cell 1 _ rfl;have e2:=hA.cell 2 _ rfl;have f0:=hB.f.at_.cell 0 _ rfl;have z1:=hB.e.lt;have z2:=hB.f.lt;have k1:(ek != 2)=true:=by simpa using hk
 have HP:=ak fun W=>lnPiece_any fr std esv W h1 h2
 obtain⟨p,hp⟩:=aj (Ln.piece fr std esv)
 rw[hp] at HP ⊢;have HY:=ak fun W hW=>hY [] p W hW (Nat.lt_succ_self 0)
 have HJ:=ak fun W' hb=>hJ [] W W' h0 hb
 unfold Ln.Sp.v at HP HY;clear hk h1 h2 hY hJ hB hA h0 hp;refine callsIn_of_wp Tryz.func185 rfl trivial ?_ rfl;simp only[Tryz.ntmps185,List.size_toArray,List.length_cons,List.length_nil,Nat.reduceAdd,Nat.reduceSub,Array.replicate_succ,Array.replicate_zero,List.push_toArray,List.append_toArray,List.nil_append,List.cons_append]
 gi_wp2_with fail
 refine⟨trivial,(callsIn_wide.2 (HP.out _)).mono ?_⟩;rintro e w3 ⟨rfl,hb3⟩;obtain⟨fn,tmps,assign,body,hy,hR⟩:=HY.out _ (HJ.out _ hb3);clear hb3
 gi_wp2_with fail
 refine hR.mono ?_;rintro e W3 ⟨b,rfl,hres⟩;have HRes:=ak hres;clear hres
 gi_wp2
 refine bodyPost_ret (results_none rfl _ _ _) rfl ⟨⟨_,rfl⟩,?_⟩;rcases HRes.out with ⟨rfl,h1,_⟩|⟨rfl,h1⟩
 ·exact .inl ⟨_,rfl,h1⟩
 ·exact .inr ⟨_,trivial,h1⟩
end Go.Proofs.YtjobhjemnmleaaaGreatDoor
