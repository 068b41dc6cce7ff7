/- occur.Last: the last occurrence ahead of a nominal time. -/
import Derived.Test.YtjobhjemnmleaaaGreatDoorR17
set_option maxRecDepth 200000
set_option maxHeartbeats 16000000
namespace Go.Proofs.YtjobhjemnmleaaaGreatDoor
open Go.RowKit
namespace Oc
def E.ozero : List Value:=[.int .i64 0,.int .u8 0,.int .i64 0,.int .i64 0,.string ⟨#[]⟩]
def topOf (n:Int):Int:=if -719162≤n / 86400∧n / 86400<2932897 then min (Cv.yearOf (n / 86400)+1) 9999 else if n<0 then 1 else 9999
def lastN (l:List Ru.R)(n:Int):Option E:=last l (topOf n) fun o=>decide (o.n<n)
def lastT (l:List Ru.R)(n:Int):E:=((lastN l n).map (tell l)).getD E.zero
theorem down_n {l:List Ru.R}(n:Int):Down l (fun o=>decide (o.n<n)):=fun a b _ _ h k=>by
 rw[decide_eq_true_eq] at *;rw[less_iff] at h;omega
theorem topOf_bd (n:Int):0≤topOf n∧topOf n≤10000:=by
 unfold topOf;split
 ·rename_i h
  obtain⟨h1,h2⟩:=year_in (n / 86400) h.1 h.2;omega
 ·split <;> omega
theorem lst_results {tmps:Array Value}{w:World}{g:Nat}{e:E}{t:Bool}(h4:tmps[4]?.getD undef=.pointer (some ⟨g,0,none⟩))(h5:tmps[5]?.getD undef=.bool t)(hA:At w g e.occ):
  (results Tryz.f147 tmps).run Tryz.prog w=.ok (.tuple #[e.occv,.bool t]) w:=by
 have c0:=hA.cell 0 _ rfl;have c1:=hA.cell 1 _ rfl;have c2:=hA.cell 2 _ rfl;have c3:=hA.cell 3 _ rfl;have c4:=hA.cell 4 _ rfl;unfold E.occv;simp[results,Tryz.results147,go_sem,h4,h5,c0,c1,c2,c3,c4]
theorem At.fiveO {w:World}{g:Nat}{a b c d e:Value}(h:At w g [a,b,c,d,e]):(w.cell? ⟨g,0,none⟩=some a∧w.cell? ⟨g,1,none⟩=some b∧w.cell? ⟨g,2,none⟩=some c∧w.cell? ⟨g,3,none⟩=some d∧w.cell? ⟨g,4,none⟩=some e)∧
  w.frozen? ⟨g,0,none⟩=false∧w.frozen? ⟨g,1,none⟩=false∧w.frozen? ⟨g,2,none⟩=false∧w.frozen? ⟨g,3,none⟩=false∧w.frozen? ⟨g,4,none⟩=false:=
 ⟨⟨h.cell 0 _ rfl,h.cell 1 _ rfl,h.cell 2 _ rfl,h.cell 3 _ rfl,h.cell 4 _ rfl⟩,h.free 0 _ rfl,h.free 1 _ rfl,h.free 2 _ rfl,h.free 3 _ rfl,h.free 4 _ rfl⟩
end Oc
theorem lstC_any (o:Oc.E)(n:Int)(h3:Nat)(w:World)(hc:w.cell? ⟨h3,0,none⟩=some (.int .i64 n)):
  Calls Tryz.prog 183 #[o.v,.pointer (some ⟨h3,0,none⟩)] w fun r w'=>r=.returned (.bool (decide (o.n<n)))∧Below w.heap.size w w':=by
 have z:=block_lt_of_cell hc;have HB:=ak ((Below.refl w.heap.size w).alloc (Nat.le_refl _) (.cells #[.int .i64 o.n,.int .u8 o.c,.int .i64 o.sv,.int .i64 o.bf,.string o.lt,.int .i64 o.pl,.int .i64 o.y] 314));unfold Oc.E.v;go_enter Tryz.func183,Tryz.ntmps183
 go_wp2;go_ret
 exact⟨rfl,HB.out⟩
theorem ocLast_any (l:List Ru.R)(rA:Option Addr)(rc:Nat)(n:Int)(w:World)(hR:Reads w w.heap.size 11 rA l.length (l.flatMap Ru.R.cells))(hok:∀r∈l,r.Ok∧r.nm.size≤1000000∧r.lt.size≤1000000)(hW:Wo w)(hl:l.length≤4096)(hn:-9223372036854775808≤n∧n≤9223372036854775807):
  Calls Tryz.prog 147 #[.slice rA l.length rc,.int .i64 n] w fun e w'=>e=.returned (.tuple #[(Oc.lastT l n).occv,.bool (Oc.lastN l n).isSome])∧Below w.heap.size w w':=by
 have ec:=enters_of Tryz.func183 (by kernel_rfl) rfl;obtain⟨h,hh⟩:=aj (w.heap.size)
 obtain⟨W2,hW2⟩:=aj ((w.alloc (.cells #[.int .i64 n] 2)).alloc (.cells #[.int .i64 0,.int .u8 0,.int .i64 0,.int .i64 0,.string ⟨#[]⟩] 272))
 have hb2:Below w.heap.size w W2:=by rw[← hW2];exact(al).alloc (by simp) _
 have hA3:At W2 h [.int .i64 n]:=by rw[← hW2,← hh];exact(At.new w #[.int .i64 n] 2).allocO _
 have hA4:At W2 (h+1) Oc.E.ozero:=by
  have:=At.new (w.alloc (.cells #[.int .i64 n] 2)) #[.int .i64 0,.int .u8 0,.int .i64 0,.int .i64 0,.string ⟨#[]⟩] 272;rw[hW2,World.size_alloc,hh] at this;exact this
 have hMk:=ocOf_any l rA rc W2 ((hR.below hb2).more hb2.size) hok (hW.below hb2) hl;have HA3:=ak hA3;have HA4:=ak hA4;have HB2:=ak hb2;have HMk:=ak hMk;have HW:=ak hW;have HH:=ak hh;have HW2:=ak hW2;have hsv:∀r∈l,r.Ok:=fun r hr=>(hok r hr).1
 clear hR hok hW hh hW2 hb2 hA3 hA4 hMk;obtain⟨NL,hNL⟩:=aj (l.length)
 have HNL:=ak hNL;rw[hNL] at HMk ⊢;clear hNL;unfold Oc.MkRet at HMk;obtain⟨O,hO⟩:=aj (Oc.lastN l n)
 unfold Oc.lastT;rw[hO];unfold Oc.lastN at hO;have HO:=ak hO;clear hO
 by_cases hd:-719162≤n / 86400∧n / 86400<2932897
 ·have htop:min (Cv.yearOf (n / 86400)+1) 9999=Oc.topOf n:=by unfold Oc.topOf;rw[if_pos hd]
  have htb:=Oc.topOf_bd n;obtain⟨hy1,hy2⟩:=year_in (n / 86400) hd.1 hd.2;have HY:=ak fun W=>year_ok n W hd.1 hd.2
  obtain⟨Y,hY⟩:=aj (Cv.yearOf (n / 86400))
  rw[hY] at htop hy1 hy2 HY;clear hd hY;cases O with
  |none=>
   go_enter Tryz.func147,Tryz.ntmps147
   go_wp2_with fail
   rw[HH.out,HW2.out];refine HMk.out.mono ?_;rintro e w3 ⟨g,b,pA,pc,rfl,hM,hb3,hwb⟩;have hB3:=below_then HB2.out hb3;have HM3:=ak hM;have HB3:=ak hB3;have HA3:=ak (HA3.out.call hb3);have HA4:=ak (HA4.out.call hb3);have hbb:w.heap.size≤b:=Nat.le_trans HB2.out.size hwb;have HBB:=ak hbb;have c3:=HA3.out.cell 0 _ rfl;have z3:=HA3.out.lt;clear hM hb3 hwb hB3 hbb;go_wp2_with fail
   refine(HY.out _).mono ?_;rintro e w4 ⟨rfl,hb4⟩;have hB4:=below_then HB3.out hb4;have HM4:=ak (HM3.out.below hb4);have HB4:=ak hB4;have HA3:=ak (HA3.out.call hb4);have HA4:=ak (HA4.out.call hb4);have c3:=HA3.out.cell 0 _ rfl;have z3:=HA3.out.lt;have hL:=last_any l rA pA rc pc g b (Oc.topOf n) (fun o=>decide (o.n<n)) 183 #[.pointer (some ⟨h,0,none⟩)] w4 HM4.out (fun _ _=>trivial) (HW.out.below hB4) hl htb ec (fun W hg o _=>lstC_any o n h W (HM4.out.memo.cell c3 hg)) (Oc.down_n n);rw[HO.out] at hL;unfold Oc.LastRet at hL;have HL:=ak hL;clear hb4 hB4 hL;go_wp2_with fail
   refine HL.out.mono ?_;rintro e w5 ⟨rfl,hM5,hg5⟩;have hA4:=HM4.out.memo.at_ (x:=.int .i64 0) HA4.out hg5;obtain⟨⟨y0,y1,y2,y3,y4⟩,k0,k1,k2,k3,k4⟩:=Oc.At.fiveO hA4;have yz:=hA4.lt;have HA4:=ak hA4;have HG5:=ak (gb_then (grown_of_ HB4.out (some b)) hg5 (fun j hj=>.inr hj));have HB5:=ak (show Below w.heap.size w w5 from⟨HG5.out.os,HG5.out.tape,HG5.out.output,HG5.out.size,fun j hj=>HG5.out.block j hj (fun e=>by injection e with e;have:=HBB.out;omega)⟩);clear hM5 hg5 hA4;simp only[Option.getD_none,Option.isSome_none];unfold Oc.E.v Oc.E.zero;go_wp2;have hA9:=HA4.out;have hB9:=HB5.out;exact bodyPost_ret (Oc.lst_results (e:=Oc.E.zero) rfl rfl ((((((hA9.set 0 (.int .i64 0)).set 1 (.int .u8 0)).set 2 (.int .i64 0)).set 3 (.int .i64 0)).set 4 (.string ⟨#[]⟩)).allocO _)) rfl ⟨rfl,((((((hB9.setCell (p:=⟨h+1,0,none⟩) (by show w.heap.size≤h+1;have:=HH.out;omega) _).setCell (p:=⟨h+1,1,none⟩) (by show w.heap.size≤h+1;have:=HH.out;omega) _).setCell (p:=⟨h+1,2,none⟩) (by show w.heap.size≤h+1;have:=HH.out;omega) _).setCell (p:=⟨h+1,3,none⟩) (by show w.heap.size≤h+1;have:=HH.out;omega) _).setCell (p:=⟨h+1,4,none⟩) (by show w.heap.size≤h+1;have:=HH.out;omega) _)).alloc (by simp only[heap_set];exact hB9.size) _⟩
  |some e0=>
   have hev:Oc.Ev l e0:=by
    have:=Oc.last_is l (top:=Oc.topOf n) (fun o=>decide (o.n<n)) (Oc.topOf_bd n).1;rw[show Oc.last l (Oc.topOf n) (fun o=>decide (o.n<n))=some e0 from HO.out] at this;exact this.1
   have HEv:=ak hev;clear hev;go_enter Tryz.func147,Tryz.ntmps147
   go_wp2_with fail
   rw[HH.out,HW2.out];refine HMk.out.mono ?_;rintro e w3 ⟨g,b,pA,pc,rfl,hM,hb3,hwb⟩;have hB3:=below_then HB2.out hb3;have HM3:=ak hM;have HB3:=ak hB3;have HA3:=ak (HA3.out.call hb3);have HA4:=ak (HA4.out.call hb3);have hbb:w.heap.size≤b:=Nat.le_trans HB2.out.size hwb;have HBB:=ak hbb;have c3:=HA3.out.cell 0 _ rfl;have z3:=HA3.out.lt;clear hM hb3 hwb hB3 hbb;go_wp2_with fail
   refine(HY.out _).mono ?_;rintro e w4 ⟨rfl,hb4⟩;have hB4:=below_then HB3.out hb4;have HM4:=ak (HM3.out.below hb4);have HB4:=ak hB4;have HA3:=ak (HA3.out.call hb4);have HA4:=ak (HA4.out.call hb4);have c3:=HA3.out.cell 0 _ rfl;have z3:=HA3.out.lt;have hL:=last_any l rA pA rc pc g b (Oc.topOf n) (fun o=>decide (o.n<n)) 183 #[.pointer (some ⟨h,0,none⟩)] w4 HM4.out (fun _ _=>trivial) (HW.out.below hB4) hl htb ec (fun W hg o _=>lstC_any o n h W (HM4.out.memo.cell c3 hg)) (Oc.down_n n);rw[HO.out] at hL;unfold Oc.LastRet at hL;have HL:=ak hL;clear hb4 hB4 hL;go_wp2_with fail
   refine HL.out.mono ?_;rintro e w5 ⟨rfl,hM5,hg5⟩;have hA4:=HM4.out.memo.at_ (x:=.int .i64 0) HA4.out hg5;have hG5:=gb_then (grown_of_ HB4.out (some b)) hg5 (fun j hj=>.inr hj);obtain⟨W7,hW7⟩:=aj ((w5.alloc (.cells #[.int .i64 e0.n,.int .u8 e0.c,.int .i64 e0.sv,.int .i64 e0.bf,.string e0.lt,.int .i64 e0.pl,.int .i64 e0.y] 314)).alloc (.cells #[.int .i64 e0.n,.int .u8 e0.c,.int .i64 e0.sv,.int .i64 e0.bf,.string e0.lt,.int .i64 e0.pl,.int .i64 e0.y] 314))
   have hb7:Below w5.heap.size w5 W7:=by rw[← hW7];exact(al).alloc (by simp) _
   have hR7:Reads W7 W7.heap.size 7 (some ⟨w5.heap.size+1,0,none⟩) [e0].length ([e0].flatMap Oc.E.cells):=by
    have:=reads_cells_at (w5.alloc (.cells #[.int .i64 e0.n,.int .u8 e0.c,.int .i64 e0.sv,.int .i64 e0.bf,.string e0.lt,.int .i64 e0.pl,.int .i64 e0.y] 314)) (w5.heap.size+1) #[.int .i64 e0.n,.int .u8 e0.c,.int .i64 e0.sv,.int .i64 e0.bf,.string e0.lt,.int .i64 e0.pl,.int .i64 e0.y] 7 314 (by simp) rfl;rw[hW7] at this;rw[List.flatMap_cons,List.flatMap_nil,List.append_nil];exact this
   have hTd:=told_any l rA pA rc pc g b [e0] (some ⟨w5.heap.size+1,0,none⟩) 1 W7 (hM5.below hb7) ((HW.out.below HB4.out).cells (fun p v hc=>(hb7.cell (block_lt_of_cell (HM4.out.memo.cell hc hg5))).trans (HM4.out.memo.cell hc hg5))) hl (by simp) (fun x hx=>by
    rw[List.mem_singleton] at hx;rw[hx];exact HEv.out) hR7
   have HTd:=ak hTd;have HM7:=ak (hM5.below hb7);have HA4:=ak (hA4.call hb7);have HG7:=ak (Oc.gb_below hG5 hb7);have HW7:=ak hW7;clear hM5 hg5 hA4 hG5 hb7 hR7 hTd hW7;simp only[Option.getD_some,Option.isSome_some];unfold Oc.E.v;go_wp2_with fail
   rw[HW7.out];refine HTd.out.mono ?_;rintro e w8 ⟨v,rfl,hO8,hM8,hg8⟩;obtain⟨vA,vc,rfl,_⟩:=own_slice hO8;have hlt8:=hO8.lt;obtain⟨ad,x8,rfl,hab8,Hx8,HLc8⟩:=Ix.reads_cells (enc:=Oc.E.occ) (m:=5) (fun _=>rfl) rfl (Reads.of_own (by simpa using hO8)) (show 0<([e0].map (Oc.tell l)).length from Nat.succ_pos 0);obtain rfl:Oc.tell l e0=x8:=by
    have:=Hx8.out;simpa using this
   have hz:ad.add (0*5)=ad:=by
    show ad.add 0=ad
    unfold Addr.add;rw[if_pos rfl]
   have x0:w8.cell? ad=some (.int .i64 e0.n):=by have:=HLc8.out 0 _ rfl;rwa[hz] at this
   have x1:w8.cell? ⟨ad.block,ad.off+1,none⟩=some (.int .u8 e0.c):=by have:=HLc8.out 1 _ rfl;rwa[hz] at this
   have x2:w8.cell? ⟨ad.block,ad.off+2,none⟩=some (.int .i64 e0.sv):=by have:=HLc8.out 2 _ rfl;rwa[hz] at this
   have x3:w8.cell? ⟨ad.block,ad.off+3,none⟩=some (.int .i64 (Oc.before l e0)):=by have:=HLc8.out 3 _ rfl;rwa[hz] at this
   have x4:w8.cell? ⟨ad.block,ad.off+4,none⟩=some (.string e0.lt):=by have:=HLc8.out 4 _ rfl;rwa[hz] at this
   have hA4:=HM7.out.memo.at_ (x:=.int .i64 0) HA4.out hg8;obtain⟨⟨y0,y1,y2,y3,y4⟩,k0,k1,k2,k3,k4⟩:=Oc.At.fiveO hA4;have yz:=hA4.lt;have HA4:=ak hA4;have HG8:=ak (gb_then HG7.out hg8 (fun j hj=>.inr hj));have HB8:=ak (show Below w.heap.size w w8 from⟨HG8.out.os,HG8.out.tape,HG8.out.output,HG8.out.size,fun j hj=>HG8.out.block j hj (fun e=>by injection e with e;have:=HBB.out;omega)⟩);clear hO8 hM8 hg8 hA4 hz hlt8;go_wp2;have hA9:=HA4.out;have hB9:=HB8.out;exact bodyPost_ret (Oc.lst_results (e:=Oc.tell l e0) rfl rfl (((((hA9.set 0 (.int .i64 e0.n)).set 1 (.int .u8 e0.c)).set 2 (.int .i64 e0.sv)).set 3 (.int .i64 (Oc.before l e0))).set 4 (.string e0.lt))) rfl ⟨rfl,(((((hB9.setCell (p:=⟨h+1,0,none⟩) (by show w.heap.size≤h+1;have:=HH.out;omega) _).setCell (p:=⟨h+1,1,none⟩) (by show w.heap.size≤h+1;have:=HH.out;omega) _).setCell (p:=⟨h+1,2,none⟩) (by show w.heap.size≤h+1;have:=HH.out;omega) _).setCell (p:=⟨h+1,3,none⟩) (by show w.heap.size≤h+1;have:=HH.out;omega) _).setCell (p:=⟨h+1,4,none⟩) (by show w.heap.size≤h+1;have:=HH.out;omega) _)⟩
 ·have HY:=ak fun W=>year_bad n W hn.1 hn.2 hd
  have htb:=Oc.topOf_bd n
  by_cases hn0:n<0
  ·have htop:(1:Int)=Oc.topOf n:=by unfold Oc.topOf;rw[if_neg hd,if_pos hn0]
   rw[← htop] at htb HO;clear hd htop;cases O with
   |none=>
    go_enter Tryz.func147,Tryz.ntmps147
    go_wp2_with fail
    rw[HH.out,HW2.out];refine HMk.out.mono ?_;rintro e w3 ⟨g,b,pA,pc,rfl,hM,hb3,hwb⟩;have hB3:=below_then HB2.out hb3;have HM3:=ak hM;have HB3:=ak hB3;have HA3:=ak (HA3.out.call hb3);have HA4:=ak (HA4.out.call hb3);have hbb:w.heap.size≤b:=Nat.le_trans HB2.out.size hwb;have HBB:=ak hbb;have c3:=HA3.out.cell 0 _ rfl;have z3:=HA3.out.lt;clear hM hb3 hwb hB3 hbb;go_wp2_with fail
    refine(HY.out _).mono ?_;rintro e w4 ⟨rfl,hb4⟩;have hB4:=below_then HB3.out hb4;have HM4:=ak (HM3.out.below hb4);have HB4:=ak hB4;have HA3:=ak (HA3.out.call hb4);have HA4:=ak (HA4.out.call hb4);have c3:=HA3.out.cell 0 _ rfl;have z3:=HA3.out.lt;have hL:=last_any l rA pA rc pc g b 1 (fun o=>decide (o.n<n)) 183 #[.pointer (some ⟨h,0,none⟩)] w4 HM4.out (fun _ _=>trivial) (HW.out.below hB4) hl htb ec (fun W hg o _=>lstC_any o n h W (HM4.out.memo.cell c3 hg)) (Oc.down_n n);rw[HO.out] at hL;unfold Oc.LastRet at hL;have HL:=ak hL;clear hb4 hB4 hL;go_wp2_with fail
    refine HL.out.mono ?_;rintro e w5 ⟨rfl,hM5,hg5⟩;have hA4:=HM4.out.memo.at_ (x:=.int .i64 0) HA4.out hg5;obtain⟨⟨y0,y1,y2,y3,y4⟩,k0,k1,k2,k3,k4⟩:=Oc.At.fiveO hA4;have yz:=hA4.lt;have HA4:=ak hA4;have HG5:=ak (gb_then (grown_of_ HB4.out (some b)) hg5 (fun j hj=>.inr hj));have HB5:=ak (show Below w.heap.size w w5 from⟨HG5.out.os,HG5.out.tape,HG5.out.output,HG5.out.size,fun j hj=>HG5.out.block j hj (fun e=>by injection e with e;have:=HBB.out;omega)⟩);clear hM5 hg5 hA4;simp only[Option.getD_none,Option.isSome_none];unfold Oc.E.v Oc.E.zero;go_wp2;have hA9:=HA4.out;have hB9:=HB5.out;exact bodyPost_ret (Oc.lst_results (e:=Oc.E.zero) rfl rfl ((((((hA9.set 0 (.int .i64 0)).set 1 (.int .u8 0)).set 2 (.int .i64 0)).set 3 (.int .i64 0)).set 4 (.string ⟨#[]⟩)).allocO _)) rfl ⟨rfl,((((((hB9.setCell (p:=⟨h+1,0,none⟩) (by show w.heap.size≤h+1;have:=HH.out;omega) _).setCell (p:=⟨h+1,1,none⟩) (by show w.heap.size≤h+1;have:=HH.out;omega) _).setCell (p:=⟨h+1,2,none⟩) (by show w.heap.size≤h+1;have:=HH.out;omega) _).setCell (p:=⟨h+1,3,none⟩) (by show w.heap.size≤h+1;have:=HH.out;omega) _).setCell (p:=⟨h+1,4,none⟩) (by show w.heap.size≤h+1;have:=HH.out;omega) _)).alloc (by simp only[heap_set];exact hB9.size) _⟩
   |some e0=>
    have hev:Oc.Ev l e0:=by
     have:=Oc.last_is l (top:=1) (fun o=>decide (o.n<n)) (by decide);rw[show Oc.last l 1 (fun o=>decide (o.n<n))=some e0 from HO.out] at this;exact this.1
    have HEv:=ak hev;clear hev;go_enter Tryz.func147,Tryz.ntmps147
    go_wp2_with fail
    rw[HH.out,HW2.out];refine HMk.out.mono ?_;rintro e w3 ⟨g,b,pA,pc,rfl,hM,hb3,hwb⟩;have hB3:=below_then HB2.out hb3;have HM3:=ak hM;have HB3:=ak hB3;have HA3:=ak (HA3.out.call hb3);have HA4:=ak (HA4.out.call hb3);have hbb:w.heap.size≤b:=Nat.le_trans HB2.out.size hwb;have HBB:=ak hbb;have c3:=HA3.out.cell 0 _ rfl;have z3:=HA3.out.lt;clear hM hb3 hwb hB3 hbb;go_wp2_with fail
    refine(HY.out _).mono ?_;rintro e w4 ⟨rfl,hb4⟩;have hB4:=below_then HB3.out hb4;have HM4:=ak (HM3.out.below hb4);have HB4:=ak hB4;have HA3:=ak (HA3.out.call hb4);have HA4:=ak (HA4.out.call hb4);have c3:=HA3.out.cell 0 _ rfl;have z3:=HA3.out.lt;have hL:=last_any l rA pA rc pc g b 1 (fun o=>decide (o.n<n)) 183 #[.pointer (some ⟨h,0,none⟩)] w4 HM4.out (fun _ _=>trivial) (HW.out.below hB4) hl htb ec (fun W hg o _=>lstC_any o n h W (HM4.out.memo.cell c3 hg)) (Oc.down_n n);rw[HO.out] at hL;unfold Oc.LastRet at hL;have HL:=ak hL;clear hb4 hB4 hL;go_wp2_with fail
    refine HL.out.mono ?_;rintro e w5 ⟨rfl,hM5,hg5⟩;have hA4:=HM4.out.memo.at_ (x:=.int .i64 0) HA4.out hg5;have hG5:=gb_then (grown_of_ HB4.out (some b)) hg5 (fun j hj=>.inr hj);obtain⟨W7,hW7⟩:=aj ((w5.alloc (.cells #[.int .i64 e0.n,.int .u8 e0.c,.int .i64 e0.sv,.int .i64 e0.bf,.string e0.lt,.int .i64 e0.pl,.int .i64 e0.y] 314)).alloc (.cells #[.int .i64 e0.n,.int .u8 e0.c,.int .i64 e0.sv,.int .i64 e0.bf,.string e0.lt,.int .i64 e0.pl,.int .i64 e0.y] 314))
    have hb7:Below w5.heap.size w5 W7:=by rw[← hW7];exact(al).alloc (by simp) _
    have hR7:Reads W7 W7.heap.size 7 (some ⟨w5.heap.size+1,0,none⟩) [e0].length ([e0].flatMap Oc.E.cells):=by
     have:=reads_cells_at (w5.alloc (.cells #[.int .i64 e0.n,.int .u8 e0.c,.int .i64 e0.sv,.int .i64 e0.bf,.string e0.lt,.int .i64 e0.pl,.int .i64 e0.y] 314)) (w5.heap.size+1) #[.int .i64 e0.n,.int .u8 e0.c,.int .i64 e0.sv,.int .i64 e0.bf,.string e0.lt,.int .i64 e0.pl,.int .i64 e0.y] 7 314 (by simp) rfl;rw[hW7] at this;rw[List.flatMap_cons,List.flatMap_nil,List.append_nil];exact this
    have hTd:=told_any l rA pA rc pc g b [e0] (some ⟨w5.heap.size+1,0,none⟩) 1 W7 (hM5.below hb7) ((HW.out.below HB4.out).cells (fun p v hc=>(hb7.cell (block_lt_of_cell (HM4.out.memo.cell hc hg5))).trans (HM4.out.memo.cell hc hg5))) hl (by simp) (fun x hx=>by
     rw[List.mem_singleton] at hx;rw[hx];exact HEv.out) hR7
    have HTd:=ak hTd;have HM7:=ak (hM5.below hb7);have HA4:=ak (hA4.call hb7);have HG7:=ak (Oc.gb_below hG5 hb7);have HW7:=ak hW7;clear hM5 hg5 hA4 hG5 hb7 hR7 hTd hW7;simp only[Option.getD_some,Option.isSome_some];unfold Oc.E.v;go_wp2_with fail
    rw[HW7.out];refine HTd.out.mono ?_;rintro e w8 ⟨v,rfl,hO8,hM8,hg8⟩;obtain⟨vA,vc,rfl,_⟩:=own_slice hO8;have hlt8:=hO8.lt;obtain⟨ad,x8,rfl,hab8,Hx8,HLc8⟩:=Ix.reads_cells (enc:=Oc.E.occ) (m:=5) (fun _=>rfl) rfl (Reads.of_own (by simpa using hO8)) (show 0<([e0].map (Oc.tell l)).length from Nat.succ_pos 0);obtain rfl:Oc.tell l e0=x8:=by
     have:=Hx8.out;simpa using this
    have hz:ad.add (0*5)=ad:=by
     show ad.add 0=ad
     unfold Addr.add;rw[if_pos rfl]
    have x0:w8.cell? ad=some (.int .i64 e0.n):=by have:=HLc8.out 0 _ rfl;rwa[hz] at this
    have x1:w8.cell? ⟨ad.block,ad.off+1,none⟩=some (.int .u8 e0.c):=by have:=HLc8.out 1 _ rfl;rwa[hz] at this
    have x2:w8.cell? ⟨ad.block,ad.off+2,none⟩=some (.int .i64 e0.sv):=by have:=HLc8.out 2 _ rfl;rwa[hz] at this
    have x3:w8.cell? ⟨ad.block,ad.off+3,none⟩=some (.int .i64 (Oc.before l e0)):=by have:=HLc8.out 3 _ rfl;rwa[hz] at this
    have x4:w8.cell? ⟨ad.block,ad.off+4,none⟩=some (.string e0.lt):=by have:=HLc8.out 4 _ rfl;rwa[hz] at this
    have hA4:=HM7.out.memo.at_ (x:=.int .i64 0) HA4.out hg8;obtain⟨⟨y0,y1,y2,y3,y4⟩,k0,k1,k2,k3,k4⟩:=Oc.At.fiveO hA4;have yz:=hA4.lt;have HA4:=ak hA4;have HG8:=ak (gb_then HG7.out hg8 (fun j hj=>.inr hj));have HB8:=ak (show Below w.heap.size w w8 from⟨HG8.out.os,HG8.out.tape,HG8.out.output,HG8.out.size,fun j hj=>HG8.out.block j hj (fun e=>by injection e with e;have:=HBB.out;omega)⟩);clear hO8 hM8 hg8 hA4 hz hlt8;go_wp2;have hA9:=HA4.out;have hB9:=HB8.out;exact bodyPost_ret (Oc.lst_results (e:=Oc.tell l e0) rfl rfl (((((hA9.set 0 (.int .i64 e0.n)).set 1 (.int .u8 e0.c)).set 2 (.int .i64 e0.sv)).set 3 (.int .i64 (Oc.before l e0))).set 4 (.string e0.lt))) rfl ⟨rfl,(((((hB9.setCell (p:=⟨h+1,0,none⟩) (by show w.heap.size≤h+1;have:=HH.out;omega) _).setCell (p:=⟨h+1,1,none⟩) (by show w.heap.size≤h+1;have:=HH.out;omega) _).setCell (p:=⟨h+1,2,none⟩) (by show w.heap.size≤h+1;have:=HH.out;omega) _).setCell (p:=⟨h+1,3,none⟩) (by show w.heap.size≤h+1;have:=HH.out;omega) _).setCell (p:=⟨h+1,4,none⟩) (by show w.heap.size≤h+1;have:=HH.out;omega) _)⟩
  ·have htop:(9999:Int)=Oc.topOf n:=by unfold Oc.topOf;rw[if_neg hd,if_neg hn0]
   rw[← htop] at htb HO;clear hd htop;cases O with
   |none=>
    go_enter Tryz.func147,Tryz.ntmps147
    go_wp2_with fail
    rw[HH.out,HW2.out];refine HMk.out.mono ?_;rintro e w3 ⟨g,b,pA,pc,rfl,hM,hb3,hwb⟩;have hB3:=below_then HB2.out hb3;have HM3:=ak hM;have HB3:=ak hB3;have HA3:=ak (HA3.out.call hb3);have HA4:=ak (HA4.out.call hb3);have hbb:w.heap.size≤b:=Nat.le_trans HB2.out.size hwb;have HBB:=ak hbb;have c3:=HA3.out.cell 0 _ rfl;have z3:=HA3.out.lt;clear hM hb3 hwb hB3 hbb;go_wp2_with fail
    refine(HY.out _).mono ?_;rintro e w4 ⟨rfl,hb4⟩;have hB4:=below_then HB3.out hb4;have HM4:=ak (HM3.out.below hb4);have HB4:=ak hB4;have HA3:=ak (HA3.out.call hb4);have HA4:=ak (HA4.out.call hb4);have c3:=HA3.out.cell 0 _ rfl;have z3:=HA3.out.lt;have hL:=last_any l rA pA rc pc g b 9999 (fun o=>decide (o.n<n)) 183 #[.pointer (some ⟨h,0,none⟩)] w4 HM4.out (fun _ _=>trivial) (HW.out.below hB4) hl htb ec (fun W hg o _=>lstC_any o n h W (HM4.out.memo.cell c3 hg)) (Oc.down_n n);rw[HO.out] at hL;unfold Oc.LastRet at hL;have HL:=ak hL;clear hb4 hB4 hL;go_wp2_with fail
    refine HL.out.mono ?_;rintro e w5 ⟨rfl,hM5,hg5⟩;have hA4:=HM4.out.memo.at_ (x:=.int .i64 0) HA4.out hg5;obtain⟨⟨y0,y1,y2,y3,y4⟩,k0,k1,k2,k3,k4⟩:=Oc.At.fiveO hA4;have yz:=hA4.lt;have HA4:=ak hA4;have HG5:=ak (gb_then (grown_of_ HB4.out (some b)) hg5 (fun j hj=>.inr hj));have HB5:=ak (show Below w.heap.size w w5 from⟨HG5.out.os,HG5.out.tape,HG5.out.output,HG5.out.size,fun j hj=>HG5.out.block j hj (fun e=>by injection e with e;have:=HBB.out;omega)⟩);clear hM5 hg5 hA4;simp only[Option.getD_none,Option.isSome_none];unfold Oc.E.v Oc.E.zero;go_wp2;have hA9:=HA4.out;have hB9:=HB5.out;exact bodyPost_ret (Oc.lst_results (e:=Oc.E.zero) rfl rfl ((((((hA9.set 0 (.int .i64 0)).set 1 (.int .u8 0)).set 2 (.int .i64 0)).set 3 (.int .i64 0)).set 4 (.string ⟨#[]⟩)).allocO _)) rfl ⟨rfl,((((((hB9.setCell (p:=⟨h+1,0,none⟩) (by show w.heap.size≤h+1;have:=HH.out;omega) _).setCell (p:=⟨h+1,1,none⟩) (by show w.heap.size≤h+1;have:=HH.out;omega) _).setCell (p:=⟨h+1,2,none⟩) (by show w.heap.size≤h+1;have:=HH.out;omega) _).setCell (p:=⟨h+1,3,none⟩) (by show w.heap.size≤h+1;have:=HH.out;omega) _).setCell (p:=⟨h+1,4,none⟩) (by show w.heap.size≤h+1;have:=HH.out;omega) _)).alloc (by simp only[heap_set];exact hB9.size) _⟩
   |some e0=>
    have hev:Oc.Ev l e0:=by
     have:=Oc.last_is l (top:=9999) (fun o=>decide (o.n<n)) (by decide);rw[show Oc.last l 9999 (fun o=>decide (o.n<n))=some e0 from HO.out] at this;exact this.1
    have HEv:=ak hev;clear hev;go_enter Tryz.func147,Tryz.ntmps147
    go_wp2_with fail
    rw[HH.out,HW2.out];refine HMk.out.mono ?_;rintro e w3 ⟨g,b,pA,pc,rfl,hM,hb3,hwb⟩;have hB3:=below_then HB2.out hb3;have HM3:=ak hM;have HB3:=ak hB3;have HA3:=ak (HA3.out.call hb3);have HA4:=ak (HA4.out.call hb3);have hbb:w.heap.size≤b:=Nat.le_trans HB2.out.size hwb;have HBB:=ak hbb;have c3:=HA3.out.cell 0 _ rfl;have z3:=HA3.out.lt;clear hM hb3 hwb hB3 hbb;go_wp2_with fail
    refine(HY.out _).mono ?_;rintro e w4 ⟨rfl,hb4⟩;have hB4:=below_then HB3.out hb4;have HM4:=ak (HM3.out.below hb4);have HB4:=ak hB4;have HA3:=ak (HA3.out.call hb4);have HA4:=ak (HA4.out.call hb4);have c3:=HA3.out.cell 0 _ rfl;have z3:=HA3.out.lt;have hL:=last_any l rA pA rc pc g b 9999 (fun o=>decide (o.n<n)) 183 #[.pointer (some ⟨h,0,none⟩)] w4 HM4.out (fun _ _=>trivial) (HW.out.below hB4) hl htb ec (fun W hg o _=>lstC_any o n h W (HM4.out.memo.cell c3 hg)) (Oc.down_n n);rw[HO.out] at hL;unfold Oc.LastRet at hL;have HL:=ak hL;clear hb4 hB4 hL;go_wp2_with fail
    refine HL.out.mono ?_;rintro e w5 ⟨rfl,hM5,hg5⟩;have hA4:=HM4.out.memo.at_ (x:=.int .i64 0) HA4.out hg5;have hG5:=gb_then (grown_of_ HB4.out (some b)) hg5 (fun j hj=>.inr hj);obtain⟨W7,hW7⟩:=aj ((w5.alloc (.cells #[.int .i64 e0.n,.int .u8 e0.c,.int .i64 e0.sv,.int .i64 e0.bf,.string e0.lt,.int .i64 e0.pl,.int .i64 e0.y] 314)).alloc (.cells #[.int .i64 e0.n,.int .u8 e0.c,.int .i64 e0.sv,.int .i64 e0.bf,.string e0.lt,.int .i64 e0.pl,.int .i64 e0.y] 314))
    have hb7:Below w5.heap.size w5 W7:=by rw[← hW7];exact(al).alloc (by simp) _
    have hR7:Reads W7 W7.heap.size 7 (some ⟨w5.heap.size+1,0,none⟩) [e0].length ([e0].flatMap Oc.E.cells):=by
     have:=reads_cells_at (w5.alloc (.cells #[.int .i64 e0.n,.int .u8 e0.c,.int .i64 e0.sv,.int .i64 e0.bf,.string e0.lt,.int .i64 e0.pl,.int .i64 e0.y] 314)) (w5.heap.size+1) #[.int .i64 e0.n,.int .u8 e0.c,.int .i64 e0.sv,.int .i64 e0.bf,.string e0.lt,.int .i64 e0.pl,.int .i64 e0.y] 7 314 (by simp) rfl;rw[hW7] at this;rw[List.flatMap_cons,List.flatMap_nil,List.append_nil];exact this
    have hTd:=told_any l rA pA rc pc g b [e0] (some ⟨w5.heap.size+1,0,none⟩) 1 W7 (hM5.below hb7) ((HW.out.below HB4.out).cells (fun p v hc=>(hb7.cell (block_lt_of_cell (HM4.out.memo.cell hc hg5))).trans (HM4.out.memo.cell hc hg5))) hl (by simp) (fun x hx=>by
     rw[List.mem_singleton] at hx;rw[hx];exact HEv.out) hR7
    have HTd:=ak hTd;have HM7:=ak (hM5.below hb7);have HA4:=ak (hA4.call hb7);have HG7:=ak (Oc.gb_below hG5 hb7);have HW7:=ak hW7;clear hM5 hg5 hA4 hG5 hb7 hR7 hTd hW7;simp only[Option.getD_some,Option.isSome_some];unfold Oc.E.v;go_wp2_with fail
    rw[HW7.out];refine HTd.out.mono ?_;rintro e w8 ⟨v,rfl,hO8,hM8,hg8⟩;obtain⟨vA,vc,rfl,_⟩:=own_slice hO8;have hlt8:=hO8.lt;obtain⟨ad,x8,rfl,hab8,Hx8,HLc8⟩:=Ix.reads_cells (enc:=Oc.E.occ) (m:=5) (fun _=>rfl) rfl (Reads.of_own (by simpa using hO8)) (show 0<([e0].map (Oc.tell l)).length from Nat.succ_pos 0);obtain rfl:Oc.tell l e0=x8:=by
     have:=Hx8.out;simpa using this
    have hz:ad.add (0*5)=ad:=by
     show ad.add 0=ad
     unfold Addr.add;rw[if_pos rfl]
    have x0:w8.cell? ad=some (.int .i64 e0.n):=by have:=HLc8.out 0 _ rfl;rwa[hz] at this
    have x1:w8.cell? ⟨ad.block,ad.off+1,none⟩=some (.int .u8 e0.c):=by have:=HLc8.out 1 _ rfl;rwa[hz] at this
    have x2:w8.cell? ⟨ad.block,ad.off+2,none⟩=some (.int .i64 e0.sv):=by have:=HLc8.out 2 _ rfl;rwa[hz] at this
    have x3:w8.cell? ⟨ad.block,ad.off+3,none⟩=some (.int .i64 (Oc.before l e0)):=by have:=HLc8.out 3 _ rfl;rwa[hz] at this
    have x4:w8.cell? ⟨ad.block,ad.off+4,none⟩=some (.string e0.lt):=by have:=HLc8.out 4 _ rfl;rwa[hz] at this
    have hA4:=HM7.out.memo.at_ (x:=.int .i64 0) HA4.out hg8;obtain⟨⟨y0,y1,y2,y3,y4⟩,k0,k1,k2,k3,k4⟩:=Oc.At.fiveO hA4;have yz:=hA4.lt;have HA4:=ak hA4;have HG8:=ak (gb_then HG7.out hg8 (fun j hj=>.inr hj));have HB8:=ak (show Below w.heap.size w w8 from⟨HG8.out.os,HG8.out.tape,HG8.out.output,HG8.out.size,fun j hj=>HG8.out.block j hj (fun e=>by injection e with e;have:=HBB.out;omega)⟩);clear hO8 hM8 hg8 hA4 hz hlt8;go_wp2;have hA9:=HA4.out;have hB9:=HB8.out;exact bodyPost_ret (Oc.lst_results (e:=Oc.tell l e0) rfl rfl (((((hA9.set 0 (.int .i64 e0.n)).set 1 (.int .u8 e0.c)).set 2 (.int .i64 e0.sv)).set 3 (.int .i64 (Oc.before l e0))).set 4 (.string e0.lt))) rfl ⟨rfl,(((((hB9.setCell (p:=⟨h+1,0,none⟩) (by show w.heap.size≤h+1;have:=HH.out;omega) _).setCell (p:=⟨h+1,1,none⟩) (by show w.heap.size≤h+1;have:=HH.out;omega) _).setCell (p:=⟨h+1,2,none⟩) (by show w.heap.size≤h+1;have:=HH.out;omega) _).setCell (p:=⟨h+1,3,none⟩) (by show w.heap.size≤h+1;have:=HH.out;omega) _).setCell (p:=⟨h+1,4,none⟩) (by show w.heap.size≤h+1;have:=HH.out;omega) _)⟩
end Go.Proofs.YtjobhjemnmleaaaGreatDoor
