/- Package look: what is looked up in spans. -/
import Derived.Test.YtjobhjemnmleaaaGreatDoorR27
import Derived.OrdersIn
set_option maxRecDepth 200000
set_option maxHeartbeats 16000000
namespace Go.Proofs.YtjobhjemnmleaaaGreatDoor
open Go.RowKit
attribute [local go_sem] Oper.semAt_some
theorem lookAlike_any (a b:Ln.Sp)(w:World):
  Calls Tryz.prog 112 #[.agg #[.int .i64 a.fr,.int .i64 a.off,.bool a.dst],.agg #[.int .i64 b.fr,.int .i64 b.off,.bool b.dst]] w fun e w'=>e=.returned (.bool (Ln.alike a b))∧Below w.heap.size w w':=by
 obtain⟨x,o,d⟩:=a;obtain⟨x',o',d'⟩:=b;have HB:=ak (((Below.refl w.heap.size w).alloc (Nat.le_refl _) (.cells #[.int .i64 x,.int .i64 o,.bool d] 164)).alloc (by simp) (.cells #[.int .i64 x',.int .i64 o',.bool d'] 164));unfold Ln.alike;simp only
 by_cases ho:o=o'
 ·subst ho;rw[decide_eq_true rfl,Bool.true_and];cases d <;> cases d'
  all_goals
   go_enter Tryz.func112,Tryz.ntmps112
   go_wp2;go_ret
   exact⟨rfl,HB.out⟩
 ·have p1:(o == o')=false:=by rw[beq_eq_false_iff_ne];exact ho
  rw[decide_eq_false ho,Bool.false_and];go_enter Tryz.func112,Tryz.ntmps112
  go_wp2;go_ret
  exact⟨rfl,HB.out⟩
theorem lookAboveC_any (l:List Ln.Sp)(t:Int)(A:Option Addr)(n c i g h B:Nat)(w:World)(hn:l.length=n)(hi:i<n)(c0:w.cell? ⟨g,0,none⟩=some (.slice A n c))(c1:w.cell? ⟨h,0,none⟩=some (.int .i64 t))(hR:Reads w B 3 A n (l.flatMap Ln.Sp.cells)):
  Calls Tryz.prog 153 #[.int .i64 (i:Int),.pointer (some ⟨g,0,none⟩),.pointer (some ⟨h,0,none⟩)] w fun e w'=>(∃x,l[i]?=some x∧e=.returned (.bool (decide (t<x.fr))))∧Drew w w':=by
 obtain⟨ad,x,rfl,hab,Hx,HL⟩:=Ix.reads_cells (enc:=Ln.Sp.cells) (m:=3) (fun _=>rfl) hn hR hi;have x0:w.cell? (ad.add (i*3))=some (.int .i64 x.fr):=HL.out 0 _ rfl;have z0:=block_lt_of_cell c0;have z1:=block_lt_of_cell c1;have q1:=am i
 have q2:(i:Int)<(n:Int):=by omega
 clear hR hn hi HL hab
 by_cases hq:t<x.fr
 ·have HD:=ak (decide_eq_true hq);go_enter Tryz.func153,Tryz.ntmps153
  go_wp2;go_quiet (fail)
  go_wp2;go_ret
  exact⟨⟨x,Hx.out,by rw[HD.out];rfl⟩,by first|exact⟨_,rfl⟩|exact Drew.refl _⟩
 ·have HD:=ak (decide_eq_false hq);go_enter Tryz.func153,Tryz.ntmps153
  go_wp2;go_quiet (fail)
  go_wp2;go_ret
  exact⟨⟨x,Hx.out,by rw[HD.out];rfl⟩,by first|exact⟨_,rfl⟩|exact Drew.refl _⟩
theorem lookAbove_any (l:List Ln.Sp)(t:Int)(A:Option Addr)(n c:Nat)(w:World)(hn:l.length=n)(hn2:n≤1000000000)(hr:Lo.Right l)(hR:Reads w w.heap.size 3 A n (l.flatMap Ln.Sp.cells)):
  Calls Tryz.prog 113 #[.slice A n c,.int .i64 t] w fun e w'=>(∃r:Nat,e=.returned (.int .i64 (r:Int))∧Lo.Ab l t r)∧Below w.heap.size w w':=by
 have ec:=enters_of Tryz.func153 (by kernel_rfl) rfl;obtain⟨h,hh⟩:=aj (w.heap.size)
 obtain⟨W2,hW2⟩:=aj ((w.alloc (.cells #[.slice A n c] 61)).alloc (.cells #[.int .i64 t] 2))
 have hb2:Below w.heap.size w W2:=by rw[← hW2];exact(al).alloc (by simp) _
 have hA2:At W2 h [.slice A n c]:=by rw[← hW2,← hh];exact(At.new w #[.slice A n c] 61).allocO _
 have hA3:At W2 (h+1) [.int .i64 t]:=by
  have:=At.new (w.alloc (.cells #[.slice A n c] 61)) #[.int .i64 t] 2;rw[hW2,World.size_alloc,hh] at this;exact this
 obtain⟨p,hp⟩:∃p:Nat→Bool,(fun i=>decide (t<(l.getD i ⟨0,0,false⟩).fr))=p:=⟨_,rfl⟩
 have hpx:∀i x,l[i]?=some x→p i=decide (t<x.fr):=fun i x hx=>by
  rw[← hp];simp only;rw[List.getD_eq_getElem?_getD,hx];rfl
 have HS:=ak (search_any n 153 #[.pointer (some ⟨h,0,none⟩),.pointer (some ⟨h+1,0,none⟩)] p W2 hn2 ec (fun W hb i hi=>(lookAboveC_any l t A n c i h (h+1) w.heap.size W hn hi ((hA2.call hb).cell 0 _ rfl) ((hA3.call hb).cell 0 _ rfl) (hR.below (hb2.trans (hb.mono hb2.size)))).mono (by
   rintro e w' ⟨⟨x,hx,rfl⟩,hd⟩;exact⟨by rw[hpx i x hx],hd.below _⟩)) (fun i j hij hj h1=>by
   obtain⟨x,hx⟩:∃x,l[i]?=some x:=⟨_,List.getElem?_eq_getElem (by omega)⟩
   obtain⟨y,hy⟩:∃y,l[j]?=some y:=⟨_,List.getElem?_eq_getElem (by omega)⟩
   rw[hpx i x hx,decide_eq_true_eq] at h1;rw[hpx j y hy,decide_eq_true_eq];have:=hr.mono (j - i) i x y hx (by rw[show i+(j - i)=j by omega];exact hy);omega))
 have HP:=ak hpx;have HN:=ak hn;have HB2:=ak hb2;have HW2:=ak hW2;have HH:=ak hh;have a2:=hA2.cell 0 _ rfl;have z2:=hA2.lt;clear hpx hp hW2 hb2 hA2 hA3 hR hn hr hh;go_enter Tryz.func113,Tryz.ntmps113
 go_wp2_with fail
 try rw[HH.out]
 rw[HW2.out];refine HS.out.mono ?_;rintro e w3 ⟨r,hr,rfl,h1,h2,hb3⟩;have HB3:=ak (HB2.out.trans (hb3.mono HB2.out.size));have HAb:Hid (Lo.Ab l t r):=⟨by rw[HN.out];exact hr,fun i x hi hx=>by
  have:=h1 i hi;rw[HP.out i x hx,decide_eq_false_iff_not] at this;omega,fun i x hi hx=>by
  have:=h2 i hi (by have:=(List.getElem?_eq_some_iff.1 hx).1;have:=HN.out;omega);rw[HP.out i x hx,decide_eq_true_eq] at this;exact this⟩
 clear h1 h2 hb3 hr a2 z2;go_wp2;go_ret
 exact⟨⟨r,rfl,HAb.out⟩,HB3.out⟩
namespace LkC
def sl : Nat→Nat
 |0=>13
 |1=>14
 |2=>15
 |3=>16
 |4=>17
 |5=>18
 |6=>19
 |7=>20
 |8=>21
 |9=>22
 |10=>23
 |11=>24
 |12=>25
 |13=>26
 |14=>27
 |15=>28
 |16=>29
 |17=>30
 |18=>31
 |19=>32
 |20=>33
 |21=>34
 |22=>35
 |_=>36
def Q (ad:Addr)(n:Nat)(c:Nat)(k:Nat)(j:Nat)(x0:Int)(x1:Int)(x2:Bool)(y0:Int)(y1:Int)(y2:Bool):Nat→Value→World→Prop
 |0,v,_=>v=.slice (some ad) n c
 |1,v,_=>v=.int .i64 (k:Int)
 |2,v,_=>v=.pointer (some (ad.add (k*3)))
 |3,v,_=>v=.pointer (some (ad.add (k*3)))
 |4,v,_=>v=.int .i64 x0
 |5,v,_=>v=.slice (some ad) n c
 |6,v,_=>v=.int .i64 (k:Int)
 |7,v,_=>v=.int .i64 (j:Int)
 |8,v,_=>v=.pointer (some (ad.add (j*3)))
 |9,v,_=>v=.pointer (some (ad.add (j*3)))
 |10,v,_=>v=.int .i64 y0
 |11,v,_=>v=.bool false
 |12,v,_=>v=.bool false
 |13,v,_=>v=.slice (some ad) n c
 |14,v,_=>v=.int .i64 (k:Int)
 |15,v,_=>v=.pointer (some (ad.add (k*3)))
 |16,v,_=>v=.agg #[.int .i64 x0,.int .i64 x1,.bool x2]
 |17,v,_=>v=.slice (some ad) n c
 |18,v,_=>v=.int .i64 (k:Int)
 |19,v,_=>v=.int .i64 (j:Int)
 |20,v,_=>v=.pointer (some (ad.add (j*3)))
 |21,v,_=>v=.agg #[.int .i64 y0,.int .i64 y1,.bool y2]
 |22,v,_=>v=.bool false
 |23,v,_=>v=.bool false
 |_,_,_=>True
theorem Q_mono {ad:Addr}{n:Nat}{c:Nat}{k:Nat}{j:Nat}{x0:Int}{x1:Int}{x2:Bool}{y0:Int}{y1:Int}{y2:Bool}:∀i v W W',Q ad n c k j x0 x1 x2 y0 y1 y2 i v W→Below W.heap.size W W'→Q ad n c k j x0 x1 x2 y0 y1 y2 i v W':=by
 intro _ v W W' h hb;unfold Q at h ⊢;split at h
 all_goals first|exact h
theorem sl_inj : ∀j,j<24→∀k,k<24→sl j=sl k→j=k:=by decide +kernel
theorem sl_no : ∀j,j∈[0,1,2,3,4,5,6]→∀k,k<24→sl k≠j:=by decide +kernel
end LkC
theorem lookCheck_any (l:List Ln.Sp)(A:Option Addr)(n c:Nat)(w:World)(hn:l.length=n)(hn2:n≤1000000000)(hr:Lo.Right l)(hR:Reads w w.heap.size 3 A n (l.flatMap Ln.Sp.cells)):
  Calls Tryz.prog 66 #[.slice A n c] w fun e w'=>e=.returned (.int .i64 0)∧Below w.heap.size w w':=by
 have hn0:0<n:=by
  rw[← hn];exact List.length_pos_iff.2 hr.ne
 obtain⟨ad,-,rfl,-,-,-⟩:=Ix.reads_cells (enc:=Ln.Sp.cells) (m:=3) (fun _=>rfl) hn hR hn0;have q0:((n:Int) == 0)=false:=bqf (by omega);have q0':¬(n:Int)=0:=by omega
 have HN:=ak hn;have HR:=ak hR;have HG:=ak hr;clear hn hR hr;go_enter Tryz.func66,Tryz.ntmps66
 go_wp2;go_loopw [3] (fun i wr=>∃k:Nat,1≤k∧k≤n∧i=.int .i64 (k:Int)∧Hid (Below w.heap.size w wr)) (fun i _=>n - (intOf i).toNat)
 case atStart=>exact⟨1,Nat.le_refl _,hn0,rfl,Below.refl _ _⟩
 case round=>
  obtain⟨k,hk0,hk,rfl,HB⟩:=hrel
  by_cases hlt:k<n
  ·obtain⟨j,hj⟩:∃j,k=j+1:=⟨k - 1,by omega⟩
   obtain⟨ad',x,e0,hab,Hx,HLx⟩:=Ix.reads_cells (enc:=Ln.Sp.cells) (m:=3) (fun _=>rfl) HN.out HR.out hlt;obtain rfl:=Option.some.inj e0;obtain⟨ad',y,e0,hab2,Hy,HLy⟩:=Ix.reads_cells (enc:=Ln.Sp.cells) (m:=3) (fun _=>rfl) HN.out HR.out (show j<n by omega);obtain rfl:=Option.some.inj e0;have hup:=HG.out.up j y x Hy.out (by rw[← hj];exact Hx.out);obtain⟨x0,x1,x2⟩:=x;obtain⟨y0,y1,y2⟩:=y;have HX:Hid (∀W,Below wr.heap.size wr W→W.cell? (ad.add (k*3))=some (.int .i64 x0)∧W.cell? ⟨(ad.add (k*3)).block,(ad.add (k*3)).off+1,none⟩=some (.int .i64 x1)∧W.cell? ⟨(ad.add (k*3)).block,(ad.add (k*3)).off+2,none⟩=some (.bool x2)):=fun W hb=>
    have hbw:=HB.out.trans (hb.mono HB.out.size)
    ⟨(hbw.cell (p:=ad.add (k*3)) (by rw[block_of_add];exact hab)).trans (HLx.out 0 _ rfl),(hbw.cell (p:=⟨(ad.add (k*3)).block,(ad.add (k*3)).off+1,none⟩) (by show (ad.add (k*3)).block<_;rw[block_of_add];exact hab)).trans (HLx.out 1 _ rfl),(hbw.cell (p:=⟨(ad.add (k*3)).block,(ad.add (k*3)).off+2,none⟩) (by show (ad.add (k*3)).block<_;rw[block_of_add];exact hab)).trans (HLx.out 2 _ rfl)⟩
   have HY:Hid (∀W,Below wr.heap.size wr W→W.cell? (ad.add (j*3))=some (.int .i64 y0)∧W.cell? ⟨(ad.add (j*3)).block,(ad.add (j*3)).off+1,none⟩=some (.int .i64 y1)∧W.cell? ⟨(ad.add (j*3)).block,(ad.add (j*3)).off+2,none⟩=some (.bool y2)):=fun W hb=>
    have hbw:=HB.out.trans (hb.mono HB.out.size)
    ⟨(hbw.cell (p:=ad.add (j*3)) (by rw[block_of_add];exact hab2)).trans (HLy.out 0 _ rfl),(hbw.cell (p:=⟨(ad.add (j*3)).block,(ad.add (j*3)).off+1,none⟩) (by show (ad.add (j*3)).block<_;rw[block_of_add];exact hab2)).trans (HLy.out 1 _ rfl),(hbw.cell (p:=⟨(ad.add (j*3)).block,(ad.add (j*3)).off+2,none⟩) (by show (ad.add (j*3)).block<_;rw[block_of_add];exact hab2)).trans (HLy.out 2 _ rfl)⟩
   have ha:Ln.alike ⟨x0,x1,x2⟩ ⟨y0,y1,y2⟩=false:=by rw[Ln.alike_comm];exact hup.2
   have HAl:=ak fun W=>ha ▸ lookAlike_any ⟨x0,x1,x2⟩ ⟨y0,y1,y2⟩ W
   have HP:Hid (decide (x0≤y0)=false):=by
    have h1:y0<x0:=hup.1;show decide (x0≤y0)=false
    rw[decide_eq_false_iff_not];omega
   have HQ:Hid ((0:Int)≤(k:Int)∧(k:Int)<(n:Int)∧(0:Int)≤(j:Int)∧(j:Int)<(n:Int)∧IntKind.i64.wrap ((k:Int) - 1)=(j:Int)):=⟨by omega,by omega,by omega,by omega,by rw[IntKind.wrap_i64];omega⟩
   have q2:(k:Int)<(n:Int):=(by omega);clear hab hab2 Hx Hy HLx HLy hup ha hj;go_wp2_with fail
   refine Od.wp_region_inv 37 (by kernel_rfl) (by rfl) (by rfl) (Od.ord_of (by kernel_rfl)) (Od.dst_of (by kernel_rfl)) (Rg.J 24 LkC.sl (LkC.Q ad n c k j x0 x1 x2 y0 y1 y2) wr (Od.slots _)) (Rg.J.start _ _ _ ((Below.refl _ _).drew)) ?stepR ?finR
   case stepR=>
    intro i o hi b' a' wv hJ hb hdep hdf K hK;obtain⟨tm,df⟩:=a';simp only at hdf;subst hdf;have hiN:i<24:=(Array.getElem?_eq_some_iff.1 hi).1;have hsplit:i=0∨i=1∨i=2∨i=3∨i=4∨i=5∨i=6∨i=7∨i=8∨i=9∨i=10∨i=11∨i=12∨i=13∨i=14∨i=15∨i=16∨i=17∨i=18∨i=19∨i=20∨i=21∨i=22∨i=23:=(by omega);rcases hsplit with rfl|rfl|rfl|rfl|rfl|rfl|rfl|rfl|rfl|rfl|rfl|rfl|rfl|rfl|rfl|rfl|rfl|rfl|rfl|rfl|rfl|rfl|rfl|rfl
    all_goals obtain rfl:=sji (show some _=some o from hi)
    all_goals first|rw[if_pos (show Region.wanted _ _=true from rfl)]|(have hg:tm.getD 25 undef=.bool false:=by(refine hJ.val 12 (by decide) (hdep ⟨12,.guard⟩ ?_ rfl);simp <;> fail))|skip
    all_goals try rw[if_pos (Rg.want rfl rfl hg)]
    all_goals (have h0:tm.getD 0 undef=.slice (some ad) n c:=(hJ.old 0 (LkC.sl_no 0 (by decide))).trans rfl;have h0':=gdq h0)
    all_goals (have h3:tm.getD 3 undef=.int .i64 (k:Int):=(hJ.old 3 (LkC.sl_no 3 (by decide))).trans rfl;have h3':=gdq h3)
    all_goals try have v0:tm.getD 13 undef=.slice (some ad) n c:=by(refine hJ.val 0 (by decide) (hdep ⟨0,.data⟩ ?_ rfl);simp <;> fail)
    all_goals try have v0':=gdq v0
    all_goals try have v1:tm.getD 14 undef=.int .i64 (k:Int):=by(refine hJ.val 1 (by decide) (hdep ⟨1,.data⟩ ?_ rfl);simp <;> fail)
    all_goals try have v1':=gdq v1
    all_goals have q1:=HQ.out.1
    all_goals have q2:=HQ.out.2.1
    all_goals try have v2:tm.getD 15 undef=.pointer (some (ad.add (k*3))):=by(refine hJ.val 2 (by decide) (hdep ⟨2,.data⟩ ?_ rfl);simp <;> fail)
    all_goals try have v2':=gdq v2
    all_goals try have v6:tm.getD 19 undef=.int .i64 (k:Int):=by(refine hJ.val 6 (by decide) (hdep ⟨6,.data⟩ ?_ rfl);simp <;> fail)
    all_goals try have v6':=gdq v6
    all_goals have wj:=HQ.out.2.2.2.2
    all_goals try have v5:tm.getD 18 undef=.slice (some ad) n c:=by(refine hJ.val 5 (by decide) (hdep ⟨5,.data⟩ ?_ rfl);simp <;> fail)
    all_goals try have v5':=gdq v5
    all_goals try have v7:tm.getD 20 undef=.int .i64 (j:Int):=by(refine hJ.val 7 (by decide) (hdep ⟨7,.data⟩ ?_ rfl);simp <;> fail)
    all_goals try have v7':=gdq v7
    all_goals have q3:=HQ.out.2.2.1
    all_goals have q4:=HQ.out.2.2.2.1
    all_goals try have v8:tm.getD 21 undef=.pointer (some (ad.add (j*3))):=by(refine hJ.val 8 (by decide) (hdep ⟨8,.data⟩ ?_ rfl);simp <;> fail)
    all_goals try have v8':=gdq v8
    all_goals try have v4:tm.getD 17 undef=.int .i64 x0:=by(refine hJ.val 4 (by decide) (hdep ⟨4,.data⟩ ?_ rfl);simp <;> fail)
    all_goals try have v4':=gdq v4
    all_goals try have v10:tm.getD 23 undef=.int .i64 y0:=by(refine hJ.val 10 (by decide) (hdep ⟨10,.data⟩ ?_ rfl);simp <;> fail)
    all_goals try have v10':=gdq v10
    all_goals have p1:=HP.out
    all_goals try have v11:tm.getD 24 undef=.bool false:=by(refine hJ.val 11 (by decide) (hdep ⟨11,.data⟩ ?_ rfl);simp <;> fail)
    all_goals try have v11':=gdq v11
    all_goals try have v13:tm.getD 26 undef=.slice (some ad) n c:=by(refine hJ.val 13 (by decide) (hdep ⟨13,.data⟩ ?_ rfl);simp <;> fail)
    all_goals try have v13':=gdq v13
    all_goals try have v14:tm.getD 27 undef=.int .i64 (k:Int):=by(refine hJ.val 14 (by decide) (hdep ⟨14,.data⟩ ?_ rfl);simp <;> fail)
    all_goals try have v14':=gdq v14
    all_goals try have v18:tm.getD 31 undef=.int .i64 (k:Int):=by(refine hJ.val 18 (by decide) (hdep ⟨18,.data⟩ ?_ rfl);simp <;> fail)
    all_goals try have v18':=gdq v18
    all_goals try have v17:tm.getD 30 undef=.slice (some ad) n c:=by(refine hJ.val 17 (by decide) (hdep ⟨17,.data⟩ ?_ rfl);simp <;> fail)
    all_goals try have v17':=gdq v17
    all_goals try have v19:tm.getD 32 undef=.int .i64 (j:Int):=by(refine hJ.val 19 (by decide) (hdep ⟨19,.data⟩ ?_ rfl);simp <;> fail)
    all_goals try have v19':=gdq v19
    all_goals try have v12:tm.getD 25 undef=.bool false:=by(refine hJ.val 12 (by decide) (hdep ⟨12,.data⟩ ?_ rfl);simp <;> fail)
    all_goals try have v12':=gdq v12
    all_goals try have v22:tm.getD 35 undef=.bool false:=by(refine hJ.val 22 (by decide) (hdep ⟨22,.data⟩ ?_ rfl);simp <;> fail)
    all_goals try have v22':=gdq v22
    all_goals first|(go_simp;exact hK _ _ (hJ.put LkC.Q_mono LkC.sl_inj (by decide) rfl))|skip
    ·have v3:tm.getD 16 undef=.pointer (some (ad.add (k*3))):=hJ.val 3 (by decide) (hdep ⟨3,.data⟩ (by simp) rfl);have v3':=gdq v3;obtain⟨c0,c1,c2⟩:=HX.out wv hJ.below;go_simp;exact hK _ _ (hJ.put LkC.Q_mono LkC.sl_inj (by decide) rfl)
    ·have v9:tm.getD 22 undef=.pointer (some (ad.add (j*3))):=hJ.val 9 (by decide) (hdep ⟨9,.data⟩ (by simp) rfl);have v9':=gdq v9;obtain⟨d0,d1,d2⟩:=HY.out wv hJ.below;go_simp;exact hK _ _ (hJ.put LkC.Q_mono LkC.sl_inj (by decide) rfl)
    ·have v15:tm.getD 28 undef=.pointer (some (ad.add (k*3))):=hJ.val 15 (by decide) (hdep ⟨15,.data⟩ (by simp) rfl);have v15':=gdq v15;obtain⟨c0,c1,c2⟩:=HX.out wv hJ.below;go_simp;exact hK _ _ (hJ.put LkC.Q_mono LkC.sl_inj (by decide) rfl)
    ·have v20:tm.getD 33 undef=.pointer (some (ad.add (j*3))):=hJ.val 20 (by decide) (hdep ⟨20,.data⟩ (by simp) rfl);have v20':=gdq v20;obtain⟨d0,d1,d2⟩:=HY.out wv hJ.below;go_simp;exact hK _ _ (hJ.put LkC.Q_mono LkC.sl_inj (by decide) rfl)
    ·have v16:tm.getD 29 undef=.agg #[.int .i64 x0,.int .i64 x1,.bool x2]:=hJ.val 16 (by decide) (hdep ⟨16,.data⟩ (by simp) rfl);have v16':=gdq v16;have v21:tm.getD 34 undef=.agg #[.int .i64 y0,.int .i64 y1,.bool y2]:=hJ.val 21 (by decide) (hdep ⟨21,.data⟩ (by simp) rfl);have v21':=gdq v21;go_simp;refine(HAl.out wv).mono ?_;rintro e w' ⟨rfl,hbm⟩;exact hK _ _ (hJ.step LkC.Q_mono LkC.sl_inj (by decide) hbm rfl)
   case finR=>
    intro a' W5 hJ hN hdf;have s0:a'.tmps.getD 0 undef=.slice (some ad) n c:=(hJ.old 0 (LkC.sl_no 0 (by decide))).trans rfl;have s1:a'.tmps.getD 1 undef=undef:=(hJ.old 1 (LkC.sl_no 1 (by decide))).trans rfl;have s2:a'.tmps.getD 2 undef=u2:=(hJ.old 2 (LkC.sl_no 2 (by decide))).trans rfl;have s3:a'.tmps.getD 3 undef=.int .i64 (k:Int):=(hJ.old 3 (LkC.sl_no 3 (by decide))).trans rfl;have s4:a'.tmps.getD 4 undef=.slice (some ad) n c:=(hJ.old 4 (LkC.sl_no 4 (by decide))).trans rfl;have s5:a'.tmps.getD 5 undef=.int .i64 (n:Int):=(hJ.old 5 (LkC.sl_no 5 (by decide))).trans rfl;have s6:a'.tmps.getD 6 undef=.bool false:=(hJ.old 6 (LkC.sl_no 6 (by decide))).trans rfl;have s36:a'.tmps.getD 36 undef=.bool false:=hJ.val 23 (by decide) (by rfl);have hb9:=hJ.below;have ef:a'={ tmps:=((List.range 37).map fun i=>a'.tmps.getD i undef).toArray,defers:=[] }:=Rg.frame_of 37 a' hN hdf;obtain⟨u,hu⟩:∃u:Nat→Value,(fun i=>a'.tmps.getD i undef)=u:=⟨_,rfl⟩
    rw[hu] at ef;have e0:u 0=.slice (some ad) n c:=by rw[← hu];exact s0
    have e1:u 1=undef:=by rw[← hu];exact s1
    have e2:u 2=u2:=by rw[← hu];exact s2
    have e3:u 3=.int .i64 (k:Int):=by rw[← hu];exact s3
    have e4:u 4=.slice (some ad) n c:=by rw[← hu];exact s4
    have e5:u 5=.int .i64 (n:Int):=by rw[← hu];exact s5
    have e6:u 6=.bool false:=by rw[← hu];exact s6
    have e36:u 36=.bool false:=by rw[← hu];exact s36
    have ef2:a'={ tmps:=(u 0 :: u 1 :: u 2 :: u 3 :: u 4 :: u 5 :: u 6 :: u 7 :: u 8 :: u 9 :: u 10 :: u 11 :: u 12 :: u 13 :: u 14 :: u 15 :: u 16 :: u 17 :: u 18 :: u 19 :: u 20 :: u 21 :: u 22 :: u 23 :: u 24 :: u 25 :: u 26 :: u 27 :: u 28 :: u 29 :: u 30 :: u 31 :: u 32 :: u 33 :: u 34 :: u 35 :: u 36 :: []:List Value).toArray,defers:=[] }:=ef;rw[e0,e1,e2,e3,e4,e5,e6,e36] at ef2;rw[ef2];clear hJ hN hdf ef ef2 hu e0 s0 e1 s1 e2 s2 e3 s3 e4 s4 e5 s5 e6 s6 e36 s36;have HB5:=ak (HB.out.trans (hb9.mono HB.out.size));clear hb9;go_wp2;go_roundw
    case rel=>exact⟨k+1,by omega,by omega,by go_num,HB5.out⟩
    case measure=>simp[intOf];omega
  ·have q2:¬(k:Int)<(n:Int):=(by omega);go_wp2;go_ret
   exact⟨rfl,HB.out⟩
namespace Lo
end Lo
end Go.Proofs.YtjobhjemnmleaaaGreatDoor
namespace Go.Proofs.YtjobhjemnmleaaaGreatDoor
open Go.RowKit Go.Shelf
namespace Ln
theorem range_all {P:Program}{α:Type}{g:Operand}{ps:Array Tmp}{assign body:Code}{Q:Exit→Act→World→Prop}{a:Act}{w:World}
  {gf:Nat} {lb:Array Value} (hg:a.eval g=.func (.func gf) #[] lb) (eg:∀args w,(callFunc gf args).run P w=.ok (.enter gf args) w)
  {encs:α→Array Value} (Kq:World→World→Prop) (xs:List α) (N:Nat)
  (hseq:∀(J:List α→World→Prop) (W:World),OwnFrom W.heap.size J→w.heap.size+2≤W.heap.size→Below w.heap.size w W→
   (∀pre x W1,J pre W1→pre.length<N→YieldAt Fence.wide 4 P (w.heap.size+1) (encs x) W1 fun e W'=>e=.returned (.bool true)∧J (pre ++ [x]) W'∧Kq W1 W'∧KeepsFrom (w.heap.size+2) W1 W')→J [] W→
   CallsIn Fence.wide 5 P gf (#[.func (.yield (w.heap.size+1)) #[] #[]] ++ lb) W fun e W'=>(∃v,e=.returned v)∧J xs W')
  (hKt:∀{A B C:World},Kq A B→Kq B C→Kq A C) (hKb:∀(W:World) (o o':Obj),W.heap[w.heap.size+1]?=some o→o.isCells=false→o.isWalk=false→Kq W (W.putObj (w.heap.size+1) o')) (hps:∀x,(encs x).size=ps.size)
  (I:List α→World→Prop) (hI:OwnFrom w.heap.size I) (h0:I [] w) (Ax:α→Act→World→Prop) (hAx:∀x a',OwnFrom w.heap.size (fun(_:Unit) W=>Ax x a' W))
  (hassign:∀(l:Nat) (pre:List α) (x:α) (W:World) (K:Act→World→Prop),I pre W→(∀a' W',KeepsFrom w.heap.size W W'→Kq W W'→I pre W'→Ax x a' W'→K a' W')→
   assign.wpIn (Fence.wide.inRound l) 4 P (Exit.then K (fun _ _ _=>False)) { tmps:=(ps.zip (encs x)).foldl (fun t (p,v)=>t.setIfInBounds p v) a.tmps,defers:=[] } W)
  (hbody:∀(l:Nat) (pre:List α) (x:α) (a':Act) (W:World),I pre W→Ax x a' W→pre.length<N→body.wpIn (Fence.wide.inRound l) 4 P (ownPostG w.heap.size Kq I (fun _ _ _=>False) (pre ++ [x]) W) a' W)
  (hdone:∀(W:World),I xs W→W.heap[w.heap.size]?=some (.deferred (some []))→Q .normal { a with defers:={ target:=.collected w.heap.size,args:=#[] } :: a.defers } W):
  (Code.rangeFunc g ps assign body).wpIn Fence.wide 6 P Q a w:=by
 refine wpIn_rangeFunc ?_;intro fn hfn;obtain⟨D,hD⟩:=aj (w.heap.size)
 obtain⟨rec,hrec⟩:∃rec:LoopState→Option Code→Loop,rec=fun st pe=>{ state:=st,pending:=pe,fn,tmps:=a.tmps,params:=ps,assign,body,defers:=w.heap.size }:=⟨_,rfl⟩
 obtain⟨W1,hW1⟩:=aj ((w.alloc (.deferred (some []))).alloc (.loop (rec .ready none)))
 have hL1:W1.heap[w.heap.size+1]?=some (.loop (rec .ready none)):=by
  rw[← hW1];have:=World.alloc_heap_new (w.alloc (.deferred (some []))) (.loop (rec .ready none))
  rwa[World.size_alloc] at this
 have hK1:W1.heap[w.heap.size]?=some (.deferred (some [])):=by
  rw[← hW1];exact(Below.heap_alloc _ _ _ (by simp)).trans (World.alloc_heap_new w _)
 have hI1:I [] W1:=by rw[← hW1];exact hI.alloc _ (hI.alloc _ h0)
 have hs1:W1.heap.size=w.heap.size+2:=by rw[← hW1,World.size_alloc,World.size_alloc]
 have hb1:Below w.heap.size w W1:=by rw[← hW1];exact((Below.refl _ w).alloc (Nat.le_refl _) _).alloc (by simp) _
 refine⟨w.heap.size+1,[{ target:=.collected w.heap.size,args:=#[] }],W1,{ target:=.fn (.func gf) lb,args:=#[.func (.yield (w.heap.size+1)) #[] #[]] },W1,gf,
  #[.func (.yield (w.heap.size+1)) #[] #[]] ++ lb,W1,?_,?_,?_,?_,fun _=>(by decide),?_⟩
 ·rw[← hW1,hrec];exact run_enterLoop_outer _ _ _ _ _
 ·simp only[resolve,hg];simp[go_sem]
 ·intro f' hf'
  trivial
 ·simp[invoke,go_sem,eg]
 ·refine(hseq (fun pre W=>I pre W∧W.heap[w.heap.size+1]?=some (.loop (rec .ready none))∧W.heap[w.heap.size]?=some (.deferred (some []))) W1 ?_ (by omega) hb1 ?_ ⟨hI1,hL1,hK1⟩).mono ?_
  ·intro s A B row hs hg' hr;refine⟨(ownFrom_mono hI (by omega)) s A B row hs.1 hg' hr,(hg'.block _ (Array.getElem?_eq_some_iff.1 hs.2.1).1 (fun e=>?_)).trans hs.2.1,(hg'.block _ (Array.getElem?_eq_some_iff.1 hs.2.2).1 (fun e=>?_)).trans hs.2.2⟩
   ·have:=(hr _ e.symm).1;omega
   ·have:=(hr _ e.symm).1;omega
  ·rintro pre x W ⟨hi,hl,hk⟩ hlen;have hy:=run_yield (P:=P) (args:=encs x) hl (by rw[hrec];exact hps x);rw[hrec] at hy;refine⟨fn,_,assign,body,hy,roundIn_of_wpIn hfn (hassign _ pre x W _ hi ?_)⟩;clear hy;intro a' Wa hkfa hkpa hia hax;have hla:=hkfa.same _ _ (by omega) hl rfl;have hka:=hkfa.same _ _ (Nat.le_refl _) hk rfl;have hlt:=(Array.getElem?_eq_some_iff.1 hla).1;refine⟨_,run_beginRound hla (by rw[hrec]),?_⟩;have hl2:(Wa.putObj (w.heap.size+1) (.loop { rec .ready none with state:=.busy })).heap[w.heap.size+1]?=some (.loop { rec .ready none with state:=.busy }):=World.putObj_heap_same hlt;have hk2:(Wa.putObj (w.heap.size+1) (.loop { rec .ready none with state:=.busy })).heap[w.heap.size]?=some (.deferred (some [])):=(World.putObj_heap_other (by omega)).trans hka;have hw2:Kq Wa (Wa.putObj (w.heap.size+1) (.loop { rec .ready none with state:=.busy })):=hKb _ _ _ hla rfl rfl;refine wpIn_mono (hbody _ pre x a' _ (hI.putObj _ hia (by omega) hla rfl) ((hAx x a').putObj (s:=()) _ hax (by omega) hla rfl) hlen) ?_;rintro e a3 W3 hp;cases e with
   |normal=>
    obtain⟨hk3,hkp3,hi3⟩:=hp;have hl3:=hk3.same _ _ (by omega) hl2 rfl;have hk3':=hk3.same _ _ (Nat.le_refl _) hk2 rfl;have hlt3:=(Array.getElem?_eq_some_iff.1 hl3).1;have hend:=run_endRound (P:=P) none hl3;rw[hrec] at hend;refine⟨_,_,hend,rfl,⟨hI.putObj _ hi3 (by omega) hl3 rfl,?_,?_⟩,hKt hkpa (hKt (hKt hw2 hkp3) (hKb _ _ _ hl3 rfl rfl)),?_⟩
    ·have:=World.putObj_heap_same (o:=.loop (rec .ready none)) hlt3;rw[hrec] at this ⊢;exact this
    ·exact(World.putObj_heap_other (by omega)).trans hk3'
    ·refine⟨?_,fun k o hk ho hc=>?_⟩
     ·exact Nat.le_trans hkfa.size (Nat.le_trans (by simp) (Nat.le_trans hk3.size (by simp)))
     ·have h1:=hkfa.same k o (by omega) ho hc;have h2:(Wa.putObj (w.heap.size+1) (.loop { rec .ready none with state:=.busy })).heap[k]?=some o:=(World.putObj_heap_other (by omega)).trans h1;have h3:=hk3.same k o (by omega) h2 hc;exact(World.putObj_heap_other (by omega)).trans h3
   |ret=>exact hp.2.elim
   |exit id=>exact hp.2.elim
   |goto t=>exact hp.2.elim
   |panic ch=>exact hp.elim
   |outgrown=>exact hp.elim
  ·rintro e W2 ⟨⟨v,rfl⟩,hi,hl,hk⟩;exact⟨none,_,by have:=run_endLoop (P:=P) hl (by rw[hrec];simp);rw[hrec] at this;exact this,hdone _ (hI.putObj _ hi (by omega) hl rfl) ((World.putObj_heap_other (by omega)).trans hk)⟩
end Ln
end Go.Proofs.YtjobhjemnmleaaaGreatDoor
namespace Go.Proofs.YtjobhjemnmleaaaGreatDoor
open Go.RowKit
namespace Od
section
variable {F:Fence} {n:Nat} {P:Program} {ops:Array Oper} {Q:Exit→Act→World→Prop}
theorem wpAnyIn_inv (N:Nat)(hord:∀(j:Nat) o,ops[j]?=some o→∀e∈o.after,Region.binds .any e=true→e.on<j)(hdst:∀(j:Nat) o d,ops[j]?=some o→o.dst=some d→d<N)
  (J:(Nat→Bool)→(Nat→Value)→World→Prop)
  (hstep:∀i o,ops[i]?=some o→∀(b:Nat→Bool) (a:Act) (w:World),J b (slots a) w→b i=false→(∀e∈o.after,Region.binds .any e=true→b e.on=true)→a.defers=[]→
   ∀K:Act→World→Prop,(∀v w',J (upd b i true) (updo (slots a) o.dst v) w'→K (a.put o.dst v) w')→if Region.wanted o (yielded ops a.tmps)=true then Oper.wpIn F n P o a w K Q else ((∀f,o.about P w a.eval=some f→F.fn f)∧K (a.put o.dst undef) w))
  (hend:∀(a:Act) (w:World),J (fun j=>decide (j<ops.size)) (slots a) w→a.tmps.size=N→a.defers=[]→Q .normal a w):
  ∀(g:Nat) (s:Array Bool) (a:Act) (w:World),s.size=ops.size→s.toList.count false≤g→a.tmps.size=N→a.defers=[]→J (fun j=>s.getD j false) (slots a) w→wpAnyIn F n P .any ops Q g s a w:=by
 have fin:∀(s:Array Bool) (a:Act) (w:World),s.size=ops.size→(∀j,j<ops.size→s.getD j false=true)→a.tmps.size=N→a.defers=[]→J (fun j=>s.getD j false) (slots a) w→Q .normal a w:=by
  intro s a w hs hall hN hd hJ;refine hend a w ?_ hN hd;have:(fun j=>s.getD j false)=fun j=>decide (j<ops.size):=by
   funext j
   by_cases hj:j<ops.size
   ·rw[hall j hj,decide_eq_true hj]
   ·rw[decide_eq_false hj];simp[Array.getD,hs,hj]
  rw[this] at hJ;exact hJ
 intro g
 induction g with
 |zero=>
  intro s a w hs hc hN hd hJ;have hall:∀j,j<ops.size→s.getD j false=true:=by
   intro j hj;have hj':j<s.size:=(by omega);have:=all_true s.toList (by omega) s[j] (by simp);simp[Array.getD,hj',this]
  have hr:Region.ready .any ops s=[]:=by
   cases e:Region.ready .any ops s with
   |nil=>rfl
   |cons i l=>
    exfalso
    obtain⟨h1,o,ho,_⟩:=mem_ready.1 (show i∈Region.ready .any ops s by rw[e];exact List.mem_cons_self);have hi:i<ops.size:=(Array.getElem?_eq_some_iff.1 ho).1;have h2:=hall i hi;have hi':i<s.size:=(by omega);simp[Array.getD,hi'] at h1 h2
    rw[h1] at h2;cases h2
  exact⟨hr,fin s a w hs hall hN hd hJ⟩
 |succ g ih=>
  intro s a w hs hc hN hd hJ;refine⟨fun hr=>fin s a w hs (ready_nil_all hs hord hr) hN hd hJ,fun i hi=>?_⟩;obtain⟨h1,o,ho,hdep⟩:=mem_ready.1 hi;have hio:i<ops.size:=(Array.getElem?_eq_some_iff.1 ho).1;have hi':i<s.size:=by omega
  have hsi:s[i]=false:=by simpa [Array.getD,hi'] using h1
  refine wpOpIn_step ho fun K hK=>hstep i o ho (fun j=>s.getD j false) a w hJ (by simp[Array.getD,hi',hsi]) hdep hd K fun v w' hJ'=>hK _ _ (ih _ _ _ (by simp[hs]) ?_ (by rw[size_put];exact hN) (by rw[defers_put];exact hd) ?_)
  ·have:=count_set s.toList i (by simp[hi',hsi]);rw[Array.toList_setIfInBounds];omega
  ·rw[slots_put (fun k hk=>by rw[hN];exact hdst i o k ho hk)];have:(fun j=>(s.setIfInBounds i true).getD j false)=upd (fun j=>s.getD j false) i true:=by
    funext j
    unfold upd
    by_cases e:j=i
    ·subst e;rw[if_pos rfl];simp[Array.getD,hi']
    ·rw[if_neg e];simp only[Array.getD_eq_getD_getElem?,Array.getElem?_setIfInBounds,if_neg (Ne.symm e)]
   rw[this];exact hJ'
theorem wpIn_region_inv {id:Nat}{a:Act}{w:World}(N:Nat)(hm:P.follows .mixedOrders=true)(hN:a.tmps.size=N)(hd:a.defers=[])(hord:∀(j:Nat) o,ops[j]?=some o→∀e∈o.after,Region.binds .any e=true→e.on<j)(hdst:∀(j:Nat) o d,ops[j]?=some o→o.dst=some d→d<N)
  (J:(Nat→Bool)→(Nat→Value)→World→Prop) (h0:J (fun _=>false) (slots a) w.drew)
  (hstep:∀i o,ops[i]?=some o→∀(b:Nat→Bool) (a:Act) (w:World),J b (slots a) w→b i=false→(∀e∈o.after,Region.binds .any e=true→b e.on=true)→a.defers=[]→
   ∀K:Act→World→Prop,(∀v w',J (upd b i true) (updo (slots a) o.dst v) w'→K (a.put o.dst v) w')→if Region.wanted o (yielded ops a.tmps)=true then Oper.wpIn F n P o a w K Q else ((∀f,o.about P w a.eval=some f→F.fn f)∧K (a.put o.dst undef) w))
  (hend:∀(a:Act) (w:World),J (fun j=>decide (j<ops.size)) (slots a) w→a.tmps.size=N→a.defers=[]→Q .normal a w):(Code.region id ops true).wpIn F n P Q a w:=by
 refine wpIn_region_any hm ?_;refine wpAnyIn_inv N hord hdst J hstep hend ops.size _ a _ (by simp) (by simp) hN hd ?_;have:(fun j=>(Array.replicate ops.size false).getD j false)=fun _=>false:=by
  funext j
  simp[Array.getD]
 rw[this];exact h0
end
end Od
namespace Rg
theorem notwant {ops:Array Oper}{tm:Array Value}{o:Oper}{j t:Nat}{x y:Bool}(hg:o.guard=some (j,x))(hd:(ops[j]?).bind (·.dst)=some t)(hv:tm.getD t undef=.bool y)(hne:(y == x)=false):Region.wanted o (yielded ops tm)=false:=by
 unfold Region.wanted;rw[hg];unfold yielded;simp only[hd,Option.bind_some,getD_bool hv];simpa using hne
end Rg
end Go.Proofs.YtjobhjemnmleaaaGreatDoor
