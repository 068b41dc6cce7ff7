/- The almanac in memory; almanac.at: the event of a rule in a year. -/
import Derived.Test.YtjobhjemnmleaaaGreatDoorR13
import Derived.Shelf.SlGeneric
import Derived.Shelf.SlSortCmp.NoneTotal
import Derived.Ground.SlsfProg
set_option maxRecDepth 100000
set_option maxHeartbeats 4000000
namespace Go.Proofs.YtjobhjemnmleaaaGreatDoor
open Go.RowKit
namespace Oc
def E.zero : E:=⟨0,0,0,0,⟨#[]⟩,0,0⟩
def Pl (T:Nat→Prop)(A:Option Addr)(n:Nat):Prop:=∀ad,A=some ad→0<n→T ad.block
def Memo (l:List Ru.R)(w:World)(b:Nat)(T:Nat→Prop):Prop:=
 ∃(n:Nat) (f:Mi.Fn) (ks:List Int),MapI Tryz.prog 3 w b n f∧ks.Nodup∧ks.length=n∧(∀k∈ks,0≤k∧k≤10000∧(f k).isSome=true)∧
  ∀k v,f k=some v→k∈ks∧∃A c,v=.slice A (year l k).length c∧Reads w w.heap.size 7 A (year l k).length ((year l k).flatMap E.cells)∧Pl T A (year l k).length
structure Alm (l:List Ru.R)(rA:Option Addr)(rc:Nat)(pA:Option Addr)(pc:Nat)(w:World)(g b:Nat)(T:Nat→Prop):Prop where
 at_:At w g [.slice rA l.length rc,.slice pA (pls l 0).length pc,.map (some b)]
 rules:Reads w w.heap.size 11 rA l.length (l.flatMap Ru.R.cells)
 places:Reads w w.heap.size 1 pA (pls l 0).length ((pls l 0).map fun p:Nat=>.int .i64 (p:Int))
 memo:Memo l w b T
 gT:T g∧T b
 rT:Pl T rA l.length
 pT:Pl T pA (pls l 0).length
section
variable {l:List Ru.R} {rA pA:Option Addr} {rc pc:Nat} {w w':World} {g b:Nat} {T T':Nat→Prop}
theorem Pl.mono {A:Option Addr}{n:Nat}(h:Pl T A n)(ht:∀k,T k→T' k):Pl T' A n:=fun ad ha hn=>ht _ (h ad ha hn)
theorem Pl.old {B size m:Nat}{A:Option Addr}{xs:List Value}(h:Pl T A m)(hr:Reads w B size A m xs):Pl (fun k=>T k∧k<B) A m:=fun ad ha hn=>by
 obtain⟨ad',e,hb,_⟩:=hr.2 hn;rw[ha] at e;cases e
 exact⟨h ad ha hn,hb⟩
theorem Memo.below (h:Memo l w b T)(hb:Below w.heap.size w w'):Memo l w' b T:=by
 obtain⟨n,f,ks,h1,h2,h3,h4,h5⟩:=h;refine⟨n,f,ks,h1.below hb,h2,h3,h4,fun k v hk=>?_⟩;obtain⟨k1,A,c,k2,k3,k4⟩:=h5 k v hk;exact⟨k1,A,c,k2,(k3.below hb).more hb.size,k4⟩
theorem Alm.below (h:Alm l rA rc pA pc w g b T)(hb:Below w.heap.size w w'):Alm l rA rc pA pc w' g b T:=
 ⟨h.at_.call hb,(h.rules.below hb).more hb.size,(h.places.below hb).more hb.size,h.memo.below hb,h.gT,h.rT,h.pT⟩
theorem reads_besideI {P:Program}{k:TypeId}{n:Nat}{f:Mi.Fn}{B size m:Nat}{A:Option Addr}{xs:List Value}(hr:Reads w B size A m xs)(h:MapI P k w b n f)(hg:w.grownBy w' (some b)):Reads w' B size A m xs:=
 ⟨hr.1,fun hn=>by
  obtain⟨ad,e,hb,hc⟩:=hr.2 hn;exact⟨ad,e,hb,fun j u hu=>h.keeps hg (hc j u hu)⟩⟩
theorem at_ne_mapI {P:Program}{k:TypeId}{n:Nat}{f:Mi.Fn}{x:Value}{xs:List Value}(hA:At w g (x :: xs))(h:MapI P k w b n f):g≠b:=by
 intro e;subst e;obtain⟨o,ho,hc⟩:=h.not_cells;obtain⟨o',ho',hc'⟩:=cells_of_cell (hA.cell 0 x rfl);rw[show (⟨g,0,none⟩:Addr).block=g from rfl,ho] at ho';cases ho'
 rw[hc] at hc';cases hc'
theorem Memo.reads {B size m:Nat}{A:Option Addr}{xs:List Value}(h:Memo l w b T)(hr:Reads w B size A m xs)(hg:w.grownBy w' (some b)):Reads w' B size A m xs:=by
 obtain⟨n,f,ks,h1,_⟩:=h;exact reads_besideI hr h1 hg
theorem Memo.at_ {g:Nat}{x:Value}{xs:List Value}(h:Memo l w b T)(hA:At w g (x :: xs))(hg:w.grownBy w' (some b)):At w' g (x :: xs):=by
 obtain⟨n,f,ks,h1,_⟩:=h;exact Lk.at_kept hA hg (fun e=>at_ne_mapI hA h1 (by injection e))
theorem Memo.lt (h:Memo l w b T):b<w.heap.size:=by
 obtain⟨n,f,ks,h1,_⟩:=h;exact h1.lt
theorem Alm.grown (h:Alm l rA rc pA pc w g b T)(hg:w.grownBy w' (some b))(hm:Memo l w' b T):Alm l rA rc pA pc w' g b T:=
 ⟨h.memo.at_ h.at_ hg,(h.memo.reads h.rules hg).more hg.size,(h.memo.reads h.places hg).more hg.size,hm,h.gT,h.rT,h.pT⟩
theorem Memo.cell {p:Addr}{v:Value}(h:Memo l w b T)(hc:w.cell? p=some v)(hg:w.grownBy w' (some b)):w'.cell? p=some v:=by
 obtain⟨n,f,ks,h1,_⟩:=h;exact h1.keeps hg hc
theorem Memo.mono (h:Memo l w b T)(ht:∀k,T k→T' k):Memo l w b T':=by
 obtain⟨n,f,ks,h1,h2,h3,h4,h5⟩:=h;refine⟨n,f,ks,h1,h2,h3,h4,fun k v hk=>?_⟩;obtain⟨k1,A,c,k2,k3,k4⟩:=h5 k v hk;exact⟨k1,A,c,k2,k3,k4.mono ht⟩
theorem Alm.mono (h:Alm l rA rc pA pc w g b T)(ht:∀k,T k→T' k):Alm l rA rc pA pc w g b T':=
 ⟨h.at_,h.rules,h.places,h.memo.mono ht,⟨ht _ h.gT.1,ht _ h.gT.2⟩,h.rT.mono ht,h.pT.mono ht⟩
theorem Alm.old (h:Alm l rA rc pA pc w g b T):Alm l rA rc pA pc w g b (fun k=>T k∧k<w.heap.size):=by
 refine⟨h.at_,h.rules,h.places,?_,⟨⟨h.gT.1,h.at_.lt⟩,⟨h.gT.2,h.memo.lt⟩⟩,h.rT.old h.rules,h.pT.old h.places⟩;obtain⟨n,f,ks,h1,h2,h3,h4,h5⟩:=h.memo;refine⟨n,f,ks,h1,h2,h3,h4,fun k v hk=>?_⟩;obtain⟨k1,A,c,k2,k3,k4⟩:=h5 k v hk;exact⟨k1,A,c,k2,k3,k4.old k3⟩
theorem Reads.set {B size m:Nat}{A:Option Addr}{xs:List Value}(hr:Reads w B size A m xs)(hp:Pl T A m){p:Addr}(ht:¬T p.block)(v:Value):Reads (w.setCell p v) B size A m xs:=
 ⟨hr.1,fun hn=>by
  obtain⟨ad,e,hb,hc⟩:=hr.2 hn;refine⟨ad,e,hb,fun j u hu=>?_⟩;rw[World.cell?_setCell_other w p (ad.add j) v (fun e2=>ht (by rw[e2,block_of_add];exact hp ad e hn))];exact hc j u hu⟩
theorem Alm.set (h:Alm l rA rc pA pc w g b T){p:Addr}(ht:¬T p.block)(v:Value):Alm l rA rc pA pc (w.setCell p v) g b T:=by
 have hs:(w.setCell p v).heap.size=w.heap.size:=heap_set w p v;refine⟨h.at_.set_other p v (fun e=>ht (by rw[e];exact h.gT.1)),?_,?_,?_,h.gT,h.rT,h.pT⟩
 ·rw[hs];exact Oc.Reads.set h.rules h.rT ht v
 ·rw[hs];exact Oc.Reads.set h.places h.pT ht v
 ·obtain⟨n,f,ks,h1,h2,h3,h4,h5⟩:=h.memo;refine⟨n,f,ks,h1.setCell (fun e=>ht (by rw[← e];exact h.gT.2)) v,h2,h3,h4,fun k v' hk=>?_⟩;obtain⟨k1,A,c,k2,k3,k4⟩:=h5 k v' hk;exact⟨k1,A,c,k2,by rw[hs];exact Oc.Reads.set k3 k4 ht v,k4⟩
end
theorem keys_le {ks:List Int}(h:ks.Nodup)(hb:∀k∈ks,0≤k∧k≤10000):ks.length≤10001:=by
 have:=Lk.nodup_len ks ((List.range 10001).map fun n:Nat=>(n:Int)) h (fun k hk=>by
  obtain⟨h1,h2⟩:=hb k hk;refine List.mem_map.2 ⟨k.toNat,List.mem_range.2 (by omega),by omega⟩)
 simpa using this
theorem at_results {tmps:Array Value}{w:World}{g:Nat}{e:E}{t:Bool}(h4:tmps[6]?.getD undef=.pointer (some ⟨g,0,none⟩))(h5:tmps[7]?.getD undef=.bool t)(hA:At w g e.cells):
  (results Tryz.f196 tmps).run Tryz.prog w=.ok (.tuple #[e.v,.bool t]) w:=by
 have c0:=hA.cell 0 _ rfl;have c1:=hA.cell 1 _ rfl;have c2:=hA.cell 2 _ rfl;have c3:=hA.cell 3 _ rfl;have c4:=hA.cell 4 _ rfl;have c5:=hA.cell 5 _ rfl;have c6:=hA.cell 6 _ rfl;unfold E.v;simp[results,Tryz.results196,go_sem,h4,h5,c0,c1,c2,c3,c4,c5,c6]
def atS (l:List Ru.R)(p:Nat)(y:Int):E:=if holds (rl l p) y=true then mk (rl l p) p y else E.zero
end Oc
theorem ocAt_any (l:List Ru.R)(rA pA:Option Addr)(rc pc g b:Nat)(p:Nat)(y:Int)(w:World){T:Nat→Prop}(hM:Oc.Alm l rA rc pA pc w g b T)(hW:Wo w)(hp:p<l.length):
  Calls Tryz.prog 196 #[.pointer (some ⟨g,0,none⟩),.int .i64 (p:Int),.int .i64 y] w fun e w'=>e=.returned (.tuple #[(Oc.atS l p y).v,.bool (Oc.holds (Oc.rl l p) y)])∧Below w.heap.size w w':=by
 have a0:=hM.at_.cell 0 _ rfl;have za:=hM.at_.lt;obtain⟨ad,x,rfl,hab,Hx,HLc⟩:=Ix.reads_cells (enc:=Ru.R.cells) (m:=11) (fun _=>rfl) rfl hM.rules hp;have hr:Oc.rl l p=x:=Oc.rl_at Hx.out;unfold Oc.atS;rw[hr];clear hr Hx hM;obtain⟨nm,fr,tt,mo,kk,nn,d,sc,cc,sv,lt⟩:=x;replace HLc:=HLc.out;have x0:w.cell? (ad.add (p*11))=some (.string nm):=HLc 0 _ rfl;have x1:w.cell? ⟨(ad.add (p*11)).block,(ad.add (p*11)).off+1,none⟩=some (.int .i64 fr):=HLc 1 _ rfl;have x2:w.cell? ⟨(ad.add (p*11)).block,(ad.add (p*11)).off+2,none⟩=some (.int .i64 tt):=HLc 2 _ rfl;have x3:w.cell? ⟨(ad.add (p*11)).block,(ad.add (p*11)).off+3,none⟩=some (.int .i64 mo):=HLc 3 _ rfl;have x4:w.cell? ⟨(ad.add (p*11)).block,(ad.add (p*11)).off+4,none⟩=some (.int .u8 kk):=HLc 4 _ rfl;have x5:w.cell? ⟨(ad.add (p*11)).block,(ad.add (p*11)).off+5,none⟩=some (.int .i64 nn):=HLc 5 _ rfl;have x6:w.cell? ⟨(ad.add (p*11)).block,(ad.add (p*11)).off+6,none⟩=some (.int .i64 d):=HLc 6 _ rfl;have x7:w.cell? ⟨(ad.add (p*11)).block,(ad.add (p*11)).off+7,none⟩=some (.int .i64 sc):=HLc 7 _ rfl;have x8:w.cell? ⟨(ad.add (p*11)).block,(ad.add (p*11)).off+8,none⟩=some (.int .u8 cc):=HLc 8 _ rfl;have x9:w.cell? ⟨(ad.add (p*11)).block,(ad.add (p*11)).off+9,none⟩=some (.int .i64 sv):=HLc 9 _ rfl;have x10:w.cell? ⟨(ad.add (p*11)).block,(ad.add (p*11)).off+10,none⟩=some (.string lt):=HLc 10 _ rfl
 have hab2:(ad.add (p*11)).block<w.heap.size:=by rw[block_of_add];exact hab
 have q1:=am p
 have q2:(p:Int)<(l.length:Int):=by omega
 obtain⟨n1,hn1⟩:=aj (l.length)
 rw[hn1] at a0 q2;have hNm:=ak fun W hw=>nominal_any y mo kk nn d sc cc W hw
 obtain⟨t1,t2,hnm⟩:∃a b,Mo.nom kk nn d y mo sc cc=(a,b):=⟨_,_,rfl⟩
 have hh:Oc.holds ⟨nm,fr,tt,mo,kk,nn,d,sc,cc,sv,lt⟩ y=(decide (fr≤y) && (decide (y≤tt) && decide (t2=0))):=by
  unfold Oc.holds Oc.nomOf;simp only[hnm]
 have hmk:Oc.mk ⟨nm,fr,tt,mo,kk,nn,d,sc,cc,sv,lt⟩ p y=⟨t1,cc,sv,0,lt,p,y⟩:=by
  unfold Oc.mk Oc.nomOf;simp only[hnm]
 rw[hh,hmk];rw[hnm] at hNm;have HW:=ak hW;obtain⟨W2,hW2⟩:=aj ((w.alloc (.cells #[.int .i64 0,.int .u8 0,.int .i64 0,.int .i64 0,.string ⟨#[]⟩,.int .i64 0,.int .i64 0] 314)).alloc (.cells #[.string nm,.int .i64 fr,.int .i64 tt,.int .i64 mo,.int .u8 kk,.int .i64 nn,.int .i64 d,.int .i64 sc,.int .u8 cc,.int .i64 sv,.string lt] 112))
 have hz:=(At.new w #[.int .i64 0,.int .u8 0,.int .i64 0,.int .i64 0,.string ⟨#[]⟩,.int .i64 0,.int .i64 0] 314).allocO (.cells #[.string nm,.int .i64 fr,.int .i64 tt,.int .i64 mo,.int .u8 kk,.int .i64 nn,.int .i64 d,.int .i64 sc,.int .u8 cc,.int .i64 sv,.string lt] 112);have hb0:=((Below.refl w.heap.size w).alloc (Nat.le_refl _) (.cells #[.int .i64 0,.int .u8 0,.int .i64 0,.int .i64 0,.string ⟨#[]⟩,.int .i64 0,.int .i64 0] 314)).alloc (by simp) (.cells #[.string nm,.int .i64 fr,.int .i64 tt,.int .i64 mo,.int .u8 kk,.int .i64 nn,.int .i64 d,.int .i64 sc,.int .u8 cc,.int .i64 sv,.string lt] 112);have hRr:=At.new (w.alloc (.cells #[.int .i64 0,.int .u8 0,.int .i64 0,.int .i64 0,.string ⟨#[]⟩,.int .i64 0,.int .i64 0] 314)) #[.string nm,.int .i64 fr,.int .i64 tt,.int .i64 mo,.int .u8 kk,.int .i64 nn,.int .i64 d,.int .i64 sc,.int .u8 cc,.int .i64 sv,.string lt] 112;rw[World.size_alloc] at hRr;rw[hW2] at hz hb0 hRr;have HZ:=ak hz;have HB:=ak hb0;have HR:=ak hRr;have HW2:=ak hW2;clear hh hmk hnm hW hW2 hz hb0 hRr hn1 HLc
 by_cases h1:fr≤y
 case neg=>
  have p1:y<fr:=by omega
  rw[decide_eq_false h1,Bool.false_and,if_neg (by decide)];go_enter Tryz.func196,Tryz.ntmps196
  go_wp2;rw[HW2.out];exact bodyPost_ret (Oc.at_results (e:=Oc.E.zero) rfl rfl HZ.out) rfl ⟨rfl,HB.out⟩
 rw[decide_eq_true h1,Bool.true_and]
 by_cases h2:y≤tt
 case neg=>
  have p1:¬y<fr:=by omega
  have p2:tt<y:=by omega
  rw[decide_eq_false h2,Bool.false_and,if_neg (by decide)];go_enter Tryz.func196,Tryz.ntmps196
  go_wp2;rw[HW2.out];exact bodyPost_ret (Oc.at_results (e:=Oc.E.zero) rfl rfl HZ.out) rfl ⟨rfl,HB.out⟩
 rw[decide_eq_true h2,Bool.true_and];have p1:¬y<fr:=by omega
 have p2:¬tt<y:=by omega
 by_cases ht:t2=0
 case neg=>
  have b1:(t2 != 0)=true:=by simpa using ht
  have b2:(t2 == 0)=false:=by simpa using ht
  rw[decide_eq_false ht,if_neg (by decide)];go_enter Tryz.func196,Tryz.ntmps196
  go_wp2_with fail
  rw[HW2.out];refine(hNm.out _ (HW.out.below HB.out)).mono ?_;rintro e w3 ⟨rfl,hb⟩;have hz3:=HZ.out.call hb;have hr3:=HR.out.call hb;have HB3:=ak (below_then HB.out hb);obtain⟨⟨z0,z1,z2,z3,z4,z5,z6⟩,f0,f1,f2,f3,f4,f5,f6⟩:=hz3.seven;have r5:=hr3.cell 7 _ rfl;have r6:=hr3.cell 8 _ rfl;have r7:=hr3.cell 9 _ rfl;have r8:=hr3.cell 10 _ rfl;have y1:=hz3.lt;have y2:=hr3.lt;have HZ3:=ak hz3;clear hb hz3 hr3;go_wp2;have hz3:=HZ3.out;exact bodyPost_ret (Oc.at_results (e:=Oc.E.zero) rfl rfl (((((((hz3.set 0 (.int .i64 0)).set 1 (.int .u8 0)).set 2 (.int .i64 0)).set 3 (.int .i64 0)).set 4 (.string ⟨#[]⟩)).set 5 (.int .i64 0)).set 6 (.int .i64 0))) rfl ⟨rfl,(((((((HB3.out.setCell (p:=⟨w.heap.size,0,none⟩) (Nat.le_refl _) _).setCell (p:=⟨w.heap.size,1,none⟩) (Nat.le_refl _) _).setCell (p:=⟨w.heap.size,2,none⟩) (Nat.le_refl _) _).setCell (p:=⟨w.heap.size,3,none⟩) (Nat.le_refl _) _).setCell (p:=⟨w.heap.size,4,none⟩) (Nat.le_refl _) _).setCell (p:=⟨w.heap.size,5,none⟩) (Nat.le_refl _) _).setCell (p:=⟨w.heap.size,6,none⟩) (Nat.le_refl _) _)⟩
 subst ht;rw[decide_eq_true rfl,if_pos rfl];go_enter Tryz.func196,Tryz.ntmps196
 go_wp2_with fail
 rw[HW2.out];refine(hNm.out _ (HW.out.below HB.out)).mono ?_;rintro e w3 ⟨rfl,hb⟩;have hz3:=HZ.out.call hb;have hr3:=HR.out.call hb;have HB3:=ak (below_then HB.out hb);obtain⟨⟨z0,z1,z2,z3,z4,z5,z6⟩,f0,f1,f2,f3,f4,f5,f6⟩:=hz3.seven;have r5:=hr3.cell 7 _ rfl;have r6:=hr3.cell 8 _ rfl;have r7:=hr3.cell 9 _ rfl;have r8:=hr3.cell 10 _ rfl;have y1:=hz3.lt;have y2:=hr3.lt;have HZ3:=ak hz3;clear hb hz3 hr3;go_wp2;have hz3:=HZ3.out;have hb3:Below w.heap.size w (((((((w3.setCell ⟨w.heap.size,0,none⟩ (.int .i64 t1)).setCell ⟨w.heap.size,1,none⟩ (.int .u8 cc)).setCell ⟨w.heap.size,2,none⟩ (.int .i64 sv)).setCell ⟨w.heap.size,3,none⟩ (.int .i64 0)).setCell ⟨w.heap.size,4,none⟩ (.string lt)).setCell ⟨w.heap.size,5,none⟩ (.int .i64 (p:Int))).setCell ⟨w.heap.size,6,none⟩ (.int .i64 y)):=(((((((HB3.out.setCell (p:=⟨w.heap.size,0,none⟩) (Nat.le_refl _) _).setCell (p:=⟨w.heap.size,1,none⟩) (Nat.le_refl _) _).setCell (p:=⟨w.heap.size,2,none⟩) (Nat.le_refl _) _).setCell (p:=⟨w.heap.size,3,none⟩) (Nat.le_refl _) _).setCell (p:=⟨w.heap.size,4,none⟩) (Nat.le_refl _) _).setCell (p:=⟨w.heap.size,5,none⟩) (Nat.le_refl _) _).setCell (p:=⟨w.heap.size,6,none⟩) (Nat.le_refl _) _)
 exact bodyPost_ret (Oc.at_results (e:=⟨t1,cc,sv,0,lt,p,y⟩) rfl rfl ((((((((hz3.set 0 (.int .i64 t1)).set 1 (.int .u8 cc)).set 2 (.int .i64 sv)).set 3 (.int .i64 0)).set 4 (.string lt)).set 5 (.int .i64 (p:Int))).set 6 (.int .i64 y)).allocO _)) rfl ⟨rfl,hb3.alloc hb3.size _⟩
end Go.Proofs.YtjobhjemnmleaaaGreatDoor
namespace Go.Proofs
open Go.Shelf
def Tryz.sortEv_ren : Go.Shelf.Ren:=⟨fun|6=>198|15=>208|14=>207|28=>221|29=>222|20=>213|21=>214|22=>215|23=>216|24=>217|25=>218|26=>219|27=>220|46=>226|47=>227|48=>228|49=>229|50=>230|57=>235|n=>n,fun|22=>319|24=>314|25=>333|3=>3|39=>321|0=>0|53=>355|55=>357|4=>4|46=>349|45=>348|50=>167|5=>5|9=>9|66=>359|70=>363|76=>366|77=>367|n=>n,fun|n=>n⟩
theorem Tryz.sortEv : Go.Proofs.SlLaysF0.n6 Tryz.prog Tryz.sortEv_ren:={
 mixed:=by kernel_rfl
 f6:=⟨Tryz.f198.name,by decide,Tryz.func198.trans (congrArg some (by kernel_rfl))⟩
 f14:=⟨Tryz.f207.name,by decide,Tryz.func207.trans (congrArg some (by kernel_rfl))⟩
 f15:=Tryz.func208.trans (congrArg some (by kernel_rfl))
 f20:=⟨Tryz.f213.name,by decide,Tryz.func213.trans (congrArg some (by kernel_rfl))⟩
 f21:=⟨Tryz.f214.name,by decide,Tryz.func214.trans (congrArg some (by kernel_rfl))⟩
 f22:=⟨Tryz.f215.name,by decide,Tryz.func215.trans (congrArg some (by kernel_rfl))⟩
 f23:=⟨Tryz.f216.name,by decide,Tryz.func216.trans (congrArg some (by kernel_rfl))⟩
 f24:=⟨Tryz.f217.name,by decide,Tryz.func217.trans (congrArg some (by kernel_rfl))⟩
 f25:=⟨Tryz.f218.name,by decide,Tryz.func218.trans (congrArg some (by kernel_rfl))⟩
 f26:=⟨Tryz.f219.name,by decide,Tryz.func219.trans (congrArg some (by kernel_rfl))⟩
 f27:=⟨Tryz.f220.name,by decide,Tryz.func220.trans (congrArg some (by kernel_rfl))⟩
 f28:=Tryz.func221.trans (congrArg some (by kernel_rfl))
 f29:=Tryz.func222.trans (congrArg some (by kernel_rfl))
 f46:=⟨Tryz.f226.name,by decide,Tryz.func226.trans (congrArg some (by kernel_rfl))⟩
 f47:=Tryz.func227.trans (congrArg some (by kernel_rfl))
 f48:=Tryz.func228.trans (congrArg some (by kernel_rfl))
 f49:=⟨Tryz.f229.name,by decide,Tryz.func229.trans (congrArg some (by kernel_rfl))⟩
 f50:=⟨Tryz.f230.name,by decide,Tryz.func230.trans (congrArg some (by kernel_rfl))⟩
 f57:=⟨Tryz.f235.name,by decide,Tryz.func235.trans (congrArg some (by kernel_rfl))⟩
 t0:=Tryz.underlying0
 a0:=Tryz.isAgg0
 z0:=Tryz.sizeOf0
 v0:=Tryz.zeroValue0
 t3:=Tryz.underlying3
 a3:=Tryz.isAgg3
 z3:=Tryz.sizeOf3
 v3:=Tryz.zeroValue3
 t4:=Tryz.underlying4
 a4:=Tryz.isAgg4
 z4:=Tryz.sizeOf4
 v4:=Tryz.zeroValue4
 t5:=Tryz.underlying5
 a5:=Tryz.isAgg5
 z5:=Tryz.sizeOf5
 v5:=Tryz.zeroValue5
 t9:=Tryz.underlying9
 a9:=Tryz.isAgg9
 z9:=Tryz.sizeOf9
 v9:=Tryz.zeroValue9
 t22:=Tryz.underlying319
 a22:=Tryz.isAgg319
 z22:=Tryz.sizeOf319
 v22:=Tryz.zeroValue319
 t25:=Tryz.underlying333
 a25:=Tryz.isAgg333
 z25:=Tryz.sizeOf333
 v25:=Tryz.zeroValue333
 t39:=Tryz.underlying321
 a39:=Tryz.isAgg321
 z39:=Tryz.sizeOf321
 v39:=Tryz.zeroValue321
 t45:=Tryz.underlying348
 a45:=Tryz.isAgg348
 z45:=Tryz.sizeOf348
 v45:=Tryz.zeroValue348
 t46:=Tryz.underlying349
 a46:=Tryz.isAgg349
 z46:=Tryz.sizeOf349
 v46:=Tryz.zeroValue349
 t50:=Tryz.underlying167
 a50:=Tryz.isAgg167
 z50:=Tryz.sizeOf167
 v50:=Tryz.zeroValue167
 t53:=Tryz.underlying355
 a53:=Tryz.isAgg355
 z53:=Tryz.sizeOf355
 v53:=Tryz.zeroValue355
 t55:=Tryz.underlying357
 a55:=Tryz.isAgg357
 z55:=Tryz.sizeOf357
 v55:=Tryz.zeroValue357
 t66:=Tryz.underlying359
 a66:=Tryz.isAgg359
 z66:=Tryz.sizeOf359
 v66:=Tryz.zeroValue359
 t70:=Tryz.underlying363
 a70:=Tryz.isAgg363
 z70:=Tryz.sizeOf363
 v70:=Tryz.zeroValue363
 t76:=Tryz.underlying366
 a76:=Tryz.isAgg366
 z76:=Tryz.sizeOf366
 v76:=Tryz.zeroValue366
 t77:=Tryz.underlying367
 a77:=Tryz.isAgg367
 z77:=Tryz.sizeOf367
 v77:=Tryz.zeroValue367 }
end Go.Proofs
namespace Go.Proofs.YtjobhjemnmleaaaGreatDoor
open Go.RowKit
open Go.Sort
namespace Oc
instance:Inhabited E:=⟨E.zero⟩
theorem lt_less : ltOf cf=lessB:=by
 funext a b
 unfold ltOf;exact cf_less a b
theorem swo : SWO (ltOf cf) where
 irrefl x:=by rw[lt_less];exact less_irr x
 trans x y z h k:=by rw[lt_less] at *;exact less_trans h k
 ntrans x y z h k:=by rw[lt_less] at *;exact less_weak k h
theorem flat_get {x:List E}:∀(t:Nat) (u:Value),(x.flatMap E.cells)[t]?=some u→∃e,x[t / 7]?=some e∧e.cells[t % 7]?=some u:=by
 induction x with
 |nil=>intro t u h;simp at h
 |cons a x ih=>
  intro t u h;rw[List.flatMap_cons] at h;have hl:a.cells.length=7:=rfl
  by_cases ht:t<7
  ·rw[List.getElem?_append_left (by omega)] at h;exact⟨a,by rw[show t / 7=0 by omega];rfl,by rw[show t % 7=t by omega];exact h⟩
  ·rw[List.getElem?_append_right (by omega),hl] at h;obtain⟨e,h1,h2⟩:=ih (t - 7) u h;refine⟨e,?_,?_⟩
   ·rw[show t / 7=(t - 7) / 7+1 by omega,List.getElem?_cons_succ];exact h1
   ·rw[show t % 7=(t - 7) % 7 by omega];exact h2
theorem flat_len : ∀x:List E,(x.flatMap E.cells).length=x.length*7
 |[]=>rfl
 |a :: x=>by
  rw[List.flatMap_cons,List.length_append,flat_len x,List.length_cons];show 7+x.length*7=_
  omega
def SortRet (w:World)(g:Nat)(A:Option Addr)(x:List E)(e:Ending)(w':World):Prop:=
 e=.returned (.tuple #[])∧∃x',Srt x'∧x'.Perm x∧Reads w' w'.heap.size 7 A x.length (x'.flatMap E.cells)∧w.grownBy w' (some g)
end Oc
theorem sortEv_none (c:Nat)(w:World):Calls Tryz.prog 198 #[.slice none 0 c,.func (.func 199) #[] #[]] w fun e w'=>e=.returned (.tuple #[])∧w'=w:=
 AnyF.slices_SortFunc_none Tryz.sortEv none c _ w
theorem sortEv_some (x:List Oc.E)(g c base:Nat)(w:World)(hO:w.ownsRow base 314 7 (.slice (some ⟨g,0,none⟩) x.length c) x.length (x.flatMap Oc.E.cells))(hxl:x.length≤1000000000000):
  Calls Tryz.prog 198 #[.slice (some ⟨g,0,none⟩) x.length c,.func (.func 199) #[] #[]] w (Oc.SortRet w g (some ⟨g,0,none⟩) x):=by
 have eg:∀args w,(callFunc 199 args).run Tryz.prog w=.ok (.enter 199 args) w:=enters_of Tryz.func199 (by kernel_rfl) rfl;obtain⟨g',cap,cur,hv,_,hblk,hnc,hcm,hsz,htk⟩:∃g' cap cur,Value.slice (some ⟨g,0,none⟩) x.length c=.slice (some ⟨g',0,none⟩) x.length cap∧base≤g'∧w.heap[g']?=some (.cells cur 314 (0,0))∧x.length≤cap∧cap≤maxLen∧cur.size=cap*7∧cur.toList.take (x.length*7)=x.flatMap Oc.E.cells:=by
  rcases hO.2 with ⟨h,_⟩|h
  ·cases h
  ·exact h
 obtain rfl:g=g':=by injection hv with h;injection h with h;injection h
 have hlt:g<w.heap.size:=by
  obtain⟨h,_⟩:=Array.getElem?_eq_some_iff.1 hblk;exact h
 have hcells:=hO.cells (g:=g) rfl;have hH:HoldsK Oc.E.cells 7 w g 0 x.toArray:=by
  intro j hj;have hj7:j<x.length*7:=by simpa using hj
  have hj2:j<(x.flatMap Oc.E.cells).length:=by rw[Oc.flat_len];exact hj7
  obtain⟨e,h1,h2⟩:=Oc.flat_get j _ (List.getElem?_eq_getElem hj2);have h3:=hcells j _ (List.getElem?_eq_getElem hj2);have h4:(flatK Oc.E.cells 7 x.toArray)[j]! = (x.flatMap Oc.E.cells)[j]:=by
   rw[get_flatK _ _ _ _ (by simpa using hj7)];have e1:x.toArray[j / 7]! = e:=by
    rw[getElem!_def];simp[h1]
   rw[e1,getElem!_def,h2]
  have hadd:(⟨g,0,none⟩:Addr).add j=⟨g,0+j,none⟩:=by
   unfold Addr.add;split
   ·subst_vars;rfl
   ·rfl
  rw[hadd] at h3;refine⟨?_,?_⟩
  ·show _=some (id _)
   rw[h4];exact h3
  ·simp[World.frozen?,hblk]
 have hcon:=AnyQ.slices_SortFunc Tryz.sortEv 7 Tryz.isAgg314 Tryz.sizeOf314 Oc.E.cells (fun _=>rfl) (fun e v hv=>by
  simp[Oc.E.cells] at hv
  rcases hv with rfl|rfl|rfl|rfl|rfl|rfl|rfl <;> rfl) Oc.cf Oc.swo 199 #[] g 0 c x.toArray w eg (fun m os dk _ a b=>by
  refine(order_any a b _).mono fun e w' h=>⟨h.1,?_⟩
  obtain⟨q,os',h2⟩:=h.2;exact⟨q,os',h2⟩) hH hlt (by
  have:x.toArray.size=x.length:=by simp
  rw[this];omega)
 have e0:x.toArray.size=x.length:=by simp
 rw[e0] at hcon;refine Calls.mono (R:=_) hcon ?_;rintro e w' ⟨rfl,d',n,os,hp,hs,rfl⟩;obtain⟨p1,_,p3⟩:=hp;rw[e0] at p1;have q1:(d'.extract 0 x.length).toList=d'.toList:=by rw[← p1];simp
 have q2:(x.toArray.extract 0 x.length).toList=x:=by simp
 rw[q1,q2] at p3;refine⟨rfl,d'.toList,?_,p3,?_,?_⟩
 ·unfold Oc.Srt;rw[List.pairwise_iff_getElem];intro i j hi hj hij;have:=hs i j (Nat.zero_le _) hij (by rw[← p1];simpa using hj);rw[Oc.lt_less,getElem!_pos d' j (by simpa using hj),getElem!_pos d' i (by simpa using hi)] at this;simpa using this
 ·have hH2:=holdsK_sortWorldK_c Oc.E.cells 7 w g 0 x.toArray d' n os hH hlt (by rw[p1,e0]);have hl:d'.toList.length=x.length:=p3.length_eq;refine⟨by rw[Oc.flat_len,hl],fun _=>⟨_,rfl,Nat.lt_of_lt_of_le hlt (size_sortWorldK_c Oc.E.cells 7 w g 0 n d' os),fun j u hu=>?_⟩⟩;have hj2:=(List.getElem?_eq_some_iff.1 hu).1;rw[Oc.flat_len,hl] at hj2;have h3:=(hH2 j (by simpa [p1] using hj2)).1;obtain⟨e,h1,h2⟩:=Oc.flat_get j _ hu;have h4:(flatK Oc.E.cells 7 d')[j]! = u:=by
   rw[get_flatK _ _ _ _ (by rw[p1];exact hj2)];have e1:d'[j / 7]! = e:=by
    rw[getElem!_def,← Array.getElem?_toList,h1]
   rw[e1,getElem!_def,h2]
  have hadd:(⟨g,0,none⟩:Addr).add j=⟨g,0+j,none⟩:=by
   unfold Addr.add;split
   ·subst_vars;rfl
   ·rfl
  rw[hadd];rw[show id (flatK Oc.E.cells 7 d')[j]! = u from h4] at h3;exact h3
 ·refine⟨rfl,rfl,rfl,size_sortWorldK_c Oc.E.cells 7 w g 0 n d' os,fun k hk hne=>?_⟩;have hkg:k≠g:=fun e=>hne (by rw[e])
  show ((w.heap.modify g _) ++ os)[k]?=_
  rw[Array.getElem?_append_left (by simpa using hk),Array.getElem?_modify];rw[if_neg (fun e=>hkg e.symm)]
end Go.Proofs.YtjobhjemnmleaaaGreatDoor
namespace Go.Proofs.YtjobhjemnmleaaaGreatDoor
open Go.RowKit
namespace Oc
theorem place_at {l:List Ru.R}{w:World}{B:Nat}{pA:Option Addr}{k:Nat}(h:Reads w B 1 pA (pls l 0).length ((pls l 0).map fun p:Nat=>.int .i64 (p:Int)))(hk:k<(pls l 0).length):
  ∃ad p,pA=some ad∧ad.block<B∧(pls l 0)[k]?=some p∧w.cell? (ad.add k)=some (.int .i64 (p:Int))∧p<l.length:=by
 obtain⟨ad,u,h1,h2,h3,h4⟩:=h.at_ hk;obtain⟨p,hp⟩:∃p,(pls l 0)[k]?=some p:=⟨_,List.getElem?_eq_getElem hk⟩
 rw[List.getElem?_map,hp] at h3;have:Value.int .i64 (p:Int)=u:=Option.some.inj h3;subst this;exact⟨ad,p,h1,h2,hp,h4,pls_lt (List.mem_of_getElem? hp)⟩
end Oc
theorem covered_any (l:List Ru.R)(rA pA:Option Addr)(rc pc g b:Nat)(top:Int)(w:World){T:Nat→Prop}(hM:Oc.Alm l rA rc pA pc w g b T)(hl:l.length≤4096):
  Calls Tryz.prog 204 #[.pointer (some ⟨g,0,none⟩),.int .i64 top] w fun e w'=>e=.returned (.int .i64 (Oc.covered l top))∧Below w.heap.size w w':=by
 unfold Oc.covered;obtain⟨P,hP⟩:=aj (Oc.pls l 0)
 obtain⟨np,hnp⟩:=aj (P.length)
 obtain⟨nl,hnl⟩:=aj (l.length)
 have hle:np≤nl:=by
  have:∀(l:List Ru.R) (p:Nat),(Oc.pls l p).length≤l.length:=by
   intro l
   induction l with
   |nil=>intro p;exact Nat.le_refl _
   |cons r l ih=>
    intro p;unfold Oc.pls;have:=ih (p+1);split <;> simp <;> omega
  have:=this l 0;rw[hP] at this;omega
 have a0:=hM.at_.cell 0 _ rfl;have a1:=hM.at_.cell 1 _ rfl;have za:=hM.at_.lt;rw[hP,hnp] at a1;have HP:=ak hP;have HNP:=ak hnp;have HNL:=ak hnl;have HM:=ak hM;rw[hP];rw[hnl] at hl;clear hM hP hnp hnl a0;go_enter Tryz.func204,Tryz.ntmps204
 go_wp2;clear a1;go_loopw [5,14] (fun y i wr=>∃k:Nat,k≤np∧i=.int .i64 (k:Int)∧y=.int .i64 ((P.take k).foldl (Oc.covS l top) 0)∧Hid (Below w.heap.size w wr)) (fun _ i _=>np - (intOf i).toNat)
 case atStart=>exact⟨0,Nat.zero_le _,rfl,rfl,Below.refl _ _⟩
 case round=>
  obtain⟨k,hk,rfl,rfl,HB⟩:=hrel
  by_cases hlt:k<np
  ·have hA:=HM.out.below HB.out;obtain⟨ap,p,rfl,hap,hpk,cp,hpl⟩:=Oc.place_at hA.places (k:=k) (by rw[HP.out,HNP.out];exact hlt);rw[HP.out] at hpk;have hst:(P.take (k+1)).foldl (Oc.covS l top) 0=Oc.covS l top ((P.take k).foldl (Oc.covS l top) 0) p:=by
    rw[List.take_add_one,hpk,List.foldl_append];rfl
   obtain⟨y,hy⟩:=aj ((P.take k).foldl (Oc.covS l top) 0)
   rw[hy] at hst ⊢;obtain⟨ad,x,rfl,hab,Hx,HLc⟩:=Ix.reads_cells (enc:=Ru.R.cells) (m:=11) (fun _=>rfl) rfl hA.rules hpl;have hr:Oc.rl l p=x:=Oc.rl_at Hx.out;rw[show Oc.covS l top y p=if x.fr≤top then max y (min x.tt top) else y by unfold Oc.covS;rw[hr]] at hst;have c0:=hA.at_.cell 0 _ rfl;have zg:=hA.at_.lt;rw[HNL.out] at c0 hpl;obtain⟨nm,fr,tt,mo,kk,nn,d,sc,cc,sv,lt⟩:=x;clear hr Hx hA hy hpk;have x0:wr.cell? (ad.add (p*11))=some (.string nm):=HLc.out 0 _ rfl;have x1:wr.cell? ⟨(ad.add (p*11)).block,(ad.add (p*11)).off+1,none⟩=some (.int .i64 fr):=HLc.out 1 _ rfl;have x2:wr.cell? ⟨(ad.add (p*11)).block,(ad.add (p*11)).off+2,none⟩=some (.int .i64 tt):=HLc.out 2 _ rfl;have x3:wr.cell? ⟨(ad.add (p*11)).block,(ad.add (p*11)).off+3,none⟩=some (.int .i64 mo):=HLc.out 3 _ rfl;have x4:wr.cell? ⟨(ad.add (p*11)).block,(ad.add (p*11)).off+4,none⟩=some (.int .u8 kk):=HLc.out 4 _ rfl;have x5:wr.cell? ⟨(ad.add (p*11)).block,(ad.add (p*11)).off+5,none⟩=some (.int .i64 nn):=HLc.out 5 _ rfl;have x6:wr.cell? ⟨(ad.add (p*11)).block,(ad.add (p*11)).off+6,none⟩=some (.int .i64 d):=HLc.out 6 _ rfl;have x7:wr.cell? ⟨(ad.add (p*11)).block,(ad.add (p*11)).off+7,none⟩=some (.int .i64 sc):=HLc.out 7 _ rfl;have x8:wr.cell? ⟨(ad.add (p*11)).block,(ad.add (p*11)).off+8,none⟩=some (.int .u8 cc):=HLc.out 8 _ rfl;have x9:wr.cell? ⟨(ad.add (p*11)).block,(ad.add (p*11)).off+9,none⟩=some (.int .i64 sv):=HLc.out 9 _ rfl
   have x10:wr.cell? ⟨(ad.add (p*11)).block,(ad.add (p*11)).off+10,none⟩=some (.string lt):=HLc.out 10 _ rfl;have q1:=am k
   have q2:(k:Int)<(np:Int):=(by omega);have q3:=am p
   have q4:(p:Int)<(nl:Int):=(by omega);have HBn:=ak (HB.out.alloc HB.out.size (.cells #[.string nm,.int .i64 fr,.int .i64 tt,.int .i64 mo,.int .u8 kk,.int .i64 nn,.int .i64 d,.int .i64 sc,.int .u8 cc,.int .i64 sv,.string lt] 112));simp only at hst
   by_cases hf:fr≤top
   ·rw[if_pos hf] at hst;have HS:=ak hst;clear hst;go_wp2;go_roundw
    case rel=>exact⟨k+1,by omega,by go_num,by rw[HS.out],HBn.out⟩
    case measure=>simp[intOf];omega
   ·rw[if_neg hf] at hst;have HS:=ak hst;have p1:top<fr:=(by omega);clear hst;go_wp2;go_roundw
    case rel=>exact⟨k+1,by omega,by go_num,by rw[HS.out],HBn.out⟩
    case measure=>simp[intOf];omega
  ·have hkn:k=np:=(by omega);subst hkn;have q2:¬(k:Int)<(k:Int):=(by omega);have ht:P.take k=P:=List.take_of_length_le (by rw[HNP.out];exact Nat.le_refl _);rw[ht];go_wp2;go_ret
   exact⟨rfl,HB.out⟩
end Go.Proofs.YtjobhjemnmleaaaGreatDoor
