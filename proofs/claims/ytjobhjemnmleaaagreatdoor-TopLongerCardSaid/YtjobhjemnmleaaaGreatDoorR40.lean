/- A record more in a plan: the region that draws its order, by an invariant. -/
import Derived.Test.YtjobhjemnmleaaaGreatDoorR39
set_option maxRecDepth 200000
set_option maxHeartbeats 32000000
namespace Go.Proofs.YtjobhjemnmleaaaGreatDoor
open Go.RowKit Go.Sort
theorem row_append_op {o:Oper}{a:Act}{K:Act→World→Prop}{Q:Exit→Act→World→Prop}(ts te:TypeId)(k bytes:Nat)(z:Value)(cs:Array Value)(hu:Tryz.prog.underlying ts=some (.slice te))(hi:(Tryz.prog.info? te).map (fun i=>(i.zero,i.size,i.bytes))=some (some z,k,bytes))(hzs:z.cells.size=k)(hk:0<k)(hcs:cs.size=k)(h1:∀u∈cs.toList,u.oneCell'=true)(hby:bytes≤1000)
  (W:World) (B n:Nat) (xs:List Value) (v:Value) (p q:Tmp) (hO:W.ownsRow B te k v n xs) (hl:n≤1000000000) (hB:B≤W.heap.size)
  (ho:o.op=.call { callee:=.builtin .append,args:=#[.tmp p,.tmp q],argTypes:=#[ts,ts] }) (hs:a.eval (.tmp p)=v) (hx:a.eval (.tmp q)=.slice (some ⟨W.heap.size,0,none⟩) 1 1)
  (h:∀v' w',w'.ownsRow B te k v' (n+1) (xs ++ cs.toList)→Below B W w'→W.grownBy w' v.ownBlock→K (a.put o.dst v') w'):
  o.wp Tryz.prog a (W.alloc (.cells cs te)) K Q:=by
 obtain⟨i0,hi0,hz0,hz1,hz2⟩:=info_parts hi;have hR:Reads (W.alloc (.cells cs te)) (W.heap.size+1) k (some ⟨W.heap.size,0,none⟩) 1 cs.toList:=by
  have:=reads_cells_at W W.heap.size cs k te rfl hcs;rw[World.size_alloc] at this;exact this
 have hnb:(n+1)*bytes≤140737488355328:=Nat.le_trans (Nat.mul_le_mul (show n+1≤1000000001 by omega) hby) (by decide);refine wp_append_any (P:=Tryz.prog) _ (.tmp p) (.tmp q) ts ho B te i0 _ k bytes hu hi0 hz0 hz1 hz2 hzs hk v n xs hs (hO.alloc _) (W.heap.size+1) _ 1 1 _ hx hR h1 (by unfold maxLen;omega) hnb (by rw[World.size_alloc];omega) ?_;intro v' w' hown hg _;refine h v' w' hown (((Below.refl B W).alloc hB _).grown hg (by rw[World.size_alloc];omega) (fun g e=>(hO.lt g e).1)) ?_;exact gb_then (World.grownBy_alloc W _ _) hg (fun j e=>by
  rcases Nat.lt_or_ge j W.heap.size with q|q
  ·exact .inr e
  ·exact .inl q)
namespace Cm
open Od
def apQ (gP:Nat)(V:World)(rn:Rc.R)(v3:Value):Nat→Value→Prop
 |4,v=>v=.pointer (some ⟨gP,1,none⟩)
 |5,v=>v=v3
 |6,v=>v=.agg rn.arr
 |7,v=>v=.slice (some ⟨V.heap.size,0,none⟩) 1 1
 |8,_=>True
 |11,v=>v=.pointer (some ⟨gP,1,none⟩)
 |_,v=>v=.pointer (some ⟨gP,0,none⟩)
def Gr (V:World)(B:Nat)(rn:Rc.R)(v3:Value)(m:Nat)(xs:List Value)(v:Value)(w:World):Prop:=
 (∃A c,v=.slice A (m+1) c)∧w.ownsRow B 49 19 v (m+1) (xs ++ rn.arr.toList)∧Below B V w∧V.grownBy w v3.ownBlock
structure ApJ (V:World)(B gP:Nat)(rn:Rc.R)(v3:Value)(m:Nat)(xs old:List Value)(u0:Nat→Value)(b:Nat→Bool)(u:Nat→Value)(w:World):Prop where
 val:∀k,k<12→b k=true→apQ gP V rn v3 k (u (84+k))
 old_:∀j,j<84∨95<j→u j=u0 j
 d1:b 8=true→b 5=true∧b 7=true
 d2:b 7=true→b 6=true
 d3:b 12=true→b 8=true
 w0:b 7=false→w=V
 w1:b 7=true→b 8=false→w=V.alloc (.cells rn.arr 49)
 w2:b 8=true→b 12=false→Gr V B rn v3 m xs (u 92) w
 w3:b 12=true→∃w9,Gr V B rn v3 m xs (u 92) w9∧Moved gP w9 w∧At w gP (old.set 1 (u 92))
section
variable {V w:World} {B gP:Nat} {rn:Rc.R} {v3:Value} {m:Nat} {xs old:List Value} {u0 u:Nat→Value} {b:Nat→Bool}
theorem upd_ne {α:Type}(f:Nat→α){i j:Nat}(v:α)(h:j≠i):upd f i v j=f j:=by unfold upd;rw[if_neg h]
theorem upd_eq {α:Type}(f:Nat→α)(i:Nat)(v:α):upd f i v i=v:=by unfold upd;rw[if_pos rfl]
theorem ApJ.start (V:World)(B gP:Nat)(rn:Rc.R)(v3:Value)(m:Nat)(xs old:List Value)(u0:Nat→Value):ApJ V B gP rn v3 m xs old u0 (fun _=>false) u0 V:=
 ⟨fun _ _ q=>(nomatch q),fun _ _=>rfl,fun q=>(nomatch q),fun q=>(nomatch q),fun q=>(nomatch q),fun _=>rfl,fun q=>(nomatch q),fun q=>(nomatch q),fun q=>(nomatch q)⟩
theorem ApJ.put (h:ApJ V B gP rn v3 m xs old u0 b u w){k:Nat}(hk:k<12)(h7:k≠7)(h8:k≠8){v:Value}(hv:apQ gP V rn v3 k v):ApJ V B gP rn v3 m xs old u0 (upd b k true) (upd u (84+k) v) w:=by
 have e7:upd b k true 7=b 7:=upd_ne _ _ (fun e=>h7 e.symm);have e8:upd b k true 8=b 8:=upd_ne _ _ (fun e=>h8 e.symm);have e12:upd b k true 12=b 12:=upd_ne _ _ (by omega);have e92:upd u (84+k) v 92=u 92:=upd_ne _ _ (by omega);have hup:∀j,b j=true→upd b k true j=true:=fun j hj=>by
  by_cases e:j=k
  ·rw[e,upd_eq]
  ·rw[upd_ne _ _ e];exact hj
 refine⟨fun j hj hb=>?_,fun j hj=>?_,?_,?_,?_,?_,?_,?_,?_⟩
 ·by_cases e:j=k
  ·subst e;rw[upd_eq];exact hv
  ·rw[upd_ne _ _ (by omega)];rw[upd_ne _ _ e] at hb;exact h.val j hj hb
 ·rw[upd_ne _ _ (by omega)];exact h.old_ j hj
 ·rw[e8];exact fun q=>⟨hup 5 (h.d1 q).1,hup 7 (h.d1 q).2⟩
 ·rw[e7];exact fun q=>hup 6 (h.d2 q)
 ·rw[e12,e8];exact h.d3
 ·rw[e7];exact h.w0
 ·rw[e7,e8];exact h.w1
 ·rw[e8,e12,e92];exact h.w2
 ·rw[e12,e92];exact h.w3
theorem ApJ.lay (h:ApJ V B gP rn v3 m xs old u0 b u w)(h6:b 6=true)(hb:b 7=false):w=V∧ApJ V B gP rn v3 m xs old u0 (upd b 7 true) (upd u 91 (.slice (some ⟨V.heap.size,0,none⟩) 1 1)) (V.alloc (.cells rn.arr 49)):=by
 have hb8:b 8=false:=by
  cases q:b 8 with
  |false=>rfl
  |true=>rw[(h.d1 q).2] at hb;cases hb
 have hb12:b 12=false:=by
  cases q:b 12 with
  |false=>rfl
  |true=>rw[h.d3 q] at hb8;cases hb8
 refine⟨h.w0 hb,fun j hj hbj=>?_,fun j hj=>?_,?_,?_,?_,?_,?_,?_,?_⟩
 ·by_cases e:j=7
  ·subst e;exact upd_eq u 91 _
  ·rw[upd_ne _ _ (by omega)];rw[upd_ne _ _ e] at hbj;exact h.val j hj hbj
 ·rw[upd_ne _ _ (by omega)];exact h.old_ j hj
 ·rw[upd_ne b true (show 8≠7 by decide),hb8];exact fun q=>by cases q
 ·exact fun _=>by rw[upd_ne b true (show 6≠7 by decide)];exact h6
 ·rw[upd_ne b true (show 12≠7 by decide),hb12];exact fun q=>by cases q
 ·rw[upd_eq];exact fun q=>by cases q
 ·exact fun _ _=>rfl
 ·rw[upd_ne b true (show 8≠7 by decide),hb8];exact fun q=>by cases q
 ·rw[upd_ne b true (show 12≠7 by decide),hb12];exact fun q=>by cases q
theorem ApJ.app (h:ApJ V B gP rn v3 m xs old u0 b u w)(h5:b 5=true)(h7:b 7=true)(hb:b 8=false){v:Value}{w':World}(hg:Gr V B rn v3 m xs v w'):ApJ V B gP rn v3 m xs old u0 (upd b 8 true) (upd u 92 v) w':=by
 have hb12:b 12=false:=by
  cases q:b 12 with
  |false=>rfl
  |true=>rw[h.d3 q] at hb;cases hb
 refine⟨fun j hj hbj=>?_,fun j hj=>?_,?_,?_,?_,?_,?_,?_,?_⟩
 ·by_cases e:j=8
  ·subst e
   trivial
  ·rw[upd_ne _ _ (by omega)];rw[upd_ne _ _ e] at hbj;exact h.val j hj hbj
 ·rw[upd_ne _ _ (by omega)];exact h.old_ j hj
 ·exact fun _=>⟨by rw[upd_ne b true (show 5≠8 by decide)];exact h5,by rw[upd_ne b true (show 7≠8 by decide)];exact h7⟩
 ·exact fun _=>by rw[upd_ne b true (show 6≠8 by decide)];exact h.d2 h7
 ·exact fun _=>upd_eq _ _ _
 ·rw[upd_ne b true (show 7≠8 by decide),h7];exact fun q=>by cases q
 ·rw[upd_eq b 8];exact fun _ q=>by cases q
 ·rw[upd_eq u 92];exact fun _ _=>hg
 ·rw[upd_ne b true (show 12≠8 by decide),hb12];exact fun q=>by cases q
theorem ApJ.sto (h:ApJ V B gP rn v3 m xs old u0 b u w)(h8:b 8=true){w':World}(hg:∃w9,Gr V B rn v3 m xs (u 92) w9∧Moved gP w9 w'∧At w' gP (old.set 1 (u 92))):ApJ V B gP rn v3 m xs old u0 (upd b 12 true) u w':=by
 have hne:∀k,k<12→upd b 12 true k=b k:=fun k hk=>upd_ne _ _ (by omega)
 refine⟨fun j hj hbj=>h.val j hj (by rwa[hne j hj] at hbj),h.old_,?_,?_,?_,?_,?_,?_,?_⟩
 ·rw[hne 8 (by decide),hne 5 (by decide),hne 7 (by decide)];exact h.d1
 ·rw[hne 7 (by decide),hne 6 (by decide)];exact h.d2
 ·exact fun _=>by rw[hne 8 (by decide)];exact h8
 ·rw[hne 7 (by decide),(h.d1 h8).2];exact fun q=>by cases q
 ·rw[hne 8 (by decide),h8];exact fun _ q=>by cases q
 ·rw[upd_eq];exact fun _ q=>by cases q
 ·exact fun _=>hg
end
end Cm
end Go.Proofs.YtjobhjemnmleaaaGreatDoor
namespace Go.Proofs.YtjobhjemnmleaaaGreatDoor
open Go.RowKit Go.Sort
namespace Cm
theorem step_1 {f:Int→List Ln.Sp}{y:Int}{p:P}(h:¬no f y=0):step f y p=⟨p.recs ++ [ahead p.recs],p.why ++ [no f y],p.found⟩:=by
 unfold step;rw[if_pos h]
theorem step_2 {f:Int→List Ln.Sp}{y:Int}{p:P}(h:no f y=0)(h2:p.found=true):step f y p=⟨p.recs ++ [Rc.shape (Rc.fitted (f y) y) (ahead p.recs) y],p.why ++ [no f y],p.found⟩:=by
 unfold step;rw[if_neg (fun q=>q h),if_pos h2,h,h2]
theorem step_3 {f:Int→List Ln.Sp}{y:Int}{p:P}(h:no f y=0)(h2:p.found=false):step f y p=⟨p.recs.map (fun _=>Rc.fitted (f y) y) ++ [Rc.fitted (f y) y],p.why ++ [no f y],true⟩:=by
 unfold step;rw[if_neg (fun q=>q h),if_neg (by rw[h2];decide),h]
theorem ahead_last {l:List Rc.R}(h:0<l.length):l[l.length - 1]?=some (ahead l):=by
 unfold ahead;rw[List.getLast?_eq_getElem?,List.getElem?_eq_getElem (by omega)];rfl
structure Sw (B gP N:Nat)(lo:Int)(p:P)(gR:Nat)(r:Rc.R)(u1 u2:Value)(w0 w:World):Prop where
 pl:Pl B gP lo p u1 u2 w
 r:At w gR r.arr.toList
 b:Below gP w0 w
 sz:N≤w.heap.size
 gr:N≤gR
 ne:u1.ownBlock≠some gR
section
variable {B gP N gR:Nat} {lo:Int} {p:P} {r:Rc.R} {u1 u2:Value} {w0 w w':World}
theorem Sw.call (h:Sw B gP N lo p gR r u1 u2 w0 w)(hb:Below w.heap.size w w'):Sw B gP N lo p gR r u1 u2 w0 w':=
 ⟨h.pl.call hb,h.r.call hb,h.b.trans (below_le hb (Nat.le_of_lt h.pl.at_.lt)),Nat.le_trans h.sz hb.size,h.gr,h.ne⟩
theorem Sw.next {g1 c k:Nat}{l:List Rc.R}{ws:List Int}{fo:Bool}(h:Sw B gP N lo ⟨put r k l,ws,fo⟩ gR r (.slice (some ⟨g1,0,none⟩) l.length c) u2 w0 w)(hk:k<l.length):
  Sw B gP N lo ⟨put r (k+1) l,ws,fo⟩ gR r (.slice (some ⟨g1,0,none⟩) l.length c) u2 w0 (w.setCells g1 (k*19) r.arr.toList):=by
 have hrow:=h.pl.r;simp only[put_len] at hrow;have ho:=own_store hrow (k*19) r.arr.toList (by rw[rc_len,put_len];show k*19+19≤l.length*19;omega);rw[put_next r hk] at ho;have hBg:B≤g1:=(h.pl.own1 g1 rfl).1;have hlt:=h.pl.lt;have hne2:=own_ne h.pl.r h.pl.q (by decide) g1 rfl;have hne:gR≠g1:=fun e=>h.ne (by rw[e];rfl)
 refine⟨⟨h.pl.at_.put_other (by omega) _ _,?_,own_put hne2 _ _ h.pl.q,hlt⟩,h.r.put_other (fun e=>hne e.symm) _ _,below_put (by omega) _ _ _ h.b,by rw[size_cells];exact h.sz,h.gr,h.ne⟩;simp only[put_len];exact ho
end
end Cm
theorem plYear_any (f:Int→List Ln.Sp)(lo y:Int)(p:Cm.P)(v1 v2:Value)(gP B:Nat)(A:Option Addr)(n c:Nat)(w:World)(hP:Cm.Pl B gP lo p v1 v2 w)(hB:B≤w.heap.size)(hL:Lens w)(hy:1601≤y∧y≤9999)(ho:Rc.Of (f y) y)(hl:(f y).length≤1000000000)
  (hob:∀q∈f y,-1000000000≤q.off∧q.off≤1000000000) (hr:∀r∈p.recs,Rc.Ok r∧Rc.I r) (hn1:p.recs.length≤400) (hn2:p.why.length≤400) (hf:p.found=true→0<p.recs.length)
  (hLk:Calls Tryz.prog 23 #[.slice A n c,.int .i64 y] w fun e w'=>∃v,e=.returned (.tuple #[v,.int .i64 0])∧w'.ownsRow w.heap.size 164 3 v (f y).length (Ln.fl (f y))∧Below w.heap.size w w'):
  Calls Tryz.prog 61 #[.pointer (some ⟨gP,0,none⟩),.slice A n c,.int .i64 y] w fun e w'=>e=.returned (.int .i64 0)∧Below gP w w'∧w.heap.size≤w'.heap.size∧∃u1 u2,Cm.Pl B gP lo (Cm.step f y p) u1 u2 w':=by
 have hFy:=fun(s:Option Addr) (sc:Nat) W (hb:Below w.heap.size w W) hle hR=>ftYear_any (f y) y s (f y).length sc W (hL.below hb) hy ho rfl hl hle hob hR
 unfold Rc.fyV at hFy;have hah:=Cm.ahead_ok hr;obtain⟨r0,hr0⟩:=aj ((if Rc.why (f y) (Oc.D y*86400) (Oc.D (y+1)*86400)=0 then Rc.fitted (f y) y else Rc.R.zero))
 have hno:Rc.why (f y) (Oc.D y*86400) (Oc.D (y+1)*86400)=Cm.no f y:=rfl;simp only[hr0] at hFy;simp only[hno,Rc.R.v_arr] at hFy;rw[hno] at hr0;have hr0i:Cm.no f y=0→Rc.I r0∧r0=Rc.fitted (f y) y:=fun h=>by
  rw[← hr0,if_pos h];exact⟨(Rc.fitted_spans hy ho h).2.1,rfl⟩
 have hSh:=fun(h:Cm.no f y=0) W (hb:Below w.heap.size w W)=>shRecord_any r0 (Cm.ahead p.recs) y W (hL.below hb) (hr0i h).1 hah.2 hy
 simp only[Rc.R.v_arr] at hSh;have hs1:=@Cm.step_1 f y p;have hs2:=fun h=>@Cm.step_2 f y p h
 have hahl:=@Cm.ahead_last p.recs;have hah0:p.recs.length=0→Cm.ahead p.recs=Rc.R.zero:=fun h=>by
  rw[List.eq_nil_of_length_eq_zero h];rfl
 have hs2':∀h:Cm.no f y=0,p.found=true→Cm.step f y p=⟨p.recs ++ [Rc.shape r0 (Cm.ahead p.recs) y],p.why ++ [Cm.no f y],p.found⟩:=fun h h2=>by
  rw[(hr0i h).2];exact hs2 h h2
 obtain⟨ah,hahe⟩:=aj (Cm.ahead p.recs)
 rw[hahe] at hs1 hahl hah0 hah;simp only[hahe] at hs2' hSh;obtain⟨rs,hrs⟩:=aj (Rc.shape r0 ah y)
 simp only[hrs] at hs2' hSh;have HS1:=ak hs1;have HS2':=ak hs2';clear hs1 hs2 hs2' hahe hrs;have HFy:=ak hFy;have HSh:=ak hSh;have HLk:=ak hLk;have HP:=ak hP;have HNO:Hid (∀k,w.heap.size≤k→v1.ownBlock≠some k∧v2.ownBlock≠some k∧gP≠k):=fun k hk=>⟨fun q=>by have:=(hP.own1 k q).2;omega,fun q=>by have:=(hP.own2 k q).2;omega,by have:=hP.at_.lt;omega⟩
 have HGB:Hid (gP<B∧B≤w.heap.size):=⟨hP.lt,hB⟩
 have HRI:=ak hr0i;obtain⟨A1,c1,rfl,_,_⟩:=own_slice_cap hP.r;obtain⟨A2,c2,rfl,_,_⟩:=own_slice_cap hP.q;obtain⟨k1,hk1⟩:=aj (p.recs.length)
 have HAH:Hid (0<k1→p.recs[k1 - 1]?=some ah):=fun h=>by rw[← hk1] at h ⊢;exact hahl h
 have HA0:Hid (k1=0→ah=Rc.R.zero):=fun h=>hah0 (by rw[hk1];exact h)
 rw[hk1] at HP HNO hn1 hf;have HK1:=ak hk1;have HK2:=ak hn2;have HF:=ak hf;clear hahl hah0 hFy hSh hLk hP hr0i hr0 hno hah hr hob hl ho hy hL hB hn2 hk1 hf;go_enter Tryz.func61,Tryz.ntmps61
 go_wp2_with fail
 refine HLk.out.mono ?_;rintro e V1 ⟨sv,rfl,hown,hb⟩;obtain⟨sA,sc,rfl,hle,_⟩:=own_slice_cap hown;have hR:=Reads.of_own hown;have HS:=ak ((St.start w).call hb);replace HP:=ak (HP.out.call hb);have HF1:=ak (HFy.out sA sc V1 hb hle hR);clear hown hb hR hle HLk HFy;go_wp2_with fail
 refine HF1.out.mono ?_;rintro e V2 ⟨rfl,hb⟩;clear HF1;replace HP:=ak (HP.out.call hb);replace HS:=ak (HS.out.call hb);clear hb;obtain⟨gR,HGgR⟩:∃q,Hid (V2.heap.size=q):=⟨_,rfl⟩
 go_upto_region 5 with (refine wpList_store_all rfl 49 _ _ rfl V2.heap.size rfl (r0.arr) rfl _ (At.new V2 #[.int .i32 0,.int .i32 0,.int .i32 0,.int .u16 0,.int .u16 0,.int .u16 0,.int .u16 0,.int .u16 0,.int .u16 0,.int .u16 0,.int .u16 0,.int .u16 0,.int .u16 0,.int .u16 0,.int .u16 0,.int .u16 0,.int .u16 0,.int .u16 0,.int .u16 0] 49) (by rfl) (by kernel_rfl) (by first|exact Sm.S.arr_one _|exact Rc.R.arr_one _|simp[Value.oneCell']) ?_;intro V3 hAn hMn)
 rw[HGgR.out];replace HS:=ak (HS.out.laid #[.int .i32 0,.int .i32 0,.int .i32 0,.int .u16 0,.int .u16 0,.int .u16 0,.int .u16 0,.int .u16 0,.int .u16 0,.int .u16 0,.int .u16 0,.int .u16 0,.int .u16 0,.int .u16 0,.int .u16 0,.int .u16 0,.int .u16 0,.int .u16 0,.int .u16 0] 49 hMn hAn);rw[HGgR.out] at HS;replace HP:=ak (HP.out.laid hMn);clear hMn hAn;go_upto_region 7 with fail
 have hLy:=HS.out.lay #[.int .i32 0,.int .i32 0,.int .i32 0,.int .u16 0,.int .u16 0,.int .u16 0,.int .u16 0,.int .u16 0,.int .u16 0,.int .u16 0,.int .u16 0,.int .u16 0,.int .u16 0,.int .u16 0,.int .u16 0,.int .u16 0,.int .u16 0,.int .u16 0,.int .u16 0] 49;clear HS;obtain⟨V4,gA,HEV4,HGgA,HS⟩:=hLy;replace HP:=ak (HP.out.lay HEV4.out);go_upto_region 8 with fail
 rw[HEV4.out]
 try rw[HGgA.out]
 have P0:=HP.out.at_.cell 0 _ rfl;have P1:=HP.out.at_.cell 1 _ rfl;have P2:=HP.out.at_.cell 2 _ rfl;have P3:=HP.out.at_.cell 3 _ rfl;have zP:=HP.out.at_.lt
 by_cases hk0:k1=0
 case' pos=>
  have q0:¬(0:Int)<(k1:Int):=by omega
  go_upto_region 17 with fail
  clear q0 P0 P1 P2 P3 zP;obtain⟨X,hX⟩:=aj (V4)
  rw[hX] at HS HP ⊢;clear hX;have HS2:Hid (St w X [(gA,ah.arr.toList),(gR,r0.arr.toList)]):=by
   show St _ _ _
   rw[HA0.out hk0];exact HS.out
  clear HS hk0
 case' neg=>
  have hkp:0<k1:=by omega
  have hrow:=HP.out.r;rw[HK1.out] at hrow;obtain⟨g1,c9,hv,hBg,_,_,hlt,hcs⟩:=own_at_ hrow hkp;obtain⟨rfl,rfl⟩:A1=some ⟨g1,0,none⟩∧c1=c9:=by
   cases hv
   exact⟨rfl,rfl⟩
  clear hv;have q0:(0:Int)<(k1:Int):=by omega
  have q1:(0:Int)≤(k1:Int) - 1:=by omega
  have q2:(k1:Int) - 1<(k1:Int):=by omega
  have wm:IntKind.i64.wrap ((k1:Int) - 1)=(k1:Int) - 1:=by rw[IntKind.wrap_i64];omega
  have tn:((k1:Int) - 1).toNat=k1 - 1:=by omega
  have had:∀j,(⟨g1,0,none⟩:Addr).add j=⟨g1,j,none⟩:=add_zero_at g1;have HRG:Hid (V4.rangeAt g1 ((k1 - 1)*19) ah.arr.toList):=fun j u hu=>(hcs _ _ (Cm.rc_get (HAH.out hkp) j u hu)).1
  clear hcs hrow;go_upto_region 17 with (first|(refine wpList_load_arr rfl 49 _ rfl g1 ((k1 - 1)*19) rfl ah.arr HRG.out _ Tryz.underlying49 rfl (by kernel_rfl) ?_)|(refine wpList_store_all rfl 49 _ _ rfl (gA) rfl (ah.arr) rfl _ (HS.out.get 0 rfl) (by rfl) (by kernel_rfl) (by first|exact Sm.S.arr_one _|exact Rc.R.arr_one _|simp[Value.oneCell']) ?_;intro T1 hAn hMn))
  replace HS:Hid (St w T1 [(gA,ah.arr.toList),(gR,r0.arr.toList)]):=HS.out.put 0 rfl hMn hAn;replace HP:=ak (HP.out.moved hMn (HNO.out _ (HS.out.ge 0 rfl)));clear hMn hAn;clear P0 P1 P2 P3 zP;obtain⟨X,hX⟩:=aj (T1)
  rw[hX] at HS HP ⊢;clear hX;have HS2:Hid (St w X [(gA,ah.arr.toList),(gR,r0.arr.toList)]):=HS.out;clear HS hk0 HRG had tn wm q0 q1 q2 hlt hBg hkp;obtain⟨A1,hA1⟩:∃q:Option Addr,some ⟨g1,0,none⟩=q:=⟨_,rfl⟩
  rw[hA1] at HP HNO ⊢;clear hA1
 all_goals
  have HS:=HS2;clear HS2 HAH HA0
  by_cases hz:Cm.no f y=0
  case' neg=>
   have z1:(Cm.no f y == 0)=false:=by rw[beq_eq_false_iff_ne];exact hz
   have z2:(Cm.no f y != 0)=true:=by rw[bne_iff_ne];exact hz
   have HZ:=ak hz;clear hz;go_upto_region 21 with (first|(refine wpList_load_arr rfl 49 _ rfl (gA) 0 rfl (ah.arr) (HS.out.get 0 rfl).range _ Tryz.underlying49 rfl (by kernel_rfl) ?_)|(refine wpList_store_all rfl 49 _ _ rfl (gR) rfl (ah.arr) rfl _ (HS.out.get 1 rfl) (by rfl) (by kernel_rfl) (by first|exact Sm.S.arr_one _|exact Rc.R.arr_one _|simp[Value.oneCell']) ?_;intro A1 hAn hMn))
   replace HS:Hid (St w A1 [(gA,ah.arr.toList),(gR,ah.arr.toList)]):=HS.out.put 1 rfl hMn hAn;replace HP:=ak (HP.out.moved hMn (HNO.out _ (HS.out.ge 1 rfl)));clear hMn hAn;obtain⟨Y,hY⟩:=aj (A1)
   rw[hY] at HS HP ⊢;clear hY z1 z2;have HSW:Hid (∃(rn:Rc.R) (p2:Cm.P) (u1 u2:Value),Cm.Sw B gP w.heap.size lo p2 gR rn u1 u2 w Y∧Cm.step f y p=⟨p2.recs ++ [rn],p2.why ++ [Cm.no f y],p2.found⟩∧p2.recs.length=k1∧p2.why=p.why):=⟨ah,p,_,_,⟨HP.out,HS.out.get 1 rfl,below_le HS.out.b (by have:=HGB.out;omega),HS.out.b.size,HS.out.ge 1 rfl,(HNO.out _ (HS.out.ge 1 rfl)).1⟩,HS1.out HZ.out,HK1.out,rfl⟩
   clear HS HP HZ
  case' pos=>
   obtain⟨hri,hre⟩:=HRI.out hz;have HSh2:=ak fun W hb=>HSh.out hz W hb
   have z1:(Cm.no f y == 0)=true:=by rw[beq_iff_eq];exact hz
   have z2:(Cm.no f y != 0)=false:=by rw[bne_eq_false_iff_eq];exact hz
   have HZ:=ak hz;have HRe:=ak hre;clear HSh hz hre;cases hfd:p.found
   case' true=>
    have hp3:=HP.out.at_.cell 3 _ rfl;rw[hfd] at hp3;have HFd:=ak hfd;clear hfd;have P0:=HP.out.at_.cell 0 _ rfl;have P1:=HP.out.at_.cell 1 _ rfl;have P2:=HP.out.at_.cell 2 _ rfl;have zP:=HP.out.at_.lt;go_wp2_with (first|(refine wpList_load_arr rfl 49 _ rfl (gR) 0 rfl (r0.arr) (HS.out.get 1 rfl).range _ Tryz.underlying49 rfl (by kernel_rfl) ?_)|(refine wpList_load_arr rfl 49 _ rfl (gA) 0 rfl (ah.arr) (HS.out.get 0 rfl).range _ Tryz.underlying49 rfl (by kernel_rfl) ?_))
    clear hp3;clear P0 P1 P2 zP;refine(HSh2.out _ HS.out.b).mono ?_;rintro e B1 ⟨rfl,hb⟩;replace HP:=ak (HP.out.call hb);replace HS:=ak (HS.out.call hb);clear hb;go_upto_region 21 with (refine wpList_store_all rfl 49 _ _ rfl (gR) rfl (rs.arr) rfl _ (HS.out.get 1 rfl) (by rfl) (by kernel_rfl) (by first|exact Sm.S.arr_one _|exact Rc.R.arr_one _|simp[Value.oneCell']) ?_;intro B2 hAn hMn)
    replace HS:Hid (St w B2 [(gA,ah.arr.toList),(gR,rs.arr.toList)]):=HS.out.put 1 rfl hMn hAn;replace HP:=ak (HP.out.moved hMn (HNO.out _ (HS.out.ge 1 rfl)));clear hMn hAn;obtain⟨Y,hY⟩:=aj (B2)
    rw[hY] at HS HP ⊢;clear hY z1 z2;have HSW:Hid (∃(rn:Rc.R) (p2:Cm.P) (u1 u2:Value),Cm.Sw B gP w.heap.size lo p2 gR rn u1 u2 w Y∧Cm.step f y p=⟨p2.recs ++ [rn],p2.why ++ [Cm.no f y],p2.found⟩∧p2.recs.length=k1∧p2.why=p.why):=⟨rs,p,_,_,⟨HP.out,HS.out.get 1 rfl,below_le HS.out.b (by have:=HGB.out;omega),HS.out.b.size,HS.out.ge 1 rfl,(HNO.out _ (HS.out.ge 1 rfl)).1⟩,HS2'.out HZ.out HFd.out,HK1.out,rfl⟩
    clear HS HP HZ hri HRe HFd HSh2
   case' false=>
    have hp3:=HP.out.at_.cell 3 _ rfl;rw[hfd] at hp3;have fp3:=HP.out.at_.free 3 _ rfl;have HFd:=ak hfd;clear hfd;have P0:=HP.out.at_.cell 0 _ rfl;have P1:=HP.out.at_.cell 1 _ rfl;have P2:=HP.out.at_.cell 2 _ rfl;have zP:=HP.out.at_.lt;go_upto_region 12 with (refine wpList_store_one rfl 4 _ _ rfl gP 3 rfl (.bool true) rfl rfl _ HP.out.at_ (Nat.le_of_ble_eq_true rfl) (by kernel_rfl) rfl ?_;intro C1 hAn hMn)
    clear hp3 fp3;clear P0 P1 P2 zP;have HP2:Hid (Cm.Pl B gP lo ⟨p.recs,p.why,true⟩ (.slice A1 k1 c1) (.slice A2 p.why.length c2) C1):=⟨hAn,hMn.own (fun q=>by have:=(HP.out.own1 _ q).1;have:=HGB.out;omega) HP.out.r,hMn.own (fun q=>by have:=(HP.out.own2 _ q).1;have:=HGB.out;omega) HP.out.q,HP.out.lt⟩
    have HSw:Hid (Cm.Sw B gP w.heap.size lo ⟨Cm.put r0 0 p.recs,p.why,true⟩ gR r0 (.slice A1 k1 c1) (.slice A2 p.why.length c2) w C1):=by
     show Cm.Sw _ _ _ _ _ _ _ _ _ _ _
     rw[Cm.put_zero];exact⟨HP2.out,hMn.at (by have:=HGB.out;have:=HS.out.ge 1 rfl;omega) (HS.out.get 1 rfl),hMn.below (Nat.le_refl _) (below_le HS.out.b (by have:=HGB.out;omega)),Nat.le_trans HS.out.b.size (by obtain⟨o,vs,rfl⟩:=hMn;exact Nat.le_of_eq (size_cells _ _ _ _).symm),HS.out.ge 1 rfl,(HNO.out _ (HS.out.ge 1 rfl)).1⟩
    clear hMn hAn HP HS HP2;have P1:=HSw.out.pl.at_.cell 1 _ rfl;have zP:=HSw.out.pl.at_.lt;go_wp2_with fail
    clear P1 zP;go_loopw [59] (fun i wr=>∃k:Nat,k≤k1∧i=.int .i64 (k:Int)∧Hid (Cm.Sw B gP w.heap.size lo ⟨Cm.put r0 k p.recs,p.why,true⟩ gR r0 (.slice A1 k1 c1) (.slice A2 p.why.length c2) w wr)) (fun i _=>k1 - (intOf i).toNat)
    case' atStart=>exact⟨0,Nat.zero_le _,rfl,HSw.out⟩
    case' round=>
     clear HSw;obtain⟨k,hk,rfl,HSw⟩:=hrel
     by_cases hlt:k<k1
     case' pos=>
      have hkp:0<k1:=(by omega);have hrow:=HSw.out.pl.r;rw[Cm.put_len,HK1.out] at hrow;obtain⟨g1,c9,hv,hBg,_,_,hlt1,_⟩:=own_at_ hrow hkp;cases hv
      have q1:=am k
      have q2:(k:Int)<(k1:Int):=(by omega);have wk:IntKind.i64.wrap ((k:Int)+1)=(k:Int)+1:=by rw[IntKind.wrap_i64];omega
      have had:∀j,(⟨g1,0,none⟩:Addr).add j=⟨g1,j,none⟩:=add_zero_at g1;have p1:=cell_regrown (HSw.out.pl.at_.cell 1 _ rfl);have zP:=HSw.out.pl.at_.lt;go_upto_region 15 with fail
      refine wp_region_tail 8 (by kernel_rfl) (by kernel_rfl) ?_
      repeat (first|(refine quiet_load_arr rfl 49 _ rfl gR 0 rfl r0.arr HSw.out.r.range _ Tryz.underlying49 rfl (by kernel_rfl) ?_)|quiet_step (fail))
      refine wpQuiet_nil ?_;intro V9 hwz;obtain⟨⟨dq,osq⟩,hwz⟩:=hwz;have hb:Below wr.heap.size wr V9:=by rw[hwz];exact below_regrown _ _ _
      have HS9:=ak (HSw.out.call hb);have hrow9:=own_below hrow hb;clear hwz p1 zP hb hrow HSw;show wpList _ _ _ (_ :: _) _ _
      obtain⟨V8,HE8⟩:∃X,Hid (V9.setCells g1 (k*19) r0.arr.toList=X):=⟨_,rfl⟩
      have HT:Hid (V9.there g1 (k*19) r0.arr.size):=own_there hrow9 (by rw[Cm.rc_len,Cm.put_len,HK1.out];show k*19+19≤k1*19;omega);have HN:Hid (Cm.Sw B gP w.heap.size lo ⟨Cm.put r0 (k+1) p.recs,p.why,true⟩ gR r0 (.slice (some ⟨g1,0,none⟩) k1 c1) (.slice A2 p.why.length c2) w V8):=by
       have h:=HS9.out;rw[← HK1.out] at h ⊢;rw[← HE8.out];exact Cm.Sw.next h (by rw[HK1.out];exact hlt)
      clear hrow9;go_wp2_with (refine wpList_store_mid rfl 49 _ _ rfl g1 (k*19) r0.arr rfl rfl HT.out (by kernel_rfl) (Rc.R.arr_one _) ?_;rw[HE8.out])
      go_roundw
      case rel=>exact⟨k+1,by omega,by go_num,HN.out⟩
      case measure=>simp[intOf];omega
     case' neg=>
      have hkk:k1=k:=(by omega);subst hkk;have q2:¬(k1:Int)<(k1:Int):=(by omega);clear hlt;go_upto_region 21 with fail
      clear q2;obtain⟨Y,hY⟩:=aj (wr)
      rw[hY] at HSw ⊢;clear hY z1 z2;have hpa:Cm.put r0 k1 p.recs=p.recs.map fun _=>r0:=by rw[← HK1.out];exact Cm.put_all r0 p.recs
      rw[hpa] at HSw;have HSW:Hid (∃(rn:Rc.R) (p2:Cm.P) (u1 u2:Value),Cm.Sw B gP w.heap.size lo p2 gR rn u1 u2 w Y∧Cm.step f y p=⟨p2.recs ++ [rn],p2.why ++ [Cm.no f y],p2.found⟩∧p2.recs.length=k1∧p2.why=p.why):=⟨r0,⟨p.recs.map (fun _=>r0),p.why,true⟩,_,_,HSw.out,by rw[HRe.out];exact Cm.step_3 HZ.out HFd.out,by rw[List.length_map];exact HK1.out,rfl⟩
      clear HSw HZ hri HRe HFd HSh2 hpa hk
  all_goals
   obtain⟨rn,p2,u1,u2,hsw,hst,hl2,hwy⟩:=HSW.out;obtain⟨A3,c3,rfl,_,_⟩:=own_slice_cap hsw.pl.r;obtain⟨A4,c4,rfl,_,_⟩:=own_slice_cap hsw.pl.q;have HSw:=ak hsw;have HSt:=ak hst;have HL2:=ak hl2;have HWy:=ak hwy;clear hsw hst hl2 hwy HSW;go_upto_region 21 with fail
   obtain⟨V,HV⟩:∃X,Hid (Y.drew=X):=⟨_,rfl⟩
   replace HSw:Hid (Cm.Sw B gP w.heap.size lo p2 gR rn (.slice A3 p2.recs.length c3) (.slice A4 p2.why.length c4) w V):=by
    show Cm.Sw _ _ _ _ _ _ _ _ _ _ _
    rw[← HV.out];exact HSw.out.call (Below.refl _ _).drew
   refine Od.wp_region_inv 108 (by kernel_rfl) (by rfl) (by rfl) (Od.ord_of (by kernel_rfl)) (Od.dst_of (by kernel_rfl)) (Cm.ApJ V B gP rn (.slice A3 p2.recs.length c3) p2.recs.length (Cm.rc p2.recs) [.int .i64 lo,.slice A3 p2.recs.length c3,.slice A4 p2.why.length c4,.bool p2.found] (Od.slots _)) (by rw[HV.out];exact Cm.ApJ.start _ _ _ _ _ _ _ _ _) ?_ ?_
   ·intro i o hi b' a' wv hJ hb hdep hdf K hK;obtain⟨tm,df⟩:=a';simp only at hdf;subst hdf;have hiN:i<13:=(Array.getElem?_eq_some_iff.1 hi).1;have h0:tm.getD 0 undef=.pointer (some ⟨gP,0,none⟩):=(hJ.old_ 0 (by decide)).trans rfl;have h0':=(Array.getD_eq_getD_getElem? (xs:=tm) (i:=0) (d:=undef)).symm.trans h0;have h9:tm.getD 9 undef=.pointer (some ⟨gR,0,none⟩):=(hJ.old_ 9 (by decide)).trans rfl;have hsplit:i=0∨i=1∨i=2∨i=3∨i=4∨i=5∨i=6∨i=7∨i=8∨i=9∨i=10∨i=11∨i=12:=(by omega);rcases hsplit with rfl|rfl|rfl|rfl|rfl|rfl|rfl|rfl|rfl|rfl|rfl|rfl|rfl
    ·obtain rfl:=sji (show some _=some o from hi);rw[if_pos (show Region.wanted _ _=true from rfl)];go_simp;exact hK _ _ (hJ.put (k:=0) (by decide) (by decide) (by decide) rfl)
    ·obtain rfl:=sji (show some _=some o from hi);rw[if_pos (show Region.wanted _ _=true from rfl)];go_simp;exact hK _ _ (hJ.put (k:=1) (by decide) (by decide) (by decide) rfl)
    ·obtain rfl:=sji (show some _=some o from hi);rw[if_pos (show Region.wanted _ _=true from rfl)];have x1:tm.getD 85 undef=_:=hJ.val 1 (by decide) (hdep ⟨1,.data⟩ (by simp) rfl);have y1:=(Array.getD_eq_getD_getElem? (xs:=tm) (i:=85) (d:=undef)).symm.trans x1;go_simp;exact hK _ _ (hJ.put (k:=2) (by decide) (by decide) (by decide) rfl)
    ·obtain rfl:=sji (show some _=some o from hi);rw[if_pos (show Region.wanted _ _=true from rfl)];have x2:tm.getD 86 undef=_:=hJ.val 2 (by decide) (hdep ⟨2,.data⟩ (by simp) rfl);have y2:=(Array.getD_eq_getD_getElem? (xs:=tm) (i:=86) (d:=undef)).symm.trans x2;go_simp;exact hK _ _ (hJ.put (k:=3) (by decide) (by decide) (by decide) rfl)
    ·obtain rfl:=sji (show some _=some o from hi);rw[if_pos (show Region.wanted _ _=true from rfl)];have x3:tm.getD 87 undef=_:=hJ.val 3 (by decide) (hdep ⟨3,.data⟩ (by simp) rfl);have y3:=(Array.getD_eq_getD_getElem? (xs:=tm) (i:=87) (d:=undef)).symm.trans x3;go_simp;exact hK _ _ (hJ.put (k:=4) (by decide) (by decide) (by decide) rfl)
    ·obtain rfl:=sji (show some _=some o from hi);rw[if_pos (show Region.wanted _ _=true from rfl)];have x4:tm.getD 88 undef=_:=hJ.val 4 (by decide) (hdep ⟨4,.data⟩ (by simp) rfl);have y4:=(Array.getD_eq_getD_getElem? (xs:=tm) (i:=88) (d:=undef)).symm.trans x4;have c1:wv.cell? ⟨gP,1,none⟩=some (.slice A3 p2.recs.length c3):=by
      have hb8:b' 8=false:=by
       cases q:b' 8 with
       |false=>rfl
       |true=>rw[(hJ.d1 q).1] at hb;cases hb
      cases h7:b' 7 with
      |false=>rw[hJ.w0 h7];exact HSw.out.pl.at_.cell 1 _ rfl
      |true=>rw[hJ.w1 h7 hb8];exact(HSw.out.pl.at_.allocO _).cell 1 _ rfl
     go_simp;exact hK _ _ (hJ.put (k:=5) (by decide) (by decide) (by decide) rfl)
    ·obtain rfl:=sji (show some _=some o from hi);rw[if_pos (show Region.wanted _ _=true from rfl)];have hw:wv=V:=hJ.w0 (by
      cases q:b' 7 with
      |false=>rfl
      |true=>rw[hJ.d2 q] at hb;cases hb)
     refine wp_load_mid 49 _ rfl gR 0 h9 rn.arr.toList _ (by rw[hw];exact HSw.out.r.range) Tryz.underlying49 rfl (by kernel_rfl) ?_;exact hK _ _ (hJ.put (k:=6) (by decide) (by decide) (by decide) (by simp[Cm.apQ]))
    ·obtain rfl:=sji (show some _=some o from hi);rw[if_pos (show Region.wanted _ _=true from rfl)];have x6:tm.getD 90 undef=_:=hJ.val 6 (by decide) (hdep ⟨6,.data⟩ (by simp) rfl);have y6:=(Array.getD_eq_getD_getElem? (xs:=tm) (i:=90) (d:=undef)).symm.trans x6;obtain⟨hw,hj⟩:=hJ.lay (hdep ⟨6,.data⟩ (by simp) rfl) hb;subst hw;unfold Rc.R.arr at x6 y6;go_simp;exact hK _ _ hj
    ·obtain rfl:=sji (show some _=some o from hi);rw[if_pos (show Region.wanted _ _=true from rfl)];have x5:tm.getD 89 undef=_:=hJ.val 5 (by decide) (hdep ⟨5,.data⟩ (by simp) rfl);have y5:=(Array.getD_eq_getD_getElem? (xs:=tm) (i:=89) (d:=undef)).symm.trans x5;have x7:tm.getD 91 undef=_:=hJ.val 7 (by decide) (hdep ⟨7,.data⟩ (by simp) rfl);have y7:=(Array.getD_eq_getD_getElem? (xs:=tm) (i:=91) (d:=undef)).symm.trans x7;have h5:b' 5=true:=hdep ⟨5,.data⟩ (by simp) rfl;have h7:b' 7=true:=hdep ⟨7,.data⟩ (by simp) rfl;rw[hJ.w1 h7 hb];refine row_append_op 50 49 19 44 _ rn.arr Tryz.underlying50 Cm.rec_info rfl (by decide) rfl (fun u hu=>(Array.all_eq_true_iff_forall_mem.1 (Rc.R.arr_one rn)) u (by simpa using hu)) (by decide) V B p2.recs.length _ (.slice A3 p2.recs.length c3) 89 91 HSw.out.pl.r (by rw[HL2.out];omega) (by have:=HGB.out;have:=HSw.out.sz;omega) rfl x5 x7 ?_;intro v9 w9 hown9 hb9 hg9;obtain⟨A9,c9,hv9,_,_⟩:=own_slice_cap hown9;exact hK _ _ (hJ.app h5 h7 hb ⟨⟨A9,c9,hv9⟩,hown9,hb9,hg9⟩)
    ·obtain rfl:=sji (show some _=some o from hi);rw[if_pos (show Region.wanted _ _=true from rfl)];have x0:tm.getD 84 undef=_:=hJ.val 0 (by decide) (hdep ⟨0,.data⟩ (by simp) rfl);have y0:=(Array.getD_eq_getD_getElem? (xs:=tm) (i:=84) (d:=undef)).symm.trans x0;go_simp;exact hK _ _ (hJ.put (k:=9) (by decide) (by decide) (by decide) rfl)
    ·obtain rfl:=sji (show some _=some o from hi);rw[if_pos (show Region.wanted _ _=true from rfl)];have x9:tm.getD 93 undef=_:=hJ.val 9 (by decide) (hdep ⟨9,.data⟩ (by simp) rfl);have y9:=(Array.getD_eq_getD_getElem? (xs:=tm) (i:=93) (d:=undef)).symm.trans x9;go_simp;exact hK _ _ (hJ.put (k:=10) (by decide) (by decide) (by decide) rfl)
    ·obtain rfl:=sji (show some _=some o from hi);rw[if_pos (show Region.wanted _ _=true from rfl)];have x10:tm.getD 94 undef=_:=hJ.val 10 (by decide) (hdep ⟨10,.data⟩ (by simp) rfl);have y10:=(Array.getD_eq_getD_getElem? (xs:=tm) (i:=94) (d:=undef)).symm.trans x10;go_simp;exact hK _ _ (hJ.put (k:=11) (by decide) (by decide) (by decide) rfl)
    ·obtain rfl:=sji (show some _=some o from hi);rw[if_pos (show Region.wanted _ _=true from rfl)];have x11:tm.getD 95 undef=_:=hJ.val 11 (by decide) (hdep ⟨11,.data⟩ (by simp) rfl);have y11:=(Array.getD_eq_getD_getElem? (xs:=tm) (i:=95) (d:=undef)).symm.trans x11;have h8:b' 8=true:=hdep ⟨8,.data⟩ (by simp) rfl;obtain⟨⟨A9,c9,hv9⟩,hown9,hb9,hg9⟩:=hJ.w2 h8 hb;have hA9:=HSw.out.pl.at_.below hb9 HGB.out.1;have x8:tm.getD 92 undef=.slice A9 (p2.recs.length+1) c9:=hv9;refine wp_store_one 50 _ _ rfl gP 1 x11 _ x8 rfl _ hA9 (Nat.le_of_ble_eq_true rfl) (by kernel_rfl) rfl ?_;intro w10 hAn hMn;exact hK _ _ (hJ.sto h8 ⟨wv,⟨⟨A9,c9,hv9⟩,hown9,hb9,hg9⟩,hMn,by rw[hv9];exact hAn⟩)
   ·intro a' w10 hJ hN hdf;obtain⟨w9,⟨⟨A9,c9,h92⟩,hown9,hb9,hg9⟩,hMn,hAn⟩:=hJ.w3 (by rfl);rw[h92] at hown9 hAn;have s0:a'.tmps.getD 0 undef=.pointer (some ⟨gP,0,none⟩):=(hJ.old_ 0 (by decide)).trans rfl;have s10:a'.tmps.getD 10 undef=.int .u8 (Cm.no f y):=(hJ.old_ 10 (by decide)).trans rfl;have ef:a'={ tmps:=((List.range 108).map fun i=>a'.tmps.getD i undef).toArray,defers:=[] }:=Rg.frame_of 108 a' hN hdf;obtain⟨u,hu⟩:∃u:Nat→Value,(fun i=>a'.tmps.getD i undef)=u:=⟨_,rfl⟩
    rw[hu] at ef;have e0:u 0=.pointer (some ⟨gP,0,none⟩):=by rw[← hu];exact s0
    have e10:u 10=.int .u8 (Cm.no f y):=by rw[← hu];exact s10
    have ef2:a'={ tmps:=(u 0 :: u 1 :: u 2 :: u 3 :: u 4 :: u 5 :: u 6 :: u 7 :: u 8 :: u 9 :: u 10 :: u 11 :: u 12 :: u 13 :: u 14 :: u 15 :: u 16 :: u 17 :: u 18 :: u 19 :: u 20 :: u 21 :: u 22 :: u 23 :: u 24 :: u 25 :: u 26 :: u 27 :: u 28 :: u 29 :: u 30 :: u 31 :: u 32 :: u 33 :: u 34 :: u 35 :: u 36 :: u 37 :: u 38 :: u 39 :: u 40 :: u 41 :: u 42 :: u 43 :: u 44 :: u 45 :: u 46 :: u 47 :: u 48 :: u 49 :: u 50 :: u 51 :: u 52 :: u 53 :: u 54 :: u 55 :: u 56 :: u 57 :: u 58 :: u 59 :: u 60 :: u 61 :: u 62 :: u 63 :: u 64 :: u 65 :: u 66 :: u 67 :: u 68 :: u 69 :: u 70 :: u 71 :: u 72 :: u 73 :: u 74 :: u 75 :: u 76 :: u 77 :: u 78 :: u 79 :: u 80 :: u 81 :: u 82 :: u 83 :: u 84 :: u 85 :: u 86 :: u 87 :: u 88 :: u 89 :: u 90 :: u 91 :: u 92 :: u 93 :: u 94 :: u 95 :: u 96 :: u 97 :: u 98 :: u 99 :: u 100 :: u 101 :: u 102 :: u 103 :: u 104 :: u 105 :: u 106 :: u 107 :: []:List Value).toArray,defers:=[] }:=ef;rw[e0,e10] at ef2;rw[ef2];clear hJ hN hdf ef ef2 hu e0 e10 s0 s10 h92;have HP9:Hid (Cm.Pl B gP lo ⟨p2.recs ++ [rn],p2.why,p2.found⟩ (.slice A9 (p2.recs.length+1) c9) (.slice A4 p2.why.length c4) w10):=by
     refine⟨hAn,?_,?_,HGB.out.1⟩
     ·have h:=hMn.own (fun q=>by have:=(hown9.lt _ q).1;have:=HGB.out;omega) hown9;rw[← Cm.rc_one,← Cm.rc_app] at h;simp only[List.length_append,List.length_cons,List.length_nil];exact h
     ·have h1:=own_keep HSw.out.pl.q hg9 (fun g q q2=>own_ne HSw.out.pl.r HSw.out.pl.q (by decide) g q2 q);exact hMn.own (fun q=>by have:=(h1.lt _ q).1;have:=HGB.out;omega) h1
    have HB9:Hid (Below gP w w10):=hMn.below (Nat.le_refl _) (HSw.out.b.trans (below_le hb9 (Nat.le_of_lt HGB.out.1)));have HZ9:Hid (w.heap.size≤w10.heap.size):=by
     obtain⟨o9,vs9,rfl⟩:=hMn;show _≤_
     rw[size_cells];exact Nat.le_trans HSw.out.sz hb9.size
    clear hown9 hb9 hg9 hAn hMn HSw HV;have P2:=HP9.out.at_.cell 2 _ rfl;have zP:=HP9.out.at_.lt;have HAq:=fun {ops:Array Oper} {rest:List Oper} {o:Oper} {a:Act} {Q:Exit→Act→World→Prop} hgd ho hs hx h=>row_append (ops:=ops) (rest:=rest) (o:=o) (a:=a) (Q:=Q) 51 56 1 1 _ #[.int .u8 (Cm.no f y)] Tryz.underlying51 Cm.why_info rfl (by decide) rfl (by
     intro u hu;simp at hu
     subst hu;rfl) (by decide) w10 B p2.why.length _ (.slice A4 p2.why.length c4) 101 103 w10.heap.size rfl HP9.out.q (by rw[HWy.out];have:=HK2.out;omega) (by have:=HGB.out;have:=HZ9.out;omega) hgd ho hs hx h
    go_upto_region 23 with (first|(at_builtin;refine HAq rfl rfl rfl rfl ?_;intro v11 w11 hown11 hb11 hg11 hat11;obtain⟨A11,c11,rfl,_,_⟩:=own_slice_cap hown11)|(refine wpList_store_one rfl 51 _ _ rfl gP 2 rfl (.slice A11 (p2.why.length+1) c11) rfl rfl _ (HP9.out.at_.below hb11 HGB.out.1) (Nat.le_of_ble_eq_true rfl) (by kernel_rfl) rfl ?_;intro w12 hAn hMn))
    have HP12:Hid (Cm.Pl B gP lo ⟨p2.recs ++ [rn],p2.why ++ [Cm.no f y],p2.found⟩ (.slice A9 (p2.recs.length+1) c9) (.slice A11 (p2.why.length+1) c11) w12):=by
     refine⟨hAn,?_,?_,HGB.out.1⟩
     ·have h1:=own_keep HP9.out.r hg11 (fun g q q2=>own_ne HP9.out.r HP9.out.q (by decide) g q q2);exact hMn.own (fun q=>by have:=(h1.lt _ q).1;have:=HGB.out;omega) h1
     ·have h:=hMn.own (fun q=>by have:=(hown11.lt _ q).1;have:=HGB.out;omega) hown11;simp only[List.length_append,List.length_cons,List.length_nil];rw[Cm.wc_app];exact h
    have HB12:Hid (Below gP w w12):=hMn.below (Nat.le_refl _) (HB9.out.trans (below_le hb11 (Nat.le_of_lt HGB.out.1)));have HZ12:Hid (w.heap.size≤w12.heap.size):=by
     obtain⟨o9,vs9,rfl⟩:=hMn;show _≤_
     rw[size_cells];exact Nat.le_trans HZ9.out hb11.size
    clear HAq hown11 hb11 hg11 hat11 hAn hMn HP9 HB9 HZ9 P2 zP;go_wp2;go_ret
    exact⟨rfl,HB12.out,HZ12.out,_,_,by rw[HSt.out];exact HP12.out⟩
end Go.Proofs.YtjobhjemnmleaaaGreatDoor
namespace Go.Proofs.YtjobhjemnmleaaaGreatDoor
open Go.RowKit
theorem lookLine_any {s:Src.S}{eras:List Er.E}(hr:Eg.RulesOk s.rules)(hz:Eg.ZoneOk eras){lo hi y:Int}(h:Ln.InY lo hi)(h1:lo≤y)(h2:y≤hi)(A:Option Addr)(n c:Nat)(w:World)(hn:(Ln.lineOf s eras lo hi).length=n)(hn2:n≤900000000)(hnc:n≤c)(hcm:c≤maxLen)
  (hR:Reads w w.heap.size 3 A n ((Ln.lineOf s eras lo hi).flatMap Ln.Sp.cells)):
  Calls Tryz.prog 23 #[.slice A n c,.int .i64 y] w fun e w'=>∃v,e=.returned (.tuple #[v,.int .i64 0])∧w'.ownsRow w.heap.size 164 3 v (Ln.lineOf s eras y y).length (Ln.fl (Ln.lineOf s eras y y))∧Below w.heap.size w w':=by
 obtain⟨k1,k2,k3,k4⟩:=h;have hc:=Ln.lineOf_cov hr hz (lo:=lo) (hi:=hi) ⟨k1,k2,k3,k4⟩;have hlt:=(Ln.years_in k1 k2 k3).1;have h0:∀x,(Ln.lineOf s eras lo hi)[0]?=some x→x.fr≤Oc.D y*86400:=fun x hx=>by
  have hm:=Oc.D_mono h1;cases hl:Ln.lineOf s eras lo hi with
  |nil=>rw[hl] at hx;cases hx
  |cons a l=>
   rw[hl] at hc hx;obtain rfl:a=x:=by simpa using hx
   have:=hc.1;omega
 refine(lookYear_any (Ln.lineOf s eras lo hi) y A n c w hn hn2 hnc hcm (Lo.right_cov hc hlt) ⟨by omega,by omega⟩ h0 hR).mono ?_;rintro e w' ⟨⟨k,x,v,ha,hx,rfl,ho⟩,hb⟩;refine⟨v,rfl,?_,hb⟩;rw[Cm.year_cut hr hz ⟨k1,k2,k3,k4⟩ h1 h2 ha hx] at ho;exact ho
namespace Cm
theorem off_bd {s:Src.S}{eras:List Er.E}{lo hi:Int}(hr:Eg.RulesOk s.rules)(hz:Eg.ZoneOk eras)(h:Ln.InY lo hi){p:Ln.Sp}(hp:p∈Ln.lineOf s eras lo hi):-1209600≤p.off∧p.off≤1209600:=by
 obtain⟨k,hk0⟩:=List.mem_iff_getElem?.1 hp;have hf:=(Ln.Cov.in_ (Ln.lineOf_cov hr hz h) k p hk0).2.2;unfold Ln.st at hf;have hk:=Ln.hold_le (Eg.ends s.rules eras) p.fr;rw[Eg.ends_len] at hk;have hl:=hz.len.1;obtain⟨e,he⟩:∃e,eras[Ln.hold (Eg.ends s.rules eras) p.fr]?=some e:=⟨_,List.getElem?_eq_getElem (by omega)⟩
 rw[List.getD_eq_getElem?_getD,he] at hf;have hok:=hz.ok e (List.mem_of_getElem? he);have hs:=(Ln.saved_ok hr (Ln.ok_sv hok) p.fr).1;rw[Ln.savedAt_one] at hs;have h1:=hok.1;unfold Ln.setAt at hf
 injection hf with e1 _
 have e2:e.std+Ln.saveAt s.rules e p.fr=p.off:=e1;unfold IsTime at hs h1;omega
theorem why_bd (l:List Ln.Sp)(fr te:Int):0≤Rc.why l fr te∧Rc.why l fr te<6:=by
 unfold Rc.why
 repeat' split
 all_goals decide
theorem no_bd (f:Int→List Ln.Sp)(y:Int):0≤no f y∧no f y<6:=why_bd _ _ _
theorem found_pos {f:Int→List Ln.Sp}{lo:Int}{n:Nat}(h:(run f lo n).found=true):0<n:=by
 obtain⟨i,hi,_⟩:=found_iff.1 h;omega
def yr (s:Src.S)(eras:List Er.E)(y:Int):List Ln.Sp:=Ln.lineOf s eras y y
theorem good_zone {s:Src.S}{eras:List Er.E}(hr:Eg.RulesOk s.rules)(hz:Eg.ZoneOk eras){lo hi:Int}(h:Ln.InY lo hi)(hlo:1601≤lo){n:Nat}(hn:lo+(n:Int)≤hi+1):Good (yr s eras) lo n (run (yr s eras) lo n):=by
 obtain⟨k1,k2,k3,k4⟩:=h;exact good_run fun i hi=>⟨by omega,by omega,of_line hr hz ⟨by omega,by omega,by omega,by omega⟩⟩
theorem why_get {f:Int→List Ln.Sp}{lo:Int}{n:Nat}{p:P}(h:Good f lo n p):∀x∈p.why,0≤x∧x<6:=fun x hx=>by
 obtain⟨i,hi⟩:=List.mem_iff_getElem?.1 hx;have hl:=(List.getElem?_eq_some_iff.1 hi).1;rw[h.lw] at hl;have:=h.why i hl;rw[hi] at this;rw[Option.some.inj this];exact no_bd f _
end Cm
end Go.Proofs.YtjobhjemnmleaaaGreatDoor
namespace Go.Proofs.YtjobhjemnmleaaaGreatDoor
open Go.RowKit Go.Shelf
theorem Lk.find_bd (zn ln tg:List ByteArray):∀(f:Nat) (K:Lk.Kn) (x:ByteArray),(∀y e,K y=some e→0≤e.1∧e.1≤zn.length)→0≤(Lk.find zn ln tg f K x).2.1∧(Lk.find zn ln tg f K x).2.1≤zn.length
 |0,K,x,_=>⟨Int.le_refl _,by show (0:Int)≤_;omega⟩
 |f+1,K,x,hK=>by
  unfold Lk.find;split
  ·rename_i e he
   exact hK _ _ he
  ·split
   ·rename_i i hi
    have:=(List.getElem?_eq_some_iff.1 (Lk.first_some hi)).1;exact⟨by show (0:Int)≤(i:Int);omega,by show (i:Int)≤_;omega⟩
   ·split
    ·exact⟨Int.le_refl _,by show (0:Int)≤_;omega⟩
    ·refine Lk.find_bd zn ln tg f _ _ ?_;intro y e he;unfold Lk.mark at he;split at he
     ·cases he
      exact⟨Int.le_refl _,by show (0:Int)≤_;omega⟩
     ·exact hK _ _ he
theorem walk_bd (s:Src.S)(name:ByteArray)(h:s.zones.length≤1024):0≤(Lk.walk s name).2.1∧(Lk.walk s name).2.1<9223372036854775808:=by
 have h1:=Lk.find_bd (Lk.zn s) (Lk.ln s) (Lk.tg s) (s.links.length+1) (fun _=>none) name (fun _ _ e=>by cases e);have h2:(Lk.zn s).length=s.zones.length:=by unfold Lk.zn;rw[List.length_map]
 unfold Lk.walk;omega
end Go.Proofs.YtjobhjemnmleaaaGreatDoor
