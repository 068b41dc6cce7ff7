/- valid.Flaws. -/
import Derived.Test.YtjobhjemnmleaaaGreatDoorR23
import Derived.Test.YtjobhjemnmleaaaGreatDoorR19
set_option maxRecDepth 100000
set_option maxHeartbeats 4000000
namespace Go.Proofs.YtjobhjemnmleaaaGreatDoor
open Go.RowKit
namespace Vd
structure Sz (s:Src.S):Prop where
 lims:Src.Lims s
 eras:∀z∈s.zones,z.2.length≤100
 smw:Src.SmW s
theorem Sz.nm {s:Src.S}(h:Sz s):Lk.Nm s:=⟨by have:=h.lims.zones;omega,by have:=h.lims.links;omega,fun z hz=>(h.smw.zones z hz).1,h.smw.links⟩
theorem Sz.names {s:Src.S}(h:Sz s):∀x∈Src.names s,x.size≤maxLen:=by
 intro x hx;unfold Src.names at hx;rcases List.mem_append.1 hx with hx|hx
 ·exact h.nm.zn x hx
 ·exact h.nm.ln x hx
theorem Sz.rn {s:Src.S}(h:Sz s):∀x∈Vd.rn s,x.size≤maxLen:=by
 intro x hx;unfold Vd.rn at hx;obtain⟨r,hr,rfl⟩:=List.mem_map.1 hx;exact(h.smw.rules r hr).1
theorem Sz.er {s:Src.S}(h:Sz s):∀z∈s.zones,∀e∈z.2,e.ru.size≤maxLen:=fun z hz e he=>((h.smw.zones z hz).2 e he).2
noncomputable def fA (s:Src.S):List Fl:=tw (Src.names s)
noncomputable def fB (s:Src.S):List Fl:=fA s ++ s.zones.flatMap (mz s)
noncomputable def fC (s:Src.S):List Fl:=fB s ++ s.zones.flatMap dz
noncomputable def flaws (s:Src.S):List Fl:=fC s ++ (asl s s.links).2
theorem fA_len {s:Src.S}(h:Sz s):(fA s).length≤6000:=by
 have h1:=tw_le (Src.names s) (Src.names s).length;have h2:(Src.names s).length=s.zones.length+s.links.length:=by simp[Src.names,Src.zoneNames,Src.linkNames]
 have:=h.lims.zones;have:=h.lims.links;unfold fA tw;omega
theorem fB_len {s:Src.S}(h:Sz s):(fB s).length≤110000:=by
 have h1:=fA_len h;have h2:=flat_len (mz s) 100 s.zones (fun z hz=>Nat.le_trans (flat_len (ms (Vd.rn s)) 1 z.2 (fun e _=>ms_le _ e)) (by have:=h.eras z hz;omega));have:=h.lims.zones;unfold fB;rw[List.length_append];omega
theorem fC_len {s:Src.S}(h:Sz s):(fC s).length≤220000:=by
 have h1:=fB_len h;have h2:=flat_len dz 100 s.zones (fun z hz=>Nat.le_trans (ds_len _ z.2 _) (by have:=h.eras z hz;simpa using this));have:=h.lims.zones;unfold fC;rw[List.length_append];omega
end Vd
theorem vdFlaws_any (s:Src.S)(rv zv lv:Value)(evs:List Value)(w:World)(hR:Src.SrcR w w.heap.size s rv zv lv evs)(hS:Vd.Sz s)(hW:Wo w):
  Calls Tryz.prog 56 #[.agg #[rv,zv,lv]] w fun e w'=>∃v,e=.returned v∧Below w.heap.size w w'∧w'.ownsRow w.heap.size 289 2 v (Vd.flaws s).length (Vd.cells (Vd.flaws s)):=by
 obtain⟨rA,rc,rfl,_⟩:=hR.rules;obtain⟨zA,zc,rfl,_⟩:=hR.zones;obtain⟨lA,lc,rfl,_⟩:=hR.links;obtain⟨n1,hn1⟩:=aj (s.rules.length)
 obtain⟨n2,hn2⟩:=aj (s.zones.length)
 obtain⟨n3,hn3⟩:=aj (s.links.length)
 rw[hn1,hn2,hn3] at hR ⊢;obtain⟨B,hBb⟩:=aj (w.heap.size)
 have hb0:=((Below.refl w.heap.size w).alloc (Nat.le_refl _) (.cells #[.slice rA n1 rc,.slice zA n2 zc,.slice lA n3 lc] 26)).alloc (by simp) (.cells #[.slice rA n1 rc,.slice zA n2 zc,.slice lA n3 lc,.slice none 0 0] 203);have hA0:=At.new (w.alloc (.cells #[.slice rA n1 rc,.slice zA n2 zc,.slice lA n3 lc] 26)) #[.slice rA n1 rc,.slice zA n2 zc,.slice lA n3 lc,.slice none 0 0] 203;rw[World.size_alloc] at hA0;obtain⟨b0,b1,b2,_⟩:=(At.new w #[.slice rA n1 rc,.slice zA n2 zc,.slice lA n3 lc] 26).three;rw[hBb] at hR hb0 hA0;obtain⟨W0,hW0⟩:=aj (((w.alloc (.cells #[.slice rA n1 rc,.slice zA n2 zc,.slice lA n3 lc] 26)).alloc (.cells #[.slice rA n1 rc,.slice zA n2 zc,.slice lA n3 lc,.slice none 0 0] 203)))
 rw[hW0] at hb0 hA0;have hF0:Vd.Fd (.slice rA n1 rc) (.slice zA n2 zc) (.slice lA n3 lc) B (B+1) [] (.slice none 0 0) W0:=⟨hA0,World.ownsRow_nil _ _ _ _,fun e=>by cases e⟩
 have hR0:=hR.below hb0;have hw0:Vd.WoB B W0:=fun W hb=>hW.below (by rw[hBb];exact hb0.trans hb)
 have hvb0:=hF0.base;have hgl:B≤W0.heap.size:=by have:=hA0.lt;omega
 have HC1:=ak (vdTwice_any s _ _ _ _ evs B (B+1) [] W0 hF0 hR0 (by omega) hS.lims hS.names (by simp));have HK:Hid (∀v W,Vd.Kp (B+1) (.slice none 0 0) v W0 W→Below B W0 W∧Src.SrcR W B s (.slice rA n1 rc) (.slice zA n2 zc) (.slice lA n3 lc) evs∧Vd.WoB B W):=fun v W h=>by
  have hb:=h.base (by omega) hvb0 hgl;exact⟨hb,hR0.below hb,hw0.then_ hb⟩
 have HS:=ak hS;have HB0:=ak hb0;have HA:=ak hA0;have HW0:=ak hW0;have HBb:=ak hBb;clear hR hb0 hA0 hF0 hR0 hw0 hvb0 hS hn1 hn2 hn3 hW hW0 hBb;go_enter Tryz.func56,Tryz.ntmps56
 go_wp2_with fail
 clear b0 b1 b2;rw[HW0.out,HBb.out];refine HC1.out.mono ?_;rintro e w1 ⟨⟨x1,rfl⟩,v1,hF1,hK1⟩;obtain⟨hb1,hR1,hw1⟩:=HK.out _ _ hK1;have HC2:=ak (vdMissing_any s _ _ _ _ evs B (B+1) _ w1 hF1 hR1 (by omega) HS.out.lims HS.out.eras HS.out.rn HS.out.er (by have:=Vd.fA_len HS.out;unfold Vd.fA at this;simp only[List.nil_append];omega));have HK1:=ak hK1;clear hb1 hR1 hw1 hF1 hK1;go_wp2_with fail
 refine HC2.out.mono ?_;rintro e w2 ⟨⟨x2,rfl⟩,v2,hF2,hK2⟩;replace hK2:=HK1.out.trans hK2;obtain⟨hb2,hR2,hw2⟩:=HK.out _ _ hK2;have HC3:=ak (vdDisorder_any s _ _ _ _ evs B (B+1) _ w2 hF2 hR2 (by omega) HS.out.lims HS.out.eras (by have:=Vd.fB_len HS.out;unfold Vd.fB Vd.fA at this;simp only[List.nil_append];omega) hw2);have HK2:=ak hK2;clear hb2 hR2 hw2 hF2 hK2;go_wp2_with fail
 refine HC3.out.mono ?_;rintro e w3 ⟨⟨x3,rfl⟩,v3,hF3,hK3⟩;replace hK3:=HK2.out.trans hK3;obtain⟨hb3,hR3,hw3⟩:=HK.out _ _ hK3;have HC4:=ak (vdAstray_any s _ _ _ _ evs B (B+1) _ w3 hF3 hR3 (by omega) HS.out.lims HS.out.nm (by have:=Vd.fC_len HS.out;unfold Vd.fC Vd.fB Vd.fA at this;simp only[List.nil_append];omega));have HK3:=ak hK3;clear hb3 hR3 hw3 hF3 hK3;go_wp2_with fail
 refine HC4.out.mono ?_;rintro e w4 ⟨⟨x4,rfl⟩,v4,hF4,hK4⟩;replace hK4:=HK3.out.trans hK4;obtain⟨hb4,hR4,hw4⟩:=HK.out _ _ hK4;have a3:=hF4.at_.cell 3 _ rfl;have HE:Hid (Below w.heap.size w w4∧w4.ownsRow w.heap.size 289 2 v4 (Vd.flaws s).length (Vd.cells (Vd.flaws s))):=by
  show _∧_
  rw[HBb.out];exact⟨HB0.out.trans hb4,hF4.row⟩
 obtain⟨nn,hnn⟩:=aj ((Vd.flaws s).length)
 have hrow:w4.ownsRow B 289 2 v4 nn (Vd.cells (Vd.flaws s)):=by rw[← hnn];exact hF4.row
 obtain⟨A4,c4,rfl,_⟩:=own_slice hrow;clear hnn hrow;clear hb4 hR4 hw4 hF4 hK4;go_wp2;go_ret
 refine⟨_,?_,HE.out⟩;rfl
noncomputable def Vd.well (s:Src.S):Bool:=Src.srcB s && ((Vd.flaws s).length == 0)
theorem vdWell_any (s:Src.S)(rv zv lv:Value)(evs:List Value)(w:World)(hR:Src.SrcR w w.heap.size s rv zv lv evs)(hS:Vd.Sz s)(hW:Wo w)(hA:Wa w):
  Calls Tryz.prog 14 #[.agg #[rv,zv,lv]] w fun e w'=>e=.returned (.bool (Vd.well s))∧Below w.heap.size w w':=by
 obtain⟨rA,rc,rfl,_⟩:=hR.rules;obtain⟨zA,zc,rfl,_⟩:=hR.zones;obtain⟨lA,lc,rfl,_⟩:=hR.links;obtain⟨n1,hn1⟩:=aj (s.rules.length)
 obtain⟨n2,hn2⟩:=aj (s.zones.length)
 obtain⟨n3,hn3⟩:=aj (s.links.length)
 rw[hn1,hn2,hn3] at hR ⊢;have hb0:=(Below.refl w.heap.size w).alloc (Nat.le_refl _) (.cells #[.slice rA n1 rc,.slice zA n2 zc,.slice lA n3 lc] 26);have hA0:=At.new w #[.slice rA n1 rc,.slice zA n2 zc,.slice lA n3 lc] 26;have HC:=ak (srcCheck_anyW s _ _ _ evs _ (hA.below hb0) (hR.call hb0) hS.lims hS.smw);have HFl:Hid (∀W,Below w.heap.size w W→_):=fun W hb=>vdFlaws_any s _ _ _ evs W (hR.call hb) hS (hW.below hb)
 have HB0:=ak hb0;have HA0:=ak hA0;obtain⟨b0,b1,b2,_⟩:=hA0.three;obtain⟨X,hX⟩:=aj (Vd.well s)
 have HX:=ak hX;rw[hX];clear hR hb0 hA0 hn1 hn2 hn3 hS hW hA hX;go_enter Tryz.func14,Tryz.ntmps14
 go_wp2_with fail
 refine HC.out.mono ?_;rintro e w1 ⟨rfl,hb⟩;have HB1:=ak (below_then HB0.out hb);obtain⟨c0,c1,c2,_⟩:=(HA0.out.call hb).three;have HF1:=ak (HFl.out w1 HB1.out);clear hb b0 b1 b2 HC HFl;cases hs:Src.srcB s with
 |false=>
  have hx:X=false:=by rw[← HX.out];unfold Vd.well;rw[hs];rfl
  simp only[Bool.false_eq_true,if_false];subst hx;go_wp2;go_ret
  exact⟨rfl,HB1.out⟩
 |true=>
  have hx:X=((Vd.flaws s).length == 0):=by rw[← HX.out];unfold Vd.well;rw[hs];rfl
  simp only[if_true];go_wp2_with fail
  refine HF1.out.mono ?_;rintro e w2 ⟨v,rfl,hb,ho⟩;obtain⟨A,c,rfl,_⟩:=own_slice ho;have HB2:=ak (below_then HB1.out hb);obtain⟨n,hn⟩:=aj ((Vd.flaws s).length)
  rw[hn] at hx ⊢;have HXn:=ak hx;clear hb ho hn hx;have hd:((n:Int) == 0)=(n == 0):=by
   cases n with
   |zero=>rfl
   |succ n=>rw[show ((n+1:Nat) == 0)=false from rfl,beq_eq_false_iff_ne];omega
  go_wp2;go_ret
  exact⟨ret_bool HXn.out.symm,HB2.out⟩
end Go.Proofs.YtjobhjemnmleaaaGreatDoor
namespace Go.Proofs.YtjobhjemnmleaaaGreatDoor
open Go.RowKit
namespace Vd
def Good (s:Src.S):Nat→ByteArray→Prop
 |0,x=>x∈Lk.zn s
 |n+1,x=>x∉Lk.zn s∧∃j,Lk.first (Lk.ln s) x=some j∧Good s n ((Lk.tg s).getD j ⟨#[]⟩)
theorem good_one {s:Src.S}:∀{n m:Nat} {x:ByteArray},Good s n x→Good s m x→n=m
 |0,0,_,_,_=>rfl
 |0,m+1,_,h,k=>absurd h k.1
 |n+1,0,_,h,k=>absurd k h.1
 |n+1,m+1,x,⟨_,j,hj,h⟩,⟨_,i,hi,k⟩=>by
  rw[hj] at hi;cases hi
  rw[good_one h k]
theorem good_path {s:Src.S}:∀{n:Nat} {x:ByteArray},Good s n x→∃p:List ByteArray,p.length=n∧p.Nodup∧∀y∈p,y∈Lk.ln s∧∃m,m≤n∧Good s m y
 |0,_,_=>⟨[],rfl,List.nodup_nil,fun y hy=>by cases hy⟩
 |n+1,x,h=>by
  obtain⟨hx,j,hj,hg⟩:=h;obtain⟨p,h1,h2,h3⟩:=good_path hg;refine⟨x :: p,by simp[h1],List.nodup_cons.2 ⟨fun hm=>?_,h2⟩,fun y hy=>?_⟩
  ·obtain⟨_,m,hm1,hm2⟩:=h3 x hm;have:=good_one hm2 (show Good s (n+1) x from⟨hx,j,hj,hg⟩);omega
  ·rcases List.mem_cons.1 hy with rfl|hy
   ·exact⟨List.mem_of_getElem? (Lk.first_some hj),n+1,Nat.le_refl _,hx,j,hj,hg⟩
   ·obtain⟨a,m,b,c⟩:=h3 y hy;exact⟨a,m,by omega,c⟩
theorem ln_len (s:Src.S):(Lk.ln s).length=s.links.length:=by unfold Lk.ln;simp
theorem good_le {s:Src.S}{n:Nat}{x:ByteArray}(h:Good s n x):n≤s.links.length:=by
 obtain⟨p,h1,h2,h3⟩:=good_path h;have:=Lk.nodup_len p (Lk.ln s) h2 (fun y hy=>(h3 y hy).1);rw[ln_len] at this;omega
theorem find_good {s:Src.S}:∀(n f:Nat) (K:Lk.Kn) (x:ByteArray),Good s n x→n<f→(∀m y,m≤n→Good s m y→K y=none)→(Lk.find (Lk.zn s) (Lk.ln s) (Lk.tg s) f K x).2.2=0
 |0,f+1,K,x,h,_,hK=>by
  have h0:=hK 0 x (Nat.le_refl _) h;cases hz:Lk.first (Lk.zn s) x with
  |none=>exact absurd h (Lk.first_none.1 hz)
  |some i=>rw[Lk.find,h0];simp only[hz]
 |n+1,f+1,K,x,h,hf,hK=>by
  obtain⟨hx,j,hj,hg⟩:=h;have hgx:Good s (n+1) x:=⟨hx,j,hj,hg⟩
  have h0:=hK (n+1) x (Nat.le_refl _) hgx;have hz:=Lk.first_none.2 hx;rw[Lk.find,h0];simp only[hz,hj];refine find_good n f _ _ hg (by omega) (fun m y hm hy=>?_);have hne:y≠x:=fun e=>by
   rw[e] at hy;have:=good_one hy hgx;omega
  unfold Lk.mark;rw[if_neg hne];exact hK m y (by omega) hy
theorem good_find {s:Src.S}:∀(f:Nat) (K:Lk.Kn) (done:List ByteArray) (x:ByteArray),done.Nodup→(∀d∈done,d∈Lk.ln s)→f+done.length=s.links.length+1→(∀y∈done,K y=some Lk.loop)→(∀y,y∉done→K y=none)→
  (Lk.find (Lk.zn s) (Lk.ln s) (Lk.tg s) f K x).2.2=0→(∃n,Good s n x)∧∀y∈(Lk.find (Lk.zn s) (Lk.ln s) (Lk.tg s) f K x).1,∃m,Good s m y
 |0,K,done,x,hd,hl,hf,_,_,_=>by
  have:=Lk.nodup_len done (Lk.ln s) hd hl;rw[ln_len] at this;omega
 |f+1,K,done,x,hd,hl,hf,h1,h2,h=>by
  by_cases hin:x∈done
  ·rw[Lk.find,h1 x hin] at h;cases h
  ·have h0:=h2 x hin;rw[Lk.find,h0] at h ⊢;cases hz:Lk.first (Lk.zn s) x with
   |some i=>
    have hg:Good s 0 x:=List.mem_of_getElem? (Lk.first_some hz);simp only;exact⟨⟨0,hg⟩,fun y hy=>⟨0,by rw[List.mem_singleton.1 hy];exact hg⟩⟩
   |none=>
    simp only[hz] at h ⊢;cases hj:Lk.first (Lk.ln s) x with
    |none=>
     simp only[hj] at h;cases h
    |some j=>
     simp only[hj] at h ⊢;have hxl:x∈Lk.ln s:=List.mem_of_getElem? (Lk.first_some hj);obtain⟨⟨n,hn⟩,hc⟩:=good_find f (Lk.mark K x Lk.loop) (x :: done) _ (List.nodup_cons.2 ⟨hin,hd⟩) (fun d hd=>by
      rcases List.mem_cons.1 hd with rfl|hd
      ·exact hxl
      ·exact hl d hd) (by rw[List.length_cons];omega) (fun y hy=>by
      unfold Lk.mark
      by_cases e:y=x
      ·rw[if_pos e]
      ·rw[if_neg e];rcases List.mem_cons.1 hy with e2|hy
       ·exact absurd e2 e
       ·exact h1 y hy) (fun y hy=>by
      unfold Lk.mark;rw[if_neg (fun e=>hy (by rw[e];exact List.mem_cons_self))];exact h2 y (fun q=>hy (List.mem_cons_of_mem _ q))) h
     have hg:Good s (n+1) x:=⟨Lk.first_none.1 hz,j,hj,hn⟩
     refine⟨⟨n+1,hg⟩,fun y hy=>?_⟩;rcases List.mem_cons.1 hy with rfl|hy
     ·exact⟨n+1,hg⟩
     ·exact hc y hy
def Leads (s:Src.S)(x:ByteArray):Prop:=∃n,Good s n x
theorem leads_walk {s:Src.S}{x:ByteArray}(h:Leads s x):(Lk.walk s x).2.2=0:=by
 obtain⟨n,hn⟩:=h;exact find_good n _ _ x hn (by have:=good_le hn;omega) (fun _ _ _ _=>rfl)
theorem walk_leads {s:Src.S}{x:ByteArray}(h:(Lk.walk s x).2.2=0):Leads s x∧∀y∈(Lk.walk s x).1,Leads s y:=
 good_find (s.links.length+1) _ [] x List.nodup_nil (fun d hd=>by cases hd) (by simp) (fun y hy=>by cases hy) (fun y _=>rfl) h
def True_ (s:Src.S)(K:Em):Prop:=∀x e,K x=some e→e=0∧Leads s x
theorem True_.put {s:Src.S}{K:Em}(h:True_ s K){x:ByteArray}(hx:Leads s x):True_ s (em K x 0):=by
 intro y e he;unfold em at he;split at he
 ·rename_i e2
  cases he
  rw[e2];exact⟨rfl,hx⟩
 ·exact h y e he
theorem True_.puts {s:Src.S}:∀{l:List ByteArray} {K:Em},True_ s K→(∀x∈l,Leads s x)→True_ s (ems K l 0)
 |[],_,h,_=>h
 |x :: l,K,h,hl=>True_.puts (K:=em K x 0) (h.put (hl x (by simp))) (fun y hy=>hl y (by simp[hy]))
theorem K0_true (s:Src.S):True_ s (K0 s):=True_.puts (fun x e h=>by cases h) (fun x hx=>⟨0,hx⟩)
theorem asq_true {s:Src.S}{K:Em}{T:ByteArray}(h:True_ s K)(hq:(asq s K T).1=0):Leads s T∧True_ s (asq s K T).2:=by
 cases hK:K T with
 |some e=>
  rw[asq_some hK] at hq ⊢;exact⟨(h T e hK).2,h⟩
 |none=>
  rw[asq_none hK] at hq ⊢;simp only at hq ⊢;obtain⟨h1,h2⟩:=walk_leads hq;rw[hq];exact⟨h1,(h.put h1).puts h2⟩
theorem asq_leads {s:Src.S}{K:Em}{T:ByteArray}(h:True_ s K)(ht:Leads s T):(asq s K T).1=0:=by
 cases hK:K T with
 |some e=>rw[asq_some hK];exact(h T e hK).1
 |none=>rw[asq_none hK];exact leads_walk ht
theorem first_nodup {l:List ByteArray}{k:Nat}{x:ByteArray}(hd:l.Nodup)(h:l[k]?=some x):Lk.first l x=some k:=by
 induction l generalizing k with
 |nil=>simp at h
 |cons y l ih=>
  obtain⟨h1,h2⟩:=List.nodup_cons.1 hd;unfold Lk.first;cases k with
  |zero=>
   have e:y=x:=by simpa using h
   rw[if_pos e]
  |succ k=>
   have hx:x∈l:=List.mem_of_getElem? (by simpa using h);rw[if_neg (fun e=>h1 (by rw[e];exact hx)),ih h2 (by simpa using h)];rfl
theorem link_leads {s:Src.S}(hn:(Src.names s).Nodup){k:Nat}{l:Src.Txt × Src.Txt}(hk:s.links[k]?=some l)(ht:Leads s (Src.bts l.1)):Leads s (Src.bts l.2):=by
 obtain⟨n,hg⟩:=ht;have h1:(Lk.ln s)[k]?=some (Src.bts l.2):=by unfold Lk.ln;rw[List.getElem?_map,hk];rfl
 have h2:(Lk.tg s).getD k ⟨#[]⟩=Src.bts l.1:=by unfold Lk.tg;rw[List.getD,List.getElem?_map,hk];rfl
 have hn':(Lk.zn s ++ Lk.ln s).Nodup:=hn;obtain⟨_,hd2,hd3⟩:=List.nodup_append.1 hn';refine⟨n+1,fun hz=>hd3 _ hz _ (List.mem_of_getElem? h1) rfl,k,first_nodup hd2 h1,?_⟩;rw[h2];exact hg
theorem as1_true {s:Src.S}(hn:(Src.names s).Nodup){K:Em}{k:Nat}{l:Src.Txt × Src.Txt}(hk:s.links[k]?=some l)(h:True_ s K)(ht:Leads s (Src.bts l.1))(fl:List Fl):True_ s (as1 s (K,fl) l).1∧(as1 s (K,fl) l).2=fl:=by
 have hq:=asq_leads h ht;obtain⟨_,h2⟩:=asq_true h hq;unfold as1;simp only[hq,if_true];refine⟨?_,trivial⟩;split
 ·exact h2
 ·exact h2.put (link_leads hn hk ht)
theorem asl_true {s:Src.S}(hn:(Src.names s).Nodup):∀k,k≤s.links.length→(∀i l,i<k→s.links[i]?=some l→Leads s (Src.bts l.1))→True_ s (asl s (s.links.take k)).1∧(asl s (s.links.take k)).2=[]
 |0,_,_=>⟨K0_true s,rfl⟩
 |k+1,hk,h=>by
  obtain⟨h1,h2⟩:=asl_true hn k (by omega) (fun i l hi=>h i l (by omega));obtain⟨l,hl⟩:∃l,s.links[k]?=some l:=⟨_,List.getElem?_eq_getElem (by omega)⟩
  rw[asl_next hl];have:=as1_true hn hl h1 (h k l (by omega) hl) (asl s (s.links.take k)).2;rw[h2] at this;rw[show asl s (s.links.take k)=((asl s (s.links.take k)).1,[]) from by rw[← h2]];exact this
theorem as1_grows (s:Src.S)(st:Em × List Fl)(l:Src.Txt × Src.Txt)(h:(as1 s st l).2=[]):st.2=[]∧(asq s st.1 (Src.bts l.1)).1=0:=by
 unfold as1 at h;simp only at h;split at h
 ·rename_i e
  exact⟨h,e⟩
 ·simp at h
theorem asl_empty {s:Src.S}(hn:(Src.names s).Nodup):∀k,k≤s.links.length→(asl s (s.links.take k)).2=[]→True_ s (asl s (s.links.take k)).1∧∀i l,i<k→s.links[i]?=some l→Leads s (Src.bts l.1)
 |0,_,_=>⟨K0_true s,fun i l hi=>by omega⟩
 |k+1,hk,h=>by
  obtain⟨l,hl⟩:∃l,s.links[k]?=some l:=⟨_,List.getElem?_eq_getElem (by omega)⟩
  rw[asl_next hl] at h ⊢;obtain⟨h1,h2⟩:=as1_grows s _ l h;obtain⟨h3,h4⟩:=asl_empty hn k (by omega) h1;have ht:=(asq_true h3 h2).1;refine⟨(as1_true hn hl h3 ht (asl s (s.links.take k)).2).1,fun i l' hi hl'=>?_⟩
  by_cases e:i=k
  ·subst e;rw[hl] at hl';cases hl'
   exact ht
  ·exact h4 i l' (by omega) hl'
def AllLead (s:Src.S):Prop:=∀l∈s.links,Leads s (Src.bts l.1)
theorem asl_iff {s:Src.S}(hn:(Src.names s).Nodup):(asl s s.links).2=[]↔AllLead s:=by
 constructor
 ·intro h l hl;obtain⟨i,hi⟩:=List.getElem?_of_mem hl;have:=asl_empty hn s.links.length (Nat.le_refl _) (by rw[List.take_length];exact h);exact this.2 i l (List.getElem?_eq_some_iff.1 hi).1 hi
 ·intro h;have:=asl_true hn s.links.length (Nat.le_refl _) (fun i l _ hi=>h l (List.mem_of_getElem? hi));rw[List.take_length] at this;exact this.2
theorem tw_steps (l:List ByteArray):∀k,k≤l.length→(steps (tw1 l) l k=[]↔(l.take k).Nodup)
 |0,_=>by simp[steps]
 |k+1,hk=>by
  obtain⟨x,hx⟩:∃x,l[k]?=some x:=⟨_,List.getElem?_eq_getElem (by omega)⟩
  rw[steps_next hx,List.append_eq_nil_iff,tw_steps l k (by omega),List.take_add_one,hx];simp only[Option.toList_some];rw[List.nodup_append]
  by_cases hin:x∈l.take k
  ·rw[tw1_in hin];constructor
   ·rintro ⟨_,h⟩;cases h
   ·rintro ⟨_,_,h⟩;exact absurd rfl (h x hin x (by simp))
  ·rw[tw1_out hin];constructor
   ·rintro ⟨h,_⟩;refine⟨h,by simp,fun a ha b hb e=>hin ?_⟩;rw[List.mem_singleton] at hb;rw[← hb,← e];exact ha
   ·rintro ⟨h,_⟩;exact⟨h,rfl⟩
theorem tw_iff (l:List ByteArray):tw l=[]↔l.Nodup:=by
 unfold tw;rw[tw_steps l l.length (Nat.le_refl _),List.take_length]
def AllRules (s:Src.S):Prop:=∀z∈s.zones,∀e∈z.2,e.k=2→e.ru∈rn s
theorem ms_iff (rn:List ByteArray)(e:Er.E):ms rn e=[]↔(e.k=2→e.ru∈rn):=by
 by_cases h:e.k=2
 ·by_cases h2:e.ru∈rn
  ·rw[ms_there h2];simp[h2]
  ·rw[ms_yes h h2];simp[h,h2]
 ·rw[ms_kind h];simp[h]
theorem mz_iff (s:Src.S):s.zones.flatMap (mz s)=[]↔AllRules s:=by
 unfold AllRules mz;simp only[List.flatMap_eq_nil_iff,ms_iff]
def AllOrder (s:Src.S):Prop:=∀z∈s.zones,dz z=[]
theorem flaws_iff (s:Src.S):flaws s=[]↔(Src.names s).Nodup∧AllRules s∧AllOrder s∧AllLead s:=by
 unfold flaws fC fB fA;rw[List.append_eq_nil_iff,List.append_eq_nil_iff,List.append_eq_nil_iff,tw_iff,mz_iff];constructor
 ·rintro ⟨⟨⟨h1,h2⟩,h3⟩,h4⟩;exact⟨h1,h2,List.flatMap_eq_nil_iff.1 h3,(asl_iff h1).1 h4⟩
 ·rintro ⟨h1,h2,h3,h4⟩;exact⟨⟨⟨h1,h2⟩,List.flatMap_eq_nil_iff.2 h3⟩,(asl_iff h1).2 h4⟩
theorem well_iff (s:Src.S):well s=true↔Src.srcB s=true∧flaws s=[]:=by
 unfold well;simp
end Vd
end Go.Proofs.YtjobhjemnmleaaaGreatDoor
namespace Go.Proofs.YtjobhjemnmleaaaGreatDoor
open Go.RowKit
namespace Vd
theorem well_parts {s:Src.S}(h:well s=true):Src.srcB s=true∧(Src.names s).Nodup∧AllRules s∧AllOrder s∧AllLead s:=by
 obtain⟨h1,h2⟩:=(well_iff s).1 h;exact⟨h1,(flaws_iff s).1 h2⟩
end Vd
end Go.Proofs.YtjobhjemnmleaaaGreatDoor
namespace Go.Proofs.YtjobhjemnmleaaaGreatDoor
open Go.RowKit
namespace Eg
structure ZoneOk (eras:List Er.E):Prop where
 len:1≤eras.length∧eras.length≤64
 ok:∀e∈eras,e.Ok
 en:∀(i:Nat) (e:Er.E),eras[i]?=some e→e.en=decide (i+1<eras.length)
 nom:∀e∈eras,e.en=true→(nomU e.u).2=0
theorem ds_parts (zn:ByteArray):∀(es:List Er.E) (st:Int × Bool × List Vd.Fl),(es.foldl (Vd.ds1 zn) st).2.2=[]→st.2.2=[]∧∀e∈es,e.en=true→(nomU e.u).2=0
 |[],st,h=>⟨h,fun e he=>(by cases he)⟩
 |e :: es,st,h=>by
  rw[List.foldl_cons] at h;obtain⟨h1,h2⟩:=ds_parts zn es _ h;have key:st.2.2=[]∧(e.en=true→(nomU e.u).2=0):=by
   obtain⟨la,eb,fs⟩:=st;cases hen:e.en with
   |false=>
    rw[Vd.ds1_no hen] at h1;exact⟨h1,fun q=>by cases q⟩
   |true=>
    obtain⟨a,b,hn⟩:∃a b,Mo.nom e.u.k e.u.n e.u.d e.u.y e.u.m e.u.s e.u.c=(a,b):=⟨_,_,rfl⟩
    by_cases hb:b=0
    ·subst hb;refine⟨?_,fun _=>by unfold nomU;rw[hn]⟩;unfold Vd.ds1 at h1;rw[hen,hn] at h1;simp only[if_true] at h1;split at h1
     ·simp at h1
     ·exact h1
    ·rw[Vd.ds1_bad hen hn hb] at h1;simp at h1
  refine⟨key.1,fun x hx=>?_⟩;rcases List.mem_cons.1 hx with rfl|hx
  ·exact key.2
  ·exact h2 x hx
theorem erasB_parts : ∀(l:List Er.E),Src.erasB l=true→(∀e∈l,e.good=true)∧∀(i:Nat) (e:Er.E),l[i]?=some e→e.en=decide (i+1<l.length)
 |[],_=>⟨fun e he=>(by cases he),fun i e h=>(by simp at h)⟩
 |e :: l,h=>by
  unfold Src.erasB at h;rw[Bool.and_eq_true,Bool.and_eq_true] at h;obtain⟨h1,h2,h3⟩:=h;obtain⟨k1,k2⟩:=erasB_parts l h3;refine⟨fun x hx=>?_,fun i x hx=>?_⟩
  ·rcases List.mem_cons.1 hx with rfl|hx
   ·exact h1
   ·exact k1 x hx
  ·cases i with
   |zero=>
    have:x=e:=by simpa using hx.symm
    subst this;have h4:x.en=!l.isEmpty:=by simpa using h2
    rw[h4];cases l <;> simp
   |succ i=>
    rw[k2 i x (by simpa using hx)];simp
theorem good_ok {e:Er.E}(h:e.good=true):e.Ok:=by
 unfold Er.E.good at h;rw[decide_eq_true_eq] at h;exact Classical.byContradiction fun hn=>by
  rw[Er.chk_bad e hn] at h;cases h
theorem zone_ok {s:Src.S}(h:Vd.well s=true){z:Src.Txt × List Er.E}(hz:z∈s.zones):ZoneOk z.2:=by
 obtain⟨h1,_,_,h4,_⟩:=Vd.well_parts h;unfold Src.srcB at h1;rw[Bool.and_eq_true,Bool.and_eq_true,List.all_eq_true,List.all_eq_true] at h1;have hzb:=h1.2.1 z hz;unfold Src.zoneB at hzb;rw[Bool.and_eq_true,Bool.and_eq_true,Bool.and_eq_true,decide_eq_true_eq,decide_eq_true_eq] at hzb;obtain⟨_,h5,h6,h7⟩:=hzb;obtain⟨k1,k2⟩:=erasB_parts z.2 h7;have hd:=h4 z hz;exact⟨⟨h5,h6⟩,fun e he=>good_ok (k1 e he),k2,(ds_parts (Src.bts z.1) z.2 (0,false,[]) hd).2⟩
theorem rules_ok {s:Src.S}(h:Vd.well s=true)(hl:s.rules.length≤4096)(hs:∀r∈s.rules,r.nm.size≤1000000∧r.lt.size≤1000000):RulesOk s.rules:=by
 obtain⟨h1,_⟩:=Vd.well_parts h;unfold Src.srcB at h1;rw[Bool.and_eq_true,List.all_eq_true] at h1;exact⟨hl,fun r hr=>⟨(Ru.R.good_iff r).1 (h1.1 r hr),hs r hr⟩⟩
theorem ZoneOk.fit {eras:List Er.E}(h:ZoneOk eras){rules:List Ru.R}(hr:RulesOk rules):Ln.Fit rules eras:=
 ⟨hr.time,fun e he=>by
  obtain⟨h1,_,h3,_⟩:=h.ok e he;refine⟨h1,?_⟩;rcases h3 with q|q|q
  ·exact .inl ⟨q.1,q.2.1⟩
  ·exact .inr (.inl q.1)
  ·exact .inr (.inr q.1)⟩
theorem E_time {e:Er.E}(h:e.Ok):e.k=1→IsTime e.sv:=fun hk=>by
 rcases h.2.2.1 with q|q|q
 ·omega
 ·exact q.2.1
 ·omega
theorem end_ok {rules:List Ru.R}{eras:List Er.E}(hr:RulesOk rules)(h:ZoneOk eras){e:Er.E}(he:e∈eras)(hen:e.en=true):
  (Mo.ins (nomU e.u).1 e.u.c e.std (saved rules e (nomU e.u).1)).2=0∧InT (nomU e.u).1:=by
 have hn:=h.nom e he hen;have hok:=h.ok e he;obtain⟨r,hrr⟩:∃r:Ru.R,r=⟨⟨#[]⟩,e.u.y,e.u.y,e.u.m,e.u.k,e.u.n,e.u.d,e.u.s,e.u.c,0,⟨#[]⟩⟩:=⟨_,rfl⟩
 have hnr:Oc.nomOf r e.u.y=nomU e.u:=by rw[hrr];rfl
 have hb:=Oc.nom_bd (r:=r) (y:=e.u.y) (by rw[hnr];exact hn);have hp:=Oc.nom_ok (r:=r) (y:=e.u.y) (by rw[hnr];exact hn);have hy:=(Oc.inS_ok hp.2.1).2.1;have hc:e.u.c<3:=by
  have:=hp.1.2;rw[hrr] at this;exact this
 rw[hnr] at hb;have a:=Oc.D_mono (show (1:Int)≤e.u.y by omega);have b:=Oc.D_mono (show e.u.y+1≤(10000:Int) by omega);have c:Oc.D 1=-719162:=by decide
 have d:Oc.D 10000=2932897:=by decide
 have hi:InT (nomU e.u).1:=by unfold InT;omega
 exact⟨(Oc.ins_ok hi hc hok.1 (saved_time hr.time (E_time hok))).1,hi⟩
end Eg
end Go.Proofs.YtjobhjemnmleaaaGreatDoor
