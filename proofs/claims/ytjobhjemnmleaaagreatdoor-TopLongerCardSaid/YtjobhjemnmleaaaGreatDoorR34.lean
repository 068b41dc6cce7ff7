/- line.Of. -/
import Derived.Test.YtjobhjemnmleaaaGreatDoorR33
import Derived.Lib.ItoaLen
set_option maxRecDepth 100000
set_option maxHeartbeats 8000000
namespace Go.Proofs.YtjobhjemnmleaaaGreatDoor
open Go.RowKit Go.Shelf
theorem own_none {w:World}{base n c:Nat}{e:TypeId}{size:Nat}{A:Option Addr}{xs:List Value}(h:w.ownsRow base e size (.slice A n c) n xs):A=none→c=0:=by
 intro ha;subst ha;rcases h.2 with hn|⟨g,cap,cur,hv,_⟩
 ·simp_all
 ·simp_all
theorem lnOf_any (s:Src.S)(z lo hi:Int)(rv zv lv:Value)(evs:List Value)(w:World)(hR:Src.SrcR w w.heap.size s rv zv lv evs)(hS:Vd.Sz s)(hW:Wo w)(hA:Wa w)(hz:-9223372036854775808≤z∧z<9223372036854775808)
  (hlo:-9223372036854775808≤lo∧lo<9223372036854775808) (hhi:-9223372036854775808≤hi∧hi<9223372036854775808) (hcc:∀x∈s.zones,∀e∈x.2,0≤e.u.c) (hwc:∀r∈s.rules,0≤r.c):
  Calls Tryz.prog 22 #[.agg #[rv,zv,lv],.int .i64 z,.int .i64 lo,.int .i64 hi] w fun e w'=>Below w.heap.size w w'∧Ln.OfRet s z lo hi w.heap.size e w':=by
 have HRu:=ak (fun h:Vd.well s=true=>Eg.rules_ok2 h hS.lims.rules);have HS:=ak hS;have HWc:=ak hwc;have HEn:=ak (fun(W:World) (hR:Src.SrcR W W.heap.size s rv zv lv evs) (hW:Wo W) (hA:Wa W)=>ends_any s z rv zv lv evs W hR hS hW hA hz hcc);have HR0:=ak hR;obtain⟨rA,rc,rfl,_⟩:=hR.rules;obtain⟨zA,zc,rfl,_⟩:=hR.zones;obtain⟨lA,lc,rfl,_⟩:=hR.links;obtain⟨n1,hn1⟩:=aj (s.rules.length)
 obtain⟨n2,hn2⟩:=aj (s.zones.length)
 obtain⟨n3,hn3⟩:=aj (s.links.length)
 rw[hn1,hn2,hn3] at HEn HR0;rw[hn1,hn2,hn3];obtain⟨W1,hW1⟩:=aj (w.alloc (.cells #[.slice rA n1 rc,.slice zA n2 zc,.slice lA n3 lc] 26))
 have hb1:Below w.heap.size w W1:=by rw[← hW1];exact al
 have hA1:At W1 w.heap.size [.slice rA n1 rc,.slice zA n2 zc,.slice lA n3 lc]:=by rw[← hW1];exact At.new _ _ _
 have HCl:=ak (HEn.out W1 (HR0.out.call hb1) (hW.below hb1) (hA.below hb1));have HWo:=ak hW;have HA1:=ak hA1;have HB1:=ak hb1;have HW1:=ak hW1;obtain⟨b0,b1,b2,_⟩:=hA1.three;clear hn1 hn2 hn3 hb1 hA1 hW1 hR hS hwc hcc hW hA hz;go_enter Tryz.func22,Tryz.ntmps22
 go_wp2_with fail
 rw[HW1.out];refine HCl.out.mono ?_;rintro e w2 ⟨hb2,(⟨hno,rfl⟩|⟨hwe,hno,rfl⟩|⟨x,v,hwe,hx,rfl,hown⟩)⟩
 ·have HB2:=ak (below_then HB1.out hb2);have HF:Hid (Ln.OfRet s z lo hi w.heap.size (.returned (.tuple #[.slice none 0 0,.int .i64 2])) w2):=.inl ⟨hno,rfl⟩;clear hb2 hno b0 b1 b2;go_wp2;go_ret2
  exact⟨HB2.out,HF.out⟩
 ·have HB2:=ak (below_then HB1.out hb2);have HF:Hid (Ln.OfRet s z lo hi w.heap.size (.returned (.tuple #[.slice none 0 0,.int .i64 3])) w2):=.inr (.inl ⟨hwe,hno,rfl⟩);clear hb2 hno hwe b0 b1 b2;go_wp2;go_ret2
  exact⟨HB2.out,HF.out⟩
 have HB2:=ak (below_then HB1.out hb2);have HA2:=ak (HA1.out.call hb2);have hz2:=hb2.size;have hz1:=HB1.out.size;obtain⟨c0,c1,c2,_⟩:=HA2.out.three;have hmem:x∈s.zones:=by
  unfold Eg.zoneAt at hx;split at hx
  ·exact List.mem_of_getElem? hx
  ·cases hx
 by_cases hin:Ln.InY lo hi
 ·obtain⟨y1,y2,y3,y4⟩:=hin;have HRu2:=HRu.out hwe;have hzo:=Eg.zone_ok hwe hmem;have hz0:0≤z:=by
   unfold Eg.zoneAt at hx;split at hx
   ·assumption
   ·cases hx
  obtain⟨kz,rfl⟩:∃k:Nat,z=(k:Int):=⟨z.toNat,by omega⟩
  have hxk:s.zones[kz]?=some x:=by
   unfold Eg.zoneAt at hx;rw[if_pos hz0] at hx;exact hx
  obtain⟨F1,F2,F3,F4,F5⟩:=Ln.years_in y1 y2 y3;obtain⟨vA,vc,rfl,hv1,hv2⟩:=own_slice_cap hown;obtain⟨m0,hm0⟩:∃m0,x.2.length=m0+1:=⟨x.2.length - 1,by have:=hzo.len.1;omega⟩
  have hm63:m0≤63:=by have:=hzo.len.2;omega
  obtain⟨L,hL⟩:=aj (Eg.ends s.rules x.2)
  have hLl:L.length=m0:=by rw[← hL,Eg.ends_len,hm0];rfl
  have hN:(Ln.pieces s.rules x.2 L (Oc.D lo*86400) (Oc.D (hi+1)*86400) (m0+1)).length≤900000000:=by
   have h1:=Ln.pieces_len (eras:=x.2) (ends:=L) HRu2.len F2 F3 (by rw[F4,F5];omega) (m0+1);omega
  rw[hL,hLl] at hown hv1 ⊢;obtain⟨fr,hfr⟩:=aj (Oc.D lo*86400)
  obtain⟨te,hte⟩:=aj (Oc.D (hi+1)*86400)
  have e1:Ln.begin_ lo=(fr,0):=by unfold Ln.begin_;rw[if_pos (by omega),hfr]
  have e2:Ln.begin_ (hi+1)=(te,0):=by unfold Ln.begin_;rw[if_pos (by omega),hte]
  have hlineq:Ln.lineOf s x.2 lo hi=Ln.line s.rules x.2 L fr te:=by unfold Ln.lineOf;rw[hL,hfr,hte]
  rw[hfr] at F2 F4 hN;rw[hte] at F3 F5 hN;have HB:=ak (fun W=>e1 ▸ lnBegin_any lo W);have HBt:=ak (fun W=>e2 ▸ lnBegin_any (hi+1) W);have HRv:=ak (Reads.of_own hown);have H0c:=ak (own_none hown);have HTime:Hid (∀e∈x.2,IsTime e.std∧IsTime e.sv):=fun e he=>by
   obtain⟨h1,_,h3,_⟩:=hzo.ok e he;refine⟨h1,?_⟩;rcases h3 with q|q|q
   ·rw[q.2.1];decide
   ·exact q.2.1
   ·rw[q.2.1];decide
  have HInY:Hid (Ln.InY lo hi):=⟨y1,y2,y3,y4⟩
  have w1:IntKind.i64.wrap (hi - lo)=hi - lo:=by rw[IntKind.wrap_i64];omega
  have w2':IntKind.i64.wrap (hi+1)=hi+1:=by rw[IntKind.wrap_i64];omega
  have q1:¬lo≤1:=by omega
  have q2:¬9999≤hi:=by omega
  have q3:¬hi<lo:=by omega
  have q4:¬400≤hi - lo:=by omega
  have HDraw:=ak fun(gd:Nat) (W:World) (hD:Ln.Dr s (.slice rA n1 rc) (.slice zA n2 zc) (.slice lA n3 lc) evs (kz:Int) vA m0 vc fr te gd W) (hr:Reads W W.heap.size 1 vA m0 (Ln.i64s L))=>lnDraw_any gd s _ _ _ evs kz vA m0 vc fr te L W x hD hxk hm0 (by omega) hLl hv1 (by unfold maxLen at hv2 ⊢;exact hv2) H0c.out hr HTime.out F2 F3 (by omega) (by omega) hN
  have HLq:=ak hlineq;have HZa:=ak hx;have HWe:=ak hwe;have HRu3:=ak HRu2;have hRb2:=HR0.out.call HB2.out;clear hN hm0 hL hLl hown hfr hte e1 e2 hlineq F1 F2 F3 F4 F5 hx hxk hzo hwe hmem HRu2 y1 y2 y3 y4 b0 b1 b2;go_wp2_with fail
  refine(HB.out w2).mono ?_;rintro e w3 ⟨rfl,rfl⟩;go_wp2_with fail
  refine(HBt.out w2).mono ?_;rintro e w3 ⟨rfl,rfl⟩;obtain⟨W3,hW3⟩:=aj (w2.alloc (.cells #[.slice rA n1 rc,.slice zA n2 zc,.slice lA n3 lc,.int .i64 (kz:Int),.slice vA m0 vc,.int .i64 fr,.int .i64 te] 155))
  have HW3:=ak hW3;have hb3:Below w2.heap.size w2 W3:=by rw[← hW3];exact al
  have hA3:At W3 w2.heap.size [.slice rA n1 rc,.slice zA n2 zc,.slice lA n3 lc,.int .i64 (kz:Int),.slice vA m0 vc,.int .i64 fr,.int .i64 te]:=by rw[← hW3];exact At.new _ _ _
  have HB3:=ak hb3;have hDr:Ln.Dr s (.slice rA n1 rc) (.slice zA n2 zc) (.slice lA n3 lc) evs (kz:Int) vA m0 vc fr te w2.heap.size W3:=⟨hRb2.call hb3,hA3,HWo.out.below (HB2.out.trans (hb3.mono HB2.out.size)),HRu3.out,HWc.out⟩
  have HCd:=ak (HDraw.out _ W3 hDr ((HRv.out.below hb3).more hb3.size));clear hW3 hb3 hA3 hDr hRb2;go_wp2_with fail
  rw[HW3.out];refine HCd.out.mono ?_;rintro e w4 ⟨⟨v,rfl,ho4⟩,hb4⟩;have hbb:=HB2.out.trans (HB3.out.mono HB2.out.size);have hbb4:Below w.heap.size w w4:=hbb.trans (hb4.mono hbb.size);have HF:Hid (Below w.heap.size w w4∧Ln.OfRet s (kz:Int) lo hi w.heap.size (.returned (.tuple #[v,.int .i64 0])) w4):=⟨hbb4,.inr (.inr (.inr ⟨x,v,HWe.out,HZa.out,HInY.out,rfl,by rw[HLq.out];exact Sc.own_mono ho4 hbb.size⟩))⟩
  clear ho4 hb4 hbb hbb4 c0 c1 c2;go_wp2;go_ret2
  exact HF.out
 ·have HB2:=ak HB2.out;have HF:Hid (Ln.OfRet s z lo hi w.heap.size (.returned (.tuple #[.slice none 0 0,.int .i64 1])) w2):=.inr (.inr (.inl ⟨x,hwe,hx,hin,rfl⟩));clear hwe hx hmem b0 b1 b2;have w1:1<lo→hi<9999→lo≤hi→IntKind.i64.wrap (hi - lo)=hi - lo:=fun h1 h2 h3=>by rw[IntKind.wrap_i64];omega
  have hc:lo≤1∨(¬lo≤1∧9999≤hi)∨(¬lo≤1∧¬9999≤hi∧hi<lo)∨(¬lo≤1∧¬9999≤hi∧¬hi<lo∧400≤hi - lo∧IntKind.i64.wrap (hi - lo)=hi - lo):=by
   unfold Ln.InY at hin
   by_cases a:lo≤1
   ·exact .inl a
   ·by_cases b:9999≤hi
    ·exact .inr (.inl ⟨a,b⟩)
    ·by_cases c:hi<lo
     ·exact .inr (.inr (.inl ⟨a,b,c⟩))
     ·exact .inr (.inr (.inr ⟨a,b,c,by omega,w1 (by omega) (by omega) (by omega)⟩))
  clear w1 hin hown;rcases hc with k1|⟨k1,k2⟩|⟨k1,k2,k3⟩|⟨k1,k2,k3,k4,k5⟩
  all_goals
   go_wp2_with fail
   go_ret2
   exact⟨HB2.out,HF.out⟩
open Go.RowKit
theorem refTime_any (s:Int)(w:World):
  Calls Tryz.prog 192 #[.int .i64 s] w fun e w'=>e=.returned (.bool (decide (IsTime s)))∧w=w':=by
 by_cases h:IsTime s
 ·have HD:=ak (decide_eq_true h);obtain⟨h1,h2⟩:=h;go_enter Tryz.func192,Tryz.ntmps192
  go_wp2;go_ret
  exact⟨ret_bool (by rw[HD.out]),rfl⟩
 ·have HD:=ak (decide_eq_false h);have h':s < -604800∨604800<s:=by unfold IsTime at h;omega
  clear h
  by_cases h1:s < -604800
  ·clear h';go_enter Tryz.func192,Tryz.ntmps192
   go_wp2;go_ret
   exact⟨ret_bool (by rw[HD.out]),rfl⟩
  ·have h2:604800<s:=(by omega);clear h';go_enter Tryz.func192,Tryz.ntmps192
   go_wp2;go_ret
   exact⟨ret_bool (by rw[HD.out];first|(simp;done)|(simp;omega)),rfl⟩
namespace Cv
end Cv
theorem num_day (y m d:Int):Cv.num y m d=Cv.num y m 1+d - 1:=by unfold Cv.num;omega
theorem refDayCheck_ok (k n d:Int)(w:World)(h:Dy.Ok k n d):
  Calls Tryz.prog 160 #[.agg #[.int .u8 k,.int .i64 n,.int .i64 d]] w fun e w'=>e=.returned (.int .i64 0)∧Below w.heap.size w w':=by
 rcases h with ⟨rfl,h2,h3,rfl⟩|⟨rfl,rfl,h2,h3⟩|⟨rfl|rfl,h2,h3,h4,h5⟩
 all_goals
  go_enter Tryz.func160,Tryz.ntmps160
  go_wp2;go_ret
  exact⟨rfl,al⟩
theorem refDayCheck_bad (k n d : Int) (w : World) (h0 : 0 ≤ k) (h : ¬ Dy.Ok k n d) :
    Calls Tryz.prog 160 #[.agg #[.int .u8 k, .int .i64 n, .int .i64 d]] w fun e w' => e = .returned (.int .i64 2) ∧ Below w.heap.size w w' := by
  have hk : k = 0 ∨ k = 1 ∨ k = 2 ∨ k = 3 ∨ 3 < k := by omega
  unfold Dy.Ok at h;have hn : (1 ≤ n ∧ n ≤ 31) ∨ n < 1 ∨ (1 ≤ n ∧ 31 < n) := by omega
  have hd : (0 ≤ d ∧ d ≤ 6) ∨ d < 0 ∨ (0 ≤ d ∧ 6 < d) := by omega
  rcases hk with rfl | rfl | rfl | rfl | hk
  · rcases hn with ⟨n1, n2⟩ | n1 | ⟨n1, n2⟩
    · have q : (d == 0) = false := bqf (by omega)
      rcases hd with ⟨d1, d2⟩ | d1 | ⟨d1, d2⟩
      all_goals
        clear h;go_enter Tryz.func160, Tryz.ntmps160
        go_wp2;go_ret
        exact ⟨rfl, (Below.refl _ _).alloc (Nat.le_refl _) _⟩
    all_goals
      rcases hd with ⟨d1, d2⟩ | d1 | ⟨d1, d2⟩
      all_goals
        clear h;go_enter Tryz.func160, Tryz.ntmps160
        go_wp2;go_ret
        exact ⟨rfl, (Below.refl _ _).alloc (Nat.le_refl _) _⟩
  · by_cases hz : n = 0
    · subst hz
      rcases hd with ⟨d1, d2⟩ | d1 | ⟨d1, d2⟩
      · omega
      all_goals
        clear h hn;go_enter Tryz.func160, Tryz.ntmps160
        go_wp2;go_ret
        exact ⟨rfl, (Below.refl _ _).alloc (Nat.le_refl _) _⟩
    · have q : (n == 0) = false := bqf (by omega)
      rcases hn with ⟨n1, n2⟩ | n1 | ⟨n1, n2⟩
      all_goals
        rcases hd with ⟨d1, d2⟩ | d1 | ⟨d1, d2⟩
        all_goals
          clear h hz;go_enter Tryz.func160, Tryz.ntmps160
          go_wp2;go_ret
          exact ⟨rfl, (Below.refl _ _).alloc (Nat.le_refl _) _⟩
  iterate 2
    · rcases hn with ⟨n1, n2⟩ | n1 | ⟨n1, n2⟩
      all_goals
        rcases hd with ⟨d1, d2⟩ | d1 | ⟨d1, d2⟩
        all_goals
          first
          | omega
          | (clear h
             go_enter Tryz.func160, Tryz.ntmps160
             go_wp2;go_ret
             exact ⟨rfl, (Below.refl _ _).alloc (Nat.le_refl _) _⟩)
  · have q0 : (k == 0) = false := bqf (by omega)
    have q1 : (k == 1) = false := bqf (by omega);have q2 : (k == 2) = false := bqf (by omega);have q3 : (k == 3) = false := bqf (by omega);rcases hn with ⟨n1, n2⟩ | n1 | ⟨n1, n2⟩
    all_goals
      rcases hd with ⟨d1, d2⟩ | d1 | ⟨d1, d2⟩
      all_goals
        clear h hk;go_enter Tryz.func160, Tryz.ntmps160
        go_wp2;go_ret
        exact ⟨rfl, (Below.refl _ _).alloc (Nat.le_refl _) _⟩
end Go.Proofs.YtjobhjemnmleaaaGreatDoor
namespace Go.Proofs.YtjobhjemnmleaaaGreatDoor
open Go.RowKit
def Ck.dig (n:Int):ByteArray:=⟨#[UInt8.ofNat (48+n.toNat)]⟩
theorem dig_size (n:Int):(Ck.dig n).size=1:=rfl
theorem conv1 (w:World)(g:Nat)(n:Int)(h0:0≤n)(h1:n<10)(hc:w.cell? ⟨g,0,none⟩=some (.int .u8 (48+n))):
  Sem.run Tryz.prog (convert 94 9 (.slice (some ⟨g,0,none⟩) 1 1)) w=.ok (.string (Ck.dig n)) w:=by
 have h:=run_convert_bytes_back (P:=Tryz.prog) w 94 9 5 ⟨g,0,none⟩ 1 [UInt8.ofNat (48+n.toNat)] Tryz.underlying94 Tryz.underlying5 Tryz.underlying9 ?_
 ·exact h
 ·intro j hj;have hj0:j=0:=by simpa using hj
  subst hj0;rw[show (⟨g,0,none⟩:Addr).add 0=⟨g,0,none⟩ from rfl,hc];obtain⟨k,rfl⟩:∃k:Nat,n=k:=⟨n.toNat,by omega⟩
  have a1:(48+k) % 256=48+k:=by omega
  simp[UInt8.toNat_ofNat,a1]
theorem conv_new (w:World)(n:Int)(h0:0≤n)(h1:n<10):
  Sem.run Tryz.prog (convert 94 9 (.slice (some ⟨w.heap.size,0,none⟩) 1 1)) (w.alloc (.cells #[.int .u8 (48+n)] 5))=.ok (.string (Ck.dig n)) (w.alloc (.cells #[.int .u8 (48+n)] 5)):=
 conv1 _ _ n h0 h1 (cell_of_row _ w.heap.size 0 _ _ _ (heap_alloc_new w _))
theorem conv_kept (w w1:World)(n:Int)(h0:0≤n)(h1:n<10)(hb:Below (w.heap.size+1) (w.alloc (.cells #[.int .u8 (48+n)] 5)) w1):
  Sem.run Tryz.prog (convert 94 9 (.slice (some ⟨w.heap.size,0,none⟩) 1 1)) w1=.ok (.string (Ck.dig n)) w1:=
 conv1 _ _ n h0 h1 ((hb.cell (p:=⟨w.heap.size,0,none⟩) (Nat.lt_succ_self _)).trans (cell_of_row _ w.heap.size 0 _ _ _ (heap_alloc_new w _)))
theorem num_lo (n:Int)(w:World)(h0:0≤n)(h1:n<10):
  Calls Tryz.prog 193 #[.int .i64 n] w fun e w'=>e=.returned (.string (Ck.dig n))∧Below w.heap.size w w':=by
 have hc:=conv_new w n h0 h1;go_enter Tryz.func193,Tryz.ntmps193
 go_wp2;go_ret
 exact⟨rfl,al⟩
theorem num_step (n:Int)(T:ByteArray)(w:World)(h0:10≤n)(h1:n<100000)(hT:T.size≤100)
  (hr:∀W,Calls Tryz.prog 193 #[.int .i64 (n / 10)] W fun e w'=>e=.returned (.string T)∧Below W.heap.size W w'):
  Calls Tryz.prog 193 #[.int .i64 n] w fun e w'=>e=.returned (.string (T ++ Ck.dig (n % 10)))∧Below w.heap.size w w':=by
 have HR:=ak hr;have HN:=ak fun W=>conv_new W (n % 10) (by omega) (by omega)
 have HK:=ak fun W W1=>conv_kept W W1 (n % 10) (by omega) (by omega)
 have hc:Sem.run Tryz.prog (convert 94 9 (.slice (some ⟨w.heap.size,0,none⟩) 1 1)) (w.drew.alloc (.cells #[.int .u8 (48+n % 10)] 5))=.ok (.string (Ck.dig (n % 10))) (w.drew.alloc (.cells #[.int .u8 (48+n % 10)] 5)):=HN.out w.drew;have hc2:Sem.run Tryz.prog (convert 94 9 (.slice (some ⟨w.heap.size,0,none⟩) 1 1)) (w.alloc (.cells #[.int .u8 (48+n % 10)] 5)).drew=.ok (.string (Ck.dig (n % 10))) (w.alloc (.cells #[.int .u8 (48+n % 10)] 5)).drew:=conv1 _ _ (n % 10) (by omega) (by omega) (cell_of_row _ w.heap.size 0 _ _ _ (heap_alloc_new w _));have q1:IntKind.i64.wrap (n.tdiv 10)=n / 10:=by rw[Int.tdiv_eq_ediv_of_nonneg (by omega)];exact IntWalk.i64_in _ (by omega)
 have q2:IntKind.i64.wrap (48+n.tmod 10)=48+n % 10:=by rw[Int.tmod_eq_emod_of_nonneg (by omega)];exact IntWalk.i64_in _ (by omega)
 have q3:IntKind.u8.wrap (48+n % 10)=48+n % 10:=by unfold IntKind.wrap;simp[IntKind.signed,IntKind.bits];omega
 have s1:∀W,(Op.stringOp .add T (Ck.dig (n % 10))).run Tryz.prog W=.ok (.string (T ++ Ck.dig (n % 10))) W:=fun W=>run_string_add_sum W _ _ (by rw[dig_size];omega)
 clear hr hT;go_enter Tryz.func193,Tryz.ntmps193
 go_upto_region 5 with fail
 go_region_with (go_at_call 193;refine(HR.out _).mono ?_;rintro e w1 ⟨rfl,hb⟩;first|(guard_hyp hb:Below _ (World.drew (World.alloc _ _)) _;have hck:Sem.run Tryz.prog (convert 94 9 (.slice (some ⟨w.heap.size,0,none⟩) 1 1)) w1=.ok (.string (Ck.dig (n % 10))) w1:=HK.out w w1 ((Below.refl _ _).drew.trans (hb.mono (by simp))))|(have hcn:=HN.out w1))
 all_goals (try go_wp2)
 all_goals go_ret
 all_goals first
  |exact⟨rfl,(((Below.refl _ _).drew.trans hb).alloc (hb.size) _)⟩
  |exact⟨rfl,(al).drew.trans (hb.mono (by simp))⟩
def mk (l:List UInt8):ByteArray:=⟨l.toArray⟩
theorem mk_size (l:List UInt8):(mk l).size=l.length:=by simp[mk,ByteArray.size]
theorem mk_app (a b:List UInt8):mk a ++ mk b=mk (a ++ b):=by
 apply ByteArray.ext;simp[mk,ByteArray.data_append]
theorem dig_mk (n:Int):Ck.dig n=mk [UInt8.ofNat (48+n.toNat)]:=rfl
theorem itoa_lo (n:Int)(h0:0≤n)(h1:n<10):Lib.itoa n=[UInt8.ofNat (48+n.toNat)]:=by
 unfold Lib.itoa;rw[if_neg (by omega)];unfold Lib.decDigits;rw[dif_pos (by omega)]
theorem itoa_step (n:Int)(h0:10≤n):Lib.itoa n=Lib.itoa (n / 10) ++ [UInt8.ofNat (48+(n % 10).toNat)]:=by
 unfold Lib.itoa;rw[if_neg (by omega),if_neg (by omega)];rw[Lib.decDigits,dif_neg (by omega)];rw[show n.toNat / 10=(n / 10).toNat by omega,show n.toNat % 10=(n % 10).toNat by omega]
theorem num_any : ∀(k:Nat) (n:Int) (w:World),n.toNat=k→0≤n→n<100000→
  Calls Tryz.prog 193 #[.int .i64 n] w fun e w'=>e=.returned (.string (mk (Lib.itoa n)))∧Below w.heap.size w w':=by
 intro k
 induction k using Nat.strongRecOn with
 |_ k ih=>
  intro n w hk h0 h1
  by_cases hn:n<10
  ·exact calls_str (num_lo n w h0 hn) (by rw[itoa_lo n h0 hn];rfl)
  ·have hl:=Lib.itoa_length_le (n / 10) (by omega) (by omega);refine calls_str (num_step n (mk (Lib.itoa (n / 10))) w (by omega) h1 (by rw[mk_size];omega) (fun W=>ih (n / 10).toNat (by omega) (n / 10) W rfl (by omega) (by omega))) ?_;rw[dig_mk,mk_app,itoa_step n (by omega)]
theorem convL (w:World)(g:Nat)(l:List UInt8)(c:Nat)(hc:∀j (hj:j<l.length),w.cell? ⟨g,j,none⟩=some (.int .u8 (l[j].toNat:Int))):
  Sem.run Tryz.prog (convert 94 9 (.slice (some ⟨g,0,none⟩) l.length c)) w=.ok (.string (mk l)) w:=by
 refine run_convert_bytes_back (P:=Tryz.prog) w 94 9 5 ⟨g,0,none⟩ c l Tryz.underlying94 Tryz.underlying5 Tryz.underlying9 ?_;intro j hj;have e:(⟨g,0,none⟩:Addr).add j=⟨g,j,none⟩:=by
  unfold Addr.add;split
  ·subst_vars;rfl
  ·simp
 rw[e,hc j hj]
theorem conv2_new (w:World)(n:Int)(h0:0≤n)(h1:n<100):
  Sem.run Tryz.prog (convert 94 9 (.slice (some ⟨w.heap.size,0,none⟩) 2 2)) (w.alloc (.cells #[.int .u8 (48+n / 10),.int .u8 (48+n % 10)] 5))=.ok (.string (mk (Ck.dig2 n))) (w.alloc (.cells #[.int .u8 (48+n / 10),.int .u8 (48+n % 10)] 5)):=by
 refine convL _ _ (Ck.dig2 n) 2 ?_;intro j hj;rw[cell_of_row _ w.heap.size j _ _ _ (heap_alloc_new w _)];obtain⟨k,rfl⟩:∃k:Nat,n=(k:Int):=⟨n.toNat,by omega⟩
 have a1:(48+k / 10) % 256=48+k / 10:=by omega
 have a2:(48+k % 10) % 256=48+k % 10:=by omega
 have hj':j<2:=hj;have:j=0∨j=1:=by omega
 rcases this with rfl|rfl
 ·simp[Ck.dig2,UInt8.toNat_ofNat,a1]
 ·simp[Ck.dig2,UInt8.toNat_ofNat,a2]
theorem refTwo_any (n:Int)(w:World)(h0:0≤n)(h1:n<100):
  Calls Tryz.prog 194 #[.int .i64 n] w fun e w'=>e=.returned (.string (mk (Ck.dig2 n)))∧Below w.heap.size w w':=by
 have hc:=conv2_new w n h0 h1;go_enter Tryz.func194,Tryz.ntmps194
 go_wp2;go_ret
 exact⟨rfl,al⟩
theorem add_mk (a b:List UInt8)(h:a.length+b.length≤1000000)(W:World):(Op.stringOp .add (mk a) (mk b)).run Tryz.prog W=.ok (.string (mk (a ++ b))) W:=by
 rw[← mk_app];exact run_string_add_sum W _ _ (by rw[mk_size,mk_size];omega)
theorem itoa_sz (n:Int)(h0:0≤n)(h1:n<100000):(Lib.itoa n).length≤21:=Lib.itoa_length_le n (by omega) (by omega)
theorem refText_pos (a:Int)(w:World)(h0:0≤a)(h1:a≤604800):
  Calls Tryz.prog 162 #[.int .i64 a] w fun e w'=>e=.returned (.string (mk (Ck.body a)))∧Below w.heap.size w w':=by
 have HT:=ak fun W=>calls_bool (refTime_any a W) (decide_eq_true (show IsTime a from⟨by omega,h1⟩))
 have hN:=fun W=>num_any _ (a / 3600) W rfl (by omega) (by omega)
 have hD:=fun W=>refTwo_any (a / 60 % 60) W (by omega) (by omega)
 have hE:=fun W=>refTwo_any (a % 60) W (by omega) (by omega)
 have hl:=itoa_sz (a / 3600) (by omega) (by omega);have hbody:Ck.body a=Lib.itoa (a / 3600) ++ [58] ++ Ck.dig2 (a / 60 % 60) ++ (if 0<a % 60 then [58] ++ Ck.dig2 (a % 60) else []):=by
  unfold Ck.body;rw[Ck.two_dig,Ck.two_dig,show a % 3600 / 60=a / 60 % 60 by omega,show a % 3600 % 60=a % 60 by omega];simp
 obtain⟨N,hN'⟩:∃N,Lib.itoa (a / 3600)=N:=⟨_,rfl⟩
 obtain⟨D,hD'⟩:∃D,Ck.dig2 (a / 60 % 60)=D:=⟨_,rfl⟩
 obtain⟨E,hE'⟩:∃E,Ck.dig2 (a % 60)=E:=⟨_,rfl⟩
 have lD:D.length=2:=by rw[← hD'];rfl
 have lE:E.length=2:=by rw[← hE'];rfl
 rw[hN'] at hl;rw[hN',hD',hE'] at hbody;simp only[hN'] at hN;simp only[hD'] at hD;simp only[hE'] at hE;have HN:=ak hN;have HD:=ak hD;have HE:=ak hE;have HB:=ak hbody;have s1:∀W,(Op.stringOp .add (mk N) { data:=#[58] }).run Tryz.prog W=.ok (.string (mk (N ++ [58]))) W:=fun W=>add_mk N [58] (by simp;omega) W
 have s2:∀W,(Op.stringOp .add (mk (N ++ [58])) (mk D)).run Tryz.prog W=.ok (.string (mk (N ++ [58] ++ D))) W:=fun W=>add_mk (N ++ [58]) D (by simp;omega) W
 have s3:∀W,(Op.stringOp .add { data:=#[58] } (mk E)).run Tryz.prog W=.ok (.string (mk ([58] ++ E))) W:=fun W=>add_mk [58] E (by simp;omega) W
 have s4:∀W,(Op.stringOp .add (mk (N ++ [58] ++ D)) (mk ([58] ++ E))).run Tryz.prog W=.ok (.string (mk (N ++ [58] ++ D ++ ([58] ++ E)))) W:=fun W=>add_mk _ _ (by simp;omega) W
 obtain⟨X1,hX1⟩:=aj (mk (N ++ [58]))
 obtain⟨X2,hX2⟩:=aj (mk (N ++ [58] ++ D))
 obtain⟨X3,hX3⟩:=aj (mk ([58] ++ E))
 obtain⟨X4,hX4⟩:=aj (mk (N ++ [58] ++ D ++ ([58] ++ E)))
 rw[hX1] at s1 s2;rw[hX2] at s2 s4;rw[hX3] at s3 s4;rw[hX4] at s4;have H2:=ak hX2;have H4:=ak hX4;clear hN hD hE hbody hN' hD' hE' lD lE hX1 hX2 hX3 hX4
 by_cases hs:0<a % 60
 ·have HX:Hid (mk (Ck.body a)=X4):=by show mk (Ck.body a)=_;rw[HB.out,if_pos hs,H4.out]
  go_enter Tryz.func162,Tryz.ntmps162
  go_wp2_with fail
  refine(HT.out _).mono ?_;rintro e w1 ⟨rfl,rfl⟩;go_wp2_with fail
  refine(HN.out _).mono ?_;rintro e w2 ⟨rfl,hb2⟩;go_wp2_with fail
  refine(HD.out _).mono ?_;rintro e w3 ⟨rfl,hb3⟩;go_wp2_with fail
  refine(HE.out _).mono ?_;rintro e w4 ⟨rfl,hb4⟩;go_wp2;go_ret
  exact⟨ret_str (by rw[HX.out]),below_then (below_then hb2 hb3) hb4⟩
 ·have HX:Hid (mk (Ck.body a)=X2):=by show mk (Ck.body a)=_;rw[HB.out,if_neg hs,List.append_nil,H2.out]
  go_enter Tryz.func162,Tryz.ntmps162
  go_wp2_with fail
  refine(HT.out _).mono ?_;rintro e w1 ⟨rfl,rfl⟩;go_wp2_with fail
  refine(HN.out _).mono ?_;rintro e w2 ⟨rfl,hb2⟩;go_wp2_with fail
  refine(HD.out _).mono ?_;rintro e w3 ⟨rfl,hb3⟩;go_wp2;go_ret
  exact⟨ret_str (by rw[HX.out]),below_then hb2 hb3⟩
theorem refText_any (s:Int)(w:World):
  Calls Tryz.prog 162 #[.int .i64 s] w fun e w'=>e=.returned (.string (mk (Ck.text s)))∧Below w.heap.size w w':=by
 by_cases h:IsTime s
 ·by_cases hn:s<0
  ·have HT:=ak fun W=>calls_bool (refTime_any s W) (decide_eq_true h)
   have HE:Hid (Ck.text s=[45] ++ Ck.body (-s)):=by show Ck.text s=_;unfold Ck.text Ck.sign;rw[if_pos h,if_pos hn,if_pos hn]
   obtain⟨h1,h2⟩:=h;have HP:=ak fun W=>refText_pos (-s) W (by omega) (by omega)
   have hl:(Ck.body (-s)).length≤1000:=by
    have:=itoa_sz (-s / 3600) (by omega) (by omega);unfold Ck.body;split <;> simp[Ck.two] <;> omega
   obtain⟨B,hB⟩:=aj (Ck.body (-s))
   rw[hB] at HE hl HP;have s1:∀W,(Op.stringOp .add { data:=#[45] } (mk B)).run Tryz.prog W=.ok (.string (mk ([45] ++ B))) W:=fun W=>add_mk [45] B (by simp;omega) W
   obtain⟨X1,hX1⟩:=aj (mk ([45] ++ B))
   rw[hX1] at s1;have H1:=ak hX1;clear hB hl hX1;go_enter Tryz.func162,Tryz.ntmps162
   go_wp2_with fail
   refine(HT.out _).mono ?_;rintro e w1 ⟨rfl,rfl⟩;go_wp2_with fail
   refine(HP.out _).mono ?_;rintro e w2 ⟨rfl,hb2⟩;go_wp2;go_ret
   exact⟨ret_str (by rw[HE.out,H1.out]),hb2⟩
  ·have hE:Ck.text s=Ck.body s:=by unfold Ck.text Ck.sign;rw[if_pos h,if_neg hn,if_neg hn];rfl
   rw[hE];exact refText_pos s w (by omega) h.2
 ·have HT:=ak fun W=>calls_bool (refTime_any s W) (decide_eq_false h)
  have HE:Hid (Ck.text s=[]):=by show Ck.text s=[];unfold Ck.text;rw[if_neg h]
  clear h;go_enter Tryz.func162,Tryz.ntmps162
  go_wp2_with fail
  refine(HT.out _).mono ?_;rintro e w1 ⟨rfl,rfl⟩;go_wp2;go_ret
  exact⟨ret_str (by rw[HE.out];rfl),Below.refl _ _⟩
theorem refMomCheck_ok (s c:Int)(w:World)(h:Mo.Ok s c):
  Calls Tryz.prog 161 #[.agg #[.int .i64 s,.int .u8 c]] w fun e w'=>e=.returned (.int .i64 0)∧Below w.heap.size w w':=by
 have hT:=fun W=>refText_any s W
 have hne:(mk (Ck.text s)).toList.isEmpty=false:=text_ne s h.1;obtain⟨X,hX⟩:=aj (mk (Ck.text s))
 simp only[hX] at hT hne;have HT:=ak hT;obtain⟨_,h3⟩:=h;clear hT hX;go_enter Tryz.func161,Tryz.ntmps161
 go_wp2_with fail
 refine(HT.out _).mono ?_;rintro e w1 ⟨rfl,hb1⟩;obtain⟨c1,f1⟩:=bcell hb1;have HB:=ak (below_new (hb1.mono (by simp):Below (w.heap.size+1) (w.alloc (.cells #[.int .i64 s,.int .u8 c] 107)) w1));clear hb1;go_wp2;go_ret
 exact⟨rfl,HB.out⟩
theorem refMomCheck_bad (s c:Int)(w:World)(h:¬Mo.Ok s c):
  Calls Tryz.prog 161 #[.agg #[.int .i64 s,.int .u8 c]] w fun e w'=>e=.returned (.int .i64 2)∧Below w.heap.size w w':=by
 by_cases ht:IsTime s
 ·have h3:3≤c:=by unfold Mo.Ok at h;have:¬c<3:=fun x=>h ⟨ht,x⟩;omega
  have hT:=fun W=>refText_any s W
  have hne:(mk (Ck.text s)).toList.isEmpty=false:=text_ne s ht;obtain⟨X,hX⟩:=aj (mk (Ck.text s))
  simp only[hX] at hT hne;have HT:=ak hT;clear hT hX h ht;go_enter Tryz.func161,Tryz.ntmps161
  go_wp2_with fail
  refine(HT.out _).mono ?_;rintro e w1 ⟨rfl,hb1⟩;obtain⟨c1,f1⟩:=bcell hb1;have HB:=ak (below_new (hb1.mono (by simp):Below (w.heap.size+1) (w.alloc (.cells #[.int .i64 s,.int .u8 c] 107)) w1));clear hb1;go_wp2;go_ret
  exact⟨rfl,HB.out⟩
 ·have HT:=ak fun W=>calls_str (refText_any s W) (show _=(⟨#[]⟩:ByteArray) by unfold Ck.text;rw[if_neg ht];rfl)
  clear h ht;go_enter Tryz.func161,Tryz.ntmps161
  go_wp2_with fail
  refine(HT.out _).mono ?_;rintro e w1 ⟨rfl,hb1⟩;have HB:=ak (below_new (hb1.mono (by simp):Below (w.heap.size+1) (w.alloc (.cells #[.int .i64 s,.int .u8 c] 107)) w1));clear hb1;go_wp2;go_ret
  exact⟨rfl,HB.out⟩
end Go.Proofs.YtjobhjemnmleaaaGreatDoor
