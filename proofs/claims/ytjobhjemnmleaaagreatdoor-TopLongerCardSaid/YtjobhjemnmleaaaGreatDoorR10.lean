/- The contracts of package era: isTime, isDigit, Check. -/
import Derived.Test.YtjobhjemnmleaaaGreatDoorR09
import Derived.OneCell
import Derived.Deep.RegionHeldLaw
import Derived.Laws.Cells
set_option maxRecDepth 100000
set_option maxHeartbeats 4000000
namespace Go.Proofs.YtjobhjemnmleaaaGreatDoor
open Go.RowKit
theorem isTime_is (s:Int)(w:World)(b:Bool)(h:decide (IsTime s)=b):
  Calls Tryz.prog 165 #[.int .i64 s] w fun e w'=>e=.returned (.bool b)∧w=w':=by
 subst h
 by_cases h1:-604800≤s
 ·by_cases h2:s≤604800
  ·rw[decide_eq_true (show IsTime s from⟨h1,h2⟩)];go_enter Tryz.func165,Tryz.ntmps165
   go_wp2;go_ret
   exact⟨rfl,rfl⟩
  ·rw[decide_eq_false (show ¬IsTime s from fun x=>h2 x.2)];go_enter Tryz.func165,Tryz.ntmps165
   go_wp2;go_ret
   exact⟨rfl,rfl⟩
 ·rw[decide_eq_false (show ¬IsTime s from fun x=>h1 x.1)];go_enter Tryz.func165,Tryz.ntmps165
  go_wp2;go_ret
  exact⟨rfl,rfl⟩
namespace Er
def kindB (k sv:Int)(ru:ByteArray):Bool:=decide ((k=0∧sv=0∧ru=⟨#[]⟩)∨(k=1∧IsTime sv∧ru=⟨#[]⟩)∨(k=2∧sv=0∧Ru.name (tl ru)=true))
noncomputable instance decUOk (u:Mo.U):Decidable u.Ok:=Classical.propDecidable _
noncomputable def chk (e:E):Int:=if IsTime e.std∧Ab.fmt e.fm=true∧kindB e.k e.sv e.ru=true then (if e.en=true then (if e.u.Ok then 0 else 2) else (if e.u=Mo.U.zero then 0 else 2)) else 2
theorem chk_ok (e:E)(h:e.Ok):chk e=0:=by
 obtain⟨h1,h2,h3,h4,h5⟩:=h;unfold chk kindB;rw[if_pos ⟨h1,h2,decide_eq_true h3⟩];cases hx:e.en
 ·rw[if_neg (by decide),if_pos (h5 hx)]
 ·rw[if_pos rfl,if_pos (h4 hx)]
theorem chk_bad (e:E)(h:¬e.Ok):chk e=2:=by
 unfold chk
 by_cases h1:IsTime e.std∧Ab.fmt e.fm=true∧kindB e.k e.sv e.ru=true
 ·rw[if_pos h1];unfold kindB at h1;rw[decide_eq_true_eq] at h1;cases hx:e.en
  ·rw[if_neg (by decide),if_neg (fun hu=>h ⟨h1.1,h1.2.1,h1.2.2,fun y=>(by rw[hx] at y;cases y),fun _=>hu⟩)]
  ·rw[if_pos rfl,if_neg (fun hu=>h ⟨h1.1,h1.2.1,h1.2.2,fun _=>hu,fun y=>(by rw[hx] at y;cases y)⟩)]
 ·rw[if_neg h1]
end Er
theorem eraCheck_any (e:Er.E)(w:World)(hW:Wa w)(hs1:e.fm.size≤maxLen)(hs2:e.ru.size≤maxLen):
  Calls Tryz.prog 130 #[e.v] w fun r w'=>r=.returned (.int .i64 (Er.chk e))∧Below w.heap.size w w':=by
 obtain⟨X,hX⟩:=aj (Er.chk e)
 rw[hX];obtain⟨std,k,sv,ru,fm,en,⟨y,m,dk,dn,dd,s,c⟩⟩:=e;unfold Er.E.v;simp only at hs1 hs2 ⊢;unfold Er.chk at hX;simp only at hX;have HW:=ak hW;have HA:=ak (At.new w #[.int .i64 std,.int .u8 k,.int .i64 sv,.string ru,.string fm,.bool en,.int .i64 y,.int .i64 m,.int .u8 dk,.int .i64 dn,.int .i64 dd,.int .i64 s,.int .u8 c] 191);have HB:=ak ((Below.refl w.heap.size w).alloc (Nat.le_refl _) (.cells #[.int .i64 std,.int .u8 k,.int .i64 sv,.string ru,.string fm,.bool en,.int .i64 y,.int .i64 m,.int .u8 dk,.int .i64 dn,.int .i64 dd,.int .i64 s,.int .u8 c] 191));clear hW;cases hst:decide (IsTime std)
 ·have HI:=ak fun W=>isTime_is std W false hst
  have HX:Hid (X=2):=by show X=2;rw[← hX,if_neg (fun x=>of_decide_eq_false hst x.1)]
  clear hst hX;go_enter Tryz.func130,Tryz.ntmps130
  go_wp2_with fail
  refine(HI.out _).mono ?_;rintro e w1 ⟨rfl,rfl⟩;go_wp2;go_ret
  exact⟨ret_int (by rw[HX.out]),HB.out⟩
 have HI:=ak fun W=>isTime_is std W true hst
 cases hfm:Ab.fmt fm
 ·have HF:=ak fun W hw=>abbrCheck_all fm W hw hs1 false hfm
  have HX:Hid (X=2):=by show X=2;rw[← hX,if_neg (fun x=>by have:=x.2.1;rw[hfm] at this;cases this)]
  clear hst hX hfm;go_enter Tryz.func130,Tryz.ntmps130
  go_wp2_with fail
  refine(HI.out _).mono ?_;rintro e w1 ⟨rfl,rfl⟩;go_wp2_with fail
  refine(HF.out _ (HW.out.below HB.out)).mono ?_;rintro e w1 ⟨rfl,hb⟩;go_wp2;go_ret
  exact⟨ret_int (by rw[HX.out]),below_then HB.out hb⟩
 have HF:=ak fun W hw=>abbrCheck_all fm W hw hs1 true hfm
 obtain⟨K,hK⟩:=aj (Er.kindB k sv ru)
 have hX2:X=if K=true then (if en=true then (if Mo.U.Ok ⟨y,m,dk,dn,dd,s,c⟩ then 0 else 2) else (if (⟨y,m,dk,dn,dd,s,c⟩:Mo.U)=Mo.U.zero then 0 else 2)) else 2:=by
  rw[← hX,hK];cases K
  ·rw[if_neg (fun x=>by cases x.2.2),if_neg (by decide)]
  ·rw[if_pos ⟨of_decide_eq_true hst,hfm,rfl⟩,if_pos rfl]
 have HX:=ak hX2;have HK:=ak hK;clear hst hX hfm hX2 hK;go_enter Tryz.func130,Tryz.ntmps130
 go_wp2_with fail
 refine(HI.out _).mono ?_;rintro e w1 ⟨rfl,rfl⟩;go_wp2_with fail
 refine(HF.out _ (HW.out.below HB.out)).mono ?_;rintro e w1 ⟨rfl,hb⟩;have HA1:=ak (HA.out.call hb);replace HB:=ak (below_then HB.out hb);clear hb HI HF HA;have q0:=HA1.out.cell 0 _ rfl;have q1:=HA1.out.cell 1 _ rfl;have q2:=HA1.out.cell 2 _ rfl;have q3:=HA1.out.cell 3 _ rfl;have q4:=HA1.out.cell 4 _ rfl;have q5:=HA1.out.cell 5 _ rfl;have q6:=HA1.out.cell 6 _ rfl;have q7:=HA1.out.cell 7 _ rfl;have q8:=HA1.out.cell 8 _ rfl;have q9:=HA1.out.cell 9 _ rfl;have q10:=HA1.out.cell 10 _ rfl;have q11:=HA1.out.cell 11 _ rfl;have q12:=HA1.out.cell 12 _ rfl;go_upto_if 16 with fail
 by_cases k0:k=0
 ·have p0:(k == 0)=true:=by rw[beq_iff_eq];exact k0
  subst k0
  by_cases v0:sv=0
  ·have p1:(sv == 0)=true:=by rw[beq_iff_eq];exact v0
   subst v0
   by_cases u0:ru=⟨#[]⟩
   ·have HKx:Hid (K=true):=by show K=true;rw[← HK.out];exact decide_eq_true (.inl ⟨rfl,rfl,u0⟩)
    have p2:ru.toList.isEmpty=true:=by rw[u0,ByteArray.toList_eq];rfl
    clear u0;cases en
    ·by_cases hz:(⟨y,m,dk,dn,dd,s,c⟩:Mo.U)=Mo.U.zero
     ·have HX3:Hid (X=0):=by show X=0;rw[HX.out,if_pos HKx.out,if_neg (by decide),if_pos hz]
      unfold Mo.U.zero at hz
      injection hz with z0 z1 z2 z3 z4 z5 z6
      subst z0 z1 z2 z3 z4 z5 z6;clear HX;go_wp2;go_ret
      exact⟨ret_int (by rw[HX3.out]),HB.out⟩
     ·have HX3:Hid (X=2):=by show X=2;rw[HX.out,if_pos HKx.out,if_neg (by decide),if_neg hz]
      clear HX
      by_cases d0:y=0
      ·subst d0
       by_cases d1:m=0
       ·subst d1
        by_cases d2:dk=0
        ·subst d2
         by_cases d3:dn=0
         ·subst d3
          by_cases d4:dd=0
          ·subst d4
           by_cases d5:s=0
           ·subst d5
            by_cases d6:c=0
            ·subst d6;exact(hz rfl).elim
            ·have b6:(c == 0)=false:=by rw[beq_eq_false_iff_ne];exact d6
             clear hz
             as_aux_lemma=>
             go_wp2;go_ret
             exact⟨ret_int (by rw[HX3.out]),HB.out⟩
           ·have b5:(s == 0)=false:=by rw[beq_eq_false_iff_ne];exact d5
            clear hz
            as_aux_lemma=>
            go_wp2;go_ret
            exact⟨ret_int (by rw[HX3.out]),HB.out⟩
          ·have b4:(dd == 0)=false:=by rw[beq_eq_false_iff_ne];exact d4
           clear hz
           as_aux_lemma=>
           go_wp2;go_ret
           exact⟨ret_int (by rw[HX3.out]),HB.out⟩
         ·have b3:(dn == 0)=false:=by rw[beq_eq_false_iff_ne];exact d3
          clear hz
          as_aux_lemma=>
          go_wp2;go_ret
          exact⟨ret_int (by rw[HX3.out]),HB.out⟩
        ·have b2:(dk == 0)=false:=by rw[beq_eq_false_iff_ne];exact d2
         clear hz
         as_aux_lemma=>
         go_wp2;go_ret
         exact⟨ret_int (by rw[HX3.out]),HB.out⟩
       ·have b1:(m == 0)=false:=by rw[beq_eq_false_iff_ne];exact d1
        clear hz
        as_aux_lemma=>
        go_wp2;go_ret
        exact⟨ret_int (by rw[HX3.out]),HB.out⟩
      ·have b0:(y == 0)=false:=by rw[beq_eq_false_iff_ne];exact d0
       clear hz
       as_aux_lemma=>
       go_wp2;go_ret
       exact⟨ret_int (by rw[HX3.out]),HB.out⟩
    ·by_cases hu:Mo.U.Ok ⟨y,m,dk,dn,dd,s,c⟩
     ·have HX3:Hid (X=0):=by show X=0;rw[HX.out,if_pos HKx.out,if_pos rfl,if_pos hu]
      have HU:=ak fun W=>checkUntil_ok ⟨y,m,dk,dn,dd,s,c⟩ W hu
      unfold Mo.U.v at HU;clear HX hu;go_wp2_with fail
      refine(HU.out _).mono ?_;rintro e w2 ⟨rfl,hb⟩;go_wp2;go_ret
      exact⟨ret_int (by rw[HX3.out]),below_then HB.out hb⟩
     ·have HX3:Hid (X=2):=by show X=2;rw[HX.out,if_pos HKx.out,if_pos rfl,if_neg hu]
      have HU:=ak fun W=>checkUntil_bad ⟨y,m,dk,dn,dd,s,c⟩ W hu
      unfold Mo.U.v at HU;clear HX hu;go_wp2_with fail
      refine(HU.out _).mono ?_;rintro e w2 ⟨rfl,hb⟩;go_wp2;go_ret
      exact⟨ret_int (by rw[HX3.out]),below_then HB.out hb⟩
   ·have HKx:Hid (K=false):=by show K=false;rw[← HK.out];exact decide_eq_false (fun h=>h.elim (fun h=>u0 h.2.2) fun h=>h.elim (fun h=>absurd h.1 (by decide)) fun h=>absurd h.1 (by decide))
    have p2:ru.toList.isEmpty=false:=empty_no ru u0;clear u0;have HX3:Hid (X=2):=by show X=2;rw[HX.out,if_neg (by rw[HKx.out];decide)]
    go_wp2;go_ret
    exact⟨ret_int (by rw[HX3.out]),HB.out⟩
  ·have HKx:Hid (K=false):=by show K=false;rw[← HK.out];exact decide_eq_false (fun h=>h.elim (fun h=>v0 h.2.1) fun h=>h.elim (fun h=>absurd h.1 (by decide)) fun h=>absurd h.1 (by decide))
   have p1:(sv == 0)=false:=by rw[beq_eq_false_iff_ne];exact v0
   clear v0;have HX3:Hid (X=2):=by show X=2;rw[HX.out,if_neg (by rw[HKx.out];decide)]
   go_wp2;go_ret
   exact⟨ret_int (by rw[HX3.out]),HB.out⟩
 have p0:(k == 0)=false:=by rw[beq_eq_false_iff_ne];exact k0
 by_cases k1:k=1
 ·have p1:(k == 1)=true:=by rw[beq_iff_eq];exact k1
  cases ht:decide (IsTime sv)
  ·have HJ:=ak fun W=>isTime_is sv W false ht
   have HKx:Hid (K=false):=by show K=false;rw[← HK.out];exact decide_eq_false (fun h=>h.elim (fun h=>k0 h.1) fun h=>h.elim (fun h=>of_decide_eq_false ht h.2.1) fun h=>absurd (k1.symm.trans h.1) (by decide))
   clear ht k0 k1;go_wp2_with fail
   refine(HJ.out _).mono ?_;rintro e w2 ⟨rfl,rfl⟩;have HX3:Hid (X=2):=by show X=2;rw[HX.out,if_neg (by rw[HKx.out];decide)]
   go_wp2;go_ret
   exact⟨ret_int (by rw[HX3.out]),HB.out⟩
  ·have HJ:=ak fun W=>isTime_is sv W true ht
   by_cases u0:ru=⟨#[]⟩
   ·have HKx:Hid (K=true):=by show K=true;rw[← HK.out];exact decide_eq_true (.inr (.inl ⟨k1,of_decide_eq_true ht,u0⟩))
    have p2:ru.toList.isEmpty=true:=by rw[u0,ByteArray.toList_eq];rfl
    clear u0 ht k0 k1;go_wp2_with fail
    refine(HJ.out _).mono ?_;rintro e w2 ⟨rfl,rfl⟩;cases en
    ·by_cases hz:(⟨y,m,dk,dn,dd,s,c⟩:Mo.U)=Mo.U.zero
     ·have HX3:Hid (X=0):=by show X=0;rw[HX.out,if_pos HKx.out,if_neg (by decide),if_pos hz]
      unfold Mo.U.zero at hz
      injection hz with z0 z1 z2 z3 z4 z5 z6
      subst z0 z1 z2 z3 z4 z5 z6;clear HX;go_wp2;go_ret
      exact⟨ret_int (by rw[HX3.out]),HB.out⟩
     ·have HX3:Hid (X=2):=by show X=2;rw[HX.out,if_pos HKx.out,if_neg (by decide),if_neg hz]
      clear HX
      by_cases d0:y=0
      ·subst d0
       by_cases d1:m=0
       ·subst d1
        by_cases d2:dk=0
        ·subst d2
         by_cases d3:dn=0
         ·subst d3
          by_cases d4:dd=0
          ·subst d4
           by_cases d5:s=0
           ·subst d5
            by_cases d6:c=0
            ·subst d6;exact(hz rfl).elim
            ·have b6:(c == 0)=false:=by rw[beq_eq_false_iff_ne];exact d6
             clear hz
             as_aux_lemma=>
             go_wp2;go_ret
             exact⟨ret_int (by rw[HX3.out]),HB.out⟩
           ·have b5:(s == 0)=false:=by rw[beq_eq_false_iff_ne];exact d5
            clear hz
            as_aux_lemma=>
            go_wp2;go_ret
            exact⟨ret_int (by rw[HX3.out]),HB.out⟩
          ·have b4:(dd == 0)=false:=by rw[beq_eq_false_iff_ne];exact d4
           clear hz
           as_aux_lemma=>
           go_wp2;go_ret
           exact⟨ret_int (by rw[HX3.out]),HB.out⟩
         ·have b3:(dn == 0)=false:=by rw[beq_eq_false_iff_ne];exact d3
          clear hz
          as_aux_lemma=>
          go_wp2;go_ret
          exact⟨ret_int (by rw[HX3.out]),HB.out⟩
        ·have b2:(dk == 0)=false:=by rw[beq_eq_false_iff_ne];exact d2
         clear hz
         as_aux_lemma=>
         go_wp2;go_ret
         exact⟨ret_int (by rw[HX3.out]),HB.out⟩
       ·have b1:(m == 0)=false:=by rw[beq_eq_false_iff_ne];exact d1
        clear hz
        as_aux_lemma=>
        go_wp2;go_ret
        exact⟨ret_int (by rw[HX3.out]),HB.out⟩
      ·have b0:(y == 0)=false:=by rw[beq_eq_false_iff_ne];exact d0
       clear hz
       as_aux_lemma=>
       go_wp2;go_ret
       exact⟨ret_int (by rw[HX3.out]),HB.out⟩
    ·by_cases hu:Mo.U.Ok ⟨y,m,dk,dn,dd,s,c⟩
     ·have HX3:Hid (X=0):=by show X=0;rw[HX.out,if_pos HKx.out,if_pos rfl,if_pos hu]
      have HU:=ak fun W=>checkUntil_ok ⟨y,m,dk,dn,dd,s,c⟩ W hu
      unfold Mo.U.v at HU;clear HX hu;go_wp2_with fail
      refine(HU.out _).mono ?_;rintro e w2 ⟨rfl,hb⟩;go_wp2;go_ret
      exact⟨ret_int (by rw[HX3.out]),below_then HB.out hb⟩
     ·have HX3:Hid (X=2):=by show X=2;rw[HX.out,if_pos HKx.out,if_pos rfl,if_neg hu]
      have HU:=ak fun W=>checkUntil_bad ⟨y,m,dk,dn,dd,s,c⟩ W hu
      unfold Mo.U.v at HU;clear HX hu;go_wp2_with fail
      refine(HU.out _).mono ?_;rintro e w2 ⟨rfl,hb⟩;go_wp2;go_ret
      exact⟨ret_int (by rw[HX3.out]),below_then HB.out hb⟩
   ·have HKx:Hid (K=false):=by show K=false;rw[← HK.out];exact decide_eq_false (fun h=>h.elim (fun h=>k0 h.1) fun h=>h.elim (fun h=>u0 h.2.2) fun h=>absurd (k1.symm.trans h.1) (by decide))
    have p2:ru.toList.isEmpty=false:=empty_no ru u0;clear u0 ht k0 k1;go_wp2_with fail
    refine(HJ.out _).mono ?_;rintro e w2 ⟨rfl,rfl⟩;have HX3:Hid (X=2):=by show X=2;rw[HX.out,if_neg (by rw[HKx.out];decide)]
    go_wp2;go_ret
    exact⟨ret_int (by rw[HX3.out]),HB.out⟩
 have p1:(k == 1)=false:=by rw[beq_eq_false_iff_ne];exact k1
 by_cases k2:k=2
 ·have p2:(k == 2)=true:=by rw[beq_iff_eq];exact k2
  by_cases v0:sv=0
  ·have p3:(sv == 0)=true:=by rw[beq_iff_eq];exact v0
   cases hn:Ru.name (tl ru)
   ·have HN:=ak fun W=>calls_bool (name_all ru W hs2) hn
    have HKx:Hid (K=false):=by show K=false;rw[← HK.out];exact decide_eq_false (fun h=>h.elim (fun h=>k0 h.1) fun h=>h.elim (fun h=>k1 h.1) fun h=>by rw[hn] at h;cases h.2.2)
    clear hn k0 k1 k2 v0;go_wp2_with fail
    refine(HN.out _).mono ?_;rintro e w2 ⟨rfl,hb⟩;have HA3:=ak (HA1.out.call hb);replace HB:=ak (below_then HB.out hb);clear hb q0 q1 q2 q3 q4 q5 q6 q7 q8 q9 q10 q11 q12;have q0:=HA3.out.cell 0 _ rfl;have q1:=HA3.out.cell 1 _ rfl;have q2:=HA3.out.cell 2 _ rfl;have q3:=HA3.out.cell 3 _ rfl;have q4:=HA3.out.cell 4 _ rfl;have q5:=HA3.out.cell 5 _ rfl;have q6:=HA3.out.cell 6 _ rfl;have q7:=HA3.out.cell 7 _ rfl;have q8:=HA3.out.cell 8 _ rfl;have q9:=HA3.out.cell 9 _ rfl;have q10:=HA3.out.cell 10 _ rfl;have q11:=HA3.out.cell 11 _ rfl;have q12:=HA3.out.cell 12 _ rfl;have HX3:Hid (X=2):=by show X=2;rw[HX.out,if_neg (by rw[HKx.out];decide)]
    go_wp2;go_ret
    exact⟨ret_int (by rw[HX3.out]),HB.out⟩
   ·have HN:=ak fun W=>calls_bool (name_all ru W hs2) hn
    have HKx:Hid (K=true):=by show K=true;rw[← HK.out];exact decide_eq_true (.inr (.inr ⟨k2,v0,hn⟩))
    clear hn k0 k1 k2 v0;go_wp2_with fail
    refine(HN.out _).mono ?_;rintro e w2 ⟨rfl,hb⟩;have HA3:=ak (HA1.out.call hb);replace HB:=ak (below_then HB.out hb);clear hb q0 q1 q2 q3 q4 q5 q6 q7 q8 q9 q10 q11 q12;have q0:=HA3.out.cell 0 _ rfl;have q1:=HA3.out.cell 1 _ rfl;have q2:=HA3.out.cell 2 _ rfl;have q3:=HA3.out.cell 3 _ rfl;have q4:=HA3.out.cell 4 _ rfl;have q5:=HA3.out.cell 5 _ rfl;have q6:=HA3.out.cell 6 _ rfl;have q7:=HA3.out.cell 7 _ rfl;have q8:=HA3.out.cell 8 _ rfl;have q9:=HA3.out.cell 9 _ rfl;have q10:=HA3.out.cell 10 _ rfl;have q11:=HA3.out.cell 11 _ rfl;have q12:=HA3.out.cell 12 _ rfl;cases en
    ·by_cases hz:(⟨y,m,dk,dn,dd,s,c⟩:Mo.U)=Mo.U.zero
     ·have HX3:Hid (X=0):=by show X=0;rw[HX.out,if_pos HKx.out,if_neg (by decide),if_pos hz]
      unfold Mo.U.zero at hz
      injection hz with z0 z1 z2 z3 z4 z5 z6
      subst z0 z1 z2 z3 z4 z5 z6;clear HX;go_wp2;go_ret
      exact⟨ret_int (by rw[HX3.out]),HB.out⟩
     ·have HX3:Hid (X=2):=by show X=2;rw[HX.out,if_pos HKx.out,if_neg (by decide),if_neg hz]
      clear HX
      by_cases d0:y=0
      ·subst d0
       by_cases d1:m=0
       ·subst d1
        by_cases d2:dk=0
        ·subst d2
         by_cases d3:dn=0
         ·subst d3
          by_cases d4:dd=0
          ·subst d4
           by_cases d5:s=0
           ·subst d5
            by_cases d6:c=0
            ·subst d6;exact(hz rfl).elim
            ·have b6:(c == 0)=false:=by rw[beq_eq_false_iff_ne];exact d6
             clear hz
             as_aux_lemma=>
             go_wp2;go_ret
             exact⟨ret_int (by rw[HX3.out]),HB.out⟩
           ·have b5:(s == 0)=false:=by rw[beq_eq_false_iff_ne];exact d5
            clear hz
            as_aux_lemma=>
            go_wp2;go_ret
            exact⟨ret_int (by rw[HX3.out]),HB.out⟩
          ·have b4:(dd == 0)=false:=by rw[beq_eq_false_iff_ne];exact d4
           clear hz
           as_aux_lemma=>
           go_wp2;go_ret
           exact⟨ret_int (by rw[HX3.out]),HB.out⟩
         ·have b3:(dn == 0)=false:=by rw[beq_eq_false_iff_ne];exact d3
          clear hz
          as_aux_lemma=>
          go_wp2;go_ret
          exact⟨ret_int (by rw[HX3.out]),HB.out⟩
        ·have b2:(dk == 0)=false:=by rw[beq_eq_false_iff_ne];exact d2
         clear hz
         as_aux_lemma=>
         go_wp2;go_ret
         exact⟨ret_int (by rw[HX3.out]),HB.out⟩
       ·have b1:(m == 0)=false:=by rw[beq_eq_false_iff_ne];exact d1
        clear hz
        as_aux_lemma=>
        go_wp2;go_ret
        exact⟨ret_int (by rw[HX3.out]),HB.out⟩
      ·have b0:(y == 0)=false:=by rw[beq_eq_false_iff_ne];exact d0
       clear hz
       as_aux_lemma=>
       go_wp2;go_ret
       exact⟨ret_int (by rw[HX3.out]),HB.out⟩
    ·by_cases hu:Mo.U.Ok ⟨y,m,dk,dn,dd,s,c⟩
     ·have HX3:Hid (X=0):=by show X=0;rw[HX.out,if_pos HKx.out,if_pos rfl,if_pos hu]
      have HU:=ak fun W=>checkUntil_ok ⟨y,m,dk,dn,dd,s,c⟩ W hu
      unfold Mo.U.v at HU;clear HX hu;go_wp2_with fail
      refine(HU.out _).mono ?_;rintro e w2 ⟨rfl,hb⟩;go_wp2;go_ret
      exact⟨ret_int (by rw[HX3.out]),below_then HB.out hb⟩
     ·have HX3:Hid (X=2):=by show X=2;rw[HX.out,if_pos HKx.out,if_pos rfl,if_neg hu]
      have HU:=ak fun W=>checkUntil_bad ⟨y,m,dk,dn,dd,s,c⟩ W hu
      unfold Mo.U.v at HU;clear HX hu;go_wp2_with fail
      refine(HU.out _).mono ?_;rintro e w2 ⟨rfl,hb⟩;go_wp2;go_ret
      exact⟨ret_int (by rw[HX3.out]),below_then HB.out hb⟩
  ·have HKx:Hid (K=false):=by show K=false;rw[← HK.out];exact decide_eq_false (fun h=>h.elim (fun h=>k0 h.1) fun h=>h.elim (fun h=>k1 h.1) fun h=>v0 h.2.1)
   have p3:(sv == 0)=false:=by rw[beq_eq_false_iff_ne];exact v0
   clear k0 k1 k2 v0;have HX3:Hid (X=2):=by show X=2;rw[HX.out,if_neg (by rw[HKx.out];decide)]
   go_wp2;go_ret
   exact⟨ret_int (by rw[HX3.out]),HB.out⟩
 ·have HKx:Hid (K=false):=by show K=false;rw[← HK.out];exact decide_eq_false (fun h=>h.elim (fun h=>k0 h.1) fun h=>h.elim (fun h=>k1 h.1) fun h=>k2 h.1)
  have p2:(k == 2)=false:=by rw[beq_eq_false_iff_ne];exact k2
  clear k0 k1 k2;have HX3:Hid (X=2):=by show X=2;rw[HX.out,if_neg (by rw[HKx.out];decide)]
  go_wp2;go_ret
  exact⟨ret_int (by rw[HX3.out]),HB.out⟩
end Go.Proofs.YtjobhjemnmleaaaGreatDoor
namespace Go.Proofs.YtjobhjemnmleaaaGreatDoor
open Go.RowKit
namespace Ru
end Ru
end Go.Proofs.YtjobhjemnmleaaaGreatDoor
namespace Go.Proofs.YtjobhjemnmleaaaGreatDoor
open Go.RowKit
namespace Er
end Er
namespace Mo
end Mo
namespace Er
end Er
end Go.Proofs.YtjobhjemnmleaaaGreatDoor
namespace Go.Proofs.YtjobhjemnmleaaaGreatDoor
open Go.RowKit Go.Sort
theorem own_below {w w':World}{base:Nat}{e:TypeId}{size:Nat}{v:Value}{n:Nat}{xs:List Value}(h:w.ownsRow base e size v n xs)(hb:Below w.heap.size w w'):w'.ownsRow base e size v n xs:=by
 refine⟨h.1,?_⟩;rcases h.2 with hn|⟨g,cap,cur,hv,hbase,hg,rest⟩
 ·exact .inl hn
 ·have hl:g<w.heap.size:=(Array.getElem?_eq_some_iff.1 hg).1;exact .inr ⟨g,cap,cur,hv,hbase,(hb.block g hl).trans hg,rest⟩
theorem own_slice_cap {w:World}{base:Nat}{e:TypeId}{size n:Nat}{v:Value}{xs:List Value}(h:w.ownsRow base e size v n xs):∃A c,v=.slice A n c∧n≤c∧c≤maxLen:=by
 rcases h.2 with ⟨rfl,rfl⟩|⟨g,cap,cur,rfl,_,_,h1,h2,_⟩
 ·exact⟨none,0,rfl,Nat.le_refl _,Nat.zero_le _⟩
 ·exact⟨_,cap,rfl,h1,h2⟩
theorem str_info : (Tryz.prog.info? 9).map (fun i=>(i.zero,i.size,i.bytes))=some (some (.string ⟨#[]⟩),1,16):=by kernel_rfl
theorem er_reads (w:World)(g:Nat)(l:List ByteArray)(t:TypeId)(hg:g=w.heap.size):Reads (w.alloc (.cells (strCells l) t)) (w.alloc (.cells (strCells l) t)).heap.size 1 (some ⟨g,0,none⟩) l.length (l.map Value.string):=by
 subst hg;exact reads_new w l t
open Go.RowKit
namespace Sc
end Sc
end Go.Proofs.YtjobhjemnmleaaaGreatDoor
namespace Go.Proofs.YtjobhjemnmleaaaGreatDoor
open Go.RowKit
namespace Sc
end Sc
end Go.Proofs.YtjobhjemnmleaaaGreatDoor
namespace Go.Proofs.YtjobhjemnmleaaaGreatDoor
open Go.RowKit
namespace Src
abbrev Txt :=List UInt8
structure St (R E:Type) where
 rules:List R
 zones:List (Txt × List E)
 links:List (Txt × Txt)
 op:Bool
variable {R E:Type}
end Src
end Go.Proofs.YtjobhjemnmleaaaGreatDoor
namespace Go.Proofs.YtjobhjemnmleaaaGreatDoor
open Go.RowKit
namespace Src
variable {R E:Type}
end Src
end Go.Proofs.YtjobhjemnmleaaaGreatDoor
namespace Go.Proofs.YtjobhjemnmleaaaGreatDoor
open Go.RowKit
namespace Src
variable {R E:Type}
end Src
end Go.Proofs.YtjobhjemnmleaaaGreatDoor
namespace Go.Proofs.YtjobhjemnmleaaaGreatDoor
open Go.RowKit
namespace Src
variable {R E:Type}
end Src
end Go.Proofs.YtjobhjemnmleaaaGreatDoor
namespace Go.Proofs.YtjobhjemnmleaaaGreatDoor
open Go.RowKit
namespace Src
variable {R E:Type}
end Src
end Go.Proofs.YtjobhjemnmleaaaGreatDoor
namespace Go.Proofs.YtjobhjemnmleaaaGreatDoor
open Go.RowKit
namespace Src
def bts (t:Txt):ByteArray:=⟨t.toArray⟩
end Src
end Go.Proofs.YtjobhjemnmleaaaGreatDoor
namespace Go.Proofs.YtjobhjemnmleaaaGreatDoor
open Go.RowKit
structure Row where
 e:TypeId
 size:Nat
 v:Value
 n:Nat
 xs:List Value
namespace Sc
theorem own_mono {w:World}{base base':Nat}{e:TypeId}{size:Nat}{v:Value}{n:Nat}{xs:List Value}(h:w.ownsRow base e size v n xs)(hb:base'≤base):w.ownsRow base' e size v n xs:=by
 refine⟨h.1,?_⟩;rcases h.2 with hn|⟨g,cap,cur,hv,h1,rest⟩
 ·exact .inl hn
 ·exact .inr ⟨g,cap,cur,hv,Nat.le_trans hb h1,rest⟩
theorem At.grownO {w w':World}{h:Nat}{row:Option Nat}{xs:List Value}(a:At w h xs)(hg:w.grownBy w' row)(hne:∀k,row=some k→h≠k):At w' h xs:=by
 cases row with
 |none=>exact Go.Proofs.YtjobhjemnmleaaaGreatDoor.At.grown a (g:=w.heap.size) ⟨hg.os,hg.tape,hg.output,hg.size,fun k hk _=>hg.block k hk (by simp)⟩ (by have:=a.lt;omega)
 |some k=>exact Go.Proofs.YtjobhjemnmleaaaGreatDoor.At.grown a hg (hne k rfl)
end Sc
end Go.Proofs.YtjobhjemnmleaaaGreatDoor
namespace Go.Proofs.YtjobhjemnmleaaaGreatDoor
open Go.RowKit
namespace Src
abbrev S :=St Ru.R Er.E
end Src
end Go.Proofs.YtjobhjemnmleaaaGreatDoor
namespace Go.Proofs.YtjobhjemnmleaaaGreatDoor
open Go.RowKit
namespace Er
end Er
end Go.Proofs.YtjobhjemnmleaaaGreatDoor
namespace Go.Proofs.YtjobhjemnmleaaaGreatDoor
open Go.RowKit
namespace Src
end Src
end Go.Proofs.YtjobhjemnmleaaaGreatDoor
namespace Go.Proofs.YtjobhjemnmleaaaGreatDoor
open Go.RowKit
namespace Src
end Src
end Go.Proofs.YtjobhjemnmleaaaGreatDoor
namespace Go.Proofs.YtjobhjemnmleaaaGreatDoor
open Go.RowKit
theorem rule_info : (Tryz.prog.info? 112).map (fun i=>(i.zero,i.size,i.bytes))=some (some (.agg #[.string ⟨#[]⟩,.int .i64 0,.int .i64 0,.int .i64 0,.int .u8 0,.int .i64 0,.int .i64 0,.int .i64 0,.int .u8 0,.int .i64 0,.string ⟨#[]⟩]),11,104):=by kernel_rfl
theorem cells_new (w:World)(cs:Array Value)(t:TypeId):∀j u,cs.toList[j]?=some u→(w.alloc (.cells cs t)).cell? ((⟨w.heap.size,0,none⟩:Addr).add j)=some u:=fun j u hu=>by
 have hadd:(⟨w.heap.size,0,none⟩:Addr).add j=⟨w.heap.size,j,none⟩:=by unfold Addr.add;split <;> simp_all
 rw[hadd];exact(At.new w cs t).cell j u hu
namespace Src
end Src
end Go.Proofs.YtjobhjemnmleaaaGreatDoor
namespace Go.Proofs.YtjobhjemnmleaaaGreatDoor
open Go.RowKit
namespace Ix
def at_ {α:Type}(p:α→Bool):List α→Int→Int
 |[],_=>-1
 |x :: l,i=>if p x then i else at_ p l (i+1)
theorem at_bd {α:Type}(p:α→Bool):∀(l:List α) (i:Int),at_ p l i=-1∨(i≤at_ p l i∧at_ p l i<i+l.length)
 |[],_=>.inl rfl
 |x :: l,i=>by
  unfold at_;split
  ·right;simp;omega
  ·rcases at_bd p l (i+1) with h|h
   ·exact .inl h
   ·right;simp;omega
theorem at_any {α:Type}(p:α→Bool):∀(l:List α) (i:Int),0≤i→decide (0≤at_ p l i)=l.any p
 |[],_,_=>rfl
 |x :: l,i,h=>by
  unfold at_;cases hx:p x
  ·rw[if_neg (by simp),at_any p l (i+1) (by omega)];simp[hx]
  ·rw[if_pos rfl];simp[hx,h]
theorem at_next {α:Type}{p:α→Bool}{l:List α}{k:Nat}{x:α}{X:Int}(h:X=at_ p (l.drop k) k)(hx:l[k]?=some x):X=if p x then (k:Int) else at_ p (l.drop (k+1)) ((k+1:Nat):Int):=by
 rw[List.drop_eq_getElem_cons (List.getElem?_eq_some_iff.1 hx).1] at h;rw[h,at_,(List.getElem?_eq_some_iff.1 hx).2];rfl
theorem at_end {α:Type}{p:α→Bool}{l:List α}{k:Nat}{X:Int}(h:X=at_ p (l.drop k) k)(hk:l.length≤k):X=-1:=by
 rw[h,List.drop_eq_nil_of_le hk];rfl
theorem flat_at {α:Type}(enc:α→List Value)(m:Nat)(hm:∀x,(enc x).length=m):∀(xs:List α) (k:Nat) (x:α),xs[k]?=some x→∀(j:Nat) (v:Value),(enc x)[j]?=some v→(xs.flatMap enc)[k*m+j]?=some v
 |[],k,x,h,j,v,hj=>by simp at h
 |y :: l,0,x,h,j,v,hj=>by
  simp at h
  subst h;rw[List.flatMap_cons,List.getElem?_append_left (by have:=(List.getElem?_eq_some_iff.1 hj).1;omega)];simpa using hj
 |y :: l,k+1,x,h,j,v,hj=>by
  rw[List.flatMap_cons,List.getElem?_append_right (by rw[hm,Nat.add_mul];omega),hm];have:=flat_at enc m hm l k x (by simpa using h) j v hj;rw[← this]
  congr 1
  rw[Nat.add_mul];omega
theorem reads_cells {α:Type}{enc:α→List Value}{m:Nat}(hm:∀x,(enc x).length=m){w:World}{B n k:Nat}{A:Option Addr}{xs:List α}(hl:xs.length=n)(h:Reads w B m A n (xs.flatMap enc))(hk:k<n):
  ∃ad x,A=some ad∧ad.block<B∧Hid (xs[k]?=some x)∧Hid (∀j v,(enc x)[j]?=some v→w.cell? ((ad.add (k*m)).add j)=some v):=by
 obtain⟨ad,e,hb,hc⟩:=h.2 (by omega);have hkl:k<xs.length:=by omega
 refine⟨ad,xs[k],e,hb,List.getElem?_eq_getElem hkl,fun j v hj=>?_⟩;rw[add_of_add];exact hc _ _ (flat_at enc m hm xs k _ (List.getElem?_eq_getElem hkl) j v hj)
def Tells {α:Type}(g:FuncId)(lb:Array Value)(enc:α→Value)(p:α→Bool)(xs:List α)(w:World):Prop:=
 ∀W x,x∈xs→Below w.heap.size w W→Calls Tryz.prog g (#[enc x] ++ lb) W fun e w'=>e=.returned (.bool (p x))∧Below w.heap.size w w'
end Ix
theorem idx_rule (p:Ru.R→Bool)(g:FuncId)(lb:Array Value)(eg:∀args w,(callFunc g args).run Tryz.prog w=.ok (.enter g args) w)(A:Option Addr)(n c:Nat)(xs:List Ru.R)(w:World)(hn:n≤maxLen)(hl:xs.length=n)
  (hr:Reads w w.heap.size 11 A n (xs.flatMap Ru.R.cells)) (hp:Ix.Tells g lb Ru.R.v p xs w):
  Calls Tryz.prog 131 #[.slice A n c,.func (.func g) #[] lb] w fun e w'=>e=.returned (.int .i64 (Ix.at_ p xs 0))∧Below w.heap.size w w':=by
 unfold maxLen at hn;obtain⟨X,hX⟩:=aj (Ix.at_ p xs 0)
 rw[hX];have HX:=ak hX;have HR:=ak hr;have HP:=ak hp;have HL:=ak hl;clear hX hr hp hl;go_enter Tryz.func131,Tryz.ntmps131
 go_wp2;go_loopw [5,8] (fun _ i wr=>∃k:Nat,k≤n∧i=.int .i64 k∧Hid (X=Ix.at_ p (xs.drop k) k)∧Hid (Below w.heap.size w wr)) (fun _ i _=>n - (intOf i).toNat)
 case atStart=>exact⟨0,Nat.zero_le _,rfl,HX.out.symm,Below.refl _ _⟩
 case round=>
  obtain⟨k,hk,rfl,HK,HB⟩:=hrel
  by_cases hlt:k<n
  ·have q2:(k:Int)<(n:Int):=(by omega);have q1:=am k
   obtain⟨ad,x,rfl,hab,Hx,HL0⟩:=Ix.reads_cells (enc:=Ru.R.cells) (m:=11) (fun _=>rfl) HL.out (HR.out.below HB.out) hlt;have hc0:wr.cell? (ad.add (k*11))=some (.string x.nm):=HL0.out 0 _ rfl;have hc1:wr.cell? ⟨(ad.add (k*11)).block,(ad.add (k*11)).off+1,none⟩=some (.int .i64 x.fr):=HL0.out 1 _ rfl;have hc2:wr.cell? ⟨(ad.add (k*11)).block,(ad.add (k*11)).off+2,none⟩=some (.int .i64 x.tt):=HL0.out 2 _ rfl;have hc3:wr.cell? ⟨(ad.add (k*11)).block,(ad.add (k*11)).off+3,none⟩=some (.int .i64 x.mo):=HL0.out 3 _ rfl;have hc4:wr.cell? ⟨(ad.add (k*11)).block,(ad.add (k*11)).off+4,none⟩=some (.int .u8 x.k):=HL0.out 4 _ rfl;have hc5:wr.cell? ⟨(ad.add (k*11)).block,(ad.add (k*11)).off+5,none⟩=some (.int .i64 x.n):=HL0.out 5 _ rfl;have hc6:wr.cell? ⟨(ad.add (k*11)).block,(ad.add (k*11)).off+6,none⟩=some (.int .i64 x.d):=HL0.out 6 _ rfl;have hc7:wr.cell? ⟨(ad.add (k*11)).block,(ad.add (k*11)).off+7,none⟩=some (.int .i64 x.s):=HL0.out 7 _ rfl;have hc8:wr.cell? ⟨(ad.add (k*11)).block,(ad.add (k*11)).off+8,none⟩=some (.int .u8 x.c):=HL0.out 8 _ rfl;have hc9:wr.cell? ⟨(ad.add (k*11)).block,(ad.add (k*11)).off+9,none⟩=some (.int .i64 x.sv):=HL0.out 9 _ rfl;have hc10:wr.cell? ⟨(ad.add (k*11)).block,(ad.add (k*11)).off+10,none⟩=some (.string x.lt):=HL0.out 10 _ rfl;have HC:=HP.out wr x (List.mem_of_getElem? Hx.out) HB.out;have HN:=Ix.at_next HK.out Hx.out
   cases hq:p x with
   |true=>
    rw[hq] at HC HN;replace HN:=ak (HN.trans (if_pos rfl));replace HC:=ak HC;clear hq;go_wp2_with (go_at_fn g;refine HC.out.mono ?_;rintro e w' ⟨rfl,hb⟩)
    go_ret
    exact⟨ret_int HN.out.symm,hb⟩
   |false=>
    rw[hq] at HC HN;replace HN:=ak (HN.trans (if_neg (by decide)));replace HC:=ak HC;clear hq;go_wp2_with (go_at_fn g;refine HC.out.mono ?_;rintro e w' ⟨rfl,hb⟩)
    go_roundw
    case rel=>exact⟨k+1,by omega,by go_num,HN.out,hb⟩
    case measure=>simp[intOf];omega
  ·have q2:¬(k:Int)<(n:Int):=(by omega);have HE:=ak (Ix.at_end HK.out (by rw[HL.out];omega));go_wp2;go_ret
   exact⟨ret_int HE.out.symm,HB.out⟩
theorem has_rule (p:Ru.R→Bool)(g:FuncId)(lb:Array Value)(eg:∀args w,(callFunc g args).run Tryz.prog w=.ok (.enter g args) w)(A:Option Addr)(n c:Nat)(xs:List Ru.R)(w:World)(hn:n≤maxLen)(hl:xs.length=n)
  (hr:Reads w w.heap.size 11 A n (xs.flatMap Ru.R.cells)) (hp:Ix.Tells g lb Ru.R.v p xs w):
  Calls Tryz.prog 93 #[.slice A n c,.func (.func g) #[] lb] w fun e w'=>e=.returned (.bool (xs.any p))∧Below w.heap.size w w':=by
 have h:=idx_rule p g lb eg A n c xs w hn hl hr hp;have hb:=Ix.at_bd p xs 0
 rw[← Ix.at_any p xs 0 (by omega)];obtain⟨X,hX⟩:=aj (Ix.at_ p xs 0)
 rw[hX] at h ⊢;have H:=ak h;clear h hX hr hp hb;go_enter Tryz.func93,Tryz.ntmps93
 go_wp2_with fail
 refine H.out.mono ?_;rintro e w1 ⟨rfl,hb⟩;have HB:=ak hb;clear hb;go_wp2;go_ret
 exact⟨rfl,HB.out⟩
namespace Src
def zc (p:(Txt × List Er.E) × Value):List Value:=[.string (bts p.1.1),p.2]
def zv (p:(Txt × List Er.E) × Value):Value:=.agg #[.string (bts p.1.1),p.2]
def lc (p:Txt × Txt):List Value:=[.string (bts p.1),.string (bts p.2)]
def lv (p:Txt × Txt):Value:=.agg #[.string (bts p.1),.string (bts p.2)]
end Src
theorem idx_zone (p:((Src.Txt × List Er.E) × Value)→Bool)(g:FuncId)(lb:Array Value)(eg:∀args w,(callFunc g args).run Tryz.prog w=.ok (.enter g args) w)(A:Option Addr)(n c:Nat)(xs:List ((Src.Txt × List Er.E) × Value))(w:World)(hn:n≤maxLen)(hl:xs.length=n)
  (hr:Reads w w.heap.size 2 A n (xs.flatMap Src.zc)) (hp:Ix.Tells g lb Src.zv p xs w):
  Calls Tryz.prog 132 #[.slice A n c,.func (.func g) #[] lb] w fun e w'=>e=.returned (.int .i64 (Ix.at_ p xs 0))∧Below w.heap.size w w':=by
 unfold maxLen at hn;obtain⟨X,hX⟩:=aj (Ix.at_ p xs 0)
 rw[hX];have HX:=ak hX;have HR:=ak hr;have HP:=ak hp;have HL:=ak hl;clear hX hr hp hl;go_enter Tryz.func132,Tryz.ntmps132
 go_wp2;go_loopw [5,8] (fun _ i wr=>∃k:Nat,k≤n∧i=.int .i64 k∧Hid (X=Ix.at_ p (xs.drop k) k)∧Hid (Below w.heap.size w wr)) (fun _ i _=>n - (intOf i).toNat)
 case atStart=>exact⟨0,Nat.zero_le _,rfl,HX.out.symm,Below.refl _ _⟩
 case round=>
  obtain⟨k,hk,rfl,HK,HB⟩:=hrel
  by_cases hlt:k<n
  ·have q2:(k:Int)<(n:Int):=(by omega);have q1:=am k
   obtain⟨ad,x,rfl,hab,Hx,HL0⟩:=Ix.reads_cells (enc:=Src.zc) (m:=2) (fun _=>rfl) HL.out (HR.out.below HB.out) hlt;have hc0:wr.cell? (ad.add (k*2))=some (.string (Src.bts x.1.1)):=HL0.out 0 _ rfl;have hc1:wr.cell? ⟨(ad.add (k*2)).block,(ad.add (k*2)).off+1,none⟩=some (x.2):=HL0.out 1 _ rfl;have HC:=HP.out wr x (List.mem_of_getElem? Hx.out) HB.out;have HN:=Ix.at_next HK.out Hx.out
   cases hq:p x with
   |true=>
    rw[hq] at HC HN;replace HN:=ak (HN.trans (if_pos rfl));replace HC:=ak HC;clear hq;go_wp2_with (go_at_fn g;refine HC.out.mono ?_;rintro e w' ⟨rfl,hb⟩)
    go_ret
    exact⟨ret_int HN.out.symm,hb⟩
   |false=>
    rw[hq] at HC HN;replace HN:=ak (HN.trans (if_neg (by decide)));replace HC:=ak HC;clear hq;go_wp2_with (go_at_fn g;refine HC.out.mono ?_;rintro e w' ⟨rfl,hb⟩)
    go_roundw
    case rel=>exact⟨k+1,by omega,by go_num,HN.out,hb⟩
    case measure=>simp[intOf];omega
  ·have q2:¬(k:Int)<(n:Int):=(by omega);have HE:=ak (Ix.at_end HK.out (by rw[HL.out];omega));go_wp2;go_ret
   exact⟨ret_int HE.out.symm,HB.out⟩
theorem has_zone (p:((Src.Txt × List Er.E) × Value)→Bool)(g:FuncId)(lb:Array Value)(eg:∀args w,(callFunc g args).run Tryz.prog w=.ok (.enter g args) w)(A:Option Addr)(n c:Nat)(xs:List ((Src.Txt × List Er.E) × Value))(w:World)(hn:n≤maxLen)(hl:xs.length=n)
  (hr:Reads w w.heap.size 2 A n (xs.flatMap Src.zc)) (hp:Ix.Tells g lb Src.zv p xs w):
  Calls Tryz.prog 94 #[.slice A n c,.func (.func g) #[] lb] w fun e w'=>e=.returned (.bool (xs.any p))∧Below w.heap.size w w':=by
 have h:=idx_zone p g lb eg A n c xs w hn hl hr hp;have hb:=Ix.at_bd p xs 0
 rw[← Ix.at_any p xs 0 (by omega)];obtain⟨X,hX⟩:=aj (Ix.at_ p xs 0)
 rw[hX] at h ⊢;have H:=ak h;clear h hX hr hp hb;go_enter Tryz.func94,Tryz.ntmps94
 go_wp2_with fail
 refine H.out.mono ?_;rintro e w1 ⟨rfl,hb⟩;have HB:=ak hb;clear hb;go_wp2;go_ret
 exact⟨rfl,HB.out⟩
theorem idx_link (p:(Src.Txt × Src.Txt)→Bool)(g:FuncId)(lb:Array Value)(eg:∀args w,(callFunc g args).run Tryz.prog w=.ok (.enter g args) w)(A:Option Addr)(n c:Nat)(xs:List (Src.Txt × Src.Txt))(w:World)(hn:n≤maxLen)(hl:xs.length=n)
  (hr:Reads w w.heap.size 2 A n (xs.flatMap Src.lc)) (hp:Ix.Tells g lb Src.lv p xs w):
  Calls Tryz.prog 133 #[.slice A n c,.func (.func g) #[] lb] w fun e w'=>e=.returned (.int .i64 (Ix.at_ p xs 0))∧Below w.heap.size w w':=by
 unfold maxLen at hn;obtain⟨X,hX⟩:=aj (Ix.at_ p xs 0)
 rw[hX];have HX:=ak hX;have HR:=ak hr;have HP:=ak hp;have HL:=ak hl;clear hX hr hp hl;go_enter Tryz.func133,Tryz.ntmps133
 go_wp2;go_loopw [5,8] (fun _ i wr=>∃k:Nat,k≤n∧i=.int .i64 k∧Hid (X=Ix.at_ p (xs.drop k) k)∧Hid (Below w.heap.size w wr)) (fun _ i _=>n - (intOf i).toNat)
 case atStart=>exact⟨0,Nat.zero_le _,rfl,HX.out.symm,Below.refl _ _⟩
 case round=>
  obtain⟨k,hk,rfl,HK,HB⟩:=hrel
  by_cases hlt:k<n
  ·have q2:(k:Int)<(n:Int):=(by omega);have q1:=am k
   obtain⟨ad,x,rfl,hab,Hx,HL0⟩:=Ix.reads_cells (enc:=Src.lc) (m:=2) (fun _=>rfl) HL.out (HR.out.below HB.out) hlt;have hc0:wr.cell? (ad.add (k*2))=some (.string (Src.bts x.1)):=HL0.out 0 _ rfl;have hc1:wr.cell? ⟨(ad.add (k*2)).block,(ad.add (k*2)).off+1,none⟩=some (.string (Src.bts x.2)):=HL0.out 1 _ rfl;have HC:=HP.out wr x (List.mem_of_getElem? Hx.out) HB.out;have HN:=Ix.at_next HK.out Hx.out
   cases hq:p x with
   |true=>
    rw[hq] at HC HN;replace HN:=ak (HN.trans (if_pos rfl));replace HC:=ak HC;clear hq;go_wp2_with (go_at_fn g;refine HC.out.mono ?_;rintro e w' ⟨rfl,hb⟩)
    go_ret
    exact⟨ret_int HN.out.symm,hb⟩
   |false=>
    rw[hq] at HC HN;replace HN:=ak (HN.trans (if_neg (by decide)));replace HC:=ak HC;clear hq;go_wp2_with (go_at_fn g;refine HC.out.mono ?_;rintro e w' ⟨rfl,hb⟩)
    go_roundw
    case rel=>exact⟨k+1,by omega,by go_num,HN.out,hb⟩
    case measure=>simp[intOf];omega
  ·have q2:¬(k:Int)<(n:Int):=(by omega);have HE:=ak (Ix.at_end HK.out (by rw[HL.out];omega));go_wp2;go_ret
   exact⟨ret_int HE.out.symm,HB.out⟩
theorem has_link (p:(Src.Txt × Src.Txt)→Bool)(g:FuncId)(lb:Array Value)(eg:∀args w,(callFunc g args).run Tryz.prog w=.ok (.enter g args) w)(A:Option Addr)(n c:Nat)(xs:List (Src.Txt × Src.Txt))(w:World)(hn:n≤maxLen)(hl:xs.length=n)
  (hr:Reads w w.heap.size 2 A n (xs.flatMap Src.lc)) (hp:Ix.Tells g lb Src.lv p xs w):
  Calls Tryz.prog 95 #[.slice A n c,.func (.func g) #[] lb] w fun e w'=>e=.returned (.bool (xs.any p))∧Below w.heap.size w w':=by
 have h:=idx_link p g lb eg A n c xs w hn hl hr hp;have hb:=Ix.at_bd p xs 0
 rw[← Ix.at_any p xs 0 (by omega)];obtain⟨X,hX⟩:=aj (Ix.at_ p xs 0)
 rw[hX] at h ⊢;have H:=ak h;clear h hX hr hp hb;go_enter Tryz.func95,Tryz.ntmps95
 go_wp2_with fail
 refine H.out.mono ?_;rintro e w1 ⟨rfl,hb⟩;have HB:=ak hb;clear hb;go_wp2;go_ret
 exact⟨rfl,HB.out⟩
end Go.Proofs.YtjobhjemnmleaaaGreatDoor
