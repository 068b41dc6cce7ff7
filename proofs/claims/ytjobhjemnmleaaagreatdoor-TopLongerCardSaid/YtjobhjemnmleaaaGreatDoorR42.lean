/- Package year: when a record turns; how it sets clocks. -/
import Derived.Test.YtjobhjemnmleaaaGreatDoorR41
set_option maxRecDepth 200000
set_option maxHeartbeats 32000000
namespace Go.Proofs.YtjobhjemnmleaaaGreatDoor
open Go.RowKit Go.Sort
namespace Rc
theorem ceil_div (n:Int):(0<n.tmod 1000∧(n+999) / 1000=n.tdiv 1000+1)∨(¬0<n.tmod 1000∧(n+999) / 1000=n.tdiv 1000):=by
 rcases Int.le_total 0 n with h|h
 ·rw[Int.tdiv_eq_ediv_of_nonneg h,Int.tmod_eq_emod_of_nonneg h];omega
 ·obtain⟨m,rfl⟩:∃m,n=-m:=⟨-n,by omega⟩
  have hm:0≤m:=by omega
  rw[Int.neg_tdiv,Int.neg_tmod,Int.tdiv_eq_ediv_of_nonneg hm,Int.tmod_eq_emod_of_nonneg hm];omega
theorem loc_in {s:Sm.S}{y:Int}(hy:1601≤y∧y≤9999)(hu:Sm.U s)(h:Sm.no s y=0):Oc.D y*86400≤(Sm.loc s y+999) / 1000∧(Sm.loc s y+999) / 1000≤Oc.D (y+1)*86400:=by
 have h0:=sec_in (s:=s) (y:=y) (off:=0) hy hu;have h1:=sec_in (s:=s) (y:=y) (off:=1) hy hu;unfold sec at h0 h1;rw[if_pos h] at h0 h1;have a:=Oc.D_mono (y:=1601) (z:=y) (by omega);have b:=Oc.D_mono (y:=y+1) (z:=10000) (by omega);have e1:Oc.D 1601=-134774:=by decide
 have e2:Oc.D 10000=2932897:=by decide
 have c1:-134774≤Oc.D y:=by omega
 have c2:Oc.D (y+1)≤2932897:=by omega
 obtain⟨n,hn⟩:=aj ((Sm.loc s y+999) / 1000)
 rw[hn] at h0 h1 ⊢;unfold never at h0 h1;clear hn e1 e2 a b;omega
theorem loc_bd {s:Sm.S}{y:Int}(hy:1601≤y∧y≤9999)(hu:Sm.U s)(h:Sm.no s y=0):-20000000000000≤Sm.loc s y∧Sm.loc s y≤300000000000000:=by
 have hi:Oc.D y*86400≤(Sm.loc s y+999) / 1000∧(Sm.loc s y+999) / 1000≤Oc.D (y+1)*86400:=loc_in hy hu h;have a:=Oc.D_mono (y:=1601) (z:=y) (by omega);have b:=Oc.D_mono (y:=y+1) (z:=10000) (by omega);have e1:Oc.D 1601=-134774:=by decide
 have e2:Oc.D 10000=2932897:=by decide
 have c1:-134774≤Oc.D y:=by omega
 have c2:Oc.D (y+1)≤2932897:=by omega
 obtain⟨n,hn⟩:=aj (Sm.loc s y)
 obtain⟨p,hp⟩:=aj (Oc.D y)
 obtain⟨q,hq⟩:=aj (Oc.D (y+1))
 rw[hn,hp,hq] at hi;rw[hp] at c1;rw[hq] at c2;rw[hn];clear hn hp hq a b e1 e2;omega
end Rc
theorem yrSecond_any (s:Sm.S)(y off:Int)(w:World)(hL:Lens w)(hu:Sm.U s)(hy:1601≤y∧y≤9999)(ho:-1000000000≤off∧off≤1000000000):Calls Tryz.prog 115 #[s.v,.int .i64 y,.int .i64 off] w fun e w'=>e=.returned (.int .i64 (Rc.sec s y off))∧Below w.heap.size w w':=by
 have hDt:=fun W (hb:Below w.heap.size w W)=>stampLocal_all s y W (hL.below hb) hu hy
 have hbd:=Rc.loc_bd (s:=s) (y:=y) hy hu;obtain⟨X,hX⟩:=aj (Rc.sec s y off)
 rw[hX];unfold Rc.sec Rc.never at hX;unfold Sm.locV at hDt;simp only[Sm.S.v_arr] at hDt ⊢
 by_cases hno:Sm.no s y=0
 case neg=>
  rw[if_neg hno] at hX;simp only[if_neg hno] at hDt;obtain⟨n,hn⟩:=aj (Sm.no s y)
  rw[hn] at hno;simp only[hn] at hDt;have p1:(n == 0)=false:=by rw[beq_eq_false_iff_ne];exact hno
  have p2:(n != 0)=true:=by rw[bne_iff_ne];exact hno
  have HX:=ak hX;have HDt:=ak hDt;clear hX hDt hL hu hy hn hno hbd ho;obtain⟨V1,gS,HEV1,HGgS,HS⟩:=(St.start w).lay (s.arr) 47;go_enter Tryz.func115,Tryz.ntmps115
  go_upto_region 1 with fail
  rw[HEV1.out]
  try rw[HGgS.out]
  go_wp2_with (refine wpList_load_arr rfl 47 _ rfl (gS) 0 rfl (s.arr) (HS.out.get 0 rfl).range _ Tryz.underlying47 rfl (by kernel_rfl) ?_)
  refine(HDt.out _ HS.out.b).mono ?_;rintro e V2 ⟨rfl,hb⟩;replace HS:=ak (HS.out.call hb);clear hb;go_wp2;go_ret
  exact⟨by rw[HX.out];rfl,HS.out.b⟩
 case pos=>
  rw[if_pos hno] at hX;simp only[if_pos hno] at hDt;have hbd:=hbd hno;obtain⟨n,hn⟩:=aj (Sm.loc s y)
  rw[hn] at hX hbd;simp only[hn] at hDt;have hc:=Rc.ceil_div n;have hq0:-20000000001≤n.tdiv 1000∧n.tdiv 1000≤300000000001:=by
   rcases hc with ⟨_,h⟩|⟨_,h⟩ <;> omega
  have hr0:-1000<n.tmod 1000∧n.tmod 1000<1000:=⟨by have:=Int.lt_tmod_of_pos n (b:=1000) (by decide);omega,Int.tmod_lt_of_pos n (by decide)⟩
  obtain⟨q,hq⟩:=aj (n.tdiv 1000)
  obtain⟨r,hr⟩:=aj (n.tmod 1000)
  rw[hq] at hc hq0;rw[hr] at hc hr0;have t1:IntKind.i64.wrap q=q:=by rw[IntKind.wrap_i64];omega
  have t2:IntKind.i64.wrap r=r:=by rw[IntKind.wrap_i64];omega
  have t3:IntKind.i64.wrap (q+1)=q+1:=by rw[IntKind.wrap_i64];omega
  have t4:IntKind.i64.wrap (q - off)=q - off:=by rw[IntKind.wrap_i64];omega
  have t5:IntKind.i64.wrap (q+1 - off)=q+1 - off:=by rw[IntKind.wrap_i64];omega
  have HDt:=ak hDt;clear hDt hL hu hy hn hno hbd ho hq0 hr0;rcases hc with ⟨c1,c2⟩|⟨c1,c2⟩
  all_goals
   rw[c2] at hX;have HX:=ak hX;clear hX c2;obtain⟨V1,gS,HEV1,HGgS,HS⟩:=(St.start w).lay (s.arr) 47;go_enter Tryz.func115,Tryz.ntmps115
   go_upto_region 1 with fail
   rw[HEV1.out]
   try rw[HGgS.out]
   go_wp2_with (refine wpList_load_arr rfl 47 _ rfl (gS) 0 rfl (s.arr) (HS.out.get 0 rfl).range _ Tryz.underlying47 rfl (by kernel_rfl) ?_)
   refine(HDt.out _ HS.out.b).mono ?_;rintro e V2 ⟨rfl,hb⟩;replace HS:=ak (HS.out.call hb);clear hb;go_wp2;go_ret
   exact⟨by rw[HX.out];rfl,HS.out.b⟩
namespace Rc
def trV (r:R)(y:Int):Value:=if right r=true then .tuple #[.agg #[.int .i64 (toS r y),.int .i64 (toT r y)],.int .i64 0] else .tuple #[.agg #[.int .i64 0,.int .i64 0],.int .i64 2]
theorem off_bd {r:R}(h:right r=true):(-86400≤so r∧so r≤86400)∧(-86400≤dof r∧dof r≤86400):=by
 unfold right at h;rw[decide_eq_true_eq] at h;exact⟨h.so,h.dof⟩
end Rc
theorem yrTurns_any (r:Rc.R)(y:Int)(w:World)(hL:Lens w)(hi:Rc.I r)(hy:1601≤y∧y≤9999):Calls Tryz.prog 68 #[r.v,.int .i64 y] w fun e w'=>e=.returned (Rc.trV r y)∧Below w.heap.size w w':=by
 have hCk:=fun W (hb:Below w.heap.size w W)=>rcCheck_any r W (hL.below hb) hi
 have hOf:=fun W=>rcOffsets_any r W hi
 obtain⟨X,hX⟩:=aj (Rc.trV r y)
 rw[hX];unfold Rc.trV at hX;simp only[Rc.R.v_arr] at hCk hOf ⊢;cases hr:Rc.right r with
 |false=>
  simp only[hr] at hX hCk;have HX:=ak hX;have HCk:=ak hCk;clear hX hCk hOf hr hL hi hy;obtain⟨V1,gR,HEV1,HGgR,HS⟩:=(St.start w).lay2 (r.arr) 49 #[.int .i64 0,.int .i64 0] 159;go_enter Tryz.func68,Tryz.ntmps68
  go_upto_region 1 with fail
  rw[HEV1.out]
  try rw[HGgR.out]
  go_wp2_with (refine wpList_load_arr rfl 49 _ rfl (gR) 0 rfl (r.arr) (HS.out.get 1 rfl).range _ Tryz.underlying49 rfl (by kernel_rfl) ?_)
  refine(HCk.out _ HS.out.b).mono ?_;rintro e V2 ⟨rfl,hb⟩;replace HS:=ak (HS.out.call hb);clear hb;go_wp2_with (refine wpList_store_all rfl 159 _ _ rfl (gR+1) rfl #[.int .i64 0,.int .i64 0] rfl _ (HS.out.get 0 rfl) (by rfl) (by kernel_rfl) (by first|exact Sm.S.arr_one _|exact Rc.R.arr_one _|simp[Value.oneCell']) ?_;intro V3 hAn hMn)
  replace HS:Hid (St w V3 [(gR+1,[.int .i64 0,.int .i64 0]),(gR,r.arr.toList)]):=HS.out.put 0 rfl hMn hAn;clear hMn hAn;refine bodyPost_ret (res_ct (p:=4) (q:=5) rfl (HS.out.get 0 rfl) _ Tryz.underlying159 rfl (by kernel_rfl) rfl rfl) rfl ⟨by first|(rw[← HX.out];rfl)|rw[← HX.out],HS.out.b⟩
 |true=>
  simp only[hr] at hX hCk;obtain⟨o1,o2⟩:=Rc.off_bd hr;have h1:=fun W (hb:Below w.heap.size w W)=>yrSecond_any r.dst y (Rc.so r) W (hL.below hb) hi.dst hy (by omega)
  have h2:=fun W (hb:Below w.heap.size w W)=>yrSecond_any r.std y (Rc.dof r) W (hL.below hb) hi.std hy (by omega)
  have y1:¬y<1601:=by omega
  have y2:¬9999<y:=by omega
  have y1':decide (y<1601)=false:=by rw[decide_eq_false_iff_not];exact y1
  have y2':decide (9999<y)=false:=by rw[decide_eq_false_iff_not];exact y2
  obtain⟨xs,hxs⟩:=aj (Rc.so r)
  obtain⟨xd,hxd⟩:=aj (Rc.dof r)
  unfold Rc.toS Rc.toT at hX;rw[hxs,hxd] at hX;simp only[hxs,hxd] at hOf h1 h2;obtain⟨ta,hta⟩:=aj (Rc.sec r.dst y xs)
  obtain⟨tb,htb⟩:=aj (Rc.sec r.std y xd)
  rw[hta,htb] at hX;simp only[hta] at h1;simp only[htb] at h2;have HX:=ak hX;have HCk:=ak hCk;have HOf:=ak hOf;have HS1:=ak h1;have HS2:=ak h2;clear hX hCk hOf h1 h2 hr hL hi hy hxs hxd hta htb o1 o2;obtain⟨V1,gR,HEV1,HGgR,HS⟩:=(St.start w).lay2 (r.arr) 49 #[.int .i64 0,.int .i64 0] 159;go_enter Tryz.func68,Tryz.ntmps68
  go_upto_region 1 with fail
  rw[HEV1.out]
  try rw[HGgR.out]
  go_wp2_with (refine wpList_load_arr rfl 49 _ rfl (gR) 0 rfl (r.arr) (HS.out.get 1 rfl).range _ Tryz.underlying49 rfl (by kernel_rfl) ?_)
  refine(HCk.out _ HS.out.b).mono ?_;rintro e V2 ⟨rfl,hb⟩;replace HS:=ak (HS.out.call hb);clear hb;go_wp2_with (refine wpList_load_arr rfl 49 _ rfl (gR) 0 rfl (r.arr) (HS.out.get 1 rfl).range _ Tryz.underlying49 rfl (by kernel_rfl) ?_)
  refine(HOf.out _).mono ?_;rintro e V3 ⟨rfl,hb⟩;replace HS:=ak (HS.out.call hb);clear hb;have hz:=(HS.out.get 1 rfl).lt;have d3:=cell_regrown ((HS.out.get 1 rfl).cell 3 _ rfl);have d4:=cell_regrown ((HS.out.get 1 rfl).cell 4 _ rfl);have d5:=cell_regrown ((HS.out.get 1 rfl).cell 5 _ rfl);have d6:=cell_regrown ((HS.out.get 1 rfl).cell 6 _ rfl);have d7:=cell_regrown ((HS.out.get 1 rfl).cell 7 _ rfl);have d8:=cell_regrown ((HS.out.get 1 rfl).cell 8 _ rfl);have d9:=cell_regrown ((HS.out.get 1 rfl).cell 9 _ rfl);have d10:=cell_regrown ((HS.out.get 1 rfl).cell 10 _ rfl);have d11:=cell_regrown ((HS.out.get 1 rfl).cell 11 _ rfl);have d12:=cell_regrown ((HS.out.get 1 rfl).cell 12 _ rfl);have d13:=cell_regrown ((HS.out.get 1 rfl).cell 13 _ rfl);have d14:=cell_regrown ((HS.out.get 1 rfl).cell 14 _ rfl);have d15:=cell_regrown ((HS.out.get 1 rfl).cell 15 _ rfl);have d16:=cell_regrown ((HS.out.get 1 rfl).cell 16 _ rfl);have d17:=cell_regrown ((HS.out.get 1 rfl).cell 17 _ rfl);have d18:=cell_regrown ((HS.out.get 1 rfl).cell 18 _ rfl);have cS:∀dd os,Calls Tryz.prog 115 #[.agg #[.int .u16 r.dst.y,.int .u16 r.dst.mo,.int .u16 r.dst.dw,.int .u16 r.dst.d,.int .u16 r.dst.h,.int .u16 r.dst.mi,.int .u16 r.dst.s,.int .u16 r.dst.ms],.int .i64 y,.int .i64 xs] (grow (redrawn V3 dd) os) fun e w''=>e=.returned (.int .i64 ta)∧∃p:Regrown,w''=grow (redrawn V3 p.d) p.os:=fun dd os=>Calls.regrown_of (HS1.out _ (below_then HS.out.b (below_regrown V3 dd os)))
  have cT:∀dd os,Calls Tryz.prog 115 #[.agg #[.int .u16 r.std.y,.int .u16 r.std.mo,.int .u16 r.std.dw,.int .u16 r.std.d,.int .u16 r.std.h,.int .u16 r.std.mi,.int .u16 r.std.s,.int .u16 r.std.ms],.int .i64 y,.int .i64 xd] (grow (redrawn V3 dd) os) fun e w''=>e=.returned (.int .i64 tb)∧∃p:Regrown,w''=grow (redrawn V3 p.d) p.os:=fun dd os=>Calls.regrown_of (HS2.out _ (below_then HS.out.b (below_regrown V3 dd os)))
  go_upto_region 7 with fail
  refine wp_region_tail 11 (by kernel_rfl) (by kernel_rfl) ?_
  repeat (quiet_step (first|with_reducible exact cS _ _|with_reducible exact cT _ _))
  refine wpQuiet_nil ?_;intro V4 hwz;obtain⟨⟨dq,osq⟩,hwz⟩:=hwz;have hb:Below V3.heap.size V3 V4:=by rw[hwz];exact below_regrown _ _ _
  clear hwz cS cT hz d3 d4 d5 d6 d7 d8 d9 d10 d11 d12 d13 d14 d15 d16 d17 d18;replace HS:=ak (HS.out.call hb);clear hb;show wpList _ _ _ (_ :: _) _ _
  go_wp2_with (refine wpList_store_all rfl 159 _ _ rfl (gR+1) rfl #[.int .i64 ta,.int .i64 tb] rfl _ (HS.out.get 0 rfl) (by rfl) (by kernel_rfl) (by first|exact Sm.S.arr_one _|exact Rc.R.arr_one _|simp[Value.oneCell']) ?_;intro V5 hAn hMn)
  replace HS:Hid (St w V5 [(gR+1,[.int .i64 ta,.int .i64 tb]),(gR,r.arr.toList)]):=HS.out.put 0 rfl hMn hAn;clear hMn hAn;refine bodyPost_ret (res_ct (p:=4) (q:=5) rfl (HS.out.get 0 rfl) _ Tryz.underlying159 rfl (by kernel_rfl) rfl rfl) rfl ⟨by first|(rw[← HX.out];rfl)|rw[← HX.out],HS.out.b⟩
end Go.Proofs.YtjobhjemnmleaaaGreatDoor
namespace Go.Proofs.YtjobhjemnmleaaaGreatDoor
open Go.RowKit Go.Sort
theorem sst_yes (a:Int × Bool)(w:World):(Op.equalIn 10000 41 (.agg #[.int .i64 a.1,.bool a.2,.string ⟨#[]⟩]) (.agg #[.int .i64 a.1,.bool a.2,.string ⟨#[]⟩])).run Tryz.prog w=.ok true w:=by
 obtain⟨x,y⟩:=a;simp only;go_simp
theorem sst_no {a b:Int × Bool}(h:a≠b)(w:World):(Op.equalIn 10000 41 (.agg #[.int .i64 a.1,.bool a.2,.string ⟨#[]⟩]) (.agg #[.int .i64 b.1,.bool b.2,.string ⟨#[]⟩])).run Tryz.prog w=.ok false w:=by
 obtain⟨x,y⟩:=a;obtain⟨x',y'⟩:=b;simp only;go_simp;rintro rfl rfl;exact h rfl
theorem yrSummer_any (a b t : Int) (w : World) : Calls Tryz.prog 116 #[.agg #[.int .i64 a, .int .i64 b], .int .i64 t] w fun e w' => e = .returned (.bool (Rc.summer a b t)) ∧ Below w.heap.size w w' := by
  obtain ⟨X, hX⟩ : ∃ X, Rc.summer a b t = X := ⟨_, rfl⟩
  rw [hX];have hcase : (a < b ∧ ¬ a ≤ t ∧ X = false) ∨ (a < b ∧ a ≤ t ∧ t < b ∧ X = true) ∨ (a < b ∧ a ≤ t ∧ ¬ t < b ∧ X = false) ∨ (¬ a < b ∧ b < a ∧ t < b ∧ X = true) ∨ (¬ a < b ∧ b < a ∧ ¬ t < b ∧ a ≤ t ∧ X = true) ∨ (¬ a < b ∧ b < a ∧ ¬ t < b ∧ ¬ a ≤ t ∧ X = false) ∨ (¬ a < b ∧ ¬ b < a ∧ X = false) := by
    by_cases h1 : a < b <;> by_cases h2 : b < a <;> by_cases h3 : a ≤ t <;> by_cases h4 : t < b
    all_goals first
      | omega
      | (have : X = true := by rw [← hX]; exact Rc.yes (by omega)
         simp [h1, h2, h3, h4, this])
      | (have : X = false := by rw [← hX]; exact Rc.nope (by omega)
         simp [h1, h2, h3, h4, this])
  clear hX;rcases hcase with ⟨h1, h2, hX⟩ | ⟨h1, h2, h3, hX⟩ | ⟨h1, h2, h3, hX⟩ | ⟨h1, h2, h3, hX⟩ | ⟨h1, h2, h3, h4, hX⟩ | ⟨h1, h2, h3, h4, hX⟩ | ⟨h1, h2, hX⟩
  all_goals
    have HX := Lib.hid hX;clear hX
    try have h1' := decide_eq_true h1
    try have h2' := decide_eq_true h2
    try have h3' := decide_eq_true h3
    try have h4' := decide_eq_true h4
    try have h1' := decide_eq_false h1
    try have h2' := decide_eq_false h2
    try have h3' := decide_eq_false h3
    try have h4' := decide_eq_false h4
    obtain ⟨V1, gT, HEV1, HGgT, HS⟩ := (St.start w).lay #[.int .i64 a, .int .i64 b] 159;have T0 := (HS.out.get 0 rfl).cell 0 _ rfl;have T1 := (HS.out.get 0 rfl).cell 1 _ rfl;have zT := (HS.out.get 0 rfl).lt;go_enter Tryz.func116, Tryz.ntmps116
    go_upto_region 1 with fail
    rw [HEV1.out]
    try rw [HGgT.out]
    go_wp2_with fail
    try go_quiet (fail)
    try go_wp2
    go_ret
    exact ⟨by rw [HX.out]; rfl, by first | exact HS.out.b | exact HS.out.b.drew | exact below_drewN HS.out.b _⟩
namespace Rc
def stV (x z a b t:Int):Value:=.agg #[.int .i64 (st x z a b t).1,.bool (st x z a b t).2,.string ⟨#[]⟩]
end Rc
theorem yrState_any (r:Rc.R)(a b t:Int)(w:World)(hi:Rc.I r):Calls Tryz.prog 69 #[r.v,.agg #[.int .i64 a,.int .i64 b],.int .i64 t] w fun e w'=>e=.returned (Rc.stV (Rc.so r) (Rc.dof r) a b t)∧Below w.heap.size w w':=by
 have hOf:=fun W=>rcOffsets_any r W hi
 have hSu:=fun W=>yrSummer_any a b t W
 obtain⟨X,hX⟩:=aj (Rc.stV (Rc.so r) (Rc.dof r) a b t)
 rw[hX];unfold Rc.stV Rc.st at hX;simp only[Rc.R.v_arr] at hOf ⊢;obtain⟨xs,hxs⟩:=aj (Rc.so r)
 obtain⟨xd,hxd⟩:=aj (Rc.dof r)
 rw[hxs,hxd] at hX;simp only[hxs,hxd] at hOf;have HOf:=ak hOf;clear hOf hxs hxd hi;cases hq:Rc.summer a b t
 case false=>
  simp only[hq] at hSu hX;have HSu:=ak hSu;have HX:=ak hX;clear hSu hX hq;obtain⟨V1,gR,HEV1,HGgR,HS⟩:=(St.start w).lay3 (r.arr) 49 #[.int .i64 a,.int .i64 b] 159 #[.int .i64 0,.bool false,.string ⟨#[]⟩] 41;go_enter Tryz.func69,Tryz.ntmps69
  go_upto_region 1 with fail
  rw[HEV1.out]
  try rw[HGgR.out]
  go_wp2_with (refine wpList_load_arr rfl 49 _ rfl (gR) 0 rfl (r.arr) (HS.out.get 2 rfl).range _ Tryz.underlying49 rfl (by kernel_rfl) ?_)
  refine(HOf.out _).mono ?_;rintro e V2 ⟨rfl,hb⟩;replace HS:=ak (HS.out.call hb);clear hb;go_wp2_with (refine wpList_load_arr rfl 159 _ rfl (gR+1) 0 rfl #[.int .i64 a,.int .i64 b] (HS.out.get 1 rfl).range _ Tryz.underlying159 rfl (by kernel_rfl) ?_)
  refine(HSu.out _).mono ?_;rintro e V3 ⟨rfl,hb⟩;replace HS:=ak (HS.out.call hb);clear hb;go_wp2_with (refine wpList_store_all rfl 41 _ _ rfl (gR+1+1) rfl #[.int .i64 xs,.bool false,.string ⟨#[]⟩] rfl _ (HS.out.get 0 rfl) (by rfl) (by kernel_rfl) (by first|exact Sm.S.arr_one _|exact Rc.R.arr_one _|simp[Value.oneCell']) ?_;intro V4 hAn hMn)
  replace HS:Hid (St w V4 [(gR+1+1,[.int .i64 xs,.bool false,.string ⟨#[]⟩]),(gR+1,[.int .i64 a,.int .i64 b]),(gR,r.arr.toList)]):=HS.out.put 0 rfl hMn hAn;clear hMn hAn;refine bodyPost_ret (res_c (p:=6) rfl (HS.out.get 0 rfl) _ Tryz.underlying41 rfl (by kernel_rfl) rfl) rfl ⟨by first|(rw[← HX.out];rfl)|rw[← HX.out],HS.out.b⟩
 case true=>
  simp only[hq] at hSu hX;have HSu:=ak hSu;have HX:=ak hX;clear hSu hX hq;obtain⟨V1,gR,HEV1,HGgR,HS⟩:=(St.start w).lay3 (r.arr) 49 #[.int .i64 a,.int .i64 b] 159 #[.int .i64 0,.bool false,.string ⟨#[]⟩] 41;go_enter Tryz.func69,Tryz.ntmps69
  go_upto_region 1 with fail
  rw[HEV1.out]
  try rw[HGgR.out]
  go_wp2_with (refine wpList_load_arr rfl 49 _ rfl (gR) 0 rfl (r.arr) (HS.out.get 2 rfl).range _ Tryz.underlying49 rfl (by kernel_rfl) ?_)
  refine(HOf.out _).mono ?_;rintro e V2 ⟨rfl,hb⟩;replace HS:=ak (HS.out.call hb);clear hb;go_wp2_with (refine wpList_load_arr rfl 159 _ rfl (gR+1) 0 rfl #[.int .i64 a,.int .i64 b] (HS.out.get 1 rfl).range _ Tryz.underlying159 rfl (by kernel_rfl) ?_)
  refine(HSu.out _).mono ?_;rintro e V3 ⟨rfl,hb⟩;replace HS:=ak (HS.out.call hb);clear hb;go_wp2_with (refine wpList_store_all rfl 41 _ _ rfl (gR+1+1) rfl #[.int .i64 xd,.bool true,.string ⟨#[]⟩] rfl _ (HS.out.get 0 rfl) (by rfl) (by kernel_rfl) (by first|exact Sm.S.arr_one _|exact Rc.R.arr_one _|simp[Value.oneCell']) ?_;intro V4 hAn hMn)
  replace HS:Hid (St w V4 [(gR+1+1,[.int .i64 xd,.bool true,.string ⟨#[]⟩]),(gR+1,[.int .i64 a,.int .i64 b]),(gR,r.arr.toList)]):=HS.out.put 0 rfl hMn hAn;clear hMn hAn;refine bodyPost_ret (res_c (p:=6) rfl (HS.out.get 0 rfl) _ Tryz.underlying41 rfl (by kernel_rfl) rfl) rfl ⟨by first|(rw[← HX.out];rfl)|rw[← HX.out],HS.out.b⟩
end Go.Proofs.YtjobhjemnmleaaaGreatDoor
namespace Go.Proofs.YtjobhjemnmleaaaGreatDoor
open Go.RowKit
theorem own_fresh (W:World)(B:Nat)(te:TypeId)(size:Nat)(cs:Array Value)(hB:B≤W.heap.size)(hs:cs.size=size):(W.alloc (.cells cs te)).ownsRow B te size (.slice (some ⟨W.heap.size,0,none⟩) 1 1) 1 cs.toList:=by
 refine⟨by simp[hs],.inr ⟨W.heap.size,1,cs,rfl,hB,by first|exact heap_alloc_new _ _|exact(MapKept.heap_alloc _ _).1,Nat.le_refl _,by unfold maxLen;omega,by omega,?_⟩⟩;rw[List.take_of_length_le (by simp;omega)]
namespace Rc
def pk (x z a b fr te:Int):Nat→List Ln.Sp × (Int × Bool)
 |0=>([⟨fr,(st x z a b fr).1,(st x z a b fr).2⟩],st x z a b fr)
 |1=>turn x z a b fr te (min a b) ([⟨fr,(st x z a b fr).1,(st x z a b fr).2⟩],st x z a b fr)
 |_=>turn x z a b fr te (max a b) (turn x z a b fr te (min a b) ([⟨fr,(st x z a b fr).1,(st x z a b fr).2⟩],st x z a b fr))
theorem pk_two (x z a b fr te:Int):(pk x z a b fr te 2).1=spansI x z a b fr te:=rfl
theorem turn_len (x z a b fr te t:Int)(p:List Ln.Sp × (Int × Bool)):(turn x z a b fr te t p).1.length≤p.1.length+1:=by
 unfold turn;split
 ·omega
 ·split
  ·omega
  ·simp
theorem pk_len (x z a b fr te:Int):∀k,(pk x z a b fr te k).1.length≤3
 |0=>by
  show 1≤3
  decide
 |1=>Nat.le_trans (turn_len x z a b fr te (min a b) _) (by
  show 1+1≤3
  decide)
 |_+2=>Nat.le_trans (turn_len x z a b fr te (max a b) _) (Nat.succ_le_succ (turn_len x z a b fr te (min a b) _))
structure SpI (r:R)(w:World)(a b:Int)(gR gT gE:Nat)(p:List Ln.Sp × (Int × Bool))(v:Value)(wr:World):Prop where
 st:St w wr [(gE,[.int .i64 p.2.1,.bool p.2.2,.string ⟨#[]⟩]),(gT,[.int .i64 a,.int .i64 b]),(gR,r.arr.toList)]
 own:wr.ownsRow (gE+1) 164 3 v p.1.length (Ln.fl p.1)
def SpRet (r:R)(y:Int)(w:World)(e:Ending)(w':World):Prop:=Below w.heap.size w w'∧((right r=false∧e=.returned (.tuple #[.slice none 0 0,.int .i64 2]))∨(right r=true∧∃v,e=.returned (.tuple #[v,.int .i64 0])∧w'.ownsRow w.heap.size 164 3 v (spans r y).length (Ln.fl (spans r y))))
theorem spans_eq {r:R}{y x z a b fr te:Int}(h1:so r=x)(h2:dof r=z)(h3:toS r y=a)(h4:toT r y=b)(h5:Oc.D y*86400=fr)(h6:Oc.D (y+1)*86400=te):spans r y=spansI x z a b fr te:=by
 unfold spans;rw[h1,h2,h3,h4,h5,h6]
end Rc
theorem yrSpans_any (r:Rc.R)(y:Int)(w:World)(hL:Lens w)(hi:Rc.I r)(hy:1601≤y∧y≤9999):Calls Tryz.prog 24 #[r.v,.int .i64 y] w (Rc.SpRet r y w):=by
 have hTu:=fun W (hb:Below w.heap.size w W)=>yrTurns_any r y W (hL.below hb) hi hy
 unfold Rc.trV at hTu;simp only[Rc.R.v_arr] at hTu ⊢;cases hr:Rc.right r with
 |false=>
  simp only[hr] at hTu;have HTu:=ak hTu;have HX:Hid (∀w',Below w.heap.size w w'→Rc.SpRet r y w (.returned (.tuple #[.slice none 0 0,.int .i64 2])) w'):=fun w' hb=>⟨hb,.inl ⟨hr,rfl⟩⟩
  clear hTu hr hL hi hy;obtain⟨P,hP⟩:=aj (Rc.SpRet r y w)
  rw[hP] at HX;rw[hP];clear hP;obtain⟨V1,gR,HEV1,HGgR,HS⟩:=(St.start w).lay (r.arr) 49;go_enter Tryz.func24,Tryz.ntmps24
  go_upto_region 1 with fail
  rw[HEV1.out]
  try rw[HGgR.out]
  go_wp2_with (refine wpList_load_arr rfl 49 _ rfl (gR) 0 rfl (r.arr) (HS.out.get 0 rfl).range _ Tryz.underlying49 rfl (by kernel_rfl) ?_)
  refine(HTu.out _ HS.out.b).mono ?_;rintro e V2 ⟨rfl,hb⟩;replace HS:=ak (HS.out.call hb);clear hb;have hLy:=HS.out.lay #[.int .i64 0,.int .i64 0] 159;clear HS;obtain⟨V3,gT,HEV3,HGgT,HS⟩:=hLy;go_upto_region 2 with fail
  rw[HEV3.out]
  try rw[HGgT.out]
  go_wp2;exact HX.out _ HS.out.b
 |true=>
  simp only[hr] at hTu;have hSt:=fun W t=>yrState_any r (Rc.toS r y) (Rc.toT r y) t W hi
  unfold Rc.stV at hSt;simp only[Rc.R.v_arr] at hSt;have e1:Ln.begin_ y=(Oc.D y*86400,0):=by unfold Ln.begin_;rw[if_pos (by omega)]
  have e2:Ln.begin_ (y+1)=(Oc.D (y+1)*86400,0):=by unfold Ln.begin_;rw[if_pos (by omega)]
  have HB1:=ak fun W=>e1 ▸ lnBegin_any y W
  have HB2:=ak fun W=>e2 ▸ lnBegin_any (y+1) W
  have wy:IntKind.i64.wrap (y+1)=y+1:=by rw[IntKind.wrap_i64];omega
  have hX:∀v w',Below w.heap.size w w'→w'.ownsRow w.heap.size 164 3 v (Rc.spans r y).length (Ln.fl (Rc.spans r y))→Rc.SpRet r y w (.returned (.tuple #[v,.int .i64 0])) w':=fun v w' hb ho=>⟨hb,.inr ⟨hr,v,rfl,ho⟩⟩
  have hse:=@Rc.spans_eq r y;obtain⟨x,hx⟩:=aj (Rc.so r)
  obtain⟨z,hz⟩:=aj (Rc.dof r)
  obtain⟨a,ha⟩:=aj (Rc.toS r y)
  obtain⟨b,hb⟩:=aj (Rc.toT r y)
  obtain⟨fr,hfr⟩:=aj (Oc.D y*86400)
  obtain⟨te,hte⟩:=aj (Oc.D (y+1)*86400)
  have hse:=hse hx hz ha hb hfr hte;rw[hse] at hX;rw[hfr] at HB1;rw[hte] at HB2;simp only[ha,hb,hx,hz] at hTu hSt;have HTu:=ak hTu;have HSt:=ak hSt;obtain⟨P,hP⟩:=aj (Rc.SpRet r y w)
  rw[hP] at hX ⊢;have HX:=ak hX;clear hP hX hse hx hz ha hb hfr hte hTu hSt e1 e2 hr hL hi hy;obtain⟨m0,hm0⟩:=aj (min a b)
  obtain⟨m1,hm1⟩:=aj (max a b)
  have HM0:=ak hm0;have HM1:=ak hm1;clear hm0 hm1;obtain⟨s0,hs0⟩:=aj (Rc.st x z a b fr)
  have HS0:=ak hs0;clear hs0;have HSt0:=ak fun W=>HSt.out W fr
  rw[HS0.out] at HSt0;obtain⟨V1,gR,HEV1,HGgR,HS⟩:=(St.start w).lay (r.arr) 49;go_enter Tryz.func24,Tryz.ntmps24
  go_upto_region 1 with fail
  rw[HEV1.out]
  try rw[HGgR.out]
  go_wp2_with (refine wpList_load_arr rfl 49 _ rfl (gR) 0 rfl (r.arr) (HS.out.get 0 rfl).range _ Tryz.underlying49 rfl (by kernel_rfl) ?_)
  refine(HTu.out _ HS.out.b).mono ?_;rintro e V2 ⟨rfl,hb⟩;replace HS:=ak (HS.out.call hb);clear hb;have hLy:=HS.out.lay #[.int .i64 a,.int .i64 b] 159;clear HS;obtain⟨V3,gT,HEV3,HGgT,HS⟩:=hLy;go_upto_region 2 with fail
  rw[HEV3.out]
  try rw[HGgT.out]
  go_wp2_with fail
  refine(HB1.out _).mono ?_;rintro e _ ⟨rfl,rfl⟩;go_wp2_with fail
  refine(HB2.out _).mono ?_;rintro e _ ⟨rfl,rfl⟩;have T0:=(HS.out.get 0 rfl).cell 0 _ rfl;have T1:=(HS.out.get 0 rfl).cell 1 _ rfl;have zT:=(HS.out.get 0 rfl).lt;go_wp2_with (refine wpList_load_arr rfl 49 _ rfl (gR) 0 rfl (r.arr) (HS.out.get 1 rfl).range _ Tryz.underlying49 rfl (by kernel_rfl) ?_)
  clear T0 T1 zT;refine(HSt0.out _).mono ?_;rintro e V4 ⟨rfl,hb⟩;replace HS:=ak (HS.out.call hb);clear hb;have hLy:=HS.out.lay #[.int .i64 s0.1,.bool s0.2,.string ⟨#[]⟩] 41;clear HS;obtain⟨V5,gE,HEV5,HGgE,HS⟩:=hLy;go_upto_region 11 with fail
  rw[HEV5.out]
  try rw[HGgE.out]
  have E0:=(HS.out.get 0 rfl).cell 0 _ rfl;have E1:=(HS.out.get 0 rfl).cell 1 _ rfl;have E2:=(HS.out.get 0 rfl).cell 2 _ rfl;have zE:=(HS.out.get 0 rfl).lt;have HO:=ak (own_fresh V5 (gE+1) 164 3 #[.int .i64 fr,.int .i64 s0.1,.bool s0.2] (by have:=(HS.out.get 0 rfl).lt;omega) rfl);have hLy:=HS.out.lay #[.int .i64 fr,.int .i64 s0.1,.bool s0.2] 164;clear HS;obtain⟨V6,gL,HEV6,HGgL,HS⟩:=hLy;rw[HEV6.out,HGgL.out] at HO;go_upto_region 12 with fail
  rw[HEV6.out]
  try rw[HGgL.out]
  clear E0 E1 E2 zE;have T0:=(HS.out.get 2 rfl).cell 0 _ rfl;have T1:=(HS.out.get 2 rfl).cell 1 _ rfl;have zT:=(HS.out.get 2 rfl).lt;have hm0:=HM0.out;have hm1:=HM1.out;go_upto_region 13 with fail
  clear hm0 hm1;clear T0 T1 zT;have HI0:Hid (Rc.SpI r w a b gR gT gE (Rc.pk x z a b fr te 0) (.slice (some ⟨gL,0,none⟩) 1 1) V6):=by
   have hz:St w V6 [(gE,[.int .i64 s0.1,.bool s0.2,.string ⟨#[]⟩]),(gT,[.int .i64 a,.int .i64 b]),(gR,r.arr.toList)]:=⟨HS.out.b,HS.out.z.2.2.2⟩
   unfold Rc.pk;rw[HS0.out];exact⟨hz,HO.out⟩
  clear HO HS HS0 HSt0;go_loopw [11,63] (fun v i wr=>∃k:Nat,k≤2∧i=.int .i64 (k:Int)∧∃A c,v=.slice A (Rc.pk x z a b fr te k).1.length c∧Hid (Rc.SpI r w a b gR gT gE (Rc.pk x z a b fr te k) v wr)) (fun _ i _=>2 - (intOf i).toNat)
  case atStart=>exact⟨0,Nat.zero_le _,rfl,_,_,rfl,HI0⟩
  case round=>
   obtain⟨k,hk,rfl,A,c,rfl,HI⟩:=hrel;clear HI0;have hk3:k=0∨k=1∨k=2:=(by omega);rcases hk3 with rfl|rfl|rfl
   ·clear hk;obtain⟨p,hp⟩:=aj (Rc.pk x z a b fr te 0)
    have hnx:Rc.pk x z a b fr te 1=Rc.turn x z a b fr te m0 p:=by rw[← hp,← HM0.out];rfl
    have hpl:p.1.length≤3:=by rw[← hp];exact Rc.pk_len x z a b fr te 0
    have hix:∀w,(Instr.index 159 (.agg #[.int .i64 m0,.int .i64 m1]) (.int .i64 0)).run Tryz.prog w=.ok (.int .i64 m0) w:=fun _=>by kernel_rfl
    rw[hp] at HI ⊢;have HP:=ak hp;clear hp;have HS:=ak HI.out.st;have HO:=ak HI.out.own;clear HI
    by_cases hout:m0≤fr∨te≤m0
    ·rw[Rc.turn_out hout] at hnx;have HN:=ak hnx;clear hnx hpl;have hspl:(m0≤fr)∨(¬m0≤fr∧te≤m0):=(by omega);clear hout;rcases hspl with h1|⟨h1,h2⟩
     all_goals
      try have d1:=decide_eq_true h1
      try have d1:=decide_eq_false h1
      try have d2:=decide_eq_true h2
      go_wp2_with fail
      try go_quiet (fail)
      try go_wp2
      go_roundw
      case rel=>
       refine⟨1,by decide,rfl,A,c,?_,?_⟩
       ·rw[HN.out]
       ·show Rc.SpI _ _ _ _ _ _ _ _ _ _
        rw[HN.out]
        first|exact⟨HS.out,HO.out⟩|exact⟨HS.out.drewN _,HO.out⟩
      case measure=>decide
    ·have h1:¬m0≤fr:=(by omega);have h2:¬te≤m0:=(by omega);have d1:=decide_eq_false h1;have d2:=decide_eq_false h2;obtain⟨s,hs⟩:=aj (Rc.st x z a b m0)
     have hSt1:=fun W=>HSt.out W m0
     rw[hs] at hSt1;have HSt1:=ak hSt1;clear hSt1;have T0:=(HS.out.get 1 rfl).cell 0 _ rfl;have T1:=(HS.out.get 1 rfl).cell 1 _ rfl;have zT:=(HS.out.get 1 rfl).lt;go_wp2_with (refine wpList_load_arr rfl 49 _ rfl (gR) 0 rfl (r.arr) (HS.out.get 2 rfl).range _ Tryz.underlying49 rfl (by kernel_rfl) ?_)
     clear T0 T1 zT;refine(HSt1.out _).mono ?_;rintro e W01 ⟨rfl,hb⟩;replace HS:=ak (HS.out.call hb);replace HO:=ak (own_below HO.out hb);clear hb;have hOl:=fun g e=>(HO.out.lt g e).2
     have hLy:=HS.out.lay #[.int .i64 s.1,.bool s.2,.string ⟨#[]⟩] 41;clear HS;obtain⟨W02,gN,HEW02,HGgN,HS⟩:=hLy;replace HO:=ak (own_lay HO.out HEW02.out);have HOL:Hid (∀g,(Value.slice A p.1.length c).ownBlock=some g→g<gN):=fun g e=>by have:=hOl g e;have:=HGgN.out;omega
     clear hOl;go_upto_region 17 with fail
     rw[HEW02.out]
     try rw[HGgN.out]
     have E0:=(HS.out.get 1 rfl).cell 0 _ rfl;have E1:=(HS.out.get 1 rfl).cell 1 _ rfl;have E2:=(HS.out.get 1 rfl).cell 2 _ rfl;have zE:=(HS.out.get 1 rfl).lt;have N0:=(HS.out.get 0 rfl).cell 0 _ rfl;have N1:=(HS.out.get 0 rfl).cell 1 _ rfl;have N2:=(HS.out.get 0 rfl).cell 2 _ rfl;have zN:=(HS.out.get 0 rfl).lt
     by_cases hsame:s=p.2
     ·have hq:=fun W=>sst_yes p.2 W
      rw[Rc.turn_same (by rw[hs,hsame])] at hnx;have HN:=ak hnx;clear hnx hpl;subst hsame;go_wp2;go_roundw
      case rel=>
       refine⟨1,by decide,rfl,A,c,?_,?_⟩
       ·rw[HN.out]
       ·show Rc.SpI _ _ _ _ _ _ _ _ _ _
        rw[HN.out];exact⟨⟨HS.out.b,HS.out.z.2.2.2⟩,HO.out⟩
      case measure=>decide
     ·have hq:=fun W=>sst_no hsame W
      rw[Rc.turn_new (by omega) (by rw[hs];exact hsame),hs] at hnx;have HN:=ak hnx;clear hnx hs hout h1 h2 d1 d2;have HAp:=fun {ops:Array Oper} {rest:List Oper} {o:Oper} {a:Act} {Q:Exit→Act→World→Prop} hgd ho hs hx h=>row_append (ops:=ops) (rest:=rest) (o:=o) (a:=a) (Q:=Q) 61 164 3 24 _ #[.int .i64 m0,.int .i64 s.1,.bool s.2] Tryz.underlying61 span_info rfl (by decide) rfl (by
       intro u hu;simp at hu
       rcases hu with rfl|rfl|rfl <;> rfl) (by decide) W02 (gE+1) p.1.length _ (.slice A p.1.length c) 81 88 W02.heap.size rfl HO.out (by omega) (by have:=zE;omega) hgd ho hs hx h
      clear hsame hpl;go_upto_region 19 with (at_builtin;refine HAp rfl rfl rfl rfl ?_;intro v9 W03 hown9 hb9 hg9 hat9)
      obtain⟨A9,c9,rfl,_,_⟩:=own_slice_cap hown9;have HZ:Hid (St w W03 [(gE,[.int .i64 p.2.1,.bool p.2.2,.string ⟨#[]⟩]),(gT,[.int .i64 a,.int .i64 b]),(gR,r.arr.toList)]):=⟨HS.out.b.trans (hb9.mono (by have:=HS.out.ge 1 rfl;omega)),Ats.below HS.out.z.2.2.2 hb9 (Ats.top HS.out.z.2.2.2)⟩
      have HN9:=ak (Lk.at_kept (HS.out.get 0 rfl) hg9 (fun e=>by have:=HOL.out _ e.symm;omega));have HO9:Hid (W03.ownsRow (gE+1) 164 3 (.slice A9 (p.1.length+1) c9) (p.1.length+1) (Ln.fl p.1 ++ [.int .i64 m0,.int .i64 s.1,.bool s.2])):=hown9;have HNE:Hid ((Value.slice A9 (p.1.length+1) c9).ownBlock≠some gE):=fun e=>by have:=(HO9.out.lt _ e).1;omega
      clear HAp hq hg9 hat9 hown9 hb9 HS HO;clear E0 E1 E2 zE N0 N1 N2 zN;go_wp2_with (first|(refine wpList_load_arr rfl 41 _ rfl gN 0 rfl #[.int .i64 s.1,.bool s.2,.string ⟨#[]⟩] HN9.out.range _ Tryz.underlying41 rfl (by kernel_rfl) ?_)|(refine wpList_store_all rfl 41 _ _ rfl gE rfl #[.int .i64 s.1,.bool s.2,.string ⟨#[]⟩] rfl _ (HZ.out.get 0 rfl) (by rfl) (by kernel_rfl) (by simp[Value.oneCell']) ?_;intro W04 hAn hMn))
      go_roundw
      case rel=>
       refine⟨1,by decide,rfl,A9,c9,?_,?_⟩
       ·rw[HN.out];simp
       ·show Rc.SpI _ _ _ _ _ _ _ _ _ _
        rw[HN.out];refine⟨HZ.out.put 0 rfl hMn hAn,?_⟩;have h:=hMn.own HNE.out HO9.out;simp only[List.length_append,List.length_cons,List.length_nil,Ln.fl_snoc];exact h
      case measure=>decide
   ·clear hk;obtain⟨p,hp⟩:=aj (Rc.pk x z a b fr te 1)
    have hnx:Rc.pk x z a b fr te 2=Rc.turn x z a b fr te m1 p:=by rw[← hp,← HM1.out];rfl
    have hpl:p.1.length≤3:=by rw[← hp];exact Rc.pk_len x z a b fr te 1
    have hix:∀w,(Instr.index 159 (.agg #[.int .i64 m0,.int .i64 m1]) (.int .i64 1)).run Tryz.prog w=.ok (.int .i64 m1) w:=fun _=>by kernel_rfl
    rw[hp] at HI ⊢;have HP:=ak hp;clear hp;have HS:=ak HI.out.st;have HO:=ak HI.out.own;clear HI
    by_cases hout:m1≤fr∨te≤m1
    ·rw[Rc.turn_out hout] at hnx;have HN:=ak hnx;clear hnx hpl;have hspl:(m1≤fr)∨(¬m1≤fr∧te≤m1):=(by omega);clear hout;rcases hspl with h1|⟨h1,h2⟩
     all_goals
      try have d1:=decide_eq_true h1
      try have d1:=decide_eq_false h1
      try have d2:=decide_eq_true h2
      go_wp2_with fail
      try go_quiet (fail)
      try go_wp2
      go_roundw
      case rel=>
       refine⟨2,by decide,rfl,A,c,?_,?_⟩
       ·rw[HN.out]
       ·show Rc.SpI _ _ _ _ _ _ _ _ _ _
        rw[HN.out]
        first|exact⟨HS.out,HO.out⟩|exact⟨HS.out.drewN _,HO.out⟩
      case measure=>decide
    ·have h1:¬m1≤fr:=(by omega);have h2:¬te≤m1:=(by omega);have d1:=decide_eq_false h1;have d2:=decide_eq_false h2;obtain⟨s,hs⟩:=aj (Rc.st x z a b m1)
     have hSt1:=fun W=>HSt.out W m1
     rw[hs] at hSt1;have HSt1:=ak hSt1;clear hSt1;have T0:=(HS.out.get 1 rfl).cell 0 _ rfl;have T1:=(HS.out.get 1 rfl).cell 1 _ rfl;have zT:=(HS.out.get 1 rfl).lt;go_wp2_with (refine wpList_load_arr rfl 49 _ rfl (gR) 0 rfl (r.arr) (HS.out.get 2 rfl).range _ Tryz.underlying49 rfl (by kernel_rfl) ?_)
     clear T0 T1 zT;refine(HSt1.out _).mono ?_;rintro e W11 ⟨rfl,hb⟩;replace HS:=ak (HS.out.call hb);replace HO:=ak (own_below HO.out hb);clear hb;have hOl:=fun g e=>(HO.out.lt g e).2
     have hLy:=HS.out.lay #[.int .i64 s.1,.bool s.2,.string ⟨#[]⟩] 41;clear HS;obtain⟨W12,gN,HEW12,HGgN,HS⟩:=hLy;replace HO:=ak (own_lay HO.out HEW12.out);have HOL:Hid (∀g,(Value.slice A p.1.length c).ownBlock=some g→g<gN):=fun g e=>by have:=hOl g e;have:=HGgN.out;omega
     clear hOl;go_upto_region 17 with fail
     rw[HEW12.out]
     try rw[HGgN.out]
     have E0:=(HS.out.get 1 rfl).cell 0 _ rfl;have E1:=(HS.out.get 1 rfl).cell 1 _ rfl;have E2:=(HS.out.get 1 rfl).cell 2 _ rfl;have zE:=(HS.out.get 1 rfl).lt;have N0:=(HS.out.get 0 rfl).cell 0 _ rfl;have N1:=(HS.out.get 0 rfl).cell 1 _ rfl;have N2:=(HS.out.get 0 rfl).cell 2 _ rfl;have zN:=(HS.out.get 0 rfl).lt
     by_cases hsame:s=p.2
     ·have hq:=fun W=>sst_yes p.2 W
      rw[Rc.turn_same (by rw[hs,hsame])] at hnx;have HN:=ak hnx;clear hnx hpl;subst hsame;go_wp2;go_roundw
      case rel=>
       refine⟨2,by decide,rfl,A,c,?_,?_⟩
       ·rw[HN.out]
       ·show Rc.SpI _ _ _ _ _ _ _ _ _ _
        rw[HN.out];exact⟨⟨HS.out.b,HS.out.z.2.2.2⟩,HO.out⟩
      case measure=>decide
     ·have hq:=fun W=>sst_no hsame W
      rw[Rc.turn_new (by omega) (by rw[hs];exact hsame),hs] at hnx;have HN:=ak hnx;clear hnx hs hout h1 h2 d1 d2;have HAp:=fun {ops:Array Oper} {rest:List Oper} {o:Oper} {a:Act} {Q:Exit→Act→World→Prop} hgd ho hs hx h=>row_append (ops:=ops) (rest:=rest) (o:=o) (a:=a) (Q:=Q) 61 164 3 24 _ #[.int .i64 m1,.int .i64 s.1,.bool s.2] Tryz.underlying61 span_info rfl (by decide) rfl (by
       intro u hu;simp at hu
       rcases hu with rfl|rfl|rfl <;> rfl) (by decide) W12 (gE+1) p.1.length _ (.slice A p.1.length c) 81 88 W12.heap.size rfl HO.out (by omega) (by have:=zE;omega) hgd ho hs hx h
      clear hsame hpl;go_upto_region 19 with (at_builtin;refine HAp rfl rfl rfl rfl ?_;intro v9 W13 hown9 hb9 hg9 hat9)
      obtain⟨A9,c9,rfl,_,_⟩:=own_slice_cap hown9;have HZ:Hid (St w W13 [(gE,[.int .i64 p.2.1,.bool p.2.2,.string ⟨#[]⟩]),(gT,[.int .i64 a,.int .i64 b]),(gR,r.arr.toList)]):=⟨HS.out.b.trans (hb9.mono (by have:=HS.out.ge 1 rfl;omega)),Ats.below HS.out.z.2.2.2 hb9 (Ats.top HS.out.z.2.2.2)⟩
      have HN9:=ak (Lk.at_kept (HS.out.get 0 rfl) hg9 (fun e=>by have:=HOL.out _ e.symm;omega));have HO9:Hid (W13.ownsRow (gE+1) 164 3 (.slice A9 (p.1.length+1) c9) (p.1.length+1) (Ln.fl p.1 ++ [.int .i64 m1,.int .i64 s.1,.bool s.2])):=hown9;have HNE:Hid ((Value.slice A9 (p.1.length+1) c9).ownBlock≠some gE):=fun e=>by have:=(HO9.out.lt _ e).1;omega
      clear HAp hq hg9 hat9 hown9 hb9 HS HO;clear E0 E1 E2 zE N0 N1 N2 zN;go_wp2_with (first|(refine wpList_load_arr rfl 41 _ rfl gN 0 rfl #[.int .i64 s.1,.bool s.2,.string ⟨#[]⟩] HN9.out.range _ Tryz.underlying41 rfl (by kernel_rfl) ?_)|(refine wpList_store_all rfl 41 _ _ rfl gE rfl #[.int .i64 s.1,.bool s.2,.string ⟨#[]⟩] rfl _ (HZ.out.get 0 rfl) (by rfl) (by kernel_rfl) (by simp[Value.oneCell']) ?_;intro W14 hAn hMn))
      go_roundw
      case rel=>
       refine⟨2,by decide,rfl,A9,c9,?_,?_⟩
       ·rw[HN.out];simp
       ·show Rc.SpI _ _ _ _ _ _ _ _ _ _
        rw[HN.out];refine⟨HZ.out.put 0 rfl hMn hAn,?_⟩;have h:=hMn.own HNE.out HO9.out;simp only[List.length_append,List.length_cons,List.length_nil,Ln.fl_snoc];exact h
      case measure=>decide
   ·go_wp2;exact HX.out _ _ HI.out.st.b (by
     have h:=HI.out.own;rw[← Rc.pk_two x z a b fr te];exact Oc.own_low h (by have:=HI.out.st.ge 0 rfl;omega))
end Go.Proofs.YtjobhjemnmleaaaGreatDoor
namespace Go.Proofs.YtjobhjemnmleaaaGreatDoor
open Go.RowKit Go.Sort
namespace Cp
structure Use (s:Src.S)(rv zv lv:Value)(w:World):Prop where
 near:∀lo hi,-9223372036854775808≤lo∧lo<9223372036854775808→-9223372036854775808≤hi∧hi<9223372036854775808→∀W,Below w.heap.size w W→Calls Tryz.prog 12 #[.agg #[rv,zv,lv],.int .i64 lo,.int .i64 hi] W (Near s lo hi W)
 zone:Src.Few s→∀nm:ByteArray,nm.size≤maxLen→∀lo hi,-9223372036854775808≤lo∧lo<9223372036854775808→-9223372036854775808≤hi∧hi<9223372036854775808→∀W,Below w.heap.size w W→Calls Tryz.prog 19 #[.agg #[rv,zv,lv],.string nm,.int .i64 lo,.int .i64 hi] W (Cm.ZoneRet s nm lo hi W)
 link:Src.Few s→∀nm:ByteArray,nm.size≤maxLen→∀W,Below w.heap.size w W→Calls Tryz.prog 21 #[.agg #[rv,zv,lv],.string nm] W fun e w'=>e=.returned (.tuple #[.int .i64 (Lk.walk s nm).2.1,.int .i64 (Lk.walk s nm).2.2])∧Below W.heap.size W w'
 line:Src.Few s→∀nm:ByteArray,∀lo hi,-9223372036854775808≤lo∧lo<9223372036854775808→-9223372036854775808≤hi∧hi<9223372036854775808→∀W,Below w.heap.size w W→Calls Tryz.prog 22 #[.agg #[rv,zv,lv],.int .i64 (Lk.walk s nm).2.1,.int .i64 lo,.int .i64 hi] W fun e w'=>Below W.heap.size W w'∧Ln.OfRet s (Lk.walk s nm).2.1 lo hi W.heap.size e w'
 rules:Src.Few s→Vd.well s=true→Eg.RulesOk s.rules
 names:Src.Few s→∀x∈Src.names s,x.size≤maxLen
 lens:∀W,Below w.heap.size w W→Lens W
theorem use (s:Src.S)(rv zv lv:Value)(evs:List Value)(w:World)(hR:Src.SrcR w w.heap.size s rv zv lv evs)(hw:Src.Wide s)(hW:Wo w)(hA:Wa w):Use s rv zv lv w:=by
 have hcc:∀x∈s.zones,∀e∈x.2,0≤e.u.c:=fun x hx e he=>((hw.zones x hx).2 e he).1
 have hsz:Src.Few s→Vd.Sz s:=fun hf=>⟨⟨by have:=hf.nr;omega,by have:=hf.nz;omega,by have:=hf.nl;omega⟩,fun x hx=>by have:=(hf.zones x hx).1;omega,hw.smw⟩
 have hwc:∀r∈s.rules,0≤r.c:=fun r hr=>(hw.rules r hr).1
 refine⟨fun lo hi h1 h2 W hb=>near27_some s rv zv lv evs lo hi W (hR.call hb) hw h1 h2,fun hf nm hn lo hi h1 h2 W hb=>cmZone_any s nm lo hi rv zv lv evs W (hR.call hb) (hsz hf) (hW.below hb) (hA.below hb) hn h1 h2 hcc hwc,fun hf nm hn W hb=>linkZone_any s rv zv lv evs nm W (hR.call hb) (hsz hf).nm hn,fun hf nm lo hi h1 h2 W hb=>lnOf_any s (Lk.walk s nm).2.1 lo hi rv zv lv evs W (hR.call hb) (hsz hf) (hW.below hb) (hA.below hb) ?_ h1 h2 hcc hwc,fun hf h=>Eg.rules_ok2 h (hsz hf).lims.rules,fun hf x hx=>?_,fun W hb=>?_⟩
 ·have:=walk_bd s nm (hsz hf).lims.zones;omega
 ·unfold Src.names at hx;rcases List.mem_append.1 hx with hx|hx
  ·exact(hsz hf).nm.zn x hx
  ·exact(hsz hf).nm.ln x hx
 ·have h:Lens w:=by first|exact hW.lens|exact hW.l|exact hW.c.lens|exact hW.1
  exact h.below hb
section
variable {s:Src.S} {rv zv lv:Value} {w:World}
theorem Use.lineOk (h:Use s rv zv lv w)(hf:Src.Few s){nm:ByteArray}{lo hi:Int}{x:Src.Txt × List Er.E}{n:Nat}(hz:Cm.Zn s nm lo hi x n)(W:World)(hb:Below w.heap.size w W):
  Calls Tryz.prog 22 #[.agg #[rv,zv,lv],.int .i64 (Lk.walk s nm).2.1,.int .i64 lo,.int .i64 hi] W fun e w'=>(∃A m c,e=.returned (.tuple #[.slice A m c,.int .i64 0])∧(Ln.lineOf s x.2 lo hi).length=m∧m≤900000000∧m≤c∧c≤maxLen∧Reads w' w'.heap.size 3 A m ((Ln.lineOf s x.2 lo hi).flatMap Ln.Sp.cells))∧Below W.heap.size W w':=by
 have hi2:=hz.iny;unfold Ln.InY at hi2;refine(h.line hf nm lo hi (by omega) (by omega) W hb).mono ?_;rintro e w' ⟨hb',h4⟩;refine⟨?_,hb'⟩;rcases h4 with ⟨q,_⟩|⟨_,q,_⟩|⟨_,_,_,q,_⟩|⟨x',v,_,hx,_,rfl,ho⟩
 ·rw[hz.wl] at q;cases q
 ·rw[hz.zn] at q;cases q
 ·exact absurd hz.iny q
 ·rw[hz.zn] at hx;obtain rfl:=Option.some.inj hx;obtain⟨A,c,rfl,h1,h2⟩:=own_slice_cap ho;have hl:=Tp.len_le (h.rules hf hz.wl) hz.zo hz.iny;exact⟨A,_,c,rfl,rfl,by omega,h1,h2,Reads.of_own ho⟩
theorem Use.yearOk (h:Use s rv zv lv w)(hf:Src.Few s){nm:ByteArray}{lo hi y:Int}{x:Src.Txt × List Er.E}{n:Nat}(hz:Cm.Zn s nm lo hi x n)(h1:lo≤y)(h2:y≤hi){A:Option Addr}{m c:Nat}(hm:(Ln.lineOf s x.2 lo hi).length=m)(hm2:m≤900000000)(hmc:m≤c)(hc:c≤maxLen)(W:World)
  (hR:Reads W W.heap.size 3 A m ((Ln.lineOf s x.2 lo hi).flatMap Ln.Sp.cells)):
  Calls Tryz.prog 23 #[.slice A m c,.int .i64 y] W fun e w'=>(∃A' m' c',e=.returned (.tuple #[.slice A' m' c',.int .i64 0])∧(Cm.yr s x.2 y).length=m'∧m'≤maxLen∧Reads w' w'.heap.size 3 A' m' ((Cm.yr s x.2 y).flatMap Ln.Sp.cells))∧Below W.heap.size W w':=by
 refine(lookLine_any (h.rules hf hz.wl) hz.zo hz.iny h1 h2 A m c W hm hm2 hmc hc hR).mono ?_;rintro e w' ⟨v,rfl,ho,hb⟩;obtain⟨A',c',rfl,k1,k2⟩:=own_slice_cap ho;exact⟨⟨A',_,c',rfl,rfl,Nat.le_trans k1 k2,Reads.of_own ho⟩,hb⟩
end
end Cp
end Go.Proofs.YtjobhjemnmleaaaGreatDoor
namespace Go.Proofs.YtjobhjemnmleaaaGreatDoor
open Go.RowKit
namespace Ln
end Ln
end Go.Proofs.YtjobhjemnmleaaaGreatDoor
namespace Go.Proofs.YtjobhjemnmleaaaGreatDoor
open Go.RowKit
namespace Lk
end Lk
end Go.Proofs.YtjobhjemnmleaaaGreatDoor
namespace Go.Proofs.YtjobhjemnmleaaaGreatDoor
open Go.RowKit
namespace Ln
end Ln
end Go.Proofs.YtjobhjemnmleaaaGreatDoor
