/- The contracts of package rule: Check, year, to. -/
import Derived.Test.YtjobhjemnmleaaaGreatDoorR06
set_option maxHeartbeats 1000000
namespace Go.Proofs.YtjobhjemnmleaaaGreatDoor
open Go.RowKit
namespace Ru
structure R where
 nm:ByteArray
 fr:Int
 tt:Int
 mo:Int
 k:Int
 n:Int
 d:Int
 s:Int
 c:Int
 sv:Int
 lt:ByteArray
def R.v (r:R):Value:=.agg #[.string r.nm,.int .i64 r.fr,.int .i64 r.tt,.int .i64 r.mo,.int .u8 r.k,.int .i64 r.n,.int .i64 r.d,.int .i64 r.s,.int .u8 r.c,.int .i64 r.sv,.string r.lt]
def R.cells (r:R):List Value:=[.string r.nm,.int .i64 r.fr,.int .i64 r.tt,.int .i64 r.mo,.int .u8 r.k,.int .i64 r.n,.int .i64 r.d,.int .i64 r.s,.int .u8 r.c,.int .i64 r.sv,.string r.lt]
def R.zero : R:=⟨⟨#[]⟩,0,0,0,0,0,0,0,0,0,⟨#[]⟩⟩
def R.Ok (r:R):Prop:=name (tl r.nm)=true∧(1≤r.fr∧r.fr≤r.tt∧r.tt≤9999)∧(1≤r.mo∧r.mo≤12)∧Dy.Ok r.k r.n r.d∧Mo.Ok r.s r.c∧IsTime r.sv∧Ab.letter r.lt=true
end Ru
theorem ruleCheck_0 (nm:ByteArray)(fr tt mo k n d s c sv:Int)(lt:ByteArray)(w:World)(hs1:nm.size≤1000000)(hN:Ru.name (tl nm)=false):
  Calls Tryz.prog 88 #[.agg #[.string nm,.int .i64 fr,.int .i64 tt,.int .i64 mo,.int .u8 k,.int .i64 n,.int .i64 d,.int .i64 s,.int .u8 c,.int .i64 sv,.string lt]] w fun e w'=>e=.returned (.int .i64 2)∧Below w.heap.size w w':=by
 have HB:=ak (Below.refl w.heap.size w);have H0:=ak fun W=>calls_bool (name_any nm W hs1) hN
 clear hN hs1;go_enter Tryz.func88,Tryz.ntmps88
 go_wp2_with fail
 refine(H0.out _).mono ?_;rintro e w1 ⟨rfl,hb⟩;have hbz:=below_then (HB.out.alloc (by have:=HB.out.size;first|exact this|(simp;omega)) _) hb;have Rr:=ak ((At.new w #[.string nm,.int .i64 fr,.int .i64 tt,.int .i64 mo,.int .u8 k,.int .i64 n,.int .i64 d,.int .i64 s,.int .u8 c,.int .i64 sv,.string lt] 112).call hb);replace HB:=ak hbz;clear hb hbz;obtain⟨zRr,Rrc0,Rrc1,Rrc2,Rrc3,Rrc4,Rrc5,Rrc6,Rrc7,Rrc8,Rrc9,Rrc10⟩:=Rr.out.c11;go_wp2;go_ret
 exact⟨rfl,HB.out⟩
theorem ruleCheck_1 (nm:ByteArray)(fr tt mo k n d s c sv:Int)(lt:ByteArray)(w:World)(hs1:nm.size≤1000000)(hN:Ru.name (tl nm)=true)(h4:(decide (1≤fr) && decide (fr≤tt) && decide (tt≤9999))=false):
  Calls Tryz.prog 88 #[.agg #[.string nm,.int .i64 fr,.int .i64 tt,.int .i64 mo,.int .u8 k,.int .i64 n,.int .i64 d,.int .i64 s,.int .u8 c,.int .i64 sv,.string lt]] w fun e w'=>e=.returned (.int .i64 2)∧Below w.heap.size w w':=by
 have HB:=ak (Below.refl w.heap.size w);have H0:=ak fun W=>calls_bool (name_any nm W hs1) hN
 have H1:=ak fun W=>calls_bool (rising4_any 1 fr tt 9999 W) h4
 clear hN h4 hs1;go_enter Tryz.func88,Tryz.ntmps88
 go_wp2_with fail
 refine(H0.out _).mono ?_;rintro e w1 ⟨rfl,hb⟩;have hbz:=below_then (HB.out.alloc (by have:=HB.out.size;first|exact this|(simp;omega)) _) hb;have Rr:=ak ((At.new w #[.string nm,.int .i64 fr,.int .i64 tt,.int .i64 mo,.int .u8 k,.int .i64 n,.int .i64 d,.int .i64 s,.int .u8 c,.int .i64 sv,.string lt] 112).call hb);replace HB:=ak hbz;clear hb hbz;obtain⟨zRr,Rrc0,Rrc1,Rrc2,Rrc3,Rrc4,Rrc5,Rrc6,Rrc7,Rrc8,Rrc9,Rrc10⟩:=Rr.out.c11;go_wp2_with fail
 refine(H1.out _).mono ?_;rintro e w2 ⟨rfl,hb⟩;have hbz:=below_then HB.out hb;have Rr':=Rr.out.call hb;clear Rr;have Rr:=ak Rr';clear Rr';replace HB:=ak hbz;clear hb hbz;clear zRr Rrc0 Rrc1 Rrc2 Rrc3 Rrc4 Rrc5 Rrc6 Rrc7 Rrc8 Rrc9 Rrc10;obtain⟨zRr,Rrc0,Rrc1,Rrc2,Rrc3,Rrc4,Rrc5,Rrc6,Rrc7,Rrc8,Rrc9,Rrc10⟩:=Rr.out.c11;go_wp2;go_ret
 exact⟨rfl,HB.out⟩
theorem ruleCheck_2 (nm:ByteArray)(fr tt mo k n d s c sv:Int)(lt:ByteArray)(w:World)(hs1:nm.size≤1000000)(hN:Ru.name (tl nm)=true)(h4:(decide (1≤fr) && decide (fr≤tt) && decide (tt≤9999))=true)(h3:(decide (1≤mo) && decide (mo≤12))=false):
  Calls Tryz.prog 88 #[.agg #[.string nm,.int .i64 fr,.int .i64 tt,.int .i64 mo,.int .u8 k,.int .i64 n,.int .i64 d,.int .i64 s,.int .u8 c,.int .i64 sv,.string lt]] w fun e w'=>e=.returned (.int .i64 2)∧Below w.heap.size w w':=by
 have HB:=ak (Below.refl w.heap.size w);have H0:=ak fun W=>calls_bool (name_any nm W hs1) hN
 have H1:=ak fun W=>calls_bool (rising4_any 1 fr tt 9999 W) h4
 have H2:=ak fun W=>calls_bool (rising3_any 1 mo 12 W) h3
 clear hN h4 h3 hs1;go_enter Tryz.func88,Tryz.ntmps88
 go_wp2_with fail
 refine(H0.out _).mono ?_;rintro e w1 ⟨rfl,hb⟩;have hbz:=below_then (HB.out.alloc (by have:=HB.out.size;first|exact this|(simp;omega)) _) hb;have Rr:=ak ((At.new w #[.string nm,.int .i64 fr,.int .i64 tt,.int .i64 mo,.int .u8 k,.int .i64 n,.int .i64 d,.int .i64 s,.int .u8 c,.int .i64 sv,.string lt] 112).call hb);replace HB:=ak hbz;clear hb hbz;obtain⟨zRr,Rrc0,Rrc1,Rrc2,Rrc3,Rrc4,Rrc5,Rrc6,Rrc7,Rrc8,Rrc9,Rrc10⟩:=Rr.out.c11;go_wp2_with fail
 refine(H1.out _).mono ?_;rintro e w2 ⟨rfl,hb⟩;have hbz:=below_then HB.out hb;have Rr':=Rr.out.call hb;clear Rr;have Rr:=ak Rr';clear Rr';replace HB:=ak hbz;clear hb hbz;clear zRr Rrc0 Rrc1 Rrc2 Rrc3 Rrc4 Rrc5 Rrc6 Rrc7 Rrc8 Rrc9 Rrc10;obtain⟨zRr,Rrc0,Rrc1,Rrc2,Rrc3,Rrc4,Rrc5,Rrc6,Rrc7,Rrc8,Rrc9,Rrc10⟩:=Rr.out.c11;go_wp2_with fail
 refine(H2.out _).mono ?_;rintro e w3 ⟨rfl,hb⟩;have hbz:=below_then HB.out hb;have Rr':=Rr.out.call hb;clear Rr;have Rr:=ak Rr';clear Rr';replace HB:=ak hbz;clear hb hbz;clear zRr Rrc0 Rrc1 Rrc2 Rrc3 Rrc4 Rrc5 Rrc6 Rrc7 Rrc8 Rrc9 Rrc10;obtain⟨zRr,Rrc0,Rrc1,Rrc2,Rrc3,Rrc4,Rrc5,Rrc6,Rrc7,Rrc8,Rrc9,Rrc10⟩:=Rr.out.c11;go_wp2;go_ret
 exact⟨rfl,HB.out⟩
theorem ruleCheck_3 (nm:ByteArray)(fr tt mo k n d s c sv:Int)(lt:ByteArray)(w:World)(hs1:nm.size≤1000000)(hN:Ru.name (tl nm)=true)(h4:(decide (1≤fr) && decide (fr≤tt) && decide (tt≤9999))=true)(h3:(decide (1≤mo) && decide (mo≤12))=true)(hD:¬Dy.Ok k n d):
  Calls Tryz.prog 88 #[.agg #[.string nm,.int .i64 fr,.int .i64 tt,.int .i64 mo,.int .u8 k,.int .i64 n,.int .i64 d,.int .i64 s,.int .u8 c,.int .i64 sv,.string lt]] w fun e w'=>e=.returned (.int .i64 2)∧Below w.heap.size w w':=by
 have HB:=ak (Below.refl w.heap.size w);have H0:=ak fun W=>calls_bool (name_any nm W hs1) hN
 have H1:=ak fun W=>calls_bool (rising4_any 1 fr tt 9999 W) h4
 have H2:=ak fun W=>calls_bool (rising3_any 1 mo 12 W) h3
 have H3:=ak fun W=>dayCheck_bad k n d W hD
 clear hN h4 h3 hD hs1;go_enter Tryz.func88,Tryz.ntmps88
 go_wp2_with fail
 refine(H0.out _).mono ?_;rintro e w1 ⟨rfl,hb⟩;have hbz:=below_then (HB.out.alloc (by have:=HB.out.size;first|exact this|(simp;omega)) _) hb;have Rr:=ak ((At.new w #[.string nm,.int .i64 fr,.int .i64 tt,.int .i64 mo,.int .u8 k,.int .i64 n,.int .i64 d,.int .i64 s,.int .u8 c,.int .i64 sv,.string lt] 112).call hb);replace HB:=ak hbz;clear hb hbz;obtain⟨zRr,Rrc0,Rrc1,Rrc2,Rrc3,Rrc4,Rrc5,Rrc6,Rrc7,Rrc8,Rrc9,Rrc10⟩:=Rr.out.c11;go_wp2_with fail
 refine(H1.out _).mono ?_;rintro e w2 ⟨rfl,hb⟩;have hbz:=below_then HB.out hb;have Rr':=Rr.out.call hb;clear Rr;have Rr:=ak Rr';clear Rr';replace HB:=ak hbz;clear hb hbz;clear zRr Rrc0 Rrc1 Rrc2 Rrc3 Rrc4 Rrc5 Rrc6 Rrc7 Rrc8 Rrc9 Rrc10;obtain⟨zRr,Rrc0,Rrc1,Rrc2,Rrc3,Rrc4,Rrc5,Rrc6,Rrc7,Rrc8,Rrc9,Rrc10⟩:=Rr.out.c11;go_wp2_with fail
 refine(H2.out _).mono ?_;rintro e w3 ⟨rfl,hb⟩;have hbz:=below_then HB.out hb;have Rr':=Rr.out.call hb;clear Rr;have Rr:=ak Rr';clear Rr';replace HB:=ak hbz;clear hb hbz;clear zRr Rrc0 Rrc1 Rrc2 Rrc3 Rrc4 Rrc5 Rrc6 Rrc7 Rrc8 Rrc9 Rrc10;obtain⟨zRr,Rrc0,Rrc1,Rrc2,Rrc3,Rrc4,Rrc5,Rrc6,Rrc7,Rrc8,Rrc9,Rrc10⟩:=Rr.out.c11;go_wp2_with fail
 refine(H3.out _).mono ?_;rintro e w4 ⟨rfl,hb⟩;have hbz:=below_then HB.out hb;have Rr':=Rr.out.call hb;clear Rr;have Rr:=ak Rr';clear Rr';replace HB:=ak hbz;clear hb hbz;clear zRr Rrc0 Rrc1 Rrc2 Rrc3 Rrc4 Rrc5 Rrc6 Rrc7 Rrc8 Rrc9 Rrc10;obtain⟨zRr,Rrc0,Rrc1,Rrc2,Rrc3,Rrc4,Rrc5,Rrc6,Rrc7,Rrc8,Rrc9,Rrc10⟩:=Rr.out.c11;go_wp2;go_ret
 exact⟨rfl,HB.out⟩
theorem ruleCheck_4 (nm:ByteArray)(fr tt mo k n d s c sv:Int)(lt:ByteArray)(w:World)(hs1:nm.size≤1000000)(hN:Ru.name (tl nm)=true)(h4:(decide (1≤fr) && decide (fr≤tt) && decide (tt≤9999))=true)(h3:(decide (1≤mo) && decide (mo≤12))=true)(hD:Dy.Ok k n d)(hM:¬Mo.Ok s c):
  Calls Tryz.prog 88 #[.agg #[.string nm,.int .i64 fr,.int .i64 tt,.int .i64 mo,.int .u8 k,.int .i64 n,.int .i64 d,.int .i64 s,.int .u8 c,.int .i64 sv,.string lt]] w fun e w'=>e=.returned (.int .i64 2)∧Below w.heap.size w w':=by
 have HB:=ak (Below.refl w.heap.size w);have H0:=ak fun W=>calls_bool (name_any nm W hs1) hN
 have H1:=ak fun W=>calls_bool (rising4_any 1 fr tt 9999 W) h4
 have H2:=ak fun W=>calls_bool (rising3_any 1 mo 12 W) h3
 have H3:=ak fun W=>dayCheck_ok k n d W hD
 have H4:=ak fun W=>momCheck_bad s c W hM
 clear hN h4 h3 hD hM hs1;go_enter Tryz.func88,Tryz.ntmps88
 go_wp2_with fail
 refine(H0.out _).mono ?_;rintro e w1 ⟨rfl,hb⟩;have hbz:=below_then (HB.out.alloc (by have:=HB.out.size;first|exact this|(simp;omega)) _) hb;have Rr:=ak ((At.new w #[.string nm,.int .i64 fr,.int .i64 tt,.int .i64 mo,.int .u8 k,.int .i64 n,.int .i64 d,.int .i64 s,.int .u8 c,.int .i64 sv,.string lt] 112).call hb);replace HB:=ak hbz;clear hb hbz;obtain⟨zRr,Rrc0,Rrc1,Rrc2,Rrc3,Rrc4,Rrc5,Rrc6,Rrc7,Rrc8,Rrc9,Rrc10⟩:=Rr.out.c11;go_wp2_with fail
 refine(H1.out _).mono ?_;rintro e w2 ⟨rfl,hb⟩;have hbz:=below_then HB.out hb;have Rr':=Rr.out.call hb;clear Rr;have Rr:=ak Rr';clear Rr';replace HB:=ak hbz;clear hb hbz;clear zRr Rrc0 Rrc1 Rrc2 Rrc3 Rrc4 Rrc5 Rrc6 Rrc7 Rrc8 Rrc9 Rrc10;obtain⟨zRr,Rrc0,Rrc1,Rrc2,Rrc3,Rrc4,Rrc5,Rrc6,Rrc7,Rrc8,Rrc9,Rrc10⟩:=Rr.out.c11;go_wp2_with fail
 refine(H2.out _).mono ?_;rintro e w3 ⟨rfl,hb⟩;have hbz:=below_then HB.out hb;have Rr':=Rr.out.call hb;clear Rr;have Rr:=ak Rr';clear Rr';replace HB:=ak hbz;clear hb hbz;clear zRr Rrc0 Rrc1 Rrc2 Rrc3 Rrc4 Rrc5 Rrc6 Rrc7 Rrc8 Rrc9 Rrc10;obtain⟨zRr,Rrc0,Rrc1,Rrc2,Rrc3,Rrc4,Rrc5,Rrc6,Rrc7,Rrc8,Rrc9,Rrc10⟩:=Rr.out.c11;go_wp2_with fail
 refine(H3.out _).mono ?_;rintro e w4 ⟨rfl,hb⟩;have hbz:=below_then HB.out hb;have Rr':=Rr.out.call hb;clear Rr;have Rr:=ak Rr';clear Rr';replace HB:=ak hbz;clear hb hbz;clear zRr Rrc0 Rrc1 Rrc2 Rrc3 Rrc4 Rrc5 Rrc6 Rrc7 Rrc8 Rrc9 Rrc10;obtain⟨zRr,Rrc0,Rrc1,Rrc2,Rrc3,Rrc4,Rrc5,Rrc6,Rrc7,Rrc8,Rrc9,Rrc10⟩:=Rr.out.c11;go_wp2_with fail
 refine(H4.out _).mono ?_;rintro e w5 ⟨rfl,hb⟩;have hbz:=below_then HB.out hb;have Rr':=Rr.out.call hb;clear Rr;have Rr:=ak Rr';clear Rr';replace HB:=ak hbz;clear hb hbz;clear zRr Rrc0 Rrc1 Rrc2 Rrc3 Rrc4 Rrc5 Rrc6 Rrc7 Rrc8 Rrc9 Rrc10;obtain⟨zRr,Rrc0,Rrc1,Rrc2,Rrc3,Rrc4,Rrc5,Rrc6,Rrc7,Rrc8,Rrc9,Rrc10⟩:=Rr.out.c11;go_wp2;go_ret
 exact⟨rfl,HB.out⟩
theorem ruleCheck_5 (nm:ByteArray)(fr tt mo k n d s c sv:Int)(lt:ByteArray)(w:World)(hs1:nm.size≤1000000)(hN:Ru.name (tl nm)=true)(h4:(decide (1≤fr) && decide (fr≤tt) && decide (tt≤9999))=true)(h3:(decide (1≤mo) && decide (mo≤12))=true)(hD:Dy.Ok k n d)(hM:Mo.Ok s c)(hV:¬IsTime sv):
  Calls Tryz.prog 88 #[.agg #[.string nm,.int .i64 fr,.int .i64 tt,.int .i64 mo,.int .u8 k,.int .i64 n,.int .i64 d,.int .i64 s,.int .u8 c,.int .i64 sv,.string lt]] w fun e w'=>e=.returned (.int .i64 2)∧Below w.heap.size w w':=by
 have HB:=ak (Below.refl w.heap.size w);have H0:=ak fun W=>calls_bool (name_any nm W hs1) hN
 have H1:=ak fun W=>calls_bool (rising4_any 1 fr tt 9999 W) h4
 have H2:=ak fun W=>calls_bool (rising3_any 1 mo 12 W) h3
 have H3:=ak fun W=>dayCheck_ok k n d W hD
 have H4:=ak fun W=>momCheck_ok s c W hM
 have hV':sv < -604800∨604800<sv:=by unfold IsTime at hV;omega
 clear hV;clear hN h4 h3 hD hM hs1;rcases hV' with v1|v1
 ·go_enter Tryz.func88,Tryz.ntmps88
  go_wp2_with fail
  refine(H0.out _).mono ?_;rintro e w1 ⟨rfl,hb⟩;have hbz:=below_then (HB.out.alloc (by have:=HB.out.size;first|exact this|(simp;omega)) _) hb;have Rr:=ak ((At.new w #[.string nm,.int .i64 fr,.int .i64 tt,.int .i64 mo,.int .u8 k,.int .i64 n,.int .i64 d,.int .i64 s,.int .u8 c,.int .i64 sv,.string lt] 112).call hb);replace HB:=ak hbz;clear hb hbz;obtain⟨zRr,Rrc0,Rrc1,Rrc2,Rrc3,Rrc4,Rrc5,Rrc6,Rrc7,Rrc8,Rrc9,Rrc10⟩:=Rr.out.c11;go_wp2_with fail
  refine(H1.out _).mono ?_;rintro e w2 ⟨rfl,hb⟩;have hbz:=below_then HB.out hb;have Rr':=Rr.out.call hb;clear Rr;have Rr:=ak Rr';clear Rr';replace HB:=ak hbz;clear hb hbz;clear zRr Rrc0 Rrc1 Rrc2 Rrc3 Rrc4 Rrc5 Rrc6 Rrc7 Rrc8 Rrc9 Rrc10;obtain⟨zRr,Rrc0,Rrc1,Rrc2,Rrc3,Rrc4,Rrc5,Rrc6,Rrc7,Rrc8,Rrc9,Rrc10⟩:=Rr.out.c11;go_wp2_with fail
  refine(H2.out _).mono ?_;rintro e w3 ⟨rfl,hb⟩;have hbz:=below_then HB.out hb;have Rr':=Rr.out.call hb;clear Rr;have Rr:=ak Rr';clear Rr';replace HB:=ak hbz;clear hb hbz;clear zRr Rrc0 Rrc1 Rrc2 Rrc3 Rrc4 Rrc5 Rrc6 Rrc7 Rrc8 Rrc9 Rrc10;obtain⟨zRr,Rrc0,Rrc1,Rrc2,Rrc3,Rrc4,Rrc5,Rrc6,Rrc7,Rrc8,Rrc9,Rrc10⟩:=Rr.out.c11;go_wp2_with fail
  refine(H3.out _).mono ?_;rintro e w4 ⟨rfl,hb⟩;have hbz:=below_then HB.out hb;have Rr':=Rr.out.call hb;clear Rr;have Rr:=ak Rr';clear Rr';replace HB:=ak hbz;clear hb hbz;clear zRr Rrc0 Rrc1 Rrc2 Rrc3 Rrc4 Rrc5 Rrc6 Rrc7 Rrc8 Rrc9 Rrc10;obtain⟨zRr,Rrc0,Rrc1,Rrc2,Rrc3,Rrc4,Rrc5,Rrc6,Rrc7,Rrc8,Rrc9,Rrc10⟩:=Rr.out.c11;go_wp2_with fail
  refine(H4.out _).mono ?_;rintro e w5 ⟨rfl,hb⟩;have hbz:=below_then HB.out hb;have Rr':=Rr.out.call hb;clear Rr;have Rr:=ak Rr';clear Rr';replace HB:=ak hbz;clear hb hbz;clear zRr Rrc0 Rrc1 Rrc2 Rrc3 Rrc4 Rrc5 Rrc6 Rrc7 Rrc8 Rrc9 Rrc10;obtain⟨zRr,Rrc0,Rrc1,Rrc2,Rrc3,Rrc4,Rrc5,Rrc6,Rrc7,Rrc8,Rrc9,Rrc10⟩:=Rr.out.c11;go_wp2;go_ret
  exact⟨rfl,HB.out⟩
 ·have v2:¬sv < -604800:=by omega
  go_enter Tryz.func88,Tryz.ntmps88
  go_wp2_with fail
  refine(H0.out _).mono ?_;rintro e w1 ⟨rfl,hb⟩;have hbz:=below_then (HB.out.alloc (by have:=HB.out.size;first|exact this|(simp;omega)) _) hb;have Rr:=ak ((At.new w #[.string nm,.int .i64 fr,.int .i64 tt,.int .i64 mo,.int .u8 k,.int .i64 n,.int .i64 d,.int .i64 s,.int .u8 c,.int .i64 sv,.string lt] 112).call hb);replace HB:=ak hbz;clear hb hbz;obtain⟨zRr,Rrc0,Rrc1,Rrc2,Rrc3,Rrc4,Rrc5,Rrc6,Rrc7,Rrc8,Rrc9,Rrc10⟩:=Rr.out.c11;go_wp2_with fail
  refine(H1.out _).mono ?_;rintro e w2 ⟨rfl,hb⟩;have hbz:=below_then HB.out hb;have Rr':=Rr.out.call hb;clear Rr;have Rr:=ak Rr';clear Rr';replace HB:=ak hbz;clear hb hbz;clear zRr Rrc0 Rrc1 Rrc2 Rrc3 Rrc4 Rrc5 Rrc6 Rrc7 Rrc8 Rrc9 Rrc10;obtain⟨zRr,Rrc0,Rrc1,Rrc2,Rrc3,Rrc4,Rrc5,Rrc6,Rrc7,Rrc8,Rrc9,Rrc10⟩:=Rr.out.c11;go_wp2_with fail
  refine(H2.out _).mono ?_;rintro e w3 ⟨rfl,hb⟩;have hbz:=below_then HB.out hb;have Rr':=Rr.out.call hb;clear Rr;have Rr:=ak Rr';clear Rr';replace HB:=ak hbz;clear hb hbz;clear zRr Rrc0 Rrc1 Rrc2 Rrc3 Rrc4 Rrc5 Rrc6 Rrc7 Rrc8 Rrc9 Rrc10;obtain⟨zRr,Rrc0,Rrc1,Rrc2,Rrc3,Rrc4,Rrc5,Rrc6,Rrc7,Rrc8,Rrc9,Rrc10⟩:=Rr.out.c11;go_wp2_with fail
  refine(H3.out _).mono ?_;rintro e w4 ⟨rfl,hb⟩;have hbz:=below_then HB.out hb;have Rr':=Rr.out.call hb;clear Rr;have Rr:=ak Rr';clear Rr';replace HB:=ak hbz;clear hb hbz;clear zRr Rrc0 Rrc1 Rrc2 Rrc3 Rrc4 Rrc5 Rrc6 Rrc7 Rrc8 Rrc9 Rrc10;obtain⟨zRr,Rrc0,Rrc1,Rrc2,Rrc3,Rrc4,Rrc5,Rrc6,Rrc7,Rrc8,Rrc9,Rrc10⟩:=Rr.out.c11;go_wp2_with fail
  refine(H4.out _).mono ?_;rintro e w5 ⟨rfl,hb⟩;have hbz:=below_then HB.out hb;have Rr':=Rr.out.call hb;clear Rr;have Rr:=ak Rr';clear Rr';replace HB:=ak hbz;clear hb hbz;clear zRr Rrc0 Rrc1 Rrc2 Rrc3 Rrc4 Rrc5 Rrc6 Rrc7 Rrc8 Rrc9 Rrc10;obtain⟨zRr,Rrc0,Rrc1,Rrc2,Rrc3,Rrc4,Rrc5,Rrc6,Rrc7,Rrc8,Rrc9,Rrc10⟩:=Rr.out.c11;go_wp2;go_ret
  exact⟨rfl,HB.out⟩
theorem ruleCheck_6 (nm:ByteArray)(fr tt mo k n d s c sv:Int)(lt:ByteArray)(w:World)(hs1:nm.size≤1000000)(hs2:lt.size≤1000000)(hN:Ru.name (tl nm)=true)(h4:(decide (1≤fr) && decide (fr≤tt) && decide (tt≤9999))=true)(h3:(decide (1≤mo) && decide (mo≤12))=true)(hD:Dy.Ok k n d)(hM:Mo.Ok s c)(hV:IsTime sv)(hL:Ab.letter lt=false):
  Calls Tryz.prog 88 #[.agg #[.string nm,.int .i64 fr,.int .i64 tt,.int .i64 mo,.int .u8 k,.int .i64 n,.int .i64 d,.int .i64 s,.int .u8 c,.int .i64 sv,.string lt]] w fun e w'=>e=.returned (.int .i64 2)∧Below w.heap.size w w':=by
 have HB:=ak (Below.refl w.heap.size w);have H0:=ak fun W=>calls_bool (name_any nm W hs1) hN
 have H1:=ak fun W=>calls_bool (rising4_any 1 fr tt 9999 W) h4
 have H2:=ak fun W=>calls_bool (rising3_any 1 mo 12 W) h3
 have H3:=ak fun W=>dayCheck_ok k n d W hD
 have H4:=ak fun W=>momCheck_ok s c W hM
 obtain⟨v1,v2⟩:=hV;have H6:=ak fun W=>checkLetter_no lt W hs2 hL
 clear hN h4 h3 hD hM hL hs1 hs2;go_enter Tryz.func88,Tryz.ntmps88
 go_wp2_with fail
 refine(H0.out _).mono ?_;rintro e w1 ⟨rfl,hb⟩;have hbz:=below_then (HB.out.alloc (by have:=HB.out.size;first|exact this|(simp;omega)) _) hb;have Rr:=ak ((At.new w #[.string nm,.int .i64 fr,.int .i64 tt,.int .i64 mo,.int .u8 k,.int .i64 n,.int .i64 d,.int .i64 s,.int .u8 c,.int .i64 sv,.string lt] 112).call hb);replace HB:=ak hbz;clear hb hbz;obtain⟨zRr,Rrc0,Rrc1,Rrc2,Rrc3,Rrc4,Rrc5,Rrc6,Rrc7,Rrc8,Rrc9,Rrc10⟩:=Rr.out.c11;go_wp2_with fail
 refine(H1.out _).mono ?_;rintro e w2 ⟨rfl,hb⟩;have hbz:=below_then HB.out hb;have Rr':=Rr.out.call hb;clear Rr;have Rr:=ak Rr';clear Rr';replace HB:=ak hbz;clear hb hbz;clear zRr Rrc0 Rrc1 Rrc2 Rrc3 Rrc4 Rrc5 Rrc6 Rrc7 Rrc8 Rrc9 Rrc10;obtain⟨zRr,Rrc0,Rrc1,Rrc2,Rrc3,Rrc4,Rrc5,Rrc6,Rrc7,Rrc8,Rrc9,Rrc10⟩:=Rr.out.c11;go_wp2_with fail
 refine(H2.out _).mono ?_;rintro e w3 ⟨rfl,hb⟩;have hbz:=below_then HB.out hb;have Rr':=Rr.out.call hb;clear Rr;have Rr:=ak Rr';clear Rr';replace HB:=ak hbz;clear hb hbz;clear zRr Rrc0 Rrc1 Rrc2 Rrc3 Rrc4 Rrc5 Rrc6 Rrc7 Rrc8 Rrc9 Rrc10;obtain⟨zRr,Rrc0,Rrc1,Rrc2,Rrc3,Rrc4,Rrc5,Rrc6,Rrc7,Rrc8,Rrc9,Rrc10⟩:=Rr.out.c11;go_wp2_with fail
 refine(H3.out _).mono ?_;rintro e w4 ⟨rfl,hb⟩;have hbz:=below_then HB.out hb;have Rr':=Rr.out.call hb;clear Rr;have Rr:=ak Rr';clear Rr';replace HB:=ak hbz;clear hb hbz;clear zRr Rrc0 Rrc1 Rrc2 Rrc3 Rrc4 Rrc5 Rrc6 Rrc7 Rrc8 Rrc9 Rrc10;obtain⟨zRr,Rrc0,Rrc1,Rrc2,Rrc3,Rrc4,Rrc5,Rrc6,Rrc7,Rrc8,Rrc9,Rrc10⟩:=Rr.out.c11;go_wp2_with fail
 refine(H4.out _).mono ?_;rintro e w5 ⟨rfl,hb⟩;have hbz:=below_then HB.out hb;have Rr':=Rr.out.call hb;clear Rr;have Rr:=ak Rr';clear Rr';replace HB:=ak hbz;clear hb hbz;clear zRr Rrc0 Rrc1 Rrc2 Rrc3 Rrc4 Rrc5 Rrc6 Rrc7 Rrc8 Rrc9 Rrc10;obtain⟨zRr,Rrc0,Rrc1,Rrc2,Rrc3,Rrc4,Rrc5,Rrc6,Rrc7,Rrc8,Rrc9,Rrc10⟩:=Rr.out.c11;go_wp2_with fail
 refine(H6.out _).mono ?_;rintro e w6 ⟨rfl,hb⟩;have hbz:=below_then HB.out hb;have Rr':=Rr.out.call hb;clear Rr;have Rr:=ak Rr';clear Rr';replace HB:=ak hbz;clear hb hbz;clear zRr Rrc0 Rrc1 Rrc2 Rrc3 Rrc4 Rrc5 Rrc6 Rrc7 Rrc8 Rrc9 Rrc10;obtain⟨zRr,Rrc0,Rrc1,Rrc2,Rrc3,Rrc4,Rrc5,Rrc6,Rrc7,Rrc8,Rrc9,Rrc10⟩:=Rr.out.c11;go_wp2;go_ret
 exact⟨rfl,HB.out⟩
theorem ruleCheck_7 (nm:ByteArray)(fr tt mo k n d s c sv:Int)(lt:ByteArray)(w:World)(hs1:nm.size≤1000000)(hs2:lt.size≤1000000)(hN:Ru.name (tl nm)=true)(h4:(decide (1≤fr) && decide (fr≤tt) && decide (tt≤9999))=true)(h3:(decide (1≤mo) && decide (mo≤12))=true)(hD:Dy.Ok k n d)(hM:Mo.Ok s c)(hV:IsTime sv)(hL:Ab.letter lt=true):
  Calls Tryz.prog 88 #[.agg #[.string nm,.int .i64 fr,.int .i64 tt,.int .i64 mo,.int .u8 k,.int .i64 n,.int .i64 d,.int .i64 s,.int .u8 c,.int .i64 sv,.string lt]] w fun e w'=>e=.returned (.int .i64 0)∧Below w.heap.size w w':=by
 have HB:=ak (Below.refl w.heap.size w);have H0:=ak fun W=>calls_bool (name_any nm W hs1) hN
 have H1:=ak fun W=>calls_bool (rising4_any 1 fr tt 9999 W) h4
 have H2:=ak fun W=>calls_bool (rising3_any 1 mo 12 W) h3
 have H3:=ak fun W=>dayCheck_ok k n d W hD
 have H4:=ak fun W=>momCheck_ok s c W hM
 obtain⟨v1,v2⟩:=hV;have H6:=ak fun W=>checkLetter_yes lt W hs2 hL
 clear hN h4 h3 hD hM hL hs1 hs2;go_enter Tryz.func88,Tryz.ntmps88
 go_wp2_with fail
 refine(H0.out _).mono ?_;rintro e w1 ⟨rfl,hb⟩;have hbz:=below_then (HB.out.alloc (by have:=HB.out.size;first|exact this|(simp;omega)) _) hb;have Rr:=ak ((At.new w #[.string nm,.int .i64 fr,.int .i64 tt,.int .i64 mo,.int .u8 k,.int .i64 n,.int .i64 d,.int .i64 s,.int .u8 c,.int .i64 sv,.string lt] 112).call hb);replace HB:=ak hbz;clear hb hbz;obtain⟨zRr,Rrc0,Rrc1,Rrc2,Rrc3,Rrc4,Rrc5,Rrc6,Rrc7,Rrc8,Rrc9,Rrc10⟩:=Rr.out.c11;go_wp2_with fail
 refine(H1.out _).mono ?_;rintro e w2 ⟨rfl,hb⟩;have hbz:=below_then HB.out hb;have Rr':=Rr.out.call hb;clear Rr;have Rr:=ak Rr';clear Rr';replace HB:=ak hbz;clear hb hbz;clear zRr Rrc0 Rrc1 Rrc2 Rrc3 Rrc4 Rrc5 Rrc6 Rrc7 Rrc8 Rrc9 Rrc10;obtain⟨zRr,Rrc0,Rrc1,Rrc2,Rrc3,Rrc4,Rrc5,Rrc6,Rrc7,Rrc8,Rrc9,Rrc10⟩:=Rr.out.c11;go_wp2_with fail
 refine(H2.out _).mono ?_;rintro e w3 ⟨rfl,hb⟩;have hbz:=below_then HB.out hb;have Rr':=Rr.out.call hb;clear Rr;have Rr:=ak Rr';clear Rr';replace HB:=ak hbz;clear hb hbz;clear zRr Rrc0 Rrc1 Rrc2 Rrc3 Rrc4 Rrc5 Rrc6 Rrc7 Rrc8 Rrc9 Rrc10;obtain⟨zRr,Rrc0,Rrc1,Rrc2,Rrc3,Rrc4,Rrc5,Rrc6,Rrc7,Rrc8,Rrc9,Rrc10⟩:=Rr.out.c11;go_wp2_with fail
 refine(H3.out _).mono ?_;rintro e w4 ⟨rfl,hb⟩;have hbz:=below_then HB.out hb;have Rr':=Rr.out.call hb;clear Rr;have Rr:=ak Rr';clear Rr';replace HB:=ak hbz;clear hb hbz;clear zRr Rrc0 Rrc1 Rrc2 Rrc3 Rrc4 Rrc5 Rrc6 Rrc7 Rrc8 Rrc9 Rrc10;obtain⟨zRr,Rrc0,Rrc1,Rrc2,Rrc3,Rrc4,Rrc5,Rrc6,Rrc7,Rrc8,Rrc9,Rrc10⟩:=Rr.out.c11;go_wp2_with fail
 refine(H4.out _).mono ?_;rintro e w5 ⟨rfl,hb⟩;have hbz:=below_then HB.out hb;have Rr':=Rr.out.call hb;clear Rr;have Rr:=ak Rr';clear Rr';replace HB:=ak hbz;clear hb hbz;clear zRr Rrc0 Rrc1 Rrc2 Rrc3 Rrc4 Rrc5 Rrc6 Rrc7 Rrc8 Rrc9 Rrc10;obtain⟨zRr,Rrc0,Rrc1,Rrc2,Rrc3,Rrc4,Rrc5,Rrc6,Rrc7,Rrc8,Rrc9,Rrc10⟩:=Rr.out.c11;go_wp2_with fail
 refine(H6.out _).mono ?_;rintro e w6 ⟨rfl,hb⟩;have hbz:=below_then HB.out hb;have Rr':=Rr.out.call hb;clear Rr;have Rr:=ak Rr';clear Rr';replace HB:=ak hbz;clear hb hbz;clear zRr Rrc0 Rrc1 Rrc2 Rrc3 Rrc4 Rrc5 Rrc6 Rrc7 Rrc8 Rrc9 Rrc10;obtain⟨zRr,Rrc0,Rrc1,Rrc2,Rrc3,Rrc4,Rrc5,Rrc6,Rrc7,Rrc8,Rrc9,Rrc10⟩:=Rr.out.c11;go_wp2;go_ret
 exact⟨rfl,HB.out⟩
theorem ruleCheck_ok (r:Ru.R)(w:World)(h:r.Ok)(hs1:r.nm.size≤1000000)(hs2:r.lt.size≤1000000):
  Calls Tryz.prog 88 #[r.v] w fun e w'=>e=.returned (.int .i64 0)∧Below w.heap.size w w':=by
 obtain⟨h1,h2,h3,h4,h5,h6,h7⟩:=h;exact ruleCheck_7 r.nm r.fr r.tt r.mo r.k r.n r.d r.s r.c r.sv r.lt w hs1 hs2 h1 (by simp[h2.1,h2.2.1,h2.2.2]) (by simp[h3.1,h3.2]) h4 h5 h6 h7
end Go.Proofs.YtjobhjemnmleaaaGreatDoor
