/- Words for memory: a slice that reads as a list; draws alone; small lemmas. -/
import Derived.Test.YtjobhjemnmleaaaGreatDoorChecked
import Derived.WalkKit
import Derived.Below
import Derived.Laws.OwnMore
import Derived.Deep.AppendLies
import Derived.Deep.Draws
import Derived.Lib.Hide
import Derived.Maps.AppendAt
import Derived.RegionTactic
import Derived.OwnWalk
import Derived.Outline
import Derived.IntWalk
import Derived.WalkSpells
import Derived.WalkLawsBesides
import Derived.Deep.DeepFit
import Derived.Deep.DeepCutAuto
namespace Go.Proofs.YtjobhjemnmleaaaGreatDoor
theorem gdq {a : Array Value} {i : Nat} {d x : Value} (h : a.getD i d = x) : a[i]?.getD d = x := by rw [← Array.getD_eq_getD_getElem?]; exact h
theorem bqf {α : Type} [BEq α] [LawfulBEq α] {a b : α} (h : a ≠ b) : (a == b) = false := by rw [beq_eq_false_iff_ne]; exact h
theorem sji {α : Type} {a b : α} (h : some a = some b) : a = b := Option.some.inj h
theorem ak {p : Prop} (h : p) : Go.RowKit.Hid p := Go.Lib.hid h
theorem aj {α : Sort _} (a : α) : ∃ x, a = x := ⟨a, rfl⟩
theorem al {w : World} {o : Obj} : Go.RowKit.Below w.heap.size w (w.alloc o) := (Go.RowKit.Below.refl _ _).alloc (Nat.le_refl _) o
theorem am (k : Nat) : (0 : Int) ≤ (k : Int) := Int.natCast_nonneg k
open Go.RowKit
theorem ret_int {k:IntKind}{a b:Int}(h:a=b):Ending.returned (.int k a)=.returned (.int k b):=by rw[h]
theorem ret_bool {a b:Bool}(h:a=b):Ending.returned (.bool a)=.returned (.bool b):=by rw[h]
theorem u8_bd (c:UInt8):0≤(c.toNat:Int)∧(c.toNat:Int)≤255:=by have:=c.toNat_lt;omega
def tl (s:ByteArray):List UInt8:=s.data.toList
theorem tl_length (s:ByteArray):(tl s).length=s.size:=by simp[tl]
def Drew (w w':World):Prop:=∃n,w'=w.drewN n
theorem Drew.refl (w:World):Drew w w:=⟨0,rfl⟩
theorem Drew.drewN {w w':World}(h:Drew w w')(n:Nat):Drew w (w'.drewN n):=by
 obtain⟨m,rfl⟩:=h;exact⟨m+n,World.drewN_drewN ..⟩
theorem Drew.trans {a b c:World}(h:Drew a b)(k:Drew b c):Drew a c:=by
 obtain⟨n,rfl⟩:=k;exact h.drewN n
theorem below_drewN {B:Nat}{a w:World}(h:Below B a w)(n:Nat):Below B a (w.drewN n):=⟨h.os,h.tape,h.output,h.size,h.block⟩
theorem Drew.below {w w':World}(h:Drew w w')(B:Nat):Below B w w':=by
 obtain⟨n,rfl⟩:=h;exact below_drewN (Below.refl B w) n
theorem Drew.cell {w w':World}(h:Drew w w')(p:Addr):w'.cell? p=w.cell? p:=by
 obtain⟨n,rfl⟩:=h;rfl
theorem block_of_add (a:Addr)(n:Nat):(a.add n).block=a.block:=by unfold Addr.add;split <;> rfl
theorem add_of_add (a:Addr)(i j:Nat):(a.add i).add j=a.add (i+j):=by
 unfold Addr.add
 by_cases hi:i=0 <;> by_cases hj:j=0 <;> simp[hi,hj,Nat.add_assoc]
def Reads (w:World)(B size:Nat)(A:Option Addr)(n:Nat)(xs:List Value):Prop:=
 xs.length=n*size∧(0<n→∃ad,A=some ad∧ad.block<B∧∀j u,xs[j]?=some u→w.cell? (ad.add j)=some u)
section
variable {w w':World} {B B' size n:Nat} {A:Option Addr} {xs:List Value}
theorem Reads.none_ : Reads w B size A 0 []:=⟨by simp,fun h=>absurd h (by omega)⟩
theorem Reads.at_ {k:Nat}(h:Reads w B 1 A n xs)(hk:k<n):∃ad u,A=some ad∧ad.block<B∧xs[k]?=some u∧w.cell? (ad.add k)=some u:=by
 obtain⟨ad,e,hb,hc⟩:=h.2 (by omega);have hl:k<xs.length:=by have:=h.1;omega
 exact⟨ad,xs[k],e,hb,List.getElem?_eq_getElem hl,hc k _ (List.getElem?_eq_getElem hl)⟩
theorem Reads.keep (h:Reads w B size A n xs)(hk:∀p:Addr,p.block<B→w'.cell? p=w.cell? p):Reads w' B size A n xs:=
 ⟨h.1,fun hn=>by
  obtain⟨ad,e,hb,hc⟩:=h.2 hn;exact⟨ad,e,hb,fun j u hu=>(hk _ (by rw[block_of_add];exact hb)).trans (hc j u hu)⟩⟩
theorem Reads.more (h:Reads w B size A n xs)(hB:B≤B'):Reads w B' size A n xs:=
 ⟨h.1,fun hn=>by
  obtain⟨ad,e,hb,hc⟩:=h.2 hn;exact⟨ad,e,by omega,hc⟩⟩
theorem Reads.below (h:Reads w B size A n xs)(hb:Below B w w'):Reads w' B size A n xs:=h.keep fun _ hp=>hb.cell hp
theorem Reads.of_drew (h:Reads w B size A n xs)(k:Drew w w'):Reads w' B size A n xs:=h.keep fun p _=>k.cell p
end
section
variable {w w':World} {B size n:Nat} {A:Option Addr} {xs:List Value}
theorem Reads.alloc (h:Reads w B size A n xs)(hB:B≤w.heap.size)(o:Obj):Reads (w.alloc o) B size A n xs:=h.keep fun p hp=>World.cell?_alloc_lt w o p (by omega)
theorem Reads.of_own {base:Nat}{e:TypeId}{c:Nat}(h:w.ownsRow base e size (.slice A n c) n xs):Reads w w.heap.size size A n xs:=by
 refine⟨h.1,fun hn=>?_⟩;obtain⟨g,cap,hv,_,hlt⟩:=h.form hn;have hA:A=some ⟨g,0,none⟩:=by injection hv
 subst hA;exact⟨_,rfl,hlt,h.cells (g:=g) rfl⟩
end
section
variable {P:Program} (w:World)
theorem run_append_of_nil (base:Nat)(t ty e:TypeId)(i:TypeInfo)(size:Nat)(ht:P.underlying t=some (.slice e))(hi:P.info? e=some i)
  (v:Value) (n:Nat) (xs:List Value) (hown:w.ownsRow base e size v n xs) (c:Nat):(Builtin.append_ #[t,t] ty #[v,.slice none 0 c]).run P w=.ok v w:=by
 rcases hown.2 with ⟨rfl,rfl⟩|⟨g,cap,cur,rfl,_,_,hnc,_⟩
 ·simp[Builtin.append_,run_underlying ht,sizeOf,typeInfo,hi,Builtin.lenOf,Builtin.firstCells]
 ·simp[Builtin.append_,run_underlying ht,sizeOf,typeInfo,hi,Builtin.lenOf,Builtin.firstCells,hnc,storeCells]
theorem run_append_any (base:Nat)(t ty e:TypeId)(i:TypeInfo)(z:Value)(size bytes:Nat)(ht:P.underlying t=some (.slice e))(hi:P.info? e=some i)(hz:i.zero=some z)
  (hsize:i.size=size) (hby:i.bytes=bytes) (hzs:z.cells.size=size) (hsz:0<size)
  (v:Value) (n:Nat) (xs:List Value) (hown:w.ownsRow base e size v n xs)
  (B:Nat) (A:Option Addr) (m c:Nat) (news:List Value) (hr:Reads w B size A m news) (h1:∀u∈news,u.oneCell'=true)
  (h63:n+m≤maxLen) (hbytes:(n+m)*bytes≤140737488355328) (hbase:base≤w.heap.size):
  ∃v' w',(Builtin.append_ #[t,t] ty #[v,.slice A m c]).run P w=.ok v' w'∧w'.ownsRow base e size v' (n+m) (xs ++ news)∧w.grownBy w' v.ownBlock∧
   (v'.ownBlock=v.ownBlock∨v'.ownBlock=some w.heap.size):=by
 rcases A with _|ad
 ·have hm:m=0:=by
   rcases Nat.eq_zero_or_pos m with h0|h0
   ·exact h0
   ·obtain⟨ad,h,_⟩:=hr.2 h0;cases h
  subst hm;have hn:news=[]:=List.eq_nil_of_length_eq_zero (by simpa using hr.1);subst hn;exact⟨v,w,run_append_of_nil w base t ty e i size ht hi v n xs hown c,by simpa using hown,World.grownBy.refl w _,.inl rfl⟩
 ·have hcells:∀j u,news[j]?=some u→w.cell? (ad.add j)=some u:=by
   intro j u hu;rcases Nat.eq_zero_or_pos m with h0|h0
   ·subst h0;have hn:news=[]:=List.eq_nil_of_length_eq_zero (by simpa using hr.1);subst hn;simp at hu
   ·obtain⟨ad',h,_,hc⟩:=hr.2 h0
    injection h with h
    subst h;exact hc j u hu
  obtain⟨v',w',hrun,h2,h3,_,h5⟩:=run_append_own_at (P:=P) w base t ty e i z size bytes ht hi hz hsize hby hzs hsz v n xs hown ad m c news hr.1 hcells h1 h63 hbytes hbase;exact⟨v',w',hrun,h2,h3,h5⟩
theorem wp_append_any {o:Oper}{a:Act}{K:Act→World→Prop}{Q:Exit→Act→World→Prop}(s x:Operand)(t:TypeId)
  (ho:o.op=.call { callee:=.builtin .append,args:=#[s,x],argTypes:=#[t,t] })
  (base:Nat) (e:TypeId) (i:TypeInfo) (z:Value) (size bytes:Nat) (ht:P.underlying t=some (.slice e)) (hi:P.info? e=some i) (hz:i.zero=some z)
  (hsize:i.size=size) (hby:i.bytes=bytes) (hzs:z.cells.size=size) (hsz:0<size)
  (v:Value) (n:Nat) (xs:List Value) (hs:a.eval s=v) (hown:w.ownsRow base e size v n xs)
  (B:Nat) (A:Option Addr) (m c:Nat) (news:List Value) (hx:a.eval x=.slice A m c) (hr:Reads w B size A m news) (h1:∀u∈news,u.oneCell'=true)
  (h63:n+m≤maxLen) (hbytes:(n+m)*bytes≤140737488355328) (hbase:base≤w.heap.size)
  (h:∀v' w',w'.ownsRow base e size v' (n+m) (xs ++ news)→w.grownBy w' v.ownBlock→(v'.ownBlock=v.ownBlock∨v'.ownBlock=some w.heap.size)→K (a.put o.dst v') w'):o.wp P a w K Q:=by
 obtain⟨v',w',hrun,h2,h3,h4⟩:=run_append_any (P:=P) w base t o.type e i z size bytes ht hi hz hsize hby hzs hsz v n xs hown B A m c news hr h1 h63 hbytes hbase;unfold Oper.wp execOp;simp only[ho,resolve,invoke,builtin,Sem.run_bind,Sem.run_pure,Result.andThen_ok,List.map_toArray,List.map_cons,List.map_nil,hs,hx,hrun];exact h v' w' h2 h3 h4
theorem wpList_append_any {ops:Array Oper}{rest:List Oper}{o:Oper}{a:Act}{Q:Exit→Act→World→Prop}(hgd:o.guard=none)(s x:Operand)(t:TypeId)
  (ho:o.op=.call { callee:=.builtin .append,args:=#[s,x],argTypes:=#[t,t] })
  (base:Nat) (e:TypeId) (i:TypeInfo) (z:Value) (size bytes:Nat) (ht:P.underlying t=some (.slice e)) (hi:P.info? e=some i) (hz:i.zero=some z)
  (hsize:i.size=size) (hby:i.bytes=bytes) (hzs:z.cells.size=size) (hsz:0<size)
  (v:Value) (n:Nat) (xs:List Value) (hs:a.eval s=v) (hown:w.ownsRow base e size v n xs)
  (B:Nat) (A:Option Addr) (m c:Nat) (news:List Value) (hx:a.eval x=.slice A m c) (hr:Reads w B size A m news) (h1:∀u∈news,u.oneCell'=true)
  (h63:n+m≤maxLen) (hbytes:(n+m)*bytes≤140737488355328) (hbase:base≤w.heap.size)
  (h:∀v' w',w'.ownsRow base e size v' (n+m) (xs ++ news)→w.grownBy w' v.ownBlock→(v'.ownBlock=v.ownBlock∨v'.ownBlock=some w.heap.size)→wpList P ops Q rest (a.put o.dst v') w'):wpList P ops Q (o :: rest) a w:=
 wpList_plain hgd fun _ hK=>wp_append_any w s x t ho base e i z size bytes ht hi hz hsize hby hzs hsz v n xs hs hown B A m c news hx hr h1 h63 hbytes hbase fun v' w' h2 h3 h4=>hK _ _ (h v' w' h2 h3 h4)
end
theorem own_slice {w:World}{base:Nat}{e:TypeId}{size n:Nat}{v:Value}{xs:List Value}(h:w.ownsRow base e size v n xs):∃A c,v=.slice A n c∧n≤maxLen:=by
 rcases h.2 with ⟨rfl,rfl⟩|⟨g,cap,cur,rfl,_,_,h1,h2,_⟩
 ·exact⟨none,0,rfl,Nat.zero_le _⟩
 ·exact⟨_,cap,rfl,Nat.le_trans h1 h2⟩
theorem below_then {w w1 w2:World}(h:Below w.heap.size w w1)(k:Below w1.heap.size w1 w2):Below w.heap.size w w2:=h.trans (k.mono h.size)
theorem ret_str {a b:ByteArray}(h:a=b):Ending.returned (.string a)=.returned (.string b):=by rw[h]
theorem calls_int {P:Program}{f:FuncId}{args:Array Value}{w:World}{k:IntKind}{a b:Int}{R:World→Prop}(h:Calls P f args w fun e w'=>e=.returned (.int k a)∧R w')(e:a=b):
  Calls P f args w fun e w'=>e=.returned (.int k b)∧R w':=by rw[← e];exact h
theorem calls_bool {P:Program}{f:FuncId}{args:Array Value}{w:World}{a b:Bool}{R:World→Prop}(h:Calls P f args w fun e w'=>e=.returned (.bool a)∧R w')(e:a=b):
  Calls P f args w fun e w'=>e=.returned (.bool b)∧R w':=by rw[← e];exact h
theorem calls_str {P:Program}{f:FuncId}{args:Array Value}{w:World}{a b:ByteArray}{R:World→Prop}(h:Calls P f args w fun e w'=>e=.returned (.string a)∧R w')(e:a=b):
  Calls P f args w fun e w'=>e=.returned (.string b)∧R w':=by rw[← e];exact h
theorem calls_val {P:Program}{f:FuncId}{args:Array Value}{w:World}{a b:Value}{R:World→Prop}(h:Calls P f args w fun e w'=>e=.returned a∧R w')(e:a=b):
  Calls P f args w fun e w'=>e=.returned b∧R w':=by rw[← e];exact h
end Go.Proofs.YtjobhjemnmleaaaGreatDoor
namespace Go.Proofs.YtjobhjemnmleaaaGreatDoor.Cv
def begun (r:Int):Int:=r*365+r / 4 - r / 100
def yrf (x:Int):Int:=(x - x / 1460+x / 36524 - x / 146096) / 365
def lastDay (r:Nat):Int:=if r=399 then 146096 else begun (r+1) - 1
theorem yrf_mono (x y:Int)(h0:0≤x)(h:x≤y)(h1:y<146097):yrf x≤yrf y:=by
 unfold yrf;have a:x - x / 1460≤y - y / 1460:=by omega
 have b:x / 36524 - x / 146096≤y / 36524 - y / 146096:=by omega
 omega
def rowOk (r:Nat):Bool:=decide (yrf (begun r)=r∧yrf (lastDay r)=r∧0≤begun r∧begun r≤lastDay r∧lastDay r<146097)
theorem rows_ok : ∀r,r<400→rowOk r=true:=by decide +kernel
theorem yr_find (x : Int) (h0 : 0 ≤ x) : ∀ k : Nat, k < 400 → x ≤ lastDay k → ∃ r : Nat, r ≤ k ∧ begun r ≤ x ∧ x ≤ lastDay r := by
  intro k
  induction k with
  | zero => intro _ h; exact ⟨0, Nat.le_refl _, by simpa [begun] using h0, h⟩
  | succ k ih =>
    intro hk h
    by_cases hb : begun ((k + 1 : Nat) : Int) ≤ x
    · exact ⟨k + 1, Nat.le_refl _, hb, h⟩
    · obtain ⟨r, h1, h2, h3⟩ := ih (by omega) (by unfold lastDay; rw [if_neg (by omega)]; have e : ((k + 1 : Nat) : Int) = (k : Int) + 1 := by omega
                                                  rw [e] at hb; omega)
      exact ⟨r, by omega, h2, h3⟩
theorem yrf_spec (x:Int)(h0:0≤x)(h1:x<146097):∃r:Nat,r<400∧yrf x=r∧begun r≤x∧x≤lastDay r:=by
 obtain⟨r,hr,hb,hl⟩:=yr_find x h0 399 (by omega) (by unfold lastDay;rw[if_pos rfl];omega);have ok:=rows_ok r (by omega);unfold rowOk at ok;rw[decide_eq_true_eq] at ok;obtain⟨e1,e2,e3,e4,e5⟩:=ok;have m1:=yrf_mono _ _ e3 hb h1;have m2:=yrf_mono _ _ h0 hl e5;exact⟨r,by omega,by omega,hb,hl⟩
def leap (y:Int):Bool:=(y % 4 == 0 && y % 100 != 0) || y % 400 == 0
def lens : List Int:=[31,28,31,30,31,30,31,31,30,31,30,31]
def len (y m:Int):Int:=if m=2∧leap y=true then 29 else lens.getD (m - 1).toNat 0
def my (y m:Int):Int:=if m<3 then y - 1 else y
def mm (m:Int):Int:=if m<3 then m+9 else m - 3
def num (y m d:Int):Int:=my y m / 400*146097+begun (my y m % 400)+(153*mm m+2) / 5+d - 1 - 719468
def ofG (n:Int):Int:=(n+719468) / 146097
def ofR (n:Int):Int:=(n+719468) % 146097
def ofY (n:Int):Int:=yrf (ofR n)
def ofD (n:Int):Int:=ofR n - begun (ofY n)
def ofM (n:Int):Int:=(5*ofD n+2) / 153
def yearOf (n:Int):Int:=ofY n+ofG n*400+if ofM n+3 > 12 then 1 else 0
def monthOf (n:Int):Int:=if ofM n+3 > 12 then ofM n+3 - 12 else ofM n+3
def dayOf (n:Int):Int:=ofD n - (153*ofM n+2) / 5+1
def Valid (y m d:Int):Prop:=1≤y∧y≤9999∧1≤m∧m≤12∧1≤d∧d≤len y m
theorem num_day (y m d e:Int):num y m (d+e)=num y m d+e:=by unfold num;omega
theorem leap_iff (y:Int):leap y=true↔(y % 4=0∧y % 100≠0)∨y % 400=0:=by
 unfold leap;simp
theorem len_month (y m:Int)(h1:1≤m)(h2:m≤12):
  len y m=if m=2 then (if leap y=true then 29 else 28) else if m=4∨m=6∨m=9∨m=11 then 30 else 31:=by
 have:m=1∨m=2∨m=3∨m=4∨m=5∨m=6∨m=7∨m=8∨m=9∨m=10∨m=11∨m=12:=by omega
 unfold len;rcases this with rfl|rfl|rfl|rfl|rfl|rfl|rfl|rfl|rfl|rfl|rfl|rfl <;> simp[lens]
theorem lastDay_leap (r:Nat)(hr:r<400):lastDay r - begun r=if leap ((r:Int)+1)=true then 365 else 364:=by
 have e:=leap_iff ((r:Int)+1)
 by_cases h:leap ((r:Int)+1)=true
 ·rw[if_pos h];have:=e.1 h;unfold lastDay begun;split
  ·subst_vars;decide
  ·omega
 ·rw[if_neg h];have h':¬(((((r:Int)+1) % 4=0∧((r:Int)+1) % 100≠0)∨((r:Int)+1) % 400=0)):=fun x=>h (e.2 x)
  unfold lastDay begun;split
  ·subst_vars;omega
  ·omega
theorem leap_mod (y:Int):leap y=leap (y % 400):=by
 rw[Bool.eq_iff_iff,leap_iff,leap_iff];omega
theorem md_bd (y m d:Int)(h:Valid y m d):
  ∃r:Nat,r<400∧(r:Int)=my y m % 400∧0≤(153*mm m+2) / 5+d - 1∧begun r+((153*mm m+2) / 5+d - 1)≤lastDay r:=by
 obtain⟨h1,h2,h3,h4,h5,h6⟩:=h;rw[len_month y m h3 h4] at h6;refine⟨(my y m % 400).toNat,by omega,by omega,?_,?_⟩
 ·have:0≤mm m:=by unfold mm;split <;> omega
  omega
 ·have hl:=lastDay_leap (my y m % 400).toNat (by omega);have he:(((my y m % 400).toNat:Nat):Int)=my y m % 400:=by omega
  have hlp:leap ((((my y m % 400).toNat:Nat):Int)+1)=leap (my y m+1):=by
   rw[he,leap_mod,leap_mod (my y m+1)]
   congr 1
   omega
  rw[hlp] at hl;have hm:m=1∨m=2∨m=3∨m=4∨m=5∨m=6∨m=7∨m=8∨m=9∨m=10∨m=11∨m=12:=by omega
  by_cases hlt:m<3
  ·have e1:my y m+1=y:=by unfold my;rw[if_pos hlt];omega
   have e2:mm m=m+9:=by unfold mm;rw[if_pos hlt]
   rw[e1] at hl;rw[e2];have:m=1∨m=2:=(by omega);rcases this with rfl|rfl
   ·simp at h6;split at hl <;> omega
   ·rw[if_pos rfl] at h6
    by_cases hq:leap y=true
    ·rw[if_pos hq] at h6 hl;omega
    ·rw[if_neg hq] at h6 hl;omega
  ·have e2:mm m=m - 3:=by unfold mm;rw[if_neg hlt]
   rw[e2];have h7:(153*(m - 3)+2) / 5+d - 1≤305:=by
    rcases hm with rfl|rfl|rfl|rfl|rfl|rfl|rfl|rfl|rfl|rfl|rfl|rfl <;> simp at h6 <;> omega
   split at hl <;> omega
theorem num_of (n:Int)(h0:-719162≤n)(h1:n<2932897):Valid (yearOf n) (monthOf n) (dayOf n)∧num (yearOf n) (monthOf n) (dayOf n)=n:=by
 obtain⟨r,hr,hY,hb,hl⟩:=yrf_spec (ofR n) (by unfold ofR;omega) (by unfold ofR;omega);have eY:ofY n=r:=hY;have hlen:=lastDay_leap r hr;have d0:0≤ofD n:=by unfold ofD;rw[eY];omega
 have d1:ofD n≤lastDay r - begun r:=by unfold ofD;rw[eY];omega
 have eRn:ofR n=begun r+ofD n:=by unfold ofD;rw[eY];omega
 have nG:n+719468=ofG n*146097+ofR n:=by unfold ofG ofR;omega
 have m0:0≤ofM n∧ofM n≤11:=by
  have:ofD n≤365:=by split at hlen <;> omega
  unfold ofM;omega
 have dd:1≤dayOf n:=by unfold dayOf ofM;omega
 have g0:0≤ofG n:=by unfold ofG;omega
 have g1:ofG n≤24:=by unfold ofG;omega
 have hmm:mm (monthOf n)=ofM n:=by
  unfold mm monthOf;split <;> split <;> omega
 have hmy:my (yearOf n) (monthOf n)=ofY n+ofG n*400:=by
  unfold my monthOf yearOf
  by_cases hc:ofM n+3 > 12
  ·simp only[if_pos hc];rw[if_pos (by omega)];omega
  ·simp only[if_neg hc];rw[if_neg (by omega)];omega
 have hr':(r:Int)<400:=by omega
 have hnum:num (yearOf n) (monthOf n) (dayOf n)=n:=by
  unfold num;rw[hmy,hmm,eY];have a1:((r:Int)+ofG n*400) / 400=ofG n:=by omega
  have a2:((r:Int)+ofG n*400) % 400=r:=by omega
  rw[a1,a2];unfold dayOf;omega
 have hmon:1≤monthOf n∧monthOf n≤12:=by unfold monthOf;split <;> omega
 refine⟨⟨?_,?_,hmon.1,hmon.2,dd,?_⟩,hnum⟩
 ·-- the year is 1 at least
  unfold yearOf;rw[eY];rcases Int.lt_or_le 0 (ofG n) with h|h
  ·split <;> omega
  ·have:ofG n=0:=(by omega);rw[this] at nG ⊢
   by_cases hz:r=0
   ·subst hz;have hb0:begun ((0:Nat):Int)=0:=(by decide);have:306≤ofD n:=(by omega);rw[if_pos (by unfold ofM;omega)];omega
   ·split <;> omega
 ·-- and 9999 at most
  unfold yearOf;rw[eY]
  by_cases hz:ofG n=24∧r=399
  ·obtain⟨hg,rfl⟩:=hz;have hb0:begun ((399:Nat):Int)=145731:=(by decide);have:ofD n≤305:=by rw[hg] at nG;omega
   rw[if_neg (by unfold ofM;omega),hg];omega
  ·split <;> omega
 ·-- no day is behind its month's end
  rw[len_month _ _ hmon.1 hmon.2];have hmoncases:ofM n=0∨ofM n=1∨ofM n=2∨ofM n=3∨ofM n=4∨ofM n=5∨ofM n=6∨ofM n=7∨ofM n=8∨ofM n=9∨ofM n=10∨ofM n=11:=by omega
  have hM:ofM n=(5*ofD n+2) / 153:=rfl
  by_cases h11:ofM n=11
  ·have e1:monthOf n=2:=by unfold monthOf;rw[if_pos (by omega)];omega
   have e2:yearOf n=r+1+ofG n*400:=by unfold yearOf;rw[if_pos (by omega),eY];omega
   rw[e1,if_pos rfl,e2];have e3:leap ((r:Int)+1+ofG n*400)=leap ((r:Int)+1):=by
    rw[leap_mod,leap_mod ((r:Int)+1)];congr 1;omega
   rw[e3];unfold dayOf;rw[h11];split at hlen
   ·rw[if_pos (by assumption)];omega
   ·rw[if_neg (by assumption)];omega
  ·have e1:monthOf n≠2:=by unfold monthOf;split <;> omega
   rw[if_neg e1];unfold dayOf;have e4:monthOf n=if ofM n+3 > 12 then ofM n+3 - 12 else ofM n+3:=rfl
   rcases hmoncases with h|h|h|h|h|h|h|h|h|h|h|h <;> rw[h] at hM e4 ⊢ <;> simp at e4 <;> rw[e4] <;> simp <;> omega
def ahead (y:Int):Int:=y / 400*146097+begun (y % 400)
theorem of_facts (n:Int)(g r y d:Int)(hg:(n+719468) / 146097=g)(hr:(n+719468) % 146097=r)(hy:(r - r / 1460+r / 36524 - r / 146096) / 365=y)(hd:r - (365*y+y / 4 - y / 100)=d):
  0≤d∧d≤365∧g=ofG n∧y=ofY n∧d=ofD n:=by
 have e1:ofR n=r:=hr;obtain⟨k,hk,hY,hb,hl⟩:=yrf_spec r (by omega) (by omega);have e2:y=k:=by rw[← hY,← hy];rfl
 have e3:ofY n=k:=by unfold ofY;rw[e1];exact hY
 have hlen:=lastDay_leap k hk;have e4:d=r - begun k:=by rw[← hd,e2];unfold begun;omega
 refine⟨by omega,by split at hlen <;> omega,hg.symm,by rw[e2,e3],by unfold ofD;rw[e1,e3,e4]⟩
theorem parts_big (n:Int)(h:(5*ofD n+2) / 153+3 > 12):yearOf n=ofY n+ofG n*400+1∧monthOf n=(5*ofD n+2) / 153+3 - 12∧dayOf n=ofD n - (153*((5*ofD n+2) / 153)+2) / 5+1:=by
 have h':ofM n+3 > 12:=h;unfold yearOf monthOf;rw[if_pos h',if_pos h'];exact⟨rfl,rfl,rfl⟩
theorem parts_small (n:Int)(h:(5*ofD n+2) / 153+3≤12):yearOf n=ofY n+ofG n*400∧monthOf n=(5*ofD n+2) / 153+3∧dayOf n=ofD n - (153*((5*ofD n+2) / 153)+2) / 5+1:=by
 have h':¬(ofM n+3 > 12):=by unfold ofM;omega
 unfold yearOf monthOf;rw[if_neg h',if_neg h'];exact⟨by omega,rfl,rfl⟩
theorem ahead_eq (y:Int):ahead y=y*365+y / 4 - y / 100+y / 400:=by unfold ahead begun;omega
theorem ahead_succ (y:Int):ahead y=ahead (y - 1)+365+if leap y=true then 1 else 0:=by
 rw[ahead_eq,ahead_eq];have hlp:=leap_iff y
 by_cases hl:leap y=true
 ·rw[if_pos hl];have:=hlp.1 hl;omega
 ·rw[if_neg hl];have:¬((y % 4=0∧y % 100≠0)∨y % 400=0):=fun x=>hl (hlp.2 x);omega
theorem num_ahead (y m d:Int):num y m d=ahead (my y m)+(153*mm m+2) / 5+d - 1 - 719468:=rfl
theorem first_ahead (y:Int):num y 1 1=ahead (y - 1)+306 - 719468:=by rw[num_ahead];simp[my,mm]
theorem first_succ (y:Int):num (y+1) 1 1=num y 1 1+365+if leap y=true then 1 else 0:=by
 rw[first_ahead,first_ahead,show y+1 - 1=y by omega,ahead_succ y];omega
theorem first_le (y m d:Int)(h:Valid y m d):num y 1 1≤num y m d∧num y m d<num (y+1) 1 1:=by
 obtain⟨h1,h2,h3,h4,h5,h6⟩:=h;rw[len_month y m h3 h4] at h6;have hm:m=1∨m=2∨m=3∨m=4∨m=5∨m=6∨m=7∨m=8∨m=9∨m=10∨m=11∨m=12:=by omega
 rw[first_succ,first_ahead,num_ahead];have hs:=ahead_succ y;unfold my mm
 by_cases hl:leap y=true
 ·simp only[if_pos hl] at h6 hs ⊢;rcases hm with rfl|rfl|rfl|rfl|rfl|rfl|rfl|rfl|rfl|rfl|rfl|rfl <;> simp at h6 ⊢ <;> omega
 ·simp only[if_neg hl] at h6 hs ⊢;rcases hm with rfl|rfl|rfl|rfl|rfl|rfl|rfl|rfl|rfl|rfl|rfl|rfl <;> simp at h6 ⊢ <;> omega
theorem first_mono (y z:Int)(h:y≤z):num y 1 1≤num z 1 1:=by
 rw[first_ahead,first_ahead,ahead_eq,ahead_eq];omega
end Go.Proofs.YtjobhjemnmleaaaGreatDoor.Cv
namespace Go.Proofs.YtjobhjemnmleaaaGreatDoor
open Go.RowKit
def Lens (w:World):Prop:=∀k:Nat,k<12→w.cell? ⟨0,k,none⟩=some (.int .i64 (Cv.lens.getD k 0))
theorem Lens.lt {w:World}(h:Lens w):0<w.heap.size:=block_lt_of_cell (h 0 (by omega))
theorem Lens.below {w w':World}(h:Lens w)(hb:Below w.heap.size w w'):Lens w':=fun k hk=>(hb.cell (p:=⟨_,k,none⟩) h.lt).trans (h k hk)
def InCal (y m:Int):Prop:=1≤y∧y≤9999∧1≤m∧m≤12
theorem leap_any (y:Int)(w:World)(h0:1≤y)(h1:y≤9999):
  Calls Tryz.prog 189 #[.int .i64 y] w fun e w'=>e=.returned (.bool (Cv.leap y))∧w=w':=by
 go_enter Tryz.func189,Tryz.ntmps189
 go_wp2
 all_goals go_ret
 all_goals refine⟨ret_bool ?_,rfl⟩
 all_goals (unfold Cv.leap;simp_all)
theorem length_bad (y m:Int)(w:World)(h:¬InCal y m):
  Calls Tryz.prog 155 #[.int .i64 y,.int .i64 m] w fun e w'=>e=.returned (.tuple #[.int .i64 0,.int .i64 1])∧w=w':=by
 unfold InCal at h
 by_cases h1:y<1
 ·clear h;go_enter Tryz.func155,Tryz.ntmps155
  go_wp2;go_ret2
  exact⟨rfl,rfl⟩
 by_cases h2:9999<y
 ·clear h;go_enter Tryz.func155,Tryz.ntmps155
  go_wp2;go_ret2
  exact⟨rfl,rfl⟩
 by_cases h3:m<1
 ·clear h;go_enter Tryz.func155,Tryz.ntmps155
  go_wp2;go_ret2
  exact⟨rfl,rfl⟩
 have h4:12<m:=by omega
 clear h;go_enter Tryz.func155,Tryz.ntmps155
 go_wp2;go_ret2
 exact⟨rfl,rfl⟩
theorem ret_int2 {k:IntKind}{a b:Int}{v:Value}(h:a=b):Ending.returned (.tuple #[.int k a,v])=.returned (.tuple #[.int k b,v]):=by rw[h]
theorem length_ok (y m:Int)(w:World)(hL:Lens w)(h:InCal y m):
  Calls Tryz.prog 155 #[.int .i64 y,.int .i64 m] w fun e w'=>e=.returned (.tuple #[.int .i64 (Cv.len y m),.int .i64 0])∧w=w':=by
 obtain⟨h1,h2,h3,h4⟩:=h;have hc:=hL (m - 1).toNat (by omega);have hi:(((m - 1).toNat:Nat):Int)=m - 1:=by omega
 obtain⟨k,rfl⟩:∃k:Nat,m=(k:Int)+1:=⟨(m - 1).toNat,by omega⟩
 have hk:((k:Int)+1 - 1).toNat=k:=by omega
 rw[hk] at hc;have hE:Cv.len y ((k:Int)+1)=if ((k:Int)+1)=2∧Cv.leap y=true then 29 else Cv.lens.getD k 0:=by unfold Cv.len;rw[hk]
 have q1:=am k
 have q2:(k:Int)<12:=by omega
 have HE:=ak hE;clear hE hk hi hL;obtain⟨v,hv⟩:=aj (Cv.lens.getD k 0)
 rw[hv] at hc;have HV:=ak hv;clear hv
 by_cases h5:k=1
 ·subst h5;have t1:(((1:Nat):Int)+1 == 2)=true:=by decide
  cases hl:Cv.leap y
  ·have HL:=ak hl;clear hl;go_enter Tryz.func155,Tryz.ntmps155
   go_wp2_with (go_at_call 189;refine(leap_any y _ h1 h2).mono ?_;rw[HL.out];rintro e w1 ⟨rfl,rfl⟩)
   go_ret2
   exact⟨ret_int2 (by rw[HE.out,HL.out,HV.out];simp),rfl⟩
  ·have HL:=ak hl;clear hl;go_enter Tryz.func155,Tryz.ntmps155
   go_wp2_with (go_at_call 189;refine(leap_any y _ h1 h2).mono ?_;rw[HL.out];rintro e w1 ⟨rfl,rfl⟩)
   go_ret2
   exact⟨ret_int2 (by rw[HE.out,HL.out];simp),rfl⟩
 ·have t1:((k:Int)+1 == 2)=false:=by simp;omega
  have H5:=ak h5;clear h5;go_enter Tryz.func155,Tryz.ntmps155
  go_wp2;go_ret2
  exact⟨ret_int2 (by rw[HE.out,HV.out,if_neg];have:=H5.out;omega),rfl⟩
theorem number_any (y m d:Int)(w:World)(hy:1≤y∧y≤10000)(hm:1≤m∧m≤12)(hd:1≤d∧d≤31):
  Calls Tryz.prog 100 #[.int .i64 y,.int .i64 m,.int .i64 d] w fun e w'=>e=.returned (.int .i64 (Cv.num y m d))∧w=w':=by
 obtain⟨h1,h2⟩:=hy;obtain⟨h3,h4⟩:=hm;obtain⟨h5,h6⟩:=hd
 by_cases hlt:m<3
 ·go_enter Tryz.func100,Tryz.ntmps100
  go_wp2;go_ret
  refine⟨ret_int ?_,rfl⟩;unfold Cv.num Cv.begun Cv.my Cv.mm;simp only[if_pos hlt];rw[show m - 3+12=m+9 by omega]
 ·go_enter Tryz.func100,Tryz.ntmps100
  go_wp2;go_ret
  refine⟨ret_int ?_,rfl⟩;have hge:¬m<3:=by omega
  unfold Cv.num Cv.begun Cv.my Cv.mm;simp only[if_neg hge]
theorem check_ok (y m d:Int)(w:World)(hL:Lens w)(h:Cv.Valid y m d):
  Calls Tryz.prog 203 #[.agg #[.int .i64 y,.int .i64 m,.int .i64 d]] w fun e w'=>e=.returned (.int .i64 0)∧Below w.heap.size w w':=by
 obtain⟨h1,h2,h3,h4,h5,h6⟩:=h;have hl:=length_ok y m (w.alloc (.cells #[.int .i64 y,.int .i64 m,.int .i64 d] 174)) (hL.below (al)) ⟨h1,h2,h3,h4⟩;obtain⟨n,hn⟩:=aj (Cv.len y m)
 rw[hn] at hl h6;have HN:=ak hl;clear hn hl hL;go_enter Tryz.func203,Tryz.ntmps203
 go_wp2_with (go_at_call 155;refine HN.out.mono ?_;rintro e w1 ⟨rfl,rfl⟩)
 go_ret
 exact⟨rfl,al⟩
theorem valid_31 {y m d:Int}(h:Cv.Valid y m d):1≤d∧d≤31:=by
 obtain⟨h1,h2,h3,h4,h5,h6⟩:=h;rw[Cv.len_month y m h3 h4] at h6;refine⟨h5,?_⟩;split at h6
 ·split at h6 <;> omega
 ·split at h6 <;> omega
theorem days_ok (y m d:Int)(w:World)(hL:Lens w)(h:Cv.Valid y m d):
  Calls Tryz.prog 178 #[.agg #[.int .i64 y,.int .i64 m,.int .i64 d]] w fun e w'=>e=.returned (.tuple #[.int .i64 (Cv.num y m d),.int .i64 0])∧Below w.heap.size w w':=by
 have HC:=ak (check_ok y m d (w.alloc (.cells #[.int .i64 y,.int .i64 m,.int .i64 d] 174)) (hL.below (al)) h);have h31:=valid_31 h;obtain⟨h1,h2,h3,h4,h5,h6⟩:=h;have HNum:=fun W=>number_any y m d W ⟨h1,by omega⟩ ⟨h3,h4⟩ h31
 have HN:=ak HNum;clear HNum hL h6;go_enter Tryz.func178,Tryz.ntmps178
 go_wp2_with fail
 refine HC.out.mono ?_;rintro e w1 ⟨rfl,hb⟩;have c0:=(hb.cell (p:=⟨w.heap.size,0,none⟩) (by simp)).trans (cell_of_row _ w.heap.size 0 _ _ _ (heap_alloc_new w _));have c1:=(hb.cell (p:=⟨w.heap.size,1,none⟩) (by simp)).trans (cell_of_row _ w.heap.size 1 _ _ _ (heap_alloc_new w _));have c2:=(hb.cell (p:=⟨w.heap.size,2,none⟩) (by simp)).trans (cell_of_row _ w.heap.size 2 _ _ _ (heap_alloc_new w _));go_wp2_with (go_at_call 100;refine(HN.out _).mono ?_;rintro e w2 ⟨rfl,rfl⟩)
 go_ret2
 exact⟨rfl,(al).trans (hb.mono (by simp))⟩
def dow (n:Int):Int:=(n % 7+4) % 7
theorem tmod_7 (n:Int):n.tmod 7=if 0≤n then n % 7 else -((-n) % 7):=by
 by_cases h:0≤n
 ·rw[if_pos h,Int.tmod_eq_emod_of_nonneg h]
 ·rw[if_neg h];have:n=-(-n):=by omega
  rw[this,Int.neg_tmod,Int.tmod_eq_emod_of_nonneg (by omega)];omega
theorem dow_walk (n:Int):(wrap64 (n.tmod 7+11)).tmod 7=dow n:=by
 have h:=tmod_7 n;have hb:0≤n.tmod 7+11∧n.tmod 7+11≤17:=by rw[h];split <;> omega
 have hw:wrap64 (n.tmod 7+11)=n.tmod 7+11:=by unfold wrap64;omega
 rw[hw,Int.tmod_eq_emod_of_nonneg hb.1,h];unfold dow;split <;> omega
theorem civWeekday_any (n:Int)(w:World):
  Calls Tryz.prog 179 #[.int .i64 n] w fun e w'=>e=.returned (.int .i64 (dow n))∧w=w':=by
 go_enter Tryz.func179,Tryz.ntmps179
 go_wp2;go_ret
 exact⟨ret_int (dow_walk n),rfl⟩
theorem first_bad (y:Int)(w:World)(h:y<1∨10000<y):
  Calls Tryz.prog 57 #[.int .i64 y] w fun e w'=>e=.returned (.tuple #[.int .i64 0,.int .i64 1])∧w=w':=by
 by_cases h1:y<1
 ·clear h;go_enter Tryz.func57,Tryz.ntmps57
  go_wp2;go_ret2
  exact⟨rfl,rfl⟩
 ·have h2:10000<y:=by omega
  clear h;go_enter Tryz.func57,Tryz.ntmps57
  go_wp2;go_ret2
  exact⟨rfl,rfl⟩
theorem first_ok (y:Int)(w:World)(h0:1≤y)(h1:y≤10000):
  Calls Tryz.prog 57 #[.int .i64 y] w fun e w'=>e=.returned (.tuple #[.int .i64 (Cv.num y 1 1),.int .i64 0])∧w=w':=by
 go_enter Tryz.func57,Tryz.ntmps57
 go_wp2_with (go_at_call 100;refine(number_any y 1 1 _ ⟨h0,h1⟩ (by omega) (by omega)).mono ?_;rintro e w2 ⟨rfl,rfl⟩)
 go_ret2
 exact⟨rfl,rfl⟩
theorem num_min : Cv.num 1 1 1=-719162:=by decide
theorem num_max : Cv.num 10000 1 1=2932897:=by decide
theorem of_bad (n:Int)(w:World)(h:n < -719162∨2932897≤n):
  Calls Tryz.prog 75 #[.int .i64 n] w fun e w'=>e=.returned (.tuple #[.agg #[.int .i64 0,.int .i64 0,.int .i64 0],.int .i64 1])∧Below w.heap.size w w':=by
 have A1:=ak fun W=>calls_int (number_any 1 1 1 W (by omega) (by omega) (by omega)) num_min
 have A2:=ak fun W=>calls_int (number_any 10000 1 1 W (by omega) (by omega) (by omega)) num_max
 by_cases h1:n < -719162
 ·clear h;go_enter Tryz.func75,Tryz.ntmps75
  go_wp2_with fail
  refine(A1.out _).mono ?_;rintro e w1 ⟨rfl,rfl⟩;go_wp2;exact bodyPost_ret (v:=.tuple #[.agg #[.int .i64 0,.int .i64 0,.int .i64 0],.int .i64 1]) (by simp[results,Tryz.results75,go_sem]) rfl ⟨rfl,al⟩
 ·have h2:2932897≤n:=by omega
  clear h;go_enter Tryz.func75,Tryz.ntmps75
  go_wp2_with fail
  refine(A1.out _).mono ?_;rintro e w1 ⟨rfl,rfl⟩;go_wp2_with fail
  refine(A2.out _).mono ?_;rintro e w1 ⟨rfl,rfl⟩;go_wp2;exact bodyPost_ret (v:=.tuple #[.agg #[.int .i64 0,.int .i64 0,.int .i64 0],.int .i64 1]) (by simp[results,Tryz.results75,go_sem]) rfl ⟨rfl,al⟩
theorem of_ok (n:Int)(w:World)(h1:-719162≤n)(h2:n<2932897):
  Calls Tryz.prog 75 #[.int .i64 n] w fun e w'=>e=.returned (.tuple #[.agg #[.int .i64 (Cv.yearOf n),.int .i64 (Cv.monthOf n),.int .i64 (Cv.dayOf n)],.int .i64 0])∧Below w.heap.size w w':=by
 have A1:=ak fun W=>calls_int (number_any 1 1 1 W (by omega) (by omega) (by omega)) num_min
 have A2:=ak fun W=>calls_int (number_any 10000 1 1 W (by omega) (by omega) (by omega)) num_max
 go_enter Tryz.func75,Tryz.ntmps75
 go_wp2_with fail
 refine(A1.out _).mono ?_;rintro e w1 ⟨rfl,rfl⟩;go_wp2_with fail
 refine(A2.out _).mono ?_;rintro e w1 ⟨rfl,rfl⟩;go_upto_region 6 with fail
 obtain⟨g,hg⟩:=aj ((n+719468) / 146097)
 obtain⟨r,hr⟩:=aj ((n+719468) % 146097)
 rw[hg,hr];obtain⟨y,hy⟩:=aj ((r - r / 1460+r / 36524 - r / 146096) / 365)
 rw[hy];obtain⟨d,hd⟩:=aj (r - (365*y+y / 4 - y / 100))
 obtain⟨f1,f2,f3,f4,f5⟩:=Cv.of_facts n g r y d hg hr hy hd;have b1:0≤g∧g≤24:=by omega
 have b2:0≤r∧r≤146096:=by omega
 have b3:0≤y∧y≤400:=by omega
 obtain⟨b11,b12⟩:=b1;obtain⟨b21,b22⟩:=b2;obtain⟨b31,b32⟩:=b3;have F:=ak (And.intro f3 (And.intro f4 f5));have HD:=ak hd;clear f3 f4 f5 hd hg hr hy;go_upto_region 7 with fail
 rw[HD.out];clear HD b21 b22
 by_cases hm:(5*d+2) / 153+3 > 12
 ·go_wp2;refine bodyPost_ret (v:=.tuple #[.agg #[.int .i64 (y+g*400+1),.int .i64 ((5*d+2) / 153+3 - 12),.int .i64 (d - (153*((5*d+2) / 153)+2) / 5+1)],.int .i64 0]) (by simp[results,Tryz.results75,go_sem]) rfl ⟨?_,?_⟩
  ·obtain⟨rfl,rfl,rfl⟩:=F.out;obtain⟨e1,e2,e3⟩:=Cv.parts_big n hm;rw[e1,e2,e3]
  ·exact al
 ·go_wp2;refine bodyPost_ret (v:=.tuple #[.agg #[.int .i64 (y+g*400),.int .i64 ((5*d+2) / 153+3),.int .i64 (d - (153*((5*d+2) / 153)+2) / 5+1)],.int .i64 0]) (by simp[results,Tryz.results75,go_sem]) rfl ⟨?_,?_⟩
  ·obtain⟨rfl,rfl,rfl⟩:=F.out;obtain⟨e1,e2,e3⟩:=Cv.parts_small n (by omega);rw[e1,e2,e3]
  ·exact al
end Go.Proofs.YtjobhjemnmleaaaGreatDoor
