/- link.behind and link.places: the first places of names, by a range over a function. -/
import Derived.Test.YtjobhjemnmleaaaGreatDoorR12
import Derived.RangeFuncNested
import Derived.RangeFuncBound
import Derived.RangeFuncCalls
import Derived.RangeFuncLeaves
import Derived.Shelf.Abstract
import Derived.Shelf.AbstractIn
import Derived.Shelf.RegionOpen
import Derived.OwnWalkIn
import Derived.TacticsInMore
import Derived.LoopNIn
import Derived.LoopIn
import Derived.Maps.OwnIn
set_option maxRecDepth 100000
set_option maxHeartbeats 4000000
namespace Go.Proofs.YtjobhjemnmleaaaGreatDoor
open Go.RowKit Go.Shelf
attribute [local go_sem] Oper.semAt_some
namespace Lk
def down (ns:List ByteArray)(r:Nat):List (Nat × ByteArray):=(List.range' r (ns.length - r)).reverse.map fun i=>(i,ns.getD i ⟨#[]⟩)
theorem down_end (ns:List ByteArray):down ns ns.length=[]:=by unfold down;simp
theorem down_step {ns:List ByteArray}{r:Nat}(h:r<ns.length):down ns r=down ns (r+1) ++ [(r,ns.getD r ⟨#[]⟩)]:=by
 unfold down;rw[show ns.length - r=(ns.length - (r+1))+1 from by omega,List.range'_succ,List.reverse_cons,List.map_append];rfl
def clip (s:ByteArray):ByteArray:=if s.size≤maxLen then s else ⟨#[]⟩
theorem clip_le (s:ByteArray):(clip s).size≤maxLen:=by
 unfold clip;split
 ·assumption
 ·exact Nat.zero_le _
theorem clip_id {s:ByteArray}(h:s.size≤maxLen):clip s=s:=if_pos h
def fn (l:List (Nat × ByteArray)):Mp.Fn:=l.foldl (fun f x=>Mp.put f (clip x.2) (.int .i64 (x.1:Int))) (fun _=>none)
theorem fn_snoc (l:List (Nat × ByteArray))(x:Nat × ByteArray):fn (l ++ [x])=Mp.put (fn l) (clip x.2) (.int .i64 (x.1:Int)):=by unfold fn;rw[List.foldl_append];rfl
def places (ns:List ByteArray):Mp.Fn:=fun s=>(first ns s).map fun(i:Nat)=>Value.int .i64 (i:Int)
theorem fn_down (ns:List ByteArray)(hsz:∀s∈ns,s.size≤maxLen):∀r,r≤ns.length→fn (down ns r)=fun s=>(from_ ns r s).map fun(i:Nat)=>Value.int .i64 (i:Int):=by
 intro r hr;obtain⟨d,hd⟩:=aj (ns.length - r)
 induction d generalizing r with
 |zero=>
  have e:r=ns.length:=by omega
  subst e;rw[down_end]
  funext s
  rw[from_end];rfl
 |succ d ih=>
  have hlt:r<ns.length:=by omega
  have hg:ns[r]?=some (ns.getD r ⟨#[]⟩):=by rw[List.getD,List.getElem?_eq_getElem hlt];rfl
  rw[down_step hlt,fn_snoc,ih (r+1) (by omega) (by omega)];simp only;rw[clip_id (hsz _ (List.mem_of_getElem? hg))]
  funext s
  rw[from_step hg s];unfold Mp.put
  by_cases e:s=ns.getD r ⟨#[]⟩
  ·rw[if_pos e,if_pos e];rfl
  ·rw[if_neg e,if_neg e]
theorem fn_all (ns:List ByteArray)(hsz:∀s∈ns,s.size≤maxLen):fn (down ns 0)=places ns:=by
 rw[fn_down ns hsz 0 (Nat.zero_le _)]
 funext s
 simp only[from_zero,places]
structure But (b n:Nat)(W W':World):Prop where
 size:W.heap.size≤W'.heap.size
 same:∀k,k<n→k≠b→W'.heap[k]?=W.heap[k]?
theorem But.refl (b n:Nat)(W:World):But b n W W:=⟨Nat.le_refl _,fun _ _ _=>rfl⟩
theorem But.trans {b n:Nat}{A B C:World}(h:But b n A B)(k:But b n B C):But b n A C:=⟨Nat.le_trans h.size k.size,fun i hi hb=>(k.same i hi hb).trans (h.same i hi hb)⟩
theorem But.cell {b n:Nat}{W W':World}(h:But b n W W'){p:Addr}(hp:p.block<n)(hb:p.block≠b):W'.cell? p=W.cell? p:=World.cell?_of_block (h.same p.block hp hb)
theorem But.put {b n:Nat}{w:World}(hn:n≤w.heap.size)(W:World)(l:Nat)(o o':Obj)(hl:w.heap.size≤l)(_:W.heap[l]?=some o)(_:o.isCells=false)(_:o.isWalk=false):But b n W (W.putObj l o'):=
 ⟨(grownBy_putObj' W l o').size,fun k hk _=>World.putObj_heap_other (by omega)⟩
end Lk
def Lk.SqRet (ns:List ByteArray)(JY JX:List (Nat × ByteArray)→World→Prop)(e:Ending)(W':World):Prop:=
 (∃v,e=.returned v)∧((∃ys,ys=Lk.down ns 0∧JY ys W')∨(∃pre:List (Nat × ByteArray),True∧JX pre W'))
theorem behind1_in (n:Nat)(hn:1≤n)(l bc bn b n₀:Nat)(ns:List ByteArray)(hcount:ns.length≤1000000)(hsz:∀s∈ns,s.size≤maxLen)(gn:Nat)(lbn:Array Value)(eg:∀args w,(callFunc gn args).run Tryz.prog w=.ok (.enter gn args) w)(JY JX:List (Nat × ByteArray)→World→Prop)
  (hY:∀pre x W,JY pre W→pre.length<ns.length→YieldAt Fence.wide (n - 1) Tryz.prog l #[.int .i64 (x.1:Int),.string (Lk.clip x.2)] W fun e W'=>
   (e=.returned (.bool true)∧JY (pre ++ [x]) W'∧Lk.But b n₀ W W')∨(e=.returned (.bool false)∧JX (pre ++ [x]) W'))
  (W:World) (hc:W.cell? ⟨bc,0,none⟩=some (.int .i64 (ns.length:Int))) (hf:W.cell? ⟨bn,0,none⟩=some (.func (.func gn) #[] lbn)) (hbc:bc<n₀∧bc≠b) (hbn:bn<n₀∧bn≠b)
  (hname:∀W' i,Lk.But b n₀ W W'→i<ns.length→Calls Tryz.prog gn (#[.int .i64 (i:Int)] ++ lbn) W' fun e w'=>e=.returned (.string (ns.getD i ⟨#[]⟩))∧W'=w') (h0:JY [] W):
  CallsIn Fence.wide n Tryz.prog 177 #[.func (.yield l) #[] #[],.pointer (some ⟨bc,0,none⟩),.pointer (some ⟨bn,0,none⟩)] W (Lk.SqRet ns JY JX):=by
 have HNm:=ak hname;clear hname;refine callsIn_of_wp Tryz.func177 rfl trivial ?_ rfl;simp only[Tryz.ntmps177,List.size_toArray,List.length_cons,List.length_nil,Nat.reduceAdd,Nat.reduceSub,Array.replicate_succ,Array.replicate_zero,List.push_toArray,List.append_toArray,List.nil_append,List.cons_append];have w1:IntKind.i64.wrap ((ns.length:Int) - 1)=(ns.length:Int) - 1:=by rw[IntKind.wrap_i64];omega
 have w2:wrap64 ((ns.length:Int) - 1)=(ns.length:Int) - 1:=by unfold wrap64;omega
 gi_wp2
 gi_loopw [4] (fun i wr=>∃r:Nat,r≤ns.length∧i=.int .i64 ((r:Int) - 1)∧Hid (JY (Lk.down ns r) wr)∧Hid (Lk.But b n₀ W wr)) (fun i _=>(intOf i+1).toNat)
 case atStart=>exact⟨ns.length,Nat.le_refl _,rfl,(by show JY _ _;rw[Lk.down_end];exact h0),Lk.But.refl _ _ _⟩
 case round=>
  obtain⟨r,hr,rfl,HJ,HB⟩:=hrel;have c0:=(HB.out.cell (p:=⟨bc,0,none⟩) hbc.1 hbc.2).trans hc;have c1:=(HB.out.cell (p:=⟨bn,0,none⟩) hbn.1 hbn.2).trans hf;rcases Nat.eq_zero_or_pos r with h0r|h0r
  ·subst h0r;have q1:¬(0:Int)≤((0:Nat):Int) - 1:=by omega
   gi_wp2
   go_end0
   exact⟨⟨_,rfl⟩,.inl ⟨_,rfl,HJ.out⟩⟩
  ·obtain⟨r,rfl⟩:∃k,r=k+1:=⟨r - 1,by omega⟩
   have e1:(((r+1:Nat):Int) - 1)=(r:Int):=(by omega);rw[e1];have HN:=ak (HNm.out wr r HB.out (by omega));obtain⟨fn,tmps,assign,body,hy,hR⟩:=hY _ (r,ns.getD r ⟨#[]⟩) wr HJ.out (by unfold Lk.down;simp;omega)
   dsimp only at hy
   rw[Lk.clip_id (hsz _ (List.mem_of_getElem? (show ns[r]?=some (ns.getD r ⟨#[]⟩) by rw[List.getD,List.getElem?_eq_getElem (by omega)];rfl)))] at hy;obtain⟨sr,hsr⟩:=aj (ns.getD r ⟨#[]⟩)
   rw[hsr] at HN hy hR;have q1:=am r
   have q2:IntKind.i64.wrap ((r:Int) - 1)=(r:Int) - 1:=by rw[IntKind.wrap_i64];omega
   have q3:wrap64 ((r:Int) - 1)=(r:Int) - 1:=by unfold wrap64;omega
   clear e1 h0r
   gi_wp2_with (first|(refine⟨trivial,?_⟩;gi_at_fn gn;refine(callsIn_wide.2 HN.out).mono ?_;rintro e w' ⟨rfl,rfl⟩))
   refine hR.mono ?_;rintro e W3 (⟨rfl,hJ3,hk3⟩|⟨rfl,hJx3⟩)
   ·have HJ3:Hid (JY (Lk.down ns r) W3):=by
     show JY _ _
     rw[Lk.down_step (by omega),hsr];exact hJ3
    have HB3:=ak (HB.out.trans hk3);clear hJ3 hk3
    gi_wp2
    go_roundw
    case rel=>exact⟨r,by omega,by first|rfl|(simp;done)|(simp;omega),HJ3.out,HB3.out⟩
    case measure=>first|(simp[intOf];done)|(simp[intOf];omega)
   ·have HX:=ak hJx3;clear hJx3
    gi_wp2
    refine bodyPost_ret (results_none rfl _ _ _) rfl ?_;exact⟨⟨_,rfl⟩,.inr ⟨_,trivial,HX.out⟩⟩
end Go.Proofs.YtjobhjemnmleaaaGreatDoor
namespace Go.Proofs.YtjobhjemnmleaaaGreatDoor
open Go.RowKit Go.Shelf
open Go.Maps Go.WideShapes Go.ChangeShapes Go.WideMaps
attribute [local go_sem] Oper.semAt_some
theorem behind_any (c:Int)(gn:Nat)(lbn:Array Value)(w:World):
  Calls Tryz.prog 144 #[.int .i64 c,.func (.func gn) #[] lbn] w fun e w'=>e=.returned (.func (.func 177) #[] #[.pointer (some ⟨w.heap.size,0,none⟩),.pointer (some ⟨w.heap.size+1,0,none⟩)])∧(w.alloc (.cells #[.int .i64 c] 3)).alloc (.cells #[.func (.func gn) #[] lbn] 213)=w':=by
 go_enter Tryz.func144,Tryz.ntmps144
 go_wp2;go_ret
 exact⟨rfl,rfl⟩
def Lk.Old (w W:World):Prop:=∀p:Addr,p.block<w.heap.size→W.cell? p=w.cell? p
def Lk.Tells (gn:Nat)(lbn:Array Value)(ns:List ByteArray)(w:World):Prop:=
 ∀W' i,Lk.Old w W'→i<ns.length→Calls Tryz.prog gn (#[.int .i64 (i:Int)] ++ lbn) W' fun e w'=>e=.returned (.string (ns.getD i ⟨#[]⟩))∧W'=w'
def Lk.PlRet (ns:List ByteArray)(w:World)(e:Ending)(w':World):Prop:=
 ∃b,e=.returned (.map (some b))∧w.heap.size≤b∧MapF Tryz.prog 9 w' b ns.length (Lk.places ns)∧Below w.heap.size w w'
theorem wpListIn_store {F:Fence}{nF:Nat}{P:Program}(w:World){ops:Array Oper}{rest:List Oper}{o:Oper}{a:Act}{Q:Exit→Act→World→Prop}(hg:o.guard=none)(m x v:Operand)(t k e:TypeId)(hop:o.op=Op.mapUpdate t m x v)(hk:P.underlying k=some .string)(ht:P.underlying t=some (.map k e))
  (b n:Nat) (f:Mp.Fn) (s:ByteArray) (hs:s.size≤maxLen) (hn:n<maxLen) (val:Value) (hm:a.eval m=.map (some b)) (hx:a.eval x=.string s) (hv:a.eval v=val) (h:MapF P k w b n f)
  (hK:∀w',MapF P k w' b (n+1) (Mp.put f s val)→w.grownBy w' (some b)→wpListIn F nF P ops Q rest (a.put o.dst undef) w'):wpListIn F nF P ops Q (o :: rest) a w:=by
 obtain⟨D,hD,hf⟩:=h;refine wpListIn_mapUpdate_own w hg m x v t hop k e (string_keyed hk) ht Mp.rv b n D hm hD hn (.string s) val (Mp.kl s) hx hv (keyOf_string_mk hk hs) (.held val) [] rfl ?_;intro w' hD' hg';exact hK w' (MapF.put_ hD hf hD') hg'
theorem run_makeHint (c:Int)(W:World):(Instr.makeMap 166 (some (.int .i64 c))).run Tryz.prog W=.ok (.map (some W.heap.size)) (W.alloc (.map #[] 0)):=by
 simp[Instr.makeMap,run_underlying Tryz.underlying166]
 rfl
theorem clip_bound {α β:Type}(a:List α)(b:List β)(h:a.length<b.length)(hb:b.length≤1000000):a.length<maxLen:=by unfold maxLen;omega
theorem places_any (ns:List ByteArray)(hcount:ns.length≤1000000)(hsz:∀s∈ns,s.size≤maxLen)(gn:Nat)(lbn:Array Value)(eg:∀args w,(callFunc gn args).run Tryz.prog w=.ok (.enter gn args) w)(w:World)(hname:Lk.Tells gn lbn ns w):
  Calls Tryz.prog 105 #[.int .i64 (ns.length:Int),.func (.func gn) #[] lbn] w (Lk.PlRet ns w):=by
 have hmm:=run_makeHint (ns.length:Int);refine(callsIn_wide (n:=5)).1 ?_;refine callsIn_of_wp_marks Tryz.func105 rfl trivial ?_ rfl;simp only[Tryz.ntmps105,List.size_toArray,List.length_cons,List.length_nil,Nat.reduceAdd,Nat.reduceSub,Array.replicate_succ,Array.replicate_zero,List.push_toArray,List.append_toArray,List.nil_append,List.cons_append]
 gi_wp2_with (first|(refine⟨trivial,?_⟩;gi_at_call 144;refine(callsIn_wide.2 (behind_any _ _ _ _)).mono ?_;rintro e w' ⟨rfl,rfl⟩)|(gi_at_call 144;refine(callsIn_wide.2 (behind_any _ _ _ _)).mono ?_;rintro e w' ⟨rfl,rfl⟩))
 obtain⟨h,hh⟩:=aj (w.heap.size)
 have hB0:Below h w ((((w.alloc (.map #[] 0)).alloc (.cells #[.map (some h)] 166)).alloc (.cells #[.int .i64 (ns.length:Int)] 3)).alloc (.cells #[.func (.func gn) #[] lbn] 213)):=by
  have:=(((((Below.refl w.heap.size w).alloc (Nat.le_refl _) (.map #[] 0)).alloc (by simp) (.cells #[.map (some h)] 166)).alloc (by simp;omega) (.cells #[.int .i64 (ns.length:Int)] 3)).alloc (by simp;omega) (.cells #[.func (.func gn) #[] lbn] 213))
  rw[hh] at this;exact this
 have hM0:MapF Tryz.prog 9 ((((w.alloc (.map #[] 0)).alloc (.cells #[.map (some h)] 166)).alloc (.cells #[.int .i64 (ns.length:Int)] 3)).alloc (.cells #[.func (.func gn) #[] lbn] 213)) h 0 (fun _=>none):=by
  have:=(((MapF.made (P:=Tryz.prog) (k:=9) w).alloc (.cells #[.map (some h)] 166)).alloc (.cells #[.int .i64 (ns.length:Int)] 3)).alloc (.cells #[.func (.func gn) #[] lbn] 213);rw[hh] at this;exact this
 have k1:((((w.alloc (.map #[] 0)).alloc (.cells #[.map (some h)] 166)).alloc (.cells #[.int .i64 (ns.length:Int)] 3)).alloc (.cells #[.func (.func gn) #[] lbn] 213)).cell? ⟨h+1,0,none⟩=some (.map (some h)):=by
  have:=((At.new (w.alloc (.map #[] 0)) #[Value.map (some h)] 166).allocO (.cells #[.int .i64 (ns.length:Int)] 3)).allocO (.cells #[.func (.func gn) #[] lbn] 213);rw[World.size_alloc,hh] at this;exact this.cell 0 _ rfl
 have k2:((((w.alloc (.map #[] 0)).alloc (.cells #[.map (some h)] 166)).alloc (.cells #[.int .i64 (ns.length:Int)] 3)).alloc (.cells #[.func (.func gn) #[] lbn] 213)).cell? ⟨h+1+1,0,none⟩=some (.int .i64 (ns.length:Int)):=by
  have:=(At.new ((w.alloc (.map #[] 0)).alloc (.cells #[.map (some h)] 166)) #[Value.int .i64 (ns.length:Int)] 3).allocO (.cells #[.func (.func gn) #[] lbn] 213);rw[World.size_alloc,World.size_alloc,hh] at this;exact this.cell 0 _ rfl
 have k3:((((w.alloc (.map #[] 0)).alloc (.cells #[.map (some h)] 166)).alloc (.cells #[.int .i64 (ns.length:Int)] 3)).alloc (.cells #[.func (.func gn) #[] lbn] 213)).cell? ⟨h+1+1+1,0,none⟩=some (.func (.func gn) #[] lbn):=by
  have:=At.new (((w.alloc (.map #[] 0)).alloc (.cells #[.map (some h)] 166)).alloc (.cells #[.int .i64 (ns.length:Int)] 3)) #[Value.func (.func gn) #[] lbn] 213;rw[World.size_alloc,World.size_alloc,World.size_alloc,hh] at this;exact this.cell 0 _ rfl
 have k4:((((w.alloc (.map #[] 0)).alloc (.cells #[.map (some h)] 166)).alloc (.cells #[.int .i64 (ns.length:Int)] 3)).alloc (.cells #[.func (.func gn) #[] lbn] 213)).heap.size=h+4:=by
  rw[← hh];simp
 rw[hh];obtain⟨W0,hW0⟩:=aj (((((w.alloc (.map #[] 0)).alloc (.cells #[.map (some h)] 166)).alloc (.cells #[.int .i64 (ns.length:Int)] 3)).alloc (.cells #[.func (.func gn) #[] lbn] 213)))
 rw[hW0] at hB0 hM0 k1 k2 k3 k4 ⊢;clear hW0 hmm;refine wpIn_rangeFunc_ownG (F:=Fence.wide) (n:=5) rfl (by decide) (gf:=177) (lb:=#[.pointer (some ⟨h+1+1,0,none⟩),.pointer (some ⟨h+1+1+1,0,none⟩)]) rfl trivial (enters_of Tryz.func177 (by kernel_rfl) rfl)
  (encs:=fun x:Nat × ByteArray=>#[Value.int .i64 (x.1:Int),Value.string (Lk.clip x.2)]) (Kp:=Lk.But h (h+4)) (S:=fun ys=>ys=Lk.down ns 0) (Sp:=fun _=>True) (N:=ns.length) (w0:=W0)
  (fun l JY JX W hW _ _ hY h0=>behind1_in 4 (by decide) l (h+1+1) (h+1+1+1) h (h+4) ns hcount hsz gn lbn eg JY JX hY W ((hW.cell (p:=⟨h+1+1,0,none⟩) (by rw[k4];show h+1+1<h+4;omega)).trans k2) ((hW.cell (p:=⟨h+1+1+1,0,none⟩) (by rw[k4];show h+1+1+1<h+4;omega)).trans k3) ⟨by omega,by omega⟩ ⟨by omega,by omega⟩
   (fun W' i hb hi=>hname W' i (fun p hp=>(hb.cell (by omega) (by omega)).trans ((hW.cell (by rw[k4];omega)).trans (hB0.cell (by omega)))) hi) h0)
  (fun a b=>a.trans b) (Lk.But.put (by rw[k4];exact Nat.le_refl _)) (Below.refl _ _) (fun _=>rfl)
  (fun pre W=>((MapF Tryz.prog 9 W h pre.length (Lk.fn pre)∧W.cell? ⟨h+1,0,none⟩=some (.map (some h)))∧h+4≤W.heap.size)∧Below h w W)
  (fun _ _ _=>False)
  (OwnFrom.and (fun s A B row hs hg hr=>⟨⟨hs.1.1.kept hg (fun e=>by have:=(hr h e.symm).1;rw[k4] at this;omega),cell_kept hs.1.2 hg (fun r e=>(hr r e).2)⟩,Nat.le_trans hs.2 hg.size⟩) (ownFrom_below (by omega) (by rw[k4];omega)))
  (fun _ _ _ _ _ hs _ _=>hs)
  ⟨⟨⟨hM0,k1⟩,by rw[k4];exact Nat.le_refl _⟩,hB0⟩
  (fun x=>{ tmps:=#[.int .i64 (ns.length:Int),.func (.func gn) #[] lbn,undef,undef,.map none,.pointer (some ⟨h+1,0,none⟩),.int .i64 (x.1:Int),.string (Lk.clip x.2),.int .i64 (ns.length:Int),.map (some h),.int .i64 (ns.length:Int),.func (.func gn) #[] lbn,
   .func (.func 177) #[] #[.pointer (some ⟨h+1+1,0,none⟩),.pointer (some ⟨h+1+1+1,0,none⟩)],.int .i64 (x.1:Int),.string (Lk.clip x.2),undef,undef,undef,undef],defers:=[] }) ?assign ?body ?done ?stop
 case assign=>
  intro l x W K hK
  gi_wp2
  exact hK
 case body=>
  rintro l pre x W ⟨⟨⟨hM,hc⟩,hz⟩,hB⟩ hlen;have hn:=clip_bound pre ns hlen hcount
  gi_wp2_with (first|(gi_at_mapUpdate;refine wpListIn_store _ rfl _ _ _ 166 9 3 rfl Tryz.underlying9 Tryz.underlying166 h pre.length _ (Lk.clip x.2) (Lk.clip_le x.2) hn _ rfl rfl rfl hM ?_;intro w1 hM1 hg1))
  refine⟨KeepsFrom.of_grownBy hg1 (fun j e=>by cases e <;> (rw[k4];omega)),⟨hg1.size,fun k hk hb=>hg1.block k (by omega) (fun e=>hb (by cases e;rfl))⟩,⟨⟨?_,?_⟩,Nat.le_trans hz hg1.size⟩,hB.grown hg1 (by omega) (fun k e=>by cases e <;> omega)⟩
  ·rw[Lk.fn_snoc,List.length_append];exact hM1
  ·exact(World.cell?_of_block (a:=⟨h+1,0,none⟩) (hg1.block (h+1) (by omega) (fun e=>by cases e <;> omega))).trans hc
 case done=>
  rintro D ys W hD rfl ⟨⟨⟨hM,hc⟩,hz⟩,hB⟩ hK
  gi_wp2
  refine⟨by simp,.inl ⟨_,_,rfl,run_takeDeferred hK,?_⟩⟩;rw[k4] at hD;refine⟨_,results_tmp rfl _ _ _,h,rfl,by omega,?_,?_⟩
  ·have:=hM.kept (grownBy_putObj' W D (.deferred none)) (fun e=>by cases e <;> omega);rw[Lk.fn_all ns hsz] at this
   rwa[show (Lk.down ns 0).length=ns.length by unfold Lk.down;simp] at this
  ·rw[hh];exact hB.trans (belowK_b (w:=w) (by omega) W D _ _ (by omega) hK rfl rfl)
 case stop=>
  rintro D c pre W _ _ h _;exact h.elim
end Go.Proofs.YtjobhjemnmleaaaGreatDoor
namespace Go.Proofs.YtjobhjemnmleaaaGreatDoor
open Go.RowKit
namespace Lk
def zn (s:Src.S):List ByteArray:=s.zones.map fun z=>Src.bts z.1
def ln (s:Src.S):List ByteArray:=s.links.map fun k=>Src.bts k.2
def tg (s:Src.S):List ByteArray:=s.links.map fun k=>Src.bts k.1
end Lk
theorem of1_any (s:Src.S)(rv zv lv:Value)(evs:List Value)(g:Nat)(w:World)(hR:Src.SrcR w w.heap.size s rv zv lv evs)(hA:At w g [rv,zv,lv]):Lk.Tells 106 #[.pointer (some ⟨g,0,none⟩)] (Lk.zn s) w:=by
 intro W i hold hi;obtain⟨A,c,rfl,hn,hc,hr⟩:=hR.zones;have hlen:(s.zones.zip evs).length=s.zones.length:=by rw[List.length_zip,hR.len];omega
 have hi':i<s.zones.length:=by unfold Lk.zn at hi;simpa using hi
 obtain⟨ad,x,rfl,hab,Hx,HL⟩:=Ix.reads_cells (enc:=Src.zc) (m:=2) (fun _=>rfl) hlen hr hi';have hx:(Lk.zn s).getD i ⟨#[]⟩=Src.bts x.1.1:=by
  have h1:=Hx.out;rw[List.getElem?_zip_eq_some] at h1;unfold Lk.zn;rw[List.getD,List.getElem?_map,h1.1];rfl
 rw[hx];obtain⟨b,hb⟩:=aj (Src.bts x.1.1)
 have c0:W.cell? (ad.add (i*2))=some (.string b):=by
  have h1:=HL.out 0 _ rfl;rw[← hb];exact(hold _ (by rw[block_of_add];exact hab)).trans h1
 have c1:W.cell? ⟨g,1,none⟩=some (.slice (some ad) s.zones.length c):=(hold ⟨g,1,none⟩ hA.lt).trans (hA.cell 1 _ rfl);obtain⟨n,hn'⟩:∃n,s.zones.length=n:=⟨_,rfl⟩
 rw[hn'] at c1 hi';rw[hb];have q1:=am i
 have q2:(i:Int)<(n:Int):=by omega
 clear hR hA hold hi hn hc hr hlen Hx HL hx hb hn' hab;show Calls _ _ #[.int .i64 (i:Int),.pointer (some ⟨g,0,none⟩)] _ _
 go_enter Tryz.func106,Tryz.ntmps106
 go_wp2;go_ret
 exact⟨rfl,rfl⟩
theorem of2_any (s:Src.S)(rv zv lv:Value)(evs:List Value)(g:Nat)(w:World)(hR:Src.SrcR w w.heap.size s rv zv lv evs)(hA:At w g [rv,zv,lv]):Lk.Tells 107 #[.pointer (some ⟨g,0,none⟩)] (Lk.ln s) w:=by
 intro W i hold hi;obtain⟨A,c,rfl,hn,hc,hr⟩:=hR.links;have hi':i<s.links.length:=by unfold Lk.ln at hi;simpa using hi
 obtain⟨ad,x,rfl,hab,Hx,HL⟩:=Ix.reads_cells (enc:=Src.lc) (m:=2) (fun _=>rfl) rfl hr hi';have hx:(Lk.ln s).getD i ⟨#[]⟩=Src.bts x.2:=by
  unfold Lk.ln;rw[List.getD,List.getElem?_map,Hx.out];rfl
 rw[hx];obtain⟨b,hb⟩:=aj (Src.bts x.2)
 have c0:W.cell? ⟨(ad.add (i*2)).block,(ad.add (i*2)).off+1,none⟩=some (.string b):=by
  have h1:=HL.out 1 _ rfl;rw[← hb];exact(hold ⟨(ad.add (i*2)).block,(ad.add (i*2)).off+1,none⟩ (by rw[block_of_add];exact hab)).trans h1
 have c1:W.cell? ⟨g,2,none⟩=some (.slice (some ad) s.links.length c):=(hold ⟨g,2,none⟩ hA.lt).trans (hA.cell 2 _ rfl);obtain⟨n,hn'⟩:∃n,s.links.length=n:=⟨_,rfl⟩
 rw[hn'] at c1 hi';rw[hb];have q1:=am i
 have q2:(i:Int)<(n:Int):=by omega
 clear hR hA hold hi hn hc hr Hx HL hx hb hn' hab;show Calls _ _ #[.int .i64 (i:Int),.pointer (some ⟨g,0,none⟩)] _ _
 go_enter Tryz.func107,Tryz.ntmps107
 go_wp2;go_ret
 exact⟨rfl,rfl⟩
structure Lk.Fr (s:Src.S)(lv:Value)(w:World)(g bz bl bk n:Nat)(K:Mp.Fn):Prop where
 at_:At w g [lv,.map (some bz),.map (some bl),.map (some bk)]
 z:MapF Tryz.prog 9 w bz s.zones.length (Lk.places (Lk.zn s))
 l:MapF Tryz.prog 9 w bl s.links.length (Lk.places (Lk.ln s))
 k:MapF Tryz.prog 9 w bk n K
 ne1:bk≠bz
 ne2:bk≠bl
def Lk.OfRet (s:Src.S)(lv:Value)(w:World)(e:Ending)(w':World):Prop:=
 ∃g bz bl bk,e=.returned (.pointer (some ⟨g,0,none⟩))∧Lk.Fr s lv w' g bz bl bk 0 (fun _=>none)∧(w.heap.size≤g∧w.heap.size≤bk)∧Below w.heap.size w w'
section
variable {w0 W W':World} {h:Nat} {a b c:Value}
theorem Lk.sw_alloc (hs:W.cell? ⟨h,0,none⟩=some a∧W.cell? ⟨h,1,none⟩=some b∧W.cell? ⟨h,2,none⟩=some c∧Hid (h<w0.heap.size∧Below w0.heap.size w0 W))(o:Obj):
  (W.alloc o).cell? ⟨h,0,none⟩=some a∧(W.alloc o).cell? ⟨h,1,none⟩=some b∧(W.alloc o).cell? ⟨h,2,none⟩=some c∧Hid (h<w0.heap.size∧Below w0.heap.size w0 (W.alloc o)):=by
 obtain⟨h0,h1,h2,hl,hb⟩:=hs;have hlt:h<W.heap.size:=Nat.lt_of_lt_of_le hl hb.size;exact⟨(World.cell?_alloc_lt W o ⟨h,0,none⟩ hlt).trans h0,(World.cell?_alloc_lt W o ⟨h,1,none⟩ hlt).trans h1,(World.cell?_alloc_lt W o ⟨h,2,none⟩ hlt).trans h2,hl,hb.alloc hb.size o⟩
theorem Lk.sw_below (hs:W.cell? ⟨h,0,none⟩=some a∧W.cell? ⟨h,1,none⟩=some b∧W.cell? ⟨h,2,none⟩=some c∧Hid (h<w0.heap.size∧Below w0.heap.size w0 W))(k:Below W.heap.size W W'):
  W'.cell? ⟨h,0,none⟩=some a∧W'.cell? ⟨h,1,none⟩=some b∧W'.cell? ⟨h,2,none⟩=some c∧Hid (h<w0.heap.size∧Below w0.heap.size w0 W'):=by
 obtain⟨h0,h1,h2,hl,hb⟩:=hs;have hlt:h<W.heap.size:=Nat.lt_of_lt_of_le hl hb.size;exact⟨(k.cell (p:=⟨h,0,none⟩) hlt).trans h0,(k.cell (p:=⟨h,1,none⟩) hlt).trans h1,(k.cell (p:=⟨h,2,none⟩) hlt).trans h2,hl,hb.trans (k.mono hb.size)⟩
end
theorem Lk.of_end {s:Src.S}{lv a b c:Value}{w w0 WX W9:World}{h g bz bl bk:Nat}(hg:g=WX.heap.size)(hw:Below w.heap.size w w0)(hh:w.heap.size=h)(h9:W9=WX.alloc (.cells #[lv,.map (some bz),.map (some bl),.map (some bk)] 216))
  (hS:W9.cell? ⟨h,0,none⟩=some a∧W9.cell? ⟨h,1,none⟩=some b∧W9.cell? ⟨h,2,none⟩=some c∧Hid (h<w0.heap.size∧Below w0.heap.size w0 W9))
  (hz:MapF Tryz.prog 9 WX bz (Lk.zn s).length (Lk.places (Lk.zn s))) (hl:MapF Tryz.prog 9 WX bl (Lk.ln s).length (Lk.places (Lk.ln s))) (hk:MapF Tryz.prog 9 WX bk 0 (fun _=>none)) (h1:bk≠bz) (h2:bk≠bl) (h3:w0.heap.size≤bk):
  Lk.OfRet s lv w (.returned (.pointer (some ⟨g,0,none⟩))) W9:=by
 subst hg h9;have ez:(Lk.zn s).length=s.zones.length:=by unfold Lk.zn;simp
 have el:(Lk.ln s).length=s.links.length:=by unfold Lk.ln;simp
 rw[ez] at hz;rw[el] at hl;have hb:=hw.trans (hS.2.2.2.2.mono hw.size);have hs:=hS.2.2.2.2.size;have hlt:=hS.2.2.2.1;rw[World.size_alloc] at hs;have hsz:=hw.size;exact⟨WX.heap.size,bz,bl,bk,rfl,⟨At.new WX #[lv,.map (some bz),.map (some bl),.map (some bk)] 216,hz.alloc _,hl.alloc _,hk.alloc _,h1,h2⟩,⟨by omega,by omega⟩,hb⟩
theorem linkOf_any (s:Src.S)(rv zv lv:Value)(evs:List Value)(w:World)(hR:Src.SrcR w w.heap.size s rv zv lv evs)(hL:s.zones.length≤1000000∧s.links.length≤1000000)(hsz:∀x∈Lk.zn s,x.size≤maxLen)(hsl:∀x∈Lk.ln s,x.size≤maxLen):
  Calls Tryz.prog 62 #[.agg #[rv,zv,lv]] w (Lk.OfRet s lv w):=by
 have hz:=fun(W:World) (h:Nat) (hR:Src.SrcR W W.heap.size s rv zv lv evs) (hA:At W h [rv,zv,lv])=>places_any (Lk.zn s) (by unfold Lk.zn;simpa using hL.1) hsz 106 #[.pointer (some ⟨h,0,none⟩)] (enters_of Tryz.func106 (by kernel_rfl) rfl) W (of1_any s rv zv lv evs h W hR hA)
 have hl:=fun(W:World) (h:Nat) (hR:Src.SrcR W W.heap.size s rv zv lv evs) (hA:At W h [rv,zv,lv])=>places_any (Lk.ln s) (by unfold Lk.ln;simpa using hL.2) hsl 107 #[.pointer (some ⟨h,0,none⟩)] (enters_of Tryz.func107 (by kernel_rfl) rfl) W (of2_any s rv zv lv evs h W hR hA)
 have ez:(Lk.zn s).length=s.zones.length:=by unfold Lk.zn;simp
 have el:(Lk.ln s).length=s.links.length:=by unfold Lk.ln;simp
 simp only[ez] at hz;simp only[el] at hl;have hA0:=At.new w #[rv,zv,lv] 26;have hB0:=(Below.refl w.heap.size w).alloc (Nat.le_refl _) (.cells #[rv,zv,lv] 26);have hR0:=(hR.below hB0).more hB0.size;obtain⟨h,hh⟩:=aj (w.heap.size)
 obtain⟨rA,rc,rfl,_⟩:=hR.rules;obtain⟨zA,zc,rfl,_⟩:=hR.zones;obtain⟨lA,lc,rfl,_⟩:=hR.links;obtain⟨nr,hnr⟩:=aj (s.rules.length)
 obtain⟨nz,hnz⟩:=aj (s.zones.length)
 obtain⟨nl,hnl⟩:=aj (s.links.length)
 rw[hh] at hA0;simp only[hnr,hnz,hnl] at hz hl hA0 hR0 hB0 ⊢;obtain⟨w0,hw0⟩:=aj (w.alloc (.cells #[.slice rA nr rc,.slice zA nz zc,.slice lA nl lc] 26))
 rw[hw0] at hA0 hB0 hR0;have HZ:Hid (∀W,W.cell? ⟨h,0,none⟩=some (.slice rA nr rc)∧W.cell? ⟨h,1,none⟩=some (.slice zA nz zc)∧W.cell? ⟨h,2,none⟩=some (.slice lA nl lc)∧Hid (h<w0.heap.size∧Below w0.heap.size w0 W)→
   Calls Tryz.prog 105 #[.int .i64 (nz:Int),.func (.func 106) #[] #[.pointer (some ⟨h,0,none⟩)]] W (Lk.PlRet (Lk.zn s) W)):=fun W hs=>hz W h (hR0.call hs.2.2.2.2) (hA0.call hs.2.2.2.2)
 have HL:Hid (∀W,W.cell? ⟨h,0,none⟩=some (.slice rA nr rc)∧W.cell? ⟨h,1,none⟩=some (.slice zA nz zc)∧W.cell? ⟨h,2,none⟩=some (.slice lA nl lc)∧Hid (h<w0.heap.size∧Below w0.heap.size w0 W)→
   Calls Tryz.prog 105 #[.int .i64 (nl:Int),.func (.func 107) #[] #[.pointer (some ⟨h,0,none⟩)]] W (Lk.PlRet (Lk.ln s) W)):=fun W hs=>hl W h (hR0.call hs.2.2.2.2) (hA0.call hs.2.2.2.2)
 have S0:w0.cell? ⟨h,0,none⟩=some (.slice rA nr rc)∧w0.cell? ⟨h,1,none⟩=some (.slice zA nz zc)∧w0.cell? ⟨h,2,none⟩=some (.slice lA nl lc)∧Hid (h<w0.heap.size∧Below w0.heap.size w0 w0):=
  ⟨hA0.cell 0 _ rfl,hA0.cell 1 _ rfl,hA0.cell 2 _ rfl,hA0.lt,Below.refl _ _⟩
 have HW0:=ak hw0;have HH:=ak hh;have HB0:=ak hB0;have HE:=ak (And.intro (ez.trans hnz) (And.intro (el.trans hnl) (And.intro hnz hnl)));have HS0:=ak S0;clear hz hl hA0 hR0 hB0 hw0 hh ez el hnr hnz hnl hR hsz hsl hL S0;have hmk:=@run_makeMap Tryz.prog;go_enter Tryz.func62,Tryz.ntmps62
 go_wp2_with fail
 rw[HW0.out,HH.out];have S1:w0.drew.cell? ⟨h,0,none⟩=some (.slice rA nr rc)∧w0.drew.cell? ⟨h,1,none⟩=some (.slice zA nz zc)∧w0.drew.cell? ⟨h,2,none⟩=some (.slice lA nl lc)∧Hid (h<w0.heap.size∧Below w0.heap.size w0 w0.drew):=⟨HS0.out.1,HS0.out.2.1,HS0.out.2.2.1,HS0.out.2.2.2.1,(Below.refl _ _).drew⟩
 go_region_held3 (fun w'=>w'.cell? ⟨h,0,none⟩=some (.slice rA nr rc)∧w'.cell? ⟨h,1,none⟩=some (.slice zA nz zc)∧w'.cell? ⟨h,2,none⟩=some (.slice lA nl lc)∧Hid (h<w0.heap.size∧Below w0.heap.size w0 w')) (first|assumption|exact S1|exact Lk.sw_alloc (by assumption) _|exact Lk.sw_below (by assumption) hbq)
  (first|(go_at_call_of 105 nz;refine(HZ.out _ (by assumption)).mono ?_;rintro e wz ⟨bz,rfl,hz0,hMz,hbq⟩;have hbz:=hbq)|(go_at_call_of 105 nl;refine(HL.out _ (by assumption)).mono ?_;rintro e wl ⟨bl,rfl,hl0,hMl,hbq⟩;have hbl:=hbq))
 all_goals
  go_wp2;go_ret
  have d0:w0.drew.heap.size=w0.heap.size:=rfl;have d5:(w0.alloc (.map #[] 0)).drew.heap.size=w0.heap.size+1:=by
   show (w0.alloc (.map #[] 0)).heap.size=_
   rw[World.size_alloc]
  have d1:=hMz.lt;have d2:=hMl.lt;have d3:=hbz.size;have d4:=hbl.size
  try simp only[World.size_alloc] at d3
  try simp only[World.size_alloc] at d4
  try simp only[World.size_alloc] at hz0
  try simp only[World.size_alloc] at hl0
  refine Lk.of_end (w0:=w0) (h:=h) ?_ HB0.out HH.out rfl (by assumption) ?_ ?_ ?_ ?_ ?_ ?_
  ·first|rfl|(simp;done)
  ·repeat (first|exact hMz|refine MapF.alloc ?_ _|refine MapF.below ?_ hbl|refine MapF.below ?_ hbz)
  ·repeat (first|exact hMl|refine MapF.alloc ?_ _|refine MapF.below ?_ hbl|refine MapF.below ?_ hbz)
  ·repeat (first|exact MapF.made _|refine MapF.alloc ?_ _|refine MapF.below ?_ hbl|refine MapF.below ?_ hbz)
  ·omega
  ·omega
  ·omega
end Go.Proofs.YtjobhjemnmleaaaGreatDoor
namespace Go.Proofs.YtjobhjemnmleaaaGreatDoor
open Go.RowKit
section
variable {a b c:World} {row row':Option Nat}
theorem gb_then (h:a.grownBy b row)(k:b.grownBy c row')(hr:∀j,row'=some j→a.heap.size≤j∨row=some j):a.grownBy c row:=
 ⟨k.os.trans h.os,k.tape.trans h.tape,k.output.trans h.output,Nat.le_trans h.size k.size,fun i hi hne=>(k.block i (Nat.lt_of_lt_of_le hi h.size) (fun e=>by
  rcases hr i e.symm with h1|h1
  ·omega
  ·exact hne h1.symm)).trans (h.block i hi hne)⟩
theorem gb_alloc (h:a.grownBy b row)(o:Obj):a.grownBy (b.alloc o) row:=gb_then h (World.grownBy_alloc b o none) (fun j e=>by cases e)
theorem gb_drew (h:a.grownBy b row):a.grownBy b.drew row:=⟨h.os,h.tape,h.output,h.size,h.block⟩
theorem gb_set (h:a.grownBy b row){p:Addr}(hp:a.heap.size≤p.block)(v:Value):a.grownBy (b.setCell p v) row:=
 ⟨h.os,h.tape,h.output,by rw[heap_set];exact h.size,fun i hi hne=>(Below.heap_setCell b p v i (by omega)).trans (h.block i hi hne)⟩
end
theorem MapF.not_cells {P:Program}{k:TypeId}{w:World}{b n:Nat}{f:Mp.Fn}(h:MapF P k w b n f):∃o:Obj,w.heap[b]?=some o∧o.isCells=false:=by
 obtain⟨D,⟨es,clock,hb,_⟩,_⟩:=h;exact⟨_,hb,rfl⟩
theorem MapF.keeps {P:Program}{k:TypeId}{w w':World}{b n:Nat}{f:Mp.Fn}(h:MapF P k w b n f)(hg:w.grownBy w' (some b)){p:Addr}{v:Value}(hc:w.cell? p=some v):w'.cell? p=some v:=
 cell_kept hc hg (fun r e=>by cases e;exact h.not_cells)
theorem Reads.beside {P:Program}{k:TypeId}{w w':World}{b n:Nat}{f:Mp.Fn}{B size m:Nat}{A:Option Addr}{xs:List Value}(hr:Reads w B size A m xs)(h:MapF P k w b n f)(hg:w.grownBy w' (some b)):Reads w' B size A m xs:=
 ⟨hr.1,fun hn=>by
  obtain⟨ad,e,hb,hc⟩:=hr.2 hn;exact⟨ad,e,hb,fun j u hu=>h.keeps hg (hc j u hu)⟩⟩
theorem At.ne_map {P:Program}{k:TypeId}{w:World}{b n g:Nat}{f:Mp.Fn}{x:Value}{xs:List Value}(hA:At w g (x :: xs))(h:MapF P k w b n f):g≠b:=by
 intro e;subst e;obtain⟨o,ho,hc⟩:=h.not_cells;obtain⟨o',ho',hc'⟩:=cells_of_cell (hA.cell 0 x rfl);rw[show (⟨g,0,none⟩:Addr).block=g from rfl,ho] at ho';cases ho'
 rw[hc] at hc';cases hc'
theorem name_append {ops:Array Oper}{rest:List Oper}{o:Oper}{a:Act}{Q:Exit→Act→World→Prop}(W:World)(B n:Nat)(xs:List Value)(v:Value)(s:ByteArray)(x y:Nat)
  (hO:W.ownsRow B 9 1 v n xs) (hl:n≤2000000) (hB:B≤W.heap.size) (hgd:o.guard=none)
  (ho:o.op=.call { callee:=.builtin .append,args:=#[.tmp x,.tmp y],argTypes:=#[38,38] }) (hs:a.eval (.tmp x)=v) (hx:a.eval (.tmp y)=.slice (some ⟨W.heap.size,0,none⟩) 1 1)
  (h:∀v' w',w'.ownsRow B 9 1 v' (n+1) (xs ++ [.string s])→Below B W w'→(∀g xs,At W g xs→v.ownBlock≠some g→At w' g xs∧v'.ownBlock≠some g)→(W.alloc (.cells #[.string s] 9)).grownBy w' v.ownBlock→wpList Tryz.prog ops Q rest (a.put o.dst v') w'):
  wpList Tryz.prog ops Q (o :: rest) a (W.alloc (.cells #[.string s] 9)):=by
 obtain⟨i0,hi0,hz0,hz1,hz2⟩:∃i,Tryz.prog.info? 9=some i∧i.zero=some (.string ⟨#[]⟩)∧i.size=1∧i.bytes=16:=by
  have h:(Tryz.prog.info? 9).map (fun i=>(i.zero,i.size,i.bytes))=some (some (.string ⟨#[]⟩),1,16):=by kernel_rfl
  cases hc:Tryz.prog.info? 9 with
  |none=>rw[hc] at h;cases h
  |some i=>
   rw[hc] at h;simp only[Option.map_some,Option.some.injEq,Prod.mk.injEq] at h;exact⟨i,rfl,h.1,h.2.1,h.2.2⟩
 have hR:Reads (W.alloc (.cells #[.string s] 9)) (W.heap.size+1) 1 (some ⟨W.heap.size,0,none⟩) 1 [.string s]:=by
  refine⟨by simp,fun _=>⟨_,rfl,Nat.lt_succ_self _,fun j u hu=>?_⟩⟩;have e:(⟨W.heap.size,0,none⟩:Addr).add j=⟨W.heap.size,j,none⟩:=by
   unfold Addr.add;split
   ·subst_vars;rfl
   ·simp
  rw[e];exact(At.new W #[.string s] 9).cell j u hu
 refine wpList_append_any (P:=Tryz.prog) _ hgd (.tmp x) (.tmp y) 38 ho B 9 i0 _ 1 16 Tryz.underlying38 hi0 hz0 hz1 hz2 rfl (by omega) v n xs hs (hO.alloc _) (W.heap.size+1) _ 1 1 _ hx hR (by simp[Value.oneCell']) (by unfold maxLen;omega) (by omega) (by rw[World.size_alloc];omega) ?_;intro v' w' hown hg hat;refine h v' w' hown (((Below.refl B W).alloc hB _).grown hg (by rw[World.size_alloc];omega) (fun g e=>(hO.lt g e).1)) ?_ hg;intro g xs hA hne;have hA':=hA.allocO (.cells #[.string s] 9);refine⟨⟨Nat.lt_of_lt_of_le hA'.1 hg.size,fun i v hi=>⟨(World.cell?_of_block (a:=⟨g,i,none⟩) (hg.block g hA'.1 (fun e=>hne e.symm))).trans (hA'.2 i v hi).1,(World.frozen?_of_block (a:=⟨g,i,none⟩) (hg.block g hA'.1 (fun e=>hne e.symm))).trans (hA'.2 i v hi).2⟩⟩,?_⟩;rcases hat with e|e
 ·rw[e];exact hne
 ·rw[e,World.size_alloc];intro e2;have:=hA.lt
  injection e2 with e2
  omega
theorem Lk.at_kept {w w':World}{g:Nat}{xs:List Value}{row:Option Nat}(h:At w g xs)(hg:w.grownBy w' row)(hne:some g≠row):At w' g xs:=
 ⟨Nat.lt_of_lt_of_le h.1 hg.size,fun i v hi=>⟨(World.cell?_of_block (a:=⟨g,i,none⟩) (hg.block g h.1 hne)).trans (h.2 i v hi).1,(World.frozen?_of_block (a:=⟨g,i,none⟩) (hg.block g h.1 hne)).trans (h.2 i v hi).2⟩⟩
theorem Lk.at_kept2 {P:Program}{k:TypeId}{w w':World}{g b n:Nat}{x:Value}{xs:List Value}{f:Mp.Fn}(h:At w g (x :: xs))(hm:MapF P k w b n f)(hg:w.grownBy w' (some b)):At w' g (x :: xs):=
 Lk.at_kept h hg (fun e=>h.ne_map hm (by injection e))
def nameLen (v:Value):Nat:=match v with|.slice _ n _=>n|_=>0
structure Lk.FAt (s:Src.S)(w:World)(h bk n:Nat)(K:Lk.Kn)(x:ByteArray)(y v b:Value)(wr:World):Prop where
 st:∃(name:ByteArray) (done:List ByteArray) (f:Nat),y=.string name∧name.size≤maxLen∧f+1+done.length=s.links.length+1+1∧done.Nodup∧(∀d∈done,d∈Lk.ln s)∧
  wr.ownsRow w.heap.size 9 1 v done.length (done.map Value.string)∧
  Lk.find (Lk.zn s) (Lk.ln s) (Lk.tg s) (s.links.length+1) K x=(done ++ (Lk.find (Lk.zn s) (Lk.ln s) (Lk.tg s) f (Lk.marks K done Lk.loop) name).1,(Lk.find (Lk.zn s) (Lk.ln s) (Lk.tg s) f (Lk.marks K done Lk.loop) name).2)∧
  b=.bool (Lk.marks K done Lk.loop name).isSome∧
  At wr (h+1) [.int .i64 ((Lk.marks K done Lk.loop name).getD (0,0)).1,.int .i64 ((Lk.marks K done Lk.loop name).getD (0,0)).2]∧
  MapF Tryz.prog 9 wr bk (n+done.length) (Lk.kf (Lk.marks K done Lk.loop))
 res:At wr h [.int .i64 0,.int .i64 0]
 own:∀g,v.ownBlock=some g→g≠h∧g≠h+1
 gb:w.grownBy wr (some bk)
structure Lk.FEnd (s:Src.S)(w:World)(h bk n:Nat)(K:Lk.Kn)(r:List ByteArray × Lk.Fd)(v:Value)(wr:World):Prop where
 row:wr.ownsRow w.heap.size 9 1 v r.1.length (r.1.map Value.string)
 end_:At wr (h+1) [.int .i64 r.2.1,.int .i64 r.2.2]
 map:MapF Tryz.prog 9 wr bk (n+r.1.length) (Lk.kf (Lk.marks K r.1 Lk.loop))
 res:At wr h [.int .i64 0,.int .i64 0]
 own:∀g,v.ownBlock=some g→g≠h∧g≠h+1
 gb:w.grownBy wr (some bk)
def Lk.FdR (s:Src.S)(lv:Value)(g bz bl bk n:Nat)(K:Lk.Kn)(R:List ByteArray × Lk.Fd)(w:World)(e:Ending)(w':World):Prop:=
 (∃A c,e=.returned (.tuple #[.slice A R.1.length c,.agg #[.int .i64 R.2.1,.int .i64 R.2.2]])∧Reads w' w'.heap.size 1 A R.1.length (R.1.map Value.string))∧
 Lk.Fr s lv w' g bz bl bk (n+R.1.length+R.1.length) (Lk.kf (Lk.marks K R.1 R.2))∧w.grownBy w' (some bk)
structure Lk.SAt (s:Src.S)(w:World)(h bk n:Nat)(K:Lk.Kn)(R:List ByteArray × Lk.Fd)(A:Option Addr)(L c:Nat)(i:Value)(wr:World):Prop where
 st:∃k:Nat,k≤L∧i=.int .i64 k∧MapF Tryz.prog 9 wr bk (n+L+k) (Lk.kf (Lk.marks (Lk.marks K R.1 Lk.loop) (R.1.take k) R.2))
 row:wr.ownsRow w.heap.size 9 1 (.slice A L c) L (R.1.map Value.string)
 end_:At wr (h+1) [.int .i64 R.2.1,.int .i64 R.2.2]
 res:At wr h [.int .i64 0,.int .i64 0]
 gb:w.grownBy wr (some bk)
theorem Lk.find_len (zn ln tg:List ByteArray):∀(f:Nat) (K:Lk.Kn) (x:ByteArray),(Lk.find zn ln tg f K x).1.length≤f
 |0,_,_=>Nat.le_refl _
 |f+1,K,x=>by
  unfold Lk.find;split
  ·exact Nat.zero_le _
  ·split
   ·simp
   ·split
    ·simp
    ·have:=Lk.find_len zn ln tg f;simp only[List.length_cons];exact Nat.succ_le_succ (this _ _)
theorem Lk.find_size (zn ln tg:List ByteArray):∀(f:Nat) (K:Lk.Kn) (x:ByteArray),x.size≤maxLen→(∀y∈tg,y.size≤maxLen)→∀y∈(Lk.find zn ln tg f K x).1,y.size≤maxLen
 |0,_,_,_,_=>fun y hy=>by cases hy
 |f+1,K,x,hx,ht=>by
  unfold Lk.find;split
  ·exact fun y hy=>by cases hy
  ·split
   ·intro y hy;have:y=x:=by simpa using hy
    rw[this];exact hx
   ·split
    ·intro y hy;have:y=x:=by simpa using hy
     rw[this];exact hx
    ·rename_i j _
     intro y hy;simp only[List.mem_cons] at hy;rcases hy with rfl|hy
     ·exact hx
     ·refine Lk.find_size zn ln tg f _ _ ?_ ht y hy;rw[List.getD];cases hj:tg[j]? with
      |none=>exact Nat.zero_le _
      |some z=>exact ht z (List.mem_of_getElem? hj)
theorem nameLen_own {w:World}{base:Nat}{e:TypeId}{size n:Nat}{v:Value}{xs:List Value}(h:w.ownsRow base e size v n xs):nameLen v=n:=by
 obtain⟨A,c,rfl,_⟩:=own_slice h;rfl
theorem store_run {w:World}{b n:Nat}{K:Lk.Kn}(h:MapF Tryz.prog 9 w b n (Lk.kf K)){s:ByteArray}(hs:s.size≤maxLen)(hn:n<maxLen)(e:Lk.Fd):
  ∃w',(Instr.mapUpdate 214 (.map (some b)) (.string s) (.agg #[.int .i64 e.1,.int .i64 e.2])).run Tryz.prog w=.ok () w'∧MapF Tryz.prog 9 w' b (n+1) (Lk.kf (Lk.mark K s e))∧w.grownBy w' (some b):=by
 obtain⟨D,hD,hf⟩:=h;obtain⟨w',hrun,hD',hg'⟩:=hD.update (Maps.string_keyed Tryz.underlying9) Tryz.underlying214 hn (WideMaps.keyOf_string_mk Tryz.underlying9 hs) (val:=.agg #[.int .i64 e.1,.int .i64 e.2]) (d:=.held (.agg #[.int .i64 e.1,.int .i64 e.2])) (ps:=[]) rfl;have:=MapF.put_ hD hf hD';rw[Lk.kf_put] at this;exact⟨w',hrun,this,hg'⟩
theorem Lk.fend {s:Src.S}{w w10:World}{h bk n:Nat}{K:Lk.Kn}{R:List ByteArray × Lk.Fd}{done:List ByteArray}{name:ByteArray}{e:Lk.Fd}{v9:Value}{a b:Value}(hh:w.heap.size=h)(hkl:bk<w.heap.size)(hEq:(done ++ [name],e)=R)
  (hOb:w10.ownsRow w.heap.size 9 1 v9 (done.length+1) (done.map Value.string ++ [.string name])) (hMb:MapF Tryz.prog 9 w10 bk (n+done.length+1) (Lk.kf (Lk.mark (Lk.marks K done Lk.loop) name Lk.loop)))
  (hEb:At w10 (h+1) [a,b]) (hRb:At w10 h [.int .i64 0,.int .i64 0]) (hva:v9.ownBlock≠some (h+1)) (hvb:v9.ownBlock≠some h) (gbb:w.grownBy w10 (some bk)):
  Lk.FEnd s w h bk n K R v9 ((w10.setCell ⟨h+1,0,none⟩ (.int .i64 e.1)).setCell ⟨h+1,1,none⟩ (.int .i64 e.2)):=by
 subst hEq;refine⟨?_,?_,?_,?_,?_,?_⟩
 ·rw[List.length_append,List.map_append];exact ownsRow_setCell_other (ownsRow_setCell_other hOb (a:=⟨h+1,0,none⟩) hva _) (a:=⟨h+1,1,none⟩) hva _
 ·exact(hEb.set 0 _).set 1 _
 ·rw[Lk.marks_snoc] at hMb;rw[List.length_append];exact(hMb.setCell (a:=⟨h+1,0,none⟩) (by show bk≠h+1;omega) _).setCell (a:=⟨h+1,1,none⟩) (by show bk≠h+1;omega) _
 ·exact(hRb.set_other ⟨h+1,0,none⟩ _ (by show h+1≠h;omega)).set_other ⟨h+1,1,none⟩ _ (by show h+1≠h;omega)
 ·intro g' e';exact⟨fun x=>hvb (by rw[e',x]),fun x=>hva (by rw[e',x])⟩
 ·exact gb_set (gb_set gbb (p:=⟨h+1,0,none⟩) (by show w.heap.size≤h+1;omega) _) (p:=⟨h+1,1,none⟩) (by show w.heap.size≤h+1;omega) _
end Go.Proofs.YtjobhjemnmleaaaGreatDoor
