/- packed -/
import Derived.Shelf.LaysM
import Derived.Shelf.Bytes.TryGrowAt
import Derived.Shelf.Bytes.GrowSliceCatch
import Derived.Lib.ByteType
import Derived.Lib.BufferAt
import Derived.Lib.BufferOwn
import Derived.Lib.AppendZeros
import Derived.Lib.Walk
import Derived.Lib.Hide
import Derived.Laws.CopyRow
import Derived.Laws.IdiomCopy
import Derived.Laws.MakeOwn
import Derived.WalkKit
import Derived.OwnWalk
import Derived.Defers
import Derived.Recover
import Derived.RegionTactic
import Derived.Shelf.RegionOpenPlain
import Derived.Deep.RegionWith
import Derived.Deep.Draws
import Derived.BigCall
import Derived.BigGuard
import Derived.Lib.BufferSrc
import Derived.Test.YtfemfbchakdidaaGreatDoorMq4
import Derived.Test.YtfemfbchakdidaaGreatDoorMq2
import Derived.Test.YtfemfbchakdidaaGreatDoorProg
import Derived.Test.YtfemfbchakdidaaGreatDoorMq3
set_option linter.defProp false
set_option linter.unusedSectionVars false
set_option linter.unusedSimpArgs false
set_option linter.unusedVariables false
open Option.some renaming injEq→Xa,inj→WO
open Nat renaming reduceEqDiff→Xb,reduceLT→Xc,reduceAdd→Xe,reduceLeDiff→Xf,reduceBEq→Xg,le_refl→Xx,zero_add→XE,add_zero→Wb,lt_or_ge→Wx,reduceSub→WH,add_eq_zero_iff→Xab,one_mul→Xah,le_add_right→Xam,succ_ne_self→Xan,zero_le→Xao,mul_one→Xa2
open Prod.mk renaming injEq→Xd
open List renaming getD_eq_getElem?_getD→Xh,length_append→Xk,getElem?_eq_some_iff→Xl,getElem?_set_ne→Xm,append_nil→Xp,map_cons→Xt,getD_cons_zero→Xu,getElem?_set→Xv,lookup_nil→Xw,eq_nil_of_length_eq_zero→Xz,nil_append→XD,length_nil→XG,length_cons→XH,getElem?_cons_zero→XI,flatMap_cons→XJ,lookup_cons→XK,map_nil→XM,take_of_length_le→XN,getD_cons_succ→XO,all_cons→XP,getElem?_eq_none→XQ,getElem?_cons_succ→XR,length_map→XT,cons_append→XY,flatMap_nil→XZ,getElem?_set_self→X5,length_drop→X6,range→X9,drop_eq_nil_iff→Wc,take_append_of_le_length→Wi,all_nil→Wj,length_take→Wl,append_assoc→Wo,isEmpty_cons→Wp,map_append→Wq,contains_cons→WA,set_cons_zero→WP,set_cons_succ→WQ,contains_nil→WX,length→W3,take_zero→Xak,range_zero→Xau,any_cons→Xaw,any_nil→XaE,take_length→XaG,set_set→Xa4
open Bool renaming false_eq_true→Xi,and_eq_true→Xj,and_self→X0,and_true→Xaj,or_false→XaJ
open Int renaming reduceBEq→Xq,reduceLT→X4
open Or renaming inl→Xr,inr→Xy
open BitVec renaming ofInt→XB
open Array renaming length_toList→XL,toList_inj→XaH
open Option renaming bind_some→Wk
open List.range renaming loop→XaL
namespace Go.Proofs.YtfemfbchakdidaaGreatDoor
set_option maxHeartbeats 16000000
set_option maxRecDepth 10000
section
open Go.Shelf Go.RowKit
section
variable {P:Program} {ρ:Ren}
theorem ZlM (W:World) (dT sT ty elem:TypeId) (g o dLen dCap:Nat) (A:Option Addr) (sLen sCap:Nat) (cur:Array Value) (t:TypeId) (cs:List Value)
  (hu:P.underlying dT=some (.slice elem)) (hs:(P.info? elem).map (·.size)=some 1) (hg:W.heap[g]?=some (.cells cur t (0,0))) (hn:cs.length=sLen) (hd:sLen<=dLen)
  (hsrc:sLen=0\/∃ a,A=some a/\∀ j v,cs[j]?=some v->W.cell? (a.add j)=some v) (hfit:o+cs.length<=cur.size) (h1:∀ v ∈ cs,v.oneCell'=true) :
  ∃ W2 Y,(Builtin.copy_ #[dT,sT] ty #[.slice (some ⟨g,o,none⟩) dLen dCap,.slice A sLen sCap]).run P W=.ok (goInt sLen) W2/\W2.heap[g]?=some (.cells Y t (0,0)) /\
   Y.toList=cur.toList.take o++cs++cur.toList.drop (o+sLen)/\W.grownBy W2 (some g)/\W2.heap.size=W.heap.size:=by
 rcases hsrc with h0 | ⟨a,rfl,hsrc⟩
 ·have hc:cs=[]:=Xz (by omega)
  subst hc
  subst h0
  exact ⟨W,cur,run_copy_none W dT sT ty elem _ _ _ _ _ _ hu hs (by simp),hg,by simp,⟨rfl,rfl,rfl,Xx _,fun _ _ _=>rfl⟩,rfl⟩
 ·have h:=run_copy_row (P:=P) W dT sT ty elem g o dLen dCap a sLen sCap cur t cs hu hs hg (by rw [hn];exact (Nat.min_eq_left hd).symm) hsrc hfit h1
  rw [hn] at h
  refine ⟨_,_,h,setRow_heap _ _ _ _ _ _ hg,by simp,⟨rfl,rfl,rfl,by simp,fun k _ hk=>setRow_other _ _ _ _ (fun e=>hk (by rw [e]))⟩,by simp⟩
set_option maxRecDepth 100000 in
theorem Zn4 (L:LaysM.n290 P ρ) (A:Option Addr) (l c n:Nat) (olds:List Value) (w:World) (ho:olds.length=l) (hlc:l<=c) (hn:1<=n)
  (hlim:l+n<=140737488355328) (hc2:c<=140737488355328) (hsrc:l=0\/∃ a,A=some a/\∀ j v,olds[j]?=some v->w.cell? (a.add j)=some v) (h1:∀ v ∈ olds,v.oneCell'=true) :
  Calls P (ρ.f 290) #[.slice A l c,.int .i64 n] w fun e w'=>∃ cap2 cells,e=.returned (.slice (some ⟨w.heap.size,0,none⟩) l cap2)/\w'.heap[w.heap.size]?=some (.cells cells (ρ.t 5) (0,0)) /\
   cells.size=cap2/\cells.toList.take l=olds/\l+n<=cap2/\cap2<=maxLen/\Below w.heap.size w w':=by
 have mixed:=L.mixed
 have t5:=L.t5;have a5:=L.a5;have z5:=L.z5;have v5:=L.v5
 have t37:=L.t37;have a37:=L.a37;have z37:=L.z37;have v37:=L.v37
 have t3:=L.t3;have a3:=L.a3;have z3:=L.z3;have v3:=L.v3
 have t0:=L.t0;have a0:=L.a0;have z0:=L.z0;have v0:=L.v0
 have t4:=L.t4;have a4:=L.a4;have z4:=L.z4;have v4:=L.v4
 obtain ⟨i0,hi,hz0,hz1,hz2⟩:=info_parts L.i5
 have hsz1:(P.info? (ρ.t 5)).map (·.size)=some 1:=by rw [hi];simp [hz1]
 by_cases hC:l+n < 2*c
 ·have happ:=Lib.run_append_nil_zeros (P:=P) w (ρ.t 37) (ρ.t 3) (ρ.t 37) (ρ.t 5) i0 (.int .u8 0) .i64 .i64 L.t37 L.t3 hi hz0 (2*c) (by omega) (by omega) (by omega) (by rw [hz2];omega)
  rw [show (((2*c:Nat)):Int)=2*(c:Int) by omega] at happ
  generalize hcap:grownCap w (2*c) 0 (ρ.t 5)=cap2 at happ
  have hcapge:2*c<=cap2:=by rw [<-hcap];exact grownCap_ge w _ 0 (ρ.t 5)
  have hcaple:cap2<=maxLen:=by rw [<-hcap];exact grownCap_le_maxLen w _ 0 (ρ.t 5) (by unfold maxLen;omega)
  generalize hZ:(Builtin.zeroCells (Value.int .u8 0).cells (2*c)++Builtin.zeroCells (Value.int .u8 0).cells (cap2 - (2*c)))=Z at happ
  have hZs:Z.size=cap2:=by rw [<-hZ];simp [size_zeroCells,Value.cells];omega
  clear hcap hZ
  have hsrc1:l=0\/∃ a,A=some a/\∀ j v,olds[j]?=some v->(w.alloc (.cells Z (ρ.t 5))).drew.cell? (a.add j)=some v:=hsrc.imp id fun ⟨a,e,h⟩=>⟨a,e,fun j v hj=>(World.cell?_of_block (a:=a.add j) (Below.heap_alloc w _ _ (World.block_lt_of_cell? w _ (h j v hj)))).trans (h j v hj)⟩
  obtain ⟨W2,Y,hcopy,hY,hYl,hgb,hsz⟩:=ZlM (P:=P) (w.alloc (.cells Z (ρ.t 5))).drew (ρ.t 37) (ρ.t 37) (ρ.t 3) (ρ.t 5) w.heap.size 0 (2*c) cap2 A l c Z (ρ.t 5) olds L.t37 hsz1 (heap_alloc_new w _) ho (by omega) hsrc1 (by omega) h1
  go_enter_defers L.f290,Body.n290_ntmps ρ
  go_wp2_with (at_builtin;refine Lib.wpList_append_run _ rfl _ _ _ _ rfl _ _ rfl rfl _ _ happ ?_)
  refine leaves_cons (f:=(ρ.f 324)) (args:=#[]) (by simp) (enters_of L.f324 (by kernel_rfl) rfl _ _) ?_
  refine (Any.growSlice_catch_idle { L with } _).mono ?_
  rintro e u' w'' ⟨rfl,rfl,rfl⟩
  refine ⟨_,results_tmp rfl _ _ _,?_⟩
  refine ⟨cap2,Y,rfl,hY,?_,?_,by omega,hcaple,?_⟩
  ·have h3:=congrArg W3 hYl
   simp only [Xk,X6,Xak,XG,XL] at h3
   omega
  ·rw [hYl,Xak,XD,Wi (by omega),XN (by omega)]
  ·have hs1:(w.alloc (.cells Z (ρ.t 5))).drew.heap.size=w.heap.size+1:=by show (w.alloc (.cells Z (ρ.t 5))).heap.size=_;simp
   exact ⟨hgb.os,hgb.tape,hgb.output,by omega,fun k hk=>(hgb.block k (by omega) (fun e=>by injection e with e;omega)).trans (Below.heap_alloc w _ k hk)⟩
 ·have happ:=Lib.run_append_nil_zeros (P:=P) w (ρ.t 37) (ρ.t 3) (ρ.t 37) (ρ.t 5) i0 (.int .u8 0) .i64 .i64 L.t37 L.t3 hi hz0 (l+n) (by omega) (by omega) (by omega) (by rw [hz2];omega)
  rw [show (((l+n:Nat)):Int)=(l:Int)+(n:Int) by omega] at happ
  generalize hcap:grownCap w (l+n) 0 (ρ.t 5)=cap2 at happ
  have hcapge:l+n<=cap2:=by rw [<-hcap];exact grownCap_ge w _ 0 (ρ.t 5)
  have hcaple:cap2<=maxLen:=by rw [<-hcap];exact grownCap_le_maxLen w _ 0 (ρ.t 5) (by unfold maxLen;omega)
  generalize hZ:(Builtin.zeroCells (Value.int .u8 0).cells (l+n)++Builtin.zeroCells (Value.int .u8 0).cells (cap2 - (l+n)))=Z at happ
  have hZs:Z.size=cap2:=by rw [<-hZ];simp [size_zeroCells,Value.cells];omega
  clear hcap hZ
  have hsrc1:l=0\/∃ a,A=some a/\∀ j v,olds[j]?=some v->(w.alloc (.cells Z (ρ.t 5))).drew.cell? (a.add j)=some v:=hsrc.imp id fun ⟨a,e,h⟩=>⟨a,e,fun j v hj=>(World.cell?_of_block (a:=a.add j) (Below.heap_alloc w _ _ (World.block_lt_of_cell? w _ (h j v hj)))).trans (h j v hj)⟩
  obtain ⟨W2,Y,hcopy,hY,hYl,hgb,hsz⟩:=ZlM (P:=P) (w.alloc (.cells Z (ρ.t 5))).drew (ρ.t 37) (ρ.t 37) (ρ.t 3) (ρ.t 5) w.heap.size 0 (l+n) cap2 A l c Z (ρ.t 5) olds L.t37 hsz1 (heap_alloc_new w _) ho (by omega) hsrc1 (by omega) h1
  go_enter_defers L.f290,Body.n290_ntmps ρ
  go_wp2_with (at_builtin;refine Lib.wpList_append_run _ rfl _ _ _ _ rfl _ _ rfl rfl _ _ happ ?_)
  refine leaves_cons (f:=(ρ.f 324)) (args:=#[]) (by simp) (enters_of L.f324 (by kernel_rfl) rfl _ _) ?_
  refine (Any.growSlice_catch_idle { L with } _).mono ?_
  rintro e u' w'' ⟨rfl,rfl,rfl⟩
  refine ⟨_,results_tmp rfl _ _ _,?_⟩
  refine ⟨cap2,Y,rfl,hY,?_,?_,by omega,hcaple,?_⟩
  ·have h3:=congrArg W3 hYl
   simp only [Xk,X6,Xak,XG,XL] at h3
   omega
  ·rw [hYl,Xak,XD,Wi (by omega),XN (by omega)]
  ·have hs1:(w.alloc (.cells Z (ρ.t 5))).drew.heap.size=w.heap.size+1:=by show (w.alloc (.cells Z (ρ.t 5))).heap.size=_;simp
   exact ⟨hgb.os,hgb.tape,hgb.output,by omega,fun k hk=>(hgb.block k (by omega) (fun e=>by injection e with e;omega)).trans (Below.heap_alloc w _ k hk)⟩
set_option maxRecDepth 100000 in
theorem Zla (L:LaysM.n181 P ρ) (b:Nat) (ao:Option Addr) (l cap:Nat) (w:World) (c0:w.cell? ⟨b,0,none⟩=some (.slice ao l cap)) (c1:w.cell? ⟨b,1,none⟩=some (.int .i64 0)) (hmax:l<=maxLen) :
  Calls P (ρ.f 181) #[.pointer (some ⟨b,0,none⟩)] w fun e w'=>e=.returned (.int .i64 l)/\∃ n,w'=w.drewN n:=by
 have mixed:=L.mixed
 have t5:=L.t5;have a5:=L.a5;have z5:=L.z5;have v5:=L.v5
 have t130:=L.t130;have a130:=L.a130;have z130:=L.z130;have v130:=L.v130
 have t3:=L.t3;have a3:=L.a3;have z3:=L.z3;have v3:=L.v3
 have t0:=L.t0;have a0:=L.a0;have z0:=L.z0;have v0:=L.v0
 have t93:=L.t93;have u93:=run_underlying L.t93;have a93:=L.a93;have z93:=L.z93;have v93:=L.v93
 have t37:=L.t37;have a37:=L.a37;have z37:=L.z37;have v37:=L.v37
 unfold maxLen at hmax
 go_enter L.f181,Body.n181_ntmps ρ
 go_wp2
 go_region_o
 all_goals (go_wp2;go_ret;exact ⟨by simp,1,rfl⟩)
def Zh8 (w:World) (T:TypeId) (R:Nat->Option Value) (b l n:Nat) (olds:List Value) (lr:Int) (e:TypeId) (w':World):Prop :=
 ∃ cap2 cells,LibA.Three w' b 0 T R (.slice (some ⟨w.heap.size,0,none⟩) (l+n) cap2) (.int .i64 0) (.int .i8 lr)/\w'.heap[w.heap.size]?=some (.cells cells e (0,0)) /\
  cells.size=cap2/\cells.toList.take l=olds/\l+n<=cap2/\cap2<=maxLen/\w.grownBy w' (some b)
theorem ZpM {w:World} {b:Nat} {T:TypeId} {R:Nat->Option Value} {x y z:Value} (h:LibA.Three w b 0 T R x y z) (v1 s:Value) :
  LibA.Three (((w.setCell ⟨b,0,none⟩ v1).setCell ⟨b,1,none⟩ (.int .i64 0)).setCell ⟨b,0,none⟩ s) b 0 T R s (.int .i64 0) z:=((h.set0 v1).set1 (.int .i64 0)).set0 s
end
end
section
open Go.Shelf Go.RowKit
section
variable {P:Program} {ρ:Ren}
set_option maxRecDepth 100000 in
theorem ZKL (L:LaysM.n252 P ρ) (T:TypeId) (R:Nat->Option Value) (b:Nat)  (n:Nat) (lr:Int) (w:World)
  (hbk:LibA.Three w b 0 T R (.slice none 0 0) (.int .i64 0) (.int .i8 lr)) (hn:1<=n) (h64:n<=64) :
  Calls P (ρ.f 252) #[.pointer (some ⟨b,0,none⟩),.int .i64 n] w fun e w'=>e=.returned (.int .i64 0)/\Zh8 w T R b 0 n [] lr (ρ.t 5) w':=by
 have mixed:=L.mixed
 have t5:=L.t5;have a5:=L.a5;have z5:=L.z5;have v5:=L.v5
 have t130:=L.t130;have a130:=L.a130;have z130:=L.z130;have v130:=L.v130
 have t3:=L.t3;have a3:=L.a3;have z3:=L.z3;have v3:=L.v3
 have t4:=L.t4;have a4:=L.a4;have z4:=L.z4;have v4:=L.v4
 have t0:=L.t0;have a0:=L.a0;have z0:=L.z0;have v0:=L.v0
 have t93:=L.t93;have u93:=run_underlying L.t93;have a93:=L.a93;have z93:=L.z93;have v93:=L.v93
 have t131:=L.t131;have a131:=L.a131;have z131:=L.z131;have v131:=L.v131
 have t37:=L.t37;have a37:=L.a37;have z37:=L.z37;have v37:=L.v37
 have t75:=L.t75;have a75:=L.a75;have z75:=L.z75;have v75:=L.v75
 have e181:∀ args w,(callFunc (ρ.f 181) args).run P w=.ok (.enter (ρ.f 181) args) w:=enters_of L.f181 (by kernel_rfl) rfl
 have e251:∀ args w,(callFunc (ρ.f 251) args).run P w=.ok (.enter (ρ.f 251) args) w:=enters_of L.f251 (by kernel_rfl) rfl
 have e290:∀ args w,(callFunc (ρ.f 290) args).run P w=.ok (.enter (ρ.f 290) args) w:=enters_of L.f290 (by kernel_rfl) rfl
 have hnil:∀ W,(binOp .eql (ρ.t 37) (.slice none 0 0) (.slice none 0 0)).run P W=.ok (.bool true) W:=fun W=>Lib.run_eql_slice_nil_nil W _ _ L.t37
 obtain ⟨i0,hi,hz0,hz1,hz2⟩:=info_parts L.i5
 obtain ⟨M,hM⟩:∃ M,M=madeCells (Value.int .u8 0).cells ((64:Int).toNat*i0.size):=⟨_,rfl⟩
 have hMs:M.size=64:=by rw [hM,size_madeCells,hz1];rfl
 have hmk:∀ W:World,(Instr.makeSlice (ρ.t 37) (.int .i64 (n:Int)) (.int .i64 64)).run P W=.ok (.slice (some ⟨W.heap.size,0,none⟩) n 64) (W.alloc (.cells M (ρ.t 5))):=fun W=>by
  have h:=run_makeSlice (P:=P) W (ρ.t 37) (ρ.t 5) i0 (.int .u8 0) L.t37 hi hz0 .i64 .i64 (n:Int) 64 (by omega) (by omega) (by rw [hz1];decide) (by rw [hz2];decide) (by decide)
  rw [<-hM] at h
  simpa using h
 clear hM
 go_enter L.f252,Body.n252_ntmps ρ
 go_wp2_with (go_at_fn (ρ.f 181);refine (Zla { L with } b none 0 0 _ hbk.c0 hbk.c1 (by unfold maxLen;omega)).mono ?_)
 rintro e W0 ⟨rfl,k,hW0⟩
 have hbk0:LibA.Three W0 b 0 T R (.slice none 0 0) (.int .i64 0) (.int .i8 lr):=by rw [hW0];exact hbk
 have c0:W0.cell? ⟨b,0,none⟩=some (.slice none 0 0):=hbk0.c0
 have c1:W0.cell? ⟨b,1,none⟩=some (.int .i64 0):=hbk0.c1
 have f0:W0.frozen? ⟨b,0,none⟩=false:=hbk0.f 0
 have f1:W0.frozen? ⟨b,1,none⟩=false:=hbk0.f 1
 have hbW0:=hbk0.lt
 have c0a:∀ o,(W0.alloc o).cell? ⟨b,0,none⟩=some (.slice none 0 0):=fun o=>(World.cell?_of_block (a:=⟨b,0,none⟩) (Below.heap_alloc W0 o b hbW0)).trans c0
 have f0a:∀ o,(W0.alloc o).frozen? ⟨b,0,none⟩=false:=fun o=>(World.frozen?_of_block (a:=⟨b,0,none⟩) (Below.heap_alloc W0 o b hbW0)).trans f0
 have HW0:=Lib.hid hW0
 clear hW0
 go_wp2_with (go_at_fn (ρ.f 251);refine (Any.Buffer_tryGrow_none_at { L with } b 0 _ 0 0 n _ c0 (Xx _) (Xao _) (by omega)).mono ?_;rintro e w' ⟨rfl,rfl⟩)
 go_ret
 have hsz0:w'.heap.size=w.heap.size:=by rw [HW0.out];rfl
 have hg0:w.grownBy w' (some b):=by rw [HW0.out];exact ⟨rfl,rfl,rfl,Xx _,fun _ _ _=>rfl⟩
 have hszc:(w'.setCell ⟨b,0,none⟩ (.slice (some ⟨w'.heap.size,0,none⟩) n 64)).heap.size=w'.heap.size:=by simp [World.setCell]
 refine ⟨rfl,64,M,?_,?_,hMs,by simp,by omega,by unfold maxLen;omega,Lib.grownBy_allocR (Lib.grownBy_setB hg0 0 _) _⟩
 ·rw [XE,<-hsz0]
  exact (hbk0.set0 (.slice (some ⟨w'.heap.size,0,none⟩) n 64)).of_heap (Below.heap_alloc _ _ b (by rw [hszc];exact hbW0))
 ·have h:=heap_alloc_new (w'.setCell ⟨b,0,none⟩ (.slice (some ⟨w'.heap.size,0,none⟩) n 64)) (.cells M (ρ.t 5))
  rw [hszc] at h
  rw [<-hsz0]
  exact h
set_option maxRecDepth 100000 in
theorem ZJO (L : LaysM.n252 P ρ) (T : TypeId) (R : Nat -> Option Value) (b : Nat)  (n : Nat) (lr : Int) (w : World)
    (hbk : LibA.Three w b 0 T R (.slice none 0 0) (.int .i64 0) (.int .i8 lr)) (h64 : 64 < n) (hlim : n <= 70368744177664) :
    Calls P (ρ.f 252) #[.pointer (some ⟨b, 0, none⟩), .int .i64 n] w fun e w' => e = .returned (.int .i64 0) /\ Zh8 w T R b 0 n [] lr (ρ.t 5) w' := by
  have mixed := L.mixed
  have t5 := L.t5; have a5 := L.a5; have z5 := L.z5; have v5 := L.v5
  have t130 := L.t130; have a130 := L.a130; have z130 := L.z130; have v130 := L.v130
  have t3 := L.t3; have a3 := L.a3; have z3 := L.z3; have v3 := L.v3
  have t4 := L.t4; have a4 := L.a4; have z4 := L.z4; have v4 := L.v4
  have t0 := L.t0; have a0 := L.a0; have z0 := L.z0; have v0 := L.v0
  have t93 := L.t93; have u93 := run_underlying L.t93; have a93 := L.a93; have z93 := L.z93; have v93 := L.v93
  have t131 := L.t131; have a131 := L.a131; have z131 := L.z131; have v131 := L.v131
  have t37 := L.t37; have a37 := L.a37; have z37 := L.z37; have v37 := L.v37
  have t75 := L.t75; have a75 := L.a75; have z75 := L.z75; have v75 := L.v75
  have e181 : ∀ args w, (callFunc (ρ.f 181) args).run P w = .ok (.enter (ρ.f 181) args) w := enters_of L.f181 (by kernel_rfl) rfl
  have e251 : ∀ args w, (callFunc (ρ.f 251) args).run P w = .ok (.enter (ρ.f 251) args) w := enters_of L.f251 (by kernel_rfl) rfl
  have e290 : ∀ args w, (callFunc (ρ.f 290) args).run P w = .ok (.enter (ρ.f 290) args) w := enters_of L.f290 (by kernel_rfl) rfl
  have hnil : ∀ W, (binOp .eql (ρ.t 37) (.slice none 0 0) (.slice none 0 0)).run P W = .ok (.bool true) W := fun W => Lib.run_eql_slice_nil_nil W _ _ L.t37
  have hc2 : 0 <= 140737488355328 := by omega
  have hcm' : 0 <= maxLen := by unfold maxLen; omega
  go_enter L.f252, Body.n252_ntmps ρ
  go_wp2_with (go_at_fn (ρ.f 181); refine (Zla { L with } b none 0 0 _ hbk.c0 hbk.c1 (by unfold maxLen; omega)).mono ?_)
  rintro e W0 ⟨rfl, k, hW0⟩
  have hbk0 : LibA.Three W0 b 0 T R (.slice none 0 0) (.int .i64 0) (.int .i8 lr) := by rw [hW0]; exact hbk
  have c0 : W0.cell? ⟨b, 0, none⟩ = some (.slice none 0 0) := hbk0.c0
  have c1 : W0.cell? ⟨b, 1, none⟩ = some (.int .i64 0) := hbk0.c1
  have f0 : W0.frozen? ⟨b, 0, none⟩ = false := hbk0.f 0
  have f1 : W0.frozen? ⟨b, 1, none⟩ = false := hbk0.f 1
  have HW0 := Lib.hid hW0
  clear hW0
  go_wp2_with (go_at_fn (ρ.f 251); refine (Any.Buffer_tryGrow_none_at { L with } b 0 _ 0 0 n _ c0 (by omega) hcm' (by omega)).mono ?_; rintro e w' ⟨rfl, rfl⟩)
  have hbW := hbk0.lt
  have hwn : IntKind.i64.wrap (n : Int) = n := by rw [IntKind.wrap_i64]; omega
  go_region_with_o (
      go_at_fn (ρ.f 290)
      refine (Zn4 { L with } none 0 0 n [] _ ?_ (by omega) (by omega) (by omega) hc2 ?_ ?_).mono ?_
      . first | exact ho | rfl
      . exact Xr rfl
      . first | exact h1 | exact fun v h => by cases h
      rintro e w2 ⟨cap2, cells, rfl, hN, hcsz, htk, hcap2, hcm2, hbel⟩
      have hbk2 : LibA.Three w2 b 0 T R (.slice none 0 0) (.int .i64 0) (.int .i8 lr) := hbk0.of_heap (hbel.block b hbW)
      have d0 : w2.cell? ⟨b, 0, none⟩ = some (.slice none 0 0) := hbk2.c0
      have d1 : w2.cell? ⟨b, 1, none⟩ = some (.int .i64 0) := hbk2.c1
      have e0 : w2.frozen? ⟨b, 0, none⟩ = false := hbk2.f 0
      have e1 : w2.frozen? ⟨b, 1, none⟩ = false := hbk2.f 1)
  all_goals (
    go_wp2
    go_ret
    have hsz0 : w'.heap.size = w.heap.size := by rw [HW0.out]; rfl
    have hg2 : w.grownBy w2 (some b) := Lib.grownBy_below (w := w'.drew) (by rw [HW0.out]; exact ⟨rfl, rfl, rfl, Xx _, fun _ _ _ => rfl⟩) hbel
    refine ⟨rfl, cap2, cells, ?_, ?_, hcsz, htk, hcap2, hcm2, Lib.grownBy_setB (Lib.grownBy_setB (Lib.grownBy_setB hg2 0 _) 1 _) 0 _⟩
    . rw [XE, <- hsz0]; exact ZpM hbk2 _ _
    . have hNb : w.heap.size ≠ b := by omega
      rw [Below.heap_setCell _ _ _ _ hNb, Below.heap_setCell _ _ _ _ hNb, Below.heap_setCell _ _ _ _ hNb]
      rw [<- hsz0]; exact hN)
end
end
section
open Go.Shelf Go.RowKit
section
variable {P:Program} {ρ:Ren}
set_option maxRecDepth 100000 in
theorem Zwv (L : LaysM.n252 P ρ) (T : TypeId) (R : Nat -> Option Value) (b : Nat) (x : Addr) (cap : Nat) (n : Nat) (lr : Int) (w : World)
    (hbk : LibA.Three w b 0 T R (.slice (some x) 0 cap) (.int .i64 0) (.int .i8 lr)) (hroom : cap < n) (hlim : n <= 70368744177664) :
    Calls P (ρ.f 252) #[.pointer (some ⟨b, 0, none⟩), .int .i64 n] w fun e w' => e = .returned (.int .i64 0) /\ Zh8 w T R b 0 n [] lr (ρ.t 5) w' := by
  have mixed := L.mixed
  have t5 := L.t5; have a5 := L.a5; have z5 := L.z5; have v5 := L.v5
  have t130 := L.t130; have a130 := L.a130; have z130 := L.z130; have v130 := L.v130
  have t3 := L.t3; have a3 := L.a3; have z3 := L.z3; have v3 := L.v3
  have t4 := L.t4; have a4 := L.a4; have z4 := L.z4; have v4 := L.v4
  have t0 := L.t0; have a0 := L.a0; have z0 := L.z0; have v0 := L.v0
  have t93 := L.t93; have u93 := run_underlying L.t93; have a93 := L.a93; have z93 := L.z93; have v93 := L.v93
  have t131 := L.t131; have a131 := L.a131; have z131 := L.z131; have v131 := L.v131
  have t37 := L.t37; have a37 := L.a37; have z37 := L.z37; have v37 := L.v37
  have t75 := L.t75; have a75 := L.a75; have z75 := L.z75; have v75 := L.v75
  have e181 : ∀ args w, (callFunc (ρ.f 181) args).run P w = .ok (.enter (ρ.f 181) args) w := enters_of L.f181 (by kernel_rfl) rfl
  have e251 : ∀ args w, (callFunc (ρ.f 251) args).run P w = .ok (.enter (ρ.f 251) args) w := enters_of L.f251 (by kernel_rfl) rfl
  have e290 : ∀ args w, (callFunc (ρ.f 290) args).run P w = .ok (.enter (ρ.f 290) args) w := enters_of L.f290 (by kernel_rfl) rfl
  have hnil : ∀ W, (binOp .eql (ρ.t 37) (.slice (some x) 0 cap) (.slice none 0 0)).run P W = .ok (.bool false) W := fun W => Lib.run_eql_slice_some_nil W _ _ _ L.t37
  have hc2 : cap <= 140737488355328 := by omega
  have hcm' : cap <= maxLen := by unfold maxLen; omega
  go_enter L.f252, Body.n252_ntmps ρ
  go_wp2_with (go_at_fn (ρ.f 181); refine (Zla { L with } b (some x) 0 cap _ hbk.c0 hbk.c1 (by unfold maxLen; omega)).mono ?_)
  rintro e W0 ⟨rfl, k, hW0⟩
  have hbk0 : LibA.Three W0 b 0 T R (.slice (some x) 0 cap) (.int .i64 0) (.int .i8 lr) := by rw [hW0]; exact hbk
  have c0 : W0.cell? ⟨b, 0, none⟩ = some (.slice (some x) 0 cap) := hbk0.c0
  have c1 : W0.cell? ⟨b, 1, none⟩ = some (.int .i64 0) := hbk0.c1
  have f0 : W0.frozen? ⟨b, 0, none⟩ = false := hbk0.f 0
  have f1 : W0.frozen? ⟨b, 1, none⟩ = false := hbk0.f 1
  have HW0 := Lib.hid hW0
  clear hW0
  go_wp2_with (go_at_fn (ρ.f 251); refine (Any.Buffer_tryGrow_none_at { L with } b 0 _ 0 cap n _ c0 (by omega) hcm' (by omega)).mono ?_; rintro e w' ⟨rfl, rfl⟩)
  have hbW := hbk0.lt
  have hwn : IntKind.i64.wrap (n : Int) = n := by rw [IntKind.wrap_i64]; omega
  go_region_with_o (
      go_at_fn (ρ.f 290)
      refine (Zn4 { L with } (some x) 0 cap n [] _ ?_ (by omega) (by omega) (by omega) hc2 ?_ ?_).mono ?_
      . first | exact ho | rfl
      . exact Xr rfl
      . first | exact h1 | exact fun v h => by cases h
      rintro e w2 ⟨cap2, cells, rfl, hN, hcsz, htk, hcap2, hcm2, hbel⟩
      have hbk2 : LibA.Three w2 b 0 T R (.slice (some x) 0 cap) (.int .i64 0) (.int .i8 lr) := hbk0.of_heap (hbel.block b hbW)
      have d0 : w2.cell? ⟨b, 0, none⟩ = some (.slice (some x) 0 cap) := hbk2.c0
      have d1 : w2.cell? ⟨b, 1, none⟩ = some (.int .i64 0) := hbk2.c1
      have e0 : w2.frozen? ⟨b, 0, none⟩ = false := hbk2.f 0
      have e1 : w2.frozen? ⟨b, 1, none⟩ = false := hbk2.f 1)
  all_goals (
    go_wp2
    go_ret
    have hsz0 : w'.heap.size = w.heap.size := by rw [HW0.out]; rfl
    have hg2 : w.grownBy w2 (some b) := Lib.grownBy_below (w := w'.drew) (by rw [HW0.out]; exact ⟨rfl, rfl, rfl, Xx _, fun _ _ _ => rfl⟩) hbel
    refine ⟨rfl, cap2, cells, ?_, ?_, hcsz, htk, hcap2, hcm2, Lib.grownBy_setB (Lib.grownBy_setB (Lib.grownBy_setB hg2 0 _) 1 _) 0 _⟩
    . rw [XE, <- hsz0]; exact ZpM hbk2 _ _
    . have hNb : w.heap.size ≠ b := by omega
      rw [Below.heap_setCell _ _ _ _ hNb, Below.heap_setCell _ _ _ _ hNb, Below.heap_setCell _ _ _ _ hNb]
      rw [<- hsz0]; exact hN)
end
end
section
open Go.Shelf Go.RowKit
section
variable {P:Program} {ρ:Ren}
set_option maxRecDepth 100000 in
theorem ZJv (L : LaysM.n252 P ρ) (T : TypeId) (R : Nat -> Option Value) (b : Nat) (x : Addr) (l cap : Nat) (olds : List Value) (n : Nat) (lr : Int) (w : World)
    (hbk : LibA.Three w b 0 T R (.slice (some x) l cap) (.int .i64 0) (.int .i8 lr)) (hl0 : l ≠ 0) (ho : olds.length = l) (h1 : ∀ v ∈ olds, v.oneCell' = true) (hlc : l <= cap) (hroom : cap - l < n) (hlim : l + n <= 70368744177664)
    (hold : l = 0 \/ ∃ a, some x = some a /\ ∀ j v, (olds)[j]? = some v -> w.cell? (a.add j) = some v)  :
    Calls P (ρ.f 252) #[.pointer (some ⟨b, 0, none⟩), .int .i64 n] w fun e w' => e = .returned (.int .i64 l) /\ Zh8 w T R b l n olds lr (ρ.t 5) w' := by
  have mixed := L.mixed
  have t5 := L.t5; have a5 := L.a5; have z5 := L.z5; have v5 := L.v5
  have t130 := L.t130; have a130 := L.a130; have z130 := L.z130; have v130 := L.v130
  have t3 := L.t3; have a3 := L.a3; have z3 := L.z3; have v3 := L.v3
  have t4 := L.t4; have a4 := L.a4; have z4 := L.z4; have v4 := L.v4
  have t0 := L.t0; have a0 := L.a0; have z0 := L.z0; have v0 := L.v0
  have t93 := L.t93; have u93 := run_underlying L.t93; have a93 := L.a93; have z93 := L.z93; have v93 := L.v93
  have t131 := L.t131; have a131 := L.a131; have z131 := L.z131; have v131 := L.v131
  have t37 := L.t37; have a37 := L.a37; have z37 := L.z37; have v37 := L.v37
  have t75 := L.t75; have a75 := L.a75; have z75 := L.z75; have v75 := L.v75
  have e181 : ∀ args w, (callFunc (ρ.f 181) args).run P w = .ok (.enter (ρ.f 181) args) w := enters_of L.f181 (by kernel_rfl) rfl
  have e251 : ∀ args w, (callFunc (ρ.f 251) args).run P w = .ok (.enter (ρ.f 251) args) w := enters_of L.f251 (by kernel_rfl) rfl
  have e290 : ∀ args w, (callFunc (ρ.f 290) args).run P w = .ok (.enter (ρ.f 290) args) w := enters_of L.f290 (by kernel_rfl) rfl
  have hnil : ∀ W, (binOp .eql (ρ.t 37) (.slice (some x) l cap) (.slice none 0 0)).run P W = .ok (.bool false) W := fun W => Lib.run_eql_slice_some_nil W _ _ _ L.t37
  have hc2 : cap <= 140737488355328 := by omega
  have hcm' : cap <= maxLen := by unfold maxLen; omega
  go_enter L.f252, Body.n252_ntmps ρ
  go_wp2_with (go_at_fn (ρ.f 181); refine (Zla { L with } b (some x) l cap _ hbk.c0 hbk.c1 (by unfold maxLen; omega)).mono ?_)
  rintro e W0 ⟨rfl, k, hW0⟩
  have hbk0 : LibA.Three W0 b 0 T R (.slice (some x) l cap) (.int .i64 0) (.int .i8 lr) := by rw [hW0]; exact hbk
  have c0 : W0.cell? ⟨b, 0, none⟩ = some (.slice (some x) l cap) := hbk0.c0
  have c1 : W0.cell? ⟨b, 1, none⟩ = some (.int .i64 0) := hbk0.c1
  have f0 : W0.frozen? ⟨b, 0, none⟩ = false := hbk0.f 0
  have f1 : W0.frozen? ⟨b, 1, none⟩ = false := hbk0.f 1
  have hold0 : l = 0 \/ ∃ a, some x = some a /\ ∀ j v, (olds)[j]? = some v -> W0.cell? (a.add j) = some v := by rw [hW0]; exact hold
  have HW0 := Lib.hid hW0
  clear hW0 hold
  go_wp2_with (go_at_fn (ρ.f 251); refine (Any.Buffer_tryGrow_none_at { L with } b 0 _ l cap n _ c0 (by omega) hcm' (by omega)).mono ?_; rintro e w' ⟨rfl, rfl⟩)
  have hbW := hbk0.lt
  have hwn : IntKind.i64.wrap (n : Int) = n := by rw [IntKind.wrap_i64]; omega
  go_region_with_o (
      go_at_fn (ρ.f 290)
      refine (Zn4 { L with } (some x) l cap n olds _ ?_ (by omega) (by omega) (by omega) hc2 ?_ ?_).mono ?_
      . first | exact ho | rfl
      . exact hold0
      . first | exact h1 | exact fun v h => by cases h
      rintro e w2 ⟨cap2, cells, rfl, hN, hcsz, htk, hcap2, hcm2, hbel⟩
      have hbk2 : LibA.Three w2 b 0 T R (.slice (some x) l cap) (.int .i64 0) (.int .i8 lr) := hbk0.of_heap (hbel.block b hbW)
      have d0 : w2.cell? ⟨b, 0, none⟩ = some (.slice (some x) l cap) := hbk2.c0
      have d1 : w2.cell? ⟨b, 1, none⟩ = some (.int .i64 0) := hbk2.c1
      have e0 : w2.frozen? ⟨b, 0, none⟩ = false := hbk2.f 0
      have e1 : w2.frozen? ⟨b, 1, none⟩ = false := hbk2.f 1)
  all_goals (
    go_wp2
    go_ret
    have hsz0 : w'.heap.size = w.heap.size := by rw [HW0.out]; rfl
    have hg2 : w.grownBy w2 (some b) := Lib.grownBy_below (w := w'.drew) (by rw [HW0.out]; exact ⟨rfl, rfl, rfl, Xx _, fun _ _ _ => rfl⟩) hbel
    refine ⟨rfl, cap2, cells, ?_, ?_, hcsz, htk, hcap2, hcm2, Lib.grownBy_setB (Lib.grownBy_setB (Lib.grownBy_setB hg2 0 _) 1 _) 0 _⟩
    . rw [<- hsz0]; exact ZpM hbk2 _ _
    . have hNb : w.heap.size ≠ b := by omega
      rw [Below.heap_setCell _ _ _ _ hNb, Below.heap_setCell _ _ _ _ hNb, Below.heap_setCell _ _ _ _ hNb]
      rw [<- hsz0]; exact hN)
end
end
section
open Go.Shelf Go.RowKit
section
variable {P:Program} {ρ:Ren}
def BufRow (w:World) (b:Nat) (A:Option Addr) (l cap:Nat) (olds:List Value):Prop :=
 olds.length=l/\l<=cap/\cap<=maxLen/\(∀ v ∈ olds,v.oneCell'=true)/\(cap=0\/∃ g cur t,A=some ⟨g,0,none⟩/\g≠b/\w.heap[g]?=some (.cells cur t (0,0))/\cur.size=cap/\cur.toList.take l=olds)
theorem BufRow.hold {w:World} {b:Nat} {A:Option Addr} {l cap:Nat} {olds:List Value} (h:BufRow w b A l cap olds):l=0\/∃ a,A=some a/\∀ j v,olds[j]?=some v->w.cell? (a.add j)=some v:=by
 obtain ⟨h1,h2,h3,h4,h5 | ⟨g,cur,t,h5,h6,h7,h8,h9⟩⟩:=h
 ·exact Xr (by omega)
 ·exact Xy ⟨_,h5,by rw [<-h9];exact Lib.cells_of_row h7 l⟩
theorem ZBf (L:LaysM.n252 P ρ) (T:TypeId) (R:Nat->Option Value) (b:Nat) (A:Option Addr) (l cap:Nat) (olds:List Value) (n:Nat) (lr:Int) (w:World)
  (hbk:LibA.Three w b 0 T R (.slice A l cap) (.int .i64 0) (.int .i8 lr)) (hr:BufRow w b A l cap olds) (hA:A=none->cap=0) (hroom:cap - l < n) (hlim:l+n<=70368744177664) :
  Calls P (ρ.f 252) #[.pointer (some ⟨b,0,none⟩),.int .i64 n] w fun e w'=>e=.returned (.int .i64 l)/\Zh8 w T R b l n olds lr (ρ.t 5) w':=by
 have hold:=hr.hold
 obtain ⟨h1,h2,h3,h4,h5⟩:=hr
 cases A with
 | none =>
  have hc:=hA rfl
  subst hc
  have hl0:l=0:=by omega
  subst hl0
  have ho:olds=[]:=Xz h1
  subst ho
  by_cases h64:n<=64
  ·exact ZKL L T R b n lr w hbk (by omega) h64
  ·exact ZJO L T R b n lr w hbk (by omega) (by omega)
 | some x =>
  by_cases hl0:l=0
  ·subst hl0
   have ho:olds=[]:=Xz h1
   subst ho
   exact Zwv L T R b x cap n lr w hbk (by omega) (by omega)
  ·exact ZJv L T R b x l cap olds n lr w hbk hl0 h1 h4 h2 hroom hlim hold
def Zsd (w:World) (T:TypeId) (R:Nat->Option Value) (b:Nat) (A:Option Addr) (l n cap:Nat) (all:List Value) (w':World):Prop :=
 ∃ A' cap',LibA.Three w' b 0 T R (.slice A' (l+n) cap') (.int .i64 0) (.int .i8 0)/\l+n<=cap'/\cap'<=maxLen /\
  ((n=0/\A'=A/\cap'=cap/\w.grownBy w' (some b)) \/
   ∃ G W1 Y t,A'=some ⟨G,0,none⟩/\(G=w.heap.size\/(A=some ⟨G,0,none⟩/\cap≠0))/\G≠b/\w.grownBy W1 (some b)/\W1.grownBy w' (some G)/\w'.heap[G]?=some (.cells Y t (0,0))/\Y.size=cap'/\Y.toList.take (l+n)=all)
set_option maxRecDepth 100000 in
theorem Zwq (L:LaysM.n180 P ρ) (T:TypeId) (R:Nat->Option Value) (b:Nat) (A:Option Addr) (l cap:Nat) (lr:Int) (olds news:List Value) (pa:Option Addr) (n pc:Nat) (w:World)
  (hbk:LibA.Three w b 0 T R (.slice A l cap) (.int .i64 0) (.int .i8 lr)) (hr:BufRow w b A l cap olds) (hA:A=none->cap=0) (hnews:news.length=n) (h1c:∀ v ∈ news,v.oneCell'=true)
  (hsrc:n=0\/∃ a,pa=some a/\a.block≠b/\∀ j v,news[j]?=some v->w.cell? (a.add j)=some v) (hlim:l+n<=70368744177664) :
  Calls P (ρ.f 180) #[.pointer (some ⟨b,0,none⟩),.slice pa n pc] w fun e w'=>e=.returned (.tuple #[.int .i64 n,.nilIface])/\Zsd w T R b A l n cap (olds++news) w':=by
 have mixed:=L.mixed
 have t5:=L.t5;have a5:=L.a5;have z5:=L.z5;have v5:=L.v5
 have t130:=L.t130;have a130:=L.a130;have z130:=L.z130;have v130:=L.v130
 have t37:=L.t37;have a37:=L.a37;have z37:=L.z37;have v37:=L.v37
 have t3:=L.t3;have a3:=L.a3;have z3:=L.z3;have v3:=L.v3
 have t75:=L.t75;have a75:=L.a75;have z75:=L.z75;have v75:=L.v75
 have t0:=L.t0;have a0:=L.a0;have z0:=L.z0;have v0:=L.v0
 have t93:=L.t93;have u93:=run_underlying L.t93;have a93:=L.a93;have z93:=L.z93;have v93:=L.v93
 have t91:=L.t91;have a91:=L.a91;have z91:=L.z91;have v91:=L.v91
 have t131:=L.t131;have a131:=L.a131;have z131:=L.z131;have v131:=L.v131
 have t4:=L.t4;have a4:=L.a4;have z4:=L.z4;have v4:=L.v4
 have e251:∀ args w,(callFunc (ρ.f 251) args).run P w=.ok (.enter (ρ.f 251) args) w:=enters_of L.f251 (by kernel_rfl) rfl
 have e252:∀ args w,(callFunc (ρ.f 252) args).run P w=.ok (.enter (ρ.f 252) args) w:=enters_of L.f252 (by kernel_rfl) rfl
 have c2:w.cell? ⟨b,2,none⟩=some (.int .i8 lr):=hbk.c2
 have f2:w.frozen? ⟨b,2,none⟩=false:=hbk.f 2
 have hinfo:(P.info? (ρ.t 5)).map (·.size)=some 1:=by
  obtain ⟨i0,hi,-,hz1,-⟩:=info_parts L.i5
  rw [hi];simp [hz1]
 obtain ⟨ho,hlc,hcm,h1,hrow⟩:=id hr
 have hbkA:LibA.Three (w.setCell ⟨b,2,none⟩ (.int .i8 0)) b 0 T R (.slice A l cap) (.int .i64 0) (.int .i8 0):=hbk.set2 _
 have hgA:w.grownBy (w.setCell ⟨b,2,none⟩ (.int .i8 0)) (some b):=Lib.grownBy_setCell w b 2 _
 have hszA:(w.setCell ⟨b,2,none⟩ (.int .i8 0)).heap.size=w.heap.size:=by simp [World.setCell]
 have hrA:BufRow (w.setCell ⟨b,2,none⟩ (.int .i8 0)) b A l cap olds:=⟨ho,hlc,hcm,h1,hrow.imp id fun ⟨g,cur,t,e,hgb,hg,r⟩=>⟨g,cur,t,e,hgb,(Below.heap_setCell _ _ _ _ hgb).trans hg,r⟩⟩
 by_cases hroom:n<=cap - l
 ·by_cases hs0:n=0
  ·
   subst hs0
   have hc0:news=[]:=Xz hnews
   subst hc0
   have hce:∀ d dLen dCap W,(Builtin.copy_ #[(ρ.t 37),(ρ.t 37)] (ρ.t 3) #[.slice d dLen dCap,.slice pa 0 pc]).run P W=.ok (goInt 0) W:=fun d dLen dCap W=>run_copy_none W (ρ.t 37) (ρ.t 37) (ρ.t 3) (ρ.t 5) d pa dLen dCap 0 pc L.t37 hinfo (by simp)
   have hT:∀ W,W.cell? ⟨b,0,none⟩=some (.slice A l cap)->W.frozen? ⟨b,0,none⟩=false->Calls P (ρ.f 251) #[.pointer (some ⟨b,0,none⟩),.int .i64 0] W (fun e w'=>e=.returned (.tuple #[.int .i64 l,.bool true])/\w'=W.setCell ⟨b,0,none⟩ (.slice A l cap)):=fun W q1 q2=>Any.Buffer_tryGrow_room_at { L with } b 0 A l cap 0 W q1 q2 hlc hcm (Xao _)
   clear hsrc hroom hlim
   go_enter L.f180,Body.n180_ntmps ρ
   go_wp2_with (go_at_fn (ρ.f 251);refine (hT _ ?_ ?_).mono ?_)
   ·exact hbkA.c0
   ·exact hbkA.f 0
   rintro e W1 ⟨rfl,hW1⟩
   have hbk1:LibA.Three W1 b 0 T R (.slice A l cap) (.int .i64 0) (.int .i8 0):=by rw [hW1];exact hbkA.set0 _
   have hgW:w.grownBy W1 (some b):=by rw [hW1];exact Lib.grownBy_setB hgA 0 _
   clear hW1 hbkA hgA hszA hrA c2 f2 hT
   have d0:W1.cell? ⟨b,0,none⟩=some (.slice A l cap):=hbk1.c0
   have hcm':=hcm
   unfold maxLen at hcm'
   have hfin:Zsd w T R b A l 0 cap (olds++[]) W1:=⟨A,cap,hbk1,hlc,hcm,Xr ⟨rfl,rfl,rfl,hgW⟩⟩
   clear hrow hr
   cases A
   all_goals (go_wp2;all_goals (go_ret2;first | exact ⟨rfl,hfin⟩ | exact ⟨by simp,by simpa using hfin⟩ | (refine ⟨by simp,?_⟩;have hcl:l=cap:=(by omega);simpa [hcl] using hfin)))
  ·
   go_enter L.f180,Body.n180_ntmps ρ
   go_wp2_with (go_at_fn (ρ.f 251);refine (Any.Buffer_tryGrow_room_at { L with } b 0 A l cap n _ ?_ ?_ hlc hcm hroom).mono ?_)
   ·exact hbkA.c0
   ·exact hbkA.f 0
   rintro e W1 ⟨rfl,hW1⟩
   obtain ⟨G,cap',cur,t,hbk1,hG,hcs,htk,hlc',hcm',hGb,hGw,hgW⟩:∃ G cap' cur t,LibA.Three W1 b 0 T R (.slice (some ⟨G,0,none⟩) (l+n) cap') (.int .i64 0) (.int .i8 0)/\W1.heap[G]?=some (.cells cur t (0,0))/\cur.size=cap'/\cur.toList.take l=olds/\l+n<=cap'/\cap'<=maxLen/\G≠b/\(G=w.heap.size\/(A=some ⟨G,0,none⟩/\cap≠0))/\w.grownBy W1 (some b):=by
    obtain hc | ⟨g,cur,t,e,hgb,hg,hcs,htk⟩:=hrow
    ·omega
    ·refine ⟨g,cap,cur,t,?_,?_,hcs,htk,by omega,hcm,hgb,Xy ⟨e,by omega⟩,?_⟩
     ·rw [hW1,e];rw [e] at hbkA;exact hbkA.set0 _
     ·rw [hW1,Below.heap_setCell _ _ _ _ hgb,Below.heap_setCell _ _ _ _ hgb];exact hg
     ·rw [hW1];exact Lib.grownBy_setB hgA 0 _
   clear hW1 hbkA hgA hszA hrA c2 f2 hrow
   have d0:W1.cell? ⟨b,0,none⟩=some (.slice (some ⟨G,0,none⟩) (l+n) cap'):=hbk1.c0
   have hne:¬cap'=l:=by omega
   have hsrc1:n=0\/∃ a,pa=some a/\∀ j v,news[j]?=some v->W1.cell? (a.add j)=some v:=hsrc.imp id fun ⟨a,e,hab,h⟩=>⟨a,e,fun j v hj=>hgW.cell (h j v hj) (by rw [Lib.block_add];exact fun e=>hab (WO e))⟩
   obtain ⟨W2,Y,hcp,hY,hYl,hgb,hsz⟩:=ZlM (P:=P) W1 (ρ.t 37) (ρ.t 37) (ρ.t 3) (ρ.t 5) G l n (cap' - l) pa n pc cur t news L.t37 hinfo hG hnews (Xx _) hsrc1 (by omega) h1c
   have hYs:Y.size=cap':=by
    have h3:=congrArg W3 hYl
    simp only [Xk,X6,Wl,XL] at h3
    omega
   have hYt:Y.toList.take (l+n)=olds++news:=by
    rw [hYl,htk,Wi (by simp;omega),XN (by simp;omega)]
   have hW2:LibA.Three W2 b 0 T R (.slice (some ⟨G,0,none⟩) (l+n) cap') (.int .i64 0) (.int .i8 0):=hbk1.of_heap (hgb.block b hbk1.lt (fun e=>hGb (WO e).symm))
   have hcm2:=hcm'
   unfold maxLen at hcm2
   have hgb0:=hgb
   have hYr:=hY
   clear hsrc hsrc1 hr hA
   go_wp2
   go_ret2
   exact ⟨rfl,_,_,hW2,hlc',hcm',Xy ⟨G,W1,Y,t,rfl,hGw,hGb,hgW,hgb0,hYr,hYs,hYt⟩⟩
 ·
  go_enter L.f180,Body.n180_ntmps ρ
  go_wp2_with (go_at_fn (ρ.f 251);refine (Any.Buffer_tryGrow_none_at { L with } b 0 A l cap n _ ?_ hlc hcm (by omega)).mono ?_)
  ·exact hbkA.c0
  rintro e W0 ⟨rfl,hW0⟩
  rw [<-hW0] at hbkA hgA hszA hrA
  clear hW0 c2 f2
  have hroom':cap - l < n:=by omega
  go_wp2_with (go_at_fn (ρ.f 252);refine (ZBf { L with } T R b A l cap olds n 0 _ ?_ ?_ hA hroom' hlim).mono ?_)
  ·exact hbkA
  ·exact hrA
  rintro e W1 ⟨rfl,cap',cur,hbk1,hG,hcs,htk,hlc',hcm',hgB⟩
  obtain ⟨G,hGe⟩:∃ G,G=w.heap.size:=⟨_,rfl⟩
  rw [hszA,<-hGe] at hbk1 hG
  have hGw:G=w.heap.size\/(A=some ⟨G,0,none⟩/\cap≠0):=Xr hGe
  have hGb:G≠b:=by have:=hbk.lt;omega
  have hgW:w.grownBy W1 (some b):=Lib.grownBy_trans hgA hgB
  obtain ⟨t,ht⟩:∃ t,t=ρ.t 5:=⟨_,rfl⟩
  rw [<-ht] at hG
  clear hbkA hgA hszA hrA hgB hGe hrow hroom
  have d0:W1.cell? ⟨b,0,none⟩=some (.slice (some ⟨G,0,none⟩) (l+n) cap'):=hbk1.c0
  have hne:¬cap'=l:=by omega
  have hsrc1:n=0\/∃ a,pa=some a/\∀ j v,news[j]?=some v->W1.cell? (a.add j)=some v:=hsrc.imp id fun ⟨a,e,hab,h⟩=>⟨a,e,fun j v hj=>hgW.cell (h j v hj) (by rw [Lib.block_add];exact fun e=>hab (WO e))⟩
  obtain ⟨W2,Y,hcp,hY,hYl,hgb,hsz⟩:=ZlM (P:=P) W1 (ρ.t 37) (ρ.t 37) (ρ.t 3) (ρ.t 5) G l n (cap' - l) pa n pc cur t news L.t37 hinfo hG hnews (Xx _) hsrc1 (by omega) h1c
  have hYs:Y.size=cap':=by
   have h3:=congrArg W3 hYl
   simp only [Xk,X6,Wl,XL] at h3
   omega
  have hYt:Y.toList.take (l+n)=olds++news:=by
   rw [hYl,htk,Wi (by simp;omega),XN (by simp;omega)]
  have hW2:LibA.Three W2 b 0 T R (.slice (some ⟨G,0,none⟩) (l+n) cap') (.int .i64 0) (.int .i8 0):=hbk1.of_heap (hgb.block b hbk1.lt (fun e=>hGb (WO e).symm))
  have hcm2:=hcm'
  unfold maxLen at hcm2
  have hgb0:=hgb
  have hYr:=hY
  clear hsrc hsrc1 hr hA
  go_wp2
  go_ret2
  exact ⟨rfl,_,_,hW2,hlc',hcm',Xy ⟨G,W1,Y,t,rfl,hGw,hGb,hgW,hgb0,hYr,hYs,hYt⟩⟩
end
end
section
open Go.Shelf Go.RowKit
section
variable {P:Program} {ρ:Ren} {base:Nat->Prop} {w0 w w':World} {I0 I:Imm} {β:Bmap} {σ:Za}
theorem Zxf {b:Nat} {ty:TypeId} {x y z:Value} (h:LibA.Three w b 0 ty (fun _=>none) x y z):w.heap[b]?=some (.cells #[x,y,z] ty (0,0)):=by
 obtain ⟨cs,hb,h0,h1,h2,hr⟩:=h
 rw [hb]
 have : cs=#[x,y,z]:=by
  apply Array.ext_getElem?
  intro i
  match i with
  | 0=>exact h0
  | 1=>exact h1
  | 2=>exact h2
  | i+3=>rw [hr (i+3) (Xy (by omega))];exact (Array.getElem?_eq_none (by simp)).symm
 rw [this]
theorem ZIN {k:Nat} {y:AVal} {ys:List AVal} {b off:Nat} (h:LR I β k (y::ys) b off) (hk:0 < k):∃ u,I b off=some u:=by
 rw [Zfn] at h
 obtain ⟨⟨h1,h2⟩,_⟩:=h
 cases hc:y.cells with
 | nil=>rw [hc] at h1;simp at h1;omega
 | cons c cs =>
  rw [hc] at h2
  simp only [CR] at h2
  obtain ⟨⟨u,hu,_⟩,_⟩:=h2
  exact ⟨u,hu⟩
theorem ZGx (R:Rel base w0 I0 I β σ w) {b:Nat} (hb:∀ o,I b o=none) {y:Bool} {ys:List AVal} {v:Value} (hv:VR I β (.lst y ys) v) (hk:kOk 1 ys=true) :
  ∃ A cap news,v=.slice A ys.length cap/\news.length=ys.length/\VRs I β (ys.flatMap AVal.cells) news/\Zae ys=true/\(∀ x ∈ ys,x.cells.length=1)/\(∀ v ∈ news,v.oneCell'=true) /\
   (ys.length=0\/∃ a,A=some a/\a.block≠b/\∀ j v,news[j]?=some v->w.cell? (a.add j)=some v):=by
 have hv0:=hv
 obtain ⟨A,cap,e,_,_,htree,hc⟩:=Zma R hv
 by_cases hne:ys=[]
 ·subst hne
  exact ⟨A,cap,[],e,rfl,by simp [VRs],rfl,by simp,by simp,Xr rfl⟩
 ·rcases hc with hc | ⟨b',off,k,us,hA,hk0,hl,hvs,hcell⟩
  ·exact absurd hc hne
  have e1:=Zlo hk hl hne
  subst e1
  refine ⟨A,cap,us,e,by rw [<-ZaN hvs,ZdO hl,Xa2],hvs,htree,hl,Zf5 (fun z hz=>Zjc (Zc8.1 (ZjS htree) z hz)) hvs,Xy ⟨⟨b',off,none⟩,hA,?_,fun j v hj=>by rw [Addr.add_mid];exact hcell j v hj⟩⟩
  rintro rfl
  simp only [VR] at hv0
  obtain ⟨A',cap',e',_,_,_,h5,_⟩:=hv0
  rcases h5 with h5 | ⟨b2,off2,k2,e2,hk2,h5⟩
  ·exact hne h5
  ·rw [e] at e'
   injection e' with e' _ _
   rw [e'] at hA
   rw [hA] at e2
   injection e2 with e2
   injection e2 with e2 e3
   cases ys with
   | nil=>exact hne rfl
   | cons z zs =>
    obtain ⟨u,hu⟩:=ZIN h5 hk2
    rw [<-e2,hb] at hu;cases hu
theorem Zwa (L : LaysM.n180 P ρ) (hb : KLt base w0) {c0 : AVal} {lr : Int} {g : Nat} {xs : List AVal} (R : Rel base w0 I0 I β [.var [c0, .int .i64 0, .int .i8 lr], .row g 1 xs] w)
    {bi : BI} (hbi : β 1 g = some bi) {b kk cc : Nat} (hβ0 : β 0 0 = some ⟨some b, kk, cc⟩) {A : Option Addr} {cap : Nat} {ty : TypeId}
    (hheap : w.heap[b]? = some (.cells #[.slice A xs.length cap, .int .i64 0, .int .i8 lr] ty (0, 0)))
    (hA : (∃ gb, bi.b = some gb /\ A = some ⟨gb, 0, none⟩ /\ cap = bi.cap) \/ (bi.b = none /\ cap = 0 /\ bi.cap = 0))
    {y : Bool} {ys : List AVal} {v1 : Value} (hv1 : VR I β (.lst y ys) v1) (hlim : xs.length + ys.length <= ZbR) (hk : kOk 1 ys = true) :
    Calls P (ρ.f 180) #[.pointer (some ⟨b, 0, none⟩), v1] w (fun e w' => ∃ u, Ends (.tup [.int .i64 ys.length, .nili]) e u /\ ∃ β', β.le β' /\
      Rel base w0 I0 I β' [.var [.sl 1 (g + 1) 0 (xs ++ ys).length, .int .i64 0, .int .i8 0], .row (g + 1) 1 (xs ++ ys)] w' /\ VR I β' (.tup [.int .i64 ys.length, .nili]) u) := by
  have hbw := R.base_le hb
  have how : ZD β 0 (.var [c0, .int .i64 0, .int .i8 lr]) = some b := by simp only [ZD, hβ0, Wk]
  have hob := R.own 0 _ b rfl how
  obtain ⟨bi', hbi', hk1, _, hcap63, hxl, htree, hlens, hrow⟩ := R.blk 1 (.row g 1 xs) rfl
  rw [hbi] at hbi'; injection hbi' with hbi'; subst hbi'
  have hor : ZD β 1 (.row g 1 xs) = bi.b := by simp only [ZD, hbi, Wk]
  obtain ⟨olds, hBR, hvo, hA0⟩ : ∃ olds, BufRow w b A xs.length cap olds /\ VRs I β (xs.flatMap AVal.cells) olds /\ (A = none -> cap = 0) := by
    rcases hA with ⟨gb, e1, e2, e3⟩ | ⟨e1, e2, e3⟩
    . rcases hrow with ⟨h1, h2⟩ | ⟨gb', us, ty', h1, h2, h3, h4⟩
      . rw [e1] at h1; cases h1
      . rw [e1] at h1; injection h1 with h1; subst h1
        rw [Xa2] at h3 h4
        have hgb : gb ≠ b := by
          rintro rfl
          have := R.apart 0 _ 1 _ gb rfl rfl how (by rw [hor, e1])
          omega
        refine ⟨us.toList.take xs.length, ⟨by have h9 : us.toList.length = us.size := us.length_toList; rw [Wl]; omega, by omega, by unfold maxLen; omega, Zf5 (fun z hz => Zjc (Zc8.1 (ZjS htree) z hz)) h4, Xy ⟨gb, us, ty', e2, hgb, h2, by omega, rfl⟩⟩, h4, by rw [e2]; intro h; cases h⟩
    . have hx : xs = [] := Xz (by omega)
      subst hx
      exact ⟨[], ⟨rfl, by simp, by unfold maxLen; omega, by simp, Xr e2⟩, by simp [VRs], fun _ => e2⟩
  obtain ⟨A1, cap1, news, rfl, hnl, hvn, htn, hln, hn1, hsrc⟩ := ZGx R hob.2 hv1 hk
  refine (Zwq L ty (fun _ => none) b A xs.length cap lr olds news A1 ys.length cap1 w (LibA.three_whole hheap) hBR hA0 hnl hn1 hsrc (by unfold ZbR at hlim; omega)).mono ?_
  rintro e w' ⟨rfl, A', cap', hT, hle, hcm, hcase⟩
  refine ⟨_, rfl, ?_⟩
  have hT' := Zxf hT
  unfold maxLen at hcm
  obtain ⟨w1, hw1⟩ : ∃ w1 : World, w1 = { w with heap := w.heap.setIfInBounds b (.cells #[.slice A' (xs.length + ys.length) cap', .int .i64 0, .int .i8 0] ty (0, 0)) } := ⟨_, rfl⟩
  have hbl : b < w.heap.size := Lib.lt_of_heap hheap
  have h1b : w1.heap[b]? = w'.heap[b]? := by rw [hw1, hT']; simp [hbl]
  have h1o : ∀ k, k ≠ b -> w1.heap[k]? = w.heap[k]? := fun k hk => by rw [hw1]; exact Array.getElem?_setIfInBounds_ne (fun e => hk e.symm)
  have h1s : w1.heap.size = w.heap.size := by rw [hw1]; simp
  have R1 : Rel base w0 I0 I β [.var [.top, .int .i64 0, .int .i8 0], .row g 1 xs] w1 := by
    have := R.putObj (t := 0) (x' := .var [.top, .int .i64 0, .int .i8 0]) rfl how (by simp only [ZD, hβ0, Wk]) (.cells #[.slice A' (xs.length + ys.length) cap', .int .i64 0, .int .i8 0] ty (0, 0))
      ⟨b, kk, cc, _, ty, hβ0, by simp [hbl]; rfl, by simp [VRs, VR]⟩ rfl
    rw [hw1]; exact this
  obtain ⟨bi2, hB, keep, hbi2, hblk, hv2⟩ : ∃ bi2 : BI, KB base w1 w' /\ (∀ b', ZD β 1 (.row g 1 xs) ≠ some b' -> b' < w1.heap.size -> w'.heap[b']? = w1.heap[b']?) /\ (bi2.b = none \/ ∃ b', bi2.b = some b' /\ (ZD β 1 (.row g 1 xs) = some b' \/ b' = w1.heap.size)) /\
      BR I (β.put 1 (g + 1) bi2) w' 1 (.row (g + 1) 1 (xs ++ ys)) /\ VR I (β.put 1 (g + 1) bi2) (.sl 1 (g + 1) 0 (xs ++ ys).length) (.slice A' (xs.length + ys.length) cap') := by
    have hle2 : β.le (β.put 1 (g + 1) bi) -> True := fun _ => trivial
    have hnone : β 1 (g + 1) = none := R.gen 1 _ (g + 1) rfl (by simp [Zo])
    rcases hcase with ⟨hn0, rfl, rfl, hgB⟩ | ⟨G, W1, Y, t, rfl, hGw, hGb, hg1, hg2, hY, hYs, hYt⟩
    . have hy : ys = [] := Xz hn0
      subst hy
      simp only [Xp, XG, Wb]
      have hbl' : β.le (β.put 1 (g + 1) bi) := Bmap.put_le hnone
      have same : ∀ k, k < w.heap.size -> w'.heap[k]? = w1.heap[k]? := by
        intro k hk
        by_cases e : k = b
        . rw [e, h1b]
        . rw [h1o k e]; exact hgB.block k hk (fun h => e (WO h))
      refine ⟨bi, ⟨by rw [hw1]; exact hgB.os, by rw [hw1]; exact hgB.tape, by rw [hw1]; exact hgB.output, by rw [h1s]; exact hgB.size, fun k hk => same k (hbw k hk)⟩, fun b' _ hb' => same b' (by omega), ?_, ?_, ?_⟩
      . rw [hor]
        cases bi.b with
        | none => exact Xr rfl
        | some x => exact Xy ⟨x, rfl, Xr rfl⟩
      . refine ⟨bi, Bmap.put_same β 1 (g + 1) bi, hk1, by omega, hcap63, hxl, htree, hlens, hrow.imp id ?_⟩
        rintro ⟨gb, us, ty', q1, q2, q3, q4⟩
        have hgb : gb ≠ b := by
          rintro rfl
          have := R.apart 0 _ 1 _ gb rfl rfl how (by rw [hor, q1])
          omega
        exact ⟨gb, us, ty', q1, by rw [same gb (Lib.lt_of_heap q2), h1o gb hgb]; exact q2, q3, VRs.mono (Imm.le.refl I) hbl' _ _ q4⟩
      . rw [Zb2]
        refine ⟨bi, Bmap.put_same β 1 (g + 1) bi, hxl, hcap63, ?_⟩
        rcases hA with ⟨gb, e1, e2, e3⟩ | ⟨e1, e2, e3⟩
        . exact Xr ⟨gb, e1, by rw [e2, e3]⟩
        . have hx : xs.length = 0 := by omega
          exact Xy ⟨e1, e3, _, by rw [hx, e2]⟩
    . have hbl' : β.le (β.put 1 (g + 1) ⟨some G, 1, cap'⟩) := Bmap.put_le hnone
      have hGo : ZD β 1 (.row g 1 xs) = some G \/ G = w1.heap.size := by
        rcases hGw with e | ⟨e, hc0⟩
        . exact Xy (by rw [h1s]; exact e)
        . refine Xr ?_
          rw [hor]
          rcases hA with ⟨gb, e1, e2, e3⟩ | ⟨e1, e2, e3⟩
          . rw [e2] at e; injection e with e; injection e with e; rw [e1, e]
          . exact absurd e2 hc0
      have hsz1 : w.heap.size <= W1.heap.size := hg1.size
      have same : ∀ k, k < w.heap.size -> k ≠ G -> w'.heap[k]? = w1.heap[k]? := by
        intro k hk hkG
        by_cases e : k = b
        . rw [e, h1b]
        . rw [h1o k e]; exact (hg2.block k (by omega) (fun h => hkG (WO h))).trans (hg1.block k hk (fun h => e (WO h)))
      refine ⟨⟨some G, 1, cap'⟩, ⟨by rw [hw1]; exact hg2.os.trans hg1.os, by rw [hw1]; exact hg2.tape.trans hg1.tape, by rw [hw1]; exact hg2.output.trans hg1.output, by rw [h1s]; exact Nat.le_trans hg1.size hg2.size, fun k hk => same k (hbw k hk) ?_⟩, fun b' hb1 hb' => same b' (by omega) ?_, Xy ⟨G, rfl, hGo⟩, ?_, ?_⟩
      . rintro rfl
        rcases hGo with e | e
        . exact (R.own 1 _ _ rfl e).1 hk
        . have := hbw _ hk; omega
      . rintro rfl
        rcases hGo with e | e
        . exact hb1 e
        . omega
      . refine ⟨_, Bmap.put_same β 1 (g + 1) _, rfl, by omega, hcm, by rw [Xk]; exact hle, by rw [ZgN htree htn], ?_, Xy ⟨G, Y, t, rfl, hY, by rw [hYs, Xa2], ?_⟩⟩
        . intro x hx
          rcases List.mem_append.1 hx with h | h
          . exact hlens x h
          . exact hln x h
        . rw [Xk, Xa2, hYt, Ze8]
          exact Zcd (VRs.mono (Imm.le.refl I) hbl' _ _ hvo) (VRs.mono (Imm.le.refl I) hbl' _ _ hvn)
      . rw [Zb2]
        exact ⟨_, Bmap.put_same β 1 (g + 1) _, by rw [Xk]; exact hle, hcm, Xr ⟨G, rfl, by rw [Xk]⟩⟩
  have hbw1 : KLt base w1 := fun k hk => by rw [h1s]; exact hbw k hk
  obtain ⟨R2, hle2⟩ := R1.grow (t := 1) (g := g) (k := 1) (xs := xs) (xs' := xs ++ ys) rfl bi2 hB (by
    intro b' o u hI
    have hne : b' ≠ b := by rintro rfl; rw [hob.2 o] at hI; cases hI
    have hlt : b' < w1.heap.size := by rw [h1s]; exact Zd7 (R.imm _ _ _ hI)
    have hno : ZD β 1 (.row g 1 xs) ≠ some b' := fun e => by have := (R.own 1 _ b' rfl e).2 o; rw [this] at hI; cases hI
    rw [<- R1.imm b' o u hI]
    simp only [World.cell?, keep b' hno hlt]) keep hbi2 hbw1 hblk
  have hβ2 : (β.put 1 (g + 1) bi2) 0 0 = some ⟨some b, kk, cc⟩ := hle2 _ _ _ hβ0
  refine ⟨β.put 1 (g + 1) bi2, hle2, ?_, by simp [VR, VRs]⟩
  refine R2.upd (Imm.le.refl I) (Bmap.le.refl _) (KB.refl _ _) (fun _ _ _ => rfl) R2.imm 0 (.var [.sl 1 (g + 1) 0 (xs ++ ys).length, .int .i64 0, .int .i8 0]) rfl (by simp) (fun _ _ _ => rfl) ?_ ?_ ?_ ?_ (by simp)
  . intro t' x b' hne hx hb'
    refine ⟨rfl, (R2.own t' x b' hx hb').2, ?_⟩
    simp only [ZD, hβ2, Wk]
    intro e; injection e with e; subst e
    exact hne (R2.apart t' x 0 _ b hx rfl hb' (by simp only [ZD, hβ2, Wk]))
  . exact ⟨b, kk, cc, _, ty, hβ2, hT', by simp only [VRs]; exact ⟨_, _, rfl, hv2, _, _, rfl, by simp [VR], _, _, rfl, by simp [VR], rfl⟩⟩
  . intro b' e
    simp only [ZD, hβ2, Wk] at e; injection e with e; subst e
    exact R2.own 0 _ b rfl (by simp only [ZD, hβ2, Wk])
  . intro g' hg'
    exact R2.gen 0 _ g' rfl (by simpa [Zo] using hg')
theorem ZEX (L:LaysM.n180 P ρ) {f:FuncId} (hf:ρ.f 180=f) (hx:∃ fn,P.funcs[f]?=some fn/\fn.body.isSome=true/\(fn.name == "runtime.NumGoroutine")=false) {args:List AVal} {σ σ':Za} {r:AVal} (hg:Zg9 args σ=some (r,σ')) :
  (∃ fn,P.funcs[f]?=some fn/\fn.body.isSome=true/\(fn.name == "runtime.NumGoroutine")=false) /\
  ∀ base w0 I0 I β w (vs:Array Value),KLt base w0->Rel base w0 I0 I β σ w->VRs I β args vs.toList ->
   Calls P f vs w (fun e w'=>∃ u,Ends r e u/\ZbP σ.length base w0 I0 I β r σ' u w'):=by
 refine ⟨hx,?_⟩
 intro base w0 I0 I β w vs hb R hargs
 subst hf
 unfold Zg9 at hg
 split at hg
 ·
  rename_i y ys lr
  split at hg
  case isFalse=>cases hg
  rename_i hc
  simp only [Xa,Xd] at hg
  obtain ⟨rfl,rfl⟩:=hg
  simp only [VRs] at hargs
  obtain ⟨v0,_,hvs,h0,v1,_,rfl,h1,rfl⟩:=hargs
  have hvs':vs=#[v0,v1]:=by rw [<-XaH];exact hvs
  subst hvs'
  simp only [VR] at h0
  obtain ⟨b,k,c,hβ0,rfl⟩:=h0
  obtain ⟨b',k',c',us,ty,hβ,hheap,hcs⟩:=R.blk 0 _ rfl
  rw [hβ0] at hβ;injection hβ with hβ;injection hβ with hβ1 hβ2 hβ3;injection hβ1 with hβ1;subst hβ1 hβ2 hβ3
  simp only [VRs] at hcs
  obtain ⟨u0,_,hus,hu0,u1,_,rfl,hu1,u2,_,rfl,hu2,rfl⟩:=hcs
  simp only [VR] at hu0 hu1 hu2
  obtain ⟨A,cap,rfl,_,_,hcap,_,_⟩:=hu0
  have hcap0:cap=0:=by simpa using hcap
  subst hu1 hu2 hcap0
  have hus':us=#[.slice A 0 0,.int .i64 0,.int .i8 lr]:=by rw [<-XaH];simpa using hus
  subst hus'
  have R1:=R.reserve 1
  have hfree:([.var [.lst true [],.int .i64 0,.int .i8 lr]]++List.replicate 1 ZK.free)[1]?=some .free:=rfl
  obtain ⟨R2,hle⟩:=R1.newNone hfree 1 (by omega)
  have R3:Rel base w0 I0 I (β.put 1 0 ⟨none,1,0⟩) [.var [.lst true [],.int .i64 0,.int .i8 lr],.row 0 1 []] w:=R2
  refine (Zwa L hb R3 (bi:=⟨none,1,0⟩) (Bmap.put_same β 1 0 _) (hle _ _ _ hβ0) (A:=A) (cap:=0) hheap (Xy ⟨rfl,rfl,rfl⟩) (h1.mono (Imm.le.refl I) hle _ _) (by simpa using hc.1) hc.2).mono ?_
  rintro e w' ⟨u,he,β',hb',hR,hv⟩
  obtain ⟨β2,hk2,hR2,_⟩:=Znj hR 1 []
  refine ⟨u,he,I,β2,Imm.le.refl I,(KeptE.of_le (hle.trans hb')).trans hk2,?_,by simpa [ZaW,VR,VRs] using hv⟩
  have hgc:(gcA 1 [] [.var [.sl 1 (0+1) 0 ([]++ys).length,.int .i64 0,.int .i8 0],.row (0+1) 1 ([]++ys)]).2=[.var [.sl 1 0 0 ys.length,.int .i64 0,.int .i8 0],.row 0 1 ys]:=rfl
  rw [hgc] at hR2
  exact hR2
 ·rename_i y ys g m lr g' xs
  split at hg
  case isFalse=>cases hg
  rename_i hc
  obtain ⟨rfl,rfl,hc1,hc2⟩:=hc
  simp only [Xa,Xd] at hg
  obtain ⟨rfl,rfl⟩:=hg
  simp only [VRs] at hargs
  obtain ⟨v0,_,hvs,h0,v1,_,rfl,h1,rfl⟩:=hargs
  have hvs':vs=#[v0,v1]:=by rw [<-XaH];exact hvs
  subst hvs'
  simp only [VR] at h0
  obtain ⟨b,k,c,hβ0,rfl⟩:=h0
  obtain ⟨b',k',c',us,ty,hβ,hheap,hcs⟩:=R.blk 0 _ rfl
  rw [hβ0] at hβ;injection hβ with hβ;injection hβ with hβ1 hβ2 hβ3;injection hβ1 with hβ1;subst hβ1 hβ2 hβ3
  obtain ⟨bi,hbi,hk1,_⟩:=R.blk 1 (.row g 1 xs) rfl
  simp only [VRs] at hcs
  obtain ⟨u0,_,hus,hu0,u1,_,rfl,hu1,u2,_,rfl,hu2,rfl⟩:=hcs
  rw [Zb2] at hu0
  simp only [VR] at hu1 hu2
  subst hu1 hu2
  obtain ⟨bi',hbi',_,_,hcase⟩:=hu0
  rw [hbi] at hbi';injection hbi' with hbi';subst hbi'
  obtain ⟨A,cap,rfl,hA⟩:∃ A cap,u0=.slice A xs.length cap/\((∃ gb,bi.b=some gb/\A=some ⟨gb,0,none⟩/\cap=bi.cap)\/(bi.b=none/\cap=0/\bi.cap=0)):=by
   rcases hcase with ⟨gb,e1,e2⟩ | ⟨e1,e2,A,e3⟩
   ·exact ⟨_,_,e2,Xr ⟨gb,e1,rfl,rfl⟩⟩
   ·obtain ⟨bi2,hbi2,_,_,_,hxl,_⟩:=R.blk 1 (.row g 1 xs) rfl
    rw [hbi] at hbi2;injection hbi2 with hbi2;subst hbi2
    exact ⟨A,0,by rw [e3,show xs.length=0 by omega],Xy ⟨e1,rfl,e2⟩⟩
  have hus':us=#[.slice A xs.length cap,.int .i64 0,.int .i8 lr]:=by rw [<-XaH];simpa using hus
  subst hus'
  refine (Zwa L hb R hbi hβ0 hheap hA h1 hc1 hc2).mono ?_
  rintro e w' ⟨u,he,β',hb',hR,hv⟩
  exact ⟨u,he,I,β',Imm.le.refl I,KeptE.of_le hb',hR,hv⟩
 ·cases hg
end
end
section
open Go.Shelf
def ZJC:Ren:=⟨fun | 180=>83 | 251=>107 | 252=>108 | 181=>141 | 184=>142 | 290=>143 | 324=>163 | n=>n,fun | 130=>160 | 37=>22 | 3=>3 | 75=>142 | 0=>0 | 93=>130 | 91=>128 | 131=>91 | 4=>4 | 20=>20 | 5=>5 | 80=>190 | 9=>9 | n=>n,fun | 14=>2 | n=>n⟩
theorem ZDf:Go.Proofs.LaysM.n180 Tryz.prog ZJC:={ mixed:=by kernel_rfl,f180:=Tryz.func83.trans (congrArg some (by kernel_rfl)),f181:=Tryz.func141.trans (congrArg some (by kernel_rfl)),f184:=Tryz.func142.trans (congrArg some (by kernel_rfl)),f251:=Tryz.func107.trans (congrArg some (by kernel_rfl)),f252:=Tryz.func108.trans (congrArg some (by kernel_rfl)),f290:=Tryz.func143.trans (congrArg some (by kernel_rfl)),f324:=Tryz.func163.trans (congrArg some (by kernel_rfl)),t0:=Tryz.underlying0,a0:=Tryz.isAgg0,z0:=Tryz.sizeOf0,v0:=Tryz.zeroValue0,t3:=Tryz.underlying3,a3:=Tryz.isAgg3,z3:=Tryz.sizeOf3,v3:=Tryz.zeroValue3,t4:=Tryz.underlying4,a4:=Tryz.isAgg4,z4:=Tryz.sizeOf4,v4:=Tryz.zeroValue4,t20:=Tryz.underlying20,a20:=Tryz.isAgg20,z20:=Tryz.sizeOf20,v20:=Tryz.zeroValue20,t37:=Tryz.underlying22,a37:=Tryz.isAgg22,z37:=Tryz.sizeOf22,v37:=Tryz.zeroValue22,t75:=Tryz.underlying142,a75:=Tryz.isAgg142,z75:=Tryz.sizeOf142,v75:=Tryz.zeroValue142,t91:=Tryz.underlying128,a91:=Tryz.isAgg128,z91:=Tryz.sizeOf128,v91:=Tryz.zeroValue128,t93:=Tryz.underlying130,a93:=Tryz.isAgg130,z93:=Tryz.sizeOf130,v93:=Tryz.zeroValue130,t130:=Tryz.underlying160,a130:=Tryz.isAgg160,z130:=Tryz.sizeOf160,v130:=Tryz.zeroValue160,t131:=Tryz.underlying91,a131:=Tryz.isAgg91,z131:=Tryz.sizeOf91,v131:=Tryz.zeroValue91,g14:=by kernel_rfl,t5:=Tryz.underlying5,a5:=Tryz.isAgg5,z5:=Tryz.sizeOf5,v5:=Tryz.zeroValue5,t9:=Tryz.underlying9,a9:=Tryz.isAgg9,z9:=Tryz.sizeOf9,v9:=Tryz.zeroValue9,t80:=Tryz.underlying190,a80:=Tryz.isAgg190,z80:=Tryz.sizeOf190,v80:=Tryz.zeroValue190,i0:=by kernel_rfl,i3:=by kernel_rfl,i4:=by kernel_rfl,i5:=by kernel_rfl,i9:=by kernel_rfl,i20:=by kernel_rfl,i37:=by kernel_rfl,i75:=by kernel_rfl,i80:=by kernel_rfl,i91:=by kernel_rfl,i93:=by kernel_rfl,i130:=by kernel_rfl,i131:=by kernel_rfl,m14:=by kernel_rfl }
end
section
theorem ZIP:∃ fn,Tryz.prog.funcs[83]?=some fn/\fn.body.isSome=true/\(fn.name == "runtime.NumGoroutine")=false:=⟨Tryz.f83,Tryz.func83,by kernel_rfl,by kernel_rfl⟩
theorem ZLg:Zkn Tryz.prog PR1:=by
 intro f g h args σ r σ' hg
 unfold PR1 at h
 split at h
 ·rename_i e;subst e
  injection h with h;subst h
  exact ZOD hg
 ·split at h
  ·rename_i e;subst e
   injection h with h;subst h
   exact ZEX ZDf rfl ZIP hg
  ·exact ZsJ f g h args σ r σ' hg
theorem ZBR:ZaE Tryz.prog E1:=by
 have h:E1=EV CF PR1 BY:=ZLv CF PR1 BY
 rw [h]
 exact ZLh Zgm ZLg ann BY
end
section
mutual
def eqV:AVal->AVal->Bool
 | .int k n,.int k' n'=>decide (k=k') && n == n'
 | .bool a,.bool b=>a == b
 | .str a,.str b=>a == b
 | .lst a xs,.lst b ys=>a == b && Zhb xs ys
 | .agg xs,.agg ys=>Zhb xs ys
 | _,_=>false
def Zhb:List AVal->List AVal->Bool
 | [],[]=>true
 | x::xs,y::ys=>eqV x y && Zhb xs ys
 | _,_=>false
end
mutual
theorem ZIA:∀ {a b:AVal},eqV a b=true->a=b
 | .int k n,.int k' n',h=>by
  simp only [eqV,Xj,decide_eq_true_eq,beq_iff_eq] at h
  rw [h.1,h.2]
 | .bool a,.bool b,h=>by
  simp only [eqV,beq_iff_eq] at h
  rw [h]
 | .str a,.str b,h=>by
  simp only [eqV,beq_iff_eq] at h
  rw [h]
 | .lst a xs,.lst b ys,h=>by
  simp only [eqV,Xj,beq_iff_eq] at h
  rw [h.1,Zl5 h.2]
 | .agg xs,.agg ys,h=>by
  simp only [eqV] at h
  rw [Zl5 h]
theorem Zl5:∀ {a b:List AVal},Zhb a b=true->a=b
 | [],[],_=>rfl
 | x::xs,y::ys,h=>by
  simp only [Zhb,Xj] at h
  rw [ZIA h.1,Zl5 h.2]
end
section
variable {fs:Nat->Option ZF} {p p':Zb5} {bf:Nat->Bool}
theorem ZsM (K:Nat) (h0:∀ f,p f=none->p' f=none) (h1:∀ f g,p f=some g->∀ a σ r,g a σ=some r->Zap fs p' bf K f a σ=some r):∀ n,OLe (Zap fs p bf n) (Zap fs p' bf (n+K))
 | 0=>by intro f a σ r h;simp only [Zap] at h;cases h
 | n+1=>by
  intro f a σ r h
  rw [Zap] at h
  split at h
  ·rename_i g hg
   exact Zgb fs p' (by omega) f a σ r (h1 f g hg a σ r h)
  ·rename_i hg
   rw [show n+1+K=(n+K)+1 by omega,Zap,h0 f hg]
   split at h
   ·cases h
   ·rename_i fn hfn
    exact ZiL (fun q hq=>Zdf (ZsM K h0 h1 n) (by omega) hq) h
end
def ZlF (f0:Nat) (a0:List AVal) (r0:AVal×Za):Zb5:=fun f=>if f=f0 then some (fun a σ=>if Zhb a a0 && σ.isEmpty then some r0 else none) else PR f
theorem Zzu {f0:Nat} {a0:List AVal} {r0:AVal×Za} (hf:PR1 f0=none) (h:E1 f0 a0 []=some r0) {n f:Nat} {a:List AVal} {σ:Za} {r:AVal×Za} (hr:Zap FC (ZlF f0 a0 r0) BY n f a σ=some r):E1 f a σ=some r:=by
 obtain ⟨K,hK⟩:=Zco.1 h
 have hO:=ZsM (fs:=FC) (bf:=BY) (p:=ZlF f0 a0 r0) (p':=PR1) (K+1) (fun f hf'=>?_) (fun f g hg a σ r hr=>?_) n f a σ r hr
 ·exact Zco.2 ⟨_,hO⟩
 ·unfold ZlF at hf'
  split at hf'
  ·cases hf'
  ·rename_i hne
   unfold PR1
   split
   ·rename_i e;subst e;revert hf';decide
   ·split
    ·rename_i e;subst e;revert hf';decide
    ·exact hf'
 ·unfold ZlF at hg
  split at hg
  ·rename_i e
   subst e
   injection hg with hg;subst hg
   dsimp only at hr
   split at hr
   ·rename_i hc
    simp only [Xj,List.isEmpty_iff] at hc
    injection hr with hr;subst hr
    rw [Zl5 hc.1,hc.2]
    exact Zgb FC PR1 (by omega) _ _ _ _ hK
   ·cases hr
  ·by_cases e1:f=66
   ·subst e1
    have : PR 66=some ZgS:=by rfl
    rw [this] at hg;injection hg with hg;subst hg;cases hr
   ·by_cases e2:f=83
    ·subst e2
     have : PR 83=some ZgS:=by rfl
     rw [this] at hg;injection hg with hg;subst hg;cases hr
    ·rw [Zap]
     have : PR1 f=some g:=by unfold PR1;rw [if_neg e1,if_neg e2];exact hg
     rw [this]
     exact hr
end
section
section
variable (P:List AVal) (hP:P.length=26) (hN:Zd P=true)
include hP hN
theorem ZGP (k:Int) (hk:P[0]?=some (.int .i64 k)) (l:Zb) (hl:l.length<=140737488355328) {c:Int} (h:ZaL k l=.error c):∃ r:Zb,E 112 [.ref 0 0] [.var (P++[.lst false (l.map Zc)])]=some (.pan (Zz c),[.var (P++[.lst false (r.map Zc)])]):=by
 unfold ZaL at h
 split at h
 ·rename_i n' r' h2
  split at h
  case isTrue=>cases h
  rename_i hn
  injection h with h;subst h
  have hG:=fun σ sq hs=>ZcC P hP hN l hl σ 0 sq hs (m:=1) rfl h2
  have a4:=fun L=>(Zac P hP 0 (by omega) L).trans hk
  have m1:=ZbA
  have hC:=fun σ sq own=>Zi4 k n' σ sq own
  rw [Bool.not_eq_true _ |>.mp hn] at hC
  refine ⟨r',?_⟩
  rw [Zh (by rfl) ZfU]
  simp -implicitDefEqProofs only [EQA,Xc,Xb,reduceCtorEq,↓reduceIte,Zft,Zeg,hG,hC,a4,m1]
  exact ZY rfl (ZaF hN (by rfl))
 ·rename_i c' h2
  injection h with h;subst h
  have hG:=fun σ sq hs=>Zf4 P hP hN l hl σ 0 sq hs (m:=1) rfl (by decide) h2
  refine ⟨l,?_⟩
  rw [Zh (by rfl) ZfU]
  simp -implicitDefEqProofs only [EQA,Xc,reduceCtorEq,↓reduceIte,Zft,Zeg,hG]
  exact ZY rfl (ZaF hN (by rfl))
end
section
variable (P:List AVal) (hP:P.length=26) (hN:Zd P=true) (l:Zb) (hl:l.length<=140737488355328)
include hP hN hl
theorem ZBr (h11:P[11]?=some (.lst true [])) {s r:Zb} (h:Zav l=.ok (s,r)):evC FC PR BY 3 Zc9 [(1,.ref 2 0),(0,.ref 0 0)] [.var [.ref 1 0],.var (P++[.lst false (l.map Zc)]),.var [.ref 1 0]]=some (.normal,[],[.var [.ref 1 0],.var (Zl P 11 3 0 1++[.lst false (r.map Zc)]),.var [.ref 1 0],.row 0 1 [.str s]]):=by
 have hT:=fun σ sq hs=>Zd8 P hP hN l hl σ 1 sq hs h
 have a1:=Z9 P hP
 have a3:=fun L v=>ZaD P hP 11 12 (by omega) rfl L v
 have a4:=fun L=>(Zac P hP 11 (by omega) L).trans h11
 unfold Zl
 simp -implicitDefEqProofs only [EQA,Xe,Xc,Xf,Xb,Xg,reduceCtorEq,ZR,↓reduceIte,Zc9,hT,a1,a3,a4,AVal.cells,Zay,viewAs,ZW,ZP,Zn,Xah,Z0,Z4,Z7,Zak,Zaj,Zah,Zar,Zal,Z6,Zdg,XK,Xw,kOk]
theorem ZBu {c:Int} (h:Zav l=.error c) (h11:P[11]?=some (.lst true [])):evC FC PR BY 3 Zc9 [(1,.ref 2 0),(0,.ref 0 0)] [.var [.ref 1 0],.var (P++[.lst false (l.map Zc)]),.var [.ref 1 0]]=some (.panic (Zz c),[],[.var [.ref 1 0],.var (P++[.lst false (l.map Zc)]),.var [.ref 1 0],.free]):=by
 have hT:=fun σ sq hs=>Zf8 P hP hN l hl σ 1 sq hs h
 have a4:=fun L=>(Zac P hP 11 (by omega) L).trans h11
 simp -implicitDefEqProofs only [EQA,Xe,WH,Xc,Xf,Xb,Xg,reduceCtorEq,↓reduceIte,Zc9,hT,a4,ZhS,Zdc,Xaw,XaE,Z0,Z4,Z7,Zak,Zaj,Zah,Zar,Zal,Z6,Zdg,XK,Xw]
theorem ZMk (h8:P[8]?=some (.lst true [])) (k:Int) (hk:P[0]?=some (.int .i64 k)) {c:Int} {r:Zb} (h:ZaL k l=.ok (c,r)):evC FC PR BY 3 Zdk [(1,.ref 2 0),(0,.ref 0 0)] [.var [.ref 1 0],.var (P++[.lst false (l.map Zc)]),.var [.ref 1 0]]=some (.normal,[],[.var [.ref 1 0],.var (Zl P 8 3 0 1++[.lst false (r.map Zc)]),.var [.ref 1 0],.row 0 1 [.int .i64 c]]):=by
 have hT:=fun σ sq hs=>ZiS P hP hN l hl σ 1 sq hs k hk h
 have a1:=Z9 P hP
 have a3:=fun L v=>ZaD P hP 8 9 (by omega) rfl L v
 have a4:=fun L=>(Zac P hP 8 (by omega) L).trans h8
 unfold Zl
 simp -implicitDefEqProofs only [EQA,Xe,Xc,Xf,Xb,Xg,reduceCtorEq,ZR,↓reduceIte,Zdk,hT,a1,a3,a4,AVal.cells,Zay,viewAs,ZW,ZP,Zn,Xah,Z0,Z4,Z7,Zak,Zaj,Zah,Zar,Zal,Z6,Zdg,XK,Xw,kOk]
theorem ZGV (h8:P[8]?=some (.lst true [])) (k:Int) (hk:P[0]?=some (.int .i64 k)) {e:Int} (h:ZaL k l=.error e):∃ r:Zb,evC FC PR BY 3 Zdk [(1,.ref 2 0),(0,.ref 0 0)] [.var [.ref 1 0],.var (P++[.lst false (l.map Zc)]),.var [.ref 1 0]]=some (.panic (Zz e),[],[.var [.ref 1 0],.var (P++[.lst false (r.map Zc)]),.var [.ref 1 0],.free]):=by
 obtain ⟨r,he⟩:=ZGP P hP hN k hk l hl h
 have hT:=fun (σ:Za) sq (hs:σ[1]?=some (.var (P++[.lst false (l.map Zc)])))=>Zcy (O:=E) (bf:=BY) (f:=112) (view:=true) (rest:=[]) (by kernel_rfl) rfl (Zx P hP hN _ _) (Zx P hP hN _ _) rfl he hs sq
 have a4:=fun L=>(Zac P hP 8 (by omega) L).trans h8
 refine ⟨r,?_⟩
 simp -implicitDefEqProofs only [EQA,Xe,WH,Xc,Xf,Xb,Xg,reduceCtorEq,↓reduceIte,Zdk,hT,a4,ZhS,Zdc,Xaw,XaE,Z0,Z4,Z7,Zak,Zaj,Zah,Zar,Zal,Z6,Zdg,XK,Xw]
end
end
section
section
variable (P:List AVal) (hP:P.length=26) (hN:Zd P=true) (l:Zb) (hl:l.length<=140737488355328)
include hP hN hl
theorem ZKr (xs:List AVal) (hx:xs.length*16+16<=140737488355328) (kk:kOk 1 xs=true) {s r:Zb} (h:Zav l=.ok (s,r)):evC FC PR BY 4 Zc9 [(1,.ref 3 0),(0,.ref 0 0)] [.var [.ref 1 0],.var (Zl P 11 2 0 xs.length++[.lst false (l.map Zc)]),.row 0 1 xs,.var [.ref 1 0]]=some (.normal,[],[.var [.ref 1 0],.var (Zl P 11 2 1 (xs.length+1)++[.lst false (r.map Zc)]),.row 1 1 (xs++[.str s]),.var [.ref 1 0],.free]):=by
 have hT:=fun σ sq hs hr=>ZpK P hP hN 11 (by omega) xs.length 1 xs l hl σ 1 2 0 sq (by omega) hs hr h
 have hL:=ZbY P hP hN 11 (by omega) xs.length 2 0
 have a1:=Z9 _ hL
 have a3:=fun L v=>ZaD _ hL 11 12 (by omega) rfl L v
 have hc:(Zl P 11 2 0 xs.length)[11]?=some (.sl 2 0 0 xs.length):=by unfold Zl;rw [X5 (by omega)]
 have a4:=fun L=>(Zac _ hL 11 (by omega) L).trans hc
 have hset:(Zl P 11 2 0 xs.length).set 11 (.sl 2 1 0 (xs.length+1))=Zl P 11 2 1 (xs.length+1):=by unfold Zl;rw [Xa4]
 have k1:kOk 1 [.str s]=true:=rfl
 have tk:xs.take xs.length=xs:=XaG
 have lim:(xs.length+1)*16<=140737488355328:=by omega
 have lim2:16*(xs.length+1)<=140737488355328:=by omega
 simp -implicitDefEqProofs only [EQA,Xe,Xc,Xf,Xb,Xg,reduceCtorEq,ZR,↓reduceIte,Zc9,hT,a1,a3,a4,AVal.cells,Zay,viewAs,ZW,ZP,Zn,Z0,Z4,Z7,Zak,Zaj,Zah,Zar,Zal,Z6,Zdg,XK,Xw,k1,lim,hset]
theorem Zxi (xs:List AVal) (hx:xs.length*8+8<=140737488355328) (kk:kOk 1 xs=true) (k:Int) (hk:P[0]?=some (.int .i64 k)) {c:Int} {r:Zb} (h:ZaL k l=.ok (c,r)):evC FC PR BY 4 Zdk [(1,.ref 3 0),(0,.ref 0 0)] [.var [.ref 1 0],.var (Zl P 8 2 0 xs.length++[.lst false (l.map Zc)]),.row 0 1 xs,.var [.ref 1 0]]=some (.normal,[],[.var [.ref 1 0],.var (Zl P 8 2 1 (xs.length+1)++[.lst false (r.map Zc)]),.row 1 1 (xs++[.int .i64 c]),.var [.ref 1 0],.free]):=by
 have hk0:(Zl P 8 1 0 xs.length)[0]?=some (.int .i64 k):=by unfold Zl;rw [Xm (by omega)];exact hk
 have hT:=fun σ sq hs hr=>ZAz P hP hN 8 (by omega) xs.length 1 xs l hl k hk0 σ 1 2 0 sq (by omega) hs hr h
 have hL:=ZbY P hP hN 8 (by omega) xs.length 2 0
 have a1:=Z9 _ hL
 have a3:=fun L v=>ZaD _ hL 8 9 (by omega) rfl L v
 have hc:(Zl P 8 2 0 xs.length)[8]?=some (.sl 2 0 0 xs.length):=by unfold Zl;rw [X5 (by omega)]
 have a4:=fun L=>(Zac _ hL 8 (by omega) L).trans hc
 have hset:(Zl P 8 2 0 xs.length).set 8 (.sl 2 1 0 (xs.length+1))=Zl P 8 2 1 (xs.length+1):=by unfold Zl;rw [Xa4]
 have k1:kOk 1 [.int .i64 c]=true:=rfl
 have tk:xs.take xs.length=xs:=XaG
 have lim:(xs.length+1)*8<=140737488355328:=by omega
 have lim2:8*(xs.length+1)<=140737488355328:=by omega
 simp -implicitDefEqProofs only [EQA,Xe,Xc,Xf,Xb,Xg,reduceCtorEq,ZR,↓reduceIte,Zdk,hT,a1,a3,a4,AVal.cells,Zay,viewAs,ZW,ZP,Zn,Z0,Z4,Z7,Zak,Zaj,Zah,Zar,Zal,Z6,Zdg,XK,Xw,k1,lim,hset]
end
end
section
def ZtI (P:List AVal) (f c:Int) (ps:List Zv):List AVal:=((P.set 25 (.bool (f == 1))).set 7 (.int .i64 c)).set 9 (.lst false (ps.map Zq))
section
variable (P:List AVal) (hP:P.length=26) (hN:Zd P=true) (h0:P[0]?=some (.int .i64 2)) (l:Zb) (hl:l.length<=140737488355328)
include hP hN h0 hl
theorem ZEO {e:Int} (h:ZaM 1 l=.error e):∃ cs,Zd cs=true/\E 88 [.ref 0 0] (Zj P l)=some (.pan (Zz e),[.var cs]):=by
 have a4:=fun L=>(Zac P hP 0 (by omega) L).trans h0
 have hT:=fun σ sq hs=>Zf4 P hP hN l hl σ 0 sq hs (m:=1) rfl (by decide) h
 refine ⟨P++[.lst false (l.map Zc)],Zx P hP hN _ _,?_⟩
 unfold Zj
 rw [Zh (by rfl) Zbg]
 simp -implicitDefEqProofs only [EQA,ZI,Xe,Xc,Xf,Xb,Xg,↓reduceIte,Zbe,Zba,a4,hT,Xq]
 exact ZY rfl (Zx P hP hN _ _)
theorem ZK4 {f:Int} {r:Zb} (h:ZaM 1 l=.ok (f,r)) (hf:¬f < 2):∃ cs,Zd cs=true/\E 88 [.ref 0 0] (Zj P l)=some (.pan (Zz 129),[.var cs]):=by
 have a4:=fun L=>(Zac P hP 0 (by omega) L).trans h0
 have hT:=fun σ sq hs=>ZcC P hP hN l hl σ 0 sq hs (m:=1) rfl h
 have m1:=ZbA
 refine ⟨P++[.lst false (r.map Zc)],Zx P hP hN _ _,?_⟩
 unfold Zj
 rw [Zh (by rfl) Zbg]
 simp -implicitDefEqProofs only [EQA,ZI,Xe,Xc,Xf,Xb,Xg,↓reduceIte,Zbe,Zba,a4,hT,m1,hf,Xq]
 exact ZY rfl (Zx P hP hN _ _)
theorem ZCS {f:Int} {r:Zb} (h:ZaM 1 l=.ok (f,r)) (hf:f < 2) {e:Int} (hc:ZaL 2 r=.error e):∃ cs,Zd cs=true/\E 88 [.ref 0 0] (Zj P l)=some (.pan (Zz e),[.var cs]):=by
 have hr:=Zf7 h
 have a1:=Z9 P hP
 have a4:=fun L=>(Zac P hP 0 (by omega) L).trans h0
 have hT:=fun σ sq hs=>ZcC P hP hN l hl σ 0 sq hs (m:=1) rfl h
 have m0:=Zbb
 have a3:=fun L=>ZaD P hP 25 26 (by omega) rfl L (.bool (f == 1))
 have hP1:(P.set 25 (.bool (f == 1))).length=26:=by simp [hP]
 have hN1:Zd (P.set 25 (.bool (f == 1)))=true:=ZQ rfl _ hN
 have g0:(P.set 25 (.bool (f == 1)))[0]?=some (.int .i64 2):=by rw [Xm (by omega)];exact h0
 generalize P.set 25 (.bool (f == 1))=Q at *
 obtain ⟨cs,hn,he⟩:=Zsg Q hP1 hN1 2 g0 r (by omega) hc
 have hC:=fun (σ:Za) sq (hs:σ[0]?=some (.var (Q++[.lst false (r.map Zc)])))=>Zcy (O:=E) (bf:=BY) (f:=112) (view:=true) (rest:=[]) (by kernel_rfl) rfl (Zx Q hP1 hN1 _ _) hn rfl he hs sq
 refine ⟨cs,hn,?_⟩
 unfold Zj
 rw [Zh (by rfl) Zbg]
 simp -implicitDefEqProofs only [EQA,ZI,Xe,WH,Xc,Xf,Xb,Xg,↓reduceIte,Zbe,Zba,a1,a3,a4,hT,hC,m0,hf,Xq,ZhS,Zdc,Xaw,XaE,Z0,Z4,Z7,Zak,Zaj,Zah,Zar,Zal,Z6,Zdg,XK,Xw]
 exact ZY rfl hn
theorem ZHq {f:Int} {r:Zb} (h:ZaM 1 l=.ok (f,r)) (hf:f < 2) {c:Int} {r2:Zb} (hc:ZaL 2 r=.ok (c,r2)) {e:Int} (hp:ZbM 2 r2=.error e):∃ cs,Zd cs=true/\E 88 [.ref 0 0] (Zj P l)=some (.pan (Zz e),[.var cs]):=by
 have hr2:=Zkz hc
 have hr:=Zf7 h
 have a1:=Z9 P hP
 have a4:=fun L=>(Zac P hP 0 (by omega) L).trans h0
 have hT:=fun σ sq hs=>ZcC P hP hN l hl σ 0 sq hs (m:=1) rfl h
 have m0:=Zbb
 have a3:=fun L=>ZaD P hP 25 26 (by omega) rfl L (.bool (f == 1))
 have hP1:(P.set 25 (.bool (f == 1))).length=26:=by simp [hP]
 have hN1:Zd (P.set 25 (.bool (f == 1)))=true:=ZQ rfl _ hN
 have g0:(P.set 25 (.bool (f == 1)))[0]?=some (.int .i64 2):=by rw [Xm (by omega)];exact h0
 generalize P.set 25 (.bool (f == 1))=Q at *
 have hC:=fun σ sq hs=>ZiS Q hP1 hN1 r (by omega) σ 0 sq hs 2 g0 hc
 have b1:=Z9 _ hP1
 have b3:=fun L=>ZaD _ hP1 7 8 (by omega) rfl L (.int .i64 c)
 have hP2:(Q.set 7 (.int .i64 c)).length=26:=by simp [hP1]
 have hN2:Zd (Q.set 7 (.int .i64 c))=true:=ZQ rfl _ hN1
 generalize Q.set 7 (.int .i64 c)=S at *
 have hG:=fun σ sq hs=>ZfR S hP2 hN2 r2 (by omega) σ 0 sq hs hp
 have c1:=Z9 _ hP2
 refine ⟨S++[.lst false (r2.map Zc)],Zx _ hP2 hN2 _ _,?_⟩
 unfold Zj
 rw [Zh (by rfl) Zbg]
 simp -implicitDefEqProofs only [EQA,ZI,Xe,WH,Xc,Xf,Xb,Xg,↓reduceIte,Zbe,Zba,a1,a3,a4,b1,b3,hT,hC,hG,m0,hf,Xq,ZhS,Zdc,Xaw,XaE,Z0,Z4,Z7,Zak,Zaj,Zah,Zar,Zal,Z6,Zdg,XK,Xw]
 exact ZY rfl (Zx _ hP2 hN2 _ _)
theorem ZC7 {f:Int} {r:Zb} (h:ZaM 1 l=.ok (f,r)) (hf:f < 2) {c:Int} {r2:Zb} (hc:ZaL 2 r=.ok (c,r2)) {ps:List Zv} {r3:Zb} (hp:ZbM 2 r2=.ok (ps,r3)) (hu:(Zao 2 r2).2.1<=r2.length):E 88 [.ref 0 0] (Zj P l)=some (if r3.length=0 then .tup [] else .pan (Zz 129),Zj (ZtI P f c ps) r3):=by
 have hr2:=Zkz hc
 have hr:=Zf7 h
 have a1:=Z9 P hP
 have a4:=fun L=>(Zac P hP 0 (by omega) L).trans h0
 have hT:=fun σ sq hs=>ZcC P hP hN l hl σ 0 sq hs (m:=1) rfl h
 have m0:=Zbb
 have a3:=fun L=>ZaD P hP 25 26 (by omega) rfl L (.bool (f == 1))
 have hP1:(P.set 25 (.bool (f == 1))).length=26:=by simp [hP]
 have hN1:Zd (P.set 25 (.bool (f == 1)))=true:=ZQ rfl _ hN
 have g0:(P.set 25 (.bool (f == 1)))[0]?=some (.int .i64 2):=by rw [Xm (by omega)];exact h0
 unfold ZtI
 generalize P.set 25 (.bool (f == 1))=Q at *
 have hC:=fun σ sq hs=>ZiS Q hP1 hN1 r (by omega) σ 0 sq hs 2 g0 hc
 have b1:=Z9 _ hP1
 have b3:=fun L=>ZaD _ hP1 7 8 (by omega) rfl L (.int .i64 c)
 have hP2:(Q.set 7 (.int .i64 c)).length=26:=by simp [hP1]
 have hN2:Zd (Q.set 7 (.int .i64 c))=true:=ZQ rfl _ hN1
 generalize Q.set 7 (.int .i64 c)=S at *
 have hG:=fun σ sq hs=>Zd3 S hP2 hN2 r2 (by omega) σ 0 sq hs hu hp
 have c1:=Z9 _ hP2
 have c3:=fun L=>ZaD _ hP2 9 10 (by omega) rfl L (.lst false (ps.map Zq))
 have hP3:(S.set 9 (.lst false (ps.map Zq))).length=26:=by simp [hP2]
 have hN3:Zd (S.set 9 (.lst false (ps.map Zq)))=true:=ZQ (Zb0 _ _) _ hN2
 generalize S.set 9 (.lst false (ps.map Zq))=U at *
 have d2:=Zax _ hP3
 unfold Zj
 by_cases hr3:r3.length=0
 ·have z:=Zey (l:=r3) (decide_eq_true hr3)
  rw [if_pos hr3]
  rw [Zh (by rfl) Zbg]
  simp -implicitDefEqProofs only [EQA,ZI,Zs,Xe,Xc,Xf,Xb,Xg,↓reduceIte,Zd,Zbe,Zba,Zez,a1,a3,a4,b1,b3,c1,c3,d2,z,hT,hC,hG,m0,hf,Xq,Z0,Z4,Z7,Zak,Zaj,Zah,Zar,Zal,Z6,XK,Xw]
  exact ZY rfl (Zx _ hP3 hN3 _ _)
 ·have z:=Zey (l:=r3) (decide_eq_false hr3)
  have m1:=ZbA
  rw [if_neg hr3]
  rw [Zh (by rfl) Zbg]
  simp -implicitDefEqProofs only [EQA,ZI,Xe,Xc,Xf,Xb,Xg,↓reduceIte,Zbe,Zba,a1,a3,a4,b1,b3,c1,c3,d2,z,hT,hC,hG,m0,m1,hf,Xq,Z0,Z4,Z7,Zak,Zaj,Zah,Zar,Zal,Z6,XK,Xw]
  exact ZY rfl (Zx _ hP3 hN3 _ _)
end
end
section
theorem ZMK {O:ZN} {bf:Nat->Bool} {σ:Za} {t f own:Nat} {rest:List AVal} {cs cs':List AVal} {r r':AVal} (hb:bf f=false) (hp:rest.all Zai=true) (hc:Zd cs=true) (hc':Zd cs'=true) (hn:ZM r'=true) (hv:viewR [.var cs'] r=some (r',[]))
  (h:O f (.ref 0 0::rest.map ZL) [.var cs]=some (r,[.var cs'])) (hs:σ[t]?=some (.var cs)) (sq:Nat) (hff:ZaY σ sq own=true):Zi O bf σ sq f own true (.ref t 0::rest)=some (r',σ.set t (.var cs'),{ any:=true,upd:=[(t,cs')] }):=by
 have htl:t < σ.length:=by
  rcases Wx t σ.length with h | h
  ·exact h
  ·rw [XQ h] at hs;cases hs
 have hup:Za4 (σ.set t (.var cs')) [t]=[(t,cs')]:=by
  simp only [Za4,Xv,if_pos htl,if_true]
 have hd:σ.getD t .free=.var cs:=by simp [Xh,hs]
 have hf0:Zn σ []=σ:=rfl
 have hsh:showAs σ (.ref t 0::rest)=some (.ref t 0::rest.map ZL,[]):=by
  rw [showAs,show showA σ (.ref t 0)=some (.ref t 0,[]) from rfl,Zea hp]
  rfl
 have href:Zp (.ref t 0::rest.map ZL)=[t]:=by
  rw [Zp,Zc2 hp];rfl
 unfold Zi Zbx
 rw [hb]
 simp only [Xi,if_false,hsh,hf0,href,Zfe hs hc]
 unfold Zbl
 have hall:([t].all fun t=>okB (σ.getD t .free))=true:=by simp [XP,Wj,hs,okB]
 rw [if_pos hall]
 have hρ:Zk σ 0 [t] t 0=some (0,0):=by simp [Zk,ZO,hs,Zo,ZJ]
 have hheap:Zr σ 0 [t] (Zk σ 0 [t]) [t] 0=[.var cs]:=by
  simp only [Zr,hd,ZB,(ZaX _ cs hc).1]
 have hargs:Zg (Zk σ 0 [t]) (.ref t 0::rest.map ZL)=.ref 0 0::rest.map ZL:=by
  rw [Zg,ZcN hp]
  simp only [Zm,hρ]
 rw [hargs,hheap,h]
 have hask:Z5 true [t].length (some (r,[.var cs']))=some (r',[.var cs']):=by
  unfold Z5
  rw [if_pos rfl]
  have hnp:∀ x,r≠.pan x:=by rintro x rfl;simp [viewR,ZW,ZP] at hv
  rw [show ZbB [t].length (some (r,[.var cs']))=(match viewR [.var cs'] r with
   | some (r',ts)=>match gcA [t].length [r'] (Zn [.var cs'] ts) with
    | ([r''],σ')=>some (r'',σ')
    | _=>none
   | none=>none) from by cases r <;> first | rfl | exact absurd rfl (hnp _)]
  rw [hv]
  simp only [XH,XG,XE,show Zn [ZK.var cs'] []=[.var cs'] from rfl,ZkO hn hc']
 rw [hask]
 have hk:ZaZ σ [t] [.var cs'] 0=true:=by
  simp [ZaZ,okB,hs,Zb4,Zo]
 simp only [Zaw,Wp,Xi,if_false,XH,XG,XE,Xam,Xx,decide_true,hk,hff,X0,if_true,Za1,ZaH,Xu,ZB,(Za7 _ r' hn).1,(ZaX _ cs' hc').1,hup]
theorem ZNF {O:ZN} {bf:Nat->Bool} {σ:Za} {t f own:Nat} {rest:List AVal} {cs cs':List AVal} {x:AVal} {view:Bool} (hb:bf f=false) (hp:rest.all Zai=true) (hc:Zd cs=true) (hc':Zd cs'=true) (hn:ZM x=true)
  (h:O f (.ref 0 0::rest.map ZL) [.var cs]=some (.pan x,[.var cs'])) (hs:σ[t]?=some (.var cs)) (sq:Nat) (hff:ZaY σ sq own=true):Zi O bf σ sq f own view (.ref t 0::rest)=some (.pan x,σ.set t (.var cs'),{ any:=true,upd:=[(t,cs')] }):=by
 have htl:t < σ.length:=by
  rcases Wx t σ.length with h | h
  ·exact h
  ·rw [XQ h] at hs;cases hs
 have hup:Za4 (σ.set t (.var cs')) [t]=[(t,cs')]:=by
  simp only [Za4,Xv,if_pos htl,if_true]
 have hd:σ.getD t .free=.var cs:=by simp [Xh,hs]
 have hf0:Zn σ []=σ:=rfl
 have hsh:showAs σ (.ref t 0::rest)=some (.ref t 0::rest.map ZL,[]):=by
  rw [showAs,show showA σ (.ref t 0)=some (.ref t 0,[]) from rfl,Zea hp]
  rfl
 have href:Zp (.ref t 0::rest.map ZL)=[t]:=by
  rw [Zp,Zc2 hp];rfl
 unfold Zi Zbx
 rw [hb]
 simp only [Xi,if_false,hsh,hf0,href,Zfe hs hc]
 unfold Zbl
 have hall:([t].all fun t=>okB (σ.getD t .free))=true:=by simp [XP,Wj,hs,okB]
 rw [if_pos hall]
 have hρ:Zk σ 0 [t] t 0=some (0,0):=by simp [Zk,ZO,hs,Zo,ZJ]
 have hheap:Zr σ 0 [t] (Zk σ 0 [t]) [t] 0=[.var cs]:=by
  simp only [Zr,hd,ZB,(ZaX _ cs hc).1]
 have hargs:Zg (Zk σ 0 [t]) (.ref t 0::rest.map ZL)=.ref 0 0::rest.map ZL:=by
  rw [Zg,ZcN hp]
  simp only [Zm,hρ]
 rw [hargs,hheap,h]
 have hask:Z5 view [t].length (some (.pan x,[.var cs']))=some (.pan x,[.var cs']):=by
  unfold Z5
  split <;> rfl
 rw [hask]
 have hk:ZaZ σ [t] [.var cs'] 0=true:=by
  simp [ZaZ,okB,hs,Zb4,Zo]
 have hnp:ZM (.pan x)=true:=by simpa only [ZM] using hn
 simp only [Zaw,Wp,Xi,if_false,XH,XG,XE,Xam,Xx,decide_true,hk,hff,X0,if_true,Za1,ZaH,Xu,ZB,(Za7 _ _ hnp).1,(ZaX _ cs' hc').1,hup]
theorem Zc6 {O:ZN} {bf:Nat->Bool} {σ:Za} {sq f own:Nat} {view:Bool} {args vs vs':List AVal} {ids:List Nat} {h0 h:Za} {r0 r:AVal} (hb:bf f=false) (hsh:showAs σ args=some (vs,[])) (hre:Zu σ 1000 (Zp vs) []=ids) (hne:ids.isEmpty=false)
  (hall:(ids.all fun t=>okB (σ.getD t .free))=true) (hvs:Zg (Zk σ 0 ids) vs=vs') (hh:Zr σ 0 ids (Zk σ 0 ids) ids 0=h0) {hh0:Za} (hO:O f vs' h0=some (r0,hh0)) (hv:Z5 view ids.length (some (r0,hh0))=some (r,h))
  (hl1:h.length<=ids.length+own) (hl2:ids.length<=h.length) (hk:ZaZ σ ids h 0=true) (hff:ZaY σ sq own=true) {r':AVal} (hr:Zm (ZaA σ ids sq) r=r') {σ':Za} (hlay:Za1 σ ids sq h 0 σ=σ') {u:List (Nat×List AVal)} (hu:Za4 σ' ids=u) :
  Zi O bf σ sq f own view args=some (r',σ',{ any:=true,upd:=u }):=by
 subst hr hlay hu
 unfold Zi Zbx
 rw [hb]
 simp only [Xi,if_false,hsh,show Zn σ []=σ from rfl,hre]
 unfold Zbl
 rw [if_pos hall,hvs,hh,hO,hv]
 simp only [Zaw,hne,Bool.false_and,Xi,if_false,hl1,hl2,decide_true,hk,hff,X0,if_true]
end
section
section
variable (P:List AVal) (hP:P.length=26) (hN:Zd P=true) (l:Zb) (hl:l.length<=140737488355328)
include hP hN hl
theorem Zzr (xs:List AVal) {c:Int} (h:Zav l=.error c):evC FC PR BY 4 Zc9 [(1,.ref 3 0),(0,.ref 0 0)] [.var [.ref 1 0],.var (Zl P 11 2 0 xs.length++[.lst false (l.map Zc)]),.row 0 1 xs,.var [.ref 1 0]]=some (.panic (Zz c),[],[.var [.ref 1 0],.var (Zl P 11 2 0 xs.length++[.lst false (l.map Zc)]),.row 0 1 xs,.var [.ref 1 0],.free]):=by
 have hT:=fun σ sq hs hr=>ZuU P hP hN 11 (by omega) xs.length 1 xs l hl σ 1 2 0 sq (by omega) hs hr h
 have hL:=ZbY P hP hN 11 (by omega) xs.length 2 0
 have hc:(Zl P 11 2 0 xs.length)[11]?=some (.sl 2 0 0 xs.length):=by unfold Zl;rw [X5 (by omega)]
 have a4:=fun L=>(Zac _ hL 11 (by omega) L).trans hc
 simp -implicitDefEqProofs only [EQA,Xe,WH,Xc,Xf,Xb,Xg,reduceCtorEq,↓reduceIte,Zc9,hT,a4,ZhS,Zdc,Xaw,XaE,Z0,Z4,Z7,Zak,Zaj,Zah,Zar,Zal,Z6,Zdg,XK,Xw]
theorem ZBE (xs:List AVal) (k:Int) (hk:P[0]?=some (.int .i64 k)) {e:Int} (h:ZaL k l=.error e):∃ r:Zb,evC FC PR BY 4 Zdk [(1,.ref 3 0),(0,.ref 0 0)] [.var [.ref 1 0],.var (Zl P 8 2 0 xs.length++[.lst false (l.map Zc)]),.row 0 1 xs,.var [.ref 1 0]]=some (.panic (Zz e),[],[.var [.ref 1 0],.var (Zl P 8 2 0 xs.length++[.lst false (r.map Zc)]),.row 0 1 xs,.var [.ref 1 0],.free]):=by
 have hk0:(Zl P 8 1 0 xs.length)[0]?=some (.int .i64 k):=by unfold Zl;rw [Xm (by omega)];exact hk
 have hT0:=fun (σ:Za) sq (hs:σ[1]?=some (.var (Zl P 8 2 0 xs.length++[.lst false (l.map Zc)]))) (hr:σ[2]?=some (.row 0 1 xs))=>Zyl P hP hN 8 (by omega) xs.length 1 xs l hl k hk0 σ 1 2 0 sq (by omega) hs hr h
 have hL:=ZbY P hP hN 8 (by omega) xs.length 2 0
 have hc:(Zl P 8 2 0 xs.length)[8]?=some (.sl 2 0 0 xs.length):=by unfold Zl;rw [X5 (by omega)]
 have a4:=fun L=>(Zac _ hL 8 (by omega) L).trans hc
 obtain ⟨r,hT⟩:=hT0 [.var [.ref 1 0],.var (Zl P 8 2 0 xs.length++[.lst false (l.map Zc)]),.row 0 1 xs,.var [.ref 1 0],.free] 4 rfl rfl
 refine ⟨r,?_⟩
 simp -implicitDefEqProofs only [EQA,Xe,WH,Xc,Xf,Xb,Xg,reduceCtorEq,↓reduceIte,Zdk,hT,a4,ZhS,Zdc,Xaw,XaE,Z0,Z4,Z7,Zak,Zaj,Zah,Zar,Zal,Z6,Zdg,XK,Xw]
end
section
variable {cs:List AVal} {r:AVal} {σ:Za}
theorem Zrl (hr:ZM r=true) (hc:Zd cs=true):Z8 3 (.var [.ref 1 0]::.var cs::.var [.ref 1 0]::σ) r=some (r,[.var [.ref 1 0],.var cs,.var [.ref 1 0]]):=by
 have e1:=fun ρ=>Za7 ρ r hr
 have e2:=fun ρ=>ZaX ρ cs hc
 have hi:Zy 3 [r] (.var [.ref 1 0]::.var cs::.var [.ref 1 0]::σ)=[0,1,2]:=by
  have : Zp [r]=[]:=by simp only [Zp,(e1 (fun _ _=>none)).2,Xp]
  have hR:X9 3=[0,1,2]:=rfl
  simp only [Zy,this,XD,hR,XJ,XZ,Xp,Xu,XO,ZG,(e2 (fun _ _=>none)).2]
  rfl
 have hρ:Zk (.var [.ref 1 0]::.var cs::.var [.ref 1 0]::σ) 3 [0,1,2] 1 0=some (1,0):=rfl
 simp only [Z8,gcA,hi,Zg,(e1 _).1,Zr,Xu,XO,ZB,Zm,hρ,(e2 _).1]
theorem ZvH {w:Nat} {xs:List AVal} (hr:ZM r=true) (hc:Zp cs=[3]) (hren:∀ ρ:Rho,ρ 3 0=some (3,0)->Zg ρ cs=cs):Z8 3 (.var [.ref 1 0]::.var cs::.var [.ref 1 0]::.row 0 w xs::σ) r=some (r,[.var [.ref 1 0],.var cs,.var [.ref 1 0],.row 0 w xs]):=by
 have e1:=fun ρ=>Za7 ρ r hr
 have hi:Zy 3 [r] (.var [.ref 1 0]::.var cs::.var [.ref 1 0]::.row 0 w xs::σ)=[0,1,2,3]:=by
  have : Zp [r]=[]:=by simp only [Zp,(e1 (fun _ _=>none)).2,Xp]
  have hR:X9 3=[0,1,2]:=rfl
  simp only [Zy,this,XD,hR,XJ,XZ,Xp,Xu,XO,ZG,hc]
  rfl
 have hρ:Zk (.var [.ref 1 0]::.var cs::.var [.ref 1 0]::.row 0 w xs::σ) 3 [0,1,2,3] 1 0=some (1,0):=rfl
 have hρ3:Zk (.var [.ref 1 0]::.var cs::.var [.ref 1 0]::.row 0 w xs::σ) 3 [0,1,2,3] 3 0=some (3,0):=rfl
 simp only [Z8,gcA,hi,Zg,(e1 _).1,Zr,Xu,XO,ZJ,Zo,ZB,Zm,hρ,hren _ hρ3]
 rfl
theorem Zmd {w g:Nat} {xs:List AVal} (hr:ZM r=true) (hg:g<=1) (hc:Zp cs=[2]) (hren:∀ ρ:Rho,ρ 2 g=some (2,g)->Zg ρ cs=cs):Z8 4 (.var [.ref 1 0]::.var cs::.row g w xs::.var [.ref 1 0]::σ) r=some (r,[.var [.ref 1 0],.var cs,.row g w xs,.var [.ref 1 0]]):=by
 have e1:=fun ρ=>Za7 ρ r hr
 have hi:Zy 4 [r] (.var [.ref 1 0]::.var cs::.row g w xs::.var [.ref 1 0]::σ)=[0,1,2,3]:=by
  have : Zp [r]=[]:=by simp only [Zp,(e1 (fun _ _=>none)).2,Xp]
  have hR:X9 4=[0,1,2,3]:=rfl
  simp only [Zy,this,XD,hR,XJ,XZ,Xp,Xu,XO,ZG,hc]
  rfl
 have hng:(if g=0 then 0 else 1)=g:=by split <;> omega
 have hρ:Zk (.var [.ref 1 0]::.var cs::.row g w xs::.var [.ref 1 0]::σ) 4 [0,1,2,3] 1 0=some (1,0):=rfl
 have hρ3:Zk (.var [.ref 1 0]::.var cs::.row g w xs::.var [.ref 1 0]::σ) 4 [0,1,2,3] 2 g=some (2,g):=by
  simp only [Zk,ZO,Zo,ZJ,XR,XI]
  simp [hng]
 simp only [Z8,gcA,hi,Zg,(e1 _).1,Zr,Xu,XO,ZJ,Zo,ZB,Zm,hρ,hren _ hρ3]
 simp [hng]
end
section
variable (P:List AVal) (hP:P.length=26) (hN:Zd P=true) (l:Zb) (hl:l.length<=140737488355328)
include hP hN hl
theorem Zhe (k:Nat) (hk:k < 26) (r g n:Nat) (L:Zb):Zp (Zl P k r g n++[.lst false (L.map Zc)])=[r]:=by
 rw [Zcq,Zl,ZiJ hN (by omega)];rfl
theorem ZhH (k r g n r' g':Nat) (L:Zb) (ρ:Rho) (h:ρ r g=some (r',g')):Zg ρ (Zl P k r g n++[.lst false (L.map Zc)])=Zl P k r' g' n++[.lst false (L.map Zc)]:=by
 rw [ZbS,Zl,Zi6 ρ hN,Zl]
 simp only [Zm,h,Zg]
theorem ZEe (h11:P[11]?=some (.lst true [])) {s r:Zb} (h:Zav l=.ok (s,r)):E 119 [.ref 0 0,.ref 2 0] [.var [.ref 1 0],.var (P++[.lst false (l.map Zc)]),.var [.ref 1 0]]=some (.tup [],[.var [.ref 1 0],.var (Zl P 11 3 0 1++[.lst false (r.map Zc)]),.var [.ref 1 0],.row 0 1 [.str s]]):=by
 rw [Zh (by rfl) Zmj]
 have:=ZBr P hP hN l hl h11 h
 have h2:=ZvH (σ:=[]) (w:=1) (xs:=[.str s]) (r:=.tup []) rfl (Zhe P hP hN l hl 11 (by omega) 3 0 1 r) (fun ρ hρ=>ZhH P hP hN l hl 11 3 0 1 3 0 r ρ hρ)
 show Zau 3 _ (evC FC PR BY 3 Zc9 [(1,.ref 2 0),(0,.ref 0 0)] _)=_
 rw [this]
 exact h2
theorem ZJh {c:Int} (h:Zav l=.error c) (h11:P[11]?=some (.lst true [])):E 119 [.ref 0 0,.ref 2 0] [.var [.ref 1 0],.var (P++[.lst false (l.map Zc)]),.var [.ref 1 0]]=some (.pan (Zz c),[.var [.ref 1 0],.var (P++[.lst false (l.map Zc)]),.var [.ref 1 0]]):=by
 rw [Zh (by rfl) Zmj]
 have:=ZBu P hP hN l hl h h11
 have h2:=Zrl (σ:=[.free]) (r:=.pan (Zz c)) rfl (Zx P hP hN false (l.map Zc))
 show Zau 3 _ (evC FC PR BY 3 Zc9 [(1,.ref 2 0),(0,.ref 0 0)] _)=_
 rw [this]
 exact h2
theorem ZJy (h8:P[8]?=some (.lst true [])) (k:Int) (hk:P[0]?=some (.int .i64 k)) {c:Int} {r:Zb} (h:ZaL k l=.ok (c,r)):E 121 [.ref 0 0,.ref 2 0] [.var [.ref 1 0],.var (P++[.lst false (l.map Zc)]),.var [.ref 1 0]]=some (.tup [],[.var [.ref 1 0],.var (Zl P 8 3 0 1++[.lst false (r.map Zc)]),.var [.ref 1 0],.row 0 1 [.int .i64 c]]):=by
 rw [Zh (by rfl) ZlX]
 have:=ZMk P hP hN l hl h8 k hk h
 have h2:=ZvH (σ:=[]) (w:=1) (xs:=[.int .i64 c]) (r:=.tup []) rfl (Zhe P hP hN l hl 8 (by omega) 3 0 1 r) (fun ρ hρ=>ZhH P hP hN l hl 8 3 0 1 3 0 r ρ hρ)
 show Zau 3 _ (evC FC PR BY 3 Zdk [(1,.ref 2 0),(0,.ref 0 0)] _)=_
 rw [this]
 exact h2
theorem ZD1 (h8:P[8]?=some (.lst true [])) (k:Int) (hk:P[0]?=some (.int .i64 k)) {e:Int} (h:ZaL k l=.error e):∃ r:Zb,E 121 [.ref 0 0,.ref 2 0] [.var [.ref 1 0],.var (P++[.lst false (l.map Zc)]),.var [.ref 1 0]]=some (.pan (Zz e),[.var [.ref 1 0],.var (P++[.lst false (r.map Zc)]),.var [.ref 1 0]]):=by
 obtain ⟨r,this⟩:=ZGV P hP hN l hl h8 k hk h
 have h2:=Zrl (σ:=[.free]) (r:=.pan (Zz e)) rfl (Zx P hP hN false (r.map Zc))
 refine ⟨r,?_⟩
 rw [Zh (by rfl) ZlX]
 show Zau 3 _ (evC FC PR BY 3 Zdk [(1,.ref 2 0),(0,.ref 0 0)] _)=_
 rw [this]
 exact h2
variable (xs:List AVal)
theorem ZOY (hx:xs.length*16+16<=140737488355328) (kk:kOk 1 xs=true) {s r:Zb} (h:Zav l=.ok (s,r)):E 119 [.ref 0 0,.ref 3 0] [.var [.ref 1 0],.var (Zl P 11 2 0 xs.length++[.lst false (l.map Zc)]),.row 0 1 xs,.var [.ref 1 0]]=some (.tup [],[.var [.ref 1 0],.var (Zl P 11 2 1 (xs.length+1)++[.lst false (r.map Zc)]),.row 1 1 (xs++[.str s]),.var [.ref 1 0]]):=by
 rw [Zh (by rfl) Zmj]
 have:=ZKr P hP hN l hl xs hx kk h
 have h2:=Zmd (σ:=[.free]) (w:=1) (g:=1) (xs:=xs++[.str s]) (r:=.tup []) rfl (by omega) (Zhe P hP hN l hl 11 (by omega) 2 1 (xs.length+1) r) (fun ρ hρ=>ZhH P hP hN l hl 11 2 1 (xs.length+1) 2 1 r ρ hρ)
 show Zau 4 _ (evC FC PR BY 4 Zc9 [(1,.ref 3 0),(0,.ref 0 0)] _)=_
 rw [this]
 exact h2
theorem ZLR {c:Int} (h:Zav l=.error c):E 119 [.ref 0 0,.ref 3 0] [.var [.ref 1 0],.var (Zl P 11 2 0 xs.length++[.lst false (l.map Zc)]),.row 0 1 xs,.var [.ref 1 0]]=some (.pan (Zz c),[.var [.ref 1 0],.var (Zl P 11 2 0 xs.length++[.lst false (l.map Zc)]),.row 0 1 xs,.var [.ref 1 0]]):=by
 rw [Zh (by rfl) Zmj]
 have:=Zzr P hP hN l hl xs h
 have h2:=Zmd (σ:=[.free]) (w:=1) (g:=0) (xs:=xs) (r:=.pan (Zz c)) rfl (by omega) (Zhe P hP hN l hl 11 (by omega) 2 0 xs.length l) (fun ρ hρ=>ZhH P hP hN l hl 11 2 0 xs.length 2 0 l ρ hρ)
 show Zau 4 _ (evC FC PR BY 4 Zc9 [(1,.ref 3 0),(0,.ref 0 0)] _)=_
 rw [this]
 exact h2
theorem ZGy (hx:xs.length*8+8<=140737488355328) (kk:kOk 1 xs=true) (k:Int) (hk:P[0]?=some (.int .i64 k)) {c:Int} {r:Zb} (h:ZaL k l=.ok (c,r)):E 121 [.ref 0 0,.ref 3 0] [.var [.ref 1 0],.var (Zl P 8 2 0 xs.length++[.lst false (l.map Zc)]),.row 0 1 xs,.var [.ref 1 0]]=some (.tup [],[.var [.ref 1 0],.var (Zl P 8 2 1 (xs.length+1)++[.lst false (r.map Zc)]),.row 1 1 (xs++[.int .i64 c]),.var [.ref 1 0]]):=by
 rw [Zh (by rfl) ZlX]
 have:=Zxi P hP hN l hl xs hx kk k hk h
 have h2:=Zmd (σ:=[.free]) (w:=1) (g:=1) (xs:=xs++[.int .i64 c]) (r:=.tup []) rfl (by omega) (Zhe P hP hN l hl 8 (by omega) 2 1 (xs.length+1) r) (fun ρ hρ=>ZhH P hP hN l hl 8 2 1 (xs.length+1) 2 1 r ρ hρ)
 show Zau 4 _ (evC FC PR BY 4 Zdk [(1,.ref 3 0),(0,.ref 0 0)] _)=_
 rw [this]
 exact h2
theorem ZO9 (k:Int) (hk:P[0]?=some (.int .i64 k)) {e:Int} (h:ZaL k l=.error e):∃ r:Zb,E 121 [.ref 0 0,.ref 3 0] [.var [.ref 1 0],.var (Zl P 8 2 0 xs.length++[.lst false (l.map Zc)]),.row 0 1 xs,.var [.ref 1 0]]=some (.pan (Zz e),[.var [.ref 1 0],.var (Zl P 8 2 0 xs.length++[.lst false (r.map Zc)]),.row 0 1 xs,.var [.ref 1 0]]):=by
 obtain ⟨r,this⟩:=ZBE P hP hN l hl xs k hk h
 have h2:=Zmd (σ:=[.free]) (w:=1) (g:=0) (xs:=xs) (r:=.pan (Zz e)) rfl (by omega) (Zhe P hP hN l hl 8 (by omega) 2 0 xs.length r) (fun ρ hρ=>ZhH P hP hN l hl 8 2 0 xs.length 2 0 r ρ hρ)
 refine ⟨r,?_⟩
 rw [Zh (by rfl) ZlX]
 show Zau 4 _ (evC FC PR BY 4 Zdk [(1,.ref 3 0),(0,.ref 0 0)] _)=_
 rw [this]
 exact h2
end
end
section
def ZaU {α:Type} (one:Zb->RK α):Nat->Zb->Except Int (List α)
 | 0,l=>if l.length=0 then .ok [] else .error 0
 | n+1,l=>if l.length=0 then .ok [] else match one l with
  | .error e=>.error e
  | .ok (a,r)=>match ZaU one n r with
   | .error e=>.error e
   | .ok t=>.ok (a::t)
section
variable {O:ZN} {bf:Nat->Bool} {f:Nat} {cs cs1 cs2 cs3 xs xs2:List AVal} {w w2 g2:Nat} {q:AVal} {σ:Za} {sq:Nat}
theorem Zsc (h0:σ[0]?=some (.var cs)) (h1:σ[1]?=some (.var [.ref 0 0])) (h2:σ[2]?=some (.var [.ref 0 0])) (hc:Zp cs=[]):Zu σ 1000 [1,2] []=[1,0,2]:=by
 have d0:σ.getD 0 .free=.var cs:=by simp [Xh,h0]
 have d1:σ.getD 1 .free=.var [.ref 0 0]:=by simp [Xh,h1]
 have d2:σ.getD 2 .free=.var [.ref 0 0]:=by simp [Xh,h2]
 rw [show (1000:Nat)=995+1+1+1+1+1 from rfl]
 simp only [Zu,d0,d1,d2,ZG,Zp,Z3,hc,WA,WX,Xp,XD,XY,XaJ,Xi,if_false]
 simp
theorem ZKc (h0:σ[0]?=some (.var cs)) (h1:σ[1]?=some (.var [.ref 0 0])) (h2:σ[2]?=some (.var [.ref 0 0])) (h3:σ[3]?=some (.row 0 w xs)) (hc:Zp cs=[3]):Zu σ 1000 [1,2] []=[1,0,3,2]:=by
 have d0:σ.getD 0 .free=.var cs:=by simp [Xh,h0]
 have d1:σ.getD 1 .free=.var [.ref 0 0]:=by simp [Xh,h1]
 have d2:σ.getD 2 .free=.var [.ref 0 0]:=by simp [Xh,h2]
 have d3:σ.getD 3 .free=.row 0 w xs:=by simp [Xh,h3]
 rw [show (1000:Nat)=994+1+1+1+1+1+1 from rfl]
 simp only [Zu,d0,d1,d2,d3,ZG,Zp,Z3,hc,WA,WX,Xp,XD,XY,XaJ,Xi,if_false]
 simp
theorem ZI2 (hb:bf f=false) (hc:Zd cs=true) (hq:ZM q=true) (hback:∀ ρ:Rho,ρ 3 0=some (3,0)->Zg ρ cs2=cs3) (hO:O f [.ref 0 0,.ref 2 0] [.var [.ref 1 0],.var cs,.var [.ref 1 0]]=some (q,[.var [.ref 1 0],.var cs2,.var [.ref 1 0],.row 0 w xs])) :
  Zi O bf [.var cs,.var [.ref 0 0],.var [.ref 0 0],.free,.free,.free,.free] 3 f 4 false [.ref 1 0,.ref 2 0]=some (q,[.var cs3,.var [.ref 0 0],.var [.ref 0 0],.row 0 w xs,.free,.free,.free],{ any:=true,upd:=[(1,[.ref 0 0]),(0,cs3),(2,[.ref 0 0])] }):=by
 have ec:=fun ρ=>ZaX ρ cs hc
 refine Zc6 (ids:=[1,0,2]) (vs:=[.ref 1 0,.ref 2 0]) hb rfl (Zsc rfl rfl rfl (ec (fun _ _=>none)).2) rfl rfl rfl ?_ hO rfl (by simp) (by simp) rfl rfl (Za7 _ q hq).1 ?_ rfl
 ·show [ZK.var (Zg _ [.ref 0 0]),.var (Zg _ cs),.var (Zg _ [.ref 0 0])]=_
  rw [(ec _).1];rfl
 ·have hb3:=hback (ZaA [.var cs,.var [.ref 0 0],.var [.ref 0 0],.free,.free,.free,.free] [1,0,2] 3) rfl
  show [ZK.var (Zg _ cs2),.var (Zg _ [.ref 1 0]),.var (Zg _ [.ref 1 0]),.row 0 w xs,.free,.free,.free]=_
  rw [hb3];rfl
theorem ZNg (hb:bf f=false) (hc:Zd cs=true) (hq:ZM q=true) (hc2:Zd cs2=true) (hO:O f [.ref 0 0,.ref 2 0] [.var [.ref 1 0],.var cs,.var [.ref 1 0]]=some (q,[.var [.ref 1 0],.var cs2,.var [.ref 1 0]])) :
  Zi O bf [.var cs,.var [.ref 0 0],.var [.ref 0 0],.free,.free,.free,.free] 3 f 4 false [.ref 1 0,.ref 2 0]=some (q,[.var cs2,.var [.ref 0 0],.var [.ref 0 0],.free,.free,.free,.free],{ any:=true,upd:=[(1,[.ref 0 0]),(0,cs2),(2,[.ref 0 0])] }):=by
 have ec:=fun ρ=>ZaX ρ cs hc
 refine Zc6 (ids:=[1,0,2]) (vs:=[.ref 1 0,.ref 2 0]) hb rfl (Zsc rfl rfl rfl (ec (fun _ _=>none)).2) rfl rfl rfl ?_ hO rfl (by simp) (by simp) rfl rfl (Za7 _ q hq).1 ?_ rfl
 ·show [ZK.var (Zg _ [.ref 0 0]),.var (Zg _ cs),.var (Zg _ [.ref 0 0])]=_
  rw [(ec _).1];rfl
 ·show [ZK.var (Zg _ cs2),.var (Zg _ [.ref 1 0]),.var (Zg _ [.ref 1 0]),.free,.free,.free,.free]=_
  rw [(ZaX _ cs2 hc2).1];rfl
theorem Zt9 (hb:bf f=false) (hc:Zp cs=[3]) (hren:∀ ρ:Rho,ρ 3 0=some (2,0)->Zg ρ cs=cs1) (hq:ZM q=true) (hg2:g2<=1) (hback:∀ ρ:Rho,ρ 2 g2=some (3,g2)->Zg ρ cs2=cs3) (hO:O f [.ref 0 0,.ref 3 0] [.var [.ref 1 0],.var cs1,.row 0 w xs,.var [.ref 1 0]]=some (q,[.var [.ref 1 0],.var cs2,.row g2 w2 xs2,.var [.ref 1 0]])) :
  Zi O bf [.var cs,.var [.ref 0 0],.var [.ref 0 0],.row 0 w xs,.free,.free,.free,.free] 4 f 4 false [.ref 1 0,.ref 2 0]=some (q,[.var cs3,.var [.ref 0 0],.var [.ref 0 0],.row g2 w2 xs2,.free,.free,.free,.free],{ any:=true,upd:=[(1,[.ref 0 0]),(0,cs3),(2,[.ref 0 0])] }):=by
 refine Zc6 (ids:=[1,0,3,2]) (vs:=[.ref 1 0,.ref 2 0]) hb rfl (ZKc rfl rfl rfl rfl hc) rfl rfl rfl ?_ hO rfl (by simp) (by simp) ?_ rfl (Za7 _ q hq).1 ?_ rfl
 ·have h1:=hren (Zk [.var cs,.var [.ref 0 0],.var [.ref 0 0],.row 0 w xs,.free,.free,.free,.free] 0 [1,0,3,2]) rfl
  show [ZK.var (Zg _ [.ref 0 0]),.var (Zg _ cs),.row 0 w xs,.var (Zg _ [.ref 0 0])]=_
  rw [h1];rfl
 ·simp [ZaZ,okB,Zb4,Zo,hg2]
 ·have hb3:=hback (ZaA [.var cs,.var [.ref 0 0],.var [.ref 0 0],.row 0 w xs,.free,.free,.free,.free] [1,0,3,2] 4) (by simp [ZaA,Zo])
  show [ZK.var (Zg _ cs2),.var (Zg _ [.ref 1 0]),.var (Zg _ [.ref 1 0]),.row (0+g2) w2 xs2,.free,.free,.free,.free]=_
  rw [hb3,XE];rfl
theorem Zun {f g:Nat} (hc:Zp cs=[3]) (hg:g<=1) (hren:∀ ρ:Rho,ρ 3 g=some (3,0)->Zg ρ cs=cs1) (τ:Za) :
  gcT 3 [(1,.fn f [.ref 1 0,.ref 2 0]),(0,.ref 0 0)] (.var cs::.var [.ref 0 0]::.var [.ref 0 0]::.row g w xs::τ)=([(1,.fn f [.ref 1 0,.ref 2 0]),(0,.ref 0 0)],[.var cs1,.var [.ref 0 0],.var [.ref 0 0],.row 0 w xs]):=by
 have hi:Zy 3 [.fn f [.ref 1 0,.ref 2 0],.ref 0 0] (.var cs::.var [.ref 0 0]::.var [.ref 0 0]::.row g w xs::τ)=[0,1,2,3]:=by
  have hR:X9 3=[0,1,2]:=rfl
  simp only [Zy,hR,XJ,XZ,Xp,Xu,XO,ZG,Zp,Z3,hc]
  rfl
 have hρ:Zk (.var cs::.var [.ref 0 0]::.var [.ref 0 0]::.row g w xs::τ) 3 [0,1,2,3] 3 g=some (3,0):=by
  simp [Zk,ZO,Zo,ZJ]
 have hρ0:Zk (.var cs::.var [.ref 0 0]::.var [.ref 0 0]::.row g w xs::τ) 3 [0,1,2,3] 0 0=some (0,0):=rfl
 have hρ1:Zk (.var cs::.var [.ref 0 0]::.var [.ref 0 0]::.row g w xs::τ) 3 [0,1,2,3] 1 0=some (1,0):=rfl
 have hρ2:Zk (.var cs::.var [.ref 0 0]::.var [.ref 0 0]::.row g w xs::τ) 3 [0,1,2,3] 2 0=some (2,0):=rfl
 simp only [gcT,gcA,Xt,XM,hi,Zr,Xu,XO,ZJ,Zo,ZB,Zg,Zm,hρ0,hρ1,hρ2,hren _ hρ]
 simp
theorem ZjK {r:AVal} (hr:ZM r=true) (hc:Zp cs=[3]) (hren:∀ ρ:Rho,ρ 3 0=some (3,0)->Zg ρ cs=cs) (τ:Za):Z8 3 (.var cs::.var [.ref 0 0]::.var [.ref 0 0]::.row 0 w xs::τ) r=some (r,[.var cs,.var [.ref 0 0],.var [.ref 0 0],.row 0 w xs]):=by
 have e1:=fun ρ=>Za7 ρ r hr
 have hi:Zy 3 [r] (.var cs::.var [.ref 0 0]::.var [.ref 0 0]::.row 0 w xs::τ)=[0,1,2,3]:=by
  have hR:X9 3=[0,1,2]:=rfl
  simp only [Zy,(e1 (fun _ _=>none)).2,XD,hR,XJ,XZ,Xp,Xu,XO,ZG,Zp,Z3,hc]
  rfl
 have hρ3:Zk (.var cs::.var [.ref 0 0]::.var [.ref 0 0]::.row 0 w xs::τ) 3 [0,1,2,3] 3 0=some (3,0):=rfl
 have hρ0:Zk (.var cs::.var [.ref 0 0]::.var [.ref 0 0]::.row 0 w xs::τ) 3 [0,1,2,3] 0 0=some (0,0):=rfl
 simp only [Z8,gcA,hi,Zg,(e1 _).1,Zr,Xu,XO,ZJ,Zo,ZB,Zm,hρ0,hren _ hρ3]
 rfl
theorem ZkH {r:AVal} (hr:ZM r=true) (hc:Zd cs=true) (τ:Za):Z8 3 (.var cs::.var [.ref 0 0]::.var [.ref 0 0]::τ) r=some (r,[.var cs,.var [.ref 0 0],.var [.ref 0 0]]):=by
 have e1:=fun ρ=>Za7 ρ r hr
 have e2:=fun ρ=>ZaX ρ cs hc
 have hi:Zy 3 [r] (.var cs::.var [.ref 0 0]::.var [.ref 0 0]::τ)=[0,1,2]:=by
  have hR:X9 3=[0,1,2]:=rfl
  simp only [Zy,(e1 (fun _ _=>none)).2,XD,hR,XJ,XZ,Xp,Xu,XO,ZG,Zp,Z3,(e2 (fun _ _=>none)).2]
  rfl
 have hρ0:Zk (.var cs::.var [.ref 0 0]::.var [.ref 0 0]::τ) 3 [0,1,2] 0 0=some (0,0):=rfl
 simp only [Z8,gcA,hi,Zg,(e1 _).1,Zr,Xu,XO,ZB,Zm,hρ0,(e2 _).1]
end
section
variable {α:Type} {one:Zb->RK α} {g:α->AVal} {f k:Nat} (P:List AVal) (hP:P.length=26) (hN:Zd P=true) (hk:k < 26) (hf:f < 1000000) (hby:BY f=false)
  (hlen:∀ {l s r},one l=.ok (s,r)->r.length < l.length)
  (hT1:∀ (xs:List α) (l:Zb) (s:α) (r:Zb),l.length<=1099511627776->xs.length<=1099511627776->one l=.ok (s,r)->E f [.ref 0 0,.ref 3 0] [.var [.ref 1 0],.var (Zl P k 2 0 xs.length++[.lst false (l.map Zc)]),.row 0 1 (xs.map g),.var [.ref 1 0]]=some (.tup [],[.var [.ref 1 0],.var (Zl P k 2 1 (xs.length+1)++[.lst false (r.map Zc)]),.row 1 1 ((xs++[s]).map g),.var [.ref 1 0]]))
  (hF1:∀ (xs:List α) (l:Zb) (e:Int),l.length<=1099511627776->one l=.error e->∃ r:Zb,E f [.ref 0 0,.ref 3 0] [.var [.ref 1 0],.var (Zl P k 2 0 xs.length++[.lst false (l.map Zc)]),.row 0 1 (xs.map g),.var [.ref 1 0]]=some (.pan (Zz e),[.var [.ref 1 0],.var (Zl P k 2 0 xs.length++[.lst false (r.map Zc)]),.row 0 1 (xs.map g),.var [.ref 1 0]]))
include hP hN hk
def H3 (P:List AVal) (k n:Nat) (l:Zb) (ys:List AVal):Za:=[.var (Zl P k 3 0 n++[.lst false (l.map Zc)]),.var [.ref 0 0],.var [.ref 0 0],.row 0 1 ys]
theorem Zbt (r g n:Nat) (L:Zb):Zp (Zl P k r g n++[.lst false (L.map Zc)])=[r]:=by
 rw [Zcq,Zl,ZiJ hN (by omega)];rfl
theorem ZaT (r g n r' g':Nat) (L:Zb) (ρ:Rho) (h:ρ r g=some (r',g')):Zg ρ (Zl P k r g n++[.lst false (L.map Zc)])=Zl P k r' g' n++[.lst false (L.map Zc)]:=by
 rw [ZbS,Zl,Zi6 ρ hN,Zl]
 simp only [Zm,h,Zg]
include hf hby hlen hT1 hF1
theorem ZtU:∀ (n:Nat) (l:Zb) (xs:List α),l.length<=n->n+xs.length<=1099511627776 ->
  (∀ ts,ZaU one n l=.ok ts->Za3 3 [(1,.fn f [.ref 1 0,.ref 2 0]),(0,.ref 0 0)] (H3 P k xs.length l (xs.map g))=some (.tup [],H3 P k (xs++ts).length [] ((xs++ts).map g))) /\
  (∀ e,ZaU one n l=.error e->∃ (xs':List α) (r:Zb),Za3 3 [(1,.fn f [.ref 1 0,.ref 2 0]),(0,.ref 0 0)] (H3 P k xs.length l (xs.map g))=some (.pan (Zz e),H3 P k xs'.length r (xs'.map g))):=by
 intro n
 induction n with
 | zero =>
  intro l xs hl hx
  have l0:l=[]:=Xz (by omega)
  subst l0
  refine ⟨fun ts h=>?_,fun e h=>by simp [ZaU] at h⟩
  have : ts=[]:=by simpa [ZaU] using h.symm
  subst this
  rw [Xp]
  have hL:=ZbY P hP hN k hk xs.length 3 0
  have b2:=Zax _ hL
  have hO:=ZjK (w:=1) (xs:=xs.map g) (r:=.tup []) rfl (Zbt P hP hN hk 3 0 xs.length []) (fun ρ h=>ZaT P hP hN hk 3 0 xs.length 3 0 [] ρ h)
  unfold H3 Za3
  rw [ZX]
  generalize Zl P k 3 0 xs.length=Q at *
  generalize xs.map g=ys at *
  simp -implicitDefEqProofs only [EQA,Xe,Xc,Xb,Xg,reduceCtorEq,decide_eq_true_eq,ite_self,↓reduceIte,ZlR,Zdw,ZcM,b2]
  exact hO _
 | succ n ih =>
  intro l xs hl hx
  have hL:=ZbY P hP hN k hk xs.length 3 0
  have b2:=Zax _ hL
  by_cases l0:l.length=0
  ·have l0:l=[]:=Xz l0
   subst l0
   refine ⟨fun ts h=>?_,fun e h=>by simp [ZaU] at h⟩
   have : ts=[]:=by simpa [ZaU] using h.symm
   subst this
   rw [Xp]
   have hO:=ZjK (w:=1) (xs:=xs.map g) (r:=.tup []) rfl (Zbt P hP hN hk 3 0 xs.length []) (fun ρ h=>ZaT P hP hN hk 3 0 xs.length 3 0 [] ρ h)
   unfold H3 Za3
   rw [ZX]
   generalize Zl P k 3 0 xs.length=Q at *
   generalize xs.map g=ys at *
   simp -implicitDefEqProofs only [EQA,Xe,Xc,Xb,Xg,reduceCtorEq,decide_eq_true_eq,ite_self,↓reduceIte,ZlR,Zdw,ZcM,b2]
   exact hO _
  ·have z1:((l.length:Nat):Int) > 0:=by omega
   have z2:(0:Int) < ((l.length:Nat):Int):=by omega
   cases ho:one l with
   | error e =>
    refine ⟨fun ts h=>by simp [ZaU,l0,ho] at h,fun e' h=>?_⟩
    have : e'=e:=by simpa [ZaU,l0,ho] using h.symm
    subst this
    obtain ⟨r,hE⟩:=hF1 xs l e' (by omega) ho
    have hC:=Zt9 (O:=E) (bf:=BY) (cs:=Zl P k 3 0 xs.length++[.lst false (l.map Zc)]) (cs3:=Zl P k 3 0 xs.length++[.lst false (r.map Zc)]) hby (Zbt P hP hN hk 3 0 xs.length l) (fun ρ h=>ZaT P hP hN hk 3 0 xs.length 2 0 l ρ h) (q:=.pan (Zz e')) rfl (by omega) (fun ρ h=>ZaT P hP hN hk 2 0 xs.length 3 0 r ρ h) hE
    have hO:=ZjK (w:=1) (xs:=xs.map g) (r:=.pan (Zz e')) rfl (Zbt P hP hN hk 3 0 xs.length r) (fun ρ h=>ZaT P hP hN hk 3 0 xs.length 3 0 r ρ h)
    refine ⟨xs,r,?_⟩
    unfold H3 Za3
    rw [ZX]
    clear hE hT1 hF1 ih
    generalize Zl P k 3 0 xs.length=Q at *
    generalize xs.map g=ys at *
    generalize Zz e'=ce at *
    simp -implicitDefEqProofs only [EQA,Xe,Xc,Xb,Xg,reduceCtorEq,↓reduceIte,Zdw,ZcM,b2,hC,hf,z1]
    exact hO _
   | ok s =>
    obtain ⟨s,r⟩:=s
    have hr:=hlen ho
    have hE:=hT1 xs l s r (by omega) (by omega) ho
    have hC:=Zt9 (O:=E) (bf:=BY) (cs:=Zl P k 3 0 xs.length++[.lst false (l.map Zc)]) (cs3:=Zl P k 3 1 (xs.length+1)++[.lst false (r.map Zc)]) hby (Zbt P hP hN hk 3 0 xs.length l) (fun ρ h=>ZaT P hP hN hk 3 0 xs.length 2 0 l ρ h) (q:=.tup []) rfl (by omega) (fun ρ h=>ZaT P hP hN hk 2 1 (xs.length+1) 3 1 r ρ h) hE
    have hG:=Zun (f:=f) (w:=1) (xs:=(xs++[s]).map g) (g:=1) (Zbt P hP hN hk 3 1 (xs.length+1) r) (by omega) (fun ρ h=>ZaT P hP hN hk 3 1 (xs.length+1) 3 0 r ρ h)
    have step:Za3 3 [(1,.fn f [.ref 1 0,.ref 2 0]),(0,.ref 0 0)] (H3 P k xs.length l (xs.map g))=Za3 3 [(1,.fn f [.ref 1 0,.ref 2 0]),(0,.ref 0 0)] (H3 P k (xs++[s]).length r ((xs++[s]).map g)):=by
     rw [show (xs++[s]).length=xs.length+1 from by simp]
     unfold H3
     conv=>lhs;unfold Za3
     conv=>rhs;unfold Za3
     conv=>lhs;rw [ZX]
     clear hE hT1 hF1 ih
     generalize Zl P k 3 0 xs.length=Q at *
     generalize Zl P k 3 1 (xs.length+1)=Q2 at *
     generalize Zl P k 3 0 (xs.length+1)=Q3 at *
     generalize xs.map g=ys at *
     generalize (xs++[s]).map g=zs at *
     simp -implicitDefEqProofs only [EQA,ZT,Xe,Xc,Xb,Xg,reduceCtorEq,↓reduceIte,Zdw,ZcM,b2,hC,hG,hf,z1]
    obtain ⟨i1,i2⟩:=ih r (xs++[s]) (by omega) (by simp;omega)
    refine ⟨fun ts h=>?_,fun e h=>?_⟩
    ·rw [step]
     simp only [ZaU,l0,ho,if_false] at h
     cases hl2:ZaU one n r with
     | error e=>rw [hl2] at h;cases h
     | ok us =>
      rw [hl2] at h
      injection h with h;subst h
      have:=i1 us hl2
      rw [Wo,List.singleton_append] at this
      exact this
    ·rw [step]
     simp only [ZaU,l0,ho,if_false] at h
     cases hl2:ZaU one n r with
     | error e2 =>
      rw [hl2] at h
      injection h with h;subst h
      exact i2 e2 hl2
     | ok us=>rw [hl2] at h;cases h
end
end
section
def P0:List AVal:=[.int .i64 0,.bool false,.int .i64 0,.bool false,.int .i64 0,.str [],.lst true [],.int .i64 0,.lst true [],.lst true [],.lst true [],.lst true [],.bool false,.int .i64 0,.str [],.bool false,.str [],.lst true [],.int .i64 0,.bool false,.lst true [],.bool false,.str [],.bool false,.lst true [],.bool false]
def tmR:Tms:=[(3,.ref 2 0),(2,.ref 1 0),(1,.ref 0 0)]
def σR (b:Int) (l:Zb):Za:=[.var [.int .u8 b,.lst false (l.map Zc)],.var P0,.var [.int .i64 0]]
theorem ZnB (b:Int) (l:Zb):evC FC PR BY 0 c1R (enterA 0 [.agg [.int .u8 b,.lst false (l.map Zc)]] []) []=some (.normal,tmR,σR b l):=by
 unfold tmR σR P0
 simp -implicitDefEqProofs only [EQA,Xe,Xc,Xb,Xg,↓reduceIte,c1R,AVal.cells]
theorem ZMj (b:Int) (l:Zb) {P1 Q:List AVal} {L:AVal} (h1:P1.length=26) (n1:Zd P1=true) (hQ:Q.length=26) (nQ:Zd Q=true) (oQ:Q.all ZS=true) (nL:ZM L=true)
  (hf:E 87 [.ref 0 0,.int .u8 b] (Zj P0 l)=some (.tup [],Zj P1 l)) (hb:E 88 [.ref 0 0] (Zj P1 l)=some (.tup [],[.var (Q++[L])])) :
  evC FC PR BY 3 c2R (tput tmR (some 5) .top) (σR b l)=some (.ret,[(3,.ref 2 0),(2,.ref 1 0)],[.var [.int .u8 b,.lst false (l.map Zc)],.var Q,.var [.int .i64 0],.var (Q++[L]),.free]):=by
 have hF:=fun (σ:Za) sq (hs:σ[3]?=some (.var (P0++[.lst false (l.map Zc)])))=>Zc4 (O:=E) (bf:=BY) (f:=87) (rest:=[.int .u8 b]) (by kernel_rfl) rfl (by rfl) (ZaF n1 (by rfl)) rfl rfl hf hs sq
 have hB:=fun (σ:Za) sq (hf:σ[sq]?=some .free) (hs:σ[3]?=some (.var (P1++[.lst false (l.map Zc)])))=>ZMK (own:=1) (O:=E) (bf:=BY) (f:=88) (rest:=[]) (by kernel_rfl) rfl (ZaF n1 (by rfl)) (ZaF nQ (by simp [Zd,nL])) rfl rfl hb hs sq (by simp [ZaY,freeAt,hf])
 have b1:=Z9 Q hQ
 have b2:=ZeF Q hQ
 unfold P0 at hF
 simp only [XY,XD] at hF
 unfold tmR σR P0
 simp -implicitDefEqProofs only [EQA,Za6,Xe,Xc,Xf,Xb,Xg,↓reduceIte,c2R,AVal.cells,Zam,hF,hB,b1,b2,hQ,oQ]
theorem Zks (b:Int) (l:Zb) {cs:List AVal} {c:Int} (n1:Zd cs=true)
  (hf:E 87 [.ref 0 0,.int .u8 b] (Zj P0 l)=some (.pan (Zz c),[.var cs])) :
  evC FC PR BY 3 c2R (tput tmR (some 5) .top) (σR b l)=some (.panic (Zz c),[],[.var [.int .u8 b,.lst false (l.map Zc)],.var P0,.var [.int .i64 0],.var cs]):=by
 have hF:=fun (σ:Za) sq (hs:σ[3]?=some (.var (P0++[.lst false (l.map Zc)])))=>Zcy (O:=E) (bf:=BY) (f:=87) (view:=true) (rest:=[.int .u8 b]) (by kernel_rfl) rfl (by rfl) n1 rfl hf hs sq
 unfold P0 at hF
 simp only [XY,XD] at hF
 unfold tmR σR P0
 simp -implicitDefEqProofs only [EQA,Za6,Xe,Xc,Xf,Xb,Xg,↓reduceIte,c2R,AVal.cells,Zam,hF]
theorem Zsk (b:Int) (l:Zb) {P1 cs:List AVal} {c:Int} (h1:P1.length=26) (n1:Zd P1=true) (n2:Zd cs=true)
  (hf:E 87 [.ref 0 0,.int .u8 b] (Zj P0 l)=some (.tup [],Zj P1 l)) (hb:E 88 [.ref 0 0] (Zj P1 l)=some (.pan (Zz c),[.var cs])) :
  evC FC PR BY 3 c2R (tput tmR (some 5) .top) (σR b l)=some (.panic (Zz c),[],[.var [.int .u8 b,.lst false (l.map Zc)],.var P0,.var [.int .i64 0],.var cs,.free]):=by
 have hF:=fun (σ:Za) sq (hs:σ[3]?=some (.var (P0++[.lst false (l.map Zc)])))=>Zc4 (O:=E) (bf:=BY) (f:=87) (rest:=[.int .u8 b]) (by kernel_rfl) rfl (by rfl) (ZaF n1 (by rfl)) rfl rfl hf hs sq
 have hB:=fun (σ:Za) sq (hf:σ[sq]?=some .free) (hs:σ[3]?=some (.var (P1++[.lst false (l.map Zc)])))=>ZNF (own:=1) (O:=E) (bf:=BY) (f:=88) (view:=true) (rest:=[]) (by kernel_rfl) rfl (ZaF n1 (by rfl)) n2 rfl hb hs sq (by simp [ZaY,freeAt,hf])
 unfold P0 at hF
 simp only [XY,XD] at hF
 unfold tmR σR P0
 simp -implicitDefEqProofs only [EQA,Za6,Xe,Xc,Xf,Xb,Xg,↓reduceIte,c2R,AVal.cells,Zam,hF,hB]
theorem ZCD (b c:Int) (l:Zb) (τ:Za):evC FC PR BY 3 c3R [(10,.int .i64 c),(1,.ref 2 0),(0,.ref 1 0)] (.var [.int .u8 b,.lst false (l.map Zc)]::.var P0::.var [.int .i64 0]::τ)=some (.normal,[],.var [.int .u8 b,.lst false (l.map Zc)]::.var P0::.var [.int .i64 c]::τ):=by
 unfold P0
 simp -implicitDefEqProofs only [EQA,Xe,Xc,Xf,Xb,reduceCtorEq,↓reduceIte,c3R,AVal.cells,Zam,ZS]
theorem Zr0 (b c:Int) (l:Zb) {Q:List AVal} (τ:Za) (hQ:Q.length=26) (nQ:Zd Q=true):Ze3 0 1 2 rsR (.var [.int .u8 b,.lst false (l.map Zc)]::.var Q::.var [.int .i64 c]::τ)=some (.tup [.agg Q,.int .i64 c],[]):=by
 have h1:resA [(3,.ref 2 0),(2,.ref 1 0)] (.var [.int .u8 b,.lst false (l.map Zc)]::.var Q::.var [.int .i64 c]::τ) rsR=some (.tup [.agg Q,.int .i64 c]):=by
  have h2:Q.take 26=Q:=XN (by omega)
  simp [resA,resAll,resOne,rsR,tget,ldA,partA,hQ,h2]
 unfold Ze3
 rw [h1]
 generalize (.var [.int .u8 b,.lst false (l.map Zc)]::.var Q::.var [.int .i64 c]::τ:Za)=σ
 have e1:=ZaX (Zk σ 0 []) Q nQ
 have hr:Zp [AVal.tup [.agg Q,.int .i64 c]]=[]:=by simp [Zp,Z3,e1.2]
 have hi:Zy 0 [AVal.tup [.agg Q,.int .i64 c]] σ=[]:=by
  simp only [Zy,hr,XD,Xau,XZ]
  rfl
 simp [Z8,gcA,hi,Zg,Zm,e1.1,Zr]
theorem Zss (b:Int) (l:Zb) {P1 Q:List AVal} {L:AVal} (h1:P1.length=26) (n1:Zd P1=true) (hQ:Q.length=26) (nQ:Zd Q=true) (oQ:Q.all ZS=true) (nL:ZM L=true)
  (hf:E 87 [.ref 0 0,.int .u8 b] (Zj P0 l)=some (.tup [],Zj P1 l)) (hb:E 88 [.ref 0 0] (Zj P1 l)=some (.tup [],[.var (Q++[L])])) :
  Zei [.agg [.int .u8 b,.lst false (l.map Zc)]] []=some (.tup [.agg Q,.int .i64 0],[]):=by
 unfold Zei Zhj
 show (match evC FC PR BY 0 c1R (enterA 0 [.agg [.int .u8 b,.lst false (l.map Zc)]] []) [] with | some (.normal,tm1,σ1)=>_ | _=>none)=_
 rw [ZnB]
 show (if (0:Nat)<=(σR b l).length/\1 < (σR b l).length/\2 < (σR b l).length then ZfC FC PR BY 41 c2R c3R rsR 0 (tput tmR (some 5) .top) (σR b l) 1 2 else none)=_
 rw [if_pos (by simp [σR])]
 unfold ZfC
 rw [show (σR b l).length=3 from rfl,ZMj b l h1 n1 hQ nQ oQ nL hf hb]
 exact Zr0 b 0 l _ hQ nQ
theorem Zgp (b c:Int) (l:Zb) {τ:Za} (h:evC FC PR BY 3 c2R (tput tmR (some 5) .top) (σR b l)=some (.panic (Zz c),[],.var [.int .u8 b,.lst false (l.map Zc)]::.var P0::.var [.int .i64 0]::τ)) :
  Zei [.agg [.int .u8 b,.lst false (l.map Zc)]] []=some (.tup [.agg P0,.int .i64 c],[]):=by
 unfold Zei Zhj
 show (match evC FC PR BY 0 c1R (enterA 0 [.agg [.int .u8 b,.lst false (l.map Zc)]] []) [] with | some (.normal,tm1,σ1)=>_ | _=>none)=_
 rw [ZnB]
 show (if (0:Nat)<=(σR b l).length/\1 < (σR b l).length/\2 < (σR b l).length then ZfC FC PR BY 41 c2R c3R rsR 0 (tput tmR (some 5) .top) (σR b l) 1 2 else none)=_
 rw [if_pos (by simp [σR])]
 unfold ZfC
 rw [show (σR b l).length=3 from rfl,h]
 show (if (41:Nat)=41 then (match evC FC PR BY 3 c3R [(10,.int .i64 c),(1,.ref 2 0),(0,.ref 1 0)] _ with | some (.normal,_,σ3)=>Ze3 0 1 2 rsR σ3 | _=>none) else none)=_
 rw [if_pos rfl,ZCD]
 exact Zr0 b c l _ rfl (by rfl)
end
section
theorem ZdG (w:Int) (b:Zb):(Zao w b).2.1<=b.length:=by
 unfold Zao
 split
 ·simp
 ·rename_i h
  split
  ·simp only
   have : ¬(((Zag b).1:Int) > (b.length:Int) - ((Zag b).2.1:Nat)):=fun e=>h (Xy e)
   omega
  ·simp
def ZaO:ZA:=⟨0,false,0,false,0,[],[],0,[],[],[],[],false,0,[],false,⟨[],[],0,false,[]⟩,false,[],false,[],false⟩
theorem Zkq (σ:Za):ZaS σ P0=some (ZC ZaO,[]):=rfl
theorem Zpn (q:ZA) (ρ:Rho):Zg ρ (ZC q)=ZC q:=by
 have h:=Zrj (ρ:=ρ) (ZeK q)
 rw [Zel,Zm] at h
 injection h
theorem ZGF {Q:List AVal} {q:ZA} (c:Int) (h:∀ σ,ZaS σ Q=some (ZC q,[])):ZbB 0 (some (.tup [.agg Q,.int .i64 c],[]))=some (.tup [ZaC q,.int .i64 c],[]):=by
 have h1:viewR [] (.tup [.agg Q,.int .i64 c])=some (.tup [ZaC q,.int .i64 c],[]):=by
  rw [viewR,viewAs,ZW,h]
  rfl
 unfold ZbB
 simp only [h1]
 have e1:=Ztm q
 have e2:=Zpn q
 have hi:Zy 0 [AVal.tup [ZaC q,.int .i64 c]] []=[]:=by
  have : Zp [AVal.tup [ZaC q,.int .i64 c]]=[]:=by simp [Zp,Z3,ZbH,e1]
  simp only [Zy,this,XD,Xau,XZ]
  rfl
 simp only [Zn,gcA,hi,Zg,Zm,Zr]
 rw [ZbH,Zm,e2]
def Zi3 (b:Int) (l:Zb):ZA×Int :=
 if qoI b < 3 then (if qoI b > 0\/(Zbq b 8 != 0)=false then (match ZeN (qoI b) l with
  | .error e=>(ZaO,e)
  | .ok (tp,n,ps,pay)=>({ ZaO with type:=3,dup:=(Zbq b 8 != 0),qos:=qoI b,retain:=(Zbq b 1 != 0),id:=n,topic:=tp,props:=ps,payload:=pay },0))
  else (ZaO,130)) else (ZaO,129)
theorem ZKu (b:Int) (h3:tyI b=3) (l:Zb) (hl:l.length<=140737488355328):∃ Q,E1 66 [.agg [.int .u8 b,.lst false (l.map Zc)]] []=some (.tup [.agg Q,.int .i64 (Zi3 b l).2],[])/\∀ σ,ZaS σ Q=some (ZC (Zi3 b l).1,[]):=by
 have hf:=ZOu P0 rfl (by rfl) b l h3
 have hQ:(ZcJ P0 b).length=26:=rfl
 have hN:Zd (ZcJ P0 b)=true:=by rfl
 unfold Zi3
 by_cases hq:qoI b < 3
 ·rw [if_pos hq] at hf ⊢
  by_cases hd:qoI b > 0\/(Zbq b 8 != 0)=false
  ·rw [if_pos hd] at hf ⊢
   cases hp:ZeN (qoI b) l with
   | error e =>
    obtain ⟨cs,hn,hb⟩:=ZGp (ZcJ P0 b) hQ hN (qoI b) rfl rfl l hl hp
    refine ⟨P0,?_,Zkq⟩
    rw [ZgB]
    exact Zgp b e l (Zsk b l hQ hN hn hf hb)
   | ok s =>
    obtain ⟨tp,n,ps,pay⟩:=s
    have hb:=ZJY (ZcJ P0 b) hQ hN (qoI b) rfl rfl rfl (fun r _=>ZdG 3 r) l hl hp
    refine ⟨((((ZcJ P0 b).set 5 (.str tp)).set 4 (.int .i64 n)).set 9 (.lst false (ps.map Zq))).set 6 (.lst false (pay.map Zc)),?_,fun σ=>rfl⟩
    rw [ZgB]
    exact Zss b l hQ hN rfl (by rfl) rfl rfl hf hb
  ·rw [if_neg hd] at hf ⊢
   refine ⟨P0,?_,Zkq⟩
   rw [ZgB]
   exact Zgp b 130 l (Zks b l (Zx _ hQ hN _ _) hf)
 ·rw [if_neg hq] at hf ⊢
  refine ⟨P0,?_,Zkq⟩
  rw [ZgB]
  exact Zgp b 129 l (Zks b l (Zx _ hQ hN _ _) hf)
end
section
def ZdK (k:Int) (l:Zb):Except Int (Int×List Zv×Zb):=match idK l with
 | .error c=>.error c
 | .ok (n,r1)=>match ZbM k r1 with
  | .error c=>.error c
  | .ok (ps,r2)=>if r2.length=0 then .error 130 else .ok (n,ps,r2)
def ZbW (P:List AVal) (n:Int) (ps:List Zv):List AVal:=(P.set 4 (.int .i64 n)).set 9 (.lst false (ps.map Zq))
structure QOk (k:Int) (Q:List AVal):Prop where
 len:Q.length=26
 nor:Zd Q=true
 ty:Q[0]?=some (.int .i64 k)
 c8:Q[8]?=some (.lst true [])
 c10:Q[10]?=some (.lst true [])
 c11:Q[11]?=some (.lst true [])
theorem ZdI {k:Int} {P:List AVal} (h:QOk k P) (n:Int) (ps:List Zv):QOk k (ZbW P n ps):=by
 unfold ZbW
 refine ⟨by simp [h.len],ZQ (Zb0 _ _) _ (ZQ rfl _ h.nor),?_,?_,?_,?_⟩
 ·rw [Xm (by omega),Xm (by omega)];exact h.ty
 ·rw [Xm (by omega),Xm (by omega)];exact h.c8
 ·rw [Xm (by omega),Xm (by omega)];exact h.c10
 ·rw [Xm (by omega),Xm (by omega)];exact h.c11
theorem ZCE {f:Nat} {cs:List AVal} (hc:Zd cs=true) (τ:Za) :
  gcT 3 [(1,.fn f [.ref 1 0,.ref 2 0]),(0,.ref 0 0)] (.var cs::.var [.ref 0 0]::.var [.ref 0 0]::τ)=([(1,.fn f [.ref 1 0,.ref 2 0]),(0,.ref 0 0)],[.var cs,.var [.ref 0 0],.var [.ref 0 0]]):=by
 have e2:=fun ρ=>ZaX ρ cs hc
 have hi:Zy 3 [.fn f [.ref 1 0,.ref 2 0],.ref 0 0] (.var cs::.var [.ref 0 0]::.var [.ref 0 0]::τ)=[0,1,2]:=by
  have hR:X9 3=[0,1,2]:=rfl
  simp only [Zy,hR,XJ,XZ,Xp,Xu,XO,ZG,Zp,Z3,(e2 (fun _ _=>none)).2]
  rfl
 have hρ0:Zk (.var cs::.var [.ref 0 0]::.var [.ref 0 0]::τ) 3 [0,1,2] 0 0=some (0,0):=rfl
 have hρ1:Zk (.var cs::.var [.ref 0 0]::.var [.ref 0 0]::τ) 3 [0,1,2] 1 0=some (1,0):=rfl
 have hρ2:Zk (.var cs::.var [.ref 0 0]::.var [.ref 0 0]::τ) 3 [0,1,2] 2 0=some (2,0):=rfl
 simp only [gcT,gcA,Xt,XM,hi,Zr,Xu,XO,ZB,Zg,Zm,hρ0,hρ1,hρ2,(e2 _).1]
 rfl
theorem ZM3 {f:Nat} {cs:List AVal} (hc:Zd cs=true) (τ:Za) :
  gcT 1 [(1,.fn f [.ref 0 0]),(0,.ref 0 0)] (.var cs::τ)=([(1,.fn f [.ref 0 0]),(0,.ref 0 0)],[.var cs]):=by
 have e2:=fun ρ=>ZaX ρ cs hc
 have hi:Zy 1 [.fn f [.ref 0 0],.ref 0 0] (.var cs::τ)=[0]:=by
  have hR:X9 1=[0]:=rfl
  simp only [Zy,hR,XJ,XZ,Xp,Xu,ZG,Zp,Z3,(e2 (fun _ _=>none)).2]
  rfl
 have hρ0:Zk (.var cs::τ) 1 [0] 0 0=some (0,0):=rfl
 simp only [gcT,gcA,Xt,XM,hi,Zr,Xu,ZB,Zg,Zm,hρ0,(e2 _).1]
 rfl
section
variable (k:Int) (f:Nat) (P:List AVal) (h:QOk k P) (l:Zb) (hl:l.length<=140737488355328)
include h hl
theorem ZsA {n:Int} {ps:List Zv} {r:Zb} (hk:ZdK k l=.ok (n,ps,r)):E 117 [.ref 0 0,.fn f [.ref 1 0,.ref 2 0]] [.var (P++[.lst false (l.map Zc)]),.var [.ref 0 0],.var [.ref 0 0]]=Za3 3 [(1,.fn f [.ref 1 0,.ref 2 0]),(0,.ref 0 0)] [.var (ZbW P n ps++[.lst false (r.map Zc)]),.var [.ref 0 0],.var [.ref 0 0]]:=by
 obtain ⟨hP,hN,h0,-,-,-⟩:=h
 unfold ZdK at hk
 split at hk
 ·cases hk
 rename_i n' r1 hi
 have l1:=Ze0 hi
 split at hk
 ·cases hk
 rename_i ps' r2 hp
 split at hk
 ·cases hk
 rename_i hne
 injection hk with hk;injection hk with e1 hk;injection hk with e2 e3;subst e1 e2 e3
 have hI:=fun σ sq hs=>Zfr P hP hN l hl σ 0 sq hs hi
 have hP4:(P.set 4 (.int .i64 n')).length=26:=by simp [hP]
 have hN4:Zd (P.set 4 (.int .i64 n'))=true:=ZQ rfl 4 hN
 have h04:(P.set 4 (.int .i64 n'))[0]?=some (.int .i64 k):=by rw [Xm (by omega)];exact h0
 unfold ZbW
 generalize P.set 4 (.int .i64 n')=R at *
 have hG:=fun σ sq hs=>Zd3 R hP4 hN4 r1 (by omega) σ 0 sq hs (ZdG k r1) hp
 have c1:=Z9 R hP4
 have c2:=Zax R hP4
 have c4:=fun L=>(Zac R hP4 0 (by omega) L).trans h04
 have c3:=fun L=>ZaD R hP4 9 10 (by omega) rfl L (.lst false (ps'.map Zq))
 have hP9:(R.set 9 (.lst false (ps'.map Zq))).length=26:=by simp [hP4]
 have hN9:Zd (R.set 9 (.lst false (ps'.map Zq)))=true:=ZQ (Zb0 _ _) 9 hN4
 generalize R.set 9 (.lst false (ps'.map Zq))=S at *
 have d2:=Zax S hP9
 have m1:=Zbb
 have z:((r2.length:Nat):Int) > 0:=by omega
 have z2:(0:Int) < ((r2.length:Nat):Int):=by omega
 have gC:=fun τ=>ZCE (f:=f) (Zx S hP9 hN9 false (r2.map Zc)) τ
 unfold Za3
 rw [Zh (by rfl) Zfl]
 simp -implicitDefEqProofs only [EQA,ZI,ZT,Xe,Xc,Xf,Xb,reduceCtorEq,↓reduceIte,ZfT,ZeG,c1,c3,c4,hI,hG,d2,m1,z,gC]
theorem Zy7 {e:Int} (hk:ZdK k l=.error e):∃ cs,Zd cs=true/\E 117 [.ref 0 0,.fn f [.ref 1 0,.ref 2 0]] [.var (P++[.lst false (l.map Zc)]),.var [.ref 0 0],.var [.ref 0 0]]=some (.pan (Zz e),[.var (cs),.var [.ref 0 0],.var [.ref 0 0]]):=by
 obtain ⟨hP,hN,h0,-,-,-⟩:=h
 unfold ZdK at hk
 split at hk
 ·rename_i c hi
  injection hk with hk;subst hk
  obtain ⟨cs,hn,he⟩:=Zmf P hP hN l hl hi
  have hI:=fun (σ:Za) sq (hs:σ[0]?=some (.var (P++[.lst false (l.map Zc)])))=>Zcy (O:=E) (bf:=BY) (f:=115) (view:=true) (rest:=[]) (by kernel_rfl) rfl (Zx P hP hN _ _) hn rfl he hs sq
  refine ⟨cs,hn,?_⟩
  rw [Zh (by rfl) Zfl]
  simp -implicitDefEqProofs only [EQA,Xe,Xc,reduceCtorEq,↓reduceIte,ZfT,ZeG,hI]
  exact ZkH rfl hn _
 rename_i n' r1 hi
 have l1:=Ze0 hi
 have hI:=fun σ sq hs=>Zfr P hP hN l hl σ 0 sq hs hi
 have hP4:(P.set 4 (.int .i64 n')).length=26:=by simp [hP]
 have hN4:Zd (P.set 4 (.int .i64 n'))=true:=ZQ rfl 4 hN
 have h04:(P.set 4 (.int .i64 n'))[0]?=some (.int .i64 k):=by rw [Xm (by omega)];exact h0
 generalize P.set 4 (.int .i64 n')=R at *
 have c1:=Z9 R hP4
 have c2:=Zax R hP4
 have c4:=fun L=>(Zac R hP4 0 (by omega) L).trans h04
 split at hk
 ·rename_i c hp
  injection hk with hk;subst hk
  have hG:=fun σ sq hs=>ZfR R hP4 hN4 r1 (by omega) σ 0 sq hs hp
  refine ⟨_,Zx R hP4 hN4 false (r1.map Zc),?_⟩
  rw [Zh (by rfl) Zfl]
  simp -implicitDefEqProofs only [EQA,Xe,Xc,Xb,reduceCtorEq,↓reduceIte,ZfT,ZeG,c4,hI,hG]
  exact ZkH rfl (Zx R hP4 hN4 _ _) _
 rename_i ps' r2 hp
 split at hk
 case isFalse=>cases hk
 rename_i hne
 injection hk with hk;subst hk
 have hG:=fun σ sq hs=>Zd3 R hP4 hN4 r1 (by omega) σ 0 sq hs (ZdG k r1) hp
 have c3:=fun L=>ZaD R hP4 9 10 (by omega) rfl L (.lst false (ps'.map Zq))
 have hP9:(R.set 9 (.lst false (ps'.map Zq))).length=26:=by simp [hP4]
 have hN9:Zd (R.set 9 (.lst false (ps'.map Zq)))=true:=ZQ (Zb0 _ _) 9 hN4
 generalize R.set 9 (.lst false (ps'.map Zq))=S at *
 have d2:=Zax S hP9
 have m1:=ZbA
 have z:¬((r2.length:Nat):Int) > 0:=by omega
 have z2:¬(0:Int) < ((r2.length:Nat):Int):=by omega
 refine ⟨_,Zx S hP9 hN9 false (r2.map Zc),?_⟩
 rw [Zh (by rfl) Zfl]
 simp -implicitDefEqProofs only [EQA,ZI,Xe,Xc,Xf,Xb,reduceCtorEq,↓reduceIte,ZfT,ZeG,c1,c3,c4,hI,hG,d2,m1,z]
 exact ZkH rfl (Zx S hP9 hN9 _ _) _
theorem ZuL {n:Int} {ps:List Zv} {r:Zb} (hk:ZdK k l=.ok (n,ps,r)):E 117 [.ref 0 0,.fn f [.ref 0 0]] [.var (P++[.lst false (l.map Zc)])]=Za3 1 [(1,.fn f [.ref 0 0]),(0,.ref 0 0)] [.var (ZbW P n ps++[.lst false (r.map Zc)])]:=by
 obtain ⟨hP,hN,h0,-,-,-⟩:=h
 unfold ZdK at hk
 split at hk
 ·cases hk
 rename_i n' r1 hi
 have l1:=Ze0 hi
 split at hk
 ·cases hk
 rename_i ps' r2 hp
 split at hk
 ·cases hk
 rename_i hne
 injection hk with hk;injection hk with e1 hk;injection hk with e2 e3;subst e1 e2 e3
 have hI:=fun σ sq hs=>Zfr P hP hN l hl σ 0 sq hs hi
 have hP4:(P.set 4 (.int .i64 n')).length=26:=by simp [hP]
 have hN4:Zd (P.set 4 (.int .i64 n'))=true:=ZQ rfl 4 hN
 have h04:(P.set 4 (.int .i64 n'))[0]?=some (.int .i64 k):=by rw [Xm (by omega)];exact h0
 unfold ZbW
 generalize P.set 4 (.int .i64 n')=R at *
 have hG:=fun σ sq hs=>Zd3 R hP4 hN4 r1 (by omega) σ 0 sq hs (ZdG k r1) hp
 have c1:=Z9 R hP4
 have c2:=Zax R hP4
 have c4:=fun L=>(Zac R hP4 0 (by omega) L).trans h04
 have c3:=fun L=>ZaD R hP4 9 10 (by omega) rfl L (.lst false (ps'.map Zq))
 have hP9:(R.set 9 (.lst false (ps'.map Zq))).length=26:=by simp [hP4]
 have hN9:Zd (R.set 9 (.lst false (ps'.map Zq)))=true:=ZQ (Zb0 _ _) 9 hN4
 generalize R.set 9 (.lst false (ps'.map Zq))=S at *
 have d2:=Zax S hP9
 have m1:=Zbb
 have z:((r2.length:Nat):Int) > 0:=by omega
 have z2:(0:Int) < ((r2.length:Nat):Int):=by omega
 have gC:=fun τ=>ZM3 (f:=f) (Zx S hP9 hN9 false (r2.map Zc)) τ
 unfold Za3
 rw [Zh (by rfl) Zfl]
 simp -implicitDefEqProofs only [EQA,ZI,ZT,Xe,Xc,Xf,Xb,reduceCtorEq,↓reduceIte,ZfT,ZeG,c1,c3,c4,hI,hG,d2,m1,z,gC]
theorem ZwZ {e:Int} (hk:ZdK k l=.error e):∃ cs,Zd cs=true/\E 117 [.ref 0 0,.fn f [.ref 0 0]] [.var (P++[.lst false (l.map Zc)])]=some (.pan (Zz e),[.var (cs)]):=by
 obtain ⟨hP,hN,h0,-,-,-⟩:=h
 unfold ZdK at hk
 split at hk
 ·rename_i c hi
  injection hk with hk;subst hk
  obtain ⟨cs,hn,he⟩:=Zmf P hP hN l hl hi
  have hI:=fun (σ:Za) sq (hs:σ[0]?=some (.var (P++[.lst false (l.map Zc)])))=>Zcy (O:=E) (bf:=BY) (f:=115) (view:=true) (rest:=[]) (by kernel_rfl) rfl (Zx P hP hN _ _) hn rfl he hs sq
  refine ⟨cs,hn,?_⟩
  rw [Zh (by rfl) Zfl]
  simp -implicitDefEqProofs only [EQA,Xc,reduceCtorEq,↓reduceIte,ZfT,ZeG,hI]
  exact ZY rfl hn
 rename_i n' r1 hi
 have l1:=Ze0 hi
 have hI:=fun σ sq hs=>Zfr P hP hN l hl σ 0 sq hs hi
 have hP4:(P.set 4 (.int .i64 n')).length=26:=by simp [hP]
 have hN4:Zd (P.set 4 (.int .i64 n'))=true:=ZQ rfl 4 hN
 have h04:(P.set 4 (.int .i64 n'))[0]?=some (.int .i64 k):=by rw [Xm (by omega)];exact h0
 generalize P.set 4 (.int .i64 n')=R at *
 have c1:=Z9 R hP4
 have c2:=Zax R hP4
 have c4:=fun L=>(Zac R hP4 0 (by omega) L).trans h04
 split at hk
 ·rename_i c hp
  injection hk with hk;subst hk
  have hG:=fun σ sq hs=>ZfR R hP4 hN4 r1 (by omega) σ 0 sq hs hp
  refine ⟨_,Zx R hP4 hN4 false (r1.map Zc),?_⟩
  rw [Zh (by rfl) Zfl]
  simp -implicitDefEqProofs only [EQA,Xc,Xb,reduceCtorEq,↓reduceIte,ZfT,ZeG,c4,hI,hG]
  exact ZY rfl (Zx R hP4 hN4 _ _)
 rename_i ps' r2 hp
 split at hk
 case isFalse=>cases hk
 rename_i hne
 injection hk with hk;subst hk
 have hG:=fun σ sq hs=>Zd3 R hP4 hN4 r1 (by omega) σ 0 sq hs (ZdG k r1) hp
 have c3:=fun L=>ZaD R hP4 9 10 (by omega) rfl L (.lst false (ps'.map Zq))
 have hP9:(R.set 9 (.lst false (ps'.map Zq))).length=26:=by simp [hP4]
 have hN9:Zd (R.set 9 (.lst false (ps'.map Zq)))=true:=ZQ (Zb0 _ _) 9 hN4
 generalize R.set 9 (.lst false (ps'.map Zq))=S at *
 have d2:=Zax S hP9
 have m1:=ZbA
 have z:¬((r2.length:Nat):Int) > 0:=by omega
 have z2:¬(0:Int) < ((r2.length:Nat):Int):=by omega
 refine ⟨_,Zx S hP9 hN9 false (r2.map Zc),?_⟩
 rw [Zh (by rfl) Zfl]
 simp -implicitDefEqProofs only [EQA,ZI,Xe,Xc,Xf,Xb,reduceCtorEq,↓reduceIte,ZfT,ZeG,c1,c3,c4,hI,hG,d2,m1,z]
 exact ZY rfl (Zx S hP9 hN9 _ _)
end
end
section
theorem Zs9 {n:Nat} {l r:Zb} {a:Int} (hn:0 < n) (h:ZaM n l=.ok (a,r)):r.length < l.length:=by
 unfold ZaM at h
 split at h
 ·cases h
 ·injection h with h;injection h with _ h;subst h;rw [X6];omega
theorem Znt {l r a:Zb} (h:Zav l=.ok (a,r)):r.length < l.length:=by
 unfold Zav at h
 split at h
 ·rename_i h0
  injection h with h;injection h with _ h;subst h
  rw [X6]
  unfold Zaf at h0 ⊢
  split at h0
  ·rename_i h1;exact absurd h0 h1
  ·rename_i h1
   rw [if_neg h1]
   split at h0
   ·rename_i h2
    rw [if_pos h2]
    unfold ZaJ at h0 ⊢
    split at h0
    ·cases h0
    ·rename_i h3
     rw [if_neg h3]
     simp only
     omega
   ·cases h0
 ·cases h
theorem Zlq {k:Int} {l r:Zb} {a:Int} (h:ZaL k l=.ok (a,r)):r.length < l.length:=by
 unfold ZaL at h
 split at h
 ·rename_i h1
  split at h
  ·injection h with h;injection h with _ h;subst h;exact Zs9 (by omega) h1
  ·cases h
 ·cases h
theorem ZiK {l r:Zb} {a:Zbr} (h:Zbu l=.ok (a,r)):r.length < l.length:=by
 unfold Zbu at h
 split at h
 ·cases h
 rename_i f r1 ht
 have l1:=Znt ht
 split at h
 ·cases h
 rename_i o r2 hn
 have l2:=Zs9 (by omega) hn
 split at h
 case isFalse=>cases h
 split at h
 case isFalse=>cases h
 injection h with h;injection h with _ h;subst h
 omega
section
variable {O:ZN} {bf:Nat->Bool} {f:Nat} {cs cs1 cs2 cs3 xs xs2:List AVal} {w w2:Nat} {q:AVal}
theorem ZDn (hb:bf f=false) (hc:Zd cs=true) (hq:ZM q=true) (hback:∀ ρ:Rho,ρ 1 0=some (1,0)->Zg ρ cs2=cs2) (hO:O f [.ref 0 0] [.var cs]=some (q,[.var cs2,.row 0 w xs])) :
  Zi O bf [.var cs,.free,.free,.free,.free] 1 f 4 false [.ref 0 0]=some (q,[.var cs2,.row 0 w xs,.free,.free,.free],{ any:=true,upd:=[(0,cs2)] }):=by
 have ec:=fun ρ=>ZaX ρ cs hc
 refine Zc6 (ids:=[0]) (vs:=[.ref 0 0]) hb rfl (Zfe rfl hc) rfl rfl rfl ?_ hO rfl (by simp) (by simp) rfl rfl (Za7 _ q hq).1 ?_ rfl
 ·show [ZK.var (Zg _ cs)]=_
  rw [(ec _).1]
 ·have hb3:=hback (ZaA [.var cs,.free,.free,.free,.free] [0] 1) rfl
  show [ZK.var (Zg _ cs2),.row 0 w xs,.free,.free,.free]=_
  rw [hb3]
theorem ZEE (hb:bf f=false) (hc:Zd cs=true) (hq:ZM q=true) (hc2:Zd cs2=true) (hO:O f [.ref 0 0] [.var cs]=some (q,[.var cs2])) :
  Zi O bf [.var cs,.free,.free,.free,.free] 1 f 4 false [.ref 0 0]=some (q,[.var cs2,.free,.free,.free,.free],{ any:=true,upd:=[(0,cs2)] }):=by
 have ec:=fun ρ=>ZaX ρ cs hc
 refine Zc6 (ids:=[0]) (vs:=[.ref 0 0]) hb rfl (Zfe rfl hc) rfl rfl rfl ?_ hO rfl (by simp) (by simp) rfl rfl (Za7 _ q hq).1 ?_ rfl
 ·show [ZK.var (Zg _ cs)]=_
  rw [(ec _).1]
 ·show [ZK.var (Zg _ cs2),.free,.free,.free,.free]=_
  rw [(ZaX _ cs2 hc2).1]
theorem ZuI {g2:Nat} (hb:bf f=false) (hc:Zp cs=[1]) (hren:∀ ρ:Rho,ρ 1 0=some (1,0)->Zg ρ cs=cs) (hq:ZM q=true) (hg2:g2<=1) (hback:∀ ρ:Rho,ρ 1 g2=some (1,g2)->Zg ρ cs2=cs2) (hO:O f [.ref 0 0] [.var cs,.row 0 w xs]=some (q,[.var cs2,.row g2 w2 xs2])) :
  Zi O bf [.var cs,.row 0 w xs,.free,.free,.free,.free] 2 f 4 false [.ref 0 0]=some (q,[.var cs2,.row g2 w2 xs2,.free,.free,.free,.free],{ any:=true,upd:=[(0,cs2)] }):=by
 refine Zc6 (ids:=[0,1]) (vs:=[.ref 0 0]) hb rfl (Zqk (g:=0) (w:=w) (xs:=xs) rfl rfl (by omega) hc) rfl rfl rfl ?_ hO rfl (by simp) (by simp) ?_ rfl (Za7 _ q hq).1 ?_ rfl
 ·have h1:=hren (Zk [.var cs,.row 0 w xs,.free,.free,.free,.free] 0 [0,1]) rfl
  show [ZK.var (Zg _ cs),.row 0 w xs]=_
  rw [h1]
 ·simp [ZaZ,okB,Zb4,Zo,hg2]
 ·have hb3:=hback (ZaA [.var cs,.row 0 w xs,.free,.free,.free,.free] [0,1] 2) (by simp [ZaA,Zo])
  show [ZK.var (Zg _ cs2),.row (0+g2) w2 xs2,.free,.free,.free,.free]=_
  rw [hb3,XE]
theorem Zrd {f g:Nat} (hc:Zp cs=[1]) (hg:g<=1) (hren:∀ ρ:Rho,ρ 1 g=some (1,0)->Zg ρ cs=cs1) (τ:Za) :
  gcT 1 [(1,.fn f [.ref 0 0]),(0,.ref 0 0)] (.var cs::.row g w xs::τ)=([(1,.fn f [.ref 0 0]),(0,.ref 0 0)],[.var cs1,.row 0 w xs]):=by
 have hi:Zy 1 [.fn f [.ref 0 0],.ref 0 0] (.var cs::.row g w xs::τ)=[0,1]:=by
  have hR:X9 1=[0]:=rfl
  simp only [Zy,hR,XJ,XZ,Xp,Xu,ZG,Zp,Z3,hc]
  rfl
 have hρ:Zk (.var cs::.row g w xs::τ) 1 [0,1] 1 g=some (1,0):=by
  simp [Zk,ZO,Zo,ZJ]
 have hρ0:Zk (.var cs::.row g w xs::τ) 1 [0,1] 0 0=some (0,0):=rfl
 simp only [gcT,gcA,Xt,XM,hi,Zr,Xu,XO,ZJ,Zo,ZB,Zg,Zm,hρ0,hren _ hρ]
 simp
end
section
variable (Q:List AVal) (hQ:Q.length=26) (hN:Zd Q=true) (h10:Q[10]?=some (.lst true []))
include hQ hN
def H1 (Q:List AVal) (n:Nat) (l:Zb) (ys:List AVal):Za:=[.var (Zl Q 10 1 0 n++[.lst false (l.map Zc)]),.row 0 6 ys]
def tmS:Tms:=[(1,.fn 1000118 [.ref 0 0]),(0,.ref 0 0)]
theorem ZsC:∀ (n:Nat) (l:Zb) (xs:List Zbr),l.length<=n->n+xs.length<=1099511627776 ->
  (∀ ts,ZaU Zbu n l=.ok ts->Za3 1 tmS (H1 Q xs.length l (xs.map Z1))=some (.tup [],H1 Q (xs++ts).length [] ((xs++ts).map Z1))) /\
  (∀ e,ZaU Zbu n l=.error e->∃ (xs':List Zbr) (r:Zb),Za3 1 tmS (H1 Q xs.length l (xs.map Z1))=some (.pan (Zz e),H1 Q xs'.length r (xs'.map Z1))):=by
 have hk:(10:Nat) < 26:=by omega
 intro n
 induction n with
 | zero =>
  intro l xs hl hx
  have l0:l=[]:=Xz (by omega)
  subst l0
  refine ⟨fun ts h=>?_,fun e h=>by simp [ZaU] at h⟩
  have : ts=[]:=by simpa [ZaU] using h.symm
  subst this
  rw [Xp]
  have hL:=ZbY Q hQ hN 10 hk xs.length 1 0
  have b2:=Zax _ hL
  have hO:=fun τ=>Zc0 (j:=1) (w:=6) (xs:=xs.map Z1) (r:=.tup []) (σ:=.var (Zl Q 10 1 0 xs.length++[.lst false []])::.row 0 6 (xs.map Z1)::τ) rfl (by omega) rfl rfl (Zbt Q hQ hN hk 1 0 xs.length []) (fun ρ h=>ZaT Q hQ hN hk 1 0 xs.length 1 0 [] ρ h)
  unfold H1 tmS Za3
  rw [ZX]
  generalize Zl Q 10 1 0 xs.length=R at *
  generalize xs.map Z1=ys at *
  simp -implicitDefEqProofs only [EQA,Zs,Xe,WH,Xc,Xb,Xg,reduceCtorEq,decide_eq_true_eq,↓reduceIte,Zd,ZlR,Zdw,ZcM,b2]
  exact hO _
 | succ n ih =>
  intro l xs hl hx
  have hL:=ZbY Q hQ hN 10 hk xs.length 1 0
  have b2:=Zax _ hL
  by_cases l0:l.length=0
  ·have l0:l=[]:=Xz l0
   subst l0
   refine ⟨fun ts h=>?_,fun e h=>by simp [ZaU] at h⟩
   have : ts=[]:=by simpa [ZaU] using h.symm
   subst this
   rw [Xp]
   have hO:=fun τ=>Zc0 (j:=1) (w:=6) (xs:=xs.map Z1) (r:=.tup []) (σ:=.var (Zl Q 10 1 0 xs.length++[.lst false []])::.row 0 6 (xs.map Z1)::τ) rfl (by omega) rfl rfl (Zbt Q hQ hN hk 1 0 xs.length []) (fun ρ h=>ZaT Q hQ hN hk 1 0 xs.length 1 0 [] ρ h)
   unfold H1 tmS Za3
   rw [ZX]
   generalize Zl Q 10 1 0 xs.length=R at *
   generalize xs.map Z1=ys at *
   simp -implicitDefEqProofs only [EQA,Zs,Xe,WH,Xc,Xb,Xg,reduceCtorEq,decide_eq_true_eq,↓reduceIte,Zd,ZlR,Zdw,ZcM,b2]
   exact hO _
  ·have z1:((l.length:Nat):Int) > 0:=by omega
   have z2:(0:Int) < ((l.length:Nat):Int):=by omega
   cases ho:Zbu l with
   | error e =>
    refine ⟨fun ts h=>by simp [ZaU,l0,ho] at h,fun e' h=>?_⟩
    have : e'=e:=by simpa [ZaU,l0,ho] using h.symm
    subst this
    obtain ⟨r,hE⟩:=ZCG Q hQ hN l (by omega) xs ho
    have hC:=ZuI (O:=E) (bf:=BY) (f:=118) (g2:=0) (by kernel_rfl) (Zbt Q hQ hN hk 1 0 xs.length l) (fun ρ h=>ZaT Q hQ hN hk 1 0 xs.length 1 0 l ρ h) (q:=.pan (Zz e')) rfl (by omega) (fun ρ h=>ZaT Q hQ hN hk 1 0 xs.length 1 0 r ρ h) hE
    have hO:=fun τ=>Zc0 (j:=1) (w:=6) (xs:=xs.map Z1) (r:=.pan (Zz e')) (σ:=.var (Zl Q 10 1 0 xs.length++[.lst false (r.map Zc)])::.row 0 6 (xs.map Z1)::τ) rfl (by omega) rfl rfl (Zbt Q hQ hN hk 1 0 xs.length r) (fun ρ h=>ZaT Q hQ hN hk 1 0 xs.length 1 0 r ρ h)
    refine ⟨xs,r,?_⟩
    unfold H1 tmS Za3
    rw [ZX]
    clear hE ih
    generalize Zl Q 10 1 0 xs.length=R at *
    generalize xs.map Z1=ys at *
    generalize Zz e'=ce at *
    simp -implicitDefEqProofs only [EQA,Xe,WH,Xc,Xb,Xg,reduceCtorEq,↓reduceIte,Zdw,ZcM,b2,hC,z1]
    exact hO _
   | ok s =>
    obtain ⟨s,r⟩:=s
    have hr:=ZiK ho
    have hE:=ZHj Q hQ hN xs (by omega) l (by omega) ho
    have hC:=ZuI (O:=E) (bf:=BY) (f:=118) (g2:=1) (by kernel_rfl) (Zbt Q hQ hN hk 1 0 xs.length l) (fun ρ h=>ZaT Q hQ hN hk 1 0 xs.length 1 0 l ρ h) (q:=.tup []) rfl (by omega) (fun ρ h=>ZaT Q hQ hN hk 1 1 (xs.length+1) 1 1 r ρ h) hE
    have hG:=Zrd (f:=1000118) (w:=6) (xs:=(xs++[s]).map Z1) (g:=1) (Zbt Q hQ hN hk 1 1 (xs.length+1) r) (by omega) (fun ρ h=>ZaT Q hQ hN hk 1 1 (xs.length+1) 1 0 r ρ h)
    have step:Za3 1 tmS (H1 Q xs.length l (xs.map Z1))=Za3 1 tmS (H1 Q (xs++[s]).length r ((xs++[s]).map Z1)):=by
     rw [show (xs++[s]).length=xs.length+1 from by simp]
     unfold H1 tmS
     conv=>lhs;unfold Za3
     conv=>rhs;unfold Za3
     conv=>lhs;rw [ZX]
     clear hE ih
     generalize Zl Q 10 1 0 xs.length=R at *
     generalize Zl Q 10 1 1 (xs.length+1)=R2 at *
     generalize Zl Q 10 1 0 (xs.length+1)=R3 at *
     generalize xs.map Z1=ys at *
     generalize (xs++[s]).map Z1=zs at *
     simp -implicitDefEqProofs only [EQA,ZT,Xe,WH,Xc,Xb,Xg,reduceCtorEq,↓reduceIte,Zdw,ZcM,b2,hC,hG,z1]
    obtain ⟨i1,i2⟩:=ih r (xs++[s]) (by omega) (by simp;omega)
    refine ⟨fun ts h=>?_,fun e h=>?_⟩
    ·rw [step]
     simp only [ZaU,l0,ho,if_false] at h
     cases hl2:ZaU Zbu n r with
     | error e=>rw [hl2] at h;cases h
     | ok us =>
      rw [hl2] at h
      injection h with h;subst h
      have:=i1 us hl2
      rw [Wo,List.singleton_append] at this
      exact this
    ·rw [step]
     simp only [ZaU,l0,ho,if_false] at h
     cases hl2:ZaU Zbu n r with
     | error e2 =>
      rw [hl2] at h
      injection h with h;subst h
      exact i2 e2 hl2
     | ok us=>rw [hl2] at h;cases h
end
def ZbF {α:Type} (one:Zb->RK α) (k:Int) (l:Zb):Except Int (Int×List Zv×List α):=match ZdK k l with
 | .error e=>.error e
 | .ok (n,ps,r)=>match ZaU one r.length r with
  | .error e=>.error e
  | .ok ts=>.ok (n,ps,ts)
theorem Zid {k:Int} {l:Zb} {n:Int} {ps:List Zv} {r:Zb} (h:ZdK k l=.ok (n,ps,r)):r.length<=l.length/\r.length≠0:=by
 unfold ZdK at h
 split at h
 ·cases h
 rename_i n' r1 hi
 have l1:=Ze0 hi
 split at h
 ·cases h
 rename_i ps' r2 hp
 have l2:=ZgE hp
 split at h
 ·cases h
 rename_i hne
 injection h with h;injection h with e1 h;injection h with e2 e3;subst e1 e2 e3
 exact ⟨by omega,hne⟩
theorem ZkZ {α:Type} {one:Zb->RK α} {n:Nat} {l:Zb} (h:l.length=n+1) {s:α} {r:Zb} (ho:one l=.ok (s,r)) (hlen:∀ {l s r},one l=.ok (s,r)->r.length < l.length):ZaU one l.length l=match ZaU one n r with
  | .error e=>.error e
  | .ok t=>.ok (s::t):=by
 rw [h]
 simp only [ZaU,h,Xab,Xan,and_false,if_false,ho]
 all_goals rfl
section
variable {α:Type} {one:Zb->RK α} {g:α->AVal} {f kk:Nat} {k:Int} (hk:kk < 26) (hf:f < 1000000) (hby:BY f=false)
  (hlen:∀ {l s r},one l=.ok (s,r)->r.length < l.length)
  (hT0:∀ Q,QOk k Q->∀ (l:Zb) (s:α) (r:Zb),l.length<=1099511627776->one l=.ok (s,r)->E f [.ref 0 0,.ref 2 0] [.var [.ref 1 0],.var (Q++[.lst false (l.map Zc)]),.var [.ref 1 0]]=some (.tup [],[.var [.ref 1 0],.var (Zl Q kk 3 0 1++[.lst false (r.map Zc)]),.var [.ref 1 0],.row 0 1 [g s]]))
  (hF0:∀ Q,QOk k Q->∀ (l:Zb) (e:Int),l.length<=1099511627776->one l=.error e->∃ r:Zb,E f [.ref 0 0,.ref 2 0] [.var [.ref 1 0],.var (Q++[.lst false (l.map Zc)]),.var [.ref 1 0]]=some (.pan (Zz e),[.var [.ref 1 0],.var (Q++[.lst false (r.map Zc)]),.var [.ref 1 0]]))
  (hT1:∀ Q,QOk k Q->∀ (xs:List α) (l:Zb) (s:α) (r:Zb),l.length<=1099511627776->xs.length<=1099511627776->one l=.ok (s,r)->E f [.ref 0 0,.ref 3 0] [.var [.ref 1 0],.var (Zl Q kk 2 0 xs.length++[.lst false (l.map Zc)]),.row 0 1 (xs.map g),.var [.ref 1 0]]=some (.tup [],[.var [.ref 1 0],.var (Zl Q kk 2 1 (xs.length+1)++[.lst false (r.map Zc)]),.row 1 1 ((xs++[s]).map g),.var [.ref 1 0]]))
  (hF1:∀ Q,QOk k Q->∀ (xs:List α) (l:Zb) (e:Int),l.length<=1099511627776->one l=.error e->∃ r:Zb,E f [.ref 0 0,.ref 3 0] [.var [.ref 1 0],.var (Zl Q kk 2 0 xs.length++[.lst false (l.map Zc)]),.row 0 1 (xs.map g),.var [.ref 1 0]]=some (.pan (Zz e),[.var [.ref 1 0],.var (Zl Q kk 2 0 xs.length++[.lst false (r.map Zc)]),.row 0 1 (xs.map g),.var [.ref 1 0]]))
include hk hf hby hT0
theorem Zv6 {Q:List AVal} (hQ:QOk k Q) {l r:Zb} {s:α} (hl:l.length<=1099511627776) (hl0:l.length≠0) (ho:one l=.ok (s,r)) :
  Za3 3 [(1,.fn f [.ref 1 0,.ref 2 0]),(0,.ref 0 0)] [.var (Q++[.lst false (l.map Zc)]),.var [.ref 0 0],.var [.ref 0 0]]=Za3 3 [(1,.fn f [.ref 1 0,.ref 2 0]),(0,.ref 0 0)] (H3 Q kk 1 r [g s]):=by
 have hE:=hT0 Q hQ l s r hl ho
 obtain ⟨hL,hN,-,-,-,-⟩:=hQ
 have z1:((l.length:Nat):Int) > 0:=by omega
 have z2:(0:Int) < ((l.length:Nat):Int):=by omega
 have b2:=Zax _ hL
 have hC:=ZI2 (O:=E) (bf:=BY) (cs:=Q++[.lst false (l.map Zc)]) (cs3:=Zl Q kk 3 0 1++[.lst false (r.map Zc)]) hby (Zx Q hL hN false (l.map Zc)) (q:=.tup []) rfl (fun ρ h=>ZaT Q hL hN hk 3 0 1 3 0 r ρ h) hE
 have hG:=Zun (f:=f) (w:=1) (xs:=[g s]) (g:=0) (Zbt Q hL hN hk 3 0 1 r) (by omega) (fun ρ h=>ZaT Q hL hN hk 3 0 1 3 0 r ρ h)
 unfold H3
 conv=>lhs;unfold Za3
 conv=>rhs;unfold Za3
 conv=>lhs;rw [ZX]
 clear hE hT0
 generalize Zl Q kk 3 0 1=Q2 at *
 simp -implicitDefEqProofs only [EQA,ZT,Xe,Xc,Xb,Xg,reduceCtorEq,↓reduceIte,Zdw,ZcM,b2,hC,hG,hf,z1]
omit hT0
include hF0
theorem ZK9 {Q:List AVal} (hQ:QOk k Q) {l:Zb} {e:Int} (hl:l.length<=1099511627776) (hl0:l.length≠0) (ho:one l=.error e) :
  ∃ r:Zb,Za3 3 [(1,.fn f [.ref 1 0,.ref 2 0]),(0,.ref 0 0)] [.var (Q++[.lst false (l.map Zc)]),.var [.ref 0 0],.var [.ref 0 0]]=some (.pan (Zz e),[.var (Q++[.lst false (r.map Zc)]),.var [.ref 0 0],.var [.ref 0 0]]):=by
 obtain ⟨r,hE⟩:=hF0 Q hQ l e hl ho
 obtain ⟨hL,hN,-,-,-,-⟩:=hQ
 have z1:((l.length:Nat):Int) > 0:=by omega
 have z2:(0:Int) < ((l.length:Nat):Int):=by omega
 have b2:=Zax _ hL
 have hC:=ZNg (O:=E) (bf:=BY) (cs:=Q++[.lst false (l.map Zc)]) (cs2:=Q++[.lst false (r.map Zc)]) hby (Zx Q hL hN false (l.map Zc)) (q:=.pan (Zz e)) rfl (Zx Q hL hN false (r.map Zc)) hE
 have hO:=fun τ=>ZkH (r:=.pan (Zz e)) rfl (Zx Q hL hN false (r.map Zc)) τ
 refine ⟨r,?_⟩
 unfold Za3
 rw [ZX]
 clear hE hF0
 generalize Zz e=ce at *
 simp -implicitDefEqProofs only [EQA,Xe,Xc,Xb,Xg,reduceCtorEq,↓reduceIte,Zdw,ZcM,b2,hC,hf,z1]
 exact hO _
include hT0 hT1 hF1 hlen
theorem Zpd {P:List AVal} (hP:QOk k P) {l:Zb} (hl:l.length<=1099511627775) {n:Int} {ps:List Zv} {ts:List α} (h:ZbF one k l=.ok (n,ps,ts)) :
  E 117 [.ref 0 0,.fn f [.ref 1 0,.ref 2 0]] [.var (P++[.lst false (l.map Zc)]),.var [.ref 0 0],.var [.ref 0 0]]=some (.tup [],H3 (ZbW P n ps) kk ts.length [] (ts.map g)):=by
 unfold ZbF at h
 split at h
 ·cases h
 rename_i n' ps' r hm
 obtain ⟨l1,l2⟩:=Zid hm
 split at h
 ·cases h
 rename_i us hu
 injection h with h;injection h with e1 h;injection h with e2 e3;subst e1 e2 e3
 rw [ZsA k f P hP l (by omega) hm]
 have hQ:=ZdI hP n' ps'
 generalize ZbW P n' ps'=Q at *
 obtain ⟨j,hj⟩:∃ j,r.length=j+1:=⟨r.length - 1,by omega⟩
 cases ho:one r with
 | error e =>
  rw [hj] at hu
  simp only [ZaU,hj,Xab,Xan,and_false,if_false,ho] at hu
  cases hu
 | ok sr =>
  obtain ⟨s,r'⟩:=sr
  have hr:=hlen ho
  rw [ZkZ hj ho hlen] at hu
  cases hl2:ZaU one j r' with
  | error e=>rw [hl2] at hu;cases hu
  | ok vs =>
   rw [hl2] at hu
   injection hu with hu;subst hu
   rw [Zv6 hk hf hby hT0 hQ (by omega) l2 ho]
   exact (ZtU (g:=g) Q hQ.len hQ.nor hk hf hby hlen (hT1 Q hQ) (hF1 Q hQ) j r' [s] (by omega) (by simp;omega)).1 vs hl2
theorem ZpC {P:List AVal} (hP:QOk k P) {l:Zb} (hl:l.length<=1099511627775) {e:Int} (h:ZbF one k l=.error e) :
  (∃ cs,Zd cs=true/\E 117 [.ref 0 0,.fn f [.ref 1 0,.ref 2 0]] [.var (P++[.lst false (l.map Zc)]),.var [.ref 0 0],.var [.ref 0 0]]=some (.pan (Zz e),[.var cs,.var [.ref 0 0],.var [.ref 0 0]])) \/
  (∃ (Q:List AVal) (xs:List α) (r:Zb),Q.length=26/\Zd Q=true/\E 117 [.ref 0 0,.fn f [.ref 1 0,.ref 2 0]] [.var (P++[.lst false (l.map Zc)]),.var [.ref 0 0],.var [.ref 0 0]]=some (.pan (Zz e),H3 Q kk xs.length r (xs.map g))):=by
 unfold ZbF at h
 split at h
 ·rename_i c hm
  injection h with h;subst h
  exact Xr (Zy7 k f P hP l (by omega) hm)
 rename_i n' ps' r hm
 obtain ⟨l1,l2⟩:=Zid hm
 rw [ZsA k f P hP l (by omega) hm]
 have hQ:=ZdI hP n' ps'
 generalize ZbW P n' ps'=Q at *
 obtain ⟨j,hj⟩:∃ j,r.length=j+1:=⟨r.length - 1,by omega⟩
 split at h
 case h_2=>cases h
 rename_i c hu
 injection h with h;subst h
 cases ho:one r with
 | error e =>
  have : e=c:=by
   rw [hj] at hu
   simp only [ZaU,hj,Xab,Xan,and_false,if_false,ho] at hu
   injection hu
  subst this
  obtain ⟨r',hr'⟩:=ZK9 hk hf hby hF0 hQ (by omega) l2 ho
  exact Xr ⟨_,Zx Q hQ.len hQ.nor false (r'.map Zc),hr'⟩
 | ok sr =>
  obtain ⟨s,r'⟩:=sr
  have hr:=hlen ho
  rw [ZkZ hj ho hlen] at hu
  cases hl2:ZaU one j r' with
  | ok vs=>rw [hl2] at hu;cases hu
  | error e2 =>
   rw [hl2] at hu
   injection hu with hu;subst hu
   rw [Zv6 hk hf hby hT0 hQ (by omega) l2 ho]
   obtain ⟨xs',r2,hx⟩:=(ZtU (g:=g) Q hQ.len hQ.nor hk hf hby hlen (hT1 Q hQ) (hF1 Q hQ) j r' [s] (by omega) (by simp;omega)).2 e2 hl2
   exact Xy ⟨Q,xs',r2,hQ.len,hQ.nor,hx⟩
end
section
theorem Ztt {Q:List AVal} (hQ:QOk 8 Q) {l r:Zb} {s:Zbr} (hl:l.length<=1099511627776) (hl0:l.length≠0) (ho:Zbu l=.ok (s,r)) :
  Za3 1 tmS [.var (Q++[.lst false (l.map Zc)])]=Za3 1 tmS (H1 Q 1 r [Z1 s]):=by
 obtain ⟨hL,hN,-,-,h10,-⟩:=hQ
 have hk:(10:Nat) < 26:=by omega
 have hE:=ZNs Q hL hN h10 l (by omega) ho
 unfold Zj at hE
 have z1:((l.length:Nat):Int) > 0:=by omega
 have z2:(0:Int) < ((l.length:Nat):Int):=by omega
 have b2:=Zax _ hL
 have hC:=ZDn (O:=E) (bf:=BY) (f:=118) (cs:=Q++[.lst false (l.map Zc)]) (by kernel_rfl) (Zx Q hL hN false (l.map Zc)) (q:=.tup []) rfl (fun ρ h=>ZaT Q hL hN hk 1 0 1 1 0 r ρ h) hE
 have hG:=Zrd (f:=1000118) (w:=6) (xs:=[Z1 s]) (g:=0) (Zbt Q hL hN hk 1 0 1 r) (by omega) (fun ρ h=>ZaT Q hL hN hk 1 0 1 1 0 r ρ h)
 unfold H1 tmS
 conv=>lhs;unfold Za3
 conv=>rhs;unfold Za3
 conv=>lhs;rw [ZX]
 clear hE
 generalize Zl Q 10 1 0 1=Q2 at *
 generalize Z1 s=sv at *
 simp -implicitDefEqProofs only [EQA,ZT,Xe,WH,Xc,Xb,Xg,reduceCtorEq,↓reduceIte,Zdw,ZcM,b2,hC,hG,z1]
theorem ZMq {Q:List AVal} (hQ:QOk 8 Q) {l:Zb} {e:Int} (hl:l.length<=1099511627776) (hl0:l.length≠0) (ho:Zbu l=.error e) :
  ∃ cs,Zd cs=true/\Za3 1 tmS [.var (Q++[.lst false (l.map Zc)])]=some (.pan (Zz e),[.var cs]):=by
 obtain ⟨hL,hN,-,-,h10,-⟩:=hQ
 obtain ⟨cs,hc,hE⟩:=ZLM Q hL hN l (by omega) ho
 unfold Zj at hE
 have z1:((l.length:Nat):Int) > 0:=by omega
 have z2:(0:Int) < ((l.length:Nat):Int):=by omega
 have b2:=Zax _ hL
 have hC:=ZEE (O:=E) (bf:=BY) (f:=118) (cs:=Q++[.lst false (l.map Zc)]) (by kernel_rfl) (Zx Q hL hN false (l.map Zc)) (q:=.pan (Zz e)) rfl hc hE
 have hO:=fun τ=>ZY (r:=.pan (Zz e)) (σ:=τ) rfl hc
 refine ⟨cs,hc,?_⟩
 unfold Za3 tmS
 rw [ZX]
 clear hE
 generalize Zz e=ce at *
 simp -implicitDefEqProofs only [EQA,Xe,WH,Xc,Xb,Xg,reduceCtorEq,↓reduceIte,Zdw,ZcM,b2,hC,z1]
 exact hO _
theorem ZOW {P:List AVal} (hP:QOk 8 P) {l:Zb} (hl:l.length<=1099511627775) {n:Int} {ps:List Zv} {ts:List Zbr} (h:ZbF Zbu 8 l=.ok (n,ps,ts)) :
  E 117 [.ref 0 0,.fn 1000118 [.ref 0 0]] [.var (P++[.lst false (l.map Zc)])]=some (.tup [],H1 (ZbW P n ps) ts.length [] (ts.map Z1)):=by
 unfold ZbF at h
 split at h
 ·cases h
 rename_i n' ps' r hm
 obtain ⟨l1,l2⟩:=Zid hm
 split at h
 ·cases h
 rename_i us hu
 injection h with h;injection h with e1 h;injection h with e2 e3;subst e1 e2 e3
 rw [ZuL 8 1000118 P hP l (by omega) hm]
 have hQ:=ZdI hP n' ps'
 generalize ZbW P n' ps'=Q at *
 obtain ⟨j,hj⟩:∃ j,r.length=j+1:=⟨r.length - 1,by omega⟩
 cases ho:Zbu r with
 | error e =>
  rw [hj] at hu
  simp only [ZaU,hj,Xab,Xan,and_false,if_false,ho] at hu
  cases hu
 | ok sr =>
  obtain ⟨s,r'⟩:=sr
  have hr:=ZiK ho
  rw [ZkZ hj ho ZiK] at hu
  cases hl2:ZaU Zbu j r' with
  | error e=>rw [hl2] at hu;cases hu
  | ok vs =>
   rw [hl2] at hu
   injection hu with hu;subst hu
   show Za3 1 tmS _=_
   rw [Ztt hQ (by omega) l2 ho]
   exact (ZsC Q hQ.len hQ.nor j r' [s] (by omega) (by simp;omega)).1 vs hl2
theorem ZLl {P:List AVal} (hP:QOk 8 P) {l:Zb} (hl:l.length<=1099511627775) {e:Int} (h:ZbF Zbu 8 l=.error e) :
  (∃ cs,Zd cs=true/\E 117 [.ref 0 0,.fn 1000118 [.ref 0 0]] [.var (P++[.lst false (l.map Zc)])]=some (.pan (Zz e),[.var cs])) \/
  (∃ (Q:List AVal) (xs:List Zbr) (r:Zb),Q.length=26/\Zd Q=true/\E 117 [.ref 0 0,.fn 1000118 [.ref 0 0]] [.var (P++[.lst false (l.map Zc)])]=some (.pan (Zz e),H1 Q xs.length r (xs.map Z1))):=by
 unfold ZbF at h
 split at h
 ·rename_i c hm
  injection h with h;subst h
  exact Xr (ZwZ 8 1000118 P hP l (by omega) hm)
 rename_i n' ps' r hm
 obtain ⟨l1,l2⟩:=Zid hm
 rw [ZuL 8 1000118 P hP l (by omega) hm]
 have hQ:=ZdI hP n' ps'
 generalize ZbW P n' ps'=Q at *
 obtain ⟨j,hj⟩:∃ j,r.length=j+1:=⟨r.length - 1,by omega⟩
 split at h
 case h_2=>cases h
 rename_i c hu
 injection h with h;subst h
 show (∃ cs,Zd cs=true/\Za3 1 tmS _=_)\/(∃ (Q:List AVal) (xs:List Zbr) (r:Zb),Q.length=26/\Zd Q=true/\Za3 1 tmS _=_)
 cases ho:Zbu r with
 | error e =>
  have : e=c:=by
   rw [hj] at hu
   simp only [ZaU,hj,Xab,Xan,and_false,if_false,ho] at hu
   injection hu
  subst this
  exact Xr (ZMq hQ (by omega) l2 ho)
 | ok sr =>
  obtain ⟨s,r'⟩:=sr
  have hr:=ZiK ho
  rw [ZkZ hj ho ZiK] at hu
  cases hl2:ZaU Zbu j r' with
  | ok vs=>rw [hl2] at hu;cases hu
  | error e2 =>
   rw [hl2] at hu
   injection hu with hu;subst hu
   rw [Ztt hQ (by omega) l2 ho]
   obtain ⟨xs',r2,hx⟩:=(ZsC Q hQ.len hQ.nor j r' [s] (by omega) (by simp;omega)).2 e2 hl2
   exact Xy ⟨Q,xs',r2,hQ.len,hQ.nor,hx⟩
end
end
section
section
variable {O:ZN} {bf:Nat->Bool} {fm f w:Nat} {cs cs2 cs3 ys:List AVal} {x:AVal} {σ:Za}
theorem Zqh (h0:σ[0]?=some (.var cs)) (h1:σ[1]?=some (.var [.ref 0 0])) (h2:σ[2]?=some (.var [.ref 0 0])) (hc:Zp cs=[]):Zu σ 1000 [0,2,1] []=[0,2,1]:=by
 have d0:σ.getD 0 .free=.var cs:=by simp [Xh,h0]
 have d1:σ.getD 1 .free=.var [.ref 0 0]:=by simp [Xh,h1]
 have d2:σ.getD 2 .free=.var [.ref 0 0]:=by simp [Xh,h2]
 rw [show (1000:Nat)=994+1+1+1+1+1+1 from rfl]
 simp only [Zu,d0,d1,d2,ZG,Zp,Z3,hc,WA,WX,Xp,XD,XY,XaJ,Xi,if_false]
 simp
theorem Zql (h0:σ[0]?=some (.var cs)) (hc:Zp cs=[]):Zu σ 1000 [0,0] []=[0]:=by
 have d0:σ.getD 0 .free=.var cs:=by simp [Xh,h0]
 rw [show (1000:Nat)=996+1+1+1+1 from rfl]
 simp only [Zu,d0,ZG,hc,WA,WX,Xp,XD,XY,XaJ,Xi,if_false]
 simp
def hB (cs:List AVal) (b:ZK):Za:=[.var cs,.var [.ref 0 0],.var [.ref 0 0],b]
theorem Zp0 (hb:bf fm=false) (hc:Zd cs=true) (hrf:Zp cs2=[3]) (hren:∀ ρ:Rho,ρ 3 0=some (3,0)->Zg ρ cs2=cs2)
  (hO:O fm [.ref 0 0,.fn f [.ref 1 0,.ref 2 0]] [.var cs,.var [.ref 0 0],.var [.ref 0 0]]=some (.tup [],[.var cs2,.var [.ref 0 0],.var [.ref 0 0],.row 0 w ys])) :
  Zi O bf (hB cs .free) 3 fm 1 true [.ref 0 0,.fn f [.ref 2 0,.ref 1 0]]=some (.tup [],hB cs2 (.row 0 w ys),{ any:=true,upd:=[(0,cs2),(2,[.ref 0 0]),(1,[.ref 0 0])] }):=by
 have hv:Z5 true 3 (some (.tup [],[.var cs2,.var [.ref 0 0],.var [.ref 0 0],.row 0 w ys]))=some (.tup [],[.var cs2,.var [.ref 0 0],.var [.ref 0 0],.row 0 w ys]):=ZjK (r:=.tup []) rfl hrf hren []
 have ec:=fun ρ=>ZaX ρ cs hc
 unfold hB
 refine Zc6 (ids:=[0,2,1]) (vs:=[.ref 0 0,.fn f [.ref 2 0,.ref 1 0]]) hb rfl (Zqh rfl rfl rfl (ec (fun _ _=>none)).2) rfl rfl rfl ?_ hO hv (by simp) (by simp) rfl rfl rfl ?_ rfl
 ·show [ZK.var (Zg _ cs),.var (Zg _ [.ref 0 0]),.var (Zg _ [.ref 0 0])]=_
  rw [(ec _).1];rfl
 ·have hb3:=hren (ZaA [.var cs,.var [.ref 0 0],.var [.ref 0 0],.free] [0,2,1] 3) rfl
  show [ZK.var (Zg _ cs2),.var (Zg _ [.ref 0 0]),.var (Zg _ [.ref 0 0]),.row 0 w ys]=_
  rw [hb3];rfl
theorem Zqg (hb:bf fm=false) (hc:Zd cs=true) (hc2:Zd cs2=true) (hx:ZM x=true)
  (hO:O fm [.ref 0 0,.fn f [.ref 1 0,.ref 2 0]] [.var cs,.var [.ref 0 0],.var [.ref 0 0]]=some (.pan x,[.var cs2,.var [.ref 0 0],.var [.ref 0 0]])) :
  Zi O bf (hB cs .free) 3 fm 1 true [.ref 0 0,.fn f [.ref 2 0,.ref 1 0]]=some (.pan x,hB cs2 .free,{ any:=true,upd:=[(0,cs2),(2,[.ref 0 0]),(1,[.ref 0 0])] }):=by
 have ec:=fun ρ=>ZaX ρ cs hc
 have hnp:ZM (.pan x)=true:=by simpa only [ZM] using hx
 unfold hB
 refine Zc6 (ids:=[0,2,1]) (vs:=[.ref 0 0,.fn f [.ref 2 0,.ref 1 0]]) hb rfl (Zqh rfl rfl rfl (ec (fun _ _=>none)).2) rfl rfl rfl ?_ hO rfl (by simp) (by simp) rfl rfl (Za7 _ _ hnp).1 ?_ rfl
 ·show [ZK.var (Zg _ cs),.var (Zg _ [.ref 0 0]),.var (Zg _ [.ref 0 0])]=_
  rw [(ec _).1];rfl
 ·show [ZK.var (Zg _ cs2),.var (Zg _ [.ref 0 0]),.var (Zg _ [.ref 0 0]),.free]=_
  rw [(ZaX _ cs2 hc2).1];rfl
theorem Znh (hb:bf fm=false) (hc:Zd cs=true) (hren:∀ ρ:Rho,ρ 3 0=some (3,0)->Zg ρ cs2=cs2) (hx:ZM x=true)
  (hO:O fm [.ref 0 0,.fn f [.ref 1 0,.ref 2 0]] [.var cs,.var [.ref 0 0],.var [.ref 0 0]]=some (.pan x,[.var cs2,.var [.ref 0 0],.var [.ref 0 0],.row 0 w ys])) :
  Zi O bf (hB cs .free) 3 fm 1 true [.ref 0 0,.fn f [.ref 2 0,.ref 1 0]]=some (.pan x,hB cs2 (.row 0 w ys),{ any:=true,upd:=[(0,cs2),(2,[.ref 0 0]),(1,[.ref 0 0])] }):=by
 have ec:=fun ρ=>ZaX ρ cs hc
 have hnp:ZM (.pan x)=true:=by simpa only [ZM] using hx
 unfold hB
 refine Zc6 (ids:=[0,2,1]) (vs:=[.ref 0 0,.fn f [.ref 2 0,.ref 1 0]]) hb rfl (Zqh rfl rfl rfl (ec (fun _ _=>none)).2) rfl rfl rfl ?_ hO rfl (by simp) (by simp) rfl rfl (Za7 _ _ hnp).1 ?_ rfl
 ·show [ZK.var (Zg _ cs),.var (Zg _ [.ref 0 0]),.var (Zg _ [.ref 0 0])]=_
  rw [(ec _).1];rfl
 ·have hb3:=hren (ZaA [.var cs,.var [.ref 0 0],.var [.ref 0 0],.free] [0,2,1] 3) rfl
  show [ZK.var (Zg _ cs2),.var (Zg _ [.ref 0 0]),.var (Zg _ [.ref 0 0]),.row 0 w ys]=_
  rw [hb3];rfl
theorem ZwJ (hb:bf fm=false) (hc:Zd cs=true) (hrf:Zp cs2=[1]) (hren:∀ ρ:Rho,ρ 1 0=some (1,0)->Zg ρ cs2=cs2) (hback:∀ ρ:Rho,ρ 1 0=some (3,0)->Zg ρ cs2=cs3)
  (hO:O fm [.ref 0 0,.fn f [.ref 0 0]] [.var cs]=some (.tup [],[.var cs2,.row 0 w ys])) :
  Zi O bf (hB cs .free) 3 fm 1 true [.ref 0 0,.fn f [.ref 0 0]]=some (.tup [],hB cs3 (.row 0 w ys),{ any:=true,upd:=[(0,cs3)] }):=by
 have hv:Z5 true 1 (some (.tup [],[.var cs2,.row 0 w ys]))=some (.tup [],[.var cs2,.row 0 w ys]):=Zc0 (j:=1) (σ:=[.var cs2,.row 0 w ys]) (r:=.tup []) rfl (by omega) rfl rfl hrf hren
 have ec:=fun ρ=>ZaX ρ cs hc
 unfold hB
 refine Zc6 (ids:=[0]) (vs:=[.ref 0 0,.fn f [.ref 0 0]]) hb rfl (Zql rfl (ec (fun _ _=>none)).2) rfl rfl rfl ?_ hO hv (by simp) (by simp) rfl rfl rfl ?_ rfl
 ·show [ZK.var (Zg _ cs)]=_
  rw [(ec _).1]
 ·have hb3:=hback (ZaA [.var cs,.var [.ref 0 0],.var [.ref 0 0],.free] [0] 3) rfl
  show [ZK.var (Zg _ cs2),.var [.ref 0 0],.var [.ref 0 0],.row 0 w ys]=_
  rw [hb3]
theorem ZFx (hb:bf fm=false) (hc:Zd cs=true) (hc2:Zd cs2=true) (hx:ZM x=true)
  (hO:O fm [.ref 0 0,.fn f [.ref 0 0]] [.var cs]=some (.pan x,[.var cs2])) :
  Zi O bf (hB cs .free) 3 fm 1 true [.ref 0 0,.fn f [.ref 0 0]]=some (.pan x,hB cs2 .free,{ any:=true,upd:=[(0,cs2)] }):=by
 have ec:=fun ρ=>ZaX ρ cs hc
 have hnp:ZM (.pan x)=true:=by simpa only [ZM] using hx
 unfold hB
 refine Zc6 (ids:=[0]) (vs:=[.ref 0 0,.fn f [.ref 0 0]]) hb rfl (Zql rfl (ec (fun _ _=>none)).2) rfl rfl rfl ?_ hO rfl (by simp) (by simp) rfl rfl (Za7 _ _ hnp).1 ?_ rfl
 ·show [ZK.var (Zg _ cs)]=_
  rw [(ec _).1]
 ·show [ZK.var (Zg _ cs2),.var [.ref 0 0],.var [.ref 0 0],.free]=_
  rw [(ZaX _ cs2 hc2).1]
theorem ZMn (hb:bf fm=false) (hc:Zd cs=true) (hback:∀ ρ:Rho,ρ 1 0=some (3,0)->Zg ρ cs2=cs3) (hx:ZM x=true)
  (hO:O fm [.ref 0 0,.fn f [.ref 0 0]] [.var cs]=some (.pan x,[.var cs2,.row 0 w ys])) :
  Zi O bf (hB cs .free) 3 fm 1 true [.ref 0 0,.fn f [.ref 0 0]]=some (.pan x,hB cs3 (.row 0 w ys),{ any:=true,upd:=[(0,cs3)] }):=by
 have ec:=fun ρ=>ZaX ρ cs hc
 have hnp:ZM (.pan x)=true:=by simpa only [ZM] using hx
 unfold hB
 refine Zc6 (ids:=[0]) (vs:=[.ref 0 0,.fn f [.ref 0 0]]) hb rfl (Zql rfl (ec (fun _ _=>none)).2) rfl rfl rfl ?_ hO rfl (by simp) (by simp) rfl rfl (Za7 _ _ hnp).1 ?_ rfl
 ·show [ZK.var (Zg _ cs)]=_
  rw [(ec _).1]
 ·have hb3:=hback (ZaA [.var cs,.var [.ref 0 0],.var [.ref 0 0],.free] [0] 3) rfl
  show [ZK.var (Zg _ cs2),.var [.ref 0 0],.var [.ref 0 0],.row 0 w ys]=_
  rw [hb3]
end
def Zcb (Q:List AVal) (kk n:Nat) (l:Zb) (w:Nat) (ys:List AVal):Za:=[.var (Zl Q kk 1 0 n++[.lst false (l.map Zc)]),.row 0 w ys]
def Zis (kk w:Nat) (l:Zb) (P:List AVal) (e:Int):Prop :=
 (∃ cs,Zd cs=true/\E 88 [.ref 0 0] (Zj P l)=some (.pan (Zz e),[.var cs])) \/
 (∃ (Q:List AVal) (n:Nat) (r:Zb) (ys:List AVal),Q.length=26/\Zd Q=true/\E 88 [.ref 0 0] (Zj P l)=some (.pan (Zz e),Zcb Q kk n r w ys))
theorem ZB5 (xs:List Zb):kOk 1 (xs.map AVal.str)=true:=by cases xs <;> rfl
theorem ZH2 (xs:List Int):kOk 1 (xs.map (AVal.int .i64))=true:=by cases xs <;> rfl
theorem fT0 {k:Int} (Q:List AVal) (h:QOk k Q) (l s r:Zb) (hl:l.length<=1099511627776) (ho:Zav l=.ok (s,r)):E 119 [.ref 0 0,.ref 2 0] [.var [.ref 1 0],.var (Q++[.lst false (l.map Zc)]),.var [.ref 1 0]]=some (.tup [],[.var [.ref 1 0],.var (Zl Q 11 3 0 1++[.lst false (r.map Zc)]),.var [.ref 1 0],.row 0 1 [AVal.str s]]) :=
 ZEe Q h.len h.nor l (by omega) h.c11 ho
theorem fF0 {k:Int} (Q:List AVal) (h:QOk k Q) (l:Zb) (e:Int) (hl:l.length<=1099511627776) (ho:Zav l=.error e):∃ r:Zb,E 119 [.ref 0 0,.ref 2 0] [.var [.ref 1 0],.var (Q++[.lst false (l.map Zc)]),.var [.ref 1 0]]=some (.pan (Zz e),[.var [.ref 1 0],.var (Q++[.lst false (r.map Zc)]),.var [.ref 1 0]]) :=
 ⟨l,ZJh Q h.len h.nor l (by omega) ho h.c11⟩
theorem fT1 {k:Int} (Q:List AVal) (h:QOk k Q) (xs:List Zb) (l s r:Zb) (hl:l.length<=1099511627776) (hx:xs.length<=1099511627776) (ho:Zav l=.ok (s,r)):E 119 [.ref 0 0,.ref 3 0] [.var [.ref 1 0],.var (Zl Q 11 2 0 xs.length++[.lst false (l.map Zc)]),.row 0 1 (xs.map AVal.str),.var [.ref 1 0]]=some (.tup [],[.var [.ref 1 0],.var (Zl Q 11 2 1 (xs.length+1)++[.lst false (r.map Zc)]),.row 1 1 ((xs++[s]).map AVal.str),.var [.ref 1 0]]):=by
 have:=ZOY Q h.len h.nor l (by omega) (xs.map AVal.str) (by simp;omega) (ZB5 xs) ho
 rw [XT] at this
 rw [Wq]
 exact this
theorem fF1 {k:Int} (Q:List AVal) (h:QOk k Q) (xs:List Zb) (l:Zb) (e:Int) (hl:l.length<=1099511627776) (ho:Zav l=.error e):∃ r:Zb,E 119 [.ref 0 0,.ref 3 0] [.var [.ref 1 0],.var (Zl Q 11 2 0 xs.length++[.lst false (l.map Zc)]),.row 0 1 (xs.map AVal.str),.var [.ref 1 0]]=some (.pan (Zz e),[.var [.ref 1 0],.var (Zl Q 11 2 0 xs.length++[.lst false (r.map Zc)]),.row 0 1 (xs.map AVal.str),.var [.ref 1 0]]):=by
 have:=ZLR Q h.len h.nor l (by omega) (xs.map AVal.str) ho
 rw [XT] at this
 exact ⟨l,this⟩
theorem cT0 {k:Int} (Q:List AVal) (h:QOk k Q) (l:Zb) (s:Int) (r:Zb) (hl:l.length<=1099511627776) (ho:ZaL k l=.ok (s,r)):E 121 [.ref 0 0,.ref 2 0] [.var [.ref 1 0],.var (Q++[.lst false (l.map Zc)]),.var [.ref 1 0]]=some (.tup [],[.var [.ref 1 0],.var (Zl Q 8 3 0 1++[.lst false (r.map Zc)]),.var [.ref 1 0],.row 0 1 [AVal.int .i64 s]]) :=
 ZJy Q h.len h.nor l (by omega) h.c8 k h.ty ho
theorem cF0 {k:Int} (Q:List AVal) (h:QOk k Q) (l:Zb) (e:Int) (hl:l.length<=1099511627776) (ho:ZaL k l=.error e):∃ r:Zb,E 121 [.ref 0 0,.ref 2 0] [.var [.ref 1 0],.var (Q++[.lst false (l.map Zc)]),.var [.ref 1 0]]=some (.pan (Zz e),[.var [.ref 1 0],.var (Q++[.lst false (r.map Zc)]),.var [.ref 1 0]]) :=
 ZD1 Q h.len h.nor l (by omega) h.c8 k h.ty ho
theorem cT1 {k:Int} (Q:List AVal) (h:QOk k Q) (xs:List Int) (l:Zb) (s:Int) (r:Zb) (hl:l.length<=1099511627776) (hx:xs.length<=1099511627776) (ho:ZaL k l=.ok (s,r)):E 121 [.ref 0 0,.ref 3 0] [.var [.ref 1 0],.var (Zl Q 8 2 0 xs.length++[.lst false (l.map Zc)]),.row 0 1 (xs.map (AVal.int .i64)),.var [.ref 1 0]]=some (.tup [],[.var [.ref 1 0],.var (Zl Q 8 2 1 (xs.length+1)++[.lst false (r.map Zc)]),.row 1 1 ((xs++[s]).map (AVal.int .i64)),.var [.ref 1 0]]):=by
 have:=ZGy Q h.len h.nor l (by omega) (xs.map (AVal.int .i64)) (by simp;omega) (ZH2 xs) k h.ty ho
 rw [XT] at this
 rw [Wq]
 exact this
theorem cF1 {k:Int} (Q:List AVal) (h:QOk k Q) (xs:List Int) (l:Zb) (e:Int) (hl:l.length<=1099511627776) (ho:ZaL k l=.error e):∃ r:Zb,E 121 [.ref 0 0,.ref 3 0] [.var [.ref 1 0],.var (Zl Q 8 2 0 xs.length++[.lst false (l.map Zc)]),.row 0 1 (xs.map (AVal.int .i64)),.var [.ref 1 0]]=some (.pan (Zz e),[.var [.ref 1 0],.var (Zl Q 8 2 0 xs.length++[.lst false (r.map Zc)]),.row 0 1 (xs.map (AVal.int .i64)),.var [.ref 1 0]]):=by
 have:=ZO9 Q h.len h.nor l (by omega) (xs.map (AVal.int .i64)) k h.ty ho
 rw [XT] at this
 exact this
section
variable (P:List AVal) (l:Zb) (hl:l.length<=1099511627775)
include hl
theorem ZAp (hP:QOk 10 P) {n:Int} {ps:List Zv} {ts:List Zb} (h:ZbF Zav 10 l=.ok (n,ps,ts)) :
  E 88 [.ref 0 0] (Zj P l)=some (.tup [],Zcb (ZbW P n ps) 11 ts.length [] 1 (ts.map AVal.str)):=by
 have hk:(11:Nat) < 26:=by omega
 have hE:=Zpd (g:=AVal.str) (kk:=11) (f:=119) (by omega) (by decide) (by kernel_rfl) Znt fT0 fF0 fT1 fF1 hP hl h
 have hQ:=ZdI hP n ps
 obtain ⟨hL,hN,h0,-,-,-⟩:=hP
 unfold H3 at hE
 generalize ZbW P n ps=Q at *
 have hC:=Zp0 (O:=E) (bf:=BY) (fm:=117) (by kernel_rfl) (Zx P hL hN false (l.map Zc)) (Zbt Q hQ.len hQ.nor hk 3 0 ts.length []) (fun ρ h=>ZaT Q hQ.len hQ.nor hk 3 0 ts.length 3 0 [] ρ h) hE
 have a4:=fun L=>(Zac P hL 0 (by omega) L).trans h0
 have hR:=ZbY Q hQ.len hQ.nor 11 hk ts.length 3 0
 have b2:=Zax _ hR
 have m1:=Zbb
 have z:=z0b
 have hO:=fun τ=>Zc0 (j:=3) (w:=1) (xs:=ts.map AVal.str) (r:=.tup []) (σ:=.var (Zl Q 11 3 0 ts.length++[.lst false []])::.var [.ref 0 0]::.var [.ref 0 0]::.row 0 1 (ts.map AVal.str)::τ) rfl (by omega) rfl rfl (Zbt Q hQ.len hQ.nor hk 3 0 ts.length []) (fun ρ h=>ZaT Q hQ.len hQ.nor hk 3 0 ts.length 1 0 [] ρ h)
 unfold hB at hC
 simp only [XM] at hC
 unfold Zj Zcb
 clear hE h
 generalize Zl Q 11 3 0 ts.length=R at *
 generalize Zl Q 11 1 0 ts.length=R1 at *
 generalize ts.map AVal.str=ys at *
 rw [Zh (by rfl) Zbg]
 simp -implicitDefEqProofs only [EQA,ZI,Zs,Xe,Xc,Xf,Xb,Xg,↓reduceIte,Zd,Zbe,Zba,Zez,a4,b2,hC,m1,Xq,z]
 exact hO _
theorem ZGw (hP:QOk 10 P) {e:Int} (h:ZbF Zav 10 l=.error e):Zis 11 1 l P e:=by
 have hk:(11:Nat) < 26:=by omega
 have hF:=ZpC (g:=AVal.str) (kk:=11) (f:=119) (by omega) (by decide) (by kernel_rfl) Znt fT0 fF0 fT1 fF1 hP hl h
 obtain ⟨hL,hN,h0,-,-,-⟩:=hP
 have a4:=fun L=>(Zac P hL 0 (by omega) L).trans h0
 rcases hF with ⟨cs,hc,hE⟩ | ⟨Q,xs,r,hQ,hQN,hE⟩
 ·have hC:=Zqg (O:=E) (bf:=BY) (fm:=117) (by kernel_rfl) (Zx P hL hN false (l.map Zc)) hc rfl hE
  refine Xr ⟨cs,hc,?_⟩
  unfold hB at hC
  unfold Zj
  clear hE h
  rw [Zh (by rfl) Zbg]
  simp -implicitDefEqProofs only [EQA,ZI,Xe,Xc,Xf,Xb,Xg,↓reduceIte,Zbe,Zba,a4,hC,Xq]
  exact ZY rfl hc
 ·unfold H3 at hE
  have hC:=Znh (O:=E) (bf:=BY) (fm:=117) (by kernel_rfl) (Zx P hL hN false (l.map Zc)) (fun ρ h=>ZaT Q hQ hQN hk 3 0 xs.length 3 0 r ρ h) rfl hE
  have hO:=fun τ=>Zc0 (j:=3) (w:=1) (xs:=xs.map AVal.str) (r:=.pan (Zz e)) (σ:=.var (Zl Q 11 3 0 xs.length++[.lst false (r.map Zc)])::.var [.ref 0 0]::.var [.ref 0 0]::.row 0 1 (xs.map AVal.str)::τ) rfl (by omega) rfl rfl (Zbt Q hQ hQN hk 3 0 xs.length r) (fun ρ h=>ZaT Q hQ hQN hk 3 0 xs.length 1 0 r ρ h)
  refine Xy ⟨Q,xs.length,r,xs.map AVal.str,hQ,hQN,?_⟩
  unfold hB at hC
  unfold Zj Zcb
  clear hE h
  generalize Zl Q 11 3 0 xs.length=R at *
  generalize Zl Q 11 1 0 xs.length=R1 at *
  generalize xs.map AVal.str=ys at *
  generalize Zz e=ce at *
  rw [Zh (by rfl) Zbg]
  simp -implicitDefEqProofs only [EQA,ZI,Xe,Xc,Xf,Xb,Xg,↓reduceIte,Zbe,Zba,a4,hC,Xq]
  exact hO _
theorem ZO2 (hP:QOk 9 P) {n:Int} {ps:List Zv} {ts:List Int} (h:ZbF (ZaL 9) 9 l=.ok (n,ps,ts)) :
  E 88 [.ref 0 0] (Zj P l)=some (.tup [],Zcb (ZbW P n ps) 8 ts.length [] 1 (ts.map (AVal.int .i64))):=by
 have hk:(8:Nat) < 26:=by omega
 have hE:=Zpd (g:=(AVal.int .i64)) (kk:=8) (f:=121) (by omega) (by decide) (by kernel_rfl) Zlq cT0 cF0 cT1 cF1 hP hl h
 have hQ:=ZdI hP n ps
 obtain ⟨hL,hN,h0,-,-,-⟩:=hP
 unfold H3 at hE
 generalize ZbW P n ps=Q at *
 have hC:=Zp0 (O:=E) (bf:=BY) (fm:=117) (by kernel_rfl) (Zx P hL hN false (l.map Zc)) (Zbt Q hQ.len hQ.nor hk 3 0 ts.length []) (fun ρ h=>ZaT Q hQ.len hQ.nor hk 3 0 ts.length 3 0 [] ρ h) hE
 have a4:=fun L=>(Zac P hL 0 (by omega) L).trans h0
 have hR:=ZbY Q hQ.len hQ.nor 8 hk ts.length 3 0
 have b2:=Zax _ hR
 have m1:=Zbb
 have z:=z0b
 have hO:=fun τ=>Zc0 (j:=3) (w:=1) (xs:=ts.map (AVal.int .i64)) (r:=.tup []) (σ:=.var (Zl Q 8 3 0 ts.length++[.lst false []])::.var [.ref 0 0]::.var [.ref 0 0]::.row 0 1 (ts.map (AVal.int .i64))::τ) rfl (by omega) rfl rfl (Zbt Q hQ.len hQ.nor hk 3 0 ts.length []) (fun ρ h=>ZaT Q hQ.len hQ.nor hk 3 0 ts.length 1 0 [] ρ h)
 unfold hB at hC
 simp only [XM] at hC
 unfold Zj Zcb
 clear hE h
 generalize Zl Q 8 3 0 ts.length=R at *
 generalize Zl Q 8 1 0 ts.length=R1 at *
 generalize ts.map (AVal.int .i64)=ys at *
 rw [Zh (by rfl) Zbg]
 simp -implicitDefEqProofs only [EQA,ZI,Zs,Xe,Xc,Xf,Xb,Xg,↓reduceIte,Zd,Zbe,Zba,Zez,a4,b2,hC,m1,Xq,z]
 exact hO _
theorem Zyc (hP:QOk 9 P) {e:Int} (h:ZbF (ZaL 9) 9 l=.error e):Zis 8 1 l P e:=by
 have hk:(8:Nat) < 26:=by omega
 have hF:=ZpC (g:=(AVal.int .i64)) (kk:=8) (f:=121) (by omega) (by decide) (by kernel_rfl) Zlq cT0 cF0 cT1 cF1 hP hl h
 obtain ⟨hL,hN,h0,-,-,-⟩:=hP
 have a4:=fun L=>(Zac P hL 0 (by omega) L).trans h0
 rcases hF with ⟨cs,hc,hE⟩ | ⟨Q,xs,r,hQ,hQN,hE⟩
 ·have hC:=Zqg (O:=E) (bf:=BY) (fm:=117) (by kernel_rfl) (Zx P hL hN false (l.map Zc)) hc rfl hE
  refine Xr ⟨cs,hc,?_⟩
  unfold hB at hC
  unfold Zj
  clear hE h
  rw [Zh (by rfl) Zbg]
  simp -implicitDefEqProofs only [EQA,ZI,Xe,Xc,Xf,Xb,Xg,↓reduceIte,Zbe,Zba,a4,hC,Xq]
  exact ZY rfl hc
 ·unfold H3 at hE
  have hC:=Znh (O:=E) (bf:=BY) (fm:=117) (by kernel_rfl) (Zx P hL hN false (l.map Zc)) (fun ρ h=>ZaT Q hQ hQN hk 3 0 xs.length 3 0 r ρ h) rfl hE
  have hO:=fun τ=>Zc0 (j:=3) (w:=1) (xs:=xs.map (AVal.int .i64)) (r:=.pan (Zz e)) (σ:=.var (Zl Q 8 3 0 xs.length++[.lst false (r.map Zc)])::.var [.ref 0 0]::.var [.ref 0 0]::.row 0 1 (xs.map (AVal.int .i64))::τ) rfl (by omega) rfl rfl (Zbt Q hQ hQN hk 3 0 xs.length r) (fun ρ h=>ZaT Q hQ hQN hk 3 0 xs.length 1 0 r ρ h)
  refine Xy ⟨Q,xs.length,r,xs.map (AVal.int .i64),hQ,hQN,?_⟩
  unfold hB at hC
  unfold Zj Zcb
  clear hE h
  generalize Zl Q 8 3 0 xs.length=R at *
  generalize Zl Q 8 1 0 xs.length=R1 at *
  generalize xs.map (AVal.int .i64)=ys at *
  generalize Zz e=ce at *
  rw [Zh (by rfl) Zbg]
  simp -implicitDefEqProofs only [EQA,ZI,Xe,Xc,Xf,Xb,Xg,↓reduceIte,Zbe,Zba,a4,hC,Xq]
  exact hO _
theorem ZB6 (hP:QOk 11 P) {n:Int} {ps:List Zv} {ts:List Int} (h:ZbF (ZaL 11) 11 l=.ok (n,ps,ts)) :
  E 88 [.ref 0 0] (Zj P l)=some (.tup [],Zcb (ZbW P n ps) 8 ts.length [] 1 (ts.map (AVal.int .i64))):=by
 have hk:(8:Nat) < 26:=by omega
 have hE:=Zpd (g:=(AVal.int .i64)) (kk:=8) (f:=121) (by omega) (by decide) (by kernel_rfl) Zlq cT0 cF0 cT1 cF1 hP hl h
 have hQ:=ZdI hP n ps
 obtain ⟨hL,hN,h0,-,-,-⟩:=hP
 unfold H3 at hE
 generalize ZbW P n ps=Q at *
 have hC:=Zp0 (O:=E) (bf:=BY) (fm:=117) (by kernel_rfl) (Zx P hL hN false (l.map Zc)) (Zbt Q hQ.len hQ.nor hk 3 0 ts.length []) (fun ρ h=>ZaT Q hQ.len hQ.nor hk 3 0 ts.length 3 0 [] ρ h) hE
 have a4:=fun L=>(Zac P hL 0 (by omega) L).trans h0
 have hR:=ZbY Q hQ.len hQ.nor 8 hk ts.length 3 0
 have b2:=Zax _ hR
 have m1:=Zbb
 have z:=z0b
 have hO:=fun τ=>Zc0 (j:=3) (w:=1) (xs:=ts.map (AVal.int .i64)) (r:=.tup []) (σ:=.var (Zl Q 8 3 0 ts.length++[.lst false []])::.var [.ref 0 0]::.var [.ref 0 0]::.row 0 1 (ts.map (AVal.int .i64))::τ) rfl (by omega) rfl rfl (Zbt Q hQ.len hQ.nor hk 3 0 ts.length []) (fun ρ h=>ZaT Q hQ.len hQ.nor hk 3 0 ts.length 1 0 [] ρ h)
 unfold hB at hC
 simp only [XM] at hC
 unfold Zj Zcb
 clear hE h
 generalize Zl Q 8 3 0 ts.length=R at *
 generalize Zl Q 8 1 0 ts.length=R1 at *
 generalize ts.map (AVal.int .i64)=ys at *
 rw [Zh (by rfl) Zbg]
 simp -implicitDefEqProofs only [EQA,ZI,Zs,Xe,Xc,Xf,Xb,Xg,↓reduceIte,Zd,Zbe,Zba,Zez,a4,b2,hC,m1,Xq,z]
 exact hO _
theorem ZCX (hP:QOk 11 P) {e:Int} (h:ZbF (ZaL 11) 11 l=.error e):Zis 8 1 l P e:=by
 have hk:(8:Nat) < 26:=by omega
 have hF:=ZpC (g:=(AVal.int .i64)) (kk:=8) (f:=121) (by omega) (by decide) (by kernel_rfl) Zlq cT0 cF0 cT1 cF1 hP hl h
 obtain ⟨hL,hN,h0,-,-,-⟩:=hP
 have a4:=fun L=>(Zac P hL 0 (by omega) L).trans h0
 rcases hF with ⟨cs,hc,hE⟩ | ⟨Q,xs,r,hQ,hQN,hE⟩
 ·have hC:=Zqg (O:=E) (bf:=BY) (fm:=117) (by kernel_rfl) (Zx P hL hN false (l.map Zc)) hc rfl hE
  refine Xr ⟨cs,hc,?_⟩
  unfold hB at hC
  unfold Zj
  clear hE h
  rw [Zh (by rfl) Zbg]
  simp -implicitDefEqProofs only [EQA,ZI,Xe,Xc,Xf,Xb,Xg,↓reduceIte,Zbe,Zba,a4,hC,Xq]
  exact ZY rfl hc
 ·unfold H3 at hE
  have hC:=Znh (O:=E) (bf:=BY) (fm:=117) (by kernel_rfl) (Zx P hL hN false (l.map Zc)) (fun ρ h=>ZaT Q hQ hQN hk 3 0 xs.length 3 0 r ρ h) rfl hE
  have hO:=fun τ=>Zc0 (j:=3) (w:=1) (xs:=xs.map (AVal.int .i64)) (r:=.pan (Zz e)) (σ:=.var (Zl Q 8 3 0 xs.length++[.lst false (r.map Zc)])::.var [.ref 0 0]::.var [.ref 0 0]::.row 0 1 (xs.map (AVal.int .i64))::τ) rfl (by omega) rfl rfl (Zbt Q hQ hQN hk 3 0 xs.length r) (fun ρ h=>ZaT Q hQ hQN hk 3 0 xs.length 1 0 r ρ h)
  refine Xy ⟨Q,xs.length,r,xs.map (AVal.int .i64),hQ,hQN,?_⟩
  unfold hB at hC
  unfold Zj Zcb
  clear hE h
  generalize Zl Q 8 3 0 xs.length=R at *
  generalize Zl Q 8 1 0 xs.length=R1 at *
  generalize xs.map (AVal.int .i64)=ys at *
  generalize Zz e=ce at *
  rw [Zh (by rfl) Zbg]
  simp -implicitDefEqProofs only [EQA,ZI,Xe,Xc,Xf,Xb,Xg,↓reduceIte,Zbe,Zba,a4,hC,Xq]
  exact hO _
theorem ZHI (hP:QOk 8 P) {n:Int} {ps:List Zv} {ts:List Zbr} (h:ZbF Zbu 8 l=.ok (n,ps,ts)) :
  E 88 [.ref 0 0] (Zj P l)=some (.tup [],Zcb (ZbW P n ps) 10 ts.length [] 6 (ts.map Z1)):=by
 have hk:(10:Nat) < 26:=by omega
 have hE:=ZOW hP hl h
 have hQ:=ZdI hP n ps
 obtain ⟨hL,hN,h0,-,-,-⟩:=hP
 unfold H1 at hE
 generalize ZbW P n ps=Q at *
 have hC:=ZwJ (O:=E) (bf:=BY) (fm:=117) (by kernel_rfl) (Zx P hL hN false (l.map Zc)) (Zbt Q hQ.len hQ.nor hk 1 0 ts.length []) (fun ρ h=>ZaT Q hQ.len hQ.nor hk 1 0 ts.length 1 0 [] ρ h) (fun ρ h=>ZaT Q hQ.len hQ.nor hk 1 0 ts.length 3 0 [] ρ h) hE
 have a4:=fun L=>(Zac P hL 0 (by omega) L).trans h0
 have hR:=ZbY Q hQ.len hQ.nor 10 hk ts.length 3 0
 have b2:=Zax _ hR
 have m1:=Zbb
 have z:=z0b
 have hO:=fun τ=>Zc0 (j:=3) (w:=6) (xs:=ts.map Z1) (r:=.tup []) (σ:=.var (Zl Q 10 3 0 ts.length++[.lst false []])::.var [.ref 0 0]::.var [.ref 0 0]::.row 0 6 (ts.map Z1)::τ) rfl (by omega) rfl rfl (Zbt Q hQ.len hQ.nor hk 3 0 ts.length []) (fun ρ h=>ZaT Q hQ.len hQ.nor hk 3 0 ts.length 1 0 [] ρ h)
 unfold hB at hC
 simp only [XM] at hC
 unfold Zj Zcb
 clear hE h
 generalize Zl Q 10 3 0 ts.length=R at *
 generalize Zl Q 10 1 0 ts.length=R1 at *
 generalize ts.map Z1=ys at *
 rw [Zh (by rfl) Zbg]
 simp -implicitDefEqProofs only [EQA,ZI,Zs,Xe,Xc,Xf,Xb,Xg,↓reduceIte,Zd,Zbe,Zba,Zez,a4,b2,hC,m1,Xq,z]
 exact hO _
theorem Zx6 (hP:QOk 8 P) {e:Int} (h:ZbF Zbu 8 l=.error e):Zis 10 6 l P e:=by
 have hk:(10:Nat) < 26:=by omega
 have hF:=ZLl hP hl h
 obtain ⟨hL,hN,h0,-,-,-⟩:=hP
 have a4:=fun L=>(Zac P hL 0 (by omega) L).trans h0
 rcases hF with ⟨cs,hc,hE⟩ | ⟨Q,xs,r,hQ,hQN,hE⟩
 ·have hC:=ZFx (O:=E) (bf:=BY) (fm:=117) (by kernel_rfl) (Zx P hL hN false (l.map Zc)) hc rfl hE
  refine Xr ⟨cs,hc,?_⟩
  unfold hB at hC
  unfold Zj
  clear hE h
  rw [Zh (by rfl) Zbg]
  simp -implicitDefEqProofs only [EQA,ZI,Xe,Xc,Xf,Xb,Xg,↓reduceIte,Zbe,Zba,a4,hC,Xq]
  exact ZY rfl hc
 ·unfold H1 at hE
  have hC:=ZMn (O:=E) (bf:=BY) (fm:=117) (by kernel_rfl) (Zx P hL hN false (l.map Zc)) (fun ρ h=>ZaT Q hQ hQN hk 1 0 xs.length 3 0 r ρ h) rfl hE
  have hO:=fun τ=>Zc0 (j:=3) (w:=6) (xs:=xs.map Z1) (r:=.pan (Zz e)) (σ:=.var (Zl Q 10 3 0 xs.length++[.lst false (r.map Zc)])::.var [.ref 0 0]::.var [.ref 0 0]::.row 0 6 (xs.map Z1)::τ) rfl (by omega) rfl rfl (Zbt Q hQ hQN hk 3 0 xs.length r) (fun ρ h=>ZaT Q hQ hQN hk 3 0 xs.length 1 0 r ρ h)
  refine Xy ⟨Q,xs.length,r,xs.map Z1,hQ,hQN,?_⟩
  unfold hB at hC
  unfold Zj Zcb
  clear hE h
  generalize Zl Q 10 3 0 xs.length=R at *
  generalize Zl Q 10 1 0 xs.length=R1 at *
  generalize xs.map Z1=ys at *
  generalize Zz e=ce at *
  rw [Zh (by rfl) Zbg]
  simp -implicitDefEqProofs only [EQA,ZI,Xe,Xc,Xf,Xb,Xg,↓reduceIte,Zbe,Zba,a4,hC,Xq]
  exact hO _
end
end
section
section
variable {O:ZN} {bf:Nat->Bool} {σ:Za} {t f sq w:Nat} {rest:List AVal} {cs cs2 cs3 ys:List AVal}
theorem Zz6 (hb:bf f=false) (hp:rest.all Zai=true) (hc:Zd cs=true) (hrf:Zp cs2=[1]) (hren:∀ ρ:Rho,ρ 1 0=some (1,0)->Zg ρ cs2=cs2) (hback:∀ ρ:Rho,ρ 1 0=some (sq,0)->Zg ρ cs2=cs3)
  (h:O f (.ref 0 0::rest.map ZL) [.var cs]=some (.tup [],[.var cs2,.row 0 w ys])) (hs:σ[t]?=some (.var cs)) (hff:ZaY σ sq 1=true):Zi O bf σ sq f 1 true (.ref t 0::rest)=some (.tup [],(σ.set t (.var cs3)).set sq (.row 0 w ys),{ any:=true,upd:=[(t,cs3)] }):=by
 have hfs:σ[sq]?=some .free:=Zgx (i:=0) hff (by omega)
 have hts:t≠sq:=by rintro rfl;rw [hs] at hfs;cases hfs
 have htl:t < σ.length:=(Xl.1 hs).1
 have hd:σ.getD t .free=.var cs:=by simp [Xh,hs]
 have hsh:showAs σ (.ref t 0::rest)=some (.ref t 0::rest.map ZL,[]):=by
  rw [showAs,show showA σ (.ref t 0)=some (.ref t 0,[]) from rfl,Zea hp]
  rfl
 have href:Zp (.ref t 0::rest.map ZL)=[t]:=by
  rw [Zp,Zc2 hp];rfl
 have hρ:Zk σ 0 [t] t 0=some (0,0):=by simp [Zk,ZO,hs,Zo,ZJ]
 have hask:Z5 true [t].length (some (.tup [],[.var cs2,.row 0 w ys]))=some (.tup [],[.var cs2,.row 0 w ys]):=Zc0 (j:=1) (σ:=[.var cs2,.row 0 w ys]) (r:=.tup []) rfl (by omega) rfl rfl hrf hren
 refine Zc6 (ids:=[t]) hb hsh (by rw [href];exact Zfe hs hc) rfl (by simp [hs,okB]) ?_ ?_ h hask (by simp) (by simp) ?_ hff rfl ?_ ?_
 ·rw [Zg,ZcN hp]
  simp only [Zm,hρ]
 ·simp only [Zr,hd,ZB,(ZaX _ cs hc).1]
 ·simp [ZaZ,okB,hs,Zb4,Zo]
 ·have hb3:Zg (ZaA σ [t] sq) cs2=cs3:=hback _ (by simp [ZaA])
  simp only [Za1,ZaH,Xu,Zch,Zo,ZB,hb3]
  simp []
 ·have e1:((σ.set t (.var cs3)).set sq (.row 0 w ys))[t]?=some (.var cs3):=by
   rw [Xm (fun e=>hts e.symm),X5 htl]
  simp only [Za4,e1]
theorem ZxL {x:AVal} {view:Bool} (hb:bf f=false) (hp:rest.all Zai=true) (hc:Zd cs=true) (hback:∀ ρ:Rho,ρ 1 0=some (sq,0)->Zg ρ cs2=cs3) (hx:ZM x=true)
  (h:O f (.ref 0 0::rest.map ZL) [.var cs]=some (.pan x,[.var cs2,.row 0 w ys])) (hs:σ[t]?=some (.var cs)) (hff:ZaY σ sq 1=true):Zi O bf σ sq f 1 view (.ref t 0::rest)=some (.pan x,(σ.set t (.var cs3)).set sq (.row 0 w ys),{ any:=true,upd:=[(t,cs3)] }):=by
 have hfs:σ[sq]?=some .free:=Zgx (i:=0) hff (by omega)
 have hts:t≠sq:=by rintro rfl;rw [hs] at hfs;cases hfs
 have htl:t < σ.length:=(Xl.1 hs).1
 have hd:σ.getD t .free=.var cs:=by simp [Xh,hs]
 have hnp:ZM (.pan x)=true:=by simpa only [ZM] using hx
 have hsh:showAs σ (.ref t 0::rest)=some (.ref t 0::rest.map ZL,[]):=by
  rw [showAs,show showA σ (.ref t 0)=some (.ref t 0,[]) from rfl,Zea hp]
  rfl
 have href:Zp (.ref t 0::rest.map ZL)=[t]:=by
  rw [Zp,Zc2 hp];rfl
 have hρ:Zk σ 0 [t] t 0=some (0,0):=by simp [Zk,ZO,hs,Zo,ZJ]
 have hask:Z5 view [t].length (some (.pan x,[.var cs2,.row 0 w ys]))=some (.pan x,[.var cs2,.row 0 w ys]):=by
  unfold Z5
  split <;> rfl
 refine Zc6 (ids:=[t]) hb hsh (by rw [href];exact Zfe hs hc) rfl (by simp [hs,okB]) ?_ ?_ h hask (by simp) (by simp) ?_ hff (Za7 _ _ hnp).1 ?_ ?_
 ·rw [Zg,ZcN hp]
  simp only [Zm,hρ]
 ·simp only [Zr,hd,ZB,(ZaX _ cs hc).1]
 ·simp [ZaZ,okB,hs,Zb4,Zo]
 ·have hb3:Zg (ZaA σ [t] sq) cs2=cs3:=hback _ (by simp [ZaA])
  simp only [Za1,ZaH,Xu,Zch,Zo,ZB,hb3]
  simp []
 ·have e1:((σ.set t (.var cs3)).set sq (.row 0 w ys))[t]?=some (.var cs3):=by
   rw [Xm (fun e=>hts e.symm),X5 htl]
  simp only [Za4,e1]
end
section
variable (b:Int) (l:Zb) {P1 Q:List AVal} {kk n w:Nat} {ys:List AVal} (h1:P1.length=26) (n1:Zd P1=true) (hQ:Q.length=26) (nQ:Zd Q=true) (hk:kk < 26)
include h1 n1 hQ nQ hk
theorem ZOH (oQ:∀ r g m,(Zl Q kk r g m).all ZS=true)
  (hf:E 87 [.ref 0 0,.int .u8 b] (Zj P0 l)=some (.tup [],Zj P1 l)) (hb:E 88 [.ref 0 0] (Zj P1 l)=some (.tup [],Zcb Q kk n [] w ys)) :
  evC FC PR BY 3 c2R (tput tmR (some 5) .top) (σR b l)=some (.ret,[(3,.ref 2 0),(2,.ref 1 0)],[.var [.int .u8 b,.lst false (l.map Zc)],.var (Zl Q kk 4 0 n),.var [.int .i64 0],.var (Zl Q kk 4 0 n++[.lst false []]),.row 0 w ys]):=by
 have hF:=fun (σ:Za) sq (hs:σ[3]?=some (.var (P0++[.lst false (l.map Zc)])))=>Zc4 (O:=E) (bf:=BY) (f:=87) (rest:=[.int .u8 b]) (by kernel_rfl) rfl (by rfl) (ZaF n1 (by rfl)) rfl rfl hf hs sq
 have hB:=fun (σ:Za) (hs:σ[3]?=some (.var (P1++[.lst false (l.map Zc)]))) (hfr:σ[4]?=some .free)=>Zz6 (O:=E) (bf:=BY) (f:=88) (sq:=4) (rest:=[]) (by kernel_rfl) rfl (ZaF n1 (by rfl)) (Zbt Q hQ nQ hk 1 0 n []) (fun ρ h=>ZaT Q hQ nQ hk 1 0 n 1 0 [] ρ h) (fun ρ h=>ZaT Q hQ nQ hk 1 0 n 4 0 [] ρ h) hb hs (by simp [ZaY,freeAt,hfr])
 have hR:=ZbY Q hQ nQ kk hk n 4 0
 have b1:=Z9 _ hR
 have b2:=ZeF _ hR
 have o2:=oQ 4 0 n
 simp only [XM] at hB
 unfold P0 at hF
 simp only [XY,XD] at hF
 unfold tmR σR P0
 clear hf hb
 generalize Zl Q kk 4 0 n=R at *
 simp -implicitDefEqProofs only [EQA,Za6,Xe,Xc,Xf,Xb,Xg,↓reduceIte,c2R,AVal.cells,Zam,hF,hB,b1,b2,hR,o2]
theorem ZyX {c:Int} (hf:E 87 [.ref 0 0,.int .u8 b] (Zj P0 l)=some (.tup [],Zj P1 l)) {r:Zb} (hb:E 88 [.ref 0 0] (Zj P1 l)=some (.pan (Zz c),Zcb Q kk n r w ys)) :
  evC FC PR BY 3 c2R (tput tmR (some 5) .top) (σR b l)=some (.panic (Zz c),[],[.var [.int .u8 b,.lst false (l.map Zc)],.var P0,.var [.int .i64 0],.var (Zl Q kk 4 0 n++[.lst false (r.map Zc)]),.row 0 w ys]):=by
 have hF:=fun (σ:Za) sq (hs:σ[3]?=some (.var (P0++[.lst false (l.map Zc)])))=>Zc4 (O:=E) (bf:=BY) (f:=87) (rest:=[.int .u8 b]) (by kernel_rfl) rfl (by rfl) (ZaF n1 (by rfl)) rfl rfl hf hs sq
 have hB:=fun (σ:Za) (hs:σ[3]?=some (.var (P1++[.lst false (l.map Zc)]))) (hff:ZaY σ 4 1=true)=>ZxL (O:=E) (bf:=BY) (f:=88) (view:=true) (sq:=4) (rest:=[]) (by kernel_rfl) rfl (ZaF n1 (by rfl)) (fun ρ h=>ZaT Q hQ nQ hk 1 0 n 4 0 r ρ h) rfl hb hs hff
 unfold P0 at hF
 simp only [XY,XD] at hF
 unfold tmR σR P0
 clear hf hb
 generalize Zl Q kk 4 0 n=R at *
 simp -implicitDefEqProofs only [EQA,Za6,Xe,Xc,Xf,Xb,Xg,↓reduceIte,c2R,AVal.cells,Zam,hF,hB,ZaY]
omit h1 n1
theorem Zye (c:Int):Ze3 0 1 2 rsR (.var [.int .u8 b,.lst false (l.map Zc)]::.var (Zl Q kk 4 0 n)::.var [.int .i64 c]::.var (Zl Q kk 4 0 n++[.lst false []])::.row 0 w ys::[])=some (.tup [.agg (Zl Q kk 0 0 n),.int .i64 c],[.row 0 w ys]):=by
 have hR:=ZbY Q hQ nQ kk hk n 4 0
 have hRf:=Zcc Q hQ nQ kk hk n 4 0
 have hre:=fun ρ h=>ZbG Q hQ nQ kk hk n (r:=4) (g:=0) (r':=0) (g':=0) ρ h
 generalize Zl Q kk 4 0 n=R at *
 have h1:resA [(3,.ref 2 0),(2,.ref 1 0)] (.var [.int .u8 b,.lst false (l.map Zc)]::.var R::.var [.int .i64 c]::.var (R++[.lst false []])::.row 0 w ys::[]) rsR=some (.tup [.agg R,.int .i64 c]):=by
  have h2:R.take 26=R:=XN (by omega)
  simp [resA,resAll,resOne,rsR,tget,ldA,partA,hR,h2]
 unfold Ze3
 rw [h1]
 have hr:Zp [AVal.tup [.agg R,.int .i64 c]]=[4]:=by simp [Zp,Z3,hRf]
 have hi:Zy 0 [AVal.tup [.agg R,.int .i64 c]] (.var [.int .u8 b,.lst false (l.map Zc)]::.var R::.var [.int .i64 c]::.var (R++[.lst false []])::.row 0 w ys::[])=[4]:=by
  simp only [Zy,hr,Xau,XZ,Xp]
  rfl
 have hρ:Zk (.var [.int .u8 b,.lst false (l.map Zc)]::.var R::.var [.int .i64 c]::.var (R++[.lst false []])::.row 0 w ys::[]) 0 [4] 4 0=some (0,0):=rfl
 simp only [Z8,gcA,hi,Zg,Zm,hre _ hρ,Zr,Xu,XO,ZJ,Zo,ZB]
 simp
end
theorem ZwA (b:Int) (l:Zb) {P1 Q:List AVal} {kk n w:Nat} {ys:List AVal} (h1:P1.length=26) (n1:Zd P1=true) (hQ:Q.length=26) (nQ:Zd Q=true) (hk:kk < 26) (oQ:∀ r g m,(Zl Q kk r g m).all ZS=true)
  (hf:E 87 [.ref 0 0,.int .u8 b] (Zj P0 l)=some (.tup [],Zj P1 l)) (hb:E 88 [.ref 0 0] (Zj P1 l)=some (.tup [],Zcb Q kk n [] w ys)) :
  Zei [.agg [.int .u8 b,.lst false (l.map Zc)]] []=some (.tup [.agg (Zl Q kk 0 0 n),.int .i64 0],[.row 0 w ys]):=by
 unfold Zei Zhj
 show (match evC FC PR BY 0 c1R (enterA 0 [.agg [.int .u8 b,.lst false (l.map Zc)]] []) [] with | some (.normal,tm1,σ1)=>_ | _=>none)=_
 rw [ZnB]
 show (if (0:Nat)<=(σR b l).length/\1 < (σR b l).length/\2 < (σR b l).length then ZfC FC PR BY 41 c2R c3R rsR 0 (tput tmR (some 5) .top) (σR b l) 1 2 else none)=_
 rw [if_pos (by simp [σR])]
 unfold ZfC
 rw [show (σR b l).length=3 from rfl,ZOH b l h1 n1 hQ nQ hk oQ hf hb]
 exact Zye b l hQ nQ hk 0
theorem ZK8 {b c:Int} {l:Zb} {Q:List AVal} {q:ZA} {w:Nat} {ys:List AVal} (h:E1 66 [.agg [.int .u8 b,.lst false (l.map Zc)]] []=some (.tup [.agg Q,.int .i64 c],[.row 0 w ys])) (hv:∀ σ:Za,σ[0]?=some (.row 0 w ys)->ZaS σ Q=some (ZC q,[0])) :
  Z5 true 0 (E1 66 [.agg [.int .u8 b,.lst false (l.map Zc)]] [])=some (.tup [ZaC q,.int .i64 c],[]):=by
 rw [h]
 show ZbB 0 (some (.tup [.agg Q,.int .i64 c],[.row 0 w ys]))=some (.tup [ZaC q,.int .i64 c],[])
 have h1:viewR [.row 0 w ys] (.tup [.agg Q,.int .i64 c])=some (.tup [ZaC q,.int .i64 c],[0]):=by
  rw [viewR,viewAs,ZW,hv _ rfl]
  rfl
 unfold ZbB
 simp only [h1]
 have e1:=Ztm q
 have e2:=Zpn q
 have hi:Zy 0 [AVal.tup [ZaC q,.int .i64 c]] (Zn [.row 0 w ys] [0])=[]:=by
  have : Zp [AVal.tup [ZaC q,.int .i64 c]]=[]:=by simp [Zp,Z3,ZbH,e1]
  simp only [Zy,this,XD,Xau,XZ]
  rfl
 simp only [gcA,hi,Zg,Zm,Zr]
 rw [ZbH,Zm,e2]
end
section
def Zm0 (q:ZA) (m:Int):ZA:={ q with clean:=Zw m 2 != 0,hasWill:=Zw m 4 != 0,hasPassword:=Zw m 64 != 0,hasUser:=Zw m 128 != 0,will:={ q.will with qos:=Zw (Zd9 m) 3,retain:=Zw m 32 != 0 } }
def headD (q:ZA) (k:Int) (ps:List Zv) (cl:Zb):ZA:={ q with keep:=k,props:=ps,client:=cl }
def ZiI (b:Bool) (q:ZA) (l:Zb):Except Int (ZA×Zb):=if b=true then (match Zdp l with
 | .error c=>.error c
 | .ok (d,r)=>.ok ({ q with password:=d },r)) else .ok (q,l)
def ZgV (b:Bool) (q:ZA) (l:Zb):Except Int (ZA×Zb):=if b=true then (match Zav l with
 | .error c=>.error c
 | .ok (d,r)=>.ok ({ q with user:=d },r)) else .ok (q,l)
def Zhh (b:Bool) (q:ZA) (l:Zb):Except Int (ZA×Zb):=if b=true then (match Zd5 l with
 | .error c=>.error c
 | .ok (ps,tp,d,r)=>.ok ({ q with will:={ q.will with props:=ps,topic:=tp,data:=d } },r)) else .ok (q,l)
def ZjY (m:Int) (q:ZA) (l:Zb):Except Int (ZA×Zb):=match Zhh (Zw m 4 != 0) q l with
 | .error c=>.error c
 | .ok (q,l)=>match ZgV (Zw m 128 != 0) q l with
  | .error c=>.error c
  | .ok (q,l)=>ZiI (Zw m 64 != 0) q l
def ZlH (q:ZA) (m:Int) (l:Zb):Except Int (ZA×Zb):=match ZaM 2 l with
 | .error c=>.error c
 | .ok (k,r4)=>match ZbM 1 r4 with
  | .error c=>.error c
  | .ok (ps,r5)=>match Zav r5 with
   | .error c=>.error c
   | .ok (cl,r6)=>ZjY m (headD (Zm0 q m) k ps cl) r6
def Zgo (q:ZA) (l:Zb):Except Int (ZA×Zb):=match Zav l with
 | .error c=>.error c
 | .ok (s,r1)=>if (s == [77,81,84,84])=true then (match ZaM 1 r1 with
  | .error c=>.error c
  | .ok (v,r2)=>if (v == 5)=true then (match ZaM 1 r2 with
   | .error c=>.error c
   | .ok (m,r3)=>if Zhp m (Zw (Zd9 m) 3) (Zw m 4 != 0) (Zw m 32 != 0)=true then ZlH q m r3 else .error 129)
   else .error 132)
  else .error 132
structure Is (P:List AVal) (q:ZA):Prop where
 view:∀ σ,ZaS σ P=some (ZC q,[])
 ok:P.all ZS=true
theorem ZqD {σ:Za} {v y:AVal} {ts:List Nat} (hv:ZP σ v=some (y,ts)):∀ {P ys:List AVal} {k:Nat},ZaS σ P=some (ys,[])->k < P.length->ZaS σ (P.set k v)=some (ys.set k y,ts)
 | [],_,_,_,h=>by simp at h
 | x::P,ys,k,h,hk=>by
  rw [ZaS] at h
  split at h
  ·rename_i y0 t0 h0
   split at h
   ·rename_i ys0 us0 h1
    injection h with h;injection h with h2 h3
    obtain ⟨rfl,rfl⟩:=List.append_eq_nil_iff.1 h3
    subst h2
    cases k with
    | zero =>
     rw [WP,ZaS,hv]
     simp only [h1,Xp]
     rfl
    | succ k =>
     rw [WQ,ZaS,h0]
     simp only [ZqD hv h1 (by simpa using hk)]
     rfl
   ·cases h
  ·cases h
theorem Zph {v:AVal} (hv:ZS v=true):∀ {P:List AVal} {k:Nat},P.all ZS=true->(P.set k v).all ZS=true
 | [],_,_=>rfl
 | x::P,0,h=>by
  simp only [WP,XP,Xj] at h ⊢
  exact ⟨hv,h.2⟩
 | x::P,k+1,h=>by
  simp only [WQ,XP,Xj] at h ⊢
  exact ⟨h.1,Zph hv h.2⟩
theorem Is.set {P:List AVal} {q q':ZA} (h:Is P q) {k:Nat} {v y:AVal} (hk:k < P.length) (hv:∀ σ,ZP σ v=some (y,[])) (ho:ZS v=true) (hc:(ZC q).set k y=ZC q'):Is (P.set k v) q' :=
 ⟨fun σ=>by rw [ZqD (hv σ) (h.view σ) hk,hc],Zph ho h.ok⟩
section
variable {P:List AVal} {q:ZA} (hP:P.length=26) (h:Is P q)
include hP h
theorem ZFW (m:Int):Is (ZbC P m) (Zm0 q m):=by
 unfold ZbC
 have h1:=h.set (k:=12) (q':={ q with clean:=Zw m 2 != 0 }) (v:=.bool (Zw m 2 != 0)) (by omega) (fun _=>rfl) rfl rfl
 have h2:=h1.set (k:=15) (q':={ q with clean:=Zw m 2 != 0,hasWill:=Zw m 4 != 0 }) (v:=.bool (Zw m 4 != 0)) (by simp [hP]) (fun _=>rfl) rfl rfl
 have h3:=h2.set (k:=23) (q':={ q with clean:=Zw m 2 != 0,hasWill:=Zw m 4 != 0,hasPassword:=Zw m 64 != 0 }) (v:=.bool (Zw m 64 != 0)) (by simp [hP]) (fun _=>rfl) rfl rfl
 have h4:=h3.set (k:=21) (q':={ q with clean:=Zw m 2 != 0,hasWill:=Zw m 4 != 0,hasPassword:=Zw m 64 != 0,hasUser:=Zw m 128 != 0 }) (v:=.bool (Zw m 128 != 0)) (by simp [hP]) (fun _=>rfl) rfl rfl
 have h5:=h4.set (k:=18) (q':={ q with clean:=Zw m 2 != 0,hasWill:=Zw m 4 != 0,hasPassword:=Zw m 64 != 0,hasUser:=Zw m 128 != 0,will:={ q.will with qos:=Zw (Zd9 m) 3 } }) (v:=.int .i64 (Zw (Zd9 m) 3)) (by simp [hP]) (fun _=>rfl) rfl rfl
 exact h5.set (k:=19) (v:=.bool (Zw m 32 != 0)) (by simp [hP]) (fun _=>rfl) rfl rfl
theorem ZKI (k:Int) (ps:List Zv) (cl:Zb):Is (Zim P k ps cl) (headD q k ps cl):=by
 unfold Zim
 have h1:=h.set (k:=13) (q':={ q with keep:=k }) (v:=.int .i64 k) (by omega) (fun _=>rfl) rfl rfl
 have h2:=h1.set (k:=9) (q':={ q with keep:=k,props:=ps }) (v:=.lst false (ps.map Zq)) (by simp [hP]) (fun _=>rfl) rfl rfl
 exact h2.set (k:=14) (v:=.str cl) (by simp [hP]) (fun _=>rfl) rfl rfl
theorem ZMt (ps:List Zv) (tp d:Zb):Is (Zh3 P ps tp d) { q with will:={ q.will with props:=ps,topic:=tp,data:=d } }:=by
 unfold Zh3
 have h1:=h.set (k:=20) (q':={ q with will:={ q.will with props:=ps } }) (v:=.lst false (ps.map Zq)) (by omega) (fun _=>rfl) rfl rfl
 have h2:=h1.set (k:=16) (q':={ q with will:={ q.will with props:=ps,topic:=tp } }) (v:=.str tp) (by simp [hP]) (fun _=>rfl) rfl rfl
 exact h2.set (k:=17) (v:=.lst false (d.map Zc)) (by simp [hP]) (fun _=>rfl) rfl rfl
end
def Zhk (x:Except Int KSt) (y:Except Int (ZA×Zb)):Prop:=match x with
 | .error e=>y=.error e
 | .ok (P,l)=>∃ q,y=.ok (q,l)/\P.length=26/\Is P q
section
variable {P:List AVal} {q:ZA} (hP:P.length=26) (h:Is P q) (l:Zb)
include hP h
theorem ZPb (b:Bool):Zhk (Zg3 b (P,l)) (ZiI b q l):=by
 unfold Zg3 ZiI
 cases b
 ·exact ⟨q,rfl,hP,h⟩
 ·rw [if_pos rfl,if_pos rfl]
  cases hd:Zdp l with
  | error c=>exact rfl
  | ok a=>exact ⟨_,rfl,by simp [hP],h.set (by omega) (fun _=>rfl) rfl rfl⟩
theorem ZIa (b:Bool):Zhk (ZhM b (P,l)) (ZgV b q l):=by
 unfold ZhM ZgV
 cases b
 ·exact ⟨q,rfl,hP,h⟩
 ·rw [if_pos rfl,if_pos rfl]
  cases hd:Zav l with
  | error c=>exact rfl
  | ok a=>exact ⟨_,rfl,by simp [hP],h.set (by omega) (fun _=>rfl) rfl rfl⟩
theorem Zz5 (b:Bool):Zhk (Zjq b (P,l)) (Zhh b q l):=by
 unfold Zjq Zhh
 cases b
 ·exact ⟨q,rfl,hP,h⟩
 ·rw [if_pos rfl,if_pos rfl]
  cases hd:Zd5 l with
  | error c=>exact rfl
  | ok a =>
   obtain ⟨ps,tp,d,r⟩:=a
   exact ⟨_,rfl,by simp [Zh3,hP],ZMt hP h ps tp d⟩
theorem ZB3 (m:Int):Zhk (Ziy m (P,l)) (ZjY m q l):=by
 unfold Ziy ZjY
 have h1:=Zz5 hP h l (Zw m 4 != 0)
 cases hw:Zjq (Zw m 4 != 0) (P,l) with
 | error e =>
  rw [hw] at h1
  rw [show Zhh (Zw m 4 != 0) q l=.error e from h1]
  exact rfl
 | ok s =>
  obtain ⟨P1,l1⟩:=s
  rw [hw] at h1
  obtain ⟨q1,e1,hP1,i1⟩:=h1
  rw [e1]
  simp only
  have h2:=ZIa hP1 i1 l1 (Zw m 128 != 0)
  cases hu:ZhM (Zw m 128 != 0) (P1,l1) with
  | error e =>
   rw [hu] at h2
   rw [show ZgV (Zw m 128 != 0) q1 l1=.error e from h2]
   exact rfl
  | ok s =>
   obtain ⟨P2,l2⟩:=s
   rw [hu] at h2
   obtain ⟨q2,e2,hP2,i2⟩:=h2
   rw [e2]
   exact ZPb hP2 i2 l2 _
theorem ZOj (m:Int):Zhk (ZiG P m l) (ZlH q m l):=by
 unfold ZiG ZlH
 cases h1:ZaM 2 l with
 | error c=>exact rfl
 | ok a =>
 obtain ⟨k,r4⟩:=a
 simp only
 cases h2:ZbM 1 r4 with
 | error c=>exact rfl
 | ok a =>
 obtain ⟨ps,r5⟩:=a
 simp only
 cases h3:Zav r5 with
 | error c=>exact rfl
 | ok a =>
 obtain ⟨cl,r6⟩:=a
 exact ZB3 (by simp [Zim,ZbC,hP]) (ZKI (by simp [ZbC,hP]) (ZFW hP h m) k ps cl) r6 m
theorem ZLP:Zhk (Zic P l) (Zgo q l):=by
 unfold Zic Zgo
 cases h1:Zav l with
 | error c=>exact rfl
 | ok a =>
 obtain ⟨s,r1⟩:=a
 simp only
 split
 case isFalse=>exact rfl
 cases h2:ZaM 1 r1 with
 | error c=>exact rfl
 | ok a =>
 obtain ⟨v,r2⟩:=a
 simp only
 split
 case isFalse=>exact rfl
 cases h3:ZaM 1 r2 with
 | error c=>exact rfl
 | ok a =>
 obtain ⟨m,r3⟩:=a
 simp only
 split
 case isFalse=>exact rfl
 exact ZOj hP h r3 m
end
def Zc3 (x:Except Int (ZA×Zb)):Except Int ZA:=match x with
 | .error e=>.error e
 | .ok (q,r)=>if r.length=0 then .ok q else .error 129
def Zgq (q:ZA) (l:Zb):Except Int (ZA×Zb):=match ZcW q.type l with
 | .error e=>.error e
 | .ok ((c,ps),r)=>.ok ({ q with code:=c,props:=ps.getD [] },r)
def idQ (q:ZA) (l:Zb):Except Int (ZA×Zb):=match idK l with
 | .error e=>.error e
 | .ok (n,r)=>Zgq { q with id:=n } r
def Zi9 (q:ZA) (l:Zb):Except Int (ZA×Zb):=match ZaM 1 l with
 | .error e=>.error e
 | .ok (f,r)=>if f < 2 then (match ZaL 2 r with
  | .error e=>.error e
  | .ok (c,r2)=>match ZbM 2 r2 with
   | .error e=>.error e
   | .ok (ps,r3)=>.ok ({ q with present:=f == 1,code:=c,props:=ps },r3)) else .error 129
def Zkf (q:ZA) (l:Zb):Except Int ZA:=match ZbF Zbu 8 l with
 | .error e=>.error e
 | .ok (n,ps,ts)=>.ok { q with id:=n,props:=ps,subs:=ts }
def Zlv (q:ZA) (l:Zb):Except Int ZA:=match ZbF Zav 10 l with
 | .error e=>.error e
 | .ok (n,ps,ts)=>.ok { q with id:=n,props:=ps,filters:=ts }
def Zhn (q:ZA) (l:Zb):Except Int ZA:=match ZbF (ZaL q.type) q.type l with
 | .error e=>.error e
 | .ok (n,ps,ts)=>.ok { q with id:=n,props:=ps,codes:=ts }
def ZhQ (t:Int) (l:Zb):Except Int ZA :=
 if t=1 then Zc3 (Zgo { ZaO with type:=1 } l)
 else if t=2 then Zc3 (Zi9 { ZaO with type:=2 } l)
 else if t=4\/t=5\/t=6\/t=7 then Zc3 (idQ { ZaO with type:=t } l)
 else if t=8 then Zkf { ZaO with type:=8 } l
 else if t=10 then Zlv { ZaO with type:=10 } l
 else if t=9\/t=11 then Zhn { ZaO with type:=t } l
 else if t=14\/t=15 then Zc3 (Zgq { ZaO with type:=t } l)
 else Zc3 (.ok ({ ZaO with type:=t },l))
def Zdx (b:Int) (l:Zb):ZA×Int :=
 if tyI b=0 then (ZaO,129) else if tyI b=3 then Zi3 b l
 else if Zbq b 15=ZeJ (tyI b) then (match ZhQ (tyI b) l with
  | .error e=>(ZaO,e)
  | .ok q=>(q,0)) else (ZaO,129)
def Zdr (t : Int) (l : Zb) (x : Except Int ZA) : Prop := match x with
  | .ok q => (∃ Q L, Q.length = 26 /\ Zd Q = true /\ ZM L = true /\ Is Q q /\ E 88 [.ref 0 0] (Zj (P0.set 0 (.int .i64 t)) l) = some (.tup [], [.var (Q ++ [L])])) \/
      (∃ Q q0 kk w ys, Q.length = 26 /\ Zd Q = true /\ kk < 26 /\ Is Q q0 /\ (ZC q0).set kk (.lst false ys) = ZC q /\ E 88 [.ref 0 0] (Zj (P0.set 0 (.int .i64 t)) l) = some (.tup [], Zcb Q kk ys.length [] w ys))
  | .error e => (∃ cs, Zd cs = true /\ E 88 [.ref 0 0] (Zj (P0.set 0 (.int .i64 t)) l) = some (.pan (Zz e), [.var cs])) \/
      (∃ Q kk n r w ys, Q.length = 26 /\ Zd Q = true /\ kk < 26 /\ E 88 [.ref 0 0] (Zj (P0.set 0 (.int .i64 t)) l) = some (.pan (Zz e), Zcb Q kk n r w ys))
theorem Zjr {t:Int} {l:Zb} {q:ZA} {Q:List AVal} {r:Zb} (hQ:Q.length=26) (hN:Zd Q=true) (hi:Is Q q) (h:E 88 [.ref 0 0] (Zj (P0.set 0 (.int .i64 t)) l)=some (if r.length=0 then .tup [] else .pan (Zz 129),Zj Q r)):Zdr t l (Zc3 (.ok (q,r))):=by
 unfold Zc3
 simp only
 split at h
 ·rename_i h0
  rw [if_pos h0]
  exact Xr ⟨Q,_,hQ,hN,rfl,hi,h⟩
 ·rename_i h0
  rw [if_neg h0]
  exact Xr ⟨_,Zx Q hQ hN _ _,h⟩
theorem Zj6 {t:Int} {l:Zb} {kk w:Nat} {e:Int} (hk:kk < 26) (h:Zis kk w l (P0.set 0 (.int .i64 t)) e):Zdr t l (.error e):=by
 rcases h with ⟨cs,h1,h2⟩ | ⟨Q,n,r,ys,h1,h2,h3⟩
 ·exact Xr ⟨cs,h1,h2⟩
 ·exact Xy ⟨Q,kk,n,r,w,ys,h1,h2,hk,h3⟩
section
variable (l:Zb) (hl:l.length<=1099511627775)
include hl
theorem hlP:l.length<=140737488355328:=by omega
theorem ZzR:Zdr 1 l (Zc3 (Zgo { ZaO with type:=1 } l)):=by
 have hs:=ZLP (P:=P0.set 0 (.int .i64 1)) (q:={ ZaO with type:=1 }) rfl ⟨fun σ=>rfl,rfl⟩ l
 have hr:=ZHa (P0.set 0 (.int .i64 1)) rfl (by rfl) l (hlP l hl) (fun r _=>ZdG 1 r) (fun r _=>ZdG 16 r)
 cases hc:Zic (P0.set 0 (.int .i64 1)) l with
 | error e =>
  rw [hc] at hs hr
  rw [show Zgo { ZaO with type:=1 } l=.error e from hs]
  obtain ⟨cs,hn,he⟩:=KRuns.fnF (f:=110) (fn:=ZpN) (by rfl) Zq7 hr
  exact Xr ⟨cs,hn,ZwG (P0.set 0 (.int .i64 1)) rfl (by rfl) rfl l (hlP l hl) hn he⟩
 | ok s =>
  obtain ⟨Q,r⟩:=s
  rw [hc] at hs hr
  obtain ⟨q,e1,hQ,hi⟩:=hs
  rw [e1]
  have hQN:Zd Q=true:=by obtain ⟨_,_,_,h3,_⟩:=hr;exact h3
  have he:=KRuns.fnT (f:=110) (fn:=ZpN) (by rfl) Zq7 rfl hr
  refine Zjr hQ hQN hi ?_
  by_cases h0:r.length=0
  ·rw [if_pos h0];exact ZKx (P0.set 0 (.int .i64 1)) rfl (by rfl) rfl l (hlP l hl) he hQ hQN h0
  ·rw [if_neg h0];exact ZI5 (P0.set 0 (.int .i64 1)) rfl (by rfl) rfl l (hlP l hl) he hQ hQN h0
theorem ZBP:Zdr 2 l (Zc3 (Zi9 { ZaO with type:=2 } l)):=by
 have hP:(P0.set 0 (.int .i64 2)).length=26:=rfl
 have hN:Zd (P0.set 0 (.int .i64 2))=true:=by rfl
 unfold Zi9
 cases h1:ZaM 1 l with
 | error e=>exact Xr (ZEO _ hP hN rfl l (hlP l hl) h1)
 | ok a =>
 obtain ⟨f,r⟩:=a
 simp only
 split
 case isFalse hf=>exact Xr (ZK4 _ hP hN rfl l (hlP l hl) h1 hf)
 rename_i hf
 cases h2:ZaL 2 r with
 | error e=>exact Xr (ZCS _ hP hN rfl l (hlP l hl) h1 hf h2)
 | ok a =>
 obtain ⟨c,r2⟩:=a
 simp only
 cases h3:ZbM 2 r2 with
 | error e=>exact Xr (ZHq _ hP hN rfl l (hlP l hl) h1 hf h2 h3)
 | ok a =>
 obtain ⟨ps,r3⟩:=a
 exact Zjr (by simp [hP]) (ZQ (Zb0 _ _) _ (ZQ rfl _ (ZQ rfl _ hN))) ⟨fun σ=>rfl,rfl⟩ (ZC7 _ hP hN rfl l (hlP l hl) h1 hf h2 h3 (ZdG 2 r2))
theorem Zv8 {P:List AVal} {q:ZA} (hP:P.length=26) (h:Is P q) (c:Int) (ps:Option (List Zv)):Is (Zd1 P c ps) { q with code:=c,props:=ps.getD [] }:=by
 unfold Zd1
 have h1:=h.set (k:=7) (q':={ q with code:=c }) (v:=.int .i64 c) (by omega) (fun _=>rfl) rfl rfl
 cases ps with
 | none=>exact h1.set (k:=9) (v:=.lst true []) (by simp [hP]) (fun _=>rfl) rfl rfl
 | some ps=>exact h1.set (k:=9) (v:=.lst false (ps.map Zq)) (by simp [hP]) (fun _=>rfl) rfl rfl
theorem ZtF (k:Int) (hk:k=14\/k=15):Zdr k l (Zc3 (Zgq { ZaO with type:=k } l)):=by
 have hP:(P0.set 0 (.int .i64 k)).length=26:=rfl
 have hN:Zd (P0.set 0 (.int .i64 k))=true:=by rfl
 unfold Zgq
 simp only
 cases h1:ZcW k l with
 | error e=>exact Xr (Zx5 _ hP hN k hk rfl (fun r _=>ZdG k r) l (hlP l hl) h1)
 | ok a =>
 obtain ⟨⟨c,ps⟩,r⟩:=a
 obtain ⟨i1,i2⟩:=Zlr hP hN c ps
 exact Zjr i1 i2 (Zv8 l hl (q:={ ZaO with type:=k }) hP ⟨fun σ=>rfl,rfl⟩ c ps) (ZCh _ hP hN k hk rfl rfl rfl (fun r _=>ZdG k r) l (hlP l hl) h1)
theorem Zld (k:Int) (hk:k=4\/k=5\/k=6\/k=7):Zdr k l (Zc3 (idQ { ZaO with type:=k } l)):=by
 have hP:(P0.set 0 (.int .i64 k)).length=26:=rfl
 have hN:Zd (P0.set 0 (.int .i64 k))=true:=by rfl
 unfold idQ Zgq
 simp only
 cases h0:idK l with
 | error e=>exact Xr (ZLi _ hP hN k hk rfl l (hlP l hl) h0)
 | ok a =>
 obtain ⟨n,r1⟩:=a
 simp only
 cases h1:ZcW k r1 with
 | error e=>exact Xr (ZLT _ hP hN k hk rfl (fun r _=>ZdG k r) l (hlP l hl) h0 h1)
 | ok a =>
 obtain ⟨⟨c,ps⟩,r⟩:=a
 obtain ⟨i1,i2⟩:=Zlr (P:=(P0.set 0 (.int .i64 k)).set 4 (.int .i64 n)) rfl (by rfl) c ps
 exact Zjr i1 i2 (Zv8 l hl (q:={ ZaO with type:=k,id:=n }) rfl ⟨fun σ=>rfl,rfl⟩ c ps) (ZxZ _ hP hN k hk rfl rfl rfl (fun r _=>ZdG k r) l (hlP l hl) h0 h1)
theorem Zvo (k:Int) (hk:k=12\/k=13):Zdr k l (Zc3 (.ok ({ ZaO with type:=k },l))) :=
 Zjr (Q:=P0.set 0 (.int .i64 k)) rfl (by rfl) ⟨fun σ=>rfl,rfl⟩ (ZFG _ rfl (by rfl) k hk rfl l)
theorem ZdC (k:Int):QOk k (P0.set 0 (.int .i64 k)):=⟨rfl,by rfl,rfl,rfl,rfl,rfl⟩
theorem Zky (k:Int) (n:Int) (ps:List Zv):Is (ZbW (P0.set 0 (.int .i64 k)) n ps) { ZaO with type:=k,id:=n,props:=ps }:=⟨fun σ=>rfl,rfl⟩
theorem ZDS:Zdr 8 l (Zkf { ZaO with type:=8 } l):=by
 unfold Zkf
 cases h:ZbF Zbu 8 l with
 | error e=>exact Zj6 (by omega) (Zx6 _ l hl (ZdC l hl 8) h)
 | ok a =>
 obtain ⟨n,ps,ts⟩:=a
 have hQ:=ZdI (ZdC l hl 8) n ps
 have:=ZHI _ l hl (ZdC l hl 8) h
 rw [<-XT (f:=Z1)] at this
 exact Xy ⟨_,_,10,6,ts.map Z1,hQ.len,hQ.nor,by omega,Zky l hl 8 n ps,rfl,this⟩
theorem ZxD:Zdr 10 l (Zlv { ZaO with type:=10 } l):=by
 unfold Zlv
 cases h:ZbF Zav 10 l with
 | error e=>exact Zj6 (by omega) (ZGw _ l hl (ZdC l hl 10) h)
 | ok a =>
 obtain ⟨n,ps,ts⟩:=a
 have hQ:=ZdI (ZdC l hl 10) n ps
 have:=ZAp _ l hl (ZdC l hl 10) h
 rw [<-XT (f:=AVal.str)] at this
 exact Xy ⟨_,_,11,1,ts.map AVal.str,hQ.len,hQ.nor,by omega,Zky l hl 10 n ps,rfl,this⟩
theorem ZB7:Zdr 9 l (Zhn { ZaO with type:=9 } l):=by
 unfold Zhn
 simp only
 cases h:ZbF (ZaL 9) 9 l with
 | error e=>exact Zj6 (by omega) (Zyc _ l hl (ZdC l hl 9) h)
 | ok a =>
 obtain ⟨n,ps,ts⟩:=a
 have hQ:=ZdI (ZdC l hl 9) n ps
 have:=ZO2 _ l hl (ZdC l hl 9) h
 rw [<-XT (f:=AVal.int .i64)] at this
 exact Xy ⟨_,_,8,1,ts.map (AVal.int .i64),hQ.len,hQ.nor,by omega,Zky l hl 9 n ps,rfl,this⟩
theorem ZAt:Zdr 11 l (Zhn { ZaO with type:=11 } l):=by
 unfold Zhn
 simp only
 cases h:ZbF (ZaL 11) 11 l with
 | error e=>exact Zj6 (by omega) (ZCX _ l hl (ZdC l hl 11) h)
 | ok a =>
 obtain ⟨n,ps,ts⟩:=a
 have hQ:=ZdI (ZdC l hl 11) n ps
 have:=ZB6 _ l hl (ZdC l hl 11) h
 rw [<-XT (f:=AVal.int .i64)] at this
 exact Xy ⟨_,_,8,1,ts.map (AVal.int .i64),hQ.len,hQ.nor,by omega,Zky l hl 11 n ps,rfl,this⟩
theorem ZzC (t:Int) (h1:1<=t/\t<=15) (h3:t≠3):Zdr t l (ZhQ t l):=by
 have : t=1\/t=2\/t=4\/t=5\/t=6\/t=7\/t=8\/t=9\/t=10\/t=11\/t=12\/t=13\/t=14\/t=15:=by omega
 unfold ZhQ
 rcases this with rfl | rfl | rfl | rfl | rfl | rfl | rfl | rfl | rfl | rfl | rfl | rfl | rfl | rfl
 ·exact ZzR l hl
 ·exact ZBP l hl
 ·exact Zld l hl 4 (by decide)
 ·exact Zld l hl 5 (by decide)
 ·exact Zld l hl 6 (by decide)
 ·exact Zld l hl 7 (by decide)
 ·exact ZDS l hl
 ·exact ZB7 l hl
 ·exact ZxD l hl
 ·exact ZAt l hl
 ·exact Zvo l hl 12 (by decide)
 ·exact Zvo l hl 13 (by decide)
 ·exact ZtF l hl 14 (by decide)
 ·exact ZtF l hl 15 (by decide)
end
theorem ZMo (b:Int) (hb:0<=b/\b < 256):0<=tyI b/\tyI b<=15:=by
 have h:∀ n:Nat,n < 256->0<=tyI (n:Int)/\tyI (n:Int)<=15:=by decide +kernel
 have:=h b.toNat (by omega)
 rwa [Int.toNat_of_nonneg hb.1] at this
theorem Zq5 {b c:Int} {l:Zb} {Q:List AVal} {q:ZA} (h:E1 66 [.agg [.int .u8 b,.lst false (l.map Zc)]] []=some (.tup [.agg Q,.int .i64 c],[])) (hv:∀ σ,ZaS σ Q=some (ZC q,[])):Z5 true 0 (E1 66 [.agg [.int .u8 b,.lst false (l.map Zc)]] [])=some (.tup [ZaC q,.int .i64 c],[]):=by
 rw [h];exact ZGF c hv
theorem ZAZ (b:Int) (hb:0<=b/\b < 256) (l:Zb) (hl:l.length<=1099511627775):Z5 true 0 (E1 66 [.agg [.int .u8 b,.lst false (l.map Zc)]] [])=some (.tup [ZaC (Zdx b l).1,.int .i64 (Zdx b l).2],[]):=by
 have hr:=ZMo b hb
 have hF:∀ c,Zei [.agg [.int .u8 b,.lst false (l.map Zc)]] []=some (.tup [.agg P0,.int .i64 c],[])->Z5 true 0 (E1 66 [.agg [.int .u8 b,.lst false (l.map Zc)]] [])=some (.tup [ZaC ZaO,.int .i64 c],[]):=fun c h =>
  Zq5 (by rw [ZgB];exact h) Zkq
 unfold Zdx
 by_cases h0:tyI b=0
 ·rw [if_pos h0]
  exact hF 129 (Zgp b 129 l (Zks b l (Zx _ rfl (by rfl) _ _) (ZDd P0 rfl (by rfl) b l h0)))
 rw [if_neg h0]
 by_cases h3:tyI b=3
 ·rw [if_pos h3]
  obtain ⟨Q,h,hv⟩:=ZKu b h3 l (by omega)
  exact Zq5 h hv
 rw [if_neg h3]
 by_cases hf:Zbq b 15=ZeJ (tyI b)
 case neg =>
  rw [if_neg hf]
  exact hF 129 (Zgp b 129 l (Zks b l (Zx _ rfl (by rfl) _ _) (ZJM P0 rfl (by rfl) b (tyI b) l rfl h0 h3 hf)))
 rw [if_pos hf]
 have hfi:=ZKK P0 rfl (by rfl) b (tyI b) l rfl h0 h3 hf
 have hB:=ZzC l hl (tyI b) (by omega) h3
 generalize tyI b=t at *
 have p1:(P0.set 0 (.int .i64 t)).length=26:=rfl
 have p2:Zd (P0.set 0 (.int .i64 t))=true:=by rfl
 cases hx:ZhQ t l with
 | error e =>
  rw [hx] at hB
  rcases hB with ⟨cs,hn,hb⟩ | ⟨Q,kk,n,r,w,ys,hQ,hN,hk,hb⟩
  ·exact hF e (Zgp b e l (Zsk b l p1 p2 hn hfi hb))
  ·exact hF e (Zgp b e l (ZyX b l p1 p2 hQ hN hk hfi hb))
 | ok q =>
  rw [hx] at hB
  rcases hB with ⟨Q,L,hQ,hN,nL,hi,hb⟩ | ⟨Q,q0,kk,w,ys,hQ,hN,hk,hi,hc,hb⟩
  ·exact Zq5 (by rw [ZgB];exact Zss b l p1 p2 hQ hN hi.ok nL hfi hb) hi.view
  ·refine ZK8 (by rw [ZgB];exact ZwA b l p1 p2 hQ hN hk (fun r g m=>Zph rfl hi.ok) hfi hb) (fun σ hs=>?_)
   have hv:ZP σ (.sl 0 0 0 ys.length)=some (.lst false ys,[0]):=by
    simp [ZP,ZR,hs]
   unfold Zl
   rw [ZqD hv (hi.view σ) (by omega),hc]
theorem ZvC (b:Int) (hb:0<=b/\b < 256) (l:Zb) (hl:l.length<=1099511627775) (f:Bool) (σ:Za) (sq own:Nat) :
  Zi E1 BY σ sq 66 own true [.agg [.int .u8 b,.lst f (l.map Zc)]]=some (.tup [ZaC (Zdx b l).1,.int .i64 (Zdx b l).2],σ,{}):=by
 rw [ZgJ (by kernel_rfl) rfl]
 show Zaw σ σ [] [] sq own (Z5 true 0 (E1 66 [.agg [.int .u8 b,.lst false (l.map Zc)]] []))=_
 rw [ZAZ b hb l hl,ZiV _ _ _ _ (by simp only [Zm,Zg,ZbH,Zpn])]
end
section
theorem Zq6 (a b:List Int) (h:a.length=b.length) (hl:a.length<=9223372036854775807):∀ (r s:List Int) (i:Nat),a.drop i=r->b.drop i=s->ZlK 0 [(13,.int .i64 i),(12,.int .i64 a.length),(1,.lst false (b.map (AVal.int .i64))),(0,.lst false (a.map (AVal.int .i64)))] []=some (.bool (r == s),[])
 | [],s,i,ha,hb=>by
  have hs:s=[]:=by
   subst hb;rw [Wc] at ha ⊢;omega
  subst hs
  have h1:=Zcw ha
  unfold ZlK
  rw [ZX]
  simp -implicitDefEqProofs only [EQA,Xc,Xb,reduceCtorEq,↓reduceIte,Zp4,Zxr,Zpe,Zru,ZjC,h1]
 | x::r,[],i,ha,hb=>by
  have:=(Zab ha).2.2;rw [Wc] at hb;omega
 | x::r,y::s,i,ha,hb=>by
  have ih:=Zq6 a b h hl r s (i+1) (Zab ha).2.1 (Zab hb).2.1
  have h1:(i:Int) < a.length:=by have:=(Zab ha).2.2;omega
  have e1:=iad (Zab ha).1 (AVal.int .i64) (k:=1) rfl
  have e2:=iad (Zab hb).1 (AVal.int .i64) (k:=1) rfl
  have e3:=Zcn h1 hl
  unfold ZlK at ih ⊢
  rw [ZX]
  simp -implicitDefEqProofs only [EQA,ZI,ZT,Xc,Xb,Xg,reduceCtorEq,↓reduceIte,gcT,gcA,Zy,Zu,Zr,ZG,Zp4,Zru,ZjC,h1,e1,e2,e3]
  rw [ih]
  by_cases hx:x=y <;> simp [hx]
theorem ZBy (a b:List Int) (hl:a.length<=9223372036854775807):E 89 [.lst false (a.map (AVal.int .i64)),.lst false (b.map (AVal.int .i64))] []=some (.bool (a == b),[]):=by
 rw [Zh (by rfl) ZKi]
 by_cases h:a.length=b.length
 ·have:=Zq6 a b h hl a b 0 rfl rfl
  unfold ZlK at this
  have e:=Zmo h
  simp -implicitDefEqProofs only [EQA,ZT,Xc,Xb,reduceCtorEq,↓reduceIte,gcT,gcA,Zy,Zu,Zr,ZG,Zsi,ZkF,e]
  exact this
 ·have e:=Zmv h
  simp -implicitDefEqProofs only [EQA,Xc,Xb,reduceCtorEq,↓reduceIte,Zsi,ZkF,Zp4,e,ZlP h]
theorem ZDp (σ:Za) (sq own:Nat) (view:Bool) (a b:List Int) (hl:a.length<=9223372036854775807):Zi E BY σ sq 89 own view [.lst false (a.map (AVal.int .i64)),.lst false (b.map (AVal.int .i64))]=some (.bool (a == b),σ,{}) :=
 ZcU (ZBy a b hl) (by kernel_rfl) (by simp -implicitDefEqProofs only [Zdi,ZbE,eq_self]) (by simp -implicitDefEqProofs only [ZI,ZbE,eq_self]) rfl (fun _=>rfl) _ _ _ _
theorem ZrA (a b:List Zb) (h:a.length=b.length) (hl:a.length<=9223372036854775807):∀ (r s:List Zb) (i:Nat),a.drop i=r->b.drop i=s->ZjR 0 [(13,.int .i64 i),(12,.int .i64 a.length),(1,.lst false (b.map AVal.str)),(0,.lst false (a.map AVal.str))] []=some (.bool (r == s),[])
 | [],s,i,ha,hb=>by
  have hs:s=[]:=by
   subst hb;rw [Wc] at ha ⊢;omega
  subst hs
  have h1:=Zcw ha
  unfold ZjR
  rw [ZX]
  simp -implicitDefEqProofs only [EQA,Xc,Xb,reduceCtorEq,↓reduceIte,Zoz,ZL8,Zqn,Zva,Zmc,h1]
 | x::r,[],i,ha,hb=>by
  have:=(Zab ha).2.2;rw [Wc] at hb;omega
 | x::r,y::s,i,ha,hb=>by
  have ih:=ZrA a b h hl r s (i+1) (Zab ha).2.1 (Zab hb).2.1
  have h1:(i:Int) < a.length:=by have:=(Zab ha).2.2;omega
  have e1:=iad (Zab ha).1 AVal.str (k:=1) rfl
  have e2:=iad (Zab hb).1 AVal.str (k:=1) rfl
  have e3:=Zcn h1 hl
  unfold ZjR at ih ⊢
  rw [ZX]
  simp -implicitDefEqProofs only [EQA,ZI,ZT,Xc,Xb,Xg,ZgH,reduceCtorEq,↓reduceIte,gcT,gcA,Zy,Zu,Zr,ZG,Zoz,Zva,Zmc,h1,e1,e2,e3]
  rw [ih]
  by_cases hx:x=y <;> simp [hx]
theorem ZFI (a b:List Zb) (hl:a.length<=9223372036854775807):E 91 [.lst false (a.map AVal.str),.lst false (b.map AVal.str)] []=some (.bool (a == b),[]):=by
 rw [Zh (by rfl) ZFQ]
 by_cases h:a.length=b.length
 ·have:=ZrA a b h hl a b 0 rfl rfl
  unfold ZjR at this
  have e:=Zmo h
  simp -implicitDefEqProofs only [EQA,ZT,Xc,Xb,reduceCtorEq,↓reduceIte,gcT,gcA,Zy,Zu,Zr,ZG,ZrW,Zjz,e]
  exact this
 ·have e:=Zmv h
  simp -implicitDefEqProofs only [EQA,Xc,Xb,reduceCtorEq,↓reduceIte,ZrW,Zjz,Zoz,e,ZlP h]
theorem ZJQ (σ:Za) (sq own:Nat) (view:Bool) (a b:List Zb) (hl:a.length<=9223372036854775807):Zi E BY σ sq 91 own view [.lst false (a.map AVal.str),.lst false (b.map AVal.str)]=some (.bool (a == b),σ,{}) :=
 ZcU (ZFI a b hl) (by kernel_rfl) (by simp -implicitDefEqProofs only [Zdi,ZbE,eq_self]) (by simp -implicitDefEqProofs only [ZI,ZbE,eq_self]) rfl (fun _=>rfl) _ _ _ _
theorem ZvL (a b:List Zbr) (h:a.length=b.length) (hl:a.length<=9223372036854775807):∀ (r s:List Zbr) (i:Nat),a.drop i=r->b.drop i=s->Zmq 0 [(13,.int .i64 i),(12,.int .i64 a.length),(1,.lst false (b.map Z1)),(0,.lst false (a.map Z1))] []=some (.bool (r == s),[])
 | [],s,i,ha,hb=>by
  have hs:s=[]:=by
   subst hb;rw [Wc] at ha ⊢;omega
  subst hs
  have h1:=Zcw ha
  unfold Zmq
  rw [ZX]
  simp -implicitDefEqProofs only [EQA,Xc,Xb,reduceCtorEq,↓reduceIte,Zni,ZyS,Zq0,Zvj,Zlj,h1]
 | x::r,[],i,ha,hb=>by
  have:=(Zab ha).2.2;rw [Wc] at hb;omega
 | x::r,y::s,i,ha,hb=>by
  have ih:=ZvL a b h hl r s (i+1) (Zab ha).2.1 (Zab hb).2.1
  have h1:(i:Int) < a.length:=by have:=(Zab ha).2.2;omega
  have e1:=iad (Zab ha).1 Z1 (k:=6) rfl
  have e2:=iad (Zab hb).1 Z1 (k:=6) rfl
  have e3:=Zcn h1 hl
  unfold Zmq at ih ⊢
  rw [ZX]
  obtain ⟨f1,q1,n1,a1,d1,i1⟩:=x
  obtain ⟨f2,q2,n2,a2,d2,i2⟩:=y
  simp only [Z1,AVal.cells] at e1 e2
  have kd:ZdZ [2,0,1,1,0,0] [AVal.str f1,.int .i64 q1,.bool n1,.bool a1,.int .i64 d1,.int .i64 i1]=true:=rfl
  have ke:ZcV [AVal.str f1,.int .i64 q1,.bool n1,.bool a1,.int .i64 d1,.int .i64 i1] [AVal.str f2,.int .i64 q2,.bool n2,.bool a2,.int .i64 d2,.int .i64 i2]=some (f1 == f2 && (q1 == q2 && (n1 == n2 && (a1 == a2 && (d1 == d2 && (i1 == i2 && true)))))):=rfl
  have kd2:ZdZ [2,0,1,1,0,0] [AVal.str f2,.int .i64 q2,.bool n2,.bool a2,.int .i64 d2,.int .i64 i2]=true:=rfl
  simp -implicitDefEqProofs only [EQA,ZT,Xe,Xc,Xf,Xb,Xg,reduceCtorEq,↓reduceIte,gcT,gcA,Zy,Zu,Zr,ZG,Zni,Zvj,Zlj,h1,e1,e2,e3,kd,ke]
  rw [ih]
  have hb:((⟨f1,q1,n1,a1,d1,i1⟩:Zbr) == ⟨f2,q2,n2,a2,d2,i2⟩)=(f1 == f2 && (q1 == q2 && (n1 == n2 && (a1 == a2 && (d1 == d2 && (i1 == i2)))))):=by
   rw [Bool.eq_iff_iff];simp
  rw [List.cons_beq_cons,hb]
  cases f1 == f2 <;> cases q1 == q2 <;> cases n1 == n2 <;> cases a1 == a2 <;> cases d1 == d2 <;> cases i1 == i2 <;> rfl
theorem ZCc (a b:List Zbr) (hl:a.length<=9223372036854775807):E 90 [.lst false (a.map Z1),.lst false (b.map Z1)] []=some (.bool (a == b),[]):=by
 rw [Zh (by rfl) ZNr]
 by_cases h:a.length=b.length
 ·have:=ZvL a b h hl a b 0 rfl rfl
  unfold Zmq at this
  have e:=Zmo h
  simp -implicitDefEqProofs only [EQA,ZT,Xc,Xb,reduceCtorEq,↓reduceIte,gcT,gcA,Zy,Zu,Zr,ZG,Zwj,Zkj,e]
  exact this
 ·have e:=Zmv h
  simp -implicitDefEqProofs only [EQA,Xc,Xb,reduceCtorEq,↓reduceIte,Zwj,Zkj,Zni,e,ZlP h]
theorem ZKO (σ:Za) (sq own:Nat) (view:Bool) (a b:List Zbr) (hl:a.length<=9223372036854775807):Zi E BY σ sq 90 own view [.lst false (a.map Z1),.lst false (b.map Z1)]=some (.bool (a == b),σ,{}) :=
 ZcU (ZCc a b hl) (by kernel_rfl) (by simp -implicitDefEqProofs only [Zdi,ZbE,eq_self]) (by simp -implicitDefEqProofs only [ZI,ZbE,eq_self]) rfl (fun _=>rfl) _ _ _ _
def ZdQ (a b:ZA):Bool :=
 ((((((((((((a.codes == b.codes && a.subs == b.subs && a.filters == b.filters && a.props == b.props && a.will.props == b.will.props)
  && (a.payload == b.payload && a.password == b.password && a.will.data == b.will.data))
  && (a.will.topic == b.will.topic && a.will.qos == b.will.qos && a.will.retain == b.will.retain))
  && (a.dup == b.dup && a.retain == b.retain && a.clean == b.clean && a.hasWill == b.hasWill && a.hasUser == b.hasUser && a.hasPassword == b.hasPassword && a.present == b.present))
  && a.type == b.type) && a.qos == b.qos) && a.id == b.id) && a.topic == b.topic) && a.code == b.code) && a.keep == b.keep) && a.client == b.client) && a.user == b.user)
theorem ZCz (a b:ZA):ZdQ a b=true↔a=b:=by
 obtain ⟨a1,a2,a3,a4,a5,a6,a7,a8,a9,a10,a11,a12,a13,a14,a15,a16,⟨a17,a18,a19,a20,a21⟩,a22,a23,a24,a25,a26⟩:=a
 obtain ⟨b1,b2,b3,b4,b5,b6,b7,b8,b9,b10,b11,b12,b13,b14,b15,b16,⟨b17,b18,b19,b20,b21⟩,b22,b23,b24,b25,b26⟩:=b
 simp only [ZdQ,Xj,beq_iff_eq,ZA.mk.injEq,Zrk.mk.injEq]
 constructor
 ·rintro ⟨⟨⟨⟨⟨⟨⟨⟨⟨⟨⟨⟨⟨⟨⟨h1,h2⟩,h3⟩,h4⟩,h5⟩,⟨⟨h6,h7⟩,h8⟩⟩,⟨⟨h9,h10⟩,h11⟩⟩,⟨⟨⟨⟨⟨⟨h12,h13⟩,h14⟩,h15⟩,h16⟩,h17⟩,h18⟩⟩,h19⟩,h20⟩,h21⟩,h22⟩,h23⟩,h24⟩,h25⟩,h26⟩
  simp only [h1,h2,h3,h4,h5,h6,h7,h8,h9,h10,h11,h12,h13,h14,h15,h16,h17,h18,h19,h20,h21,h22,h23,h24,h25,h26,and_self]
 ·rintro ⟨h1,h2,h3,h4,h5,h6,h7,h8,h9,h10,h11,h12,h13,h14,h15,h16,⟨h17,h18,h19,h20,h21⟩,h22,h23,h24,h25,h26⟩
  simp only [h1,h2,h3,h4,h5,h6,h7,h8,h9,h10,h11,h12,h13,h14,h15,h16,h17,h18,h19,h20,h21,h22,h23,h24,h25,h26,and_self]
structure OkL (p:ZA):Prop where
 codes:p.codes.length<=9223372036854775807
 props:p.props.length<=9223372036854775807
 subs:p.subs.length<=9223372036854775807
 filters:p.filters.length<=9223372036854775807
 wprops:p.will.props.length<=9223372036854775807
theorem ZI8 (a b:ZA) (h:OkL a):E 67 [ZaC a,ZaC b] []=some (.bool (ZdQ a b),[]):=by
 have h1:=fun σ sq own view=>ZDp σ sq own view a.codes b.codes h.codes
 have h2:=fun σ sq own view=>ZKO σ sq own view a.subs b.subs h.subs
 have h3:=fun σ sq own view=>ZJQ σ sq own view a.filters b.filters h.filters
 have h4:=fun σ sq own view=>ZmB σ sq own view a.props b.props h.props
 have h5:=fun σ sq own view=>ZmB σ sq own view a.will.props b.will.props h.wprops
 rw [Zh (by rfl) ZNe]
 unfold ZaC ZdQ
 simp -implicitDefEqProofs only [EQA,ZT,ZdD,Zo8,Xe,Xc,Xb,Xg,ZgH,ZE,Zaz,unG,reduceCtorEq,ZR,ite_self,↓reduceIte,ZCp,Zm5,ZMh,AVal.cells,h1,h2,h3,h4,h5]
theorem ZtS (σ:Za) (sq own:Nat) (view:Bool) (a b:ZA) (h:OkL a):Zi E BY σ sq 67 own view [ZaC a,ZaC b]=some (.bool (ZdQ a b),σ,{}) :=
 ZcU (ZI8 a b h) (by kernel_rfl) rfl rfl rfl (fun _=>rfl) _ _ _ _
end
section
def Zkv:Zf:=(.seq (.region [oI 2 (.mov (.c (.lst true [])))] none [0]) (.seq (.region [oM 3 0,oI 4 (.nilchk (.t 3)),oF 5 0 4,oL 6 5,oM 7 0,oI 8 (.nilchk (.t 7)),oF 9 1 8,oL 10 9,oI 11 (.slice 1 (.t 6) (some (.t 10)) none none),oM 2 11] (some [(3,7)]) [2]) .ret))
def ZoA:ZF:=⟨[(.tmp 2)],Zkv⟩
theorem Zrm:FC 64=some ZoA:=by kernel_rfl
theorem Zt4:ZoA.body=Zkv:=rfl
theorem Zur:ZoA.res=[(.tmp 2)]:=rfl
end
section
theorem ZLw {σ:Za} {t g k n:Nat} {xs:List AVal} (hs:σ[t]?=some (.row g k xs)) (hn:n=xs.length):Zbv σ k (.sl t g 0 n) (some (.int .i64 0)) none none=some (.sl t g 0 n,σ,{ rd:=[t] }):=by
 subst hn
 have he:ZR σ (.sl t g 0 xs.length)=some ((xs.drop 0).take xs.length,[t]):=by simp [ZR,hs]
 simp [Zbv,he,hs,Za8,ZcT]
theorem ZBw (σ:Za) (k:Nat):Zbv σ k (.lst true []) (some (.int .i64 0)) none none=some (.lst true [],σ,{}):=by
 simp [Zbv,Za8,ZcT]
theorem ZBK (l:Zb):E 64 [.ref 0 0] (wH 0 l)=some (.sl 1 0 0 l.length,wH 0 l):=by
 have h1:((l.map Zc).length)=l.length:=by simp
 rw [Zh (by rfl) Zrm]
 unfold wH wv
 have hS:=fun (σ:Za) (hs:σ[1]?=some (.row 0 1 (l.map Zc)))=>ZLw (n:=l.length) hs h1.symm
 simp -implicitDefEqProofs only [EQA,Xe,Xc,Xb,Xg,reduceCtorEq,↓reduceIte,Zt4,Zkv,Zur,hS]
 simp [Z8,gcA,Zy,Zu,Zp,Z3,ZG,Zk,ZO,Zo,ZJ,Zr,Zg,Zm,ZB,X9,XaL]
theorem ZHH:E 64 [.ref 0 0] [.var wn]=some (.lst true [],[.var wn]):=by
 rw [Zh (by rfl) Zrm]
 unfold wn
 simp -implicitDefEqProofs only [EQA,Zs,ZT,Xc,Xb,Xg,reduceCtorEq,↓reduceIte,Zd,Zt4,Zkv,Zur,ZBw]
theorem ZCu (l:Zb):Z5 true 2 (some (.sl 1 0 0 l.length,wH 0 l))=some (.lst false (l.map Zc),[.var (wv 1 0 l.length),.frow 0 1 (l.map Zc)]):=by
 have e1:(0:Nat)+l.length<=(l.map Zc).length:=by simp
 have e2:((l.map Zc).drop 0).take l.length=l.map Zc:=by
  rw [List.drop_zero,<-XT (f:=Zc),XaG]
 simp only [Z5,if_true,ZbB,viewR,ZW,ZP,ZR,wH,XR,XI,e1,e2,and_self,Zn,WQ,WP]
 simp [gcA,Zy,Zp,Z3,X9,XaL,ZG,wv,Zu,Zk,ZO,Zr,ZJ,Zo,ZB,Zg,Zm]
theorem ZGB (l:Zb) {σ:Za} (t r g:Nat) {sq:Nat} (htr:t≠r) (hs:σ[t]?=some (.var (wv r g l.length))) (hr:σ[r]?=some (.row g 1 (l.map Zc))) :
  Zi E1 BY σ sq 64 0 true [.ref t 0]=some (.lst false (l.map Zc),(σ.set t (.var (wv r g l.length))).set r (.frow g 1 (l.map Zc)),{ any:=true,upd:=[(t,wv r g l.length)] }):=by
 refine ZaK ?_
 have hrf:Zp (wv r g l.length)=[r]:=rfl
 have htl:t < σ.length:=(Xl.1 hs).1
 have hrl:r < σ.length:=(Xl.1 hr).1
 have h1:σ.getD t .free=.var (wv r g l.length):=by simp [Xh,hs]
 have h2:σ.getD r .free=.row g 1 (l.map Zc):=by simp [Xh,hr]
 have hf0:Zn σ []=σ:=rfl
 have hsh:showAs σ [.ref t 0]=some ([.ref t 0],[]):=rfl
 have href:Zp [AVal.ref t 0]=[t]:=rfl
 have hup:Za4 ((σ.set t (.var (wv r g l.length))).set r (.frow g 1 (l.map Zc))) [t,r]=[(t,wv r g l.length)]:=by
  have e1:((σ.set t (.var (wv r g l.length))).set r (.frow g 1 (l.map Zc)))[t]?=some (.var (wv r g l.length)):=by
   rw [Xm (fun e=>htr e.symm),X5 htl]
  have e2:((σ.set t (.var (wv r g l.length))).set r (.frow g 1 (l.map Zc)))[r]?=some (.frow g 1 (l.map Zc)):=by
   rw [X5 (by simpa using hrl)]
  simp only [Za4,e1,e2]
 unfold Zi Zbx
 rw [show BY 64=false by kernel_rfl]
 simp only [Xi,if_false,hsh,hf0,href,Zqk hs hr htr hrf]
 unfold Zbl
 have hall:([t,r].all fun t=>okB (σ.getD t .free))=true:=by simp only [XP,Wj,h1,h2,okB,Xaj]
 rw [if_pos hall]
 have hρt:Zk σ 0 [t,r] t 0=some (0,0):=by simp [Zk,ZO,hs,Zo,ZJ]
 have hρr:Zk σ 0 [t,r] r g=some (1,0):=by simp [Zk,ZO,hr,Zo,ZJ,htr]
 have hargs:Zg (Zk σ 0 [t,r]) [.ref t 0]=[.ref 0 0]:=by simp only [Zg,Zm,hρt]
 have hren:Zg (Zk σ 0 [t,r]) (wv r g l.length)=wv 1 0 l.length:=by simp only [wv,Zg,Zm,hρr]
 have hheap:Zr σ 0 [t,r] (Zk σ 0 [t,r]) [t,r] 0=wH 0 l:=by
  simp only [Zr,h1,h2,ZJ,Zo,ZB,hren,wH]
  simp
 rw [hargs,hheap,ZBK l,show [t,r].length=2 from rfl,ZCu l]
 have hk:ZaZ σ [t,r] [.var (wv 1 0 l.length),.frow 0 1 (l.map Zc)] 0=true:=by simp [ZaZ,okB,Zb4,Zo,hs,hr]
 have hff:ZaY σ sq 0=true:=by simp [ZaY]
 have hb3:Zg (ZaA σ [t,r] sq) (wv 1 0 l.length)=wv r g l.length:=by
  have : ZaA σ [t,r] sq 1 0=some (r,g):=by simp only [ZaA,XR,XI,h2,Zo];rfl
  simp only [wv,Zg,Zm,this]
 simp only [Zaw,Wp,Xi,if_false,XH,XG,XE,Xe,Wb,Xx,decide_true,hk,hff,X0,if_true,Za1,ZaH,Xu,XO,Zch,XI,XR,h2,Zo,ZB,Zm,hb3,hup]
theorem ZL0 {σ:Za} {t sq:Nat} (hs:σ[t]?=some (.var wn)):Zi E1 BY σ sq 64 0 true [.ref t 0]=some (.lst false [],σ,{ any:=true,upd:=[(t,wn)] }):=by
 refine ZaK ?_
 have htl:t < σ.length:=(Xl.1 hs).1
 have h1:σ.getD t .free=.var wn:=by simp [Xh,hs]
 have hf0:Zn σ []=σ:=rfl
 have hsh:showAs σ [.ref t 0]=some ([.ref t 0],[]):=rfl
 have href:Zp [AVal.ref t 0]=[t]:=rfl
 have hre:Zu σ 1000 [t] []=[t]:=by
  have e1:([]:List Nat).contains t=false:=rfl
  rw [show (1000:Nat)=998+1+1 from rfl,Zu,e1]
  simp only [Xi,if_false,h1,ZG]
  rfl
 unfold Zi Zbx
 rw [show BY 64=false by kernel_rfl]
 simp only [Xi,if_false,hsh,hf0,href,hre]
 unfold Zbl
 have hall:([t].all fun t=>okB (σ.getD t .free))=true:=by simp only [XP,Wj,h1,okB,Xaj]
 rw [if_pos hall]
 have hρt:Zk σ 0 [t] t 0=some (0,0):=by simp [Zk,ZO,hs,Zo,ZJ]
 have hargs:Zg (Zk σ 0 [t]) [.ref t 0]=[.ref 0 0]:=by simp only [Zg,Zm,hρt]
 have hheap:Zr σ 0 [t] (Zk σ 0 [t]) [t] 0=[.var wn]:=by
  simp only [Zr,h1,ZB]
  rfl
 rw [hargs,hheap,ZHH]
 have hv:Z5 true 1 (some (.lst true [],[.var wn]))=some (.lst false [],[.var wn]):=rfl
 rw [show [t].length=1 from rfl,hv]
 have hk:ZaZ σ [t] [.var wn] 0=true:=by simp [ZaZ,okB,Zb4,Zo,hs]
 have hset:σ.set t (.var wn)=σ:=by
  apply List.ext_getElem?
  intro i
  rw [Xv]
  by_cases e:t=i
  ·subst e;rw [if_pos rfl,if_pos htl,hs]
  ·simp [e]
 have hup:Za4 σ [t]=[(t,wn)]:=by simp only [Za4,hs]
 have hff:ZaY σ sq 0=true:=by simp [ZaY]
 have hlay:Za1 σ [t] sq [.var wn] 0 σ=σ:=by
  simp only [Za1,ZaH,ZB,Xu]
  exact hset
 simp only [Zaw,Wp,Xi,if_false,hk,hff,hlay,hup,Zm,XH,XG,XE,Wb,Xx,decide_true,X0,if_true]
theorem Zu5 (σ:Za) (sq own:Nat) (f:Bool) (a:Zb) (h:a.length<=140737488355328):Zi E BY σ sq 35 own true [.lst f [.lst false (a.map Zc)]]=some (.lst false (a.map Zc),σ,{}):=by
 have:=Zhr σ sq own f a [] (by simp) (by simpa using h)
 simpa [ZV] using this
theorem ZFC {p:ZA} {l:Zb} (h:E1 62 [.ref 0 0,ZaC p] [.var wn]=some (.tup [],wH 0 l)) {σ:Za} {t sq:Nat} (hf:σ[sq]?=some .free) (hs0:σ[t]?=some (.var wn)) :
  Zi E1 BY σ sq 62 1 true [.ref t 0,.agg (ZC p)]=some (.tup [],(σ.set t (.var (wv sq 0 l.length))).set sq (.row 0 1 (l.map Zc)),{ any:=true,upd:=[(t,wv sq 0 l.length)] }) :=
 Zgd (args:=[.agg (ZC p)]) rfl rfl h (by kernel_rfl) (by rw [XP,ZeK];rfl) (by rw [Xt,Zel];rfl) hf hs0
theorem ZLG {p:ZA} (h:E1 62 [.ref 0 0,ZaC p] [.var wn]=some (.tup [],[.var wn])) {σ:Za} {t sq:Nat} (hf:σ[sq]?=some .free) (hs0:σ[t]?=some (.var wn)) :
  Zi E1 BY σ sq 62 1 true [.ref t 0,.agg (ZC p)]=some (.tup [],σ,{ any:=true,upd:=[(t,wn)] }) :=
 ZvE (args:=[.agg (ZC p)]) h (by kernel_rfl) (by rw [XP,ZeK];rfl) (by rw [Xt,Zel];rfl) (ff1 hf) hs0
def orU (a b:Int):Int:=IntKind.u8.wrap (XB IntKind.u8.bits a ||| XB IntKind.u8.bits b).toNat
def Zho (t:Int):Int:=orU (IntKind.u8.wrap (IntKind.i64.wrap (t*2 ^ min (Int.toNat 4) IntKind.i64.bits))) (ZeJ t)
def Zn2 (p:ZA):Int:=IntKind.u8.wrap (Zad p.dup 8+Zw p.qos 3*2+Zad p.retain 1)
def Zcp (p:ZA):Int:=if p.type=3 then orU (Zho 3) (Zn2 p) else Zho p.type
theorem ZCn (m:Nat) (h:m < 256):IntKind.u8.wrap (m:Int)=m:=by
 unfold IntKind.wrap IntKind.signed IntKind.bits
 simp
 omega
theorem ZvI (a b:Int):0<=orU a b/\orU a b < 256:=by
 have h:∀ x y:BitVec 8,(x ||| y).toNat < 256:=fun x y=>(x ||| y).isLt
 have h2:=h (XB 8 a) (XB 8 b)
 unfold orU
 rw [show IntKind.u8.bits=8 from rfl,ZCn _ h2]
 omega
theorem ZrY (p:ZA):0<=Zcp p/\Zcp p < 256:=by
 unfold Zcp
 split
 ·exact ZvI _ _
 ·exact ZvI _ _
theorem Ztx (B:Zb):(ZaI (B.length:Nat)).2=0↔B.length<=268435455:=by
 unfold ZaI
 split
 ·simp only []
  constructor
  ·intro h;simp at h
  ·intro h;omega
 ·simp only [true_iff]
  omega
def Zgg (first:Int) (B:Zb) (c:Int) (s:Bool):AVal :=
 if B.length<=268435455/\c=0/\s=true then .tup [.agg [.int .u8 first,.lst false (B.map Zc)],.int .i64 0] else .tup [.agg [.int .u8 0,.lst true []],.int .i64 129]
section
variable (p q:ZA) (c:Int)
theorem ZPj (B:Zb) (hb:E1 62 [.ref 0 0,ZaC p] [.var wn]=some (.tup [],wH 0 B)) (hB:B.length<=140737488355328)
  (hr:∀ σ sq own,Zi E1 BY σ sq 66 own true [.agg [.int .u8 (Zcp p),.lst false (B.map Zc)]]=some (.tup [ZaC q,.int .i64 c],σ,{})) (hq:OkL q) :
  E1 33 [ZaC p] []=some (Zgg (Zcp p) B c (ZdQ q p),[]):=by
 have fb:=fun {σ:Za} {t sq:Nat}=>ZFC hb (σ:=σ) (t:=t) (sq:=sq)
 have fB:=fun {σ:Za} {sq:Nat}=>ZGB B 2 3 0 (by omega) (σ:=σ) (sq:=sq)
 have fj:=fun σ sq own f=>ZaK (Zu5 σ sq own f B hB)
 have ff:=fun σ sq own=>ZaK (Zkt p.type σ sq own)
 have fm:=fun b n σ sq own=>Zij b n σ sq own
 have fv:=fun σ sq own=>ZaK (ZfX σ sq own (B.length:Nat))
 have fs:=fun σ sq own=>ZaK (ZtS σ sq own true q p hq)
 have hn:(B.map Zc).length=B.length:=by simp
 unfold Zgg
 generalize ZdQ q p=s at *
 rw [ZbH] at *
 rw [ZbH] at *
 have e0:=Zcg p
 have e1:=Zdo p
 have a0:(ZC p)[0]?=some (.int .i64 p.type):=rfl
 have a1:(ZC p)[1]?=some (.bool p.dup):=rfl
 have a2:(ZC p)[2]?=some (.int .i64 p.qos):=rfl
 have a3:(ZC p)[3]?=some (.bool p.retain):=rfl
 have d0:=Zcg q
 have d1:=Zdo q
 have oq:(ZC q).all ZS=true:=rfl
 have m1:=ZdP p.dup 8 (by omega)
 have m2:=ZdP p.retain 1 (by omega)
 have m3:=Zja p.qos
 have w2:=Zcz (Zw p.qos 3*2) (by omega) (by omega)
 have w3:=Zcz (Zad p.dup 8+Zw p.qos 3*2) (by omega) (by omega)
 have w4:=Zcz (Zad p.dup 8+Zw p.qos 3*2+Zad p.retain 1) (by omega) (by omega)
 clear m1 m2 m3
 unfold Zcp at hr ⊢
 have hv:=Ztx B
 unfold ZeA at fv
 generalize (ZaI (B.length:Nat)).1=V at *
 generalize (ZaI (B.length:Nat)).2=v at *
 by_cases h3:p.type=3
 ·rw [if_pos h3] at hr ⊢
  rw [h3] at ff a0
  unfold Zho Zn2 orU Zw at *
  clear h3
  generalize ZC p=P at *
  generalize ZC q=Q at *
  generalize p.dup=pd at *
  generalize p.qos=pq at *
  generalize p.retain=pr at *
  unfold wn at *
  rw [Zbz (by rfl) ZkB]
  by_cases v0:v=0
  ·have hL:=hv.1 v0
   subst v0
   by_cases c0:c=0
   ·subst c0
    cases s
    ·rw [if_neg (by simp)]
     simp -implicitDefEqProofs only [EQA,Za6,Zs,Xe,Xc,Xf,Xb,Xg,ZaB,unA,ZE,unG,↓reduceIte,Zd,Zcx,Zcf,Zct,AVal.cells,a0,a1,a2,a3,e0,e1,d0,d1,oq,Zam,fb,fB,fj,ff,fm,fv,fs,hr,hn,w2,w3,w4,X4,viewAs,ZW,ZP,Zn,Z0,Z4,Z7,Zak,Zaj,Zah,Zar,Zal,Z6,XK,Xw,bne_self_eq_false]
    ·rw [if_pos ⟨hL,rfl,rfl⟩]
     simp -implicitDefEqProofs only [EQA,Za6,Zs,Xe,Xc,Xf,Xb,Xg,ZaB,unA,ZE,unG,↓reduceIte,Zd,Zcx,Zcf,Zct,AVal.cells,a0,a1,a2,a3,e0,e1,d0,d1,oq,Zam,fb,fB,fj,ff,fm,fv,fs,hr,hn,w2,w3,w4,X4,viewAs,ZW,ZP,Zn,Z0,Z4,Z7,Zak,Zaj,Zah,Zar,Zal,Z6,XK,Xw,bne_self_eq_false]
   ·have c1:(c != 0)=true:=by simpa using c0
    rw [if_neg (fun h=>c0 h.2.1)]
    simp -implicitDefEqProofs only [EQA,Za6,Zs,Xe,Xc,Xf,Xb,Xg,ZaB,ZE,Zaz,unG,reduceCtorEq,↓reduceIte,Zd,Zcx,Zcf,Zct,AVal.cells,a0,a1,a2,a3,e0,e1,d0,oq,Zam,fb,fB,fj,ff,fm,fv,hr,hn,w2,w3,w4,c1,X4,viewAs,ZW,ZP,Zn,Z0,Z4,Z7,Zak,Zaj,Zah,Zar,Zal,Z6,XK,Xw,bne_self_eq_false]
  ·have v1:(v != 0)=true:=by simpa using v0
   rw [if_neg (fun h=>v0 (hv.2 h.1))]
   simp -implicitDefEqProofs only [EQA,Za6,Zs,Xe,Xc,Xf,Xb,Xg,ZaB,ZE,Zaz,reduceCtorEq,↓reduceIte,Zd,Zcx,Zcf,Zct,AVal.cells,a0,a1,a2,a3,e0,e1,d0,oq,Zam,fb,fB,fj,ff,fm,fv,hr,hn,w2,w3,w4,v1,X4,viewAs,ZW,ZP,Zn,Z0,Z4,Z7,Zak,Zaj,Zah,Zar,Zal,Z6,XK,Xw]
 ·rw [if_neg h3] at hr ⊢
  have h3b:(p.type == 3)=false:=by simpa using h3
  unfold Zho orU at *
  clear h3
  generalize ZC p=P at *
  generalize ZC q=Q at *
  generalize p.dup=pd at *
  generalize p.qos=pq at *
  generalize p.retain=pr at *
  generalize p.type=ty at *
  unfold wn at *
  rw [Zbz (by rfl) ZkB]
  by_cases v0:v=0
  ·have hL:=hv.1 v0
   subst v0
   by_cases c0:c=0
   ·subst c0
    cases s
    ·rw [if_neg (by simp)]
     simp -implicitDefEqProofs only [EQA,Za6,Zs,Xe,Xc,Xf,Xb,Xg,ZaB,unA,ZE,unG,↓reduceIte,Zd,Zcx,Zcf,Zct,AVal.cells,a0,e0,e1,d0,d1,oq,Zam,fb,fB,fj,ff,fv,fs,hr,hn,h3b,X4,viewAs,ZW,ZP,Zn,Z0,Z4,Z7,Zak,Zaj,Zah,Zar,Zal,Z6,XK,Xw,bne_self_eq_false]
    ·rw [if_pos ⟨hL,rfl,rfl⟩]
     simp -implicitDefEqProofs only [EQA,Za6,Zs,Xe,Xc,Xf,Xb,Xg,ZaB,unA,ZE,unG,↓reduceIte,Zd,Zcx,Zcf,Zct,AVal.cells,a0,e0,e1,d0,d1,oq,Zam,fb,fB,fj,ff,fv,fs,hr,hn,h3b,X4,viewAs,ZW,ZP,Zn,Z0,Z4,Z7,Zak,Zaj,Zah,Zar,Zal,Z6,XK,Xw,bne_self_eq_false]
   ·have c1:(c != 0)=true:=by simpa using c0
    rw [if_neg (fun h=>c0 h.2.1)]
    simp -implicitDefEqProofs only [EQA,Za6,Zs,Xe,Xc,Xf,Xb,Xg,ZaB,ZE,Zaz,unG,reduceCtorEq,↓reduceIte,Zd,Zcx,Zcf,Zct,AVal.cells,a0,e0,e1,d0,oq,Zam,fb,fB,fj,ff,fv,hr,hn,h3b,c1,X4,viewAs,ZW,ZP,Zn,Z0,Z4,Z7,Zak,Zaj,Zah,Zar,Zal,Z6,XK,Xw,bne_self_eq_false]
  ·have v1:(v != 0)=true:=by simpa using v0
   rw [if_neg (fun h=>v0 (hv.2 h.1))]
   simp -implicitDefEqProofs only [EQA,Za6,Zs,Xe,Xc,Xf,Xb,Xg,ZaB,ZE,Zaz,reduceCtorEq,↓reduceIte,Zd,Zcx,Zcf,Zct,AVal.cells,a0,e0,e1,d0,oq,Zam,fb,fB,fj,ff,fv,hr,hn,h3b,v1,X4,viewAs,ZW,ZP,Zn,Z0,Z4,Z7,Zak,Zaj,Zah,Zar,Zal,Z6,XK,Xw]
theorem ZGv (hb:E1 62 [.ref 0 0,ZaC p] [.var wn]=some (.tup [],[.var wn]))
  (hr:∀ σ sq own,Zi E1 BY σ sq 66 own true [.agg [.int .u8 (Zcp p),.lst false (([]:Zb).map Zc)]]=some (.tup [ZaC q,.int .i64 c],σ,{})) (hq:OkL q) :
  E1 33 [ZaC p] []=some (Zgg (Zcp p) [] c (ZdQ q p),[]):=by
 have fb:=fun {σ:Za} {t sq:Nat}=>ZLG hb (σ:=σ) (t:=t) (sq:=sq)
 have fB:=fun {σ:Za} {sq:Nat}=>ZL0 (σ:=σ) (t:=2) (sq:=sq)
 have fj:=fun σ sq own f=>ZaK (Zu5 σ sq own f [] (by decide))
 have ff:=fun σ sq own=>ZaK (Zkt p.type σ sq own)
 have fm:=fun b n σ sq own=>Zij b n σ sq own
 have fv:=fun σ sq own=>ZaK (ZfX σ sq own (([]:Zb).length:Nat))
 have fs:=fun σ sq own=>ZaK (ZtS σ sq own true q p hq)
 have hn:(([]:Zb).map Zc).length=([]:Zb).length:=by simp
 unfold Zgg
 generalize ZdQ q p=s at *
 rw [ZbH] at *
 rw [ZbH] at *
 have e0:=Zcg p
 have e1:=Zdo p
 have a0:(ZC p)[0]?=some (.int .i64 p.type):=rfl
 have a1:(ZC p)[1]?=some (.bool p.dup):=rfl
 have a2:(ZC p)[2]?=some (.int .i64 p.qos):=rfl
 have a3:(ZC p)[3]?=some (.bool p.retain):=rfl
 have d0:=Zcg q
 have d1:=Zdo q
 have oq:(ZC q).all ZS=true:=rfl
 have m1:=ZdP p.dup 8 (by omega)
 have m2:=ZdP p.retain 1 (by omega)
 have m3:=Zja p.qos
 have w2:=Zcz (Zw p.qos 3*2) (by omega) (by omega)
 have w3:=Zcz (Zad p.dup 8+Zw p.qos 3*2) (by omega) (by omega)
 have w4:=Zcz (Zad p.dup 8+Zw p.qos 3*2+Zad p.retain 1) (by omega) (by omega)
 clear m1 m2 m3
 unfold Zcp at hr ⊢
 have hv:=Ztx []
 unfold ZeA at fv
 generalize (ZaI (([]:Zb).length:Nat)).1=V at *
 generalize (ZaI (([]:Zb).length:Nat)).2=v at *
 simp only [XM,XG] at fj hr fv hn hv
 by_cases h3:p.type=3
 ·rw [if_pos h3] at hr ⊢
  rw [h3] at ff a0
  unfold Zho Zn2 orU Zw at *
  clear h3
  generalize ZC p=P at *
  generalize ZC q=Q at *
  generalize p.dup=pd at *
  generalize p.qos=pq at *
  generalize p.retain=pr at *
  unfold wn at *
  rw [Zbz (by rfl) ZkB]
  by_cases v0:v=0
  ·have hL:=hv.1 v0
   subst v0
   by_cases c0:c=0
   ·subst c0
    cases s
    ·rw [if_neg (by simp)]
     simp -implicitDefEqProofs only [EQA,Za6,Zs,Xe,Xc,Xf,Xb,Xg,ZaB,unA,ZE,unG,↓reduceIte,Zd,Zcx,Zcf,Zct,AVal.cells,a0,a1,a2,a3,e0,e1,d0,d1,oq,Zam,fb,fB,fj,ff,fm,fv,fs,hr,w2,w3,w4,X4,viewAs,ZW,ZP,Zn,Z0,Z4,Z7,Zak,Zaj,Zah,Zar,Zal,Z6,XK,Xw,bne_self_eq_false]
    ·rw [if_pos ⟨by decide,rfl,rfl⟩]
     simp -implicitDefEqProofs only [EQA,Za6,Zs,Xe,Xc,Xf,Xb,Xg,ZaB,unA,ZE,unG,↓reduceIte,Zd,Zcx,Zcf,Zct,AVal.cells,a0,a1,a2,a3,e0,e1,d0,d1,oq,Zam,fb,fB,fj,ff,fm,fv,fs,hr,w2,w3,w4,X4,viewAs,ZW,ZP,Zn,Z0,Z4,Z7,Zak,Zaj,Zah,Zar,Zal,Z6,XK,Xw,bne_self_eq_false]
   ·have c1:(c != 0)=true:=by simpa using c0
    rw [if_neg (fun h=>c0 h.2.1)]
    simp -implicitDefEqProofs only [EQA,Za6,Zs,Xe,Xc,Xf,Xb,Xg,ZaB,ZE,Zaz,unG,reduceCtorEq,↓reduceIte,Zd,Zcx,Zcf,Zct,AVal.cells,a0,a1,a2,a3,e0,e1,d0,oq,Zam,fb,fB,fj,ff,fm,fv,hr,w2,w3,w4,c1,X4,viewAs,ZW,ZP,Zn,Z0,Z4,Z7,Zak,Zaj,Zah,Zar,Zal,Z6,XK,Xw,bne_self_eq_false]
  ·have v1:(v != 0)=true:=by simpa using v0
   rw [if_neg (fun h=>v0 (hv.2 (by decide)))]
   simp -implicitDefEqProofs only [EQA,Za6,Zs,Xe,Xc,Xf,Xb,Xg,ZaB,ZE,Zaz,reduceCtorEq,↓reduceIte,Zd,Zcx,Zcf,Zct,AVal.cells,a0,a1,a2,a3,e0,e1,d0,oq,Zam,fb,fB,fj,ff,fm,fv,hr,w2,w3,w4,v1,X4,viewAs,ZW,ZP,Zn,Z0,Z4,Z7,Zak,Zaj,Zah,Zar,Zal,Z6,XK,Xw]
 ·rw [if_neg h3] at hr ⊢
  have h3b:(p.type == 3)=false:=by simpa using h3
  unfold Zho orU at *
  clear h3
  generalize ZC p=P at *
  generalize ZC q=Q at *
  generalize p.dup=pd at *
  generalize p.qos=pq at *
  generalize p.retain=pr at *
  generalize p.type=ty at *
  unfold wn at *
  rw [Zbz (by rfl) ZkB]
  by_cases v0:v=0
  ·have hL:=hv.1 v0
   subst v0
   by_cases c0:c=0
   ·subst c0
    cases s
    ·rw [if_neg (by simp)]
     simp -implicitDefEqProofs only [EQA,Za6,Zs,Xe,Xc,Xf,Xb,Xg,ZaB,unA,ZE,unG,↓reduceIte,Zd,Zcx,Zcf,Zct,AVal.cells,a0,e0,e1,d0,d1,oq,Zam,fb,fB,fj,ff,fv,fs,hr,h3b,X4,viewAs,ZW,ZP,Zn,Z0,Z4,Z7,Zak,Zaj,Zah,Zar,Zal,Z6,XK,Xw,bne_self_eq_false]
    ·rw [if_pos ⟨by decide,rfl,rfl⟩]
     simp -implicitDefEqProofs only [EQA,Za6,Zs,Xe,Xc,Xf,Xb,Xg,ZaB,unA,ZE,unG,↓reduceIte,Zd,Zcx,Zcf,Zct,AVal.cells,a0,e0,e1,d0,d1,oq,Zam,fb,fB,fj,ff,fv,fs,hr,h3b,X4,viewAs,ZW,ZP,Zn,Z0,Z4,Z7,Zak,Zaj,Zah,Zar,Zal,Z6,XK,Xw,bne_self_eq_false]
   ·have c1:(c != 0)=true:=by simpa using c0
    rw [if_neg (fun h=>c0 h.2.1)]
    simp -implicitDefEqProofs only [EQA,Za6,Zs,Xe,Xc,Xf,Xb,Xg,ZaB,ZE,Zaz,unG,reduceCtorEq,↓reduceIte,Zd,Zcx,Zcf,Zct,AVal.cells,a0,e0,e1,d0,oq,Zam,fb,fB,fj,ff,fv,hr,h3b,c1,X4,viewAs,ZW,ZP,Zn,Z0,Z4,Z7,Zak,Zaj,Zah,Zar,Zal,Z6,XK,Xw,bne_self_eq_false]
  ·have v1:(v != 0)=true:=by simpa using v0
   rw [if_neg (fun h=>v0 (hv.2 (by decide)))]
   simp -implicitDefEqProofs only [EQA,Za6,Zs,Xe,Xc,Xf,Xb,Xg,ZaB,ZE,Zaz,reduceCtorEq,↓reduceIte,Zd,Zcx,Zcf,Zct,AVal.cells,a0,e0,e1,d0,oq,Zam,fb,fB,fj,ff,fv,hr,h3b,v1,X4,viewAs,ZW,ZP,Zn,Z0,Z4,Z7,Zak,Zaj,Zah,Zar,Zal,Z6,XK,Xw]
end
end
section
def Zk5 (x:UInt8) (B:Zb):AVal:=.tup [.agg [Zc x,.lst false (B.map Zc)],.int .i64 0]
theorem Zze {args:List AVal} {p:ZA} {x:UInt8} {B:Zb} (h:E1 33 [ZaC p] []=some (Zgg x.toNat B 0 true,[])) (hB:B.length<=268435455) (hp:args.all Zai=true) (hn:args.map ZL=[ZaC p]) (σ:Za) (sq own:Nat) :
  Zi E1 BY σ sq 33 own true args=some (Zk5 x B,σ,{}):=by
 unfold Zgg at h
 rw [if_pos ⟨hB,rfl,rfl⟩] at h
 exact ZbJ h (by kernel_rfl) hp hn rfl (fun _=>rfl) σ sq own
def ZqP (x:UInt8) (B:Zb):Zb:=x::((ZaI B.length).1++B)
theorem Zyy (σ:Za) (sq own:Nat) (f:Bool) (x:UInt8) (b c:Zb) (h:1+b.length+c.length<=140737488355328):Zi E BY σ sq 35 own true [.lst f [.lst false [Zc x],.lst false (b.map Zc),.lst false (c.map Zc)]]=some (.lst false ((x::(b++c)).map Zc),σ,{}):=by
 have:=Zhr σ sq own f [x] [b,c] (by simp) (by simp;omega)
 simpa only [Xt,XM,ZV,List.flatten_cons,List.flatten_nil,Xp,XY,XD] using this
theorem ZyW (p:ZA) (x:UInt8) (B:Zb) (hB:B.length<=268435455) (hF:∀ σ sq own,Zi E1 BY σ sq 33 own true [.agg (ZC p)]=some (Zk5 x B,σ,{})) :
  E1 12 [ZaC p] []=some (.tup [.lst false ((ZqP x B).map Zc),.int .i64 0],[]):=by
 have hv:=ZgC (B.length:Nat)
 have fv:=fun σ sq own=>ZaK (ZfX σ sq own (B.length:Nat))
 have fj:=fun σ sq own f=>ZaK (Zyy σ sq own f x (ZaI (B.length:Nat)).1 B (by omega))
 have hn:(B.map Zc).length=B.length:=by simp
 rw [ZbH]
 have e0:=Zcg p
 have e1:=Zdo p
 unfold ZqP
 unfold ZeA at fv
 unfold Zk5 at hF
 generalize (ZaI (B.length:Nat)).1=V at *
 generalize (ZaI (B.length:Nat)).2=c at *
 generalize ZC p=P at *
 generalize (x::(V++B)).map Zc=R at *
 generalize hBB:B.map Zc=BB at *
 have bx:Zc x=.int .u8 (x.toNat:Nat):=rfl
 simp only [bx] at fj hF
 rw [Zbz (by rfl) ZEt]
 simp -implicitDefEqProofs only [EQA,Zs,Xe,Xc,Xf,Xb,Xg,↓reduceIte,Zd,ZF9,Zno,ZA6,AVal.cells,e0,e1,hF,fv,fj,hn,bne_self_eq_false,viewAs,ZW,ZP,Zn]
end
end Go.Proofs.YtfemfbchakdidaaGreatDoor
