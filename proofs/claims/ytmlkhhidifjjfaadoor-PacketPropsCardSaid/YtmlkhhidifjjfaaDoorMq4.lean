/- The card of PacketProps: for every input the law returns true, and each argument reads afterwards as it read before. No other condition; the tables of unicode/utf8 are tied to the program. -/
import Derived.Test.YtmlkhhidifjjfaaDoorMq3
import Derived.Test.YtmlkhhidifjjfaaDoorMq2
import Derived.Defers
import Derived.Recover
import Derived.Tactics
import Derived.Test.YtmlkhhidifjjfaaDoorProg
import Derived.Shelf.Unicode.ValidAny
import Derived.Lib.TrimAscii
import Derived.Shelf.LaysM
import Derived.Shelf.Bytes.TryGrowAt
import Derived.Shelf.Bytes.GrowSliceCatch
import Derived.Lib.ByteType
import Derived.Lib.BufferAt
import Derived.Lib.BufferOwn
import Derived.Lib.AppendZeros
import Derived.Lib.Walk
import Derived.Lib.Hide
import Derived.Laws.CopyRow
import Derived.Laws.IdiomCopy
import Derived.Laws.MakeOwn
import Derived.WalkKit
import Derived.OwnWalk
import Derived.RegionTactic
import Derived.Shelf.RegionOpenPlain
import Derived.Deep.RegionWith
import Derived.Deep.Draws
import Derived.BigCall
import Derived.BigGuard
import Derived.Lib.BufferSrc
import Derived.Test.YtmlkhhidifjjfaaDoorMq1
import Derived.Lib.LaidU8T
import Derived.Test.YtmlkhhidifjjfaaDoorRows
import Derived.Deep.Slices
import Derived.Test.YtmlkhhidifjjfaaDoorCards
import Derived.Test.YtmlkhhidifjjfaaDoorTie
import Derived.ProofKit
import Derived.OpenShut
import Derived.ShutString
import Derived.ChangeOld
import Derived.Below
import Derived.SevenTiedAt
import Derived.LaidByTextLater
import Derived.Lib.LaidIn
import Derived.Deep.DeepHandedRow
import Derived.MakeChecks
import Derived.SizedLaws
set_option linter.defProp false
set_option linter.unusedSectionVars false
set_option linter.unusedSimpArgs false
set_option linter.unusedVariables false
namespace Go.Proofs.YtmlkhhidifjjfaaDoor
set_option maxHeartbeats 8000000
set_option maxRecDepth 10000
def layV (f : Bool) (x : Bytes×Int) : AVal:=.tup [.lst f (x.1.map byteV),.int .i64 x.2]
theorem q_play0 (w : Int) (l : List PropD) (hl : l.length≤9223372036854775807) (b : Bytes) (hb : b.length≤140737488355000) (i : Nat) (h1 : ¬(i : Int) < l.length) :
  ∃ f,K_prop_Lay_l3 0 [(16,.int .i64 i),(15,.int .i64 l.length),(14,.lst false (l.map propV)),(6,.sl 0 0 0 b.length),(1,.lst false (l.map propV)),(0,.int .i64 w)] [.row 0 1 (b.map byteV)]=some (layV f (layE w l b),[]):=by
 have hV:=fun σ site own=>q_varC σ site own (b.length : Int)
 unfold varT at hV
 have l0:=varF_len (b.length : Int)
 have hJ:=fun σ site own f=>q_join2 σ site own f (varF b.length).1 b (by omega)
 have hR:=fun σ site own f=>q_preadC σ site own f w ((varF b.length).1++b) (by simp;omega)
 have hS:=fun σ site own view (a : List PropD) (ha : a.length≤9223372036854775807)=>q_psameC σ site own view a l ha
 have ht:=take_bytes b
 have hlen : ((varF b.length).1++b).length≤140737488355328:=by simp;omega
 have hrl:=readF_len w ((varF b.length).1++b)
 unfold layE layV
 generalize varF b.length=V at *
 obtain ⟨v,e⟩:=V
 simp only at hV hJ hR hlen hrl ⊢
 generalize hc : v++b=c at *
 generalize readF w c=R at *
 obtain ⟨again,used,code⟩:=R
 simp only at hR hrl ⊢
 have hS2:=fun σ site own view=>hS σ site own view again (by omega)
 unfold K_prop_Lay_l3
 by_cases he : e=0
 ·subst he
  have n0 : ((0 : Int) != 0)=false:=rfl
  rw [if_neg (by simp)]
  by_cases hc0 : code=0
  ·subst hc0
   by_cases hu : used=c.length
   ·have n2 : ((used : Int) != (c.length : Int))=false:=by simp [hu]
    cases hs : (again == l) <;> rw [hs] at hS2
    ·refine ⟨true,?_⟩
     rw [if_pos (by simp),evL_eq]
     simp -implicitDefEqProofs only [EVS0,EVS1,EVS5,EVS6,EVL0,eq_self,exI,nsite,freeAt,execI,Opd.ev,tget,tins,tput,keepL,sitesOf,List.sum_cons,List.sum_nil,Nat.reduceLT,Nat.reduceEqDiff,beq_self_eq_true,Bool.false_eq_true,binA,arithA,unA,gSpan,unG,ne_eq,Option.some.injEq,reduceCtorEq,decide_true,decide_false,elemsA,resA,resAll,resOne,↓reduceIte,noRefL,cr_prop_Lay,x_prop_Lay_k0,d_prop_Lay_k0,x_prop_Lay_l3,d_prop_Lay_l3,oI,oN,h1,hV,hJ,hR,hS2,ht,n0,n2,viewAs,viewA,viewA1,freezeA,List.foldl_cons,List.foldl_nil,Nat.le_refl,AVal.cells]
    ·refine ⟨false,?_⟩
     rw [if_neg (by simp [hu]),evL_eq]
     simp -implicitDefEqProofs only [EVS0,EVS1,EVS5,EVS6,EVL0,eq_self,exI,nsite,freeAt,execI,Opd.ev,tget,tins,tput,keepL,sitesOf,List.sum_cons,List.sum_nil,Nat.reduceLT,Nat.reduceEqDiff,beq_self_eq_true,Bool.false_eq_true,binA,arithA,unA,gSpan,unG,ne_eq,Option.some.injEq,reduceCtorEq,decide_true,decide_false,elemsA,resA,resAll,resOne,↓reduceIte,noRefL,cr_prop_Lay,x_prop_Lay_k0,d_prop_Lay_k0,x_prop_Lay_l3,d_prop_Lay_l3,oI,oN,h1,hV,hJ,hR,hS2,ht,n0,n2,viewAs,viewA,viewA1,freezeA,List.foldl_cons,List.foldl_nil,Nat.le_refl,AVal.cells]
   ·have n2 : ((used : Int) != (c.length : Int))=true:=by simp;omega
    refine ⟨true,?_⟩
    rw [if_pos (by simp [hu]),evL_eq]
    simp -implicitDefEqProofs only [EVS0,EVS1,EVS5,EVS6,EVL0,eq_self,exI,nsite,freeAt,execI,Opd.ev,tget,tins,tput,keepL,sitesOf,List.sum_cons,List.sum_nil,Nat.reduceLT,Nat.reduceEqDiff,beq_self_eq_true,Bool.false_eq_true,binA,arithA,gSpan,gSkip,unG,ne_eq,Option.some.injEq,reduceCtorEq,decide_true,decide_false,elemsA,resA,resAll,resOne,↓reduceIte,noRefL,cr_prop_Lay,x_prop_Lay_k0,d_prop_Lay_k0,x_prop_Lay_l3,d_prop_Lay_l3,oI,oN,h1,hV,hJ,hR,ht,n0,n2,viewAs,viewA,viewA1,freezeA,List.foldl_cons,List.foldl_nil,Nat.le_refl,AVal.cells]
  ·have n1 : (code != 0)=true:=by simpa using hc0
   refine ⟨true,?_⟩
   rw [if_pos (by simp [hc0]),evL_eq]
   simp -implicitDefEqProofs only [EVS0,EVS1,EVS5,EVS6,EVL0,eq_self,exI,nsite,freeAt,execI,Opd.ev,tget,tins,tput,keepL,sitesOf,List.sum_cons,List.sum_nil,Nat.reduceLT,Nat.reduceEqDiff,beq_self_eq_true,Bool.false_eq_true,binA,arithA,gSpan,gSkip,ne_eq,Option.some.injEq,reduceCtorEq,decide_true,decide_false,elemsA,resA,resAll,resOne,↓reduceIte,noRefL,cr_prop_Lay,x_prop_Lay_k0,d_prop_Lay_k0,x_prop_Lay_l3,d_prop_Lay_l3,oI,oN,h1,hV,hJ,hR,ht,n0,n1,viewAs,viewA,viewA1,freezeA,List.foldl_cons,List.foldl_nil,Nat.le_refl,AVal.cells]
 ·have n1 : (e != 0)=true:=by simpa using he
  refine ⟨true,?_⟩
  rw [if_pos he,evL_eq]
  simp -implicitDefEqProofs only [EVS0,EVS1,EVS5,EVS6,EVL0,eq_self,exI,nsite,freeAt,execI,Opd.ev,tget,tins,tput,keepL,sitesOf,List.sum_cons,List.sum_nil,Nat.reduceLT,Nat.reduceEqDiff,beq_self_eq_true,Bool.false_eq_true,binA,arithA,reduceCtorEq,decide_false,resA,resAll,resOne,↓reduceIte,noRefL,cr_prop_Lay,x_prop_Lay_k0,d_prop_Lay_k0,x_prop_Lay_l3,d_prop_Lay_l3,oI,oN,h1,hV,n1]
theorem q_playl (w : Int) (l : List PropD) (hl : l.length≤9223372036854775807) (hx : ∀ p ∈ l,OkTx p) : ∀ (r : List PropD) (i : Nat) (acc : Bytes),l.drop i=r→acc.length+r.length*200000≤140737488355000 →
  ∃ f,K_prop_Lay_l3 0 [(16,.int .i64 i),(15,.int .i64 l.length),(14,.lst false (l.map propV)),(6,.sl 0 0 0 acc.length),(1,.lst false (l.map propV)),(0,.int .i64 w)] [.row 0 1 (acc.map byteV)]=some (layV f (layE w l (acc++(r.map laidF).flatten)),[])
 | [],i,acc,h,hn=>by
  simp only [List.map_nil,List.flatten_nil,List.append_nil]
  exact q_play0 w l hl acc (by simpa using hn) i (drop_nil h)
 | p::r,i,acc,h,hn=>by
  have hlp:=laidF_len p
  simp only [List.length_cons] at hn
  obtain ⟨f,ih⟩:=q_playl w l hl hx r (i+1) (acc++laidF p) (drop_at h).2.1 (by rw [List.length_append];omega)
  refine ⟨f,?_⟩
  have h1 : (i : Int) < l.length:=by have:=(drop_at h).2.2;omega
  have e1:=iad (drop_at h).1 propV (k:=5) rfl
  have e3:=wrap_succ h1 hl
  have hC:=fun σ site own=>q_laidC σ site own p (hx p (List.mem_of_getElem? (drop_at h).1))
  rw [List.append_assoc] at ih
  rw [List.map_cons,List.flatten_cons]
  generalize laidF p=q at *
  have k1:=kokB q
  have k2 : (acc.length+q.length)*1≤140737488355328:=by omega
  have e4 : (acc++q).map byteV=acc.map byteV++q.map byteV:=by simp
  have e5 : (acc++q).length=acc.length+q.length:=by simp
  rw [e4,e5] at ih
  unfold K_prop_Lay_l3 at ih ⊢
  rw [evL_eq]
  simp -implicitDefEqProofs only [EVS0,EVS1,EVS5,EVS7,EVL0,EVL1,eq_self,exI,nsite,freeAt,execI,Opd.ev,tget,tins,tput,keepL,sitesOf,List.sum_cons,List.sum_nil,Nat.reduceAdd,Nat.reduceLT,Nat.reduceEqDiff,Nat.reduceBEq,beq_self_eq_true,Bool.false_eq_true,ldA,stA,partA,setAt,binA,arithA,ne_eq,reduceCtorEq,decide_true,elemsA,↓reduceIte,gcT,gcA,gcIds,reach,rhoOf,heapOf,idxA,genB,newGen,renB,refsB,x_prop_Lay_l3,d_prop_Lay_l3,oI,oN,bytesV,propV,propC,h1,e1,e3,hC,k1,k2,appA,Nat.le_refl,AVal.cells]
  exact ih
theorem q_play (w : Int) (l : List PropD) (hl : l.length≤700000000) (hx : ∀ p ∈ l,OkTx p) : ∃ f,E 42 [.int .i64 w,propsV l] []=some (layV f (layF w l),[]):=by
 have z0 : ((0 : Nat) : Int)=0:=rfl
 unfold layF
 cases l with
 | nil =>
  have hV:=fun σ site own=>q_varC σ site own 0
  have hv : varF 0=([0],0):=rfl
  unfold varT at hV
  rw [hv] at hV
  have hJ:=fun σ site own f=>q_join2 σ site own f [0] [] (by simp)
  have hR:=fun σ site own f=>q_preadC σ site own f w [0] (by simp)
  have hr : readF w [0]=([],1,0):=rfl
  rw [hr] at hR
  have hS:=fun σ site own view=>q_psameC σ site own view [] [] (by simp)
  have e : layE w [] (([] : List PropD).map laidF).flatten=([0],0):=by
   unfold layE
   simp only [List.map_nil,List.flatten_nil,List.length_nil,z0,hv,List.append_nil,hr]
   rfl
  rw [e]
  refine ⟨false,?_⟩
  rw [E_eq (by rfl) cf_prop_Lay]
  simp only [List.map_nil,List.map_cons,byteV] at hV hJ hR hS
  unfold layV
  have b0 : byteV 0=.int .u8 0:=rfl
  have u0 : (0 : UInt8).toNat=0:=rfl
  have n0 : ((0 : Int) != 0)=false:=rfl
  have n1 : ((1 : Int) != 1)=false:=rfl
  rw [u0,z0] at hV hJ hR
  have z1 : ((1 : Nat) : Int)=1:=rfl
  rw [z1] at hR
  simp -implicitDefEqProofs only [EVS0,EVS1,EVS5,EVS7,EVL0,eq_self,exI,nsite,freeAt,execI,Opd.ev,tget,tins,tput,keepL,sitesOf,List.sum_cons,List.sum_nil,Nat.reduceLT,Nat.reduceEqDiff,beq_self_eq_true,reduceCtorEq,enterA,↓reduceIte,gcT,gcA,gcIds,reach,heapOf,refsB,cb_prop_Lay,b_prop_Lay,oI,propsV]
  rw [evL_eq]
  simp -implicitDefEqProofs only [EVS0,EVS1,EVS5,EVS6,EVL0,eq_self,exI,nsite,freeAt,execI,Opd.ev,tget,tins,tput,keepL,sitesOf,List.sum_cons,List.sum_nil,Nat.reduceLT,Nat.reduceEqDiff,beq_self_eq_true,Bool.false_eq_true,binA,arithA,unA,gSpan,unG,ne_eq,Option.some.injEq,reduceCtorEq,decide_true,decide_false,resA,resAll,resOne,↓reduceIte,noRefL,cr_prop_Lay,x_prop_Lay_k0,d_prop_Lay_k0,x_prop_Lay_l3,d_prop_Lay_l3,oI,oN,z0,z1,hV,hJ,hR,hS,n0,n1,b0,viewAs,viewA,viewA1,freezeA,List.foldl_cons,List.foldl_nil,AVal.cells,Int.reduceLT]
 | cons p r =>
  have hlp:=laidF_len p
  simp only [List.length_cons] at hl
  obtain ⟨f,ih⟩:=q_playl w (p::r) (by simp only [List.length_cons];omega) hx r 1 (laidF p) rfl (by omega)
  refine ⟨f,?_⟩
  have e1:=iad (l:=p::r) (i:=0) rfl propV (k:=5) rfl
  have h1 : (0 : Int) < ((p::r).length : Int):=by simp only [List.length_cons];omega
  have w1 : IntKind.i64.wrap (0+1)=1:=rfl
  have z1 : ((1 : Nat) : Int)=1:=rfl
  have hC:=fun σ site own=>q_laidC σ site own p (hx p (by simp))
  rw [List.map_cons,List.flatten_cons]
  generalize laidF p=q at *
  have k1:=kokB q
  have k2 : q.length*1≤140737488355328:=by omega
  have e6 : (q.map byteV).length=q.length:=by simp
  rw [z0] at e1
  rw [z1] at ih
  generalize (r.map laidF).flatten=t at *
  generalize hL : p::r=L at *
  rw [E_eq (by rfl) cf_prop_Lay]
  unfold K_prop_Lay_l3 at ih
  simp -implicitDefEqProofs only [EVS0,EVS1,EVS5,EVS7,EVL0,eq_self,exI,nsite,freeAt,execI,Opd.ev,tget,tins,tput,keepL,sitesOf,List.sum_cons,List.sum_nil,Nat.reduceLT,Nat.reduceEqDiff,beq_self_eq_true,reduceCtorEq,enterA,↓reduceIte,gcT,gcA,gcIds,reach,heapOf,refsB,cb_prop_Lay,b_prop_Lay,oI,propsV]
  rw [evL_eq]
  simp -implicitDefEqProofs only [EVS0,EVS1,EVS5,EVS7,EVL0,EVL1,eq_self,exI,nsite,freeAt,execI,Opd.ev,tget,tins,tput,keepL,sitesOf,List.sum_cons,List.sum_nil,Nat.reduceAdd,Nat.reduceLT,Nat.reduceEqDiff,Nat.reduceBEq,beq_self_eq_true,Bool.false_eq_true,ldA,stA,partA,setAt,binA,arithA,ne_eq,reduceCtorEq,decide_true,elemsA,↓reduceIte,gcT,gcA,gcIds,reach,rhoOf,heapOf,idxA,genB,newGen,renB,refsB,x_prop_Lay_l3,d_prop_Lay_l3,oI,oN,bytesV,propV,propC,h1,e1,w1,hC,k1,k2,appA,Nat.le_refl,AVal.cells]
  exact ih
theorem q_playC (σ : AHeap) (site own : Nat) (f : Bool) (w : Int) (l : List PropD) (hl : l.length≤700000000) (hx : ∀ p ∈ l,OkTx p) : callG E BY σ site 42 own true [.int .i64 w,.lst f (l.map propV)]=some (layV false (layF w l),σ,{}):=by
 obtain ⟨g,h⟩:=q_play w l hl hx
 exact call_normT h (by kernel_rfl) rfl rfl rfl (fun _=>rfl) _ _ _
end Go.Proofs.YtmlkhhidifjjfaaDoor
namespace Go.Proofs.YtmlkhhidifjjfaaDoor
set_option maxHeartbeats 4000000
set_option maxRecDepth 10000
end Go.Proofs.YtmlkhhidifjjfaaDoor
namespace Go.Proofs.YtmlkhhidifjjfaaDoor
def b_tidingskeep_Cut : ACode:=(.seq (.region [oI 4 (.mov (.c (.lst true [])))] none [1,0]) (.seq (.seq (.region [oI 5 (.mov (.t 0)),oI 6 (.len (.t 5)),oI 7 (.mov (.t 1)),oI 8 (.bin .gtr (.t 6) (.t 7))] none [8,1,0]) (.cond (.t 8) (.seq (.region [oI 9 (.mov (.t 0)),oI 10 (.mov (.t 1)),oI 11 (.slice 1 (.t 9) none (some (.t 10)) none),oI 4 (.mov (.t 11))] none [4]) .ret) .skip)) (.seq (.region [oI 12 (.mov (.t 0)),oI 4 (.mov (.t 12))] none [4]) .ret)))
def c_tidingskeep_Cut : AFunc:=⟨[(.tmp 4)],b_tidingskeep_Cut⟩
theorem cf_tidingskeep_Cut : FC 18=some c_tidingskeep_Cut:=by kernel_rfl
theorem cb_tidingskeep_Cut : c_tidingskeep_Cut.body=b_tidingskeep_Cut:=rfl
theorem cr_tidingskeep_Cut : c_tidingskeep_Cut.res=[(.tmp 4)]:=rfl
def b_tidingskeep_Same : ACode:=(.seq (.region [oI 4 (.mov (.c (.bool false)))] none [1,0]) (.seq (.region [oI 5 (.mov (.t 0)),oI 6 (.b2s (.t 5)),oI 7 (.mov (.t 1)),oI 8 (.b2s (.t 7)),oI 9 (.bin .eql (.t 6) (.t 8)),oI 4 (.mov (.t 9))] none [4]) .ret))
def c_tidingskeep_Same : AFunc:=⟨[(.tmp 4)],b_tidingskeep_Same⟩
theorem cf_tidingskeep_Same : FC 15=some c_tidingskeep_Same:=by kernel_rfl
theorem cb_tidingskeep_Same : c_tidingskeep_Same.body=b_tidingskeep_Same:=rfl
theorem cr_tidingskeep_Same : c_tidingskeep_Same.res=[(.tmp 4)]:=rfl
end Go.Proofs.YtmlkhhidifjjfaaDoor
namespace Go.Proofs.YtmlkhhidifjjfaaDoor
set_option maxHeartbeats 2000000
set_option maxRecDepth 10000
end Go.Proofs.YtmlkhhidifjjfaaDoor
namespace Go.Proofs.YtmlkhhidifjjfaaDoor
set_option maxHeartbeats 4000000
set_option maxRecDepth 10000
structure NoteD where
 topic : Bytes
 payload : Bytes
 qos : Int
 retain : Bool
 sender : Bytes
 expires : Int
 props : List PropD
 origin : Int
 number : Int
 hops : Int
 deriving DecidableEq
structure ItemD where
 note : NoteD
 qos : Int
 retain : Bool
 ids : List Int
 share : Bytes
 deriving DecidableEq
end Go.Proofs.YtmlkhhidifjjfaaDoor
namespace Go.Proofs.YtmlkhhidifjjfaaDoor
set_option maxHeartbeats 8000000
set_option maxRecDepth 10000
theorem readF_end (w : Int) (b : Bytes) (h : (readF w b).2.2=0) : (readF w b).2.1≤268435460:=by
 have h1:=getVar_lt b
 have h2 : (getVarF b).2.1≤5:=by
  have : ∀ (b : Bytes) (i n : Nat),i≤4→(gvA i n b).2.1≤5:=by
   intro b
   induction b with
   | nil=>intro i n hi;unfold gvA;split <;> simp
   | cons c r ih =>
    intro i n hi
    unfold gvA
    repeat' split
    all_goals (try simp only)
    all_goals first
     | omega
     | exact ih _ _ (by omega)
  exact this b 0 0 (by omega)
 unfold readF at h ⊢
 split
 ·rename_i hc;rw [if_pos hc] at h;simp at h
 ·rename_i hc
  rw [if_neg hc] at h
  split
  ·simp only;omega
  ·rename_i h3;rw [if_neg h3] at h;exact absurd h h3
structure OkNote (n : NoteD) : Prop where
 topic : n.topic.length≤9223372036854775807
 payload : n.payload.length≤9223372036854775807
 sender : n.sender.length≤9223372036854775807
 props : n.props.length≤700000000
 tx : ∀ p ∈ n.props,OkTx p
 dat : ∀ p ∈ n.props,p.data.length≤140737488355328
end Go.Proofs.YtmlkhhidifjjfaaDoor
namespace Go.Proofs.YtmlkhhidifjjfaaDoor
open Go.RowKit
def endD (m i j : Nat) (rs : List ARes) (σ : AHeap) : Option (AVal×AHeap):=match resA [(3,.ref j 0),(2,.ref i 0)] σ rs with
 | some r=>outA m σ r
 | none=>none
noncomputable def doorA (fs : Nat→Option AFunc) (prim : Prims) (byref : Nat→Bool) (tc : Nat) (c2 c3 : ACode) (rs : List ARes) (m : Nat) (tm1 : Tms) (σ1 : AHeap) (i j : Nat) : Option (AVal×AHeap) :=
 match evC fs prim byref σ1.length c2 tm1 σ1 with
 | some (.ret,_,σ2)=>endD m i j rs σ2
 | some (.panic (.iface t x),_,σ2)=>if t=tc then match evC fs prim byref σ1.length c3 [(10,x),(1,.ref j 0),(0,.ref i 0)] σ2 with
  | some (.normal,_,σ3)=>endD m i j rs σ3
  | _=>none
  else none
 | _=>none
noncomputable def doorG (fs : Nat→Option AFunc) (prim : Prims) (byref : Nat→Bool) (tc : Nat) (c1 c2 c3 : ACode) (rs : List ARes) (args : List AVal) (σ : AHeap) : Option (AVal×AHeap) :=
 match evC fs prim byref σ.length c1 (enterA 0 args []) σ with
 | some (.normal,tm1,σ1)=>match tget tm1 2,tget tm1 3 with
  | .ref i 0,.ref j 0=>if σ.length≤σ1.length∧i < σ1.length∧j < σ1.length then doorA fs prim byref tc c2 c3 rs σ.length (tput tm1 (some 5) .top) σ1 i j else none
  | _,_=>none
 | _=>none
structure DoorB (P : Program) (f h : FuncId) (ti tc : TypeId) (an1 an2 an3 : Ann) (c1 c2 c3 : ACode) (rs : List ARes) : Prop where
 ex : ∃ (F H : Func) (b1 b2 b3 b4 : Code) (i0 j0 j1 j2 j3 bid : Nat) (t1 t2 t3 t4 t5 t6 t7 t8 : TypeId) (p1 p2 p3 p4 p5 p6 p7 p8 : String) (a1 a2 a3 a4 a5 a6 a7 a8 : Array Edge) (at1 at2 : Array TypeId) (ims : Array (String×TypeId)) (k : IntKind),
  P.funcs[f]?=some F∧(F.name == "runtime.NumGoroutine")=false∧F.ntmps=20∧compR P F.results.toList=some rs ∧
  F.body=some (.seq b1 (.seq (.region i0 #[⟨some 5,.makeFunc (.func h) #[] #[.tmp 2,.tmp 3],t1,p1,a1,none⟩,⟨none,.defer ⟨.value (.tmp 5),#[],at1⟩,t2,p2,a2,none⟩] false) b2)) ∧
  stripC (compC P an1 b1)=c1∧stripC (compC P an2 b2)=c2∧an1.nt=20∧an2.nt=20∧an2.keep=[2,3] ∧
  P.funcs[h]?=some H∧(H.name == "runtime.NumGoroutine")=false∧H.ntmps=13∧H.results=#[] ∧
  H.body=some (.seq (.region j0 #[⟨some 5,.call ⟨.builtin .recover,#[],at2⟩,t3,p3,a3,none⟩] false) (.block bid (.seq (.region j1 #[⟨some 7,.binOp .eql ti (.tmp 5) (.const .nilIface) ti,t4,p4,a4,none⟩] false)
   (.cond (.tmp 7) (.region j2 #[⟨some 2,.assign (.tmp 5),t5,p5,a5,none⟩] false)
    (.seq (.region j3 #[⟨some 8,.typeAssert (.tmp 5) ti tc true,t6,p6,a6,none⟩,⟨some 9,.extract (.tmp 8) 1,t7,p7,a7,none⟩,⟨some 10,.extract (.tmp 8) 0,t8,p8,a8,none⟩] false)
     (.cond (.tmp 9) b3 b4)))))) ∧
  stripC (compC P an3 b3)=c3∧an3.nt=13∧P.underlying ti=some (.interface ims)∧P.underlying tc=some (.int k)
section
variable {P : Program} {O : Oracle} {byref : Nat→Bool} {base : Nat→Prop} {w0 w : World} {I0 I : Imm} {β : Bmap} {σ : AHeap}
theorem ref_kept {m : Nat} {I' : Imm} {β' : Bmap} {i : Nat} {v : Value} (hk : KeptE m β β') (hi : i < m) (h : VR I β (.ref i 0) v) : VR I' β' (.ref i 0) v:=by
 simp only [VR] at h ⊢
 obtain ⟨b,k,c,h1,h2⟩:=h
 exact ⟨b,k,c,hk i hi _ h1,h2⟩
theorem endD_sound {F : Func} {rs : List ARes} (hrs : compR P F.results.toList=some rs) {m i j : Nat} {tmps : Array Value} {I' : Imm} {β' : Bmap} {σ' σ2 : AHeap} {w' : World} {r : AVal} (hI : I.le I') (hk : KeptE m β β') (R : Rel base w0 I0 I' β' σ2 w') (h2 : VR I' β' (.ref i 0) (tmps.getD 2 undef)) (h3 : VR I' β' (.ref j 0) (tmps.getD 3 undef)) (h : endD m i j rs σ2=some (r,σ')) :
  ∃ v,(results F tmps).run P w'=.ok v w'∧∃ u,Ends r (.returned v) u∧PostF m base w0 I0 I β r σ' u w':=by
 unfold endD at h
 split at h
 ·rename_i x hx
  have T : TR I' β' [(3,.ref j 0),(2,.ref i 0)] tmps:=by
   intro n
   simp only [tget]
   split
   ·rename_i e;subst e;exact h3
   ·split
    ·rename_i e;subst e;exact h2
    ·simp only [VR]
  obtain ⟨v,q1,q2⟩:=res_sound T R hrs hx
  have hnp : ∀ y,x≠.pan y:=by rintro y rfl;simp only [VR] at q2
  obtain ⟨p1,p2⟩:=out_sound (⟨I',β',hI,hk,R,by rw [valOf_npan hnp];exact q2⟩ : PostF m base w0 I0 I β x σ2 v w') h
  refine ⟨v,q1,v,p2 _ ?_,p1⟩
  cases x <;> first | rfl | exact absurd rfl (hnp _)
 ·cases h
theorem pgs {a : Act} {d : Nat} {u : Value} (h : d < a.tmps.size) : (a.put (some d) u).tmps.getD d undef=u:=by
 simp [Act.put,Array.getD,h]
theorem run_v {m : Sem Value} {u : Value} (h : m.run P w=.ok u w) : (do let q ←m;pure (Next.value q) : Sem Next).run P w=.ok (.value u) w:=by
 rw [Sem.run_bind,h];rfl
theorem pgn {a : Act} {d j : Nat} {u : Value} (h : d≠j) : (a.put (some d) u).tmps.getD j undef=a.tmps.getD j undef:=by
 simp only [Act.put,Array.getD_eq_getD_getElem?]
 rw [Array.getElem?_setIfInBounds_ne h]
theorem catch_pan (hm : P.follows .mixedOrders=true) (hO : OrOk P O) {f h : FuncId} {ti tc : TypeId} {an1 an2 an3 : Ann} {c1 c2 c3 : ACode} {rs : List ARes} (D : DoorB P f h ti tc an1 an2 an3 c1 c2 c3 rs) (hb : KLt base w0) (R : Rel base w0 I0 I β σ w)
  {i j m n : Nat} {x : AVal} {v2 v3 v : Value} (h2 : VR I β (.ref i 0) v2) (h3 : VR I β (.ref j 0) v3) (hv : VR I β x v) {tm' : Tms} {σ' : AHeap} (hx : execC O byref m n c3 [(10,x),(1,.ref j 0),(0,.ref i 0)] σ=some (.normal,tm',σ')) :
  CallsD P h #[v2,v3] (.panicking [{ v:=.iface tc v,recovered:=false }]) w fun e u' w'=>e=.returned (.tuple #[])∧u'=.panicking [{ v:=.iface tc v,recovered:=true }]∧∃ I' β',I.le I'∧KeptE m β β'∧Rel base w0 I0 I' β' σ' w':=by
 obtain ⟨F,H,b1,b2,b3,b4,i0,j0,j1,j2,j3,bid,t1,t2,t3,t4,t5,t6,t7,t8,p1,p2,p3,p4,p5,p6,p7,p8,a1,a2,a3,a4,a5,a6,a7,a8,at1,at2,ims,k,hF,hname,hnt,hrs,hbody,hc1,hc2,hn1,hn2,hk2,hH,hHname,hHn,hHr,hHb,hc3,hn3,hti,htc⟩:=D.ex
 refine callsD_of_wpS hH hHb fun c₀ cs hu=>?_
 apply wpS_seq
 apply wpS_region
 simp [wpOpsS,go_sem,recoverD,hu,hHn,Exit.thenS]
 refine wpS_of_wp ?_
 generalize hT : (#[v2,v3]++(Array.replicate 11 undef).setIfInBounds 3 (Value.iface tc v))=T
 have hs : T.size=13:=by rw [←hT];simp
 have hT0 : T.getD 0 undef=v2:=by rw [←hT];simp [Array.getD]
 have hT1 : T.getD 1 undef=v3:=by rw [←hT];simp [Array.getD]
 have hT5 : T.getD 5 undef=.iface tc v:=by rw [←hT];simp [Array.getD]
 clear hT
 refine wp_block (wp_seq (wp_region_list (wpList_one rfl ?_)))
 unfold Oper.wp
 have e1 : ∀ o : Oper,o.op=.binOp .eql ti (.tmp 5) (.const .nilIface) ti→(execOp ({ tmps:=T,defers:=[] } : Act).eval o).run P w=.ok (.value (.bool false)) w:=by
  intro o ho
  unfold execOp;rw [ho]
  simp only [Act.eval,hT5]
  exact run_v (run_ieq_held (P:=P) (w:=w) (t1:=tc) (u:=v) hti false (op:=.eql) (.tmp 5) .nilIface rfl)
 rw [e1 _ rfl,Oper.upon_value]
 refine wpList_nil ?_
 simp only [Exit.then]
 refine wp_cond_false (by simp only [Act.eval];exact pgs (by simp [hs])) ?_
 refine wp_seq (wp_region_list (wpList_one rfl ?_))
 unfold Oper.wp
 generalize hA1 : ({ tmps:=T,defers:=[] } : Act).put (some 7) (.bool false)=A1
 have hs1 : A1.tmps.size=13:=by rw [←hA1,put_size];exact hs
 have g1 : ∀ j,j≠7→A1.tmps.getD j undef=T.getD j undef:=by intro j hj;rw [←hA1];exact pgn (by omega)
 have hd1 : A1.defers=[]:=by rw [←hA1];rfl
 have e2 : ∀ o : Oper,o.op=.typeAssert (.tmp 5) ti tc true→(execOp A1.eval o).run P w=.ok (.value (.tuple #[v,.bool true])) w:=by
  intro o ho
  unfold execOp;rw [ho]
  simp only [Act.eval,g1 5 (by omega),hT5]
  refine run_v ?_
  simp [Instr.typeAssert,underlying,htc]
 rw [e2 _ rfl,Oper.upon_value]
 generalize hA2 : A1.put (some 8) (.tuple #[v,.bool true])=A2
 have hs2 : A2.tmps.size=13:=by rw [←hA2,put_size];exact hs1
 have g2 : ∀ j,j≠8→A2.tmps.getD j undef=A1.tmps.getD j undef:=by intro j hj;rw [←hA2];exact pgn (by omega)
 have g28 : A2.tmps.getD 8 undef=.tuple #[v,.bool true]:=by rw [←hA2];exact pgs (by omega)
 have hd2 : A2.defers=[]:=by rw [←hA2];exact hd1
 refine wpList_one rfl ?_
 unfold Oper.wp
 have e3 : ∀ o : Oper,o.op=.extract (.tmp 8) 1→(execOp A2.eval o).run P w=.ok (.value (.bool true)) w:=by
  intro o ho
  unfold execOp;rw [ho]
  simp only [Act.eval,g28]
  refine run_v ?_
  simp [Instr.extract]
 rw [e3 _ rfl,Oper.upon_value]
 generalize hA3 : A2.put (some 9) (.bool true)=A3
 have hs3 : A3.tmps.size=13:=by rw [←hA3,put_size];exact hs2
 have g3 : ∀ j,j≠9→A3.tmps.getD j undef=A2.tmps.getD j undef:=by intro j hj;rw [←hA3];exact pgn (by omega)
 have g39 : A3.tmps.getD 9 undef=.bool true:=by rw [←hA3];exact pgs (by omega)
 have hd3 : A3.defers=[]:=by rw [←hA3];exact hd2
 refine wpList_one rfl ?_
 unfold Oper.wp
 have e4 : ∀ o : Oper,o.op=.extract (.tmp 8) 0→(execOp A3.eval o).run P w=.ok (.value v) w:=by
  intro o ho
  unfold execOp;rw [ho]
  simp only [Act.eval,g3 8 (by omega),g28]
  refine run_v ?_
  simp [Instr.extract]
 rw [e4 _ rfl,Oper.upon_value]
 generalize hA4 : A3.put (some 10) v=A4
 have hs4 : A4.tmps.size=13:=by rw [←hA4,put_size];exact hs3
 have g4 : ∀ j,j≠10→A4.tmps.getD j undef=A3.tmps.getD j undef:=by intro j hj;rw [←hA4];exact pgn (by omega)
 have g410 : A4.tmps.getD 10 undef=v:=by rw [←hA4];exact pgs (by omega)
 have hd4 : A4.defers=[]:=by rw [←hA4];exact hd3
 refine wpList_nil ?_
 simp only [Exit.then]
 refine wp_cond_true (by simp only [Act.eval];rw [g4 9 (by omega),g39]) ?_
 have hst : StF noDoor m an3.nt base w0 I0 I β [(10,x),(1,.ref j 0),(0,.ref i 0)] σ A4 w:=by
  refine ⟨I,β,Imm.le.refl I,KeptE.refl _ β,fun n=>?_,⟨noDoor_ok.2 hd4,by rw [hs4,hn3];omega⟩,R⟩
  simp only [tget]
  split
  ·rename_i e;subst e;rw [g410];exact hv
  ·split
   ·rename_i e;subst e;rw [g4 1 (by omega),g3 1 (by omega),g2 1 (by omega),g1 1 (by omega),hT1];exact h3
   ·split
    ·rename_i e;subst e;rw [g4 0 (by omega),g3 0 (by omega),g2 0 (by omega),g1 0 (by omega),hT0];exact h2
    ·simp only [VR]
 rw [←hc3,exec_strip] at hx
 refine code_sound (dr:=noDoor) (an:=an3) hO (fun n hn=>by simp [noDoor] at hn) hm hb m n rfl hst hx ?_
 intro a' w' ⟨I',β',k1,k2,k3,k4,k5⟩
 simp only [Exit.inBlock,bodyPostS]
 refine ⟨noDoor_ok.1 k4.1,_,rfl,.tuple #[],?_,rfl,rfl,I',k1,β',k2,k5⟩
 simp [results,hHr]
theorem catch_idle {f h : FuncId} {ti tc : TypeId} {an1 an2 an3 : Ann} {c1 c2 c3 : ACode} {rs : List ARes} (D : DoorB P f h ti tc an1 an2 an3 c1 c2 c3 rs) {v2 v3 : Value} {w : World} :
  CallsD P h #[v2,v3] .returning w fun e u' w'=>e=.returned (.tuple #[])∧u'=.returning∧w'=w:=by
 obtain ⟨F,H,b1,b2,b3,b4,i0,j0,j1,j2,j3,bid,t1,t2,t3,t4,t5,t6,t7,t8,p1,p2,p3,p4,p5,p6,p7,p8,a1,a2,a3,a4,a5,a6,a7,a8,at1,at2,ims,k,hF,hname,hnt,hrs,hbody,hc1,hc2,hn1,hn2,hk2,hH,hHname,hHn,hHr,hHb,hc3,hn3,hti,htc⟩:=D.ex
 refine callsD_of_wpS hH hHb fun c₀ cs hu=>?_
 apply wpS_seq
 apply wpS_region
 simp [wpOpsS,go_sem,recoverD,hu,hHn,Exit.thenS]
 refine wpS_of_wp ?_
 generalize hT : (#[v2,v3]++(Array.replicate 11 undef).setIfInBounds 3 Value.nilIface)=T
 have hs : T.size=13:=by rw [←hT];simp
 have hT5 : T.getD 5 undef=.nilIface:=by rw [←hT];simp [Array.getD]
 clear hT
 refine wp_block (wp_seq (wp_region_list (wpList_one rfl ?_)))
 unfold Oper.wp
 have e1 : ∀ o : Oper,o.op=.binOp .eql ti (.tmp 5) (.const .nilIface) ti→(execOp ({ tmps:=T,defers:=[] } : Act).eval o).run P w=.ok (.value (.bool true)) w:=by
  intro o ho
  unfold execOp;rw [ho]
  simp only [Act.eval,hT5]
  exact run_v (run_ieq_nil (P:=P) (w:=w) hti false (op:=.eql) (.tmp 5) .nilIface rfl)
 rw [e1 _ rfl,Oper.upon_value]
 refine wpList_nil ?_
 simp only [Exit.then]
 refine wp_cond_true (by simp only [Act.eval];exact pgs (by simp [hs])) ?_
 refine wp_region_list (wpList_one rfl ?_)
 unfold Oper.wp
 generalize hA1 : ({ tmps:=T,defers:=[] } : Act).put (some 7) (.bool true)=A1
 have g1 : ∀ j,j≠7→A1.tmps.getD j undef=T.getD j undef:=by intro j hj;rw [←hA1];exact pgn (by omega)
 have hd1 : A1.defers=[]:=by rw [←hA1];rfl
 have e2 : ∀ o : Oper,o.op=.assign (.tmp 5)→(execOp A1.eval o).run P w=.ok (.value .nilIface) w:=by
  intro o ho
  unfold execOp;rw [ho]
  simp [Act.eval,g1 5 (by omega),hT5]
 rw [e2 _ rfl,Oper.upon_value]
 refine wpList_nil ?_
 simp only [Exit.inBlock,bodyPostS]
 refine ⟨hd1,.returning,?_,.tuple #[],?_,rfl,rfl,trivial⟩
 ·cases c₀;simp_all
 ·simp [results,hHr]
end
section
variable {P : Program} {fs : Nat→Option AFunc} {prim : Prims} {byref : Nat→Bool}
theorem door_ok (hm : P.follows .mixedOrders=true) (hO : ∀ n,OrOk P (callA fs prim byref n)) {f h : FuncId} {ti tc : TypeId} {an1 an2 an3 : Ann} {c1 c2 c3 : ACode} {rs : List ARes} (D : DoorB P f h ti tc an1 an2 an3 c1 c2 c3 rs)
  {args : List AVal} {σ σ' : AHeap} {r : AVal} (hg : doorG fs prim byref tc c1 c2 c3 rs args σ=some (r,σ')) :
  (∃ fn,P.funcs[f]?=some fn∧fn.body.isSome=true∧(fn.name == "runtime.NumGoroutine")=false) ∧
  ∀ base w0 I0 I β w (vs : Array Value),KLt base w0→Rel base w0 I0 I β σ w→VRs I β args vs.toList →
   Calls P f vs w (fun e w'=>∃ u,Ends r e u∧PostF σ.length base w0 I0 I β r σ' u w'):=by
 obtain ⟨F,H,b1,b2,b3,b4,i0,j0,j1,j2,j3,bid,t1,t2,t3,t4,t5,t6,t7,t8,p1,p2,p3,p4,p5,p6,p7,p8,a1,a2,a3,a4,a5,a6,a7,a8,at1,at2,ims,k,hF,hname,hnt,hrs,hbody,hc1,hc2,hn1,hn2,hk2,hH,hHname,hHn,hHr,hHb,hc3,hn3,hti,htc⟩:=D.ex
 refine ⟨⟨F,hF,by rw [hbody];rfl,hname⟩,?_⟩
 intro base w0 I0 I β w vs hb R hargs
 unfold doorG at hg
 split at hg
 case h_2=>cases hg
 rename_i tm1 σ1 hx1
 split at hg
 case h_2=>cases hg
 rename_i i j hi hj
 split at hg
 case isFalse=>cases hg
 rename_i hlen
 obtain ⟨hl0,hli,hlj⟩:=hlen
 obtain ⟨n1,hx1⟩:=evC_some.1 hx1
 rw [←hc1,exec_strip] at hx1
 refine calls_of_wp_defers hF hbody ?_
 have T:=enter_TR hargs (F.ntmps - vs.size)
 have hst : StF noDoor σ.length an1.nt base w0 I0 I β (enterA 0 args []) σ { tmps:=vs++Array.replicate (F.ntmps - vs.size) undef,defers:=[] } w:=⟨I,β,Imm.le.refl I,KeptE.refl _ β,T,⟨noDoor_ok.2 rfl,by rw [hn1];simp;omega⟩,R⟩
 refine wp_seq ?_
 refine code_sound (dr:=noDoor) (an:=an1) (hO n1) (fun n hn=>by simp [noDoor] at hn) hm hb σ.length n1 rfl hst hx1 ?_
 rintro A0 w1 ⟨I1,β1,g1,g2,T1,⟨gd,gs⟩,R1⟩
 have gd:=noDoor_ok.1 gd
 rw [hn1] at gs
 simp only [Exit.then]
 refine wp_seq (wp_region_list (wpList_one rfl ?_))
 unfold Oper.wp
 have e1 : ∀ o : Oper,o.op=.makeFunc (.func h) #[] #[.tmp 2,.tmp 3]→(execOp A0.eval o).run P w1=.ok (.value (.func (.func h) #[] #[A0.tmps.getD 2 undef,A0.tmps.getD 3 undef])) w1:=by
  intro o ho
  unfold execOp;rw [ho]
  refine run_v ?_
  simp [Instr.makeFunc,Act.eval]
 rw [e1 _ rfl,Oper.upon_value]
 generalize hv2 : A0.tmps.getD 2 undef=v2
 generalize hv3 : A0.tmps.getD 3 undef=v3
 have hr2 : VR I1 β1 (.ref i 0) v2:=by rw [←hv2,←hi];exact T1 2
 have hr3 : VR I1 β1 (.ref j 0) v3:=by rw [←hv3,←hj];exact T1 3
 generalize hA1 : A0.put (some 5) (.func (.func h) #[] #[v2,v3])=A1
 have hs1 : A1.tmps.size=A0.tmps.size:=by rw [←hA1,put_size]
 have q1 : ∀ j,j≠5→A1.tmps.getD j undef=A0.tmps.getD j undef:=by intro j hj;rw [←hA1];exact pgn (by omega)
 have q5 : A1.tmps.getD 5 undef=.func (.func h) #[] #[v2,v3]:=by rw [←hA1];exact pgs (by omega)
 have hd1 : A1.defers=[]:=by rw [←hA1];exact gd
 refine wpList_one rfl ?_
 unfold Oper.wp
 have e2 : ∀ o : Oper,o.op=.defer ⟨.value (.tmp 5),#[],at1⟩→(execOp A1.eval o).run P w1=.ok (.defer ⟨.fn (.func h) #[v2,v3],#[]⟩) w1:=by
  intro o ho
  unfold execOp;rw [ho]
  simp [resolve,Act.eval,q5,Deferred.ofValue]
 rw [e2 _ rfl,Oper.upon_defer]
 refine wpList_nil ?_
 simp only [Exit.then]
 generalize hd : (⟨.fn (.func h) #[v2,v3],#[]⟩ : Deferred)=d
 have hA2 : ({ A1 with defers:=d::A1.defers } : Act).put none undef={ A1 with defers:=[d] }:=by rw [hd1];rfl
 rw [hA2]
 let dr : Door:=⟨[d],[2,3],fun n=>if n=2 then v2 else v3⟩
 have hdr : dr.ok { A1 with defers:=[d] }:=by
  refine ⟨rfl,fun j hj=>?_⟩
  simp only [dr,List.mem_cons,List.not_mem_nil,or_false] at hj
  rcases hj with rfl | rfl
  ·show A1.tmps.getD 2 undef=_;rw [q1 2 (by omega),hv2];rfl
  ·show A1.tmps.getD 3 undef=_;rw [q1 3 (by omega),hv3];rfl
 have T2 : TR I1 β1 (tput tm1 (some 5) .top) A1.tmps:=by
  rw [←hA1]
  exact put_sound T1 (by simp only [VR]) (fun n hn=>by injection hn with hn;omega)
 unfold doorA at hg
 have hst2 : StF dr σ1.length an2.nt base w0 I0 I1 β1 (tput tm1 (some 5) .top) σ1 { A1 with defers:=[d] } w1:=⟨I1,β1,Imm.le.refl I1,KeptE.refl _ β1,T2,⟨hdr,by rw [hn2];show 20≤A1.tmps.size;omega⟩,R1⟩
 have lift : ∀ {I' : Imm} {β' : Bmap},I1.le I'→KeptE σ1.length β1 β'→I.le I'∧KeptE σ.length β β':=fun h1 h2=>⟨g1.trans h1,g2.trans (fun t ht bi e=>h2 t (by omega) bi e)⟩
 have hinv : ∀ w : World,(invoke (.fn (.func h) #[v2,v3]) #[]).run P w=.ok (.enter h #[v2,v3]) w:=fun w=>by
  unfold invoke
  simpa using run_callFunc (args:=#[v2,v3]) (w:=w) hH (by rw [hHb];rfl) hHname
 have tm2 : ∀ {A : Act},dr.ok A→A.tmps.getD 2 undef=v2∧A.tmps.getD 3 undef=v3:=fun hA=>⟨hA.2 2 (by simp [dr]),hA.2 3 (by simp [dr])⟩
 split at hg
 case h_3=>cases hg
 ·rename_i tmx σ2 hx2
  obtain ⟨n2,hx2⟩:=evC_some.1 hx2
  rw [←hc2,exec_strip] at hx2
  refine code_sound (dr:=dr) (an:=an2) (hO n2) (fun n hn=>by rw [hk2];exact hn) hm hb σ1.length n2 rfl hst2 hx2 ?_
  rintro A3 w3 ⟨I3,β3,k1,k2,T3,⟨kd,ks⟩,R3⟩
  show Leaves P F A3.tmps _ A3.defers .returning w3
  rw [kd.1]
  show Leaves P F A3.tmps _ [d] .returning w3
  rw [←hd]
  refine leaves_cons (f:=h) (args:=#[v2,v3]) (by simp) (hinv w3) ?_
  refine (catch_idle D).mono ?_
  rintro e u' w' ⟨rfl,rfl,rfl⟩
  simp only [settle,Leaves]
  obtain ⟨l1,l2⟩:=lift k1 k2
  exact endD_sound hrs l1 l2 R3 (by rw [(tm2 kd).1];exact ref_kept k2 hli hr2) (by rw [(tm2 kd).2];exact ref_kept k2 hlj hr3) hg
 ·rename_i t x tmx σ2 hx2
  split at hg
  case isFalse=>cases hg
  rename_i ht
  subst ht
  split at hg
  case h_2=>cases hg
  rename_i tmy σ3 hx3
  obtain ⟨n2,hx2⟩:=evC_some.1 hx2
  rw [←hc2,exec_strip] at hx2
  obtain ⟨n3,hx3⟩:=evC_some.1 hx3
  refine code_sound (dr:=dr) (an:=an2) (hO n2) (fun n hn=>by rw [hk2];exact hn) hm hb σ1.length n2 rfl hst2 hx2 ?_
  rintro A3 u w3 kd ⟨I3,β3,k1,k2,R3,kv⟩
  simp only [valOf,VR] at kv
  obtain ⟨v,rfl,kv⟩:=kv
  show Leaves P F A3.tmps _ A3.defers (.panicking [{ v:=.iface t v,recovered:=false }]) w3
  rw [kd.1]
  show Leaves P F A3.tmps _ [d] _ w3
  rw [←hd]
  refine leaves_cons (f:=h) (args:=#[v2,v3]) (by simp) (hinv w3) ?_
  refine (catch_pan hm (hO n3) D hb R3 (ref_kept k2 hli hr2) (ref_kept k2 hlj hr3) kv hx3).mono ?_
  rintro e u' w' ⟨rfl,rfl,I4,β4,m1,m2,R4⟩
  simp only [settle,List.dropWhile,Leaves]
  have k3:=k2.trans m2
  obtain ⟨l1,l2⟩:=lift (k1.trans m1) k3
  exact endD_sound hrs l1 l2 R4 (by rw [(tm2 kd).1];exact ref_kept k3 hli hr2) (by rw [(tm2 kd).2];exact ref_kept k3 hlj hr3) hg
end
section
variable {fs : Nat→Option AFunc} {p p' : Prims} {byref : Nat→Bool}
theorem ole_more (h0 : ∀ f,p f=none→p' f=none) (h1 : ∀ f g,p f=some g→p' f=some g∨∀ a σ,g a σ=none) : ∀ n,OLe (callA fs p byref n) (callA fs p' byref n)
 | 0=>by intro f a σ r h;simp only [callA] at h;cases h
 | n+1=>by
  intro f a σ r h
  rw [callA] at h ⊢
  split at h
  ·rename_i g hg
   rcases h1 f g hg with h2 | h2
   ·rw [h2];exact h
   ·rw [h2] at h;cases h
  ·rename_i hg
   rw [h0 f hg]
   split at h
   ·cases h
   ·rename_i fn hfn
    exact finA_mono (fun q hq=>execC_mono (ole_more h0 h1 n) (Nat.le_refl n) hq) h
theorem ole_EV_more (h0 : ∀ f,p f=none→p' f=none) (h1 : ∀ f g,p f=some g→p' f=some g∨∀ a σ,g a σ=none) : OLe (EV fs p byref) (EV fs p' byref):=by
 intro f a σ r h
 obtain ⟨n,hn⟩:=EV_some.1 h
 exact EV_some.2 ⟨n,ole_more h0 h1 n f a σ r hn⟩
end
end Go.Proofs.YtmlkhhidifjjfaaDoor
namespace Go.Proofs.YtmlkhhidifjjfaaDoor
open Go.Shelf
def ren196 : Ren:=⟨fun | 196=>142 | 259=>157 | n=>n,fun | 9=>9 | 4=>4 | 3=>3 | 5=>5 | 12=>12 | 119=>213 | 0=>0 | 46=>139 | 139=>216 | 138=>215 | 53=>101 | n=>n,fun | 3=>0 | 4=>1 | n=>n⟩
theorem lay196 : Go.Proofs.Lays.n196 Tryd.prog ren196:={ mixed:=by kernel_rfl,f196:=Tryd.func142.trans (congrArg some (by kernel_rfl)),f259:=Tryd.func157.trans (congrArg some (by kernel_rfl)),t0:=Tryd.underlying0,a0:=Tryd.isAgg0,z0:=Tryd.sizeOf0,v0:=Tryd.zeroValue0,t3:=Tryd.underlying3,a3:=Tryd.isAgg3,z3:=Tryd.sizeOf3,v3:=Tryd.zeroValue3,t4:=Tryd.underlying4,a4:=Tryd.isAgg4,z4:=Tryd.sizeOf4,v4:=Tryd.zeroValue4,t5:=Tryd.underlying5,a5:=Tryd.isAgg5,z5:=Tryd.sizeOf5,v5:=Tryd.zeroValue5,t9:=Tryd.underlying9,a9:=Tryd.isAgg9,z9:=Tryd.sizeOf9,v9:=Tryd.zeroValue9,t12:=Tryd.underlying12,a12:=Tryd.isAgg12,z12:=Tryd.sizeOf12,v12:=Tryd.zeroValue12,t46:=Tryd.underlying139,a46:=Tryd.isAgg139,z46:=Tryd.sizeOf139,v46:=Tryd.zeroValue139,t53:=Tryd.underlying101,a53:=Tryd.isAgg101,z53:=Tryd.sizeOf101,v53:=Tryd.zeroValue101,t119:=Tryd.underlying213,a119:=Tryd.isAgg213,z119:=Tryd.sizeOf213,t138:=Tryd.underlying215,a138:=Tryd.isAgg215,z138:=Tryd.sizeOf215,v138:=Tryd.zeroValue215,t139:=Tryd.underlying216,a139:=Tryd.isAgg216,z139:=Tryd.sizeOf216,v139:=Tryd.zeroValue216,g3:=by kernel_rfl,g4:=by kernel_rfl }
end Go.Proofs.YtmlkhhidifjjfaaDoor
namespace Go.Proofs.YtmlkhhidifjjfaaDoor
set_option maxRecDepth 100000
set_option maxHeartbeats 2000000
theorem follows_ok : Tryd.prog.follows .mixedOrders=true:=by kernel_rfl
theorem pr_clone_bytes : CloneB Tryd.prog 22 1 1 (.int .u8 0) 111:=⟨_,_,_,_,_,_,_,_,_,_,_,rfl,rfl,rfl,by kernel_rfl,rfl,rfl,rfl,rfl,rfl,rfl,rfl,rfl,by kernel_rfl,by kernel_rfl,⟨_,_,_,_,rfl⟩,rfl,by decide⟩
theorem pr_clone_props : CloneB Tryd.prog 28 5 72 (.agg [.int .i64 0,.int .i64 0,.str [],.str [],.lst true []]) 137:=⟨_,_,_,_,_,_,_,_,_,_,_,rfl,rfl,rfl,by kernel_rfl,rfl,rfl,rfl,rfl,rfl,rfl,rfl,rfl,by kernel_rfl,by kernel_rfl,⟨_,_,_,_,rfl⟩,rfl,by decide⟩
theorem lookT_mem {α : Type} {d v : α} : ∀ {l : List (Nat×α)} {n : Nat},lookT d l n=v→v=d∨(n,v) ∈ l
 | [],n,h=>Or.inl h.symm
 | (k,w)::r,n,h=>by
  simp only [lookT] at h
  split at h
  ·rename_i e;subst e h;exact Or.inr (by simp)
  ·rcases lookT_mem h with h | h
   ·exact Or.inl h
   ·exact Or.inr (by simp [h])
theorem prim_ok : PrimOk Tryd.prog PR:=by
 intro f g h args σ r σ' hg
 rcases lookT_mem h with h | h
 ·cases h
 unfold primT at h
 simp only [List.mem_cons,Prod.mk.injEq,Option.some.injEq,List.not_mem_nil,or_false] at h
 rcases h with ⟨rfl,rfl⟩ | h
 ·exact clone_ok follows_ok pr_clone_bytes hg
 rcases h with ⟨rfl,rfl⟩ | h
 ·exact clone_ok follows_ok pr_clone_props hg
 rcases h with ⟨rfl,rfl⟩ | h
 ·exact valid_ok ⟨Tryd.f142,Tryd.func142,by kernel_rfl,by kernel_rfl⟩ (fun s w hs hT=>Any.utf8_ValidString lay196 s w hs hT) hg
 rcases h with ⟨rfl,rfl⟩ | h
 ·exact noPrim_no hg
 rcases h with ⟨rfl,rfl⟩ | h
 ·exact noPrim_no hg
 exact absurd h.2 (by simp)
end Go.Proofs.YtmlkhhidifjjfaaDoor
namespace Go.Proofs.YtmlkhhidifjjfaaDoor
def bytesLim : Nat:=70368744177664
def bwritePrim (args : List AVal) (σ : AHeap) : Option (AVal×AHeap):=match args,σ with
 | [.ref 0 0,.lst _ ys],[.var [.lst true [],.int .i64 0,.int .i8 _]] =>
  if ys.length≤bytesLim∧kOk 1 ys=true then some (.tup [.int .i64 ys.length,.nili],[.var [.sl 1 0 0 ys.length,.int .i64 0,.int .i8 0],.row 0 1 ys]) else none
 | [.ref 0 0,.lst _ ys],[.var [.sl 1 g 0 m,.int .i64 0,.int .i8 _],.row g' 1 xs] =>
  if g=g'∧m=xs.length∧xs.length+ys.length≤bytesLim∧kOk 1 ys=true then some (.tup [.int .i64 ys.length,.nili],[.var [.sl 1 (g+1) 0 (xs++ys).length,.int .i64 0,.int .i8 0],.row (g+1) 1 (xs++ys)]) else none
 | _,_=>none
end Go.Proofs.YtmlkhhidifjjfaaDoor
namespace Go.Proofs.YtmlkhhidifjjfaaDoor
set_option maxRecDepth 100000
set_option maxHeartbeats 4000000
def c1R : ACode :=  (.region [⟨(some 1),(.box (.t 0)),none,[]⟩,⟨(some 2),(.alloc [(.int .i64 0),(.bool false),(.int .i64 0),(.bool false),(.int .i64 0),(.str []),(.lst true []),(.int .i64 0),(.lst true []),(.lst true []),(.lst true []),(.lst true []),(.bool false),(.int .i64 0),(.str []),(.bool false),(.str []),(.lst true []),(.int .i64 0),(.bool false),(.lst true []),(.bool false),(.str []),(.bool false),(.lst true []),(.bool false)]),none,[]⟩,⟨(some 3),(.alloc [(.int .i64 0)]),none,[]⟩] none [3,2,1])
def c2R : ACode:=(.seq (.region [⟨(some 6),(.faddr 1 (.t 1)),none,[]⟩,⟨(some 7),(.ld none (.t 6)),none,[]⟩,⟨(some 8),(.build [(.int .i64 0),(.bool false),(.int .i64 0),(.bool false),(.int .i64 0),(.str []),(.lst true []),(.int .i64 0),(.lst true []),(.lst true []),(.lst true []),(.lst true []),(.bool false),(.int .i64 0),(.str []),(.bool false),(.str []),(.lst true []),(.int .i64 0),(.bool false),(.lst true []),(.bool false),(.str []),(.bool false),(.lst true []),(.bool false),(.lst true [])] [(26,1,(.t 7))]),none,[]⟩,⟨(some 9),(.box (.t 8)),none,[]⟩,⟨(some 4),(.mov (.t 9)),none,[]⟩] none [4,3,2,1]) (.seq (.region [⟨(some 10),(.mov (.t 4)),none,[]⟩,⟨(some 11),(.faddr 0 (.t 1)),none,[]⟩,⟨(some 12),(.ld none (.t 11)),none,[]⟩,⟨(some 13),(.call 76 0 true [(.t 10),(.t 12)]),none,[]⟩] none [4,3,2]) (.seq (.region [⟨(some 14),(.mov (.t 4)),none,[]⟩,⟨(some 15),(.call 77 1 true [(.t 14)]),none,[]⟩] none [4,3,2]) (.seq (.region [⟨(some 16),(.mov (.t 4)),none,[]⟩,⟨(some 17),(.nilchk (.t 16)),none,[]⟩,⟨(some 18),(.faddr 0 (.t 17)),none,[]⟩,⟨(some 19),(.ld (some 26) (.t 18)),none,[]⟩,⟨none,(.st 26 (.t 2) (.t 19)),none,[]⟩,⟨none,(.st 1 (.t 3) (.c (.int .i64 0))),none,[]⟩] none [3,2]) .ret))))
def c3R : ACode:=(.seq (.region [⟨(some 3),(.mov (.t 10)),none,[]⟩] none [3,1,0]) (.region [⟨(some 11),(.build [(.int .i64 0),(.bool false),(.int .i64 0),(.bool false),(.int .i64 0),(.str []),(.lst true []),(.int .i64 0),(.lst true []),(.lst true []),(.lst true []),(.lst true []),(.bool false),(.int .i64 0),(.str []),(.bool false),(.str []),(.lst true []),(.int .i64 0),(.bool false),(.lst true []),(.bool false),(.str []),(.bool false),(.lst true []),(.bool false)] []),none,[]⟩,⟨(some 12),(.mov (.t 3)),none,[]⟩,⟨none,(.st 26 (.t 0) (.t 11)),none,[]⟩,⟨none,(.st 1 (.t 1) (.t 12)),none,[]⟩] none []))
def rsR : List ARes:=[(.cell 2 (some 26)),(.cell 3 none)]
def an1R : Ann:={ nt:=20,lr:=fun _=>[3,2,1] }
def an2R : Ann:={ ann 32 with nt:=20,keep:=[2,3],cfg:=fun f=>if f=77 then (1,true) else (0,true) }
def an3R : Ann:={ ann 75 with nt:=13 }
theorem doorR : DoorB Tryd.prog 32 75 20 61 an1R an2R an3R c1R c2R c3R rsR :=
 ⟨_,_,_,_,_,_,_,_,_,_,_,_,_,_,_,_,_,_,_,_,_,_,_,_,_,_,_,_,_,_,_,_,_,_,_,_,_,_,#[],.i64,rfl,by kernel_rfl,rfl,by kernel_rfl,rfl,by kernel_rfl,by kernel_rfl,rfl,rfl,rfl,rfl,by kernel_rfl,rfl,rfl,rfl,by kernel_rfl,rfl,by kernel_rfl,by kernel_rfl⟩
noncomputable def readG : List AVal→AHeap→Option (AVal×AHeap):=doorG FC PR BY 61 c1R c2R c3R rsR
noncomputable def PR1 : Prims:=fun f=>if f=32 then some readG else if f=130 then some bwritePrim else PR f
noncomputable abbrev E1 : Oracle:=EV FC PR1 BY
theorem ole1 : OLe E E1:=by
 refine ole_EV_more (fun f hf=>?_) (fun f g hg=>?_)
 ·unfold PR1
  rw [if_neg (by rintro rfl;revert hf;decide),if_neg (by rintro rfl;revert hf;decide)]
  exact hf
 ·by_cases h1 : f=32
  ·subst h1
   have : PR 32=some noPrim:=by rfl
   rw [this] at hg;injection hg with hg;subst hg
   exact Or.inr fun _ _=>rfl
  by_cases h2 : f=130
  ·subst h2
   have : PR 130=some noPrim:=by rfl
   rw [this] at hg;injection hg with hg;subst hg
   exact Or.inr fun _ _=>rfl
  refine Or.inl ?_
  unfold PR1
  rw [if_neg h1,if_neg h2]
  exact hg
theorem E1_eq {f : Nat} {fn : AFunc} (hp : PR1 f=none) (hf : FC f=some fn) (args : List AVal) (σ : AHeap) : E1 f args σ=finA σ.length fn (evC FC PR1 BY σ.length fn.body (enterA 0 args []) σ):=EV_eq hp hf args σ
theorem E1_read (args : List AVal) (σ : AHeap) : E1 32 args σ=readG args σ:=EV_prim (by rfl) args σ
theorem E1_write (args : List AVal) (σ : AHeap) : E1 130 args σ=bwritePrim args σ:=EV_prim (by rfl) args σ
theorem read_ok {args : List AVal} {σ σ' : AHeap} {r : AVal} (hg : readG args σ=some (r,σ')) :
  (∃ fn,Tryd.prog.funcs[32]?=some fn∧fn.body.isSome=true∧(fn.name == "runtime.NumGoroutine")=false) ∧
  ∀ base w0 I0 I β w (vs : Array Value),KLt base w0→Rel base w0 I0 I β σ w→VRs I β args vs.toList →
   Calls Tryd.prog 32 vs w (fun e w'=>∃ u,Ends r e u∧PostF σ.length base w0 I0 I β r σ' u w') :=
 door_ok follows_ok (fun n=>by
  have h : callA FC PR BY n=callA CF PR BY n:=callA_strip CF PR BY n
  rw [h]
  exact call_sound follows_ok prim_ok ann BY n) doorR hg
end Go.Proofs.YtmlkhhidifjjfaaDoor
namespace Go.Proofs.YtmlkhhidifjjfaaDoor
set_option maxHeartbeats 8000000
set_option maxRecDepth 10000
def wn : List AVal:=[.lst true [],.int .i64 0,.int .i8 0]
def wv (r g n : Nat) : List AVal:=[.sl r g 0 n,.int .i64 0,.int .i8 0]
def wH (g : Nat) (l : Bytes) : AHeap:=[.var (wv 1 g l.length),.row g 1 (l.map byteV)]
theorem lift1 {σ : AHeap} {site f own : Nat} {view : Bool} {args : List AVal} {r : AVal×AHeap×Cls} (h : callG E BY σ site f own view args=some r) : callG E1 BY σ site f own view args=some r:=callG_mono ole1 h
theorem w_call {O : Oracle} {f : Nat} {args args' : List AVal} {l l' : Bytes} {q : AVal} (hq : noRef q=true) (hw : viewR (wH 1 l') q=some (q,[])∧viewR (wH 0 l') q=some (q,[])) (g2 : Nat) (hg2 : g2≤1) (h : O f (.ref 0 0::args') (wH 0 l)=some (q,wH g2 l')) (hb : BY f=false) (hp : args.all plainV=true) (hn : args.map normV=args') {σ : AHeap} {t r g site own : Nat} (htr : t≠r) (hff : freeFrom σ site own=true) (hs : σ[t]?=some (.var (wv r g l.length))) (hr : σ[r]?=some (.row g 1 (l.map byteV))) :
  callG O BY σ site f own true (.ref t 0::args)=some (q,(σ.set t (.var (wv r (g+g2) l'.length))).set r (.row (g+g2) 1 (l'.map byteV)),{ any:=true,upd:=[(t,wv r (g+g2) l'.length)] }):=by
 subst hn
 have hw' : viewR [.var (wv 1 g2 l'.length),.row g2 1 (l'.map byteV)] q=some (q,[]):=by
  rcases Nat.lt_or_ge g2 1 with e | e
  ·obtain rfl : g2=0:=by omega
   exact hw.2
  ·obtain rfl : g2=1:=by omega
   exact hw.1
 exact call_two (cs1:=wv 1 0 l.length) (cs2:=wv 1 g2 l'.length) hs hr htr rfl hb hp (fun ρ hρ=>by simp only [wv,renL,renV,hρ]) hg2 hff hq h (ask_two true hq hw' rfl hg2 (fun ρ hρ=>by simp only [wv,renL,renV,hρ])) (fun ρ hρ=>by simp only [wv,renL,renV,hρ])
theorem w_new {O : Oracle} {f : Nat} {args args' : List AVal} {l' : Bytes} {q : AVal} (hq : noRef q=true) (hv : askO true 1 (some (q,wH 0 l'))=some (q,wH 0 l')) (h : O f (.ref 0 0::args') [.var wn]=some (q,wH 0 l')) (hb : BY f=false) (hp : args.all plainV=true) (hn : args.map normV=args') {σ : AHeap} {t site : Nat} (hf : σ[site]?=some .free) (hs : σ[t]?=some (.var wn)) :
  callG O BY σ site f 1 true (.ref t 0::args)=some (q,(σ.set t (.var (wv site 0 l'.length))).set site (.row 0 1 (l'.map byteV)),{ any:=true,upd:=[(t,wv site 0 l'.length)] }):=by
 subst hn
 have htl : t < σ.length:=(List.getElem?_eq_some_iff.1 hs).1
 have hsl : site < σ.length:=(List.getElem?_eq_some_iff.1 hf).1
 have hne : site≠t:=by rintro rfl;rw [hs] at hf;cases hf
 have h1 : σ.getD t .free=.var wn:=by simp [List.getD_eq_getElem?_getD,hs]
 have hf0 : freezeA σ []=σ:=rfl
 have hsh : showAs σ (.ref t 0::args)=some (.ref t 0::args.map normV,[]):=by
  rw [showAs,show showA σ (.ref t 0)=some (.ref t 0,[]) from rfl,plainVs_show hp]
  rfl
 have href : refsL (.ref t 0::args.map normV)=[t]:=by
  rw [refsL,normVs_refs hp];rfl
 have hre : reach σ 1000 [t] []=[t]:=by
  have e1 : ([] : List Nat).contains t=false:=rfl
  rw [show (1000 : Nat)=998+1+1 from rfl,reach,e1]
  simp only [Bool.false_eq_true,if_false,h1,refsB]
  rfl
 unfold callG showIf
 rw [hb]
 simp only [Bool.false_eq_true,if_false,hsh,hf0,href,hre]
 unfold callI
 have hall : ([t].all fun t=>okB (σ.getD t .free))=true:=by simp only [List.all_cons,List.all_nil,h1,okB,Bool.and_true]
 rw [if_pos hall]
 have hρt : rhoOf σ 0 [t] t 0=some (0,0):=by simp [rhoOf,idxA,hs,genB,newGen]
 have hargs : renL (rhoOf σ 0 [t]) (.ref t 0::args.map normV)=.ref 0 0::args.map normV:=by
  rw [renL,normVs_ren hp]
  simp only [renV,hρt]
 have hheap : heapOf σ 0 [t] (rhoOf σ 0 [t]) [t] 0=[.var wn]:=by
  simp only [heapOf,h1,renB]
  rfl
 rw [hargs,hheap,h]
 rw [show [t].length=1 from rfl,hv]
 have hk : okBack σ [t] (wH 0 l') 0=true:=by simp [wH,okBack,okB,sameKind,genB,hs]
 have hff : freeFrom σ site 1=true:=by simp [freeFrom,freeAt,hf]
 have hup : updOf ((σ.set t (.var (wv site 0 l'.length))).set site (.row 0 1 (l'.map byteV))) [t]=[(t,wv site 0 l'.length)]:=by
  have e1 : ((σ.set t (.var (wv site 0 l'.length))).set site (.row 0 1 (l'.map byteV)))[t]?=some (.var (wv site 0 l'.length)):=by
   rw [List.getElem?_set_ne hne,List.getElem?_set_self htl]
  simp only [updOf,e1]
 have hlay : layBack σ [t] site (wH 0 l') 0 σ=(σ.set t (.var (wv site 0 l'.length))).set site (.row 0 1 (l'.map byteV)):=by
  simp [wH,layBack,tgtBack,genBack,renB,genB,wv,renL,renV,rhoBack]
 simp only [backG,List.isEmpty_cons,Bool.false_and,Bool.false_eq_true,if_false,hk,hff,hlay,hup,(noRef_spec _ _ hq).1]
 rfl
def wT (n : Nat) : AVal:=.tup [.int .i64 (n : Nat),.nili]
theorem q_wr0 (x : Bytes) (hx : x.length≤bytesLim) : E1 130 [.ref 0 0,.lst false (x.map byteV)] [.var wn]=some (wT x.length,wH 0 x):=by
 rw [E1_write]
 simp only [bwritePrim,wn,List.length_map,hx,kokB,and_self,if_true]
 rfl
theorem q_wr1 (l x : Bytes) (hx : l.length+x.length≤bytesLim) : E1 130 [.ref 0 0,.lst false (x.map byteV)] (wH 0 l)=some (wT x.length,wH 1 (l++x)):=by
 rw [E1_write]
 simp only [bwritePrim,wH,wv,List.length_map,hx,kokB,and_self,if_true,List.map_append,List.length_append]
 rfl
theorem q_wr0C (x : Bytes) (hx : x.length≤bytesLim) {σ : AHeap} {t site : Nat} (hf : σ[site]?=some .free) (hs : σ[t]?=some (.var wn)) :
  callG E1 BY σ site 130 1 true [.ref t 0,.lst false (x.map byteV)]=some (wT x.length,(σ.set t (.var (wv site 0 x.length))).set site (.row 0 1 (x.map byteV)),{ any:=true,upd:=[(t,wv site 0 x.length)] }) :=
 w_new (args:=[.lst false (x.map byteV)]) rfl rfl (q_wr0 x hx) (by kernel_rfl) rfl rfl hf hs
theorem ff1 {σ : AHeap} {site : Nat} (hf : σ[site]?=some .free) : freeFrom σ site 1=true:=by simp [freeFrom,freeAt,hf]
theorem q_wr1C (l x : Bytes) (hx : l.length+x.length≤bytesLim) {σ : AHeap} (t r g : Nat) {site : Nat} (htr : t≠r) (hf : σ[site]?=some .free) (hs : σ[t]?=some (.var (wv r g l.length))) (hr : σ[r]?=some (.row g 1 (l.map byteV))) :
  callG E1 BY σ site 130 1 true [.ref t 0,.lst false (x.map byteV)]=some (wT x.length,(σ.set t (.var (wv r (g+1) (l++x).length))).set r (.row (g+1) 1 ((l++x).map byteV)),{ any:=true,upd:=[(t,wv r (g+1) (l++x).length)] }) :=
 w_call (args:=[.lst false (x.map byteV)]) rfl ⟨rfl,rfl⟩ 1 (by omega) (q_wr1 l x hx) (by kernel_rfl) rfl rfl htr (ff1 hf) hs hr
theorem out_w0 (x : Bytes) (σ : AHeap) : outA 1 (.var (wv 1 0 x.length)::.row 0 1 (x.map byteV)::σ) (.tup [])=some (.tup [],wH 0 x):=rfl
theorem out_w2 (l : Bytes) (g : Nat) (σ : AHeap) : outA 2 (.var (wv 1 (g+1) l.length)::.row (g+1) 1 (l.map byteV)::σ) (.tup [])=some (.tup [],wH 1 l):=by
 simp [outA,gcA,gcIds,refsL,refsV,List.range,List.range.loop,refsB,wv,reach,rhoOf,idxA,heapOf,newGen,genB,renB,renL,renV,wH]
theorem q_wnum0 (n : Int) (W : Nat) (h1 : 1≤W) (hW : W≤8) : E1 127 [.ref 0 0,.int .i64 n,.int .i64 (W : Nat)] [.var wn]=some (.tup [],wH 0 (beB (u64N n) W)):=by
 have hw:=wrap_u64N n
 have hP:=fun σ site own=>lift1 (q_putC σ site own (u64N n) W h1 hW)
 have hlen : (beB (u64N n) W).length≤bytesLim:=by rw [beB_len];unfold bytesLim;omega
 generalize beB (u64N n) W=B at *
 have hC:=fun {σ : AHeap} {t site : Nat}=>q_wr0C B hlen (σ:=σ) (t:=t) (site:=site)
 have hO:=fun σ=>out_w0 B σ
 rw [E1_eq (by rfl) cf_packet_writer_number]
 unfold wn at *
 simp -implicitDefEqProofs only [EVS0,EVS1,EVL0,eq_self,exI,nsite,freeAt,execI,Opd.ev,tget,tins,tput,keepL,sitesOf,List.sum_cons,List.sum_nil,Nat.reduceAdd,Nat.reduceLT,Nat.reduceEqDiff,Nat.reduceBEq,beq_self_eq_true,faddrA,reduceCtorEq,resA,resAll,enterA,↓reduceIte,cb_packet_writer_number,b_packet_writer_number,cr_packet_writer_number,oI,faddrA,hw,hP,hC,wT,hO,isCallI,isLdI,isAppI,gotOk]
theorem q_wnum1 (l : Bytes) (n : Int) (W : Nat) (h1 : 1≤W) (hW : W≤8) (hl : l.length+W≤bytesLim) : E1 127 [.ref 0 0,.int .i64 n,.int .i64 (W : Nat)] (wH 0 l)=some (.tup [],wH 1 (l++beB (u64N n) W)):=by
 have hw:=wrap_u64N n
 have hP:=fun σ site own=>lift1 (q_putC σ site own (u64N n) W h1 hW)
 have hlen : l.length+(beB (u64N n) W).length≤bytesLim:=by rw [beB_len];omega
 generalize beB (u64N n) W=B at *
 have hC:=fun {σ : AHeap} {site : Nat}=>q_wr1C l B hlen (σ:=σ) 0 1 0 (site:=site) (by omega)
 have hO:=fun g σ=>out_w2 (l++B) g σ
 rw [E1_eq (by rfl) cf_packet_writer_number]
 unfold wH at *
 simp -implicitDefEqProofs only [EVS0,EVS1,EVL0,eq_self,exI,nsite,freeAt,execI,Opd.ev,tget,tins,tput,keepL,sitesOf,List.sum_cons,List.sum_nil,Nat.reduceAdd,Nat.reduceLT,Nat.reduceEqDiff,Nat.reduceBEq,beq_self_eq_true,faddrA,reduceCtorEq,resA,resAll,enterA,↓reduceIte,cb_packet_writer_number,b_packet_writer_number,cr_packet_writer_number,oI,faddrA,hw,hP,hC,wT,hO,isCallI,isLdI,isAppI,gotOk]
end Go.Proofs.YtmlkhhidifjjfaaDoor
namespace Go.Proofs.YtmlkhhidifjjfaaDoor
end Go.Proofs.YtmlkhhidifjjfaaDoor
namespace Go.Proofs.YtmlkhhidifjjfaaDoor
set_option maxHeartbeats 4000000
set_option maxRecDepth 10000
theorem q_kcut (b : Bytes) (n : Int) (h0 : 0≤n) : E 18 [bytesV b,.int .i64 n] []=some (bytesV (b.take n.toNat),[]):=by
 rw [E_eq (by rfl) cf_tidingskeep_Cut]
 by_cases h : n < (b.length : Int)
 ·have hl : n≤(b.length : Int):=by omega
  simp -implicitDefEqProofs only [EVS0,EVS1,EVS5,EVS6,EVL0,eq_self,exI,nsite,freeAt,execI,Opd.ev,tget,tins,tput,keepL,sitesOf,List.sum_cons,List.sum_nil,Nat.reduceLT,Nat.reduceEqDiff,beq_self_eq_true,binA,arithA,reduceCtorEq,decide_true,resA,resAll,resOne,enterA,↓reduceIte,cb_tidingskeep_Cut,b_tidingskeep_Cut,cr_tidingskeep_Cut,oI,bytesV,h0,h,hl,slice_hi]
 ·have hl : b.take n.toNat=b:=List.take_of_length_le (by omega)
  simp -implicitDefEqProofs only [EVS0,EVS1,EVS5,EVS6,EVL0,eq_self,exI,nsite,freeAt,execI,Opd.ev,tget,tins,tput,keepL,sitesOf,List.sum_cons,List.sum_nil,Nat.reduceLT,Nat.reduceEqDiff,beq_self_eq_true,Bool.false_eq_true,binA,arithA,reduceCtorEq,decide_false,resA,resAll,resOne,enterA,↓reduceIte,cb_tidingskeep_Cut,b_tidingskeep_Cut,cr_tidingskeep_Cut,oI,bytesV,h,hl]
theorem q_kcutC (σ : AHeap) (site own : Nat) (view : Bool) (b : Bytes) (n : Int) (h0 : 0≤n) : callG E BY σ site 18 own view [.lst false (b.map byteV),.int .i64 n]=some (.lst false ((b.take n.toNat).map byteV),σ,{}) :=
 call_flat (q_kcut b n h0) (by kernel_rfl) (by simp -implicitDefEqProofs only [EVS3,EVL0,eq_self,bytesV]) (by simp -implicitDefEqProofs only [EVS4,EVL0,eq_self,bytesV]) rfl (fun _=>rfl) _ _ _ _
end Go.Proofs.YtmlkhhidifjjfaaDoor
namespace Go.Proofs.YtmlkhhidifjjfaaDoor
set_option maxHeartbeats 16000000
set_option maxRecDepth 10000
structure PropsD where
 fmt : Int
 content : Bytes
 corr : Bytes
 users : Bytes
end Go.Proofs.YtmlkhhidifjjfaaDoor
namespace Go.Proofs.YtmlkhhidifjjfaaDoor
set_option maxHeartbeats 4000000
set_option maxRecDepth 10000
end Go.Proofs.YtmlkhhidifjjfaaDoor
namespace Go.Proofs.YtmlkhhidifjjfaaDoor
set_option maxHeartbeats 16000000
set_option maxRecDepth 10000
structure Nine where
 r1 : Bytes×CurD
 r2 : Bytes×CurD
 r3 : Bytes×CurD
 r4 : Bytes×CurD
 r5 : Bytes×CurD
 r6 : Bytes×CurD
 r7 : Bytes×CurD
 r8 : Bytes×CurD
end Go.Proofs.YtmlkhhidifjjfaaDoor
namespace Go.Proofs.YtmlkhhidifjjfaaDoor
set_option maxHeartbeats 16000000
set_option maxRecDepth 10000
theorem readF_cnt (w : Int) (b : Bytes) : (readF w b).1.length≤268435455:=by
 have hlt:=getVar_lt b
 unfold readF
 split
 ·simp
 ·split
  ·have:=readL_len w (getVarF b).1 ((b.take ((getVarF b).2.1+(getVarF b).1)).drop (getVarF b).2.1) []
   simp only [List.length_drop,List.length_take,List.length_nil] at this
   simp only
   omega
  ·simp
end Go.Proofs.YtmlkhhidifjjfaaDoor
namespace Go.Proofs.YtmlkhhidifjjfaaDoor
set_option maxHeartbeats 16000000
set_option maxRecDepth 10000
structure OkItem (it : ItemD) : Prop where
 note : OkNote it.note
 ids : it.ids.length≤1000000
 share : it.share.length≤9223372036854775807
end Go.Proofs.YtmlkhhidifjjfaaDoor
namespace Go.Proofs.YtmlkhhidifjjfaaDoor
set_option maxHeartbeats 16000000
set_option maxRecDepth 10000
end Go.Proofs.YtmlkhhidifjjfaaDoor
namespace Go.Proofs.YtmlkhhidifjjfaaDoor
set_option maxHeartbeats 16000000
set_option maxRecDepth 10000
structure MadeD where
 topic : Bytes
 sender : Bytes
 share : Bytes
 payload : Bytes
 qos : Int
 sub : Int
 retain : Bool
 keep : Bool
 life : Int
 p : PropsD
 ids : List Int
 origin : Int
 number : Int
structure OkMade (m : MadeD) : Prop where
 topic : m.topic.length≤9223372036854775807
 sender : m.sender.length≤9223372036854775807
 share : m.share.length≤9223372036854775807
 content : m.p.content.length≤9223372036854775807
 users : m.p.users.length≤9223372036854775807
 ids : m.ids.length≤9223372036854775807
end Go.Proofs.YtmlkhhidifjjfaaDoor
namespace Go.Proofs.YtmlkhhidifjjfaaDoor
set_option maxHeartbeats 16000000
set_option maxRecDepth 10000
structure Four where
 d : Bytes×CurD
 m : Bytes×CurD
 k : Bytes×CurD
end Go.Proofs.YtmlkhhidifjjfaaDoor
namespace Go.Proofs.YtmlkhhidifjjfaaDoor
set_option maxHeartbeats 8000000
set_option maxRecDepth 10000
theorem getA_append (x : Nat) (a b : Bytes) : getA x (a++b)=getA (getA x a) b:=by
 unfold getA;rw [List.foldl_append]
theorem getA_beB : ∀ (w n : Nat),w≤8→n < 256 ^ w→getA 0 (beB n w)=n
 | 0,n,_,h=>by simp at h;subst h;rfl
 | w+1,n,hw,h=>by
  have h1 : n / 256 < 256 ^ w:=by rw [Nat.pow_succ] at h;omega
  have ih:=getA_beB w (n / 256) (by omega) h1
  have h2 : 256 ^ w≤256 ^ 7:=Nat.pow_le_pow_right (by decide) (by omega)
  rw [beB,getA_append,ih,getA_cons,getA_nil,UInt8.toNat_ofNat']
  have h3 : (256 : Nat) ^ 7=72057594037927936:=rfl
  omega
theorem getU_beB {w n : Nat} (hw : w≤8) (h : n < 256 ^ w) : getU (beB n w)=n:=getA_beB w n hw h
theorem getData_lay (b rest : Bytes) (h : b.length≤65535) : getDataF ((dataF b).1++rest)=(b,2+b.length,0):=by
 have hd : (dataF b).1=beB b.length 2++b:=by unfold dataF;rw [if_neg (by omega)]
 have hl:=beB_len 2 b.length
 have ht : (beB b.length 2++b++rest).take 2=beB b.length 2:=by
  rw [List.append_assoc];exact List.take_left' hl
 have hdr : (beB b.length 2++b++rest).drop 2=b++rest:=by
  rw [List.append_assoc];exact List.drop_left' hl
 have hu : getU (beB b.length 2)=b.length:=getU_beB (by decide) (by omega)
 unfold getDataF
 rw [hd,ht,hu,hdr,if_neg,List.take_left]
 simp only [List.length_append,hl]
 omega
theorem getText_lay (s rest : Bytes) (ht : textB s=true) (h : s.length≤65535) : getTextF ((textF s).1++rest)=(s,2+s.length,0):=by
 have e : (textF s).1=(dataF s).1:=by unfold textF;rw [if_pos ht]
 have hg:=getData_lay s rest h
 unfold getTextF
 rw [e,hg]
 simp only [ne_eq,not_true_eq_false,if_false,ht,if_true]
def canonP (k : Int) (p : PropD) : Prop :=
 if k=1∨k=2∨k=3∨k=4 then p.text=[]∧p.pair=[]∧p.data=[] else if k=5 then p.num=0∧p.pair=[]∧p.data=[]
 else if k=6 then p.num=0∧p.text=[]∧p.pair=[] else p.num=0∧p.data=[]
structure GoodAt (w : Int) (acc : List PropD) (p : PropD) : Prop where
 good : goodB p=true
 may : mayB p.id w=true
 canon : canonP (kindI p.id) p
 fits : fitsB p.id p.num=true
 dup : ((findP p.id acc).isSome && !oftenB p.id w)=false
end Go.Proofs.YtmlkhhidifjjfaaDoor
namespace Go.Proofs.YtmlkhhidifjjfaaDoor
set_option maxHeartbeats 8000000
set_option maxRecDepth 10000
theorem dataF_le (s : Bytes) : (dataF s).1.length≤65537:=by
 unfold dataF
 split
 ·simp
 ·simp [beB_len];omega
theorem textF_le (s : Bytes) : (textF s).1.length≤65537:=by
 unfold textF
 split
 ·exact dataF_le s
 ·simp
theorem layF_le (w : Int) (l : List PropD) : (layF w l).1.length≤268435460:=by
 unfold layF layE
 generalize (l.map laidF).flatten=b
 by_cases h : (varF b.length).2≠0
 ·rw [if_pos h];simp
 ·rw [if_neg h]
  split
  ·simp
  ·rename_i h2
   have h0 : (readF w ((varF b.length).1++b)).2.2=0:=Classical.byContradiction fun e=>h2 (Or.inl e)
   have h1 : (readF w ((varF b.length).1++b)).2.1=((varF b.length).1++b).length:=Classical.byContradiction fun e=>h2 (Or.inr (Or.inl e))
   have:=readF_end w _ h0
   rw [h1] at this
   exact this
theorem q_wtext0 (s : Bytes) (hs : s.length≤9223372036854775807) : E1 129 [.ref 0 0,.str s] [.var wn]=some (.tup [],wH 0 (textF s).1):=by
 have hP:=fun σ site own=>lift1 (q_textC σ site own s hs)
 unfold byT at hP
 have hlen : (textF s).1.length≤bytesLim:=by have:=textF_le s;unfold bytesLim;omega
 generalize (textF s).1=B at *
 generalize (textF s).2=C at *
 have hC:=fun {σ : AHeap} {t site : Nat}=>q_wr0C B hlen (σ:=σ) (t:=t) (site:=site)
 have hO:=fun σ=>out_w0 B σ
 rw [E1_eq (by rfl) cf_packet_writer_text]
 unfold wn at *
 simp -implicitDefEqProofs only [EVS0,EVS1,EVS5,EVL0,eq_self,exI,nsite,freeAt,execI,Opd.ev,tget,tins,tput,keepL,sitesOf,List.sum_cons,List.sum_nil,Nat.reduceAdd,Nat.reduceLT,Nat.reduceEqDiff,Nat.reduceBEq,beq_self_eq_true,faddrA,reduceCtorEq,resA,resAll,enterA,↓reduceIte,cb_packet_writer_text,b_packet_writer_text,cr_packet_writer_text,oI,faddrA,hP,hC,wT,hO]
theorem q_wtext0C (s : Bytes) (hs : s.length≤9223372036854775807) {σ : AHeap} {t site : Nat} (hf : σ[site]?=some .free) (hs0 : σ[t]?=some (.var wn)) :
  callG E1 BY σ site 129 1 true [.ref t 0,.str s]=some (.tup [],(σ.set t (.var (wv site 0 (textF s).1.length))).set site (.row 0 1 ((textF s).1.map byteV)),{ any:=true,upd:=[(t,wv site 0 (textF s).1.length)] }) :=
 w_new (args:=[.str s]) rfl rfl (q_wtext0 s hs) (by kernel_rfl) rfl rfl hf hs0
theorem q_wprops1 (l : Bytes) (w : Int) (ps : List PropD) (hp : ps.length≤700000000) (hx : ∀ p ∈ ps,OkTx p) (hl : l.length+(layF w ps).1.length≤bytesLim) : E1 128 [.ref 0 0,.int .i64 w,.lst false (ps.map propV)] (wH 0 l)=some (.tup [],wH 1 (l++(layF w ps).1)):=by
 have hP:=fun σ site own=>lift1 (q_playC σ site own false w ps hp hx)
 unfold layV at hP
 generalize (layF w ps).1=B at *
 generalize (layF w ps).2=C at *
 have hC:=fun {σ : AHeap} {site : Nat}=>q_wr1C l B hl (σ:=σ) 0 1 0 (site:=site) (by omega)
 have hO:=fun g σ=>out_w2 (l++B) g σ
 rw [E1_eq (by rfl) cf_packet_writer_props]
 unfold wH at *
 simp -implicitDefEqProofs only [EVS0,EVS1,EVS5,EVL0,eq_self,exI,nsite,freeAt,execI,Opd.ev,tget,tins,tput,keepL,sitesOf,List.sum_cons,List.sum_nil,Nat.reduceAdd,Nat.reduceLT,Nat.reduceEqDiff,Nat.reduceBEq,beq_self_eq_true,faddrA,reduceCtorEq,resA,resAll,enterA,↓reduceIte,cb_packet_writer_props,b_packet_writer_props,cr_packet_writer_props,oI,faddrA,hP,hC,wT,hO]
theorem q_wprops1C (l : Bytes) (w : Int) (ps : List PropD) (hp : ps.length≤700000000) (hx : ∀ p ∈ ps,OkTx p) (hl : l.length+(layF w ps).1.length≤bytesLim) {σ : AHeap} (t r g : Nat) {site : Nat} (htr : t≠r) (hf : σ[site]?=some .free) (hs0 : σ[t]?=some (.var (wv r g l.length))) (hr : σ[r]?=some (.row g 1 (l.map byteV))) :
  callG E1 BY σ site 128 1 true [.ref t 0,.int .i64 w,.lst false (ps.map propV)]=some (.tup [],(σ.set t (.var (wv r (g+1) (l++(layF w ps).1).length))).set r (.row (g+1) 1 ((l++(layF w ps).1).map byteV)),{ any:=true,upd:=[(t,wv r (g+1) (l++(layF w ps).1).length)] }) :=
 w_call (args:=[.int .i64 w,.lst false (ps.map propV)]) rfl ⟨rfl,rfl⟩ 1 (by omega) (q_wprops1 l w ps hp hx hl) (by kernel_rfl) rfl rfl htr (ff1 hf) hs0 hr
theorem q_wnum0C (n : Int) (W : Nat) (h1 : 1≤W) (hW : W≤8) {m : Int} (hm : ((W : Nat) : Int)=m) {σ : AHeap} {t site : Nat} (hf : σ[site]?=some .free) (hs0 : σ[t]?=some (.var wn)) :
  callG E1 BY σ site 127 1 true [.ref t 0,.int .i64 n,.int .i64 m]=some (.tup [],(σ.set t (.var (wv site 0 (beB (u64N n) W).length))).set site (.row 0 1 ((beB (u64N n) W).map byteV)),{ any:=true,upd:=[(t,wv site 0 (beB (u64N n) W).length)] }):=by
 subst hm
 exact w_new (args:=[.int .i64 n,.int .i64 (W : Nat)]) rfl rfl (q_wnum0 n W h1 hW) (by kernel_rfl) rfl rfl hf hs0
theorem q_wnum1C (l : Bytes) (n : Int) (W : Nat) (h1 : 1≤W) (hW : W≤8) {m : Int} (hm : ((W : Nat) : Int)=m) (hl : l.length+W≤bytesLim) {σ : AHeap} (t r g : Nat) {site : Nat} (htr : t≠r) (hf : σ[site]?=some .free) (hs0 : σ[t]?=some (.var (wv r g l.length))) (hr : σ[r]?=some (.row g 1 (l.map byteV))) :
  callG E1 BY σ site 127 1 true [.ref t 0,.int .i64 n,.int .i64 m]=some (.tup [],(σ.set t (.var (wv r (g+1) (l++beB (u64N n) W).length))).set r (.row (g+1) 1 ((l++beB (u64N n) W).map byteV)),{ any:=true,upd:=[(t,wv r (g+1) (l++beB (u64N n) W).length)] }):=by
 subst hm
 exact w_call (args:=[.int .i64 n,.int .i64 (W : Nat)]) rfl ⟨rfl,rfl⟩ 1 (by omega) (q_wnum1 l n W h1 hW hl) (by kernel_rfl) rfl rfl htr (ff1 hf) hs0 hr
def markI (b : Bool) (n : Int) : Int:=if b then n else 0
theorem q_mark (b : Bool) (n : Int) : E 81 [.bool b,.int .i64 n] []=some (.int .i64 (markI b n),[]):=by
 rw [E_eq (by rfl) cf_packet_mark]
 unfold markI
 cases b <;> simp -implicitDefEqProofs only [EVS0,EVS1,EVS5,EVL0,eq_self,exI,nsite,freeAt,execI,Opd.ev,tget,tins,tput,keepL,sitesOf,List.sum_cons,List.sum_nil,Nat.reduceLT,Nat.reduceEqDiff,beq_self_eq_true,Bool.false_eq_true,reduceCtorEq,resA,resAll,resOne,enterA,↓reduceIte,cb_packet_mark,b_packet_mark,cr_packet_mark,oI]
theorem q_markC (b : Bool) (n : Int) (σ : AHeap) (site own : Nat) : callG E1 BY σ site 81 own true [.bool b,.int .i64 n]=some (.int .i64 (markI b n),σ,{}) :=
 lift1 (call_normT (q_mark b n) (by kernel_rfl) rfl rfl rfl (fun _=>rfl) _ _ _)
end Go.Proofs.YtmlkhhidifjjfaaDoor
namespace Go.Proofs.YtmlkhhidifjjfaaDoor
structure SubD where
 filter : Bytes
 qos : Int
 noLocal : Bool
 asPublished : Bool
 handling : Int
 id : Int
 deriving DecidableEq
def subV (s : SubD) : AVal:=.agg [.str s.filter,.int .i64 s.qos,.bool s.noLocal,.bool s.asPublished,.int .i64 s.handling,.int .i64 s.id]
structure WillD where
 topic : Bytes
 data : Bytes
 qos : Int
 retain : Bool
 props : List PropD
 deriving DecidableEq
structure PacketD where
 type : Int
 dup : Bool
 qos : Int
 retain : Bool
 id : Int
 topic : Bytes
 payload : Bytes
 code : Int
 codes : List Int
 props : List PropD
 subs : List SubD
 filters : List Bytes
 clean : Bool
 keep : Int
 client : Bytes
 hasWill : Bool
 will : WillD
 hasUser : Bool
 user : Bytes
 hasPassword : Bool
 password : Bytes
 present : Bool
 deriving DecidableEq
def packV (p : PacketD) : AVal:=.agg [.int .i64 p.type,.bool p.dup,.int .i64 p.qos,.bool p.retain,.int .i64 p.id,.str p.topic,.lst false (p.payload.map byteV),.int .i64 p.code,.lst false (p.codes.map (AVal.int .i64)),.lst false (p.props.map propV),.lst false (p.subs.map subV),.lst false (p.filters.map AVal.str),.bool p.clean,.int .i64 p.keep,.str p.client,.bool p.hasWill,.str p.will.topic,.lst false (p.will.data.map byteV),.int .i64 p.will.qos,.bool p.will.retain,.lst false (p.will.props.map propV),.bool p.hasUser,.str p.user,.bool p.hasPassword,.lst false (p.password.map byteV),.bool p.present]
end Go.Proofs.YtmlkhhidifjjfaaDoor
namespace Go.Proofs.YtmlkhhidifjjfaaDoor
set_option maxHeartbeats 8000000
set_option maxRecDepth 10000
section
variable (P : List AVal) (hP : P.length=26) (hN : noRefL P=true) (h10 : P[10]?=some (.lst true [])) (l : Bytes) (hl : l.length≤140737488355328)
include hP hN h10 hl
end
section
variable (P : List AVal) (hP : P.length=26) (hN : noRefL P=true) (ss : List SubD) (hss : ss.length*48+48≤140737488355328) (l : Bytes) (hl : l.length≤140737488355328)
include hP hN hss hl
end
section
variable (P : List AVal) (hP : P.length=26) (hN : noRefL P=true) (l : Bytes) (hl : l.length≤140737488355328)
include hP hN hl
variable (ss : List SubD)
end
end Go.Proofs.YtmlkhhidifjjfaaDoor
namespace Go.Proofs.YtmlkhhidifjjfaaDoor
set_option maxHeartbeats 8000000
set_option maxRecDepth 10000
def cellsP (p : PacketD) : List AVal:=[.int .i64 p.type,.bool p.dup,.int .i64 p.qos,.bool p.retain,.int .i64 p.id,.str p.topic,.lst false (p.payload.map byteV),.int .i64 p.code,.lst false (p.codes.map (AVal.int .i64)),.lst false (p.props.map propV),.lst false (p.subs.map subV),.lst false (p.filters.map AVal.str),.bool p.clean,.int .i64 p.keep,.str p.client,.bool p.hasWill,.str p.will.topic,.lst false (p.will.data.map byteV),.int .i64 p.will.qos,.bool p.will.retain,.lst false (p.will.props.map propV),.bool p.hasUser,.str p.user,.bool p.hasPassword,.lst false (p.password.map byteV),.bool p.present]
theorem packV_cells (p : PacketD) : packV p=.agg (cellsP p):=rfl
theorem cellsP_len (p : PacketD) : (cellsP p).length=26:=rfl
theorem cellsP_plain (p : PacketD) : plainV (.agg (cellsP p))=true:=rfl
theorem cellsP_norm (p : PacketD) : normV (.agg (cellsP p))=.agg (cellsP p):=rfl
theorem cellsP_take (p : PacketD) : (cellsP p).take 26=cellsP p:=rfl
theorem cellsP_refs (p : PacketD) : refsL (cellsP p)=[]:=by
 have h:=normV_refs (cellsP_plain p)
 rw [cellsP_norm] at h
 simpa [refsV] using h
structure OkW (p : PacketD) : Prop where
 topic : p.topic.length≤9223372036854775807
 payload : p.payload.length≤1099511627776
 codes : p.codes.length≤1048576
 props : p.props.length≤700000000∧∀ q ∈ p.props,OkTx q
 subs : p.subs.length≤1048576∧∀ s ∈ p.subs,s.filter.length≤9223372036854775807
 filters : p.filters.length≤1048576∧∀ f ∈ p.filters,f.length≤9223372036854775807
 client : p.client.length≤9223372036854775807
 wtopic : p.will.topic.length≤9223372036854775807
 wdata : p.will.data.length≤9223372036854775807
 wprops : p.will.props.length≤700000000∧∀ q ∈ p.will.props,OkTx q
 user : p.user.length≤9223372036854775807
 password : p.password.length≤9223372036854775807
theorem out_wj {j g : Nat} {l : Bytes} {σ : AHeap} (hj : j≠0) (h0 : σ[0]?=some (.var (wv j g l.length))) (h1 : σ[j]?=some (.row g 1 (l.map byteV))) : outA 1 σ (.tup [])=some (.tup [],wH 0 l):=by
 have d0 : σ.getD 0 .free=.var (wv j g l.length):=by simp [List.getD_eq_getElem?_getD,h0]
 have d1 : σ.getD j .free=.row g 1 (l.map byteV):=by simp [List.getD_eq_getElem?_getD,h1]
 have ej : ([0] : List Nat).contains j=false:=by simp;omega
 have hrf : refsL (wv j g l.length)=[j]:=rfl
 have hi : gcIds 1 [.tup []] σ=[0,j]:=by
  have : refsL [AVal.tup []]=[]:=rfl
  have hR : List.range 1=[0]:=rfl
  simp only [gcIds,this,List.nil_append,hR,List.flatMap_cons,List.flatMap_nil,List.append_nil,d0,refsB,hrf]
  rw [show (1000 : Nat)=998+1+1 from rfl,reach,ej]
  simp only [Bool.false_eq_true,if_false,d1,refsB,List.nil_append]
  rfl
 have hρ : rhoOf σ 1 [0,j] j g=some (1,0):=by
  have : ¬(0 : Nat)=j:=fun e=>hj e.symm
  simp [rhoOf,idxA,genB,newGen,h1,this]
 have hren : renL (rhoOf σ 1 [0,j]) (wv j g l.length)=wv 1 0 l.length:=by simp only [wv,renL,renV,hρ]
 have ht : renL (rhoOf σ 1 [0,j]) [AVal.tup []]=[.tup []]:=rfl
 simp only [outA,gcA,hi,ht,heapOf,d0,d1,newGen,genB,renB,hren,wH]
 simp
theorem out_w20 (l : Bytes) (σ : AHeap) : outA 2 (.var (wv 1 0 l.length)::.row 0 1 (l.map byteV)::σ) (.tup [])=some (.tup [],wH 0 l):=by
 simp [outA,gcA,gcIds,refsL,refsV,List.range,List.range.loop,refsB,wv,reach,rhoOf,idxA,heapOf,newGen,genB,renB,renL,renV,wH]
def restB (p : PacketD) : Bytes:=if p.code≠0∨p.props≠[] then beB (u64N p.code) 1++(if p.props≠[] then (layF p.type p.props).1 else []) else []
theorem bytesLim_eq : bytesLim=70368744177664:=rfl
section
variable (p : PacketD) (h : OkW p)
include h
theorem q_wrest1 (l : Bytes) (hl : l.length≤1000000000) : E1 131 [.ref 0 0,packV p] (wH 0 l)=some (.tup [],if restB p=[] then wH 0 l else wH 1 (l++restB p)):=by
 have l2:=layF_le p.type p.props
 have l1:=beB_len 1 (u64N p.code)
 have hN:=fun {σ : AHeap} {site : Nat}=>q_wnum1C l p.code 1 (by omega) (by omega) (m:=1) rfl (by rw [bytesLim_eq];omega) (σ:=σ) 0 1 0 (site:=site) (by omega)
 have hPr:=fun {σ : AHeap} {site : Nat}=>q_wprops1C (l++beB (u64N p.code) 1) p.type p.props h.props.1 h.props.2 (by rw [bytesLim_eq,List.length_append];omega) (σ:=σ) 0 1 1 (site:=site) (by omega)
 have hl : (p.props.map propV).length=p.props.length:=by simp
 rw [packV_cells]
 have e1:=cellsP_take p
 have e0:=cellsP_len p
 have a0 : (cellsP p)[0]?=some (.int .i64 p.type):=rfl
 have a7 : (cellsP p)[7]?=some (.int .i64 p.code):=rfl
 have a9 : (cellsP p)[9]?=some (.lst false (p.props.map propV)):=rfl
 obtain ⟨R,hR⟩ : ∃ R,R=restB p:=⟨_,rfl⟩
 rw [←hR]
 unfold restB at hR
 generalize cellsP p=P at *
 generalize p.type=ty at *
 generalize p.code=c at *
 generalize p.props=ps at *
 rw [E1_eq (by rfl) cf_packet_writer_rest]
 by_cases hc : c=0
 ·have b1 : (c != 0)=false:=by simp [hc]
  cases ps with
  | nil =>
   rw [if_neg (by simp [hc])] at hR
   subst hR
   rw [if_pos rfl]
   unfold wH at *
   simp -implicitDefEqProofs only [EVS0,EVS1,EVS5,EVL0,ite_ee,eq_self,exI,nsite,freeAt,execI,Opd.ev,tget,tins,tput,keepL,sitesOf,List.sum_cons,List.sum_nil,Nat.reduceAdd,Nat.reduceLT,Nat.reduceEqDiff,Nat.reduceBEq,beq_self_eq_true,Bool.false_eq_true,ldA,partA,faddrA,binA,arithA,gSpan,unG,ne_eq,Option.some.injEq,reduceCtorEq,decide_false,resA,resAll,enterA,decide_eq_true_eq,↓reduceIte,cb_packet_writer_rest,b_packet_writer_rest,cr_packet_writer_rest,oI,faddrA,AVal.cells,a0,a7,a9,b1]
   exact out_w20 _ _
  | cons q ps =>
   have g0 : ((((q::ps).map propV).length : Nat) : Int) > 0:=by simp
   rw [if_pos (by simp),if_pos (by simp)] at hR
   subst hR
   rw [if_neg (by intro e;have:=congrArg List.length e;simp [l1] at this)]
   generalize (layF ty (q::ps)).1=B at *
   generalize (q::ps).map propV=qs at *
   generalize beB (u64N c) 1=D at *
   rw [←List.append_assoc]
   unfold wH at *
   simp -implicitDefEqProofs only [EVS0,EVS1,EVS5,EVL0,eq_self,exI,nsite,freeAt,execI,Opd.ev,tget,tins,tput,keepL,sitesOf,List.sum_cons,List.sum_nil,Nat.reduceAdd,Nat.reduceLT,Nat.reduceEqDiff,Nat.reduceBEq,beq_self_eq_true,Bool.false_eq_true,ldA,partA,faddrA,binA,arithA,gSpan,unG,ne_eq,Option.some.injEq,reduceCtorEq,decide_true,decide_false,resA,resAll,enterA,↓reduceIte,cb_packet_writer_rest,b_packet_writer_rest,cr_packet_writer_rest,oI,faddrA,AVal.cells,a0,a7,a9,b1,g0,hN,hPr]
   exact out_w2 _ 1 _
 ·have b1 : (c != 0)=true:=by simp [hc]
  rw [if_pos (by simp [hc])] at hR
  cases ps with
  | nil =>
   rw [if_neg (by simp),List.append_nil] at hR
   subst hR
   rw [if_neg (by intro e;have:=congrArg List.length e;simp [l1] at this)]
   generalize beB (u64N c) 1=D at *
   unfold wH at *
   simp -implicitDefEqProofs only [EVS0,EVS1,EVS5,EVL0,eq_self,exI,nsite,freeAt,execI,Opd.ev,tget,tins,tput,keepL,sitesOf,List.sum_cons,List.sum_nil,Nat.reduceAdd,Nat.reduceLT,Nat.reduceEqDiff,Nat.reduceBEq,beq_self_eq_true,ldA,partA,faddrA,binA,arithA,gSpan,gSkip,ne_eq,Option.some.injEq,reduceCtorEq,decide_false,resA,resAll,enterA,decide_eq_true_eq,↓reduceIte,cb_packet_writer_rest,b_packet_writer_rest,cr_packet_writer_rest,oI,faddrA,AVal.cells,a0,a7,a9,b1,hN]
   exact out_w2 _ 0 _
  | cons q ps =>
   have g0 : ((((q::ps).map propV).length : Nat) : Int) > 0:=by simp
   rw [if_pos (by simp)] at hR
   subst hR
   rw [if_neg (by intro e;have:=congrArg List.length e;simp [l1] at this)]
   generalize (layF ty (q::ps)).1=B at *
   generalize (q::ps).map propV=qs at *
   generalize beB (u64N c) 1=D at *
   rw [←List.append_assoc]
   unfold wH at *
   simp -implicitDefEqProofs only [EVS0,EVS1,EVS5,EVL0,eq_self,exI,nsite,freeAt,execI,Opd.ev,tget,tins,tput,keepL,sitesOf,List.sum_cons,List.sum_nil,Nat.reduceAdd,Nat.reduceLT,Nat.reduceEqDiff,Nat.reduceBEq,beq_self_eq_true,ldA,partA,faddrA,binA,arithA,gSpan,gSkip,ne_eq,Option.some.injEq,reduceCtorEq,decide_true,decide_false,resA,resAll,enterA,↓reduceIte,cb_packet_writer_rest,b_packet_writer_rest,cr_packet_writer_rest,oI,faddrA,AVal.cells,a0,a7,a9,b1,g0,hN,hPr]
   exact out_w2 _ 1 _
def genR (p : PacketD) : Nat:=if restB p=[] then 0 else 1
theorem q_wrest1C (l : Bytes) (hl : l.length≤1000000000) {σ : AHeap} (t r g : Nat) {site : Nat} (htr : t≠r) (hf : σ[site]?=some .free) (hs0 : σ[t]?=some (.var (wv r g l.length))) (hr : σ[r]?=some (.row g 1 (l.map byteV))) :
  callG E1 BY σ site 131 1 true [.ref t 0,.agg (cellsP p)]=some (.tup [],(σ.set t (.var (wv r (g+genR p) (l++restB p).length))).set r (.row (g+genR p) 1 ((l++restB p).map byteV)),{ any:=true,upd:=[(t,wv r (g+genR p) (l++restB p).length)] }):=by
 have hw:=q_wrest1 p h l hl
 have hw' : E1 131 [.ref 0 0,packV p] (wH 0 l)=some (.tup [],wH (genR p) (l++restB p)):=by
  rw [hw]
  unfold genR
  split
  ·rename_i e;rw [e,List.append_nil]
  ·rfl
 exact w_call (args:=[.agg (cellsP p)]) rfl ⟨rfl,rfl⟩ (genR p) (by unfold genR;split <;> omega) hw' (by kernel_rfl) (by rw [List.all_cons,cellsP_plain];rfl) (by rw [List.map_cons,cellsP_norm];rfl) htr (ff1 hf) hs0 hr
end
end Go.Proofs.YtmlkhhidifjjfaaDoor
namespace Go.Proofs.YtmlkhhidifjjfaaDoor
set_option maxHeartbeats 16000000
set_option maxRecDepth 10000
theorem andB3_lt (q : Int) : 0≤andB q 3∧andB q 3≤3:=by
 have h : ∀ x : BitVec 64,(x &&& BitVec.ofInt 64 3).toNat≤3:=by
  intro x
  rw [BitVec.toNat_and]
  exact Nat.and_le_right
 have h2:=h (BitVec.ofInt 64 q)
 unfold andB
 have h3 : IntKind.i64.bits=64:=rfl
 rw [h3,wrap_nat (by omega) (by omega)]
 omega
theorem markI_le (b : Bool) (n : Int) (h : 0≤n) : 0≤markI b n∧markI b n≤n:=by unfold markI;split <;> omega
theorem wrap_small (n : Int) (h0 : 0≤n) (h1 : n < 9223372036854775808) : IntKind.i64.wrap n=n:=by
 obtain ⟨m,rfl⟩ : ∃ m : Nat,n=m:=⟨n.toNat,by omega⟩
 exact wrap_nat (by omega) (by omega)
section
variable (p : PacketD) (h : OkW p)
include h
end
end Go.Proofs.YtmlkhhidifjjfaaDoor
namespace Go.Proofs.YtmlkhhidifjjfaaDoor
set_option maxHeartbeats 8000000
set_option maxRecDepth 10000
section
variable (P : List AVal) (hP : P.length=26) (hN : noRefL P=true) (h0 : P[0]?=some (.int .i64 2)) (l : Bytes) (hl : l.length≤140737488355328)
include hP hN h0 hl
end
end Go.Proofs.YtmlkhhidifjjfaaDoor
namespace Go.Proofs.YtmlkhhidifjjfaaDoor
set_option maxHeartbeats 4000000
theorem call_refTo {O : Oracle} {byref : Nat→Bool} {σ : AHeap} {t f own : Nat} {rest : List AVal} {cs cs' : List AVal} {r r' : AVal} (hb : byref f=false) (hp : rest.all plainV=true) (hc : noRefL cs=true) (hc' : noRefL cs'=true) (hn : noRef r'=true) (hv : viewR [.var cs'] r=some (r',[]))
  (h : O f (.ref 0 0::rest.map normV) [.var cs]=some (r,[.var cs'])) (hs : σ[t]?=some (.var cs)) (site : Nat) (hff : freeFrom σ site own=true) : callG O byref σ site f own true (.ref t 0::rest)=some (r',σ.set t (.var cs'),{ any:=true,upd:=[(t,cs')] }):=by
 have htl : t < σ.length:=by
  rcases Nat.lt_or_ge t σ.length with h | h
  ·exact h
  ·rw [List.getElem?_eq_none h] at hs;cases hs
 have hup : updOf (σ.set t (.var cs')) [t]=[(t,cs')]:=by
  simp only [updOf,List.getElem?_set,if_pos htl,if_true]
 have hd : σ.getD t .free=.var cs:=by simp [List.getD_eq_getElem?_getD,hs]
 have hf0 : freezeA σ []=σ:=rfl
 have hsh : showAs σ (.ref t 0::rest)=some (.ref t 0::rest.map normV,[]):=by
  rw [showAs,show showA σ (.ref t 0)=some (.ref t 0,[]) from rfl,plainVs_show hp]
  rfl
 have href : refsL (.ref t 0::rest.map normV)=[t]:=by
  rw [refsL,normVs_refs hp];rfl
 unfold callG showIf
 rw [hb]
 simp only [Bool.false_eq_true,if_false,hsh,hf0,href,reach_one hs hc]
 unfold callI
 have hall : ([t].all fun t=>okB (σ.getD t .free))=true:=by simp [List.all_cons,List.all_nil,hs,okB]
 rw [if_pos hall]
 have hρ : rhoOf σ 0 [t] t 0=some (0,0):=by simp [rhoOf,idxA,hs,genB,newGen]
 have hheap : heapOf σ 0 [t] (rhoOf σ 0 [t]) [t] 0=[.var cs]:=by
  simp only [heapOf,hd,renB,(noRefL_spec _ cs hc).1]
 have hargs : renL (rhoOf σ 0 [t]) (.ref t 0::rest.map normV)=.ref 0 0::rest.map normV:=by
  rw [renL,normVs_ren hp]
  simp only [renV,hρ]
 rw [hargs,hheap,h]
 have hask : askO true [t].length (some (r,[.var cs']))=some (r',[.var cs']):=by
  unfold askO
  rw [if_pos rfl]
  have hnp : ∀ x,r≠.pan x:=by rintro x rfl;simp [viewR,viewA,viewA1] at hv
  rw [show resV [t].length (some (r,[.var cs']))=(match viewR [.var cs'] r with
   | some (r',ts)=>match gcA [t].length [r'] (freezeA [.var cs'] ts) with
    | ([r''],σ')=>some (r'',σ')
    | _=>none
   | none=>none) from by cases r <;> first | rfl | exact absurd rfl (hnp _)]
  rw [hv]
  simp only [List.length_cons,List.length_nil,Nat.zero_add,show freezeA [ABlk.var cs'] []=[.var cs'] from rfl,gc_one hn hc']
 rw [hask]
 have hk : okBack σ [t] [.var cs'] 0=true:=by
  simp [okBack,okB,hs,sameKind,genB]
 simp only [backG,List.isEmpty_cons,Bool.false_eq_true,if_false,List.length_cons,List.length_nil,Nat.zero_add,Nat.le_add_right,Nat.le_refl,decide_true,hk,hff,Bool.and_self,if_true,layBack,tgtBack,List.getD_cons_zero,renB,(noRef_spec _ r' hn).1,(noRefL_spec _ cs' hc').1,hup]
theorem call_refPo {O : Oracle} {byref : Nat→Bool} {σ : AHeap} {t f own : Nat} {rest : List AVal} {cs cs' : List AVal} {x : AVal} {view : Bool} (hb : byref f=false) (hp : rest.all plainV=true) (hc : noRefL cs=true) (hc' : noRefL cs'=true) (hn : noRef x=true)
  (h : O f (.ref 0 0::rest.map normV) [.var cs]=some (.pan x,[.var cs'])) (hs : σ[t]?=some (.var cs)) (site : Nat) (hff : freeFrom σ site own=true) : callG O byref σ site f own view (.ref t 0::rest)=some (.pan x,σ.set t (.var cs'),{ any:=true,upd:=[(t,cs')] }):=by
 have htl : t < σ.length:=by
  rcases Nat.lt_or_ge t σ.length with h | h
  ·exact h
  ·rw [List.getElem?_eq_none h] at hs;cases hs
 have hup : updOf (σ.set t (.var cs')) [t]=[(t,cs')]:=by
  simp only [updOf,List.getElem?_set,if_pos htl,if_true]
 have hd : σ.getD t .free=.var cs:=by simp [List.getD_eq_getElem?_getD,hs]
 have hf0 : freezeA σ []=σ:=rfl
 have hsh : showAs σ (.ref t 0::rest)=some (.ref t 0::rest.map normV,[]):=by
  rw [showAs,show showA σ (.ref t 0)=some (.ref t 0,[]) from rfl,plainVs_show hp]
  rfl
 have href : refsL (.ref t 0::rest.map normV)=[t]:=by
  rw [refsL,normVs_refs hp];rfl
 unfold callG showIf
 rw [hb]
 simp only [Bool.false_eq_true,if_false,hsh,hf0,href,reach_one hs hc]
 unfold callI
 have hall : ([t].all fun t=>okB (σ.getD t .free))=true:=by simp [List.all_cons,List.all_nil,hs,okB]
 rw [if_pos hall]
 have hρ : rhoOf σ 0 [t] t 0=some (0,0):=by simp [rhoOf,idxA,hs,genB,newGen]
 have hheap : heapOf σ 0 [t] (rhoOf σ 0 [t]) [t] 0=[.var cs]:=by
  simp only [heapOf,hd,renB,(noRefL_spec _ cs hc).1]
 have hargs : renL (rhoOf σ 0 [t]) (.ref t 0::rest.map normV)=.ref 0 0::rest.map normV:=by
  rw [renL,normVs_ren hp]
  simp only [renV,hρ]
 rw [hargs,hheap,h]
 have hask : askO view [t].length (some (.pan x,[.var cs']))=some (.pan x,[.var cs']):=by
  unfold askO
  split <;> rfl
 rw [hask]
 have hk : okBack σ [t] [.var cs'] 0=true:=by
  simp [okBack,okB,hs,sameKind,genB]
 have hnp : noRef (.pan x)=true:=by simpa only [noRef] using hn
 simp only [backG,List.isEmpty_cons,Bool.false_eq_true,if_false,List.length_cons,List.length_nil,Nat.zero_add,Nat.le_add_right,Nat.le_refl,decide_true,hk,hff,Bool.and_self,if_true,layBack,tgtBack,List.getD_cons_zero,renB,(noRef_spec _ _ hnp).1,(noRefL_spec _ cs' hc').1,hup]
end Go.Proofs.YtmlkhhidifjjfaaDoor
namespace Go.Proofs.YtmlkhhidifjjfaaDoor
set_option maxHeartbeats 8000000
set_option maxRecDepth 10000
def P0 : List AVal:=[.int .i64 0,.bool false,.int .i64 0,.bool false,.int .i64 0,.str [],.lst true [],.int .i64 0,.lst true [],.lst true [],.lst true [],.lst true [],.bool false,.int .i64 0,.str [],.bool false,.str [],.lst true [],.int .i64 0,.bool false,.lst true [],.bool false,.str [],.bool false,.lst true [],.bool false]
def tmR : Tms:=[(3,.ref 2 0),(2,.ref 1 0),(1,.ref 0 0)]
def σR (b : Int) (l : Bytes) : AHeap:=[.var [.int .u8 b,.lst false (l.map byteV)],.var P0,.var [.int .i64 0]]
theorem rd_c1 (b : Int) (l : Bytes) : evC FC PR BY 0 c1R (enterA 0 [.agg [.int .u8 b,.lst false (l.map byteV)]] []) []=some (.normal,tmR,σR b l):=by
 unfold tmR σR P0
 simp -implicitDefEqProofs only [EVS0,EVS1,EVS5,EVL0,eq_self,exI,nsite,freeAt,execI,Opd.ev,tget,tins,tput,keepL,sitesOf,List.sum_cons,List.sum_nil,Nat.reduceAdd,Nat.reduceLT,Nat.reduceEqDiff,Nat.reduceBEq,enterA,↓reduceIte,c1R,enterA,AVal.cells]
theorem rd_c2T (b : Int) (l : Bytes) {P1 Q : List AVal} {L : AVal} (h1 : P1.length=26) (n1 : noRefL P1=true) (hQ : Q.length=26) (nQ : noRefL Q=true) (oQ : Q.all okCell=true) (nL : noRef L=true)
  (hf : E 76 [.ref 0 0,.int .u8 b] (kvar P0 l)=some (.tup [],kvar P1 l)) (hb : E 77 [.ref 0 0] (kvar P1 l)=some (.tup [],[.var (Q++[L])])) :
  evC FC PR BY 3 c2R (tput tmR (some 5) .top) (σR b l)=some (.ret,[(3,.ref 2 0),(2,.ref 1 0)],[.var [.int .u8 b,.lst false (l.map byteV)],.var Q,.var [.int .i64 0],.var (Q++[L]),.free]):=by
 have hF:=fun (σ : AHeap) site (hs : σ[3]?=some (.var (P0++[.lst false (l.map byteV)])))=>call_refT (O:=E) (byref:=BY) (f:=76) (rest:=[.int .u8 b]) (by kernel_rfl) rfl (by rfl) (noRefL_app n1 (by rfl)) rfl rfl hf hs site
 have hB:=fun (σ : AHeap) site (hf : σ[site]?=some .free) (hs : σ[3]?=some (.var (P1++[.lst false (l.map byteV)])))=>call_refTo (own:=1) (O:=E) (byref:=BY) (f:=77) (rest:=[]) (by kernel_rfl) rfl (noRefL_app n1 (by rfl)) (noRefL_app nQ (by simp [noRefL,nL])) rfl rfl hb hs site (by simp [freeFrom,freeAt,hf])
 have b1:=pl_len Q hQ
 have b2:=pl_take Q hQ
 unfold P0 at hF
 simp only [List.cons_append,List.nil_append] at hF
 unfold tmR σR P0
 simp -implicitDefEqProofs only [EVS0,EVS1,EVS2,EVS5,EVL0,eq_self,exI,nsite,freeAt,execI,Opd.ev,tget,tins,tput,keepL,sitesOf,List.sum_cons,List.sum_nil,Nat.reduceAdd,Nat.reduceLT,Nat.reduceLeDiff,Nat.reduceEqDiff,Nat.reduceBEq,beq_self_eq_true,ldA,stA,partA,faddrA,setAt,↓reduceIte,c2R,faddrA,AVal.cells,fillA,setAt,hF,hB,b1,b2,hQ,oQ]
theorem rd_c2F1 (b : Int) (l : Bytes) {cs : List AVal} {c : Int} (n1 : noRefL cs=true)
  (hf : E 76 [.ref 0 0,.int .u8 b] (kvar P0 l)=some (.pan (codeI c),[.var cs])) :
  evC FC PR BY 3 c2R (tput tmR (some 5) .top) (σR b l)=some (.panic (codeI c),[],[.var [.int .u8 b,.lst false (l.map byteV)],.var P0,.var [.int .i64 0],.var cs]):=by
 have hF:=fun (σ : AHeap) site (hs : σ[3]?=some (.var (P0++[.lst false (l.map byteV)])))=>call_refP (O:=E) (byref:=BY) (f:=76) (view:=true) (rest:=[.int .u8 b]) (by kernel_rfl) rfl (by rfl) n1 rfl hf hs site
 unfold P0 at hF
 simp only [List.cons_append,List.nil_append] at hF
 unfold tmR σR P0
 simp -implicitDefEqProofs only [EVS0,EVS1,EVS2,EVS5,EVL0,eq_self,exI,nsite,freeAt,execI,Opd.ev,tget,tins,tput,keepL,sitesOf,List.sum_cons,List.sum_nil,Nat.reduceAdd,Nat.reduceLT,Nat.reduceLeDiff,Nat.reduceEqDiff,Nat.reduceBEq,beq_self_eq_true,ldA,partA,faddrA,setAt,↓reduceIte,c2R,faddrA,AVal.cells,fillA,setAt,hF]
theorem rd_c2F2 (b : Int) (l : Bytes) {P1 cs : List AVal} {c : Int} (h1 : P1.length=26) (n1 : noRefL P1=true) (n2 : noRefL cs=true)
  (hf : E 76 [.ref 0 0,.int .u8 b] (kvar P0 l)=some (.tup [],kvar P1 l)) (hb : E 77 [.ref 0 0] (kvar P1 l)=some (.pan (codeI c),[.var cs])) :
  evC FC PR BY 3 c2R (tput tmR (some 5) .top) (σR b l)=some (.panic (codeI c),[],[.var [.int .u8 b,.lst false (l.map byteV)],.var P0,.var [.int .i64 0],.var cs,.free]):=by
 have hF:=fun (σ : AHeap) site (hs : σ[3]?=some (.var (P0++[.lst false (l.map byteV)])))=>call_refT (O:=E) (byref:=BY) (f:=76) (rest:=[.int .u8 b]) (by kernel_rfl) rfl (by rfl) (noRefL_app n1 (by rfl)) rfl rfl hf hs site
 have hB:=fun (σ : AHeap) site (hf : σ[site]?=some .free) (hs : σ[3]?=some (.var (P1++[.lst false (l.map byteV)])))=>call_refPo (own:=1) (O:=E) (byref:=BY) (f:=77) (view:=true) (rest:=[]) (by kernel_rfl) rfl (noRefL_app n1 (by rfl)) n2 rfl hb hs site (by simp [freeFrom,freeAt,hf])
 unfold P0 at hF
 simp only [List.cons_append,List.nil_append] at hF
 unfold tmR σR P0
 simp -implicitDefEqProofs only [EVS0,EVS1,EVS2,EVS5,EVL0,eq_self,exI,nsite,freeAt,execI,Opd.ev,tget,tins,tput,keepL,sitesOf,List.sum_cons,List.sum_nil,Nat.reduceAdd,Nat.reduceLT,Nat.reduceLeDiff,Nat.reduceEqDiff,Nat.reduceBEq,beq_self_eq_true,ldA,partA,faddrA,setAt,↓reduceIte,c2R,faddrA,AVal.cells,fillA,setAt,hF,hB]
theorem rd_c3 (b c : Int) (l : Bytes) (τ : AHeap) : evC FC PR BY 3 c3R [(10,.int .i64 c),(1,.ref 2 0),(0,.ref 1 0)] (.var [.int .u8 b,.lst false (l.map byteV)]::.var P0::.var [.int .i64 0]::τ)=some (.normal,[],.var [.int .u8 b,.lst false (l.map byteV)]::.var P0::.var [.int .i64 c]::τ):=by
 unfold P0
 simp -implicitDefEqProofs only [EVS0,EVS1,EVS5,EVL0,eq_self,exI,nsite,freeAt,execI,Opd.ev,tget,tins,tput,keepL,sitesOf,List.sum_cons,List.sum_nil,Nat.reduceAdd,Nat.reduceLT,Nat.reduceLeDiff,Nat.reduceEqDiff,beq_self_eq_true,stA,setAt,reduceCtorEq,↓reduceIte,c3R,AVal.cells,fillA,setAt,okCell]
theorem rd_end (b c : Int) (l : Bytes) {Q : List AVal} (τ : AHeap) (hQ : Q.length=26) (nQ : noRefL Q=true) : endD 0 1 2 rsR (.var [.int .u8 b,.lst false (l.map byteV)]::.var Q::.var [.int .i64 c]::τ)=some (.tup [.agg Q,.int .i64 c],[]):=by
 have h1 : resA [(3,.ref 2 0),(2,.ref 1 0)] (.var [.int .u8 b,.lst false (l.map byteV)]::.var Q::.var [.int .i64 c]::τ) rsR=some (.tup [.agg Q,.int .i64 c]):=by
  have h2 : Q.take 26=Q:=List.take_of_length_le (by omega)
  simp [resA,resAll,resOne,rsR,tget,ldA,partA,hQ,h2]
 unfold endD
 rw [h1]
 generalize (.var [.int .u8 b,.lst false (l.map byteV)]::.var Q::.var [.int .i64 c]::τ : AHeap)=σ
 have e1:=noRefL_spec (rhoOf σ 0 []) Q nQ
 have hr : refsL [AVal.tup [.agg Q,.int .i64 c]]=[]:=by simp [refsL,refsV,e1.2]
 have hi : gcIds 0 [AVal.tup [.agg Q,.int .i64 c]] σ=[]:=by
  simp only [gcIds,hr,List.nil_append,List.range_zero,List.flatMap_nil]
  rfl
 simp [outA,gcA,hi,renL,renV,e1.1,heapOf]
theorem readG_T (b : Int) (l : Bytes) {P1 Q : List AVal} {L : AVal} (h1 : P1.length=26) (n1 : noRefL P1=true) (hQ : Q.length=26) (nQ : noRefL Q=true) (oQ : Q.all okCell=true) (nL : noRef L=true)
  (hf : E 76 [.ref 0 0,.int .u8 b] (kvar P0 l)=some (.tup [],kvar P1 l)) (hb : E 77 [.ref 0 0] (kvar P1 l)=some (.tup [],[.var (Q++[L])])) :
  readG [.agg [.int .u8 b,.lst false (l.map byteV)]] []=some (.tup [.agg Q,.int .i64 0],[]):=by
 unfold readG doorG
 show (match evC FC PR BY 0 c1R (enterA 0 [.agg [.int .u8 b,.lst false (l.map byteV)]] []) [] with | some (.normal,tm1,σ1)=>_ | _=>none)=_
 rw [rd_c1]
 show (if (0 : Nat)≤(σR b l).length∧1 < (σR b l).length∧2 < (σR b l).length then doorA FC PR BY 61 c2R c3R rsR 0 (tput tmR (some 5) .top) (σR b l) 1 2 else none)=_
 rw [if_pos (by simp [σR])]
 unfold doorA
 rw [show (σR b l).length=3 from rfl,rd_c2T b l h1 n1 hQ nQ oQ nL hf hb]
 exact rd_end b 0 l _ hQ nQ
theorem readG_F (b c : Int) (l : Bytes) {τ : AHeap} (h : evC FC PR BY 3 c2R (tput tmR (some 5) .top) (σR b l)=some (.panic (codeI c),[],.var [.int .u8 b,.lst false (l.map byteV)]::.var P0::.var [.int .i64 0]::τ)) :
  readG [.agg [.int .u8 b,.lst false (l.map byteV)]] []=some (.tup [.agg P0,.int .i64 c],[]):=by
 unfold readG doorG
 show (match evC FC PR BY 0 c1R (enterA 0 [.agg [.int .u8 b,.lst false (l.map byteV)]] []) [] with | some (.normal,tm1,σ1)=>_ | _=>none)=_
 rw [rd_c1]
 show (if (0 : Nat)≤(σR b l).length∧1 < (σR b l).length∧2 < (σR b l).length then doorA FC PR BY 61 c2R c3R rsR 0 (tput tmR (some 5) .top) (σR b l) 1 2 else none)=_
 rw [if_pos (by simp [σR])]
 unfold doorA
 rw [show (σR b l).length=3 from rfl,h]
 show (if (61 : Nat)=61 then (match evC FC PR BY 3 c3R [(10,.int .i64 c),(1,.ref 2 0),(0,.ref 1 0)] _ with | some (.normal,_,σ3)=>endD 0 1 2 rsR σ3 | _=>none) else none)=_
 rw [if_pos rfl,rd_c3]
 exact rd_end b c l _ rfl (by rfl)
end Go.Proofs.YtmlkhhidifjjfaaDoor
namespace Go.Proofs.YtmlkhhidifjjfaaDoor
set_option maxHeartbeats 8000000
set_option maxRecDepth 10000
theorem readF_used (w : Int) (b : Bytes) : (readF w b).2.1≤b.length:=by
 unfold readF
 split
 ·simp
 ·rename_i h
  split
  ·simp only
   have : ¬(((getVarF b).1 : Int) > (b.length : Int) - ((getVarF b).2.1 : Nat)):=fun e=>h (Or.inr e)
   omega
  ·simp
def zeroD : PacketD:=⟨0,false,0,false,0,[],[],0,[],[],[],[],false,0,[],false,⟨[],[],0,false,[]⟩,false,[],false,[],false⟩
theorem P0_view (σ : AHeap) : viewsA σ P0=some (cellsP zeroD,[]):=rfl
theorem refs_cells (q : PacketD) (ρ : Rho) : renL ρ (cellsP q)=cellsP q:=by
 have h:=normV_ren (ρ:=ρ) (cellsP_plain q)
 rw [cellsP_norm,renV] at h
 injection h
theorem res_read {Q : List AVal} {q : PacketD} (c : Int) (h : ∀ σ,viewsA σ Q=some (cellsP q,[])) : resV 0 (some (.tup [.agg Q,.int .i64 c],[]))=some (.tup [packV q,.int .i64 c],[]):=by
 have h1 : viewR [] (.tup [.agg Q,.int .i64 c])=some (.tup [packV q,.int .i64 c],[]):=by
  rw [viewR,viewAs,viewA,h]
  rfl
 unfold resV
 simp only [h1]
 have e1:=cellsP_refs q
 have e2:=refs_cells q
 have hi : gcIds 0 [AVal.tup [packV q,.int .i64 c]] []=[]:=by
  have : refsL [AVal.tup [packV q,.int .i64 c]]=[]:=by simp [refsL,refsV,packV_cells,e1]
  simp only [gcIds,this,List.nil_append,List.range_zero,List.flatMap_nil]
  rfl
 simp only [freezeA,gcA,hi,renL,renV,heapOf]
 rw [packV_cells,renV,e2]
theorem q_readC {b c : Int} {l : Bytes} {Q : List AVal} {q : PacketD} (h : E1 32 [.agg [.int .u8 b,.lst false (l.map byteV)]] []=some (.tup [.agg Q,.int .i64 c],[])) (hv : ∀ σ,viewsA σ Q=some (cellsP q,[])) (f : Bool) (σ : AHeap) (site own : Nat) :
  callG E1 BY σ site 32 own true [.agg [.int .u8 b,.lst f (l.map byteV)]]=some (.tup [packV q,.int .i64 c],σ,{}):=by
 refine call_normT h (by kernel_rfl) rfl rfl (res_read c hv) (fun site=>?_) σ site own
 simp only [renV,renL,packV_cells,refs_cells]
def read3 (b : Int) (l : Bytes) : PacketD×Int :=
 if qoI b < 3 then (if qoI b > 0∨(andU b 8 != 0)=false then (match pubK (qoI b) l with
  | .error e=>(zeroD,e)
  | .ok (tp,n,ps,pay)=>({ zeroD with type:=3,dup:=(andU b 8 != 0),qos:=qoI b,retain:=(andU b 1 != 0),id:=n,topic:=tp,props:=ps,payload:=pay },0))
  else (zeroD,130)) else (zeroD,129)
theorem q_kread3 (b : Int) (h3 : tyI b=3) (l : Bytes) (hl : l.length≤140737488355328) : ∃ Q,E1 32 [.agg [.int .u8 b,.lst false (l.map byteV)]] []=some (.tup [.agg Q,.int .i64 (read3 b l).2],[])∧∀ σ,viewsA σ Q=some (cellsP (read3 b l).1,[]):=by
 have hf:=q_first3 P0 rfl (by rfl) b l h3
 have hQ : (pub3 P0 b).length=26:=rfl
 have hN : noRefL (pub3 P0 b)=true:=by rfl
 unfold read3
 by_cases hq : qoI b < 3
 ·rw [if_pos hq] at hf ⊢
  by_cases hd : qoI b > 0∨(andU b 8 != 0)=false
  ·rw [if_pos hd] at hf ⊢
   cases hp : pubK (qoI b) l with
   | error e =>
    obtain ⟨cs,hn,hb⟩:=q_kbody3F (pub3 P0 b) hQ hN (qoI b) rfl rfl l hl hp
    refine ⟨P0,?_,P0_view⟩
    rw [E1_read]
    exact readG_F b e l (rd_c2F2 b l hQ hN hn hf hb)
   | ok s =>
    obtain ⟨tp,n,ps,pay⟩:=s
    have hb:=q_kbody3T (pub3 P0 b) hQ hN (qoI b) rfl rfl rfl (fun r _=>readF_used 3 r) l hl hp
    refine ⟨((((pub3 P0 b).set 5 (.str tp)).set 4 (.int .i64 n)).set 9 (.lst false (ps.map propV))).set 6 (.lst false (pay.map byteV)),?_,fun σ=>rfl⟩
    rw [E1_read]
    exact readG_T b l hQ hN rfl (by rfl) rfl rfl hf hb
  ·rw [if_neg hd] at hf ⊢
   refine ⟨P0,?_,P0_view⟩
   rw [E1_read]
   exact readG_F b 130 l (rd_c2F1 b l (pl_ref _ hQ hN _ _) hf)
 ·rw [if_neg hq] at hf ⊢
  refine ⟨P0,?_,P0_view⟩
  rw [E1_read]
  exact readG_F b 129 l (rd_c2F1 b l (pl_ref _ hQ hN _ _) hf)
theorem q_kread3C (b : Int) (h3 : tyI b=3) (l : Bytes) (hl : l.length≤140737488355328) (f : Bool) (σ : AHeap) (site own : Nat) :
  callG E1 BY σ site 32 own true [.agg [.int .u8 b,.lst f (l.map byteV)]]=some (.tup [packV (read3 b l).1,.int .i64 (read3 b l).2],σ,{}):=by
 obtain ⟨Q,h,hv⟩:=q_kread3 b h3 l hl
 exact q_readC h hv f σ site own
end Go.Proofs.YtmlkhhidifjjfaaDoor
namespace Go.Proofs.YtmlkhhidifjjfaaDoor
set_option maxHeartbeats 8000000
set_option maxRecDepth 10000
theorem q_ceql (a b : List Int) (h : a.length=b.length) (hl : a.length≤9223372036854775807) : ∀ (r s : List Int) (i : Nat),a.drop i=r→b.drop i=s→K_slices_Equal_api_Code_api_Code_l4 0 [(13,.int .i64 i),(12,.int .i64 a.length),(1,.lst false (b.map (AVal.int .i64))),(0,.lst false (a.map (AVal.int .i64)))] []=some (.bool (r == s),[])
 | [],s,i,ha,hb=>by
  have hs : s=[]:=by
   subst hb;rw [List.drop_eq_nil_iff] at ha ⊢;omega
  subst hs
  have h1:=drop_nil ha
  unfold K_slices_Equal_api_Code_api_Code_l4
  rw [evL_eq]
  simp -implicitDefEqProofs only [EVS0,EVS1,EVS5,EVL0,eq_self,exI,nsite,freeAt,execI,Opd.ev,tget,tins,tput,keepL,sitesOf,List.sum_cons,List.sum_nil,Nat.reduceLT,Nat.reduceEqDiff,beq_self_eq_true,Bool.false_eq_true,binA,arithA,reduceCtorEq,decide_false,resA,resAll,resOne,↓reduceIte,cr_slices_Equal_api_Code_api_Code,x_slices_Equal_api_Code_api_Code_k0,d_slices_Equal_api_Code_api_Code_k0,x_slices_Equal_api_Code_api_Code_l4,d_slices_Equal_api_Code_api_Code_l4,oI,h1]
 | x::r,[],i,ha,hb=>by
  have:=(drop_at ha).2.2;rw [List.drop_eq_nil_iff] at hb;omega
 | x::r,y::s,i,ha,hb=>by
  have ih:=q_ceql a b h hl r s (i+1) (drop_at ha).2.1 (drop_at hb).2.1
  have h1 : (i : Int) < a.length:=by have:=(drop_at ha).2.2;omega
  have e1:=iad (drop_at ha).1 (AVal.int .i64) (k:=1) rfl
  have e2:=iad (drop_at hb).1 (AVal.int .i64) (k:=1) rfl
  have e3:=wrap_succ h1 hl
  unfold K_slices_Equal_api_Code_api_Code_l4 at ih ⊢
  rw [evL_eq]
  simp -implicitDefEqProofs only [EVS0,EVS1,EVS4,EVS5,EVS7,EVL0,eq_self,exI,nsite,freeAt,execI,Opd.ev,tget,tins,tput,keepL,sitesOf,List.sum_cons,List.sum_nil,Nat.reduceLT,Nat.reduceEqDiff,Nat.reduceBEq,beq_self_eq_true,ldA,partA,binA,arithA,reduceCtorEq,decide_true,resA,resAll,resOne,↓reduceIte,gcT,gcA,gcIds,reach,heapOf,refsB,cr_slices_Equal_api_Code_api_Code,x_slices_Equal_api_Code_api_Code_l4,d_slices_Equal_api_Code_api_Code_l4,oI,h1,e1,e2,e3]
  rw [ih]
  by_cases hx : x=y <;> simp [hx]
theorem q_ceq (a b : List Int) (hl : a.length≤9223372036854775807) : E 83 [.lst false (a.map (AVal.int .i64)),.lst false (b.map (AVal.int .i64))] []=some (.bool (a == b),[]):=by
 rw [E_eq (by rfl) cf_slices_Equal_api_Code_api_Code]
 by_cases h : a.length=b.length
 ·have:=q_ceql a b h hl a b 0 rfl rfl
  unfold K_slices_Equal_api_Code_api_Code_l4 at this
  have e:=len_eq h
  simp -implicitDefEqProofs only [EVS0,EVS1,EVS5,EVS7,EVL0,eq_self,exI,nsite,freeAt,execI,Opd.ev,tget,tins,tput,keepL,sitesOf,List.sum_cons,List.sum_nil,Nat.reduceLT,Nat.reduceEqDiff,beq_self_eq_true,Bool.false_eq_true,binA,arithA,reduceCtorEq,enterA,↓reduceIte,gcT,gcA,gcIds,reach,heapOf,refsB,cb_slices_Equal_api_Code_api_Code,b_slices_Equal_api_Code_api_Code,oI,e]
  exact this
 ·have e:=len_ne h
  simp -implicitDefEqProofs only [EVS0,EVS1,EVS5,EVL0,eq_self,exI,nsite,freeAt,execI,Opd.ev,tget,tins,tput,keepL,sitesOf,List.sum_cons,List.sum_nil,Nat.reduceLT,Nat.reduceEqDiff,beq_self_eq_true,binA,arithA,reduceCtorEq,resA,resAll,resOne,enterA,↓reduceIte,cb_slices_Equal_api_Code_api_Code,b_slices_Equal_api_Code_api_Code,cr_slices_Equal_api_Code_api_Code,oI,e,beq_len h]
theorem q_ceqC (σ : AHeap) (site own : Nat) (view : Bool) (a b : List Int) (hl : a.length≤9223372036854775807) : callG E BY σ site 83 own view [.lst false (a.map (AVal.int .i64)),.lst false (b.map (AVal.int .i64))]=some (.bool (a == b),σ,{}) :=
 call_flat (q_ceq a b hl) (by kernel_rfl) (by simp -implicitDefEqProofs only [EVS3,EVL0,eq_self]) (by simp -implicitDefEqProofs only [EVS4,EVL0,eq_self]) rfl (fun _=>rfl) _ _ _ _
theorem q_teql (a b : List Bytes) (h : a.length=b.length) (hl : a.length≤9223372036854775807) : ∀ (r s : List Bytes) (i : Nat),a.drop i=r→b.drop i=s→K_slices_Equal_string_string_l4 0 [(13,.int .i64 i),(12,.int .i64 a.length),(1,.lst false (b.map AVal.str)),(0,.lst false (a.map AVal.str))] []=some (.bool (r == s),[])
 | [],s,i,ha,hb=>by
  have hs : s=[]:=by
   subst hb;rw [List.drop_eq_nil_iff] at ha ⊢;omega
  subst hs
  have h1:=drop_nil ha
  unfold K_slices_Equal_string_string_l4
  rw [evL_eq]
  simp -implicitDefEqProofs only [EVS0,EVS1,EVS5,EVL0,eq_self,exI,nsite,freeAt,execI,Opd.ev,tget,tins,tput,keepL,sitesOf,List.sum_cons,List.sum_nil,Nat.reduceLT,Nat.reduceEqDiff,beq_self_eq_true,Bool.false_eq_true,binA,arithA,reduceCtorEq,decide_false,resA,resAll,resOne,↓reduceIte,cr_slices_Equal_string_string,x_slices_Equal_string_string_k0,d_slices_Equal_string_string_k0,x_slices_Equal_string_string_l4,d_slices_Equal_string_string_l4,oI,h1]
 | x::r,[],i,ha,hb=>by
  have:=(drop_at ha).2.2;rw [List.drop_eq_nil_iff] at hb;omega
 | x::r,y::s,i,ha,hb=>by
  have ih:=q_teql a b h hl r s (i+1) (drop_at ha).2.1 (drop_at hb).2.1
  have h1 : (i : Int) < a.length:=by have:=(drop_at ha).2.2;omega
  have e1:=iad (drop_at ha).1 AVal.str (k:=1) rfl
  have e2:=iad (drop_at hb).1 AVal.str (k:=1) rfl
  have e3:=wrap_succ h1 hl
  unfold K_slices_Equal_string_string_l4 at ih ⊢
  rw [evL_eq]
  simp -implicitDefEqProofs only [EVS0,EVS1,EVS4,EVS5,EVS7,EVL0,eq_self,exI,nsite,freeAt,execI,Opd.ev,tget,tins,tput,keepL,sitesOf,List.sum_cons,List.sum_nil,Nat.reduceLT,Nat.reduceEqDiff,Nat.reduceBEq,beq_self_eq_true,ldA,partA,binA,arithA,strA,reduceCtorEq,decide_true,resA,resAll,resOne,↓reduceIte,gcT,gcA,gcIds,reach,heapOf,refsB,cr_slices_Equal_string_string,x_slices_Equal_string_string_l4,d_slices_Equal_string_string_l4,oI,h1,e1,e2,e3]
  rw [ih]
  by_cases hx : x=y <;> simp [hx]
theorem q_teq (a b : List Bytes) (hl : a.length≤9223372036854775807) : E 85 [.lst false (a.map AVal.str),.lst false (b.map AVal.str)] []=some (.bool (a == b),[]):=by
 rw [E_eq (by rfl) cf_slices_Equal_string_string]
 by_cases h : a.length=b.length
 ·have:=q_teql a b h hl a b 0 rfl rfl
  unfold K_slices_Equal_string_string_l4 at this
  have e:=len_eq h
  simp -implicitDefEqProofs only [EVS0,EVS1,EVS5,EVS7,EVL0,eq_self,exI,nsite,freeAt,execI,Opd.ev,tget,tins,tput,keepL,sitesOf,List.sum_cons,List.sum_nil,Nat.reduceLT,Nat.reduceEqDiff,beq_self_eq_true,Bool.false_eq_true,binA,arithA,reduceCtorEq,enterA,↓reduceIte,gcT,gcA,gcIds,reach,heapOf,refsB,cb_slices_Equal_string_string,b_slices_Equal_string_string,oI,e]
  exact this
 ·have e:=len_ne h
  simp -implicitDefEqProofs only [EVS0,EVS1,EVS5,EVL0,eq_self,exI,nsite,freeAt,execI,Opd.ev,tget,tins,tput,keepL,sitesOf,List.sum_cons,List.sum_nil,Nat.reduceLT,Nat.reduceEqDiff,beq_self_eq_true,binA,arithA,reduceCtorEq,resA,resAll,resOne,enterA,↓reduceIte,cb_slices_Equal_string_string,b_slices_Equal_string_string,cr_slices_Equal_string_string,oI,e,beq_len h]
theorem q_teqC (σ : AHeap) (site own : Nat) (view : Bool) (a b : List Bytes) (hl : a.length≤9223372036854775807) : callG E BY σ site 85 own view [.lst false (a.map AVal.str),.lst false (b.map AVal.str)]=some (.bool (a == b),σ,{}) :=
 call_flat (q_teq a b hl) (by kernel_rfl) (by simp -implicitDefEqProofs only [EVS3,EVL0,eq_self]) (by simp -implicitDefEqProofs only [EVS4,EVL0,eq_self]) rfl (fun _=>rfl) _ _ _ _
theorem q_seql (a b : List SubD) (h : a.length=b.length) (hl : a.length≤9223372036854775807) : ∀ (r s : List SubD) (i : Nat),a.drop i=r→b.drop i=s→K_slices_Equal_api_Sub_api_Sub_l4 0 [(13,.int .i64 i),(12,.int .i64 a.length),(1,.lst false (b.map subV)),(0,.lst false (a.map subV))] []=some (.bool (r == s),[])
 | [],s,i,ha,hb=>by
  have hs : s=[]:=by
   subst hb;rw [List.drop_eq_nil_iff] at ha ⊢;omega
  subst hs
  have h1:=drop_nil ha
  unfold K_slices_Equal_api_Sub_api_Sub_l4
  rw [evL_eq]
  simp -implicitDefEqProofs only [EVS0,EVS1,EVS5,EVL0,eq_self,exI,nsite,freeAt,execI,Opd.ev,tget,tins,tput,keepL,sitesOf,List.sum_cons,List.sum_nil,Nat.reduceLT,Nat.reduceEqDiff,beq_self_eq_true,Bool.false_eq_true,binA,arithA,reduceCtorEq,decide_false,resA,resAll,resOne,↓reduceIte,cr_slices_Equal_api_Sub_api_Sub,x_slices_Equal_api_Sub_api_Sub_k0,d_slices_Equal_api_Sub_api_Sub_k0,x_slices_Equal_api_Sub_api_Sub_l4,d_slices_Equal_api_Sub_api_Sub_l4,oI,h1]
 | x::r,[],i,ha,hb=>by
  have:=(drop_at ha).2.2;rw [List.drop_eq_nil_iff] at hb;omega
 | x::r,y::s,i,ha,hb=>by
  have ih:=q_seql a b h hl r s (i+1) (drop_at ha).2.1 (drop_at hb).2.1
  have h1 : (i : Int) < a.length:=by have:=(drop_at ha).2.2;omega
  have e1:=iad (drop_at ha).1 subV (k:=6) rfl
  have e2:=iad (drop_at hb).1 subV (k:=6) rfl
  have e3:=wrap_succ h1 hl
  unfold K_slices_Equal_api_Sub_api_Sub_l4 at ih ⊢
  rw [evL_eq]
  obtain ⟨f1,q1,n1,a1,d1,i1⟩:=x
  obtain ⟨f2,q2,n2,a2,d2,i2⟩:=y
  simp only [subV,AVal.cells] at e1 e2
  have kd : kindsA [2,0,1,1,0,0] [AVal.str f1,.int .i64 q1,.bool n1,.bool a1,.int .i64 d1,.int .i64 i1]=true:=rfl
  have ke : aeqs [AVal.str f1,.int .i64 q1,.bool n1,.bool a1,.int .i64 d1,.int .i64 i1] [AVal.str f2,.int .i64 q2,.bool n2,.bool a2,.int .i64 d2,.int .i64 i2]=some (f1 == f2 && (q1 == q2 && (n1 == n2 && (a1 == a2 && (d1 == d2 && (i1 == i2 && true)))))):=rfl
  have kd2 : kindsA [2,0,1,1,0,0] [AVal.str f2,.int .i64 q2,.bool n2,.bool a2,.int .i64 d2,.int .i64 i2]=true:=rfl
  simp -implicitDefEqProofs only [EVS0,EVS1,EVS5,EVS7,EVL0,eq_self,exI,nsite,freeAt,execI,Opd.ev,tget,tins,tput,keepL,sitesOf,List.sum_cons,List.sum_nil,Nat.reduceAdd,Nat.reduceLT,Nat.reduceLeDiff,Nat.reduceEqDiff,Nat.reduceBEq,beq_self_eq_true,ldA,partA,binA,arithA,reduceCtorEq,decide_true,resA,resAll,resOne,↓reduceIte,gcT,gcA,gcIds,reach,heapOf,refsB,cr_slices_Equal_api_Sub_api_Sub,x_slices_Equal_api_Sub_api_Sub_l4,d_slices_Equal_api_Sub_api_Sub_l4,oI,h1,e1,e2,e3,kd,ke]
  rw [ih]
  have hb : ((⟨f1,q1,n1,a1,d1,i1⟩ : SubD) == ⟨f2,q2,n2,a2,d2,i2⟩)=(f1 == f2 && (q1 == q2 && (n1 == n2 && (a1 == a2 && (d1 == d2 && (i1 == i2)))))):=by
   rw [Bool.eq_iff_iff];simp
  rw [List.cons_beq_cons,hb]
  cases f1 == f2 <;> cases q1 == q2 <;> cases n1 == n2 <;> cases a1 == a2 <;> cases d1 == d2 <;> cases i1 == i2 <;> rfl
theorem q_seq (a b : List SubD) (hl : a.length≤9223372036854775807) : E 84 [.lst false (a.map subV),.lst false (b.map subV)] []=some (.bool (a == b),[]):=by
 rw [E_eq (by rfl) cf_slices_Equal_api_Sub_api_Sub]
 by_cases h : a.length=b.length
 ·have:=q_seql a b h hl a b 0 rfl rfl
  unfold K_slices_Equal_api_Sub_api_Sub_l4 at this
  have e:=len_eq h
  simp -implicitDefEqProofs only [EVS0,EVS1,EVS5,EVS7,EVL0,eq_self,exI,nsite,freeAt,execI,Opd.ev,tget,tins,tput,keepL,sitesOf,List.sum_cons,List.sum_nil,Nat.reduceLT,Nat.reduceEqDiff,beq_self_eq_true,Bool.false_eq_true,binA,arithA,reduceCtorEq,enterA,↓reduceIte,gcT,gcA,gcIds,reach,heapOf,refsB,cb_slices_Equal_api_Sub_api_Sub,b_slices_Equal_api_Sub_api_Sub,oI,e]
  exact this
 ·have e:=len_ne h
  simp -implicitDefEqProofs only [EVS0,EVS1,EVS5,EVL0,eq_self,exI,nsite,freeAt,execI,Opd.ev,tget,tins,tput,keepL,sitesOf,List.sum_cons,List.sum_nil,Nat.reduceLT,Nat.reduceEqDiff,beq_self_eq_true,binA,arithA,reduceCtorEq,resA,resAll,resOne,enterA,↓reduceIte,cb_slices_Equal_api_Sub_api_Sub,b_slices_Equal_api_Sub_api_Sub,cr_slices_Equal_api_Sub_api_Sub,oI,e,beq_len h]
theorem q_seqC (σ : AHeap) (site own : Nat) (view : Bool) (a b : List SubD) (hl : a.length≤9223372036854775807) : callG E BY σ site 84 own view [.lst false (a.map subV),.lst false (b.map subV)]=some (.bool (a == b),σ,{}) :=
 call_flat (q_seq a b hl) (by kernel_rfl) (by simp -implicitDefEqProofs only [EVS3,EVL0,eq_self]) (by simp -implicitDefEqProofs only [EVS4,EVL0,eq_self]) rfl (fun _=>rfl) _ _ _ _
def psameB (a b : PacketD) : Bool :=
 ((((((((((((a.codes == b.codes && a.subs == b.subs && a.filters == b.filters && a.props == b.props && a.will.props == b.will.props)
  && (a.payload == b.payload && a.password == b.password && a.will.data == b.will.data))
  && (a.will.topic == b.will.topic && a.will.qos == b.will.qos && a.will.retain == b.will.retain))
  && (a.dup == b.dup && a.retain == b.retain && a.clean == b.clean && a.hasWill == b.hasWill && a.hasUser == b.hasUser && a.hasPassword == b.hasPassword && a.present == b.present))
  && a.type == b.type) && a.qos == b.qos) && a.id == b.id) && a.topic == b.topic) && a.code == b.code) && a.keep == b.keep) && a.client == b.client) && a.user == b.user)
theorem psameB_iff (a b : PacketD) : psameB a b=true↔a=b:=by
 obtain ⟨a1,a2,a3,a4,a5,a6,a7,a8,a9,a10,a11,a12,a13,a14,a15,a16,⟨a17,a18,a19,a20,a21⟩,a22,a23,a24,a25,a26⟩:=a
 obtain ⟨b1,b2,b3,b4,b5,b6,b7,b8,b9,b10,b11,b12,b13,b14,b15,b16,⟨b17,b18,b19,b20,b21⟩,b22,b23,b24,b25,b26⟩:=b
 simp only [psameB,Bool.and_eq_true,beq_iff_eq,PacketD.mk.injEq,WillD.mk.injEq]
 constructor
 ·rintro ⟨⟨⟨⟨⟨⟨⟨⟨⟨⟨⟨⟨⟨⟨⟨h1,h2⟩,h3⟩,h4⟩,h5⟩,⟨⟨h6,h7⟩,h8⟩⟩,⟨⟨h9,h10⟩,h11⟩⟩,⟨⟨⟨⟨⟨⟨h12,h13⟩,h14⟩,h15⟩,h16⟩,h17⟩,h18⟩⟩,h19⟩,h20⟩,h21⟩,h22⟩,h23⟩,h24⟩,h25⟩,h26⟩
  simp only [h1,h2,h3,h4,h5,h6,h7,h8,h9,h10,h11,h12,h13,h14,h15,h16,h17,h18,h19,h20,h21,h22,h23,h24,h25,h26,and_self]
 ·rintro ⟨h1,h2,h3,h4,h5,h6,h7,h8,h9,h10,h11,h12,h13,h14,h15,h16,⟨h17,h18,h19,h20,h21⟩,h22,h23,h24,h25,h26⟩
  simp only [h1,h2,h3,h4,h5,h6,h7,h8,h9,h10,h11,h12,h13,h14,h15,h16,h17,h18,h19,h20,h21,h22,h23,h24,h25,h26,and_self]
structure OkL (p : PacketD) : Prop where
 codes : p.codes.length≤9223372036854775807
 props : p.props.length≤9223372036854775807
 subs : p.subs.length≤9223372036854775807
 filters : p.filters.length≤9223372036854775807
 wprops : p.will.props.length≤9223372036854775807
theorem q_pksame (a b : PacketD) (h : OkL a) : E 35 [packV a,packV b] []=some (.bool (psameB a b),[]):=by
 have h1:=fun σ site own view=>q_ceqC σ site own view a.codes b.codes h.codes
 have h2:=fun σ site own view=>q_seqC σ site own view a.subs b.subs h.subs
 have h3:=fun σ site own view=>q_teqC σ site own view a.filters b.filters h.filters
 have h4:=fun σ site own view=>q_psameC σ site own view a.props b.props h.props
 have h5:=fun σ site own view=>q_psameC σ site own view a.will.props b.will.props h.wprops
 rw [E_eq (by rfl) cf_packet_Same]
 unfold packV psameB
 simp -implicitDefEqProofs only [EVS0,EVS1,EVS5,EVS7,EVL0,ite_list,ite_tt,eq_self,exI,nsite,freeAt,execI,Opd.ev,tget,tins,tput,keepL,sitesOf,List.sum_cons,List.sum_nil,Nat.reduceAdd,Nat.reduceLT,Nat.reduceEqDiff,Nat.reduceBEq,beq_self_eq_true,ldA,partA,faddrA,binA,arithA,strA,gSpan,gSkip,unG,ne_eq,Option.some.injEq,reduceCtorEq,decide_false,elemsA,resA,resAll,resOne,enterA,ite_self,↓reduceIte,cb_packet_Same,b_packet_Same,cr_packet_Same,oI,faddrA,AVal.cells,h1,h2,h3,h4,h5]
theorem q_pksameC (σ : AHeap) (site own : Nat) (view : Bool) (a b : PacketD) (h : OkL a) : callG E BY σ site 35 own view [packV a,packV b]=some (.bool (psameB a b),σ,{}) :=
 call_flat (q_pksame a b h) (by kernel_rfl) rfl rfl rfl (fun _=>rfl) _ _ _ _
end Go.Proofs.YtmlkhhidifjjfaaDoor
namespace Go.Proofs.YtmlkhhidifjjfaaDoor
def b_bytes_Buffer_Bytes : ACode:=(.seq (.region [oI 2 (.mov (.c (.lst true [])))] none [0]) (.seq (.region [oI 3 (.mov (.t 0)),oI 4 (.nilchk (.t 3)),oI 5 (.faddr 0 (.t 4)),oI 6 (.ld none (.t 5)),oI 7 (.mov (.t 0)),oI 8 (.nilchk (.t 7)),oI 9 (.faddr 1 (.t 8)),oI 10 (.ld none (.t 9)),oI 11 (.slice 1 (.t 6) (some (.t 10)) none none),oI 2 (.mov (.t 11))] (some [(3,7)]) [2]) .ret))
def c_bytes_Buffer_Bytes : AFunc:=⟨[(.tmp 2)],b_bytes_Buffer_Bytes⟩
theorem cf_bytes_Buffer_Bytes : FC 80=some c_bytes_Buffer_Bytes:=by kernel_rfl
theorem cb_bytes_Buffer_Bytes : c_bytes_Buffer_Bytes.body=b_bytes_Buffer_Bytes:=rfl
theorem cr_bytes_Buffer_Bytes : c_bytes_Buffer_Bytes.res=[(.tmp 2)]:=rfl
end Go.Proofs.YtmlkhhidifjjfaaDoor
namespace Go.Proofs.YtmlkhhidifjjfaaDoor
set_option maxHeartbeats 16000000
set_option maxRecDepth 10000
theorem sl_all {σ : AHeap} {t g k n : Nat} {xs : List AVal} (hs : σ[t]?=some (.row g k xs)) (hn : n=xs.length) : sliceA σ k (.sl t g 0 n) (some (.int .i64 0)) none none=some (.sl t g 0 n,σ,{ rd:=[t] }):=by
 subst hn
 have he : elemsA σ (.sl t g 0 xs.length)=some ((xs.drop 0).take xs.length,[t]):=by simp [elemsA,hs]
 simp [sliceA,he,hs,optB,boundA]
theorem q_bytes (l : Bytes) : E 80 [.ref 0 0] (wH 0 l)=some (.sl 1 0 0 l.length,wH 0 l):=by
 have h1 : ((l.map byteV).length)=l.length:=by simp
 rw [E_eq (by rfl) cf_bytes_Buffer_Bytes]
 unfold wH wv
 have hS:=fun (σ : AHeap) (hs : σ[1]?=some (.row 0 1 (l.map byteV)))=>sl_all (n:=l.length) hs h1.symm
 simp -implicitDefEqProofs only [EVS0,EVS1,EVS5,EVL0,eq_self,exI,nsite,freeAt,execI,Opd.ev,tget,tins,tput,keepL,sitesOf,List.sum_cons,List.sum_nil,Nat.reduceAdd,Nat.reduceLT,Nat.reduceEqDiff,Nat.reduceBEq,beq_self_eq_true,ldA,partA,faddrA,reduceCtorEq,resA,resAll,resOne,enterA,↓reduceIte,cb_bytes_Buffer_Bytes,b_bytes_Buffer_Bytes,cr_bytes_Buffer_Bytes,oI,faddrA,hS]
 simp [outA,gcA,gcIds,reach,refsL,refsV,refsB,rhoOf,idxA,genB,newGen,heapOf,renL,renV,renB,List.range,List.range.loop]
theorem view_bytes (l : Bytes) : askO true 2 (some (.sl 1 0 0 l.length,wH 0 l))=some (.lst false (l.map byteV),[.var (wv 1 0 l.length),.frow 0 1 (l.map byteV)]):=by
 have e1 : (0 : Nat)+l.length≤(l.map byteV).length:=by simp
 have e2 : ((l.map byteV).drop 0).take l.length=l.map byteV:=by
  rw [List.drop_zero,←List.length_map (f:=byteV),List.take_length]
 simp only [askO,if_true,resV,viewR,viewA,viewA1,elemsA,wH,List.getElem?_cons_succ,List.getElem?_cons_zero,e1,e2,and_self,freezeA,List.set_cons_succ,List.set_cons_zero]
 simp [gcA,gcIds,refsL,refsV,List.range,List.range.loop,refsB,wv,reach,rhoOf,idxA,heapOf,newGen,genB,renB,renL,renV]
theorem q_bytesC (l : Bytes) {σ : AHeap} (t r g : Nat) {site : Nat} (htr : t≠r) (hs : σ[t]?=some (.var (wv r g l.length))) (hr : σ[r]?=some (.row g 1 (l.map byteV))) :
  callG E1 BY σ site 80 0 true [.ref t 0]=some (.lst false (l.map byteV),(σ.set t (.var (wv r g l.length))).set r (.frow g 1 (l.map byteV)),{ any:=true,upd:=[(t,wv r g l.length)] }):=by
 refine lift1 ?_
 have hrf : refsL (wv r g l.length)=[r]:=rfl
 have htl : t < σ.length:=(List.getElem?_eq_some_iff.1 hs).1
 have hrl : r < σ.length:=(List.getElem?_eq_some_iff.1 hr).1
 have h1 : σ.getD t .free=.var (wv r g l.length):=by simp [List.getD_eq_getElem?_getD,hs]
 have h2 : σ.getD r .free=.row g 1 (l.map byteV):=by simp [List.getD_eq_getElem?_getD,hr]
 have hf0 : freezeA σ []=σ:=rfl
 have hsh : showAs σ [.ref t 0]=some ([.ref t 0],[]):=rfl
 have href : refsL [AVal.ref t 0]=[t]:=rfl
 have hup : updOf ((σ.set t (.var (wv r g l.length))).set r (.frow g 1 (l.map byteV))) [t,r]=[(t,wv r g l.length)]:=by
  have e1 : ((σ.set t (.var (wv r g l.length))).set r (.frow g 1 (l.map byteV)))[t]?=some (.var (wv r g l.length)):=by
   rw [List.getElem?_set_ne (fun e=>htr e.symm),List.getElem?_set_self htl]
  have e2 : ((σ.set t (.var (wv r g l.length))).set r (.frow g 1 (l.map byteV)))[r]?=some (.frow g 1 (l.map byteV)):=by
   rw [List.getElem?_set_self (by simpa using hrl)]
  simp only [updOf,e1,e2]
 unfold callG showIf
 rw [show BY 80=false by kernel_rfl]
 simp only [Bool.false_eq_true,if_false,hsh,hf0,href,reach_two hs hr htr hrf]
 unfold callI
 have hall : ([t,r].all fun t=>okB (σ.getD t .free))=true:=by simp only [List.all_cons,List.all_nil,h1,h2,okB,Bool.and_true]
 rw [if_pos hall]
 have hρt : rhoOf σ 0 [t,r] t 0=some (0,0):=by simp [rhoOf,idxA,hs,genB,newGen]
 have hρr : rhoOf σ 0 [t,r] r g=some (1,0):=by simp [rhoOf,idxA,hr,genB,newGen,htr]
 have hargs : renL (rhoOf σ 0 [t,r]) [.ref t 0]=[.ref 0 0]:=by simp only [renL,renV,hρt]
 have hren : renL (rhoOf σ 0 [t,r]) (wv r g l.length)=wv 1 0 l.length:=by simp only [wv,renL,renV,hρr]
 have hheap : heapOf σ 0 [t,r] (rhoOf σ 0 [t,r]) [t,r] 0=wH 0 l:=by
  simp only [heapOf,h1,h2,newGen,genB,renB,hren,wH]
  simp
 rw [hargs,hheap,q_bytes l,show [t,r].length=2 from rfl,view_bytes l]
 have hk : okBack σ [t,r] [.var (wv 1 0 l.length),.frow 0 1 (l.map byteV)] 0=true:=by simp [okBack,okB,sameKind,genB,hs,hr]
 have hff : freeFrom σ site 0=true:=by simp [freeFrom]
 have hb3 : renL (rhoBack σ [t,r] site) (wv 1 0 l.length)=wv r g l.length:=by
  have : rhoBack σ [t,r] site 1 0=some (r,g):=by simp only [rhoBack,List.getElem?_cons_succ,List.getElem?_cons_zero,h2,genB];rfl
  simp only [wv,renL,renV,this]
 simp only [backG,List.isEmpty_cons,Bool.false_eq_true,if_false,List.length_cons,List.length_nil,Nat.zero_add,Nat.reduceAdd,Nat.add_zero,Nat.le_refl,decide_true,hk,hff,Bool.and_self,if_true,layBack,tgtBack,List.getD_cons_zero,List.getD_cons_succ,genBack,List.getElem?_cons_zero,List.getElem?_cons_succ,h2,genB,renB,renV,hb3,hup]
theorem q_join1 (σ : AHeap) (site own : Nat) (f : Bool) (a : Bytes) (h : a.length≤140737488355328) : callG E BY σ site 56 own true [.lst f [.lst false (a.map byteV)]]=some (.lst false (a.map byteV),σ,{}):=by
 have:=q_joinC σ site own f a [] (by simp) (by simpa using h)
 simpa [bytesV] using this
theorem q_wbodyC {p : PacketD} {l : Bytes} (h : E1 78 [.ref 0 0,packV p] [.var wn]=some (.tup [],wH 0 l)) {σ : AHeap} {t site : Nat} (hf : σ[site]?=some .free) (hs0 : σ[t]?=some (.var wn)) :
  callG E1 BY σ site 78 1 true [.ref t 0,.agg (cellsP p)]=some (.tup [],(σ.set t (.var (wv site 0 l.length))).set site (.row 0 1 (l.map byteV)),{ any:=true,upd:=[(t,wv site 0 l.length)] }) :=
 w_new (args:=[.agg (cellsP p)]) rfl rfl h (by kernel_rfl) (by rw [List.all_cons,cellsP_plain];rfl) (by rw [List.map_cons,cellsP_norm];rfl) hf hs0
def orU (a b : Int) : Int:=IntKind.u8.wrap (BitVec.ofInt IntKind.u8.bits a ||| BitVec.ofInt IntKind.u8.bits b).toNat
def first0 (t : Int) : Int:=orU (IntKind.u8.wrap (IntKind.i64.wrap (t*2 ^ min (Int.toNat 4) IntKind.i64.bits))) (flagsF t)
def firstM (p : PacketD) : Int:=IntKind.u8.wrap (markI p.dup 8+andB p.qos 3*2+markI p.retain 1)
def firstW (p : PacketD) : Int:=if p.type=3 then orU (first0 3) (firstM p) else first0 p.type
theorem var_iff (B : Bytes) : (varF (B.length : Nat)).2=0↔B.length≤268435455:=by
 unfold varF
 split
 ·simp only []
  constructor
  ·intro h;simp at h
  ·intro h;omega
 ·simp only [true_iff]
  omega
def frameV (first : Int) (B : Bytes) (c : Int) (s : Bool) : AVal :=
 if B.length≤268435455∧c=0∧s=true then .tup [.agg [.int .u8 first,.lst false (B.map byteV)],.int .i64 0] else .tup [.agg [.int .u8 0,.lst true []],.int .i64 129]
section
variable (p q : PacketD) (c : Int)
theorem q_frame1 (B : Bytes) (hb : E1 78 [.ref 0 0,packV p] [.var wn]=some (.tup [],wH 0 B)) (hB : B.length≤140737488355328)
  (hr : ∀ σ site own,callG E1 BY σ site 32 own true [.agg [.int .u8 (firstW p),.lst false (B.map byteV)]]=some (.tup [packV q,.int .i64 c],σ,{})) (hq : OkL q) :
  E1 34 [packV p] []=some (frameV (firstW p) B c (psameB q p),[]):=by
 have fb:=fun {σ : AHeap} {t site : Nat}=>q_wbodyC hb (σ:=σ) (t:=t) (site:=site)
 have fB:=fun {σ : AHeap} {site : Nat}=>q_bytesC B 2 3 0 (by omega) (σ:=σ) (site:=site)
 have fj:=fun σ site own f=>lift1 (q_join1 σ site own f B hB)
 have ff:=fun σ site own=>lift1 (q_flagsC p.type σ site own)
 have fm:=fun b n σ site own=>q_markC b n σ site own
 have fv:=fun σ site own=>lift1 (q_varC σ site own (B.length : Nat))
 have fs:=fun σ site own=>lift1 (q_pksameC σ site own true q p hq)
 have hn : (B.map byteV).length=B.length:=by simp
 unfold frameV
 generalize psameB q p=s at *
 rw [packV_cells] at *
 rw [packV_cells] at *
 have e0:=cellsP_len p
 have e1:=cellsP_take p
 have a0 : (cellsP p)[0]?=some (.int .i64 p.type):=rfl
 have a1 : (cellsP p)[1]?=some (.bool p.dup):=rfl
 have a2 : (cellsP p)[2]?=some (.int .i64 p.qos):=rfl
 have a3 : (cellsP p)[3]?=some (.bool p.retain):=rfl
 have d0:=cellsP_len q
 have d1:=cellsP_take q
 have oq : (cellsP q).all okCell=true:=rfl
 have m1:=markI_le p.dup 8 (by omega)
 have m2:=markI_le p.retain 1 (by omega)
 have m3:=andB3_lt p.qos
 have w2:=wrap_small (andB p.qos 3*2) (by omega) (by omega)
 have w3:=wrap_small (markI p.dup 8+andB p.qos 3*2) (by omega) (by omega)
 have w4:=wrap_small (markI p.dup 8+andB p.qos 3*2+markI p.retain 1) (by omega) (by omega)
 clear m1 m2 m3
 unfold firstW at hr ⊢
 have hv:=var_iff B
 unfold varT at fv
 generalize (varF (B.length : Nat)).1=V at *
 generalize (varF (B.length : Nat)).2=v at *
 by_cases h3 : p.type=3
 ·rw [if_pos h3] at hr ⊢
  rw [h3] at ff a0
  unfold first0 firstM orU andB at *
  clear h3
  generalize cellsP p=P at *
  generalize cellsP q=Q at *
  generalize p.dup=pd at *
  generalize p.qos=pq at *
  generalize p.retain=pr at *
  unfold wn at *
  rw [E1_eq (by rfl) cf_packet_Frame]
  by_cases v0 : v=0
  ·have hL:=hv.1 v0
   subst v0
   by_cases c0 : c=0
   ·subst c0
    cases s
    ·rw [if_neg (by simp)]
     simp -implicitDefEqProofs only [EVS0,EVS1,EVS2,EVS5,EVS6,EVL0,eq_self,exI,nsite,freeAt,execI,Opd.ev,tget,tins,tput,keepL,sitesOf,List.sum_cons,List.sum_nil,Nat.reduceAdd,Nat.reduceLT,Nat.reduceLeDiff,Nat.reduceEqDiff,Nat.reduceBEq,beq_self_eq_true,Bool.false_eq_true,ldA,stA,partA,faddrA,setAt,binA,arithA,shiftA,unA,gSpan,unG,ne_eq,Option.some.injEq,decide_true,decide_false,resA,resAll,resOne,enterA,↓reduceIte,noRefL,List.contains_cons,cb_packet_Frame,b_packet_Frame,cr_packet_Frame,oI,oN,faddrA,AVal.cells,a0,a1,a2,a3,e0,e1,d0,d1,oq,fillA,fb,fB,fj,ff,fm,fv,fs,hr,hn,w2,w3,w4,Int.reduceLT,viewAs,viewA,viewA1,freezeA,List.foldl_cons,List.foldl_nil,isCallI,isLdI,isAppI,gotOk,List.lookup_cons,List.lookup_nil,bne_self_eq_false]
    ·rw [if_pos ⟨hL,rfl,rfl⟩]
     simp -implicitDefEqProofs only [EVS0,EVS1,EVS2,EVS5,EVS6,EVL0,eq_self,exI,nsite,freeAt,execI,Opd.ev,tget,tins,tput,keepL,sitesOf,List.sum_cons,List.sum_nil,Nat.reduceAdd,Nat.reduceLT,Nat.reduceLeDiff,Nat.reduceEqDiff,Nat.reduceBEq,beq_self_eq_true,Bool.false_eq_true,ldA,stA,partA,faddrA,setAt,binA,arithA,shiftA,unA,gSpan,unG,ne_eq,Option.some.injEq,decide_true,decide_false,resA,resAll,resOne,enterA,↓reduceIte,noRefL,List.contains_cons,cb_packet_Frame,b_packet_Frame,cr_packet_Frame,oI,oN,faddrA,AVal.cells,a0,a1,a2,a3,e0,e1,d0,d1,oq,fillA,fb,fB,fj,ff,fm,fv,fs,hr,hn,w2,w3,w4,Int.reduceLT,viewAs,viewA,viewA1,freezeA,List.foldl_cons,List.foldl_nil,isCallI,isLdI,isAppI,gotOk,List.lookup_cons,List.lookup_nil,bne_self_eq_false]
   ·have c1 : (c != 0)=true:=by simpa using c0
    rw [if_neg (fun h=>c0 h.2.1)]
    simp -implicitDefEqProofs only [EVS0,EVS1,EVS2,EVS5,EVS6,EVL0,eq_self,exI,nsite,freeAt,execI,Opd.ev,tget,tins,tput,keepL,sitesOf,List.sum_cons,List.sum_nil,Nat.reduceAdd,Nat.reduceLT,Nat.reduceLeDiff,Nat.reduceEqDiff,Nat.reduceBEq,beq_self_eq_true,Bool.false_eq_true,ldA,stA,partA,faddrA,setAt,binA,arithA,shiftA,gSpan,gSkip,unG,ne_eq,Option.some.injEq,reduceCtorEq,decide_true,decide_false,resA,resAll,resOne,enterA,↓reduceIte,noRefL,List.contains_cons,cb_packet_Frame,b_packet_Frame,cr_packet_Frame,oI,oN,faddrA,AVal.cells,a0,a1,a2,a3,e0,e1,d0,oq,fillA,fb,fB,fj,ff,fm,fv,hr,hn,w2,w3,w4,c1,Int.reduceLT,viewAs,viewA,viewA1,freezeA,List.foldl_cons,List.foldl_nil,isCallI,isLdI,isAppI,gotOk,List.lookup_cons,List.lookup_nil,bne_self_eq_false]
  ·have v1 : (v != 0)=true:=by simpa using v0
   rw [if_neg (fun h=>v0 (hv.2 h.1))]
   simp -implicitDefEqProofs only [EVS0,EVS1,EVS2,EVS5,EVS6,EVL0,eq_self,exI,nsite,freeAt,execI,Opd.ev,tget,tins,tput,keepL,sitesOf,List.sum_cons,List.sum_nil,Nat.reduceAdd,Nat.reduceLT,Nat.reduceLeDiff,Nat.reduceEqDiff,Nat.reduceBEq,beq_self_eq_true,Bool.false_eq_true,ldA,stA,partA,faddrA,setAt,binA,arithA,shiftA,gSpan,gSkip,ne_eq,Option.some.injEq,reduceCtorEq,decide_true,decide_false,resA,resAll,resOne,enterA,↓reduceIte,noRefL,List.contains_cons,cb_packet_Frame,b_packet_Frame,cr_packet_Frame,oI,oN,faddrA,AVal.cells,a0,a1,a2,a3,e0,e1,d0,oq,fillA,fb,fB,fj,ff,fm,fv,hr,hn,w2,w3,w4,v1,Int.reduceLT,viewAs,viewA,viewA1,freezeA,List.foldl_cons,List.foldl_nil,isCallI,isLdI,isAppI,gotOk,List.lookup_cons,List.lookup_nil]
 ·rw [if_neg h3] at hr ⊢
  have h3b : (p.type == 3)=false:=by simpa using h3
  unfold first0 orU at *
  clear h3
  generalize cellsP p=P at *
  generalize cellsP q=Q at *
  generalize p.dup=pd at *
  generalize p.qos=pq at *
  generalize p.retain=pr at *
  generalize p.type=ty at *
  unfold wn at *
  rw [E1_eq (by rfl) cf_packet_Frame]
  by_cases v0 : v=0
  ·have hL:=hv.1 v0
   subst v0
   by_cases c0 : c=0
   ·subst c0
    cases s
    ·rw [if_neg (by simp)]
     simp -implicitDefEqProofs only [EVS0,EVS1,EVS2,EVS5,EVS6,EVL0,eq_self,exI,nsite,freeAt,execI,Opd.ev,tget,tins,tput,keepL,sitesOf,List.sum_cons,List.sum_nil,Nat.reduceAdd,Nat.reduceLT,Nat.reduceLeDiff,Nat.reduceEqDiff,Nat.reduceBEq,beq_self_eq_true,Bool.false_eq_true,ldA,stA,partA,faddrA,setAt,binA,arithA,shiftA,unA,gSpan,unG,ne_eq,Option.some.injEq,decide_true,decide_false,resA,resAll,resOne,enterA,↓reduceIte,noRefL,List.contains_cons,cb_packet_Frame,b_packet_Frame,cr_packet_Frame,oI,oN,faddrA,AVal.cells,a0,e0,e1,d0,d1,oq,fillA,fb,fB,fj,ff,fv,fs,hr,hn,h3b,Int.reduceLT,viewAs,viewA,viewA1,freezeA,List.foldl_cons,List.foldl_nil,isCallI,isLdI,isAppI,gotOk,List.lookup_cons,List.lookup_nil,bne_self_eq_false]
    ·rw [if_pos ⟨hL,rfl,rfl⟩]
     simp -implicitDefEqProofs only [EVS0,EVS1,EVS2,EVS5,EVS6,EVL0,eq_self,exI,nsite,freeAt,execI,Opd.ev,tget,tins,tput,keepL,sitesOf,List.sum_cons,List.sum_nil,Nat.reduceAdd,Nat.reduceLT,Nat.reduceLeDiff,Nat.reduceEqDiff,Nat.reduceBEq,beq_self_eq_true,Bool.false_eq_true,ldA,stA,partA,faddrA,setAt,binA,arithA,shiftA,unA,gSpan,unG,ne_eq,Option.some.injEq,decide_true,decide_false,resA,resAll,resOne,enterA,↓reduceIte,noRefL,List.contains_cons,cb_packet_Frame,b_packet_Frame,cr_packet_Frame,oI,oN,faddrA,AVal.cells,a0,e0,e1,d0,d1,oq,fillA,fb,fB,fj,ff,fv,fs,hr,hn,h3b,Int.reduceLT,viewAs,viewA,viewA1,freezeA,List.foldl_cons,List.foldl_nil,isCallI,isLdI,isAppI,gotOk,List.lookup_cons,List.lookup_nil,bne_self_eq_false]
   ·have c1 : (c != 0)=true:=by simpa using c0
    rw [if_neg (fun h=>c0 h.2.1)]
    simp -implicitDefEqProofs only [EVS0,EVS1,EVS2,EVS5,EVS6,EVL0,eq_self,exI,nsite,freeAt,execI,Opd.ev,tget,tins,tput,keepL,sitesOf,List.sum_cons,List.sum_nil,Nat.reduceAdd,Nat.reduceLT,Nat.reduceLeDiff,Nat.reduceEqDiff,Nat.reduceBEq,beq_self_eq_true,Bool.false_eq_true,ldA,stA,partA,faddrA,setAt,binA,arithA,shiftA,gSpan,gSkip,unG,ne_eq,Option.some.injEq,reduceCtorEq,decide_true,decide_false,resA,resAll,resOne,enterA,↓reduceIte,noRefL,List.contains_cons,cb_packet_Frame,b_packet_Frame,cr_packet_Frame,oI,oN,faddrA,AVal.cells,a0,e0,e1,d0,oq,fillA,fb,fB,fj,ff,fv,hr,hn,h3b,c1,Int.reduceLT,viewAs,viewA,viewA1,freezeA,List.foldl_cons,List.foldl_nil,isCallI,isLdI,isAppI,gotOk,List.lookup_cons,List.lookup_nil,bne_self_eq_false]
  ·have v1 : (v != 0)=true:=by simpa using v0
   rw [if_neg (fun h=>v0 (hv.2 h.1))]
   simp -implicitDefEqProofs only [EVS0,EVS1,EVS2,EVS5,EVS6,EVL0,eq_self,exI,nsite,freeAt,execI,Opd.ev,tget,tins,tput,keepL,sitesOf,List.sum_cons,List.sum_nil,Nat.reduceAdd,Nat.reduceLT,Nat.reduceLeDiff,Nat.reduceEqDiff,Nat.reduceBEq,beq_self_eq_true,Bool.false_eq_true,ldA,stA,partA,faddrA,setAt,binA,arithA,shiftA,gSpan,gSkip,ne_eq,Option.some.injEq,reduceCtorEq,decide_true,decide_false,resA,resAll,resOne,enterA,↓reduceIte,noRefL,List.contains_cons,cb_packet_Frame,b_packet_Frame,cr_packet_Frame,oI,oN,faddrA,AVal.cells,a0,e0,e1,d0,oq,fillA,fb,fB,fj,ff,fv,hr,hn,h3b,v1,Int.reduceLT,viewAs,viewA,viewA1,freezeA,List.foldl_cons,List.foldl_nil,isCallI,isLdI,isAppI,gotOk,List.lookup_cons,List.lookup_nil]
end
end Go.Proofs.YtmlkhhidifjjfaaDoor
namespace Go.Proofs.YtmlkhhidifjjfaaDoor
set_option maxHeartbeats 16000000
set_option maxRecDepth 10000
def frmT (x : UInt8) (B : Bytes) : AVal:=.tup [.agg [byteV x,.lst false (B.map byteV)],.int .i64 0]
def frmF : AVal:=.tup [.agg [.int .u8 0,.lst false []],.int .i64 129]
theorem q_frameTC {args : List AVal} {p : PacketD} {x : UInt8} {B : Bytes} (h : E1 34 [packV p] []=some (frameV x.toNat B 0 true,[])) (hB : B.length≤268435455) (hp : args.all plainV=true) (hn : args.map normV=[packV p]) (σ : AHeap) (site own : Nat) :
  callG E1 BY σ site 34 own true args=some (frmT x B,σ,{}):=by
 unfold frameV at h
 rw [if_pos ⟨hB,rfl,rfl⟩] at h
 exact call_normT h (by kernel_rfl) hp hn rfl (fun _=>rfl) σ site own
theorem q_frameFC {args : List AVal} {p : PacketD} {x c : Int} {B : Bytes} {s : Bool} (h : E1 34 [packV p] []=some (frameV x B c s,[])) (hB : ¬(B.length≤268435455∧c=0∧s=true)) (hp : args.all plainV=true) (hn : args.map normV=[packV p]) (σ : AHeap) (site own : Nat) :
  callG E1 BY σ site 34 own true args=some (frmF,σ,{}):=by
 unfold frameV at h
 rw [if_neg hB] at h
 exact call_normT h (by kernel_rfl) hp hn rfl (fun _=>rfl) σ site own
def layW (x : UInt8) (B : Bytes) : Bytes:=x::((varF B.length).1++B)
theorem q_joinL3 (σ : AHeap) (site own : Nat) (f : Bool) (x : UInt8) (b c : Bytes) (h : 1+b.length+c.length≤140737488355328) : callG E BY σ site 56 own true [.lst f [.lst false [byteV x],.lst false (b.map byteV),.lst false (c.map byteV)]]=some (.lst false ((x::(b++c)).map byteV),σ,{}):=by
 have:=q_joinC σ site own f [x] [b,c] (by simp) (by simp;omega)
 simpa only [List.map_cons,List.map_nil,bytesV,List.flatten_cons,List.flatten_nil,List.append_nil,List.cons_append,List.nil_append] using this
theorem q_layT (p : PacketD) (x : UInt8) (B : Bytes) (hB : B.length≤268435455) (hF : ∀ σ site own,callG E1 BY σ site 34 own true [.agg (cellsP p)]=some (frmT x B,σ,{})) :
  E1 40 [packV p] []=some (.tup [.lst false ((layW x B).map byteV),.int .i64 0],[]):=by
 have hv:=varF_len (B.length : Nat)
 have fv:=fun σ site own=>lift1 (q_varC σ site own (B.length : Nat))
 have fj:=fun σ site own f=>lift1 (q_joinL3 σ site own f x (varF (B.length : Nat)).1 B (by omega))
 have hn : (B.map byteV).length=B.length:=by simp
 rw [packV_cells]
 have e0:=cellsP_len p
 have e1:=cellsP_take p
 unfold layW
 unfold varT at fv
 unfold frmT at hF
 generalize (varF (B.length : Nat)).1=V at *
 generalize (varF (B.length : Nat)).2=c at *
 generalize cellsP p=P at *
 generalize (x::(V++B)).map byteV=R at *
 generalize hBB : B.map byteV=BB at *
 have bx : byteV x=.int .u8 (x.toNat : Nat):=rfl
 simp only [bx] at fj hF
 rw [E1_eq (by rfl) cf_packet_Lay]
 simp -implicitDefEqProofs only [EVS0,EVS1,EVS5,EVS6,EVL0,eq_self,exI,nsite,freeAt,execI,Opd.ev,tget,tins,tput,keepL,sitesOf,List.sum_cons,List.sum_nil,Nat.reduceAdd,Nat.reduceLT,Nat.reduceLeDiff,Nat.reduceEqDiff,Nat.reduceBEq,beq_self_eq_true,Bool.false_eq_true,ldA,stA,partA,faddrA,setAt,binA,arithA,decide_true,resA,resAll,resOne,enterA,↓reduceIte,noRefL,cb_packet_Lay,b_packet_Lay,cr_packet_Lay,oI,oN,faddrA,AVal.cells,setAt,e0,e1,hF,fv,fj,hn,bne_self_eq_false,viewAs,viewA,viewA1,freezeA,List.foldl_cons,List.foldl_nil]
end Go.Proofs.YtmlkhhidifjjfaaDoor
namespace Go.Proofs.YtmlkhhidifjjfaaDoor
set_option maxHeartbeats 4000000
theorem gvA_app (rest : Bytes) : ∀ (b : Bytes) (i n : Nat),(gvA i n b).2.2=0→gvA i n (b++rest)=gvA i n b
 | [],i,n,h=>by
  unfold gvA at h
  split at h <;> simp at h
 | c::r,i,n,h=>by
  rw [List.cons_append]
  unfold gvA at h ⊢
  split at h
  ·simp at h
  ·rename_i h4
   rw [if_neg h4,if_neg h4]
   split at h
   ·rename_i hc
    rw [if_pos hc,if_pos hc]
   ·rename_i hc
    rw [if_neg hc,if_neg hc]
    exact gvA_app rest r (i+1) _ h
theorem getVar_app (b rest : Bytes) (h : (getVarF b).2.2=0) : getVarF (b++rest)=getVarF b:=gvA_app rest b 0 0 h
theorem readF_app (w : Int) (b rest : Bytes) (h : (readF w b).2.2=0) : readF w (b++rest)=readF w b:=by
 have hx : ¬((getVarF b).2.2≠0∨((getVarF b).1 : Int) > (b.length : Int) - ((getVarF b).2.1 : Nat)):=by
  intro hx
  unfold readF at h
  rw [if_pos hx] at h
  simp at h
 have h1 : (getVarF b).2.2=0:=Classical.byContradiction fun e=>hx (Or.inl e)
 have h2 : ¬(((getVarF b).1 : Int) > (b.length : Int) - ((getVarF b).2.1 : Nat)):=fun e=>hx (Or.inr e)
 have hg:=getVar_app b rest h1
 have hle : (getVarF b).2.1+(getVarF b).1≤b.length:=by omega
 have ht : (b++rest).take ((getVarF b).2.1+(getVarF b).1)=b.take ((getVarF b).2.1+(getVarF b).1):=List.take_append_of_le_length hle
 have hl : (b++rest).length=b.length+rest.length:=List.length_append
 have hx' : ¬((getVarF b).2.2≠0∨((getVarF b).1 : Int) > ((b++rest).length : Int) - ((getVarF b).2.1 : Nat)):=by
  rintro (e | e)
  ·exact e h1
  ·rw [hl] at e;omega
 unfold readF
 rw [hg,ht,if_neg hx,if_neg hx']
theorem layF_or (w : Int) (l : List PropD) : (readF w (layF w l).1=(l,(layF w l).1.length,0)∧(layF w l).2=0)∨((layF w l).1=[]∧(layF w l).2≠0):=by
 unfold layF layE
 generalize (l.map laidF).flatten=b
 by_cases h : (varF b.length).2≠0
 ·rw [if_pos h];exact Or.inr ⟨rfl,by decide⟩
 ·rw [if_neg h]
  split
  ·exact Or.inr ⟨rfl,by decide⟩
  ·rename_i h2
   refine Or.inl ⟨?_,rfl⟩
   have h0 : (readF w ((varF b.length).1++b)).2.2=0:=Classical.byContradiction fun e=>h2 (Or.inl e)
   have h1 : (readF w ((varF b.length).1++b)).2.1=((varF b.length).1++b).length:=Classical.byContradiction fun e=>h2 (Or.inr (Or.inl e))
   have h3 : (readF w ((varF b.length).1++b)).1=l:=by
    by_cases e : ((readF w ((varF b.length).1++b)).1 == l)=true
    ·exact beq_iff_eq.1 e
    ·exact absurd (Or.inr (Or.inr (by simpa using e))) h2
   simp only
   generalize readF w ((varF b.length).1++b)=R at *
   obtain ⟨a,n,c⟩:=R
   simp only at h0 h1 h3
   rw [h0,h1,h3]
theorem readF_pos (w : Int) (b : Bytes) (h : (readF w b).2.2=0) : 0 < (readF w b).2.1:=by
 have hx : ¬((getVarF b).2.2≠0∨((getVarF b).1 : Int) > (b.length : Int) - ((getVarF b).2.1 : Nat)):=by
  intro hx
  unfold readF at h
  rw [if_pos hx] at h
  simp at h
 have h1 : (getVarF b).2.2=0:=Classical.byContradiction fun e=>hx (Or.inl e)
 have hu:=getVar_used b h1
 unfold readF at h ⊢
 rw [if_neg hx] at h ⊢
 split at h
 ·rename_i hc
  rw [if_pos hc]
  simp only
  omega
 ·rename_i hc
  exact absurd h hc
theorem propsK_app (w : Int) (l : List PropD) (rest : Bytes) (h : (layF w l).2=0) : propsK w ((layF w l).1++rest)=.ok (l,rest):=by
 rcases layF_or w l with ⟨h1,_⟩ | ⟨_,h2⟩
 ·have h0 : (readF w (layF w l).1).2.2=0:=by rw [h1]
  unfold propsK
  rw [readF_app w _ rest h0,h1]
  simp
 ·exact absurd h h2
theorem propsK_lt {w : Int} {b : Bytes} {l : List PropD} {r : Bytes} (h : propsK w b=.ok (l,r)) : r.length < b.length:=by
 unfold propsK at h
 split at h
 ·rename_i h0
  injection h with h
  injection h with h1 h2
  subst h2
  have:=readF_pos w b h0
  have:=readF_used w b
  rw [List.length_drop]
  omega
 ·cases h
theorem text_t (rest : Bytes) : textK ((textF [116]).1++rest)=.ok ([116],rest):=by
 have h : getTextF ((textF [116]).1++rest)=([116],3,0):=getText_lay [116] rest (by decide) (by decide)
 have hl : (textF [116]).1=[0,1,116]:=by decide
 unfold textK
 rw [h,if_pos rfl,hl]
 rfl
def bodyT (l : List PropD) (pay : Bytes) : Bytes:=(textF [116]).1++((layF 3 l).1++pay)
theorem pubT_ok (l : List PropD) (pay : Bytes) (h : (layF 3 l).2=0) : pubK 0 (bodyT l pay)=.ok ([116],0,l,pay):=by
 unfold pubK bodyT
 rw [text_t]
 simp only
 rw [if_neg (by decide),propsK_app 3 l pay h]
theorem pubT_no (l : List PropD) (pay : Bytes) (h : (layF 3 l).2≠0) {tp : Bytes} {n : Int} {ps : List PropD} {q : Bytes} (e : pubK 0 (bodyT l pay)=.ok (tp,n,ps,q)) : q≠pay:=by
 have h0 : (layF 3 l).1=[]:=by
  rcases layF_or 3 l with ⟨_,h1⟩ | ⟨h1,_⟩
  ·exact absurd h1 h
  ·exact h1
 unfold pubK bodyT at e
 rw [text_t,h0,List.nil_append] at e
 simp only at e
 rw [if_neg (by decide)] at e
 cases hp : propsK 3 pay with
 | error c=>rw [hp] at e;cases e
 | ok s =>
  obtain ⟨ps',r⟩:=s
  rw [hp] at e
  simp only at e
  injection e with e
  injection e with _ e;injection e with _ e;injection e with _ e
  subst e
  intro he
  have:=propsK_lt hp
  rw [he] at this
  omega
end Go.Proofs.YtmlkhhidifjjfaaDoor
namespace Go.Proofs.YtmlkhhidifjjfaaDoor
set_option maxHeartbeats 16000000
set_option maxRecDepth 10000
def pubB1 (p : PacketD) : Bytes:=if p.qos > 0 then (textF p.topic).1++beB (u64N p.id) 2 else (textF p.topic).1
def pubB (p : PacketD) : Bytes:=(pubB1 p++(layF 3 p.props).1)++p.payload
theorem bodyB_pub (p : PacketD) (h : OkW p) (hk : p.type=3) : E1 78 [.ref 0 0,packV p] [.var wn]=some (.tup [],wH 0 (pubB p)):=by
 have lim:=bytesLim_eq
 have t1:=textF_le p.topic
 have y1:=layF_le 3 p.props
 have n1:=beB_len 2 (u64N p.id)
 have f0:=fun {σ : AHeap} {t site : Nat}=>q_wtext0C p.topic h.topic (σ:=σ) (t:=t) (site:=site)
 have pl:=h.payload
 unfold pubB pubB1
 generalize (textF p.topic).1=l0 at *
 have f1:=fun {σ : AHeap} {site : Nat}=>q_wnum1C l0 p.id 2 (by omega) (by omega) (m:=2) rfl (by omega) (σ:=σ) 0 2 0 (site:=site) (by omega)
 generalize beB (u64N p.id) 2=D1 at *
 have f2:=fun (l : Bytes) (g : Nat) (hl : l.length≤1000000000) {σ : AHeap} {site : Nat}=>q_wprops1C l 3 p.props h.props.1 h.props.2 (by omega) (σ:=σ) 0 2 g (site:=site) (by omega)
 generalize (layF 3 p.props).1=D2 at *
 have f3:=fun (l : Bytes) (g : Nat) (hl : l.length≤2000000000) {σ : AHeap} {site : Nat}=>q_wr1C l p.payload (by omega) (σ:=σ) 0 2 g (site:=site) (by omega)
 have hO:=fun {j g : Nat} {l : Bytes} {σ : AHeap}=>out_wj (j:=j) (g:=g) (l:=l) (σ:=σ)
 rw [packV_cells]
 have e0:=cellsP_len p
 have a0 : (cellsP p)[0]?=some (.int .i64 p.type):=rfl
 have a2 : (cellsP p)[2]?=some (.int .i64 p.qos):=rfl
 have a4 : (cellsP p)[4]?=some (.int .i64 p.id):=rfl
 have a5 : (cellsP p)[5]?=some (.str p.topic):=rfl
 have a6 : (cellsP p)[6]?=some (.lst false (p.payload.map byteV)):=rfl
 have a9 : (cellsP p)[9]?=some (.lst false (p.props.map propV)):=rfl
 rw [hk] at a0
 clear h hk
 generalize cellsP p=P at *
 generalize p.qos=q at *
 generalize p.id=c at *
 generalize p.topic=tp at *
 generalize p.payload=pa at *
 generalize p.props=ps at *
 rw [E1_eq (by rfl) cf_packet_writer_body]
 by_cases hq : q > 0
 ·rw [if_pos hq]
  have k1 : (l0++D1).length=l0.length+D1.length:=List.length_append
  have k2 : (l0++D1++D2).length=l0.length+D1.length+D2.length:=by rw [List.length_append,k1]
  have g2:=fun {σ : AHeap} {site : Nat}=>f2 (l0++D1) 1 (by omega) (σ:=σ) (site:=site)
  have g3:=fun {σ : AHeap} {site : Nat}=>f3 (l0++D1++D2) 2 (by omega) (σ:=σ) (site:=site)
  clear k1 k2 f2 f3
  unfold wn wT at *
  simp -implicitDefEqProofs only [EVS0,EVS1,EVS5,EVS6,EVL0,eq_self,exI,nsite,freeAt,execI,Opd.ev,tget,tins,tput,keepL,sitesOf,List.sum_cons,List.sum_nil,Nat.reduceAdd,Nat.reduceLT,Nat.reduceEqDiff,Nat.reduceBEq,beq_self_eq_true,Bool.false_eq_true,ldA,partA,faddrA,binA,arithA,reduceCtorEq,decide_true,resA,resAll,enterA,↓reduceIte,noRefL,cb_packet_writer_body,b_packet_writer_body,cr_packet_writer_body,oI,faddrA,AVal.cells,a0,a2,a4,a5,a6,a9,Int.reduceBEq,hq,f0,f1,g2,g3,isCallI,isLdI,isAppI,gotOk]
  exact hO (j:=2) (by decide) rfl rfl
 ·rw [if_neg hq]
  have k2 : (l0++D2).length=l0.length+D2.length:=List.length_append
  have g2:=fun {σ : AHeap} {site : Nat}=>f2 l0 0 (by omega) (σ:=σ) (site:=site)
  have g3:=fun {σ : AHeap} {site : Nat}=>f3 (l0++D2) 1 (by omega) (σ:=σ) (site:=site)
  clear k2 f2 f3
  unfold wn wT at *
  simp -implicitDefEqProofs only [EVS0,EVS1,EVS5,EVS6,EVL0,eq_self,exI,nsite,freeAt,execI,Opd.ev,tget,tins,tput,keepL,sitesOf,List.sum_cons,List.sum_nil,Nat.reduceAdd,Nat.reduceLT,Nat.reduceEqDiff,Nat.reduceBEq,beq_self_eq_true,Bool.false_eq_true,ldA,partA,faddrA,binA,arithA,reduceCtorEq,decide_false,resA,resAll,enterA,↓reduceIte,noRefL,cb_packet_writer_body,b_packet_writer_body,cr_packet_writer_body,oI,faddrA,AVal.cells,a0,a2,a5,a6,a9,Int.reduceBEq,hq,f0,g2,g3,isCallI,isLdI,isAppI,gotOk]
  exact hO (j:=2) (by decide) rfl rfl
theorem bodyB_num (p : PacketD) (h : OkW p) (hk : p.type=4∨p.type=5∨p.type=6∨p.type=7) : E1 78 [.ref 0 0,packV p] [.var wn]=some (.tup [],wH 0 (beB (u64N p.id) 2++restB p)):=by
 have n0:=beB_len 2 (u64N p.id)
 have f0:=fun {σ : AHeap} {t site : Nat}=>q_wnum0C p.id 2 (by omega) (by omega) (m:=2) rfl (σ:=σ) (t:=t) (site:=site)
 generalize beB (u64N p.id) 2=l0 at *
 have f1:=fun {σ : AHeap} {site : Nat}=>q_wrest1C p h l0 (by omega) (σ:=σ) 0 2 0 (site:=site) (by omega)
 have hO:=fun {j g : Nat} {l : Bytes} {σ : AHeap}=>out_wj (j:=j) (g:=g) (l:=l) (σ:=σ)
 rw [packV_cells]
 generalize restB p=B at *
 generalize genR p=g0 at *
 have e0:=cellsP_len p
 have e1:=cellsP_take p
 have a0 : (cellsP p)[0]?=some (.int .i64 p.type):=rfl
 have a4 : (cellsP p)[4]?=some (.int .i64 p.id):=rfl
 clear h
 generalize cellsP p=P at *
 generalize p.id=c at *
 generalize p.type=ty at *
 rw [E1_eq (by rfl) cf_packet_writer_body]
 unfold wn at *
 rcases hk with rfl | rfl | rfl | rfl
 all_goals
  simp -implicitDefEqProofs only [EVS0,EVS1,EVS5,EVS6,EVL0,eq_self,exI,nsite,freeAt,execI,Opd.ev,tget,tins,tput,keepL,sitesOf,List.sum_cons,List.sum_nil,Nat.reduceAdd,Nat.reduceLT,Nat.reduceLeDiff,Nat.reduceEqDiff,Nat.reduceBEq,beq_self_eq_true,Bool.false_eq_true,ldA,partA,faddrA,binA,arithA,reduceCtorEq,resA,resAll,enterA,↓reduceIte,noRefL,cb_packet_writer_body,b_packet_writer_body,cr_packet_writer_body,oI,faddrA,AVal.cells,a0,a4,e0,e1,Int.reduceBEq,f0,f1]
  exact hO (j:=2) (by decide) rfl rfl
end Go.Proofs.YtmlkhhidifjjfaaDoor
namespace Go.Proofs.YtmlkhhidifjjfaaDoor
def b_tidingslaw12_PacketProps : ACode:=(.seq (.region [oI 4 (.mov (.c (.bool false)))] none [1,0]) (.seq (.seq (.region [oI 12 (.mov (.t 0)),oI 13 (.len (.t 12)),oI 14 (.bin .gtr (.t 13) (.c (.int .i64 12)))] none [14,1,0]) (.cond (.t 14) (.region [oI 15 (.mov (.t 0)),oI 16 (.slice 5 (.t 15) none (some (.c (.int .i64 12))) none),oI 0 (.mov (.t 16))] none [1,0]) .skip)) (.seq (.region [oI 17 (.mov (.t 1)),oI 18 (.call 18 0 true [(.t 17),(.c (.int .i64 100))]),oI 1 (.mov (.t 18))] none [1,0]) (.seq (.region [oI 20 (.mov (.t 0)),oI 21 (.call 42 0 true [(.c (.int .i64 3)),(.t 20)]),oI 19 (.mov (.t 21)),oI 22 (.ext (.t 19) 0),oI 23 (.ext (.t 19) 1),oI 5 (.mov (.t 22)),oI 6 (.mov (.t 23))] none [6,5,1,0]) (.seq (.region [oI 25 (.mov (.t 0)),oI 26 (.mov (.t 1)),oI 27 (.build [(.int .i64 0),(.bool false),(.int .i64 0),(.bool false),(.int .i64 0),(.str []),(.lst true []),(.int .i64 0),(.lst true []),(.lst true []),(.lst true []),(.lst true []),(.bool false),(.int .i64 0),(.str []),(.bool false),(.str []),(.lst true []),(.int .i64 0),(.bool false),(.lst true []),(.bool false),(.str []),(.bool false),(.lst true []),(.bool false)] [(0,1,(.c (.int .i64 3))),(5,1,(.c (.str [116]))),(9,1,(.t 25)),(6,1,(.t 26))]),oI 28 (.call 34 0 true [(.t 27)]),oI 24 (.mov (.t 28)),oI 29 (.ext (.t 24) 0),oI 30 (.ext (.t 24) 1),oI 7 (.alloc [(.int .u8 0),(.lst true [])]),oN (.st 2 (.t 7) (.t 29)),oI 8 (.mov (.t 30))] none [8,7,6,5,1,0]) (.seq (.seq (.region [oI 31 (.mov (.t 6)),oI 32 (.call 33 0 true [(.t 31)]),oI 33 (.bin .neq (.t 32) (.c (.int .i64 0)))] none [33,8,7,5,1,0]) (.cond (.t 33) (.seq (.region [oI 34 (.mov (.t 8)),oI 35 (.call 33 0 true [(.t 34)]),oI 36 (.bin .eql (.t 35) (.c (.int .i64 129))),oI 37 (.mov (.t 36)),⟨(some 38),(.faddr 1 (.t 7)),(some (37,true)),[]⟩,⟨(some 39),(.ld none (.t 38)),(some (37,true)),[]⟩,⟨(some 40),(.len (.t 39)),(some (37,true)),[]⟩,⟨(some 41),(.bin .eql (.t 40) (.c (.int .i64 0))),(some (37,true)),[]⟩,oI 42 (.pick (.t 37) (.t 41) (.c (.bool false))),oI 43 (.mov (.t 42)),⟨(some 44),(.call 38 0 true []),(some (43,true)),[]⟩,oI 45 (.pick (.t 43) (.t 44) (.c (.bool false))),oI 4 (.mov (.t 45))] none [4]) .ret) .skip)) (.seq (.region [oI 46 (.bslice false 1 3 (.int .u8 0) [(0,(.c (.int .u8 0))),(1,(.c (.int .u8 1))),(2,(.c (.int .u8 116)))]),oI 47 (.mov (.t 5)),oI 48 (.app 1 1 (.int .u8 0) (.t 46) (.t 47)),oI 49 (.mov (.t 1)),oI 50 (.app 1 1 (.int .u8 0) (.t 48) (.t 49)),oI 9 (.mov (.t 50))] none [9,8,7,1,0]) (.seq (.region [oI 52 (.ld (some 2) (.t 7)),oI 53 (.call 32 0 true [(.t 52)]),oI 51 (.mov (.t 53)),oI 54 (.ext (.t 51) 0),oI 55 (.ext (.t 51) 1),oI 10 (.alloc [(.int .i64 0),(.bool false),(.int .i64 0),(.bool false),(.int .i64 0),(.str []),(.lst true []),(.int .i64 0),(.lst true []),(.lst true []),(.lst true []),(.lst true []),(.bool false),(.int .i64 0),(.str []),(.bool false),(.str []),(.lst true []),(.int .i64 0),(.bool false),(.lst true []),(.bool false),(.str []),(.bool false),(.lst true []),(.bool false)]),oN (.st 26 (.t 10) (.t 54)),oI 11 (.mov (.t 55))] none [11,10,9,8,7,1,0]) (.seq (.region [oI 56 (.mov (.t 8)),oI 57 (.call 33 0 true [(.t 56)]),oI 58 (.bin .eql (.t 57) (.c (.int .i64 0))),oI 59 (.mov (.t 58)),⟨(some 60),(.faddr 1 (.t 7)),(some (59,true)),[]⟩,⟨(some 61),(.ld none (.t 60)),(some (59,true)),[]⟩,⟨(some 62),(.mov (.t 9)),(some (59,true)),[]⟩,⟨(some 63),(.call 15 0 true [(.t 61),(.t 62)]),(some (59,true)),[]⟩,oI 64 (.pick (.t 59) (.t 63) (.c (.bool false))),oI 65 (.mov (.t 64)),⟨(some 66),(.mov (.t 11)),(some (65,true)),[]⟩,⟨(some 67),(.call 33 0 true [(.t 66)]),(some (65,true)),[]⟩,⟨(some 68),(.bin .eql (.t 67) (.c (.int .i64 0))),(some (65,true)),[]⟩,oI 69 (.pick (.t 65) (.t 68) (.c (.bool false))),oI 70 (.mov (.t 69)),⟨(some 71),(.faddr 9 (.t 10)),(some (70,true)),[]⟩,⟨(some 72),(.ld none (.t 71)),(some (70,true)),[]⟩,⟨(some 73),(.mov (.t 0)),(some (70,true)),[]⟩,⟨(some 74),(.call 43 0 true [(.t 72),(.t 73)]),(some (70,true)),[]⟩,oI 75 (.pick (.t 70) (.t 74) (.c (.bool false))),oI 76 (.mov (.t 75)),⟨(some 77),(.faddr 6 (.t 10)),(some (76,true)),[]⟩,⟨(some 78),(.ld none (.t 77)),(some (76,true)),[]⟩,⟨(some 79),(.mov (.t 1)),(some (76,true)),[]⟩,⟨(some 80),(.call 15 0 true [(.t 78),(.t 79)]),(some (76,true)),[]⟩,oI 81 (.pick (.t 76) (.t 80) (.c (.bool false))),oI 82 (.mov (.t 81)),⟨(some 83),(.call 38 0 true []),(some (82,true)),[]⟩,oI 84 (.pick (.t 82) (.t 83) (.c (.bool false))),oI 4 (.mov (.t 84))] none [4]) .ret)))))))))
def c_tidingslaw12_PacketProps : AFunc:=⟨[(.tmp 4)],b_tidingslaw12_PacketProps⟩
theorem cf_tidingslaw12_PacketProps : FC 10=some c_tidingslaw12_PacketProps:=by kernel_rfl
theorem cb_tidingslaw12_PacketProps : c_tidingslaw12_PacketProps.body=b_tidingslaw12_PacketProps:=rfl
theorem cr_tidingslaw12_PacketProps : c_tidingslaw12_PacketProps.res=[(.tmp 4)]:=rfl
def b_tidingslaw12_num : ACode:=(.seq (.region [oI 2 (.mov (.c (.int .i64 0)))] none [0]) (.seq (.region [oI 3 (.mov (.t 0)),oI 2 (.mov (.t 3))] none [2]) .ret))
def c_tidingslaw12_num : AFunc:=⟨[(.tmp 2)],b_tidingslaw12_num⟩
theorem cf_tidingslaw12_num : FC 33=some c_tidingslaw12_num:=by kernel_rfl
theorem cb_tidingslaw12_num : c_tidingslaw12_num.body=b_tidingslaw12_num:=rfl
theorem cr_tidingslaw12_num : c_tidingslaw12_num.res=[(.tmp 2)]:=rfl
def b_tidingslaw12_wakes : ACode:=(.seq (.region [oI 0 (.mov (.c (.bool false)))] none []) (.seq (.region [oI 6 (.build [(.int .i64 0),(.bool false),(.int .i64 0),(.bool false),(.int .i64 0),(.str []),(.lst true []),(.int .i64 0),(.lst true []),(.lst true []),(.lst true []),(.lst true []),(.bool false),(.int .i64 0),(.str []),(.bool false),(.str []),(.lst true []),(.int .i64 0),(.bool false),(.lst true []),(.bool false),(.str []),(.bool false),(.lst true []),(.bool false)] [(0,1,(.c (.int .i64 4))),(4,1,(.c (.int .i64 7))),(7,1,(.c (.int .i64 16)))]),oI 7 (.call 40 0 true [(.t 6)]),oI 5 (.mov (.t 7)),oI 8 (.ext (.t 5) 0),oI 9 (.ext (.t 5) 1),oI 1 (.mov (.t 8)),oI 2 (.mov (.t 9))] none [2,1]) (.seq (.region [oI 11 (.bslice false 1 7 (.int .u8 0) [(0,(.c (.int .u8 0))),(1,(.c (.int .u8 1))),(2,(.c (.int .u8 97))),(3,(.c (.int .u8 0))),(4,(.c (.int .u8 1))),(5,(.c (.int .u8 0))),(6,(.c (.int .u8 120)))]),oI 12 (.build [(.int .u8 0),(.lst true [])] [(0,1,(.c (.int .u8 50))),(1,1,(.t 11))]),oI 13 (.call 32 0 true [(.t 12)]),oI 10 (.mov (.t 13)),oI 14 (.ext (.t 10) 0),oI 15 (.ext (.t 10) 1),oI 3 (.alloc [(.int .i64 0),(.bool false),(.int .i64 0),(.bool false),(.int .i64 0),(.str []),(.lst true []),(.int .i64 0),(.lst true []),(.lst true []),(.lst true []),(.lst true []),(.bool false),(.int .i64 0),(.str []),(.bool false),(.str []),(.lst true []),(.int .i64 0),(.bool false),(.lst true []),(.bool false),(.str []),(.bool false),(.lst true []),(.bool false)]),oN (.st 26 (.t 3) (.t 14)),oI 4 (.mov (.t 15))] none [4,3,2,1]) (.seq (.region [oI 16 (.mov (.t 2)),oI 17 (.call 33 0 true [(.t 16)]),oI 18 (.bin .eql (.t 17) (.c (.int .i64 0))),oI 19 (.mov (.t 18)),⟨(some 20),(.mov (.t 1)),(some (19,true)),[]⟩,⟨(some 21),(.bslice false 1 5 (.int .u8 0) [(0,(.c (.int .u8 64))),(1,(.c (.int .u8 3))),(2,(.c (.int .u8 0))),(3,(.c (.int .u8 7))),(4,(.c (.int .u8 16)))]),(some (19,true)),[]⟩,⟨(some 22),(.call 15 0 true [(.t 20),(.t 21)]),(some (19,true)),[]⟩,oI 23 (.pick (.t 19) (.t 22) (.c (.bool false))),oI 24 (.mov (.t 23)),⟨(some 25),(.mov (.t 4)),(some (24,true)),[]⟩,⟨(some 26),(.call 33 0 true [(.t 25)]),(some (24,true)),[]⟩,⟨(some 27),(.bin .eql (.t 26) (.c (.int .i64 0))),(some (24,true)),[]⟩,oI 28 (.pick (.t 24) (.t 27) (.c (.bool false))),oI 29 (.mov (.t 28)),⟨(some 30),(.faddr 5 (.t 3)),(some (29,true)),[]⟩,⟨(some 31),(.ld none (.t 30)),(some (29,true)),[]⟩,⟨(some 32),(.bin .eql (.t 31) (.c (.str [97]))),(some (29,true)),[]⟩,oI 33 (.pick (.t 29) (.t 32) (.c (.bool false))),oI 34 (.mov (.t 33)),⟨(some 35),(.faddr 2 (.t 3)),(some (34,true)),[]⟩,⟨(some 36),(.ld none (.t 35)),(some (34,true)),[]⟩,⟨(some 37),(.bin .eql (.t 36) (.c (.int .i64 1))),(some (34,true)),[]⟩,oI 38 (.pick (.t 34) (.t 37) (.c (.bool false))),oI 39 (.mov (.t 38)),⟨(some 40),(.faddr 4 (.t 3)),(some (39,true)),[]⟩,⟨(some 41),(.ld none (.t 40)),(some (39,true)),[]⟩,⟨(some 42),(.bin .eql (.t 41) (.c (.int .i64 1))),(some (39,true)),[]⟩,oI 43 (.pick (.t 39) (.t 42) (.c (.bool false))),oI 44 (.mov (.t 43)),⟨(some 45),(.faddr 6 (.t 3)),(some (44,true)),[]⟩,⟨(some 46),(.ld none (.t 45)),(some (44,true)),[]⟩,⟨(some 47),(.b2s (.t 46)),(some (44,true)),[]⟩,⟨(some 48),(.bin .eql (.t 47) (.c (.str [120]))),(some (44,true)),[]⟩,oI 49 (.pick (.t 44) (.t 48) (.c (.bool false))),oI 0 (.mov (.t 49))] none [0]) .ret))))
def c_tidingslaw12_wakes : AFunc:=⟨[(.tmp 0)],b_tidingslaw12_wakes⟩
theorem cf_tidingslaw12_wakes : FC 38=some c_tidingslaw12_wakes:=by kernel_rfl
theorem cb_tidingslaw12_wakes : c_tidingslaw12_wakes.body=b_tidingslaw12_wakes:=rfl
theorem cr_tidingslaw12_wakes : c_tidingslaw12_wakes.res=[(.tmp 0)]:=rfl
end Go.Proofs.YtmlkhhidifjjfaaDoor
namespace Go.Proofs.YtmlkhhidifjjfaaDoor
set_option maxHeartbeats 16000000
set_option maxRecDepth 10000
theorem q_ksame2 (a b : Bytes) : E 15 [bytesV a,bytesV b] []=some (.bool (a == b),[]):=by
 rw [E_eq (by rfl) cf_tidingskeep_Same]
 simp -implicitDefEqProofs only [EVS0,EVS1,EVS5,EVL0,eq_self,exI,nsite,freeAt,execI,Opd.ev,tget,tins,tput,keepL,sitesOf,List.sum_cons,List.sum_nil,Nat.reduceLT,Nat.reduceEqDiff,beq_self_eq_true,binA,strA,reduceCtorEq,elemsA,resA,resAll,resOne,enterA,↓reduceIte,cb_tidingskeep_Same,b_tidingskeep_Same,cr_tidingskeep_Same,oI,bytesV]
theorem q_ksame2C (σ : AHeap) (site own : Nat) (f g : Bool) (a b : Bytes) : callG E BY σ site 15 own true [.lst f (a.map byteV),.lst g (b.map byteV)]=some (.bool (a == b),σ,{}) :=
 call_normT (q_ksame2 a b) (by kernel_rfl) rfl rfl rfl (fun _=>rfl) σ site own
theorem q_num12 (e : Int) : E 33 [.int .i64 e] []=some (.int .i64 e,[]):=by
 rw [E_eq (by rfl) cf_tidingslaw12_num]
 simp -implicitDefEqProofs only [EVS0,EVS1,EVS5,EVL0,eq_self,exI,nsite,freeAt,execI,Opd.ev,tget,tins,tput,keepL,sitesOf,List.sum_cons,List.sum_nil,Nat.reduceLT,Nat.reduceEqDiff,beq_self_eq_true,reduceCtorEq,resA,resAll,resOne,enterA,↓reduceIte,cb_tidingslaw12_num,b_tidingslaw12_num,cr_tidingslaw12_num,oI,eq_self]
theorem q_num12C (σ : AHeap) (site own : Nat) (view : Bool) (e : Int) : callG E BY σ site 33 own view [.int .i64 e]=some (.int .i64 e,σ,{}) :=
 call_flat (q_num12 e) (by kernel_rfl) (by simp -implicitDefEqProofs only [EVS3,EVL0,eq_self]) (by simp -implicitDefEqProofs only [EVS4,EVL0,eq_self]) rfl (fun _=>rfl) _ _ _ _
def p7 : PacketD:={ zeroD with type:=4,id:=7,code:=16 }
def b7 : Bytes:=[0,7,16]
theorem p7_ok : OkW p7:=by
 refine ⟨?_,?_,?_,?_,?_,?_,?_,?_,?_,?_,?_,?_⟩ <;> simp [p7,zeroD]
theorem p7_body : E1 78 [.ref 0 0,packV p7] [.var wn]=some (.tup [],wH 0 b7):=by
 have h:=bodyB_num p7 p7_ok (Or.inl rfl)
 have e : beB (u64N p7.id) 2++restB p7=b7:=by
  unfold restB
  rw [if_pos (Or.inl (by decide)),if_neg (by simp [p7,zeroD])]
  decide
 rw [e] at h;exact h
def Q7 : List AVal:=restP ((P0.set 0 (.int .i64 4)).set 4 (.int .i64 7)) 16 none
theorem p7_read : E1 32 [.agg [.int .u8 64,.lst false (b7.map byteV)]] []=some (.tup [.agg Q7,.int .i64 0],[]):=by
 have hi : idK b7=.ok (7,[16]):=by kernel_rfl
 have hr : restK 4 [16]=.ok ((16,none),[]):=by kernel_rfl
 have hf:=q_firstT P0 rfl (by rfl) 64 4 b7 (by decide) (by decide) (by decide) (by decide)
 have hb:=q_kbodyA (P0.set 0 (.int .i64 4)) (by rfl) (by rfl) 4 (Or.inl rfl) rfl rfl rfl (fun r _=>readF_used 4 r) b7 (by decide) hi hr
 rw [E1_read]
 exact readG_T 64 b7 (by rfl) (by rfl) rfl (by rfl) (by rfl) rfl hf hb
theorem p7_readC (σ : AHeap) (site own : Nat) : callG E1 BY σ site 32 own true [.agg [.int .u8 64,.lst false (b7.map byteV)]]=some (.tup [packV p7,.int .i64 0],σ,{}) :=
 q_readC p7_read (fun σ=>rfl) false σ site own
theorem p7_frame : E1 34 [packV p7] []=some (frameV 64 b7 0 true,[]):=by
 have hf : firstW p7=64:=by decide
 have hs : psameB p7 p7=true:=(psameB_iff _ _).2 rfl
 have:=q_frame1 p7 p7 0 b7 p7_body (by decide) (fun σ site own=>by rw [hf];exact p7_readC σ site own) ⟨by decide,by decide,by decide,by decide,by decide⟩
 rw [hf,hs] at this
 exact this
theorem p7_lay : E1 40 [packV p7] []=some (.tup [.lst false ((layW 64 b7).map byteV),.int .i64 0],[]) :=
 q_layT p7 64 b7 (by decide) fun σ site own=>q_frameTC (x:=64) p7_frame (by decide) (by rw [List.all_cons,cellsP_plain];rfl) (by rw [List.map_cons,cellsP_norm];rfl) σ site own
def b50 : Bytes:=[0,1,97,0,1,0,120]
def p50 : PacketD:={ zeroD with type:=3,qos:=1,id:=1,topic:=[97],payload:=[120] }
theorem b50_read : read3 50 b50=(p50,0):=by kernel_rfl
theorem q_wakes12 : E1 38 [] []=some (.bool true,[]):=by
 have h1:=fun (args : List AVal) (hp : args.all plainV=true) (hn : args.map normV=[packV p7]) σ site own=>call_normT (byref:=BY) (args:=args) p7_lay (by kernel_rfl) hp hn rfl (fun _=>rfl) σ site own
 have h2 : ∀ (σ : AHeap) (site own : Nat) (f : Bool),callG E1 BY σ site 32 own true [.agg [.int .u8 50,.lst f [.int .u8 0,.int .u8 1,.int .u8 97,.int .u8 0,.int .u8 1,.int .u8 0,.int .u8 120]]]=some (.tup [.agg [.int .i64 3,.bool false,.int .i64 1,.bool false,.int .i64 1,.str [97],.lst false [.int .u8 120],.int .i64 0,.lst false [],.lst false [],.lst false [],.lst false [],.bool false,.int .i64 0,.str [],.bool false,.str [],.lst false [],.int .i64 0,.bool false,.lst false [],.bool false,.str [],.bool false,.lst false [],.bool false],.int .i64 0],σ,{}):=fun σ site own f=>by
  have:=q_kread3C 50 (by decide) b50 (by decide) f σ site own
  rw [b50_read] at this
  exact this
 have h3:=fun σ site own f g a b=>lift1 (q_ksame2C σ site own f g a b)
 have h4:=fun σ site own e=>lift1 (q_num12C σ site own true e)
 have h5:=h1 [.agg [.int .i64 4,.bool false,.int .i64 0,.bool false,.int .i64 7,.str [],.lst true [],.int .i64 16,.lst true [],.lst true [],.lst true [],.lst true [],.bool false,.int .i64 0,.str [],.bool false,.str [],.lst true [],.int .i64 0,.bool false,.lst true [],.bool false,.str [],.bool false,.lst true [],.bool false]] rfl rfl
 have h6 : ∀ (σ : AHeap) (site own : Nat) (f g : Bool),callG E1 BY σ site 15 own true [.lst f ((layW 64 b7).map byteV),.lst g [.int .u8 64,.int .u8 3,.int .u8 0,.int .u8 7,.int .u8 16]]=some (.bool true,σ,{}):=fun σ site own f g=>by
  have:=h3 σ site own f g (layW 64 b7) [64,3,0,7,16]
  rw [show (layW 64 b7 == [64,3,0,7,16])=true from by decide] at this
  exact this
 have hb : bytesOf [AVal.int .u8 120]=some [120]:=by rfl
 clear h1 h3
 rw [E1_eq (by rfl) cf_tidingslaw12_wakes]
 simp -implicitDefEqProofs only [EVS0,EVS1,EVS2,EVS5,EVL0,EVL1,eq_self,exI,nsite,freeAt,execI,Opd.ev,tget,tins,tput,keepL,sitesOf,List.sum_cons,List.sum_nil,Nat.reduceAdd,Nat.reduceLT,Nat.reduceLeDiff,Nat.reduceEqDiff,Nat.reduceBEq,beq_self_eq_true,Bool.false_eq_true,ldA,stA,partA,faddrA,setAt,binA,arithA,strA,gSpan,unG,ne_eq,Option.some.injEq,reduceCtorEq,decide_true,decide_false,elemsA,resA,resAll,resOne,enterA,↓reduceIte,gcIds,reach,refsB,cb_tidingslaw12_wakes,b_tidingslaw12_wakes,cr_tidingslaw12_wakes,oI,oN,faddrA,AVal.cells,fillA,setAt,h2,h4,h5,h6,hb,viewAs,viewA,viewA1,freezeA,List.foldl_cons,List.foldl_nil,okCell]
theorem q_wakes12C (σ : AHeap) (site own : Nat) (view : Bool) : callG E1 BY σ site 38 own view []=some (.bool true,σ,{}) :=
 call_flat q_wakes12 (by kernel_rfl) rfl rfl rfl (fun _=>rfl) _ _ _ _
end Go.Proofs.YtmlkhhidifjjfaaDoor
namespace Go.Proofs.YtmlkhhidifjjfaaDoor
open Go.RowKit
def byOk (P : Program) : Nat→TypeId→Bool
 | 0,_=>true
 | n+1,t=>match P.underlying t with
  | some (.slice e)=>decide (1≤P.bytesOf e) && byOk P n e
  | some (.struct fs)=>fs.toList.all fun f=>byOk P n f.type
  | _=>true
mutual
def TyR (R : Nat) : Ty→List AVal→Prop
 | .bool,xs=>∃ b,xs=[.bool b]
 | .int k,xs=>∃ n,(Lit.int k n).wf=true∧xs=[.int k n]
 | .str,xs=>∃ l : List UInt8,l.length≤R∧xs=[.str l]
 | .slice s e,xs=>∃ ys : List (List AVal),xs=[.lst false (ys.map (elemV s))]∧ys.length≤R∧∀ y ∈ ys,TyR R e y
 | .struct fs,xs=>TysR R fs xs
def TysR (R : Nat) : List Ty→List AVal→Prop
 | [],xs=>xs=[]
 | f::fs,xs=>∃ a b,xs=a++b∧TyR R f a∧TysR R fs b
end
section
variable {H : Type} {enc : TypeId×Value→H} {P : Program} {w : World} {spare : Nat→Bool} {held : Bool} {R : Nat}
theorem weightsAll_mem {d : DataW H} {e : TypeId} {n : Nat} : ∀ {l : List (DataW H)},d ∈ l→n ∈ d.weights P e→n ∈ DataW.weightsAll P e l
 | x::l,h,hn=>by
  simp only [DataW.weightsAll,List.mem_append]
  rcases List.mem_cons.1 h with rfl | h
  ·exact Or.inl hn
  ·exact Or.inr (weightsAll_mem h hn)
theorem weights_elem {t e : TypeId} {l m : List (DataW H)} {d : DataW H} (hu : P.underlying t=some (.slice e)) (hd : d ∈ l) {n : Nat} (hn : n ∈ d.weights P e) : n ∈ (DataW.slice l m).weights P t:=by
 simp only [DataW.weights,hu,List.mem_cons,List.mem_append]
 exact Or.inr (Or.inl (weightsAll_mem hd hn))
theorem tys_ofR {n fuel : Nat} {cs : List Value} (ih : ∀ (t : TypeId) (cs : List Value) (x : DataW H×List MemPlace) (T : Ty),tyOf P n t=some T→byOk P n t=true→(∀ m ∈ x.1.weights P t,m≤R)→DataW.trod enc P w 0 spare held fuel t cs=some x→∃ xs,TyR R T xs∧VRs (Imm.of w) B0 xs cs∧treeC xs=true) :
  ∀ (fs : List Field) (at' : Nat) (Ts : List Ty) (ys : List (DataW H×List MemPlace)),(fs.all fun f=>byOk P n f.type)=true→(∀ m ∈ DataW.weightsEach P (fs.map (·.type)) (ys.map (·.1)),m≤R)→offsOk P at' fs cs.length=true→fs.mapM (fun f=>tyOf P n f.type)=some Ts →
   fs.mapM (fun f=>DataW.trod enc P w 0 spare held fuel f.type ((cs.drop f.offset).take (P.cellsOf f.type)))=some ys→∃ xs,TysR R Ts xs∧VRs (Imm.of w) B0 xs (cs.drop at')∧treeC xs=true
 | [],at',Ts,ys,_,_,ho,hT,_=>by
  simp only [offsOk,beq_iff_eq] at ho
  simp only [List.mapM_nil,Option.pure_def,Option.some.injEq] at hT
  subst hT ho
  exact ⟨[],by simp only [TysR],by simp [VRs],rfl⟩
 | f::fs,at',Ts,ys,hby,hwt,ho,hT,h=>by
  simp only [offsOk,Bool.and_eq_true,beq_iff_eq] at ho
  obtain ⟨T,Ts',h1,h2,rfl⟩:=mapM_cons_some hT
  obtain ⟨y,ys',h3,h4,rfl⟩:=mapM_cons_some h
  simp only [List.all_cons,Bool.and_eq_true] at hby
  simp only [List.map_cons,DataW.weightsEach,List.mem_append] at hwt
  obtain ⟨a,a1,a2,a3⟩:=ih _ _ _ _ h1 hby.1 (fun m hm=>hwt m (Or.inl hm)) h3
  obtain ⟨b,b1,b2,b3⟩:=tys_ofR ih fs _ _ _ hby.2 (fun m hm=>hwt m (Or.inr hm)) ho.2 h2 h4
  rw [ho.1] at a2
  refine ⟨a++b,by simp only [TysR];exact ⟨a,b,rfl,a1,b1⟩,VRs_split a2 (by rw [List.drop_drop];exact b2),treeC_append a3 b3⟩
theorem tyOneR {n : Nat} {e : TypeId} {T : Ty} (hT : tyOf P n e=some T) (hs : isRowD (P.underlying e)=false) {xs : List AVal} (h : TyR R T xs) : xs.length=1:=by
 cases n with
 | zero=>simp [tyOf] at hT
 | succ n =>
  simp only [tyOf] at hT
  split at hT
  ·injection hT with hT;subst hT;simp only [TyR] at h;obtain ⟨_,rfl⟩:=h;rfl
  ·injection hT with hT;subst hT;simp only [TyR] at h;obtain ⟨_,_,rfl⟩:=h;rfl
  ·injection hT with hT;subst hT;simp only [TyR] at h;obtain ⟨_,_,rfl⟩:=h;rfl
  ·split at hT
   ·simp only [Option.map_eq_some_iff] at hT
    obtain ⟨T',_,rfl⟩:=hT
    simp only [TyR] at h;obtain ⟨_,rfl,_⟩:=h;rfl
   ·cases hT
  ·rename_i hu;rw [hu] at hs;simp [isRowD] at hs
  ·cases hT
theorem trod_tyR : ∀ (n fuel : Nat) (t : TypeId) (cs : List Value) (x : DataW H×List MemPlace) (T : Ty),tyOf P n t=some T→byOk P n t=true→(∀ m ∈ x.1.weights P t,m≤R)→DataW.trod enc P w 0 spare held fuel t cs=some x →
  ∃ xs,TyR R T xs∧VRs (Imm.of w) B0 xs cs∧treeC xs=true
 | 0,fuel,t,cs,x,T,hT,_,_,_=>by simp [tyOf] at hT
 | n+1,0,t,cs,x,T,_,_,_,h=>by simp [DataW.trod] at h
 | n+1,fuel+1,t,cs,x,T,hT,hby,hwt,h=>by
  have h0:=h
  simp only [tyOf] at hT
  unfold DataW.trod at h
  split at hT
  ·rename_i hu
   injection hT with hT;subst hT
   obtain ⟨b,rfl,_⟩:=DataW.trod_bool hu h0
   exact ⟨[.bool b],by simp only [TyR];exact ⟨b,rfl⟩,by simp [VRs,VR],rfl⟩
  ·rename_i k hu
   injection hT with hT;subst hT
   obtain ⟨n',rfl,_,hk⟩:=DataW.trod_int hu h0
   exact ⟨[.int k n'],by simp only [TyR];exact ⟨n',hk,rfl⟩,by simp [VRs,VR],rfl⟩
  ·rename_i hu
   injection hT with hT;subst hT
   obtain ⟨s,rfl,hx,hs⟩:=DataW.trod_string hu h0
   have hs' : s.data.toList.length≤9223372036854775807:=by
    rw [Array.length_toList];exact Nat.le_trans hs (by simp [maxLen])
   have hR : s.data.toList.length≤R:=by
    subst hx
    exact hwt _ (by simp [DataW.weights])
   exact ⟨[.str s.data.toList],by simp only [TyR];exact ⟨_,hR,rfl⟩,by simp only [VRs,VR];exact ⟨_,_,rfl,⟨by simp,hs'⟩,rfl⟩,rfl⟩
  ·rename_i e hu
   split at hT
   case isFalse=>cases hT
   rename_i hc
   simp only [Option.map_eq_some_iff] at hT
   obtain ⟨T,hT,rfl⟩:=hT
   rcases Go.Deep.open_slice hu h0 with ⟨hcs,_⟩ | ⟨a,len,cap,m,n',D,Pl,hcs,_,hl,hm,hmm,hx,hi⟩
   ·subst hcs
    exact ⟨[.lst false []],by simp only [TyR];exact ⟨[],by simp,by simp,by simp⟩,by simp only [VRs,VR];exact ⟨_,_,rfl,⟨none,0,rfl,by simp,by simp,by simp,by simp,by simp [treeL]⟩,rfl⟩,rfl⟩
   ·have hlm : len≤m:=by split at hmm <;> omega
    unfold byOk at hby
    rw [hu] at hby
    simp only [Bool.and_eq_true,decide_eq_true_eq] at hby
    have hlR : len≤R:=by
     have:=hwt _ (by rw [hx];simp only [DataW.weights,hu];exact List.mem_cons_self ..)
     simp only [List.length_map,List.length_range] at this
     have h1:=Nat.le_mul_of_pos_right (len+(m - len)) hby.1
     omega
    have hspot : 0 < len→a.spot=none:=by
     intro h0
     obtain ⟨cs',h1,h2⟩:=hi 0 (by omega)
     obtain ⟨_,h6,h7⟩:=World.cells?_some h1
     have h8:=h7 0 hc
     obtain ⟨u,hu⟩ : ∃ u,cs'[0]?=some u:=⟨cs'[0]'(by omega),by simp⟩
     rw [hu] at h8
     simp only [Nat.zero_mul,Addr.add,if_true] at h8
     exact cell_spot (b:=a.block) (off:=a.off) (s:=a.spot) (u:=u) h8
    have hall : ∀ i,∃ xs,i < len→TyR R T xs∧(elemV (isRowD (P.underlying e)) xs).cells=xs∧xs.length=P.cellsOf e∧CR (Imm.of w) B0 xs a.block (a.off+i*P.cellsOf e)∧treeC xs=true:=by
     intro i
     by_cases hlt : i < len
     ·obtain ⟨cs',h1,h2⟩:=hi i (by omega)
      obtain ⟨xs,h3,h4,h5⟩:=trod_tyR n n' e cs' _ T hT hby.2 (fun q hq=>hwt q (by rw [hx];exact weights_elem hu (List.mem_map.2 ⟨i,List.mem_range.2 hlt,rfl⟩) hq)) h2
      obtain ⟨_,h6,h7⟩:=World.cells?_some h1
      have hlen:=VRs_length h4
      refine ⟨xs,fun _=>⟨h3,elemV_cells (fun hs=>tyOneR hT hs h3) (fun _=>treeC_ok h5),by omega,CR_of xs cs' _ h4 (fun j hj=>?_),h5⟩⟩
      have h8:=h7 j (by omega)
      rw [Go.Deep.add_add,addr_at (hspot (by omega)),←Nat.add_assoc] at h8
      exact h8
     ·exact ⟨[],fun h=>absurd h hlt⟩
    obtain ⟨Y,hY⟩:=Classical.axiomOfChoice hall
    subst hcs
    have hmx : maxLen=9223372036854775807:=by simp [maxLen]
    rw [hmx] at hm
    refine ⟨[.lst false ((List.range len).map fun i=>elemV (isRowD (P.underlying e)) (Y i))],?_,?_,?_⟩
    ·simp only [TyR]
     refine ⟨(List.range len).map Y,by rw [List.map_map];rfl,by simpa using hlR,?_⟩
     intro y hy
     obtain ⟨i,hi',rfl⟩:=List.mem_map.1 hy
     exact (hY i (List.mem_range.1 hi')).1
    ·simp only [VRs,VR,List.length_map,List.length_range]
     refine ⟨_,_,rfl,⟨some a,cap,rfl,hl,hm,by simp,?_,treeL_of len Y fun i hlt=>by rw [(hY i hlt).2.1];exact (hY i hlt).2.2.2.2⟩,rfl⟩
     cases len with
     | zero=>exact Or.inl (by simp)
     | succ len =>
      refine Or.inr ⟨a.block,a.off,P.cellsOf e,?_,hc,LR_rng (len+1) a.off Y fun i hlt=>?_⟩
      ·have:=hspot (by omega)
       cases a;simp_all
      ·rw [(hY i hlt).2.1];exact ⟨(hY i hlt).2.2.1,(hY i hlt).2.2.2.1⟩
    ·simp only [treeC,tree1,Bool.and_true]
     exact treeL_of len Y fun i hlt=>by rw [(hY i hlt).2.1];exact (hY i hlt).2.2.2.2
  ·rename_i fs hu
   split at hT
   case isFalse=>cases hT
   rename_i ho
   simp only [Option.map_eq_some_iff] at hT
   obtain ⟨Ts,hT,rfl⟩:=hT
   rw [hu] at h
   simp only at h
   split at h
   ·rename_i hl
    simp only [Option.map_eq_some_iff] at h
    obtain ⟨ys,hy,rfl⟩:=h
    unfold byOk at hby
    rw [hu] at hby
    simp only [DataW.weights,hu] at hwt
    obtain ⟨xs,h1,h2,h3⟩:=tys_ofR (fun t cs x T h h1 h2 h'=>trod_tyR n fuel t cs x T h h1 h2 h') fs.toList 0 Ts ys hby hwt (by rw [hl];exact ho) hT hy
    exact ⟨xs,by simp only [TyR];exact h1,h2,h3⟩
   ·cases h
  ·cases hT
def ArgR (R : Nat) (s : Bool) (T : Ty) (x : AVal) : Prop:=∃ xs,TyR R T xs∧x=elemV s xs
theorem arg_tyR {n : Nat} {t : TypeId} {v : Value} {d : DataW H} {ps : List MemPlace} {T : Ty} {r : Reach} {b0 : Nat} (hT : tyOf P n t=some T) (hby : byOk P n t=true) (hwt : ∀ m ∈ d.weights P t,m≤R) (hv : Value.okWide P w r b0 t v) (h : DataW.Trod enc P w 0 spare held t v d ps) :
  ∃ x,ArgR R (isRowD (P.underlying t)) T x∧VR (Imm.of w) B0 x v∧treeC x.cells=true:=by
 obtain ⟨fuel,h⟩:=h
 obtain ⟨xs,h1,h2,h3⟩:=trod_tyR n fuel t _ _ T hT hby hwt h
 refine ⟨elemV (isRowD (P.underlying t)) xs,⟨xs,h1,rfl⟩,?_⟩
 by_cases hs : isRowD (P.underlying t)=true
 ·have : ∃ cs,v=.agg cs:=by
   unfold Value.okWide at hv
   cases hu : P.underlying t with
   | none=>rw [hu] at hs;simp [isRowD] at hs
   | some dd =>
    rw [hu] at hv hs
    cases dd <;> first | (simp [isRowD] at hs;done) | (obtain ⟨cs,e,_⟩:=hv;exact ⟨cs,e⟩)
  obtain ⟨cs,rfl⟩:=this
  rw [hs]
  exact ⟨by simp only [elemV,if_true,VR];exact ⟨cs,rfl,h2⟩,h3⟩
 ·have hs' : isRowD (P.underlying t)=false:=by simpa using hs
  have hl:=tyOneR hT hs' h1
  have hlen:=VRs_length h2
  rw [hs']
  match xs,hl with
  | [x],_ =>
   simp only [elemV,Bool.false_eq_true,if_false,List.headD_cons]
   have hvc : v.cells=#[v]:=by
    cases n with
    | zero=>simp [tyOf] at hT
    | succ n =>
     simp only [tyOf] at hT
     split at hT
     ·rename_i hu;obtain ⟨b,rfl⟩:=Go.WideShapes.okWide_bool hu hv;rfl
     ·rename_i k hu;obtain ⟨b,rfl⟩:=Go.WideShapes.okWide_int hu hv;rfl
     ·rename_i hu;obtain ⟨b,rfl⟩:=Go.WideShapes.okWide_string hu hv;rfl
     ·rename_i e hu;obtain ⟨a,l,c,rfl⟩:=Go.WideShapes.okWide_slice hu hv;rfl
     ·rename_i fs hu;rw [hu] at hs';simp [isRowD] at hs'
     ·cases hT
   rw [hvc] at h2
   simp only [VRs] at h2
   obtain ⟨v',vs',e,h2,_⟩:=h2
   simp only [List.cons.injEq] at e
   rw [e.1]
   refine ⟨h2,?_⟩
   have hok:=treeC_ok h3 x (by simp)
   have hx : x.cells=[x]:=by cases x <;> first | rfl | (simp [okCell] at hok;done)
   rw [hx];exact h3
end
end Go.Proofs.YtmlkhhidifjjfaaDoor
namespace Go.Proofs.YtmlkhhidifjjfaaDoor
open Go.RowKit
variable {R : Nat}
theorem rows_ofR {α : Type} {T : Ty} {s : Bool} {f : α→AVal} {Q : α→Prop} (h : ∀ y,TyR R T y→∃ a,Q a∧elemV s y=f a) {xs : List AVal} (hx : TyR R (.slice s T) xs) : ∃ l : List α,(l.length≤R∧∀ a ∈ l,Q a)∧xs=[.lst false (l.map f)]:=by
 simp only [TyR] at hx
 obtain ⟨ys,rfl,h1,h2⟩:=hx
 have : ∀ ys : List (List AVal),(∀ y ∈ ys,TyR R T y)→∃ l : List α,(∀ a ∈ l,Q a)∧ys.map (elemV s)=l.map f:=by
  intro ys
  induction ys with
  | nil=>intro _;exact ⟨[],by simp,rfl⟩
  | cons y ys ih =>
   intro hy
   obtain ⟨a,hq,ha⟩:=h y (hy y (by simp))
   obtain ⟨l,hql,hl⟩:=ih fun y' h'=>hy y' (by simp [h'])
   exact ⟨a::l,by simpa using ⟨hq,hql⟩,by simp [ha,hl]⟩
 obtain ⟨l,hq,hl⟩:=this ys h2
 refine ⟨l,⟨?_,hq⟩,by rw [hl]⟩
 have:=congrArg List.length hl
 simp only [List.length_map] at this
 omega
theorem byte_ofR {y : List AVal} (h : TyR R (.int .u8) y) : ∃ b,True∧elemV false y=byteV b:=by
 simp only [TyR] at h
 obtain ⟨n,hw,rfl⟩:=h
 have h1 : 0≤n∧n≤255:=by
  simp only [Lit.wf,Bool.and_eq_true,decide_eq_true_eq] at hw
  exact hw
 refine ⟨UInt8.ofNat n.toNat,trivial,?_⟩
 simp only [elemV,Bool.false_eq_true,if_false,List.headD_cons,byteV,AVal.int.injEq,true_and]
 rw [UInt8.toNat_ofNat']
 omega
theorem bytes_ofR {xs : List AVal} (h : TyR R (.slice false (.int .u8)) xs) : ∃ b : Bytes,b.length≤R∧xs=[bytesV b]:=by
 obtain ⟨b,h1,h2⟩:=rows_ofR (Q:=fun _=>True) (fun _=>byte_ofR) h
 exact ⟨b,h1.1,h2⟩
def okI (n : Int) : Prop:=-9223372036854775808≤n∧n≤9223372036854775807
theorem int1_ofR {y : List AVal} (h : TyR R (.int .i64) y) : ∃ n,okI n∧y=[.int .i64 n]:=by
 simp only [TyR] at h
 obtain ⟨n,hw,rfl⟩:=h
 refine ⟨n,?_,rfl⟩
 simp only [Lit.wf,Bool.and_eq_true,decide_eq_true_eq] at hw
 exact hw
theorem str1_ofR {y : List AVal} (h : TyR R .str y) : ∃ l : Bytes,l.length≤R∧y=[.str l]:=by
 simp only [TyR] at h;exact h
def propT : Ty:=.struct [.int .i64,.int .i64,.str,.str,.slice false (.int .u8)]
def okProp (R : Nat) (p : PropD) : Prop:=okI p.id∧okI p.num∧p.text.length≤R∧p.pair.length≤R∧p.data.length≤R
theorem prop_ofR {y : List AVal} (h : TyR R propT y) : ∃ p,okProp R p∧elemV true y=propV p:=by
 unfold propT at h
 rw [TyR] at h
 simp only [TysR] at h
 obtain ⟨_,_,rfl,h1,_,_,rfl,h2,_,_,rfl,h3,_,_,rfl,h4,_,_,rfl,h5,rfl⟩:=h
 obtain ⟨i,i1,rfl⟩:=int1_ofR h1
 obtain ⟨n,n1,rfl⟩:=int1_ofR h2
 obtain ⟨t,t1,rfl⟩:=str1_ofR h3
 obtain ⟨q,q1,rfl⟩:=str1_ofR h4
 obtain ⟨d,d1,rfl⟩:=bytes_ofR h5
 exact ⟨⟨i,n,t,q,d⟩,⟨i1,n1,t1,q1,d1⟩,rfl⟩
def okProps (R : Nat) (l : List PropD) : Prop:=l.length≤R∧∀ p ∈ l,okProp R p
theorem props_ofR {xs : List AVal} (h : TyR R (.slice true propT) xs) : ∃ l : List PropD,okProps R l∧xs=[propsV l]:=rows_ofR (fun _=>prop_ofR) h
structure OkPack (R : Nat) (p : PacketD) : Prop where
 topic : p.topic.length≤R
 payload : p.payload.length≤R
 codes : p.codes.length≤R∧∀ n ∈ p.codes,okI n
 props : okProps R p.props
 subs : p.subs.length≤R∧∀ s ∈ p.subs,s.filter.length≤R∧okI s.qos∧okI s.handling∧okI s.id
 filters : p.filters.length≤R∧∀ f ∈ p.filters,f.length≤R
 client : p.client.length≤R
 wtopic : p.will.topic.length≤R
 wdata : p.will.data.length≤R
 wprops : okProps R p.will.props
 user : p.user.length≤R
 password : p.password.length≤R
 ints : okI p.type∧okI p.qos∧okI p.id∧okI p.code∧okI p.keep∧okI p.will.qos
theorem propsA_ofR {x : AVal} (h : ArgR R false (.slice true propT) x) : ∃ l : List PropD,okProps R l∧x=.lst false (l.map propV):=by
 obtain ⟨y,h,rfl⟩:=h
 obtain ⟨l,h1,rfl⟩:=props_ofR h
 exact ⟨l,h1,rfl⟩
theorem bytesA_ofR {x : AVal} (h : ArgR R false (.slice false (.int .u8)) x) : ∃ l : Bytes,l.length≤R∧x=bytesV l:=by
 obtain ⟨y,h,rfl⟩:=h
 obtain ⟨l,h1,rfl⟩:=bytes_ofR h
 exact ⟨l,h1,rfl⟩
end Go.Proofs.YtmlkhhidifjjfaaDoor
namespace Go.Proofs.YtmlkhhidifjjfaaDoor
set_option maxHeartbeats 16000000
set_option maxRecDepth 10000
theorem laidL_len : ∀ (l : List PropD),(l.map laidF).flatten.length≤l.length*200000
 | []=>by simp
 | p::l=>by
  have:=laidL_len l
  have:=laidF_len p
  simp only [List.map_cons,List.flatten_cons,List.length_append,List.length_cons]
  omega
theorem layF_small (w : Int) (l : List PropD) (h : l.length≤1000) : (layF w l).1.length≤200000004:=by
 have h1:=laidL_len l
 unfold layF layE
 generalize (l.map laidF).flatten=b at *
 have:=varF_len (b.length : Nat)
 repeat' split
 all_goals simp only [List.length_append,List.length_nil]
 all_goals omega
def pubP (ps : List PropD) (pay : Bytes) : PacketD:={ zeroD with type:=3,topic:=[116],props:=ps,payload:=pay }
theorem pubP_first (ps : List PropD) (pay : Bytes) : firstW (pubP ps pay)=48:=by
 show (if (3 : Int)=3 then orU (first0 3) (IntKind.u8.wrap (markI false 8+andB 0 3*2+markI false 1)) else first0 3)=48
 decide
theorem pubP_body (ps : List PropD) (pay : Bytes) : pubB (pubP ps pay)=bodyT ps pay:=by
 show ((if (0 : Int) > 0 then _ else (textF [116]).1)++(layF 3 ps).1)++pay=_
 rw [if_neg (by decide),List.append_assoc]
 rfl
theorem read3_48 (l : Bytes) : read3 48 l=match pubK 0 l with
  | .error e=>(zeroD,e)
  | .ok (tp,n,ps,pay)=>({ zeroD with type:=3,id:=n,topic:=tp,props:=ps,payload:=pay },0):=by
 have h1 : qoI 48=0:=by decide
 have h2 : (andU 48 8 != 0)=false:=by decide
 have h3 : (andU 48 1 != 0)=false:=by decide
 unfold read3
 rw [h1,h2,h3,if_pos (by decide),if_pos (Or.inr rfl)]
 rfl
theorem read3_ok (ps : List PropD) (pay : Bytes) (h : (layF 3 ps).2=0) : read3 48 (bodyT ps pay)=(pubP ps pay,0):=by
 rw [read3_48,pubT_ok ps pay h]
 rfl
theorem read3_no (ps : List PropD) (pay : Bytes) (h : (layF 3 ps).2≠0) : psameB (read3 48 (bodyT ps pay)).1 (pubP ps pay)=false:=by
 rw [Bool.eq_false_iff]
 intro hs
 rw [psameB_iff] at hs
 rw [read3_48] at hs
 cases hp : pubK 0 (bodyT ps pay) with
 | error e =>
  rw [hp] at hs
  have:=congrArg PacketD.type hs
  simp [pubP,zeroD] at this
 | ok s =>
  obtain ⟨tp,n,ps',q⟩:=s
  rw [hp] at hs
  have:=congrArg PacketD.payload hs
  exact pubT_no ps pay h hp (by simpa [pubP] using this)
theorem propsK_cnt {w : Int} {b : Bytes} {l : List PropD} {r : Bytes} (h : propsK w b=.ok (l,r)) : l.length≤268435455:=by
 unfold propsK at h
 split at h
 ·injection h with h
  injection h with h1 h2
  rw [←h1];exact readF_cnt w b
 ·cases h
theorem pubK_cnt {l : Bytes} {tp : Bytes} {n : Int} {ps : List PropD} {q : Bytes} (e : pubK 0 l=.ok (tp,n,ps,q)) : ps.length≤268435455:=by
 unfold pubK at e
 cases ht : textK l with
 | error c=>rw [ht] at e;cases e
 | ok s =>
  obtain ⟨t,r⟩:=s
  rw [ht] at e
  simp only at e
  rw [if_neg (by decide)] at e
  cases hp : propsK 3 r with
  | error c=>rw [hp] at e;cases e
  | ok s =>
   obtain ⟨ps',r'⟩:=s
   rw [hp] at e
   injection e with e
   injection e with _ e;injection e with _ e;injection e with e _
   rw [←e];exact propsK_cnt hp
section
variable (ps : List PropD) (pay : Bytes) (hn : ps.length≤12) (hx : ∀ p ∈ ps,OkTx p) (hy : pay.length≤100)
include hn hx hy
theorem pubP_ok : OkW (pubP ps pay):=by
 refine ⟨by simp [pubP],by simp only [pubP];omega,by simp [pubP,zeroD],⟨by simp only [pubP];omega,hx⟩,?_,?_,?_,?_,?_,?_,?_,?_⟩ <;> simp [pubP,zeroD]
theorem bodyT_len : (bodyT ps pay).length≤268435455:=by
 have h1:=layF_small 3 ps (by omega)
 have h2 : (textF [116]).1.length=3:=by decide
 unfold bodyT
 rw [List.length_append,List.length_append]
 omega
theorem q_frameP : E1 34 [packV (pubP ps pay)] []=some (frameV 48 (bodyT ps pay) (read3 48 (bodyT ps pay)).2 (psameB (read3 48 (bodyT ps pay)).1 (pubP ps pay)),[]):=by
 have hl:=bodyT_len ps pay hn hx hy
 have hb:=bodyB_pub (pubP ps pay) (pubP_ok ps pay hn hx hy) rfl
 rw [pubP_body] at hb
 have hf:=pubP_first ps pay
 have:=q_frame1 (pubP ps pay) (read3 48 (bodyT ps pay)).1 (read3 48 (bodyT ps pay)).2 (bodyT ps pay) hb (by omega) (fun σ site own=>by rw [hf];exact q_kread3C 48 (by decide) (bodyT ps pay) (by omega) false σ site own) ?_
 ·rw [hf] at this;exact this
 ·rw [read3_48]
  cases hq : pubK 0 (bodyT ps pay) with
  | error e=>exact ⟨by simp [zeroD],by simp [zeroD],by simp [zeroD],by simp [zeroD],by simp [zeroD]⟩
  | ok s =>
   obtain ⟨tp,n,ps',q⟩:=s
   refine ⟨by simp [zeroD],?_,by simp [zeroD],by simp [zeroD],by simp [zeroD]⟩
   exact Nat.le_trans (pubK_cnt hq) (by decide)
end
theorem app_new (σ : AHeap) (site : Nat) (L : Bytes) (hL : L≠[]) (hl : L.length≤1000000000) : appA σ site 1 1 (.lst true [.int .u8 0,.int .u8 1,.int .u8 116]) (.lst false (L.map byteV))=some (.sl site 0 0 (3+L.length),σ.set site (.row 0 1 ([AVal.int .u8 0,.int .u8 1,.int .u8 116]++L.map byteV)),{}):=by
 cases L with
 | nil=>exact absurd rfl hL
 | cons b r =>
  have hk:=kokB (b::r)
  have h3 : kOk 1 [AVal.int .u8 0,.int .u8 1,.int .u8 116]=true:=rfl
  have hl2 : (3+(r.length+1))*1≤140737488355328:=by simp only [List.length_cons] at hl;omega
  simp only [List.map_cons] at hk
  simp only [appA,elemsA,List.map_cons,hk,if_true,h3,List.length_cons,List.length_nil,List.length_map,Nat.zero_add,Nat.reduceAdd,hl2,and_self]
theorem app_own {σ : AHeap} {site t g n : Nat} {xs : List AVal} (hs : σ[t]?=some (.row g 1 xs)) (hn : n=xs.length) (L : Bytes) (hl : n+L.length≤140737488355328) : appA σ site 1 1 (.sl t g 0 n) (.lst false (L.map byteV))=some (.sl t (g+1) 0 (n+L.length),σ.set t (.row (g+1) 1 (xs++L.map byteV)),{ wr:=[t] }):=by
 have hk:=kokB L
 have hl2 : (n+L.length)*1≤140737488355328:=by omega
 simp only [appA,elemsA,hk,if_true,hs,List.length_map,hn]
 rw [←hn,if_pos ⟨trivial,trivial,trivial,hl2⟩]
theorem layF_ne {w : Int} {l : List PropD} (h : (layF w l).2=0) : (layF w l).1≠[]:=by
 intro e
 rcases layF_or w l with ⟨h1,_⟩ | ⟨_,h2⟩
 ·have:=readF_pos w (layF w l).1 (by rw [h1])
  rw [h1,e] at this
  simp at this
 ·exact h2 h
theorem fits_take {l : List PropD} (hx : ∀ p ∈ l,OkTx p) : ∀ p ∈ l.take 12,OkTx p:=fun p hp=>hx p (List.mem_of_mem_take hp)
section
variable (ps : List PropD) (pay : Bytes) (hn : ps.length≤12) (hx : ∀ p ∈ ps,OkTx p) (hy : pay.length≤100)
include hn hx hy
theorem fr_ok (h : (layF 3 ps).2=0) (f g : Bool) (σ : AHeap) (site own : Nat) : callG E1 BY σ site 34 own true [.agg [.int .i64 3,.bool false,.int .i64 0,.bool false,.int .i64 0,.str [116],.lst f (pay.map byteV),.int .i64 0,.lst true [],.lst g (ps.map propV),.lst true [],.lst true [],.bool false,.int .i64 0,.str [],.bool false,.str [],.lst true [],.int .i64 0,.bool false,.lst true [],.bool false,.str [],.bool false,.lst true [],.bool false]]=some (.tup [.agg [.int .u8 48,.lst false ((bodyT ps pay).map byteV)],.int .i64 0],σ,{}):=by
 have hF:=q_frameP ps pay hn hx hy
 rw [read3_ok ps pay h,show psameB (pubP ps pay) (pubP ps pay)=true from (psameB_iff _ _).2 rfl] at hF
 exact q_frameTC (x:=48) hF (bodyT_len ps pay hn hx hy) rfl rfl σ site own
theorem fr_no (h : (layF 3 ps).2≠0) (f g : Bool) (σ : AHeap) (site own : Nat) : callG E1 BY σ site 34 own true [.agg [.int .i64 3,.bool false,.int .i64 0,.bool false,.int .i64 0,.str [116],.lst f (pay.map byteV),.int .i64 0,.lst true [],.lst g (ps.map propV),.lst true [],.lst true [],.bool false,.int .i64 0,.str [],.bool false,.str [],.lst true [],.int .i64 0,.bool false,.lst true [],.bool false,.str [],.bool false,.lst true [],.bool false]]=some (.tup [.agg [.int .u8 0,.lst false []],.int .i64 129],σ,{}):=by
 have hF:=q_frameP ps pay hn hx hy
 exact q_frameFC hF (fun e=>by rw [read3_no ps pay h] at e;exact absurd e.2.2 (by decide)) rfl rfl σ site own
theorem rd_ok (h : (layF 3 ps).2=0) (σ : AHeap) (site own : Nat) : callG E1 BY σ site 32 own true [.agg [.int .u8 48,.lst false ((bodyT ps pay).map byteV)]]=some (.tup [.agg [.int .i64 3,.bool false,.int .i64 0,.bool false,.int .i64 0,.str [116],.lst false (pay.map byteV),.int .i64 0,.lst false [],.lst false (ps.map propV),.lst false [],.lst false [],.bool false,.int .i64 0,.str [],.bool false,.str [],.lst false [],.int .i64 0,.bool false,.lst false [],.bool false,.str [],.bool false,.lst false [],.bool false],.int .i64 0],σ,{}):=by
 have:=q_kread3C 48 (by decide) (bodyT ps pay) (by have:=bodyT_len ps pay hn hx hy;omega) false σ site own
 rw [read3_ok ps pay h] at this
 exact this
end
theorem psame_self (σ : AHeap) (site own : Nat) (ps : List PropD) (h : ps.length≤12) : callG E1 BY σ site 43 own true [.lst false (ps.map propV),.lst false (ps.map propV)]=some (.bool true,σ,{}):=by
 have:=lift1 (q_psameC σ site own true ps ps (by omega))
 rwa [show (ps == ps)=true from by simp] at this
theorem ksame_row (σ : AHeap) (site own : Nat) (a b : Bytes) (t g : Nat) (hs : σ[t]?=some (.row g 1 (b.map byteV))) (n : Nat) (hn : n=b.length) : callG E1 BY σ site 15 own true [.lst false (a.map byteV),.sl t g 0 n]=some (.bool (a == b),σ,{ rd:=[t] }):=by
 subst hn
 refine lift1 (call_shown_flat (vs:=[bytesV a,bytesV b]) (by kernel_rfl) ?_ rfl rfl (q_ksame2 a b) rfl rfl site own)
 have h1 : 0+b.length≤(b.map byteV).length:=by simp
 have h2 : (b.map byteV).take b.length=b.map byteV:=List.take_of_length_le (by simp)
 simp only [showAs,showA,showA1,elemsA,hs,h1,and_self,if_true,List.drop_zero,h2,bytesV]
 rfl
theorem q_law (l : List PropD) (pay0 : Bytes) (hx : ∀ p ∈ l,OkTx p) : E1 10 [.lst false (l.map propV),bytesV pay0] []=some (.bool true,[]):=by
 have hn : (l.take 12).length≤12:=by rw [List.length_take];omega
 have hx':=fits_take hx
 have hy : (pay0.take 100).length≤100:=by rw [List.length_take];omega
 have fk:=fun σ site own=>lift1 (q_kcutC σ site own true pay0 100 (by omega))
 rw [show (100 : Int).toNat=100 from rfl] at fk
 have fl:=fun σ site own f=>lift1 (q_playC σ site own f 3 (l.take 12) (by omega) hx')
 have fw:=fun σ site own=>q_wakes12C σ site own true
 have fn:=fun σ site own e=>lift1 (q_num12C σ site own true e)
 have fs:=fun σ site own a=>lift1 (q_ksame2C σ site own false false a a)
 have fp:=fun σ site own=>psame_self σ site own (l.take 12) hn
 have eB : bodyT (l.take 12) (pay0.take 100)=[0,1,116]++((layF 3 (l.take 12)).1++pay0.take 100):=rfl
 have r0 : ∀ n : Nat,n≤12→¬((n : Nat) : Int) > 12:=by omega
 have hlen : (l.map propV).length=l.length:=by simp
 unfold layV at fl
 unfold bytesV
 by_cases hc : (layF 3 (l.take 12)).2=0
 ·have fF:=fun σ site own f g=>fr_ok (l.take 12) (pay0.take 100) hn hx' hy hc f g σ site own
  have fR:=fun σ site own=>rd_ok (l.take 12) (pay0.take 100) hn hx' hy hc σ site own
  have hs:=fun σ site own t g h n hn=>ksame_row σ site own (bodyT (l.take 12) (pay0.take 100)) (bodyT (l.take 12) (pay0.take 100)) t g h n hn
  rw [hc] at fl
  have hpos : (layF 3 (l.take 12)).1≠[]:=layF_ne hc
  have hsm:=layF_small 3 (l.take 12) (by omega)
  have eL : (bodyT (l.take 12) (pay0.take 100)).length=3+((layF 3 (l.take 12)).1.length+(pay0.take 100).length):=by rw [eB];simp;omega
  have eM : (bodyT (l.take 12) (pay0.take 100)).map byteV=[AVal.int .u8 0,.int .u8 1,.int .u8 116]++((layF 3 (l.take 12)).1.map byteV++(pay0.take 100).map byteV):=by rw [eB,List.map_append,List.map_append];rfl
  generalize bodyT (l.take 12) (pay0.take 100)=BT at *
  generalize hL : (layF 3 (l.take 12)).1=LB at *
  generalize pay0.take 100=pay at *
  have ap1:=fun σ site=>app_new σ site LB hpos (by omega)
  have ap2 : ∀ (σ : AHeap) (site : Nat),σ[1]?=some (.row 0 1 ([AVal.int .u8 0,.int .u8 1,.int .u8 116]++LB.map byteV))→_:=fun σ site h=>app_own h (site:=site) (n:=3+LB.length) (by simp;omega) pay (by omega)
  rw [List.append_assoc,←eM,show 3+LB.length+pay.length=BT.length from by omega] at ap2
  generalize [AVal.int .u8 0,.int .u8 1,.int .u8 116]++LB.map byteV=X1 at *
  by_cases h12 : (l.length : Int) > 12
  ·have sl:=slice_hi [] 5 l propV .i64 12 (by omega) (by omega)
   have sl:=fun σ=>slice_hi σ 5 l propV .i64 12 (by omega) (by omega)
   rw [show (12 : Int).toNat=12 from rfl] at sl
   generalize l.take 12=ps at *
   rw [E1_eq (by rfl) cf_tidingslaw12_PacketProps]
   simp -implicitDefEqProofs only [EVS0,EVS1,EVS2,EVS5,EVL0,EVL1,eq_self,exI,nsite,freeAt,execI,Opd.ev,tget,tins,tput,keepL,sitesOf,List.sum_cons,List.sum_nil,Nat.reduceAdd,Nat.reduceLT,Nat.reduceLeDiff,Nat.reduceEqDiff,Nat.reduceBEq,beq_self_eq_true,Bool.false_eq_true,ldA,stA,partA,faddrA,setAt,binA,arithA,gSpan,unG,ne_eq,Option.some.injEq,reduceCtorEq,decide_true,decide_false,resA,resAll,resOne,enterA,↓reduceIte,cb_tidingslaw12_PacketProps,b_tidingslaw12_PacketProps,cr_tidingslaw12_PacketProps,oI,oN,faddrA,AVal.cells,fillA,setAt,gt_iff_lt,h12,sl,fk,fl,fw,fn,fF,fR,hs,fs,fp,ap1,ap2,hlen,okCell,Int.reduceBNe,viewAs,viewA,viewA1,freezeA,List.foldl_cons,List.foldl_nil]
  ·have sl:=z0b
   generalize hP : l.take 12=ps at *
   obtain rfl : l=ps:=by rw [←hP,List.take_of_length_le (by omega)]
   rw [E1_eq (by rfl) cf_tidingslaw12_PacketProps]
   simp -implicitDefEqProofs only [EVS0,EVS1,EVS2,EVS5,EVL0,eq_self,exI,nsite,freeAt,execI,Opd.ev,tget,tins,tput,keepL,sitesOf,List.sum_cons,List.sum_nil,Nat.reduceAdd,Nat.reduceLT,Nat.reduceLeDiff,Nat.reduceEqDiff,Nat.reduceBEq,beq_self_eq_true,Bool.false_eq_true,ldA,stA,partA,faddrA,setAt,binA,arithA,gSpan,unG,ne_eq,Option.some.injEq,reduceCtorEq,decide_true,decide_false,resA,resAll,resOne,enterA,↓reduceIte,cb_tidingslaw12_PacketProps,b_tidingslaw12_PacketProps,cr_tidingslaw12_PacketProps,oI,oN,faddrA,AVal.cells,fillA,setAt,gt_iff_lt,h12,fk,fl,fw,fn,fF,fR,hs,fs,fp,ap1,ap2,hlen,okCell,Int.reduceBNe,viewAs,viewA,viewA1,freezeA,List.foldl_cons,List.foldl_nil]
 ·have fF:=fun σ site own f g=>fr_no (l.take 12) (pay0.take 100) hn hx' hy hc f g σ site own
  have c1 : ((layF 3 (l.take 12)).2 != 0)=true:=by simpa using hc
  generalize hL : (layF 3 (l.take 12)).1=LB at *
  generalize (layF 3 (l.take 12)).2=lc at *
  generalize pay0.take 100=pay at *
  by_cases h12 : (l.length : Int) > 12
  ·have sl:=slice_hi [] 5 l propV .i64 12 (by omega) (by omega)
   have sl:=fun σ=>slice_hi σ 5 l propV .i64 12 (by omega) (by omega)
   rw [show (12 : Int).toNat=12 from rfl] at sl
   generalize l.take 12=ps at *
   rw [E1_eq (by rfl) cf_tidingslaw12_PacketProps]
   simp -implicitDefEqProofs only [EVS0,EVS1,EVS2,EVS5,EVL0,EVL1,eq_self,exI,nsite,freeAt,execI,Opd.ev,tget,tins,tput,keepL,sitesOf,List.sum_cons,List.sum_nil,Nat.reduceAdd,Nat.reduceLT,Nat.reduceLeDiff,Nat.reduceEqDiff,Nat.reduceBEq,beq_self_eq_true,ldA,stA,partA,faddrA,setAt,binA,arithA,gSpan,unG,ne_eq,Option.some.injEq,reduceCtorEq,decide_true,decide_false,resA,resAll,resOne,enterA,↓reduceIte,cb_tidingslaw12_PacketProps,b_tidingslaw12_PacketProps,cr_tidingslaw12_PacketProps,oI,oN,faddrA,AVal.cells,fillA,setAt,gt_iff_lt,h12,sl,z0b,fk,fl,fw,fn,fF,c1,hlen,okCell]
  ·have sl:=z0b
   generalize hP : l.take 12=ps at *
   obtain rfl : l=ps:=by rw [←hP,List.take_of_length_le (by omega)]
   rw [E1_eq (by rfl) cf_tidingslaw12_PacketProps]
   simp -implicitDefEqProofs only [EVS0,EVS1,EVS2,EVS5,EVL0,eq_self,exI,nsite,freeAt,execI,Opd.ev,tget,tins,tput,keepL,sitesOf,List.sum_cons,List.sum_nil,Nat.reduceAdd,Nat.reduceLT,Nat.reduceLeDiff,Nat.reduceEqDiff,Nat.reduceBEq,beq_self_eq_true,Bool.false_eq_true,ldA,stA,partA,faddrA,setAt,binA,arithA,gSpan,unG,ne_eq,Option.some.injEq,reduceCtorEq,decide_false,resA,resAll,resOne,enterA,↓reduceIte,cb_tidingslaw12_PacketProps,b_tidingslaw12_PacketProps,cr_tidingslaw12_PacketProps,oI,oN,faddrA,AVal.cells,fillA,setAt,gt_iff_lt,h12,sl,fk,fl,fw,fn,fF,c1,hlen,okCell]
end Go.Proofs.YtmlkhhidifjjfaaDoor
namespace Go.Proofs.YtmlkhhidifjjfaaDoor
open Go.Shelf Go.RowKit
section
variable {P : Program} {ρ : Ren}
theorem copy_in (W : World) (dT sT ty elem : TypeId) (g o dLen dCap : Nat) (A : Option Addr) (sLen sCap : Nat) (cur : Array Value) (t : TypeId) (cs : List Value)
  (hu : P.underlying dT=some (.slice elem)) (hs : (P.info? elem).map (·.size)=some 1) (hg : W.heap[g]?=some (.cells cur t (0,0))) (hn : cs.length=sLen) (hd : sLen≤dLen)
  (hsrc : sLen=0∨∃ a,A=some a∧∀ j v,cs[j]?=some v→W.cell? (a.add j)=some v) (hfit : o+cs.length≤cur.size) (h1 : ∀ v ∈ cs,v.oneCell'=true) :
  ∃ W2 Y,(Builtin.copy_ #[dT,sT] ty #[.slice (some ⟨g,o,none⟩) dLen dCap,.slice A sLen sCap]).run P W=.ok (goInt sLen) W2∧W2.heap[g]?=some (.cells Y t (0,0)) ∧
   Y.toList=cur.toList.take o++cs++cur.toList.drop (o+sLen)∧W.grownBy W2 (some g)∧W2.heap.size=W.heap.size:=by
 rcases hsrc with h0 | ⟨a,rfl,hsrc⟩
 ·have hc : cs=[]:=List.eq_nil_of_length_eq_zero (by omega)
  subst hc
  subst h0
  exact ⟨W,cur,run_copy_none W dT sT ty elem _ _ _ _ _ _ hu hs (by simp),hg,by simp,⟨rfl,rfl,rfl,Nat.le_refl _,fun _ _ _=>rfl⟩,rfl⟩
 ·have h:=run_copy_row (P:=P) W dT sT ty elem g o dLen dCap a sLen sCap cur t cs hu hs hg (by rw [hn];exact (Nat.min_eq_left hd).symm) hsrc hfit h1
  rw [hn] at h
  refine ⟨_,_,h,setRow_heap _ _ _ _ _ _ hg,by simp,⟨rfl,rfl,rfl,by simp,fun k _ hk=>setRow_other _ _ _ _ (fun e=>hk (by rw [e]))⟩,by simp⟩
set_option maxHeartbeats 6400000 in
set_option maxRecDepth 100000 in
theorem gslice (L : LaysM.n290 P ρ) (A : Option Addr) (l c n : Nat) (olds : List Value) (w : World) (ho : olds.length=l) (hlc : l≤c) (hn : 1≤n)
  (hlim : l+n≤140737488355328) (hc2 : c≤140737488355328) (hsrc : l=0∨∃ a,A=some a∧∀ j v,olds[j]?=some v→w.cell? (a.add j)=some v) (h1 : ∀ v ∈ olds,v.oneCell'=true) :
  Calls P (ρ.f 290) #[.slice A l c,.int .i64 n] w fun e w'=>∃ cap2 cells,e=.returned (.slice (some ⟨w.heap.size,0,none⟩) l cap2)∧w'.heap[w.heap.size]?=some (.cells cells (ρ.t 5) (0,0)) ∧
   cells.size=cap2∧cells.toList.take l=olds∧l+n≤cap2∧cap2≤maxLen∧Below w.heap.size w w':=by
 have mixed:=L.mixed
 have t5:=L.t5;have a5:=L.a5;have z5:=L.z5;have v5:=L.v5
 have t37:=L.t37;have a37:=L.a37;have z37:=L.z37;have v37:=L.v37
 have t3:=L.t3;have a3:=L.a3;have z3:=L.z3;have v3:=L.v3
 have t0:=L.t0;have a0:=L.a0;have z0:=L.z0;have v0:=L.v0
 have t4:=L.t4;have a4:=L.a4;have z4:=L.z4;have v4:=L.v4
 obtain ⟨i0,hi,hz0,hz1,hz2⟩:=info_parts L.i5
 have hsz1 : (P.info? (ρ.t 5)).map (·.size)=some 1:=by rw [hi];simp [hz1]
 by_cases hC : l+n < 2*c
 ·have happ:=Lib.run_append_nil_zeros (P:=P) w (ρ.t 37) (ρ.t 3) (ρ.t 37) (ρ.t 5) i0 (.int .u8 0) .i64 .i64 L.t37 L.t3 hi hz0 (2*c) (by omega) (by omega) (by omega) (by rw [hz2];omega)
  rw [show (((2*c : Nat)) : Int)=2*(c : Int) by omega] at happ
  generalize hcap : grownCap w (2*c) 0 (ρ.t 5)=cap2 at happ
  have hcapge : 2*c≤cap2:=by rw [←hcap];exact grownCap_ge w _ 0 (ρ.t 5)
  have hcaple : cap2≤maxLen:=by rw [←hcap];exact grownCap_le_maxLen w _ 0 (ρ.t 5) (by unfold maxLen;omega)
  generalize hZ : (Builtin.zeroCells (Value.int .u8 0).cells (2*c)++Builtin.zeroCells (Value.int .u8 0).cells (cap2 - (2*c)))=Z at happ
  have hZs : Z.size=cap2:=by rw [←hZ];simp [size_zeroCells,Value.cells];omega
  clear hcap hZ
  have hsrc1 : l=0∨∃ a,A=some a∧∀ j v,olds[j]?=some v→(w.alloc (.cells Z (ρ.t 5))).drew.cell? (a.add j)=some v:=hsrc.imp id fun ⟨a,e,h⟩=>⟨a,e,fun j v hj=>(World.cell?_of_block (a:=a.add j) (Below.heap_alloc w _ _ (World.block_lt_of_cell? w _ (h j v hj)))).trans (h j v hj)⟩
  obtain ⟨W2,Y,hcopy,hY,hYl,hgb,hsz⟩:=copy_in (P:=P) (w.alloc (.cells Z (ρ.t 5))).drew (ρ.t 37) (ρ.t 37) (ρ.t 3) (ρ.t 5) w.heap.size 0 (2*c) cap2 A l c Z (ρ.t 5) olds L.t37 hsz1 (heap_alloc_new w _) ho (by omega) hsrc1 (by omega) h1
  go_enter_defers L.f290,Body.n290_ntmps ρ
  go_wp2_with (at_builtin;refine Lib.wpList_append_run _ rfl _ _ _ _ rfl _ _ rfl rfl _ _ happ ?_)
  refine leaves_cons (f:=(ρ.f 324)) (args:=#[]) (by simp) (enters_of L.f324 (by kernel_rfl) rfl _ _) ?_
  refine (Any.growSlice_catch_idle { L with } _).mono ?_
  rintro e u' w'' ⟨rfl,rfl,rfl⟩
  refine ⟨_,results_tmp rfl _ _ _,?_⟩
  refine ⟨cap2,Y,rfl,hY,?_,?_,by omega,hcaple,?_⟩
  ·have h3:=congrArg List.length hYl
   simp only [List.length_append,List.length_drop,List.take_zero,List.length_nil,Array.length_toList] at h3
   omega
  ·rw [hYl,List.take_zero,List.nil_append,List.take_append_of_le_length (by omega),List.take_of_length_le (by omega)]
  ·have hs1 : (w.alloc (.cells Z (ρ.t 5))).drew.heap.size=w.heap.size+1:=by show (w.alloc (.cells Z (ρ.t 5))).heap.size=_;simp
   exact ⟨hgb.os,hgb.tape,hgb.output,by omega,fun k hk=>(hgb.block k (by omega) (fun e=>by injection e with e;omega)).trans (Below.heap_alloc w _ k hk)⟩
 ·have happ:=Lib.run_append_nil_zeros (P:=P) w (ρ.t 37) (ρ.t 3) (ρ.t 37) (ρ.t 5) i0 (.int .u8 0) .i64 .i64 L.t37 L.t3 hi hz0 (l+n) (by omega) (by omega) (by omega) (by rw [hz2];omega)
  rw [show (((l+n : Nat)) : Int)=(l : Int)+(n : Int) by omega] at happ
  generalize hcap : grownCap w (l+n) 0 (ρ.t 5)=cap2 at happ
  have hcapge : l+n≤cap2:=by rw [←hcap];exact grownCap_ge w _ 0 (ρ.t 5)
  have hcaple : cap2≤maxLen:=by rw [←hcap];exact grownCap_le_maxLen w _ 0 (ρ.t 5) (by unfold maxLen;omega)
  generalize hZ : (Builtin.zeroCells (Value.int .u8 0).cells (l+n)++Builtin.zeroCells (Value.int .u8 0).cells (cap2 - (l+n)))=Z at happ
  have hZs : Z.size=cap2:=by rw [←hZ];simp [size_zeroCells,Value.cells];omega
  clear hcap hZ
  have hsrc1 : l=0∨∃ a,A=some a∧∀ j v,olds[j]?=some v→(w.alloc (.cells Z (ρ.t 5))).drew.cell? (a.add j)=some v:=hsrc.imp id fun ⟨a,e,h⟩=>⟨a,e,fun j v hj=>(World.cell?_of_block (a:=a.add j) (Below.heap_alloc w _ _ (World.block_lt_of_cell? w _ (h j v hj)))).trans (h j v hj)⟩
  obtain ⟨W2,Y,hcopy,hY,hYl,hgb,hsz⟩:=copy_in (P:=P) (w.alloc (.cells Z (ρ.t 5))).drew (ρ.t 37) (ρ.t 37) (ρ.t 3) (ρ.t 5) w.heap.size 0 (l+n) cap2 A l c Z (ρ.t 5) olds L.t37 hsz1 (heap_alloc_new w _) ho (by omega) hsrc1 (by omega) h1
  go_enter_defers L.f290,Body.n290_ntmps ρ
  go_wp2_with (at_builtin;refine Lib.wpList_append_run _ rfl _ _ _ _ rfl _ _ rfl rfl _ _ happ ?_)
  refine leaves_cons (f:=(ρ.f 324)) (args:=#[]) (by simp) (enters_of L.f324 (by kernel_rfl) rfl _ _) ?_
  refine (Any.growSlice_catch_idle { L with } _).mono ?_
  rintro e u' w'' ⟨rfl,rfl,rfl⟩
  refine ⟨_,results_tmp rfl _ _ _,?_⟩
  refine ⟨cap2,Y,rfl,hY,?_,?_,by omega,hcaple,?_⟩
  ·have h3:=congrArg List.length hYl
   simp only [List.length_append,List.length_drop,List.take_zero,List.length_nil,Array.length_toList] at h3
   omega
  ·rw [hYl,List.take_zero,List.nil_append,List.take_append_of_le_length (by omega),List.take_of_length_le (by omega)]
  ·have hs1 : (w.alloc (.cells Z (ρ.t 5))).drew.heap.size=w.heap.size+1:=by show (w.alloc (.cells Z (ρ.t 5))).heap.size=_;simp
   exact ⟨hgb.os,hgb.tape,hgb.output,by omega,fun k hk=>(hgb.block k (by omega) (fun e=>by injection e with e;omega)).trans (Below.heap_alloc w _ k hk)⟩
set_option maxHeartbeats 2000000 in
set_option maxRecDepth 100000 in
theorem blen (L : LaysM.n181 P ρ) (b : Nat) (ao : Option Addr) (l cap : Nat) (w : World) (c0 : w.cell? ⟨b,0,none⟩=some (.slice ao l cap)) (c1 : w.cell? ⟨b,1,none⟩=some (.int .i64 0)) (hmax : l≤maxLen) :
  Calls P (ρ.f 181) #[.pointer (some ⟨b,0,none⟩)] w fun e w'=>e=.returned (.int .i64 l)∧∃ n,w'=w.drewN n:=by
 have mixed:=L.mixed
 have t5:=L.t5;have a5:=L.a5;have z5:=L.z5;have v5:=L.v5
 have t130:=L.t130;have a130:=L.a130;have z130:=L.z130;have v130:=L.v130
 have t3:=L.t3;have a3:=L.a3;have z3:=L.z3;have v3:=L.v3
 have t0:=L.t0;have a0:=L.a0;have z0:=L.z0;have v0:=L.v0
 have t93:=L.t93;have u93:=run_underlying L.t93;have a93:=L.a93;have z93:=L.z93;have v93:=L.v93
 have t37:=L.t37;have a37:=L.a37;have z37:=L.z37;have v37:=L.v37
 unfold maxLen at hmax
 go_enter L.f181,Body.n181_ntmps ρ
 go_wp2
 go_region_o
 all_goals (go_wp2;go_ret;exact ⟨by simp,1,rfl⟩)
def Grown (w : World) (T : TypeId) (R : Nat→Option Value) (b l n : Nat) (olds : List Value) (lr : Int) (e : TypeId) (w' : World) : Prop :=
 ∃ cap2 cells,LibA.Three w' b 0 T R (.slice (some ⟨w.heap.size,0,none⟩) (l+n) cap2) (.int .i64 0) (.int .i8 lr)∧w'.heap[w.heap.size]?=some (.cells cells e (0,0)) ∧
  cells.size=cap2∧cells.toList.take l=olds∧l+n≤cap2∧cap2≤maxLen∧w.grownBy w' (some b)
theorem three_end {w : World} {b : Nat} {T : TypeId} {R : Nat→Option Value} {x y z : Value} (h : LibA.Three w b 0 T R x y z) (v1 s : Value) :
  LibA.Three (((w.setCell ⟨b,0,none⟩ v1).setCell ⟨b,1,none⟩ (.int .i64 0)).setCell ⟨b,0,none⟩ s) b 0 T R s (.int .i64 0) z:=((h.set0 v1).set1 (.int .i64 0)).set0 s
end
end Go.Proofs.YtmlkhhidifjjfaaDoor
namespace Go.Proofs.YtmlkhhidifjjfaaDoor
open Go.Shelf Go.RowKit
section
variable {P : Program} {ρ : Ren}
set_option maxHeartbeats 12800000 in
set_option maxRecDepth 100000 in
theorem grow_s (L : LaysM.n252 P ρ) (T : TypeId) (R : Nat→Option Value) (b : Nat)  (n : Nat) (lr : Int) (w : World)
  (hbk : LibA.Three w b 0 T R (.slice none 0 0) (.int .i64 0) (.int .i8 lr)) (hn : 1≤n) (h64 : n≤64) :
  Calls P (ρ.f 252) #[.pointer (some ⟨b,0,none⟩),.int .i64 n] w fun e w'=>e=.returned (.int .i64 0)∧Grown w T R b 0 n [] lr (ρ.t 5) w':=by
 have mixed:=L.mixed
 have t5:=L.t5;have a5:=L.a5;have z5:=L.z5;have v5:=L.v5
 have t130:=L.t130;have a130:=L.a130;have z130:=L.z130;have v130:=L.v130
 have t3:=L.t3;have a3:=L.a3;have z3:=L.z3;have v3:=L.v3
 have t4:=L.t4;have a4:=L.a4;have z4:=L.z4;have v4:=L.v4
 have t0:=L.t0;have a0:=L.a0;have z0:=L.z0;have v0:=L.v0
 have t93:=L.t93;have u93:=run_underlying L.t93;have a93:=L.a93;have z93:=L.z93;have v93:=L.v93
 have t131:=L.t131;have a131:=L.a131;have z131:=L.z131;have v131:=L.v131
 have t37:=L.t37;have a37:=L.a37;have z37:=L.z37;have v37:=L.v37
 have t75:=L.t75;have a75:=L.a75;have z75:=L.z75;have v75:=L.v75
 have e181 : ∀ args w,(callFunc (ρ.f 181) args).run P w=.ok (.enter (ρ.f 181) args) w:=enters_of L.f181 (by kernel_rfl) rfl
 have e251 : ∀ args w,(callFunc (ρ.f 251) args).run P w=.ok (.enter (ρ.f 251) args) w:=enters_of L.f251 (by kernel_rfl) rfl
 have e290 : ∀ args w,(callFunc (ρ.f 290) args).run P w=.ok (.enter (ρ.f 290) args) w:=enters_of L.f290 (by kernel_rfl) rfl
 have hnil : ∀ W,(binOp .eql (ρ.t 37) (.slice none 0 0) (.slice none 0 0)).run P W=.ok (.bool true) W:=fun W=>Lib.run_eql_slice_nil_nil W _ _ L.t37
 obtain ⟨i0,hi,hz0,hz1,hz2⟩:=info_parts L.i5
 obtain ⟨M,hM⟩ : ∃ M,M=madeCells (Value.int .u8 0).cells ((64 : Int).toNat*i0.size):=⟨_,rfl⟩
 have hMs : M.size=64:=by rw [hM,size_madeCells,hz1];rfl
 have hmk : ∀ W : World,(Instr.makeSlice (ρ.t 37) (.int .i64 (n : Int)) (.int .i64 64)).run P W=.ok (.slice (some ⟨W.heap.size,0,none⟩) n 64) (W.alloc (.cells M (ρ.t 5))):=fun W=>by
  have h:=run_makeSlice (P:=P) W (ρ.t 37) (ρ.t 5) i0 (.int .u8 0) L.t37 hi hz0 .i64 .i64 (n : Int) 64 (by omega) (by omega) (by rw [hz1];decide) (by rw [hz2];decide) (by decide)
  rw [←hM] at h
  simpa using h
 clear hM
 go_enter L.f252,Body.n252_ntmps ρ
 go_wp2_with (go_at_fn (ρ.f 181);refine (blen { L with } b none 0 0 _ hbk.c0 hbk.c1 (by unfold maxLen;omega)).mono ?_)
 rintro e W0 ⟨rfl,k,hW0⟩
 have hbk0 : LibA.Three W0 b 0 T R (.slice none 0 0) (.int .i64 0) (.int .i8 lr):=by rw [hW0];exact hbk
 have c0 : W0.cell? ⟨b,0,none⟩=some (.slice none 0 0):=hbk0.c0
 have c1 : W0.cell? ⟨b,1,none⟩=some (.int .i64 0):=hbk0.c1
 have f0 : W0.frozen? ⟨b,0,none⟩=false:=hbk0.f 0
 have f1 : W0.frozen? ⟨b,1,none⟩=false:=hbk0.f 1
 have hbW0:=hbk0.lt
 have c0a : ∀ o,(W0.alloc o).cell? ⟨b,0,none⟩=some (.slice none 0 0):=fun o=>(World.cell?_of_block (a:=⟨b,0,none⟩) (Below.heap_alloc W0 o b hbW0)).trans c0
 have f0a : ∀ o,(W0.alloc o).frozen? ⟨b,0,none⟩=false:=fun o=>(World.frozen?_of_block (a:=⟨b,0,none⟩) (Below.heap_alloc W0 o b hbW0)).trans f0
 have HW0:=Lib.hid hW0
 clear hW0
 go_wp2_with (go_at_fn (ρ.f 251);refine (Any.Buffer_tryGrow_none_at { L with } b 0 _ 0 0 n _ c0 (Nat.le_refl _) (Nat.zero_le _) (by omega)).mono ?_;rintro e w' ⟨rfl,rfl⟩)
 go_ret
 have hsz0 : w'.heap.size=w.heap.size:=by rw [HW0.out];rfl
 have hg0 : w.grownBy w' (some b):=by rw [HW0.out];exact ⟨rfl,rfl,rfl,Nat.le_refl _,fun _ _ _=>rfl⟩
 have hszc : (w'.setCell ⟨b,0,none⟩ (.slice (some ⟨w'.heap.size,0,none⟩) n 64)).heap.size=w'.heap.size:=by simp [World.setCell]
 refine ⟨rfl,64,M,?_,?_,hMs,by simp,by omega,by unfold maxLen;omega,Lib.grownBy_allocR (Lib.grownBy_setB hg0 0 _) _⟩
 ·rw [Nat.zero_add,←hsz0]
  exact (hbk0.set0 (.slice (some ⟨w'.heap.size,0,none⟩) n 64)).of_heap (Below.heap_alloc _ _ b (by rw [hszc];exact hbW0))
 ·have h:=heap_alloc_new (w'.setCell ⟨b,0,none⟩ (.slice (some ⟨w'.heap.size,0,none⟩) n 64)) (.cells M (ρ.t 5))
  rw [hszc] at h
  rw [←hsz0]
  exact h
set_option maxHeartbeats 12800000 in
set_option maxRecDepth 100000 in
theorem grow_n (L : LaysM.n252 P ρ) (T : TypeId) (R : Nat → Option Value) (b : Nat)  (n : Nat) (lr : Int) (w : World)
    (hbk : LibA.Three w b 0 T R (.slice none 0 0) (.int .i64 0) (.int .i8 lr)) (h64 : 64 < n) (hlim : n ≤ 70368744177664) :
    Calls P (ρ.f 252) #[.pointer (some ⟨b, 0, none⟩), .int .i64 n] w fun e w' => e = .returned (.int .i64 0) ∧ Grown w T R b 0 n [] lr (ρ.t 5) w' := by
  have mixed := L.mixed
  have t5 := L.t5; have a5 := L.a5; have z5 := L.z5; have v5 := L.v5
  have t130 := L.t130; have a130 := L.a130; have z130 := L.z130; have v130 := L.v130
  have t3 := L.t3; have a3 := L.a3; have z3 := L.z3; have v3 := L.v3
  have t4 := L.t4; have a4 := L.a4; have z4 := L.z4; have v4 := L.v4
  have t0 := L.t0; have a0 := L.a0; have z0 := L.z0; have v0 := L.v0
  have t93 := L.t93; have u93 := run_underlying L.t93; have a93 := L.a93; have z93 := L.z93; have v93 := L.v93
  have t131 := L.t131; have a131 := L.a131; have z131 := L.z131; have v131 := L.v131
  have t37 := L.t37; have a37 := L.a37; have z37 := L.z37; have v37 := L.v37
  have t75 := L.t75; have a75 := L.a75; have z75 := L.z75; have v75 := L.v75
  have e181 : ∀ args w, (callFunc (ρ.f 181) args).run P w = .ok (.enter (ρ.f 181) args) w := enters_of L.f181 (by kernel_rfl) rfl
  have e251 : ∀ args w, (callFunc (ρ.f 251) args).run P w = .ok (.enter (ρ.f 251) args) w := enters_of L.f251 (by kernel_rfl) rfl
  have e290 : ∀ args w, (callFunc (ρ.f 290) args).run P w = .ok (.enter (ρ.f 290) args) w := enters_of L.f290 (by kernel_rfl) rfl
  have hnil : ∀ W, (binOp .eql (ρ.t 37) (.slice none 0 0) (.slice none 0 0)).run P W = .ok (.bool true) W := fun W => Lib.run_eql_slice_nil_nil W _ _ L.t37
  have hc2 : 0 ≤ 140737488355328 := by omega
  have hcm' : 0 ≤ maxLen := by unfold maxLen; omega
  go_enter L.f252, Body.n252_ntmps ρ
  go_wp2_with (go_at_fn (ρ.f 181); refine (blen { L with } b none 0 0 _ hbk.c0 hbk.c1 (by unfold maxLen; omega)).mono ?_)
  rintro e W0 ⟨rfl, k, hW0⟩
  have hbk0 : LibA.Three W0 b 0 T R (.slice none 0 0) (.int .i64 0) (.int .i8 lr) := by rw [hW0]; exact hbk
  have c0 : W0.cell? ⟨b, 0, none⟩ = some (.slice none 0 0) := hbk0.c0
  have c1 : W0.cell? ⟨b, 1, none⟩ = some (.int .i64 0) := hbk0.c1
  have f0 : W0.frozen? ⟨b, 0, none⟩ = false := hbk0.f 0
  have f1 : W0.frozen? ⟨b, 1, none⟩ = false := hbk0.f 1
  have HW0 := Lib.hid hW0
  clear hW0
  go_wp2_with (go_at_fn (ρ.f 251); refine (Any.Buffer_tryGrow_none_at { L with } b 0 _ 0 0 n _ c0 (by omega) hcm' (by omega)).mono ?_; rintro e w' ⟨rfl, rfl⟩)
  have hbW := hbk0.lt
  have hwn : IntKind.i64.wrap (n : Int) = n := by rw [IntKind.wrap_i64]; omega
  go_region_with_o (
      go_at_fn (ρ.f 290)
      refine (gslice { L with } none 0 0 n [] _ ?_ (by omega) (by omega) (by omega) hc2 ?_ ?_).mono ?_
      · first | exact ho | rfl
      · exact Or.inl rfl
      · first | exact h1 | exact fun v h => by cases h
      rintro e w2 ⟨cap2, cells, rfl, hN, hcsz, htk, hcap2, hcm2, hbel⟩
      have hbk2 : LibA.Three w2 b 0 T R (.slice none 0 0) (.int .i64 0) (.int .i8 lr) := hbk0.of_heap (hbel.block b hbW)
      have d0 : w2.cell? ⟨b, 0, none⟩ = some (.slice none 0 0) := hbk2.c0
      have d1 : w2.cell? ⟨b, 1, none⟩ = some (.int .i64 0) := hbk2.c1
      have e0 : w2.frozen? ⟨b, 0, none⟩ = false := hbk2.f 0
      have e1 : w2.frozen? ⟨b, 1, none⟩ = false := hbk2.f 1)
  all_goals (
    go_wp2
    go_ret
    have hsz0 : w'.heap.size = w.heap.size := by rw [HW0.out]; rfl
    have hg2 : w.grownBy w2 (some b) := Lib.grownBy_below (w := w'.drew) (by rw [HW0.out]; exact ⟨rfl, rfl, rfl, Nat.le_refl _, fun _ _ _ => rfl⟩) hbel
    refine ⟨rfl, cap2, cells, ?_, ?_, hcsz, htk, hcap2, hcm2, Lib.grownBy_setB (Lib.grownBy_setB (Lib.grownBy_setB hg2 0 _) 1 _) 0 _⟩
    · rw [Nat.zero_add, ← hsz0]; exact three_end hbk2 _ _
    · have hNb : w.heap.size ≠ b := by omega
      rw [Below.heap_setCell _ _ _ _ hNb, Below.heap_setCell _ _ _ _ hNb, Below.heap_setCell _ _ _ _ hNb]
      rw [← hsz0]; exact hN)
end
end Go.Proofs.YtmlkhhidifjjfaaDoor
namespace Go.Proofs.YtmlkhhidifjjfaaDoor
open Go.Shelf Go.RowKit
section
variable {P : Program} {ρ : Ren}
set_option maxHeartbeats 12800000 in
set_option maxRecDepth 100000 in
theorem grow_0 (L : LaysM.n252 P ρ) (T : TypeId) (R : Nat → Option Value) (b : Nat) (x : Addr) (cap : Nat) (n : Nat) (lr : Int) (w : World)
    (hbk : LibA.Three w b 0 T R (.slice (some x) 0 cap) (.int .i64 0) (.int .i8 lr)) (hroom : cap < n) (hlim : n ≤ 70368744177664) :
    Calls P (ρ.f 252) #[.pointer (some ⟨b, 0, none⟩), .int .i64 n] w fun e w' => e = .returned (.int .i64 0) ∧ Grown w T R b 0 n [] lr (ρ.t 5) w' := by
  have mixed := L.mixed
  have t5 := L.t5; have a5 := L.a5; have z5 := L.z5; have v5 := L.v5
  have t130 := L.t130; have a130 := L.a130; have z130 := L.z130; have v130 := L.v130
  have t3 := L.t3; have a3 := L.a3; have z3 := L.z3; have v3 := L.v3
  have t4 := L.t4; have a4 := L.a4; have z4 := L.z4; have v4 := L.v4
  have t0 := L.t0; have a0 := L.a0; have z0 := L.z0; have v0 := L.v0
  have t93 := L.t93; have u93 := run_underlying L.t93; have a93 := L.a93; have z93 := L.z93; have v93 := L.v93
  have t131 := L.t131; have a131 := L.a131; have z131 := L.z131; have v131 := L.v131
  have t37 := L.t37; have a37 := L.a37; have z37 := L.z37; have v37 := L.v37
  have t75 := L.t75; have a75 := L.a75; have z75 := L.z75; have v75 := L.v75
  have e181 : ∀ args w, (callFunc (ρ.f 181) args).run P w = .ok (.enter (ρ.f 181) args) w := enters_of L.f181 (by kernel_rfl) rfl
  have e251 : ∀ args w, (callFunc (ρ.f 251) args).run P w = .ok (.enter (ρ.f 251) args) w := enters_of L.f251 (by kernel_rfl) rfl
  have e290 : ∀ args w, (callFunc (ρ.f 290) args).run P w = .ok (.enter (ρ.f 290) args) w := enters_of L.f290 (by kernel_rfl) rfl
  have hnil : ∀ W, (binOp .eql (ρ.t 37) (.slice (some x) 0 cap) (.slice none 0 0)).run P W = .ok (.bool false) W := fun W => Lib.run_eql_slice_some_nil W _ _ _ L.t37
  have hc2 : cap ≤ 140737488355328 := by omega
  have hcm' : cap ≤ maxLen := by unfold maxLen; omega
  go_enter L.f252, Body.n252_ntmps ρ
  go_wp2_with (go_at_fn (ρ.f 181); refine (blen { L with } b (some x) 0 cap _ hbk.c0 hbk.c1 (by unfold maxLen; omega)).mono ?_)
  rintro e W0 ⟨rfl, k, hW0⟩
  have hbk0 : LibA.Three W0 b 0 T R (.slice (some x) 0 cap) (.int .i64 0) (.int .i8 lr) := by rw [hW0]; exact hbk
  have c0 : W0.cell? ⟨b, 0, none⟩ = some (.slice (some x) 0 cap) := hbk0.c0
  have c1 : W0.cell? ⟨b, 1, none⟩ = some (.int .i64 0) := hbk0.c1
  have f0 : W0.frozen? ⟨b, 0, none⟩ = false := hbk0.f 0
  have f1 : W0.frozen? ⟨b, 1, none⟩ = false := hbk0.f 1
  have HW0 := Lib.hid hW0
  clear hW0
  go_wp2_with (go_at_fn (ρ.f 251); refine (Any.Buffer_tryGrow_none_at { L with } b 0 _ 0 cap n _ c0 (by omega) hcm' (by omega)).mono ?_; rintro e w' ⟨rfl, rfl⟩)
  have hbW := hbk0.lt
  have hwn : IntKind.i64.wrap (n : Int) = n := by rw [IntKind.wrap_i64]; omega
  go_region_with_o (
      go_at_fn (ρ.f 290)
      refine (gslice { L with } (some x) 0 cap n [] _ ?_ (by omega) (by omega) (by omega) hc2 ?_ ?_).mono ?_
      · first | exact ho | rfl
      · exact Or.inl rfl
      · first | exact h1 | exact fun v h => by cases h
      rintro e w2 ⟨cap2, cells, rfl, hN, hcsz, htk, hcap2, hcm2, hbel⟩
      have hbk2 : LibA.Three w2 b 0 T R (.slice (some x) 0 cap) (.int .i64 0) (.int .i8 lr) := hbk0.of_heap (hbel.block b hbW)
      have d0 : w2.cell? ⟨b, 0, none⟩ = some (.slice (some x) 0 cap) := hbk2.c0
      have d1 : w2.cell? ⟨b, 1, none⟩ = some (.int .i64 0) := hbk2.c1
      have e0 : w2.frozen? ⟨b, 0, none⟩ = false := hbk2.f 0
      have e1 : w2.frozen? ⟨b, 1, none⟩ = false := hbk2.f 1)
  all_goals (
    go_wp2
    go_ret
    have hsz0 : w'.heap.size = w.heap.size := by rw [HW0.out]; rfl
    have hg2 : w.grownBy w2 (some b) := Lib.grownBy_below (w := w'.drew) (by rw [HW0.out]; exact ⟨rfl, rfl, rfl, Nat.le_refl _, fun _ _ _ => rfl⟩) hbel
    refine ⟨rfl, cap2, cells, ?_, ?_, hcsz, htk, hcap2, hcm2, Lib.grownBy_setB (Lib.grownBy_setB (Lib.grownBy_setB hg2 0 _) 1 _) 0 _⟩
    · rw [Nat.zero_add, ← hsz0]; exact three_end hbk2 _ _
    · have hNb : w.heap.size ≠ b := by omega
      rw [Below.heap_setCell _ _ _ _ hNb, Below.heap_setCell _ _ _ _ hNb, Below.heap_setCell _ _ _ _ hNb]
      rw [← hsz0]; exact hN)
end
end Go.Proofs.YtmlkhhidifjjfaaDoor
namespace Go.Proofs.YtmlkhhidifjjfaaDoor
open Go.Shelf Go.RowKit
section
variable {P : Program} {ρ : Ren}
set_option maxHeartbeats 12800000 in
set_option maxRecDepth 100000 in
theorem grow_l (L : LaysM.n252 P ρ) (T : TypeId) (R : Nat → Option Value) (b : Nat) (x : Addr) (l cap : Nat) (olds : List Value) (n : Nat) (lr : Int) (w : World)
    (hbk : LibA.Three w b 0 T R (.slice (some x) l cap) (.int .i64 0) (.int .i8 lr)) (hl0 : l ≠ 0) (ho : olds.length = l) (h1 : ∀ v ∈ olds, v.oneCell' = true) (hlc : l ≤ cap) (hroom : cap - l < n) (hlim : l + n ≤ 70368744177664)
    (hold : l = 0 ∨ ∃ a, some x = some a ∧ ∀ j v, (olds)[j]? = some v → w.cell? (a.add j) = some v)  :
    Calls P (ρ.f 252) #[.pointer (some ⟨b, 0, none⟩), .int .i64 n] w fun e w' => e = .returned (.int .i64 l) ∧ Grown w T R b l n olds lr (ρ.t 5) w' := by
  have mixed := L.mixed
  have t5 := L.t5; have a5 := L.a5; have z5 := L.z5; have v5 := L.v5
  have t130 := L.t130; have a130 := L.a130; have z130 := L.z130; have v130 := L.v130
  have t3 := L.t3; have a3 := L.a3; have z3 := L.z3; have v3 := L.v3
  have t4 := L.t4; have a4 := L.a4; have z4 := L.z4; have v4 := L.v4
  have t0 := L.t0; have a0 := L.a0; have z0 := L.z0; have v0 := L.v0
  have t93 := L.t93; have u93 := run_underlying L.t93; have a93 := L.a93; have z93 := L.z93; have v93 := L.v93
  have t131 := L.t131; have a131 := L.a131; have z131 := L.z131; have v131 := L.v131
  have t37 := L.t37; have a37 := L.a37; have z37 := L.z37; have v37 := L.v37
  have t75 := L.t75; have a75 := L.a75; have z75 := L.z75; have v75 := L.v75
  have e181 : ∀ args w, (callFunc (ρ.f 181) args).run P w = .ok (.enter (ρ.f 181) args) w := enters_of L.f181 (by kernel_rfl) rfl
  have e251 : ∀ args w, (callFunc (ρ.f 251) args).run P w = .ok (.enter (ρ.f 251) args) w := enters_of L.f251 (by kernel_rfl) rfl
  have e290 : ∀ args w, (callFunc (ρ.f 290) args).run P w = .ok (.enter (ρ.f 290) args) w := enters_of L.f290 (by kernel_rfl) rfl
  have hnil : ∀ W, (binOp .eql (ρ.t 37) (.slice (some x) l cap) (.slice none 0 0)).run P W = .ok (.bool false) W := fun W => Lib.run_eql_slice_some_nil W _ _ _ L.t37
  have hc2 : cap ≤ 140737488355328 := by omega
  have hcm' : cap ≤ maxLen := by unfold maxLen; omega
  go_enter L.f252, Body.n252_ntmps ρ
  go_wp2_with (go_at_fn (ρ.f 181); refine (blen { L with } b (some x) l cap _ hbk.c0 hbk.c1 (by unfold maxLen; omega)).mono ?_)
  rintro e W0 ⟨rfl, k, hW0⟩
  have hbk0 : LibA.Three W0 b 0 T R (.slice (some x) l cap) (.int .i64 0) (.int .i8 lr) := by rw [hW0]; exact hbk
  have c0 : W0.cell? ⟨b, 0, none⟩ = some (.slice (some x) l cap) := hbk0.c0
  have c1 : W0.cell? ⟨b, 1, none⟩ = some (.int .i64 0) := hbk0.c1
  have f0 : W0.frozen? ⟨b, 0, none⟩ = false := hbk0.f 0
  have f1 : W0.frozen? ⟨b, 1, none⟩ = false := hbk0.f 1
  have hold0 : l = 0 ∨ ∃ a, some x = some a ∧ ∀ j v, (olds)[j]? = some v → W0.cell? (a.add j) = some v := by rw [hW0]; exact hold
  have HW0 := Lib.hid hW0
  clear hW0 hold
  go_wp2_with (go_at_fn (ρ.f 251); refine (Any.Buffer_tryGrow_none_at { L with } b 0 _ l cap n _ c0 (by omega) hcm' (by omega)).mono ?_; rintro e w' ⟨rfl, rfl⟩)
  have hbW := hbk0.lt
  have hwn : IntKind.i64.wrap (n : Int) = n := by rw [IntKind.wrap_i64]; omega
  go_region_with_o (
      go_at_fn (ρ.f 290)
      refine (gslice { L with } (some x) l cap n olds _ ?_ (by omega) (by omega) (by omega) hc2 ?_ ?_).mono ?_
      · first | exact ho | rfl
      · exact hold0
      · first | exact h1 | exact fun v h => by cases h
      rintro e w2 ⟨cap2, cells, rfl, hN, hcsz, htk, hcap2, hcm2, hbel⟩
      have hbk2 : LibA.Three w2 b 0 T R (.slice (some x) l cap) (.int .i64 0) (.int .i8 lr) := hbk0.of_heap (hbel.block b hbW)
      have d0 : w2.cell? ⟨b, 0, none⟩ = some (.slice (some x) l cap) := hbk2.c0
      have d1 : w2.cell? ⟨b, 1, none⟩ = some (.int .i64 0) := hbk2.c1
      have e0 : w2.frozen? ⟨b, 0, none⟩ = false := hbk2.f 0
      have e1 : w2.frozen? ⟨b, 1, none⟩ = false := hbk2.f 1)
  all_goals (
    go_wp2
    go_ret
    have hsz0 : w'.heap.size = w.heap.size := by rw [HW0.out]; rfl
    have hg2 : w.grownBy w2 (some b) := Lib.grownBy_below (w := w'.drew) (by rw [HW0.out]; exact ⟨rfl, rfl, rfl, Nat.le_refl _, fun _ _ _ => rfl⟩) hbel
    refine ⟨rfl, cap2, cells, ?_, ?_, hcsz, htk, hcap2, hcm2, Lib.grownBy_setB (Lib.grownBy_setB (Lib.grownBy_setB hg2 0 _) 1 _) 0 _⟩
    · rw [← hsz0]; exact three_end hbk2 _ _
    · have hNb : w.heap.size ≠ b := by omega
      rw [Below.heap_setCell _ _ _ _ hNb, Below.heap_setCell _ _ _ _ hNb, Below.heap_setCell _ _ _ _ hNb]
      rw [← hsz0]; exact hN)
end
end Go.Proofs.YtmlkhhidifjjfaaDoor
namespace Go.Proofs.YtmlkhhidifjjfaaDoor
open Go.Shelf Go.RowKit
section
variable {P : Program} {ρ : Ren}
def BufRow (w : World) (b : Nat) (A : Option Addr) (l cap : Nat) (olds : List Value) : Prop :=
 olds.length=l∧l≤cap∧cap≤maxLen∧(∀ v ∈ olds,v.oneCell'=true)∧(cap=0∨∃ g cur t,A=some ⟨g,0,none⟩∧g≠b∧w.heap[g]?=some (.cells cur t (0,0))∧cur.size=cap∧cur.toList.take l=olds)
theorem BufRow.hold {w : World} {b : Nat} {A : Option Addr} {l cap : Nat} {olds : List Value} (h : BufRow w b A l cap olds) : l=0∨∃ a,A=some a∧∀ j v,olds[j]?=some v→w.cell? (a.add j)=some v:=by
 obtain ⟨h1,h2,h3,h4,h5 | ⟨g,cur,t,h5,h6,h7,h8,h9⟩⟩:=h
 ·exact Or.inl (by omega)
 ·exact Or.inr ⟨_,h5,by rw [←h9];exact Lib.cells_of_row h7 l⟩
theorem grow_any (L : LaysM.n252 P ρ) (T : TypeId) (R : Nat→Option Value) (b : Nat) (A : Option Addr) (l cap : Nat) (olds : List Value) (n : Nat) (lr : Int) (w : World)
  (hbk : LibA.Three w b 0 T R (.slice A l cap) (.int .i64 0) (.int .i8 lr)) (hr : BufRow w b A l cap olds) (hA : A=none→cap=0) (hroom : cap - l < n) (hlim : l+n≤70368744177664) :
  Calls P (ρ.f 252) #[.pointer (some ⟨b,0,none⟩),.int .i64 n] w fun e w'=>e=.returned (.int .i64 l)∧Grown w T R b l n olds lr (ρ.t 5) w':=by
 have hold:=hr.hold
 obtain ⟨h1,h2,h3,h4,h5⟩:=hr
 cases A with
 | none =>
  have hc:=hA rfl
  subst hc
  have hl0 : l=0:=by omega
  subst hl0
  have ho : olds=[]:=List.eq_nil_of_length_eq_zero h1
  subst ho
  by_cases h64 : n≤64
  ·exact grow_s L T R b n lr w hbk (by omega) h64
  ·exact grow_n L T R b n lr w hbk (by omega) (by omega)
 | some x =>
  by_cases hl0 : l=0
  ·subst hl0
   have ho : olds=[]:=List.eq_nil_of_length_eq_zero h1
   subst ho
   exact grow_0 L T R b x cap n lr w hbk (by omega) (by omega)
  ·exact grow_l L T R b x l cap olds n lr w hbk hl0 h1 h4 h2 hroom hlim hold
def Wrote (w : World) (T : TypeId) (R : Nat→Option Value) (b : Nat) (A : Option Addr) (l n cap : Nat) (all : List Value) (w' : World) : Prop :=
 ∃ A' cap',LibA.Three w' b 0 T R (.slice A' (l+n) cap') (.int .i64 0) (.int .i8 0)∧l+n≤cap'∧cap'≤maxLen ∧
  ((n=0∧A'=A∧cap'=cap∧w.grownBy w' (some b)) ∨
   ∃ G W1 Y t,A'=some ⟨G,0,none⟩∧(G=w.heap.size∨(A=some ⟨G,0,none⟩∧cap≠0))∧G≠b∧w.grownBy W1 (some b)∧W1.grownBy w' (some G)∧w'.heap[G]?=some (.cells Y t (0,0))∧Y.size=cap'∧Y.toList.take (l+n)=all)
set_option maxHeartbeats 6400000 in
set_option maxRecDepth 100000 in
theorem bwrite (L : LaysM.n180 P ρ) (T : TypeId) (R : Nat→Option Value) (b : Nat) (A : Option Addr) (l cap : Nat) (lr : Int) (olds news : List Value) (pa : Option Addr) (n pc : Nat) (w : World)
  (hbk : LibA.Three w b 0 T R (.slice A l cap) (.int .i64 0) (.int .i8 lr)) (hr : BufRow w b A l cap olds) (hA : A=none→cap=0) (hnews : news.length=n) (h1c : ∀ v ∈ news,v.oneCell'=true)
  (hsrc : n=0∨∃ a,pa=some a∧a.block≠b∧∀ j v,news[j]?=some v→w.cell? (a.add j)=some v) (hlim : l+n≤70368744177664) :
  Calls P (ρ.f 180) #[.pointer (some ⟨b,0,none⟩),.slice pa n pc] w fun e w'=>e=.returned (.tuple #[.int .i64 n,.nilIface])∧Wrote w T R b A l n cap (olds++news) w':=by
 have mixed:=L.mixed
 have t5:=L.t5;have a5:=L.a5;have z5:=L.z5;have v5:=L.v5
 have t130:=L.t130;have a130:=L.a130;have z130:=L.z130;have v130:=L.v130
 have t37:=L.t37;have a37:=L.a37;have z37:=L.z37;have v37:=L.v37
 have t3:=L.t3;have a3:=L.a3;have z3:=L.z3;have v3:=L.v3
 have t75:=L.t75;have a75:=L.a75;have z75:=L.z75;have v75:=L.v75
 have t0:=L.t0;have a0:=L.a0;have z0:=L.z0;have v0:=L.v0
 have t93:=L.t93;have u93:=run_underlying L.t93;have a93:=L.a93;have z93:=L.z93;have v93:=L.v93
 have t91:=L.t91;have a91:=L.a91;have z91:=L.z91;have v91:=L.v91
 have t131:=L.t131;have a131:=L.a131;have z131:=L.z131;have v131:=L.v131
 have t4:=L.t4;have a4:=L.a4;have z4:=L.z4;have v4:=L.v4
 have e251 : ∀ args w,(callFunc (ρ.f 251) args).run P w=.ok (.enter (ρ.f 251) args) w:=enters_of L.f251 (by kernel_rfl) rfl
 have e252 : ∀ args w,(callFunc (ρ.f 252) args).run P w=.ok (.enter (ρ.f 252) args) w:=enters_of L.f252 (by kernel_rfl) rfl
 have c2 : w.cell? ⟨b,2,none⟩=some (.int .i8 lr):=hbk.c2
 have f2 : w.frozen? ⟨b,2,none⟩=false:=hbk.f 2
 have hinfo : (P.info? (ρ.t 5)).map (·.size)=some 1:=by
  obtain ⟨i0,hi,-,hz1,-⟩:=info_parts L.i5
  rw [hi];simp [hz1]
 obtain ⟨ho,hlc,hcm,h1,hrow⟩:=id hr
 have hbkA : LibA.Three (w.setCell ⟨b,2,none⟩ (.int .i8 0)) b 0 T R (.slice A l cap) (.int .i64 0) (.int .i8 0):=hbk.set2 _
 have hgA : w.grownBy (w.setCell ⟨b,2,none⟩ (.int .i8 0)) (some b):=Lib.grownBy_setCell w b 2 _
 have hszA : (w.setCell ⟨b,2,none⟩ (.int .i8 0)).heap.size=w.heap.size:=by simp [World.setCell]
 have hrA : BufRow (w.setCell ⟨b,2,none⟩ (.int .i8 0)) b A l cap olds:=⟨ho,hlc,hcm,h1,hrow.imp id fun ⟨g,cur,t,e,hgb,hg,r⟩=>⟨g,cur,t,e,hgb,(Below.heap_setCell _ _ _ _ hgb).trans hg,r⟩⟩
 by_cases hroom : n≤cap - l
 ·by_cases hs0 : n=0
  ·
   subst hs0
   have hc0 : news=[]:=List.eq_nil_of_length_eq_zero hnews
   subst hc0
   have hce : ∀ d dLen dCap W,(Builtin.copy_ #[(ρ.t 37),(ρ.t 37)] (ρ.t 3) #[.slice d dLen dCap,.slice pa 0 pc]).run P W=.ok (goInt 0) W:=fun d dLen dCap W=>run_copy_none W (ρ.t 37) (ρ.t 37) (ρ.t 3) (ρ.t 5) d pa dLen dCap 0 pc L.t37 hinfo (by simp)
   have hT : ∀ W,W.cell? ⟨b,0,none⟩=some (.slice A l cap)→W.frozen? ⟨b,0,none⟩=false→Calls P (ρ.f 251) #[.pointer (some ⟨b,0,none⟩),.int .i64 0] W (fun e w'=>e=.returned (.tuple #[.int .i64 l,.bool true])∧w'=W.setCell ⟨b,0,none⟩ (.slice A l cap)):=fun W q1 q2=>Any.Buffer_tryGrow_room_at { L with } b 0 A l cap 0 W q1 q2 hlc hcm (Nat.zero_le _)
   clear hsrc hroom hlim
   go_enter L.f180,Body.n180_ntmps ρ
   go_wp2_with (go_at_fn (ρ.f 251);refine (hT _ ?_ ?_).mono ?_)
   ·exact hbkA.c0
   ·exact hbkA.f 0
   rintro e W1 ⟨rfl,hW1⟩
   have hbk1 : LibA.Three W1 b 0 T R (.slice A l cap) (.int .i64 0) (.int .i8 0):=by rw [hW1];exact hbkA.set0 _
   have hgW : w.grownBy W1 (some b):=by rw [hW1];exact Lib.grownBy_setB hgA 0 _
   clear hW1 hbkA hgA hszA hrA c2 f2 hT
   have d0 : W1.cell? ⟨b,0,none⟩=some (.slice A l cap):=hbk1.c0
   have hcm':=hcm
   unfold maxLen at hcm'
   have hfin : Wrote w T R b A l 0 cap (olds++[]) W1:=⟨A,cap,hbk1,hlc,hcm,Or.inl ⟨rfl,rfl,rfl,hgW⟩⟩
   clear hrow hr
   cases A
   all_goals (go_wp2;all_goals (go_ret2;first | exact ⟨rfl,hfin⟩ | exact ⟨by simp,by simpa using hfin⟩ | (refine ⟨by simp,?_⟩;have hcl : l=cap:=(by omega);simpa [hcl] using hfin)))
  ·
   go_enter L.f180,Body.n180_ntmps ρ
   go_wp2_with (go_at_fn (ρ.f 251);refine (Any.Buffer_tryGrow_room_at { L with } b 0 A l cap n _ ?_ ?_ hlc hcm hroom).mono ?_)
   ·exact hbkA.c0
   ·exact hbkA.f 0
   rintro e W1 ⟨rfl,hW1⟩
   obtain ⟨G,cap',cur,t,hbk1,hG,hcs,htk,hlc',hcm',hGb,hGw,hgW⟩ : ∃ G cap' cur t,LibA.Three W1 b 0 T R (.slice (some ⟨G,0,none⟩) (l+n) cap') (.int .i64 0) (.int .i8 0)∧W1.heap[G]?=some (.cells cur t (0,0))∧cur.size=cap'∧cur.toList.take l=olds∧l+n≤cap'∧cap'≤maxLen∧G≠b∧(G=w.heap.size∨(A=some ⟨G,0,none⟩∧cap≠0))∧w.grownBy W1 (some b):=by
    obtain hc | ⟨g,cur,t,e,hgb,hg,hcs,htk⟩:=hrow
    ·omega
    ·refine ⟨g,cap,cur,t,?_,?_,hcs,htk,by omega,hcm,hgb,Or.inr ⟨e,by omega⟩,?_⟩
     ·rw [hW1,e];rw [e] at hbkA;exact hbkA.set0 _
     ·rw [hW1,Below.heap_setCell _ _ _ _ hgb,Below.heap_setCell _ _ _ _ hgb];exact hg
     ·rw [hW1];exact Lib.grownBy_setB hgA 0 _
   clear hW1 hbkA hgA hszA hrA c2 f2 hrow
   have d0 : W1.cell? ⟨b,0,none⟩=some (.slice (some ⟨G,0,none⟩) (l+n) cap'):=hbk1.c0
   have hne : ¬cap'=l:=by omega
   have hsrc1 : n=0∨∃ a,pa=some a∧∀ j v,news[j]?=some v→W1.cell? (a.add j)=some v:=hsrc.imp id fun ⟨a,e,hab,h⟩=>⟨a,e,fun j v hj=>hgW.cell (h j v hj) (by rw [Lib.block_add];exact fun e=>hab (Option.some.inj e))⟩
   obtain ⟨W2,Y,hcp,hY,hYl,hgb,hsz⟩:=copy_in (P:=P) W1 (ρ.t 37) (ρ.t 37) (ρ.t 3) (ρ.t 5) G l n (cap' - l) pa n pc cur t news L.t37 hinfo hG hnews (Nat.le_refl _) hsrc1 (by omega) h1c
   have hYs : Y.size=cap':=by
    have h3:=congrArg List.length hYl
    simp only [List.length_append,List.length_drop,List.length_take,Array.length_toList] at h3
    omega
   have hYt : Y.toList.take (l+n)=olds++news:=by
    rw [hYl,htk,List.take_append_of_le_length (by simp;omega),List.take_of_length_le (by simp;omega)]
   have hW2 : LibA.Three W2 b 0 T R (.slice (some ⟨G,0,none⟩) (l+n) cap') (.int .i64 0) (.int .i8 0):=hbk1.of_heap (hgb.block b hbk1.lt (fun e=>hGb (Option.some.inj e).symm))
   have hcm2:=hcm'
   unfold maxLen at hcm2
   have hgb0:=hgb
   have hYr:=hY
   clear hsrc hsrc1 hr hA
   go_wp2
   go_ret2
   exact ⟨rfl,_,_,hW2,hlc',hcm',Or.inr ⟨G,W1,Y,t,rfl,hGw,hGb,hgW,hgb0,hYr,hYs,hYt⟩⟩
 ·
  go_enter L.f180,Body.n180_ntmps ρ
  go_wp2_with (go_at_fn (ρ.f 251);refine (Any.Buffer_tryGrow_none_at { L with } b 0 A l cap n _ ?_ hlc hcm (by omega)).mono ?_)
  ·exact hbkA.c0
  rintro e W0 ⟨rfl,hW0⟩
  rw [←hW0] at hbkA hgA hszA hrA
  clear hW0 c2 f2
  have hroom' : cap - l < n:=by omega
  go_wp2_with (go_at_fn (ρ.f 252);refine (grow_any { L with } T R b A l cap olds n 0 _ ?_ ?_ hA hroom' hlim).mono ?_)
  ·exact hbkA
  ·exact hrA
  rintro e W1 ⟨rfl,cap',cur,hbk1,hG,hcs,htk,hlc',hcm',hgB⟩
  obtain ⟨G,hGe⟩ : ∃ G,G=w.heap.size:=⟨_,rfl⟩
  rw [hszA,←hGe] at hbk1 hG
  have hGw : G=w.heap.size∨(A=some ⟨G,0,none⟩∧cap≠0):=Or.inl hGe
  have hGb : G≠b:=by have:=hbk.lt;omega
  have hgW : w.grownBy W1 (some b):=Lib.grownBy_trans hgA hgB
  obtain ⟨t,ht⟩ : ∃ t,t=ρ.t 5:=⟨_,rfl⟩
  rw [←ht] at hG
  clear hbkA hgA hszA hrA hgB hGe hrow hroom
  have d0 : W1.cell? ⟨b,0,none⟩=some (.slice (some ⟨G,0,none⟩) (l+n) cap'):=hbk1.c0
  have hne : ¬cap'=l:=by omega
  have hsrc1 : n=0∨∃ a,pa=some a∧∀ j v,news[j]?=some v→W1.cell? (a.add j)=some v:=hsrc.imp id fun ⟨a,e,hab,h⟩=>⟨a,e,fun j v hj=>hgW.cell (h j v hj) (by rw [Lib.block_add];exact fun e=>hab (Option.some.inj e))⟩
  obtain ⟨W2,Y,hcp,hY,hYl,hgb,hsz⟩:=copy_in (P:=P) W1 (ρ.t 37) (ρ.t 37) (ρ.t 3) (ρ.t 5) G l n (cap' - l) pa n pc cur t news L.t37 hinfo hG hnews (Nat.le_refl _) hsrc1 (by omega) h1c
  have hYs : Y.size=cap':=by
   have h3:=congrArg List.length hYl
   simp only [List.length_append,List.length_drop,List.length_take,Array.length_toList] at h3
   omega
  have hYt : Y.toList.take (l+n)=olds++news:=by
   rw [hYl,htk,List.take_append_of_le_length (by simp;omega),List.take_of_length_le (by simp;omega)]
  have hW2 : LibA.Three W2 b 0 T R (.slice (some ⟨G,0,none⟩) (l+n) cap') (.int .i64 0) (.int .i8 0):=hbk1.of_heap (hgb.block b hbk1.lt (fun e=>hGb (Option.some.inj e).symm))
  have hcm2:=hcm'
  unfold maxLen at hcm2
  have hgb0:=hgb
  have hYr:=hY
  clear hsrc hsrc1 hr hA
  go_wp2
  go_ret2
  exact ⟨rfl,_,_,hW2,hlc',hcm',Or.inr ⟨G,W1,Y,t,rfl,hGw,hGb,hgW,hgb0,hYr,hYs,hYt⟩⟩
end
end Go.Proofs.YtmlkhhidifjjfaaDoor
namespace Go.Proofs.YtmlkhhidifjjfaaDoor
open Go.Shelf Go.RowKit
section
variable {P : Program} {ρ : Ren} {base : Nat→Prop} {w0 w w' : World} {I0 I : Imm} {β : Bmap} {σ : AHeap}
theorem three_cells {b : Nat} {ty : TypeId} {x y z : Value} (h : LibA.Three w b 0 ty (fun _=>none) x y z) : w.heap[b]?=some (.cells #[x,y,z] ty (0,0)):=by
 obtain ⟨cs,hb,h0,h1,h2,hr⟩:=h
 rw [hb]
 have : cs=#[x,y,z]:=by
  apply Array.ext_getElem?
  intro i
  match i with
  | 0=>exact h0
  | 1=>exact h1
  | 2=>exact h2
  | i+3=>rw [hr (i+3) (Or.inr (by omega))];exact (Array.getElem?_eq_none (by simp)).symm
 rw [this]
theorem LR_head {k : Nat} {y : AVal} {ys : List AVal} {b off : Nat} (h : LR I β k (y::ys) b off) (hk : 0 < k) : ∃ u,I b off=some u:=by
 rw [LR_cons] at h
 obtain ⟨⟨h1,h2⟩,_⟩:=h
 cases hc : y.cells with
 | nil=>rw [hc] at h1;simp at h1;omega
 | cons c cs =>
  rw [hc] at h2
  simp only [CR] at h2
  obtain ⟨⟨u,hu,_⟩,_⟩:=h2
  exact ⟨u,hu⟩
theorem news_of (R : Rel base w0 I0 I β σ w) {b : Nat} (hb : ∀ o,I b o=none) {y : Bool} {ys : List AVal} {v : Value} (hv : VR I β (.lst y ys) v) (hk : kOk 1 ys=true) :
  ∃ A cap news,v=.slice A ys.length cap∧news.length=ys.length∧VRs I β (ys.flatMap AVal.cells) news∧treeL ys=true∧(∀ x ∈ ys,x.cells.length=1)∧(∀ v ∈ news,v.oneCell'=true) ∧
   (ys.length=0∨∃ a,A=some a∧a.block≠b∧∀ j v,news[j]?=some v→w.cell? (a.add j)=some v):=by
 have hv0:=hv
 obtain ⟨A,cap,e,_,_,htree,hc⟩:=lst_reads R hv
 by_cases hne : ys=[]
 ·subst hne
  exact ⟨A,cap,[],e,rfl,by simp [VRs],rfl,by simp,by simp,Or.inl rfl⟩
 ·rcases hc with hc | ⟨b',off,k,us,hA,hk0,hl,hvs,hcell⟩
  ·exact absurd hc hne
  have e1:=kOk_lens hk hl hne
  subst e1
  refine ⟨A,cap,us,e,by rw [←VRs_length hvs,flat_len hl,Nat.mul_one],hvs,htree,hl,VRs_one (fun z hz=>ok_of_tree1 (treeC_iff.1 (treeC_flat htree) z hz)) hvs,Or.inr ⟨⟨b',off,none⟩,hA,?_,fun j v hj=>by rw [Addr.add_mid];exact hcell j v hj⟩⟩
  rintro rfl
  simp only [VR] at hv0
  obtain ⟨A',cap',e',_,_,_,h5,_⟩:=hv0
  rcases h5 with h5 | ⟨b2,off2,k2,e2,hk2,h5⟩
  ·exact hne h5
  ·rw [e] at e'
   injection e' with e' _ _
   rw [e'] at hA
   rw [hA] at e2
   injection e2 with e2
   injection e2 with e2 e3
   cases ys with
   | nil=>exact hne rfl
   | cons z zs =>
    obtain ⟨u,hu⟩:=LR_head h5 hk2
    rw [←e2,hb] at hu;cases hu
theorem bw_core (L : LaysM.n180 P ρ) (hb : KLt base w0) {c0 : AVal} {lr : Int} {g : Nat} {xs : List AVal} (R : Rel base w0 I0 I β [.var [c0, .int .i64 0, .int .i8 lr], .row g 1 xs] w)
    {bi : BI} (hbi : β 1 g = some bi) {b kk cc : Nat} (hβ0 : β 0 0 = some ⟨some b, kk, cc⟩) {A : Option Addr} {cap : Nat} {ty : TypeId}
    (hheap : w.heap[b]? = some (.cells #[.slice A xs.length cap, .int .i64 0, .int .i8 lr] ty (0, 0)))
    (hA : (∃ gb, bi.b = some gb ∧ A = some ⟨gb, 0, none⟩ ∧ cap = bi.cap) ∨ (bi.b = none ∧ cap = 0 ∧ bi.cap = 0))
    {y : Bool} {ys : List AVal} {v1 : Value} (hv1 : VR I β (.lst y ys) v1) (hlim : xs.length + ys.length ≤ bytesLim) (hk : kOk 1 ys = true) :
    Calls P (ρ.f 180) #[.pointer (some ⟨b, 0, none⟩), v1] w (fun e w' => ∃ u, Ends (.tup [.int .i64 ys.length, .nili]) e u ∧ ∃ β', β.le β' ∧
      Rel base w0 I0 I β' [.var [.sl 1 (g + 1) 0 (xs ++ ys).length, .int .i64 0, .int .i8 0], .row (g + 1) 1 (xs ++ ys)] w' ∧ VR I β' (.tup [.int .i64 ys.length, .nili]) u) := by
  have hbw := R.base_le hb
  have how : owns β 0 (.var [c0, .int .i64 0, .int .i8 lr]) = some b := by simp only [owns, hβ0, Option.bind_some]
  have hob := R.own 0 _ b rfl how
  obtain ⟨bi', hbi', hk1, _, hcap63, hxl, htree, hlens, hrow⟩ := R.blk 1 (.row g 1 xs) rfl
  rw [hbi] at hbi'; injection hbi' with hbi'; subst hbi'
  have hor : owns β 1 (.row g 1 xs) = bi.b := by simp only [owns, hbi, Option.bind_some]
  obtain ⟨olds, hBR, hvo, hA0⟩ : ∃ olds, BufRow w b A xs.length cap olds ∧ VRs I β (xs.flatMap AVal.cells) olds ∧ (A = none → cap = 0) := by
    rcases hA with ⟨gb, e1, e2, e3⟩ | ⟨e1, e2, e3⟩
    · rcases hrow with ⟨h1, h2⟩ | ⟨gb', us, ty', h1, h2, h3, h4⟩
      · rw [e1] at h1; cases h1
      · rw [e1] at h1; injection h1 with h1; subst h1
        rw [Nat.mul_one] at h3 h4
        have hgb : gb ≠ b := by
          rintro rfl
          have := R.apart 0 _ 1 _ gb rfl rfl how (by rw [hor, e1])
          omega
        refine ⟨us.toList.take xs.length, ⟨by have h9 : us.toList.length = us.size := us.length_toList; rw [List.length_take]; omega, by omega, by unfold maxLen; omega, VRs_one (fun z hz => ok_of_tree1 (treeC_iff.1 (treeC_flat htree) z hz)) h4, Or.inr ⟨gb, us, ty', e2, hgb, h2, by omega, rfl⟩⟩, h4, by rw [e2]; intro h; cases h⟩
    · have hx : xs = [] := List.eq_nil_of_length_eq_zero (by omega)
      subst hx
      exact ⟨[], ⟨rfl, by simp, by unfold maxLen; omega, by simp, Or.inl e2⟩, by simp [VRs], fun _ => e2⟩
  obtain ⟨A1, cap1, news, rfl, hnl, hvn, htn, hln, hn1, hsrc⟩ := news_of R hob.2 hv1 hk
  refine (bwrite L ty (fun _ => none) b A xs.length cap lr olds news A1 ys.length cap1 w (LibA.three_whole hheap) hBR hA0 hnl hn1 hsrc (by unfold bytesLim at hlim; omega)).mono ?_
  rintro e w' ⟨rfl, A', cap', hT, hle, hcm, hcase⟩
  refine ⟨_, rfl, ?_⟩
  have hT' := three_cells hT
  unfold maxLen at hcm
  obtain ⟨w1, hw1⟩ : ∃ w1 : World, w1 = { w with heap := w.heap.setIfInBounds b (.cells #[.slice A' (xs.length + ys.length) cap', .int .i64 0, .int .i8 0] ty (0, 0)) } := ⟨_, rfl⟩
  have hbl : b < w.heap.size := Lib.lt_of_heap hheap
  have h1b : w1.heap[b]? = w'.heap[b]? := by rw [hw1, hT']; simp [hbl]
  have h1o : ∀ k, k ≠ b → w1.heap[k]? = w.heap[k]? := fun k hk => by rw [hw1]; exact Array.getElem?_setIfInBounds_ne (fun e => hk e.symm)
  have h1s : w1.heap.size = w.heap.size := by rw [hw1]; simp
  have R1 : Rel base w0 I0 I β [.var [.top, .int .i64 0, .int .i8 0], .row g 1 xs] w1 := by
    have := R.putObj (t := 0) (x' := .var [.top, .int .i64 0, .int .i8 0]) rfl how (by simp only [owns, hβ0, Option.bind_some]) (.cells #[.slice A' (xs.length + ys.length) cap', .int .i64 0, .int .i8 0] ty (0, 0))
      ⟨b, kk, cc, _, ty, hβ0, by simp [hbl]; rfl, by simp [VRs, VR]⟩ rfl
    rw [hw1]; exact this
  obtain ⟨bi2, hB, keep, hbi2, hblk, hv2⟩ : ∃ bi2 : BI, KB base w1 w' ∧ (∀ b', owns β 1 (.row g 1 xs) ≠ some b' → b' < w1.heap.size → w'.heap[b']? = w1.heap[b']?) ∧ (bi2.b = none ∨ ∃ b', bi2.b = some b' ∧ (owns β 1 (.row g 1 xs) = some b' ∨ b' = w1.heap.size)) ∧
      BR I (β.put 1 (g + 1) bi2) w' 1 (.row (g + 1) 1 (xs ++ ys)) ∧ VR I (β.put 1 (g + 1) bi2) (.sl 1 (g + 1) 0 (xs ++ ys).length) (.slice A' (xs.length + ys.length) cap') := by
    have hle2 : β.le (β.put 1 (g + 1) bi) → True := fun _ => trivial
    have hnone : β 1 (g + 1) = none := R.gen 1 _ (g + 1) rfl (by simp [genB])
    rcases hcase with ⟨hn0, rfl, rfl, hgB⟩ | ⟨G, W1, Y, t, rfl, hGw, hGb, hg1, hg2, hY, hYs, hYt⟩
    · have hy : ys = [] := List.eq_nil_of_length_eq_zero hn0
      subst hy
      simp only [List.append_nil, List.length_nil, Nat.add_zero]
      have hbl' : β.le (β.put 1 (g + 1) bi) := Bmap.put_le hnone
      have same : ∀ k, k < w.heap.size → w'.heap[k]? = w1.heap[k]? := by
        intro k hk
        by_cases e : k = b
        · rw [e, h1b]
        · rw [h1o k e]; exact hgB.block k hk (fun h => e (Option.some.inj h))
      refine ⟨bi, ⟨by rw [hw1]; exact hgB.os, by rw [hw1]; exact hgB.tape, by rw [hw1]; exact hgB.output, by rw [h1s]; exact hgB.size, fun k hk => same k (hbw k hk)⟩, fun b' _ hb' => same b' (by omega), ?_, ?_, ?_⟩
      · rw [hor]
        cases bi.b with
        | none => exact Or.inl rfl
        | some x => exact Or.inr ⟨x, rfl, Or.inl rfl⟩
      · refine ⟨bi, Bmap.put_same β 1 (g + 1) bi, hk1, by omega, hcap63, hxl, htree, hlens, hrow.imp id ?_⟩
        rintro ⟨gb, us, ty', q1, q2, q3, q4⟩
        have hgb : gb ≠ b := by
          rintro rfl
          have := R.apart 0 _ 1 _ gb rfl rfl how (by rw [hor, q1])
          omega
        exact ⟨gb, us, ty', q1, by rw [same gb (Lib.lt_of_heap q2), h1o gb hgb]; exact q2, q3, VRs.mono (Imm.le.refl I) hbl' _ _ q4⟩
      · rw [VR_sl0]
        refine ⟨bi, Bmap.put_same β 1 (g + 1) bi, hxl, hcap63, ?_⟩
        rcases hA with ⟨gb, e1, e2, e3⟩ | ⟨e1, e2, e3⟩
        · exact Or.inl ⟨gb, e1, by rw [e2, e3]⟩
        · have hx : xs.length = 0 := by omega
          exact Or.inr ⟨e1, e3, _, by rw [hx, e2]⟩
    · have hbl' : β.le (β.put 1 (g + 1) ⟨some G, 1, cap'⟩) := Bmap.put_le hnone
      have hGo : owns β 1 (.row g 1 xs) = some G ∨ G = w1.heap.size := by
        rcases hGw with e | ⟨e, hc0⟩
        · exact Or.inr (by rw [h1s]; exact e)
        · refine Or.inl ?_
          rw [hor]
          rcases hA with ⟨gb, e1, e2, e3⟩ | ⟨e1, e2, e3⟩
          · rw [e2] at e; injection e with e; injection e with e; rw [e1, e]
          · exact absurd e2 hc0
      have hsz1 : w.heap.size ≤ W1.heap.size := hg1.size
      have same : ∀ k, k < w.heap.size → k ≠ G → w'.heap[k]? = w1.heap[k]? := by
        intro k hk hkG
        by_cases e : k = b
        · rw [e, h1b]
        · rw [h1o k e]; exact (hg2.block k (by omega) (fun h => hkG (Option.some.inj h))).trans (hg1.block k hk (fun h => e (Option.some.inj h)))
      refine ⟨⟨some G, 1, cap'⟩, ⟨by rw [hw1]; exact hg2.os.trans hg1.os, by rw [hw1]; exact hg2.tape.trans hg1.tape, by rw [hw1]; exact hg2.output.trans hg1.output, by rw [h1s]; exact Nat.le_trans hg1.size hg2.size, fun k hk => same k (hbw k hk) ?_⟩, fun b' hb1 hb' => same b' (by omega) ?_, Or.inr ⟨G, rfl, hGo⟩, ?_, ?_⟩
      · rintro rfl
        rcases hGo with e | e
        · exact (R.own 1 _ _ rfl e).1 hk
        · have := hbw _ hk; omega
      · rintro rfl
        rcases hGo with e | e
        · exact hb1 e
        · omega
      · refine ⟨_, Bmap.put_same β 1 (g + 1) _, rfl, by omega, hcm, by rw [List.length_append]; exact hle, by rw [treeL_append htree htn], ?_, Or.inr ⟨G, Y, t, rfl, hY, by rw [hYs, Nat.mul_one], ?_⟩⟩
        · intro x hx
          rcases List.mem_append.1 hx with h | h
          · exact hlens x h
          · exact hln x h
        · rw [List.length_append, Nat.mul_one, hYt, flat_append]
          exact VRs_append (VRs.mono (Imm.le.refl I) hbl' _ _ hvo) (VRs.mono (Imm.le.refl I) hbl' _ _ hvn)
      · rw [VR_sl0]
        exact ⟨_, Bmap.put_same β 1 (g + 1) _, by rw [List.length_append]; exact hle, hcm, Or.inl ⟨G, rfl, by rw [List.length_append]⟩⟩
  have hbw1 : KLt base w1 := fun k hk => by rw [h1s]; exact hbw k hk
  obtain ⟨R2, hle2⟩ := R1.grow (t := 1) (g := g) (k := 1) (xs := xs) (xs' := xs ++ ys) rfl bi2 hB (by
    intro b' o u hI
    have hne : b' ≠ b := by rintro rfl; rw [hob.2 o] at hI; cases hI
    have hlt : b' < w1.heap.size := by rw [h1s]; exact cell_lt (R.imm _ _ _ hI)
    have hno : owns β 1 (.row g 1 xs) ≠ some b' := fun e => by have := (R.own 1 _ b' rfl e).2 o; rw [this] at hI; cases hI
    rw [← R1.imm b' o u hI]
    simp only [World.cell?, keep b' hno hlt]) keep hbi2 hbw1 hblk
  have hβ2 : (β.put 1 (g + 1) bi2) 0 0 = some ⟨some b, kk, cc⟩ := hle2 _ _ _ hβ0
  refine ⟨β.put 1 (g + 1) bi2, hle2, ?_, by simp [VR, VRs]⟩
  refine R2.upd (Imm.le.refl I) (Bmap.le.refl _) (KB.refl _ _) (fun _ _ _ => rfl) R2.imm 0 (.var [.sl 1 (g + 1) 0 (xs ++ ys).length, .int .i64 0, .int .i8 0]) rfl (by simp) (fun _ _ _ => rfl) ?_ ?_ ?_ ?_ (by simp)
  · intro t' x b' hne hx hb'
    refine ⟨rfl, (R2.own t' x b' hx hb').2, ?_⟩
    simp only [owns, hβ2, Option.bind_some]
    intro e; injection e with e; subst e
    exact hne (R2.apart t' x 0 _ b hx rfl hb' (by simp only [owns, hβ2, Option.bind_some]))
  · exact ⟨b, kk, cc, _, ty, hβ2, hT', by simp only [VRs]; exact ⟨_, _, rfl, hv2, _, _, rfl, by simp [VR], _, _, rfl, by simp [VR], rfl⟩⟩
  · intro b' e
    simp only [owns, hβ2, Option.bind_some] at e; injection e with e; subst e
    exact R2.own 0 _ b rfl (by simp only [owns, hβ2, Option.bind_some])
  · intro g' hg'
    exact R2.gen 0 _ g' rfl (by simpa [genB] using hg')
theorem bwritePrim_ok (L : LaysM.n180 P ρ) {f : FuncId} (hf : ρ.f 180=f) (hx : ∃ fn,P.funcs[f]?=some fn∧fn.body.isSome=true∧(fn.name == "runtime.NumGoroutine")=false) {args : List AVal} {σ σ' : AHeap} {r : AVal} (hg : bwritePrim args σ=some (r,σ')) :
  (∃ fn,P.funcs[f]?=some fn∧fn.body.isSome=true∧(fn.name == "runtime.NumGoroutine")=false) ∧
  ∀ base w0 I0 I β w (vs : Array Value),KLt base w0→Rel base w0 I0 I β σ w→VRs I β args vs.toList →
   Calls P f vs w (fun e w'=>∃ u,Ends r e u∧PostF σ.length base w0 I0 I β r σ' u w'):=by
 refine ⟨hx,?_⟩
 intro base w0 I0 I β w vs hb R hargs
 subst hf
 unfold bwritePrim at hg
 split at hg
 ·
  rename_i y ys lr
  split at hg
  case isFalse=>cases hg
  rename_i hc
  simp only [Option.some.injEq,Prod.mk.injEq] at hg
  obtain ⟨rfl,rfl⟩:=hg
  simp only [VRs] at hargs
  obtain ⟨v0,_,hvs,h0,v1,_,rfl,h1,rfl⟩:=hargs
  have hvs' : vs=#[v0,v1]:=by rw [←Array.toList_inj];exact hvs
  subst hvs'
  simp only [VR] at h0
  obtain ⟨b,k,c,hβ0,rfl⟩:=h0
  obtain ⟨b',k',c',us,ty,hβ,hheap,hcs⟩:=R.blk 0 _ rfl
  rw [hβ0] at hβ;injection hβ with hβ;injection hβ with hβ1 hβ2 hβ3;injection hβ1 with hβ1;subst hβ1 hβ2 hβ3
  simp only [VRs] at hcs
  obtain ⟨u0,_,hus,hu0,u1,_,rfl,hu1,u2,_,rfl,hu2,rfl⟩:=hcs
  simp only [VR] at hu0 hu1 hu2
  obtain ⟨A,cap,rfl,_,_,hcap,_,_⟩:=hu0
  have hcap0 : cap=0:=by simpa using hcap
  subst hu1 hu2 hcap0
  have hus' : us=#[.slice A 0 0,.int .i64 0,.int .i8 lr]:=by rw [←Array.toList_inj];simpa using hus
  subst hus'
  have R1:=R.reserve 1
  have hfree : ([.var [.lst true [],.int .i64 0,.int .i8 lr]]++List.replicate 1 ABlk.free)[1]?=some .free:=rfl
  obtain ⟨R2,hle⟩:=R1.newNone hfree 1 (by omega)
  have R3 : Rel base w0 I0 I (β.put 1 0 ⟨none,1,0⟩) [.var [.lst true [],.int .i64 0,.int .i8 lr],.row 0 1 []] w:=R2
  refine (bw_core L hb R3 (bi:=⟨none,1,0⟩) (Bmap.put_same β 1 0 _) (hle _ _ _ hβ0) (A:=A) (cap:=0) hheap (Or.inr ⟨rfl,rfl,rfl⟩) (h1.mono (Imm.le.refl I) hle _ _) (by simpa using hc.1) hc.2).mono ?_
  rintro e w' ⟨u,he,β',hb',hR,hv⟩
  obtain ⟨β2,hk2,hR2,_⟩:=gc_sound hR 1 []
  refine ⟨u,he,I,β2,Imm.le.refl I,(KeptE.of_le (hle.trans hb')).trans hk2,?_,by simpa [valOf,VR,VRs] using hv⟩
  have hgc : (gcA 1 [] [.var [.sl 1 (0+1) 0 ([]++ys).length,.int .i64 0,.int .i8 0],.row (0+1) 1 ([]++ys)]).2=[.var [.sl 1 0 0 ys.length,.int .i64 0,.int .i8 0],.row 0 1 ys]:=rfl
  rw [hgc] at hR2
  exact hR2
 ·rename_i y ys g m lr g' xs
  split at hg
  case isFalse=>cases hg
  rename_i hc
  obtain ⟨rfl,rfl,hc1,hc2⟩:=hc
  simp only [Option.some.injEq,Prod.mk.injEq] at hg
  obtain ⟨rfl,rfl⟩:=hg
  simp only [VRs] at hargs
  obtain ⟨v0,_,hvs,h0,v1,_,rfl,h1,rfl⟩:=hargs
  have hvs' : vs=#[v0,v1]:=by rw [←Array.toList_inj];exact hvs
  subst hvs'
  simp only [VR] at h0
  obtain ⟨b,k,c,hβ0,rfl⟩:=h0
  obtain ⟨b',k',c',us,ty,hβ,hheap,hcs⟩:=R.blk 0 _ rfl
  rw [hβ0] at hβ;injection hβ with hβ;injection hβ with hβ1 hβ2 hβ3;injection hβ1 with hβ1;subst hβ1 hβ2 hβ3
  obtain ⟨bi,hbi,hk1,_⟩:=R.blk 1 (.row g 1 xs) rfl
  simp only [VRs] at hcs
  obtain ⟨u0,_,hus,hu0,u1,_,rfl,hu1,u2,_,rfl,hu2,rfl⟩:=hcs
  rw [VR_sl0] at hu0
  simp only [VR] at hu1 hu2
  subst hu1 hu2
  obtain ⟨bi',hbi',_,_,hcase⟩:=hu0
  rw [hbi] at hbi';injection hbi' with hbi';subst hbi'
  obtain ⟨A,cap,rfl,hA⟩ : ∃ A cap,u0=.slice A xs.length cap∧((∃ gb,bi.b=some gb∧A=some ⟨gb,0,none⟩∧cap=bi.cap)∨(bi.b=none∧cap=0∧bi.cap=0)):=by
   rcases hcase with ⟨gb,e1,e2⟩ | ⟨e1,e2,A,e3⟩
   ·exact ⟨_,_,e2,Or.inl ⟨gb,e1,rfl,rfl⟩⟩
   ·obtain ⟨bi2,hbi2,_,_,_,hxl,_⟩:=R.blk 1 (.row g 1 xs) rfl
    rw [hbi] at hbi2;injection hbi2 with hbi2;subst hbi2
    exact ⟨A,0,by rw [e3,show xs.length=0 by omega],Or.inr ⟨e1,rfl,e2⟩⟩
  have hus' : us=#[.slice A xs.length cap,.int .i64 0,.int .i8 lr]:=by rw [←Array.toList_inj];simpa using hus
  subst hus'
  refine (bw_core L hb R hbi hβ0 hheap hA h1 hc1 hc2).mono ?_
  rintro e w' ⟨u,he,β',hb',hR,hv⟩
  exact ⟨u,he,I,β',Imm.le.refl I,KeptE.of_le hb',hR,hv⟩
 ·cases hg
end
end Go.Proofs.YtmlkhhidifjjfaaDoor
namespace Go.Proofs.YtmlkhhidifjjfaaDoor
open Go.Shelf
def ren180 : Ren:=⟨fun | 180=>130 | 251=>150 | 252=>151 | 181=>159 | 184=>160 | 290=>161 | 324=>164 | n=>n,fun | 130=>190 | 37=>22 | 3=>3 | 75=>187 | 0=>0 | 93=>135 | 91=>133 | 131=>123 | 4=>4 | 20=>20 | 5=>5 | 80=>118 | 9=>9 | n=>n,fun | 14=>2 | n=>n⟩
theorem lay180 : Go.Proofs.LaysM.n180 Tryd.prog ren180:={ mixed:=by kernel_rfl,f180:=Tryd.func130.trans (congrArg some (by kernel_rfl)),f181:=Tryd.func159.trans (congrArg some (by kernel_rfl)),f184:=Tryd.func160.trans (congrArg some (by kernel_rfl)),f251:=Tryd.func150.trans (congrArg some (by kernel_rfl)),f252:=Tryd.func151.trans (congrArg some (by kernel_rfl)),f290:=Tryd.func161.trans (congrArg some (by kernel_rfl)),f324:=Tryd.func164.trans (congrArg some (by kernel_rfl)),t0:=Tryd.underlying0,a0:=Tryd.isAgg0,z0:=Tryd.sizeOf0,v0:=Tryd.zeroValue0,t3:=Tryd.underlying3,a3:=Tryd.isAgg3,z3:=Tryd.sizeOf3,v3:=Tryd.zeroValue3,t4:=Tryd.underlying4,a4:=Tryd.isAgg4,z4:=Tryd.sizeOf4,v4:=Tryd.zeroValue4,t20:=Tryd.underlying20,a20:=Tryd.isAgg20,z20:=Tryd.sizeOf20,v20:=Tryd.zeroValue20,t37:=Tryd.underlying22,a37:=Tryd.isAgg22,z37:=Tryd.sizeOf22,v37:=Tryd.zeroValue22,t75:=Tryd.underlying187,a75:=Tryd.isAgg187,z75:=Tryd.sizeOf187,v75:=Tryd.zeroValue187,t91:=Tryd.underlying133,a91:=Tryd.isAgg133,z91:=Tryd.sizeOf133,v91:=Tryd.zeroValue133,t93:=Tryd.underlying135,a93:=Tryd.isAgg135,z93:=Tryd.sizeOf135,v93:=Tryd.zeroValue135,t130:=Tryd.underlying190,a130:=Tryd.isAgg190,z130:=Tryd.sizeOf190,v130:=Tryd.zeroValue190,t131:=Tryd.underlying123,a131:=Tryd.isAgg123,z131:=Tryd.sizeOf123,v131:=Tryd.zeroValue123,g14:=by kernel_rfl,t5:=Tryd.underlying5,a5:=Tryd.isAgg5,z5:=Tryd.sizeOf5,v5:=Tryd.zeroValue5,t9:=Tryd.underlying9,a9:=Tryd.isAgg9,z9:=Tryd.sizeOf9,v9:=Tryd.zeroValue9,t80:=Tryd.underlying118,a80:=Tryd.isAgg118,z80:=Tryd.sizeOf118,v80:=Tryd.zeroValue118,i0:=by kernel_rfl,i3:=by kernel_rfl,i4:=by kernel_rfl,i5:=by kernel_rfl,i9:=by kernel_rfl,i20:=by kernel_rfl,i37:=by kernel_rfl,i75:=by kernel_rfl,i80:=by kernel_rfl,i91:=by kernel_rfl,i93:=by kernel_rfl,i130:=by kernel_rfl,i131:=by kernel_rfl,m14:=by kernel_rfl }
end Go.Proofs.YtmlkhhidifjjfaaDoor
namespace Go.Proofs.YtmlkhhidifjjfaaDoor
theorem write_fn : ∃ fn,Tryd.prog.funcs[130]?=some fn∧fn.body.isSome=true∧(fn.name == "runtime.NumGoroutine")=false:=⟨Tryd.f130,Tryd.func130,by kernel_rfl,by kernel_rfl⟩
theorem prim1_ok : PrimOk Tryd.prog PR1:=by
 intro f g h args σ r σ' hg
 unfold PR1 at h
 split at h
 ·rename_i e;subst e
  injection h with h;subst h
  exact read_ok hg
 ·split at h
  ·rename_i e;subst e
   injection h with h;subst h
   exact bwritePrim_ok lay180 rfl write_fn hg
  ·exact prim_ok f g h args σ r σ' hg
theorem E1_ok : OrOk Tryd.prog E1:=by
 have h : E1=EV CF PR1 BY:=EV_strip CF PR1 BY
 rw [h]
 exact EV_sound follows_ok prim1_ok ann BY
end Go.Proofs.YtmlkhhidifjjfaaDoor
namespace Go.Proofs.YtmlkhhidifjjfaaDoor
open Go.RowKit Go.Shelf Go.Lib
theorem gl_of_tabs {W : World} (h : Lib.Utf8Tabs 0 1 W) : Gl.le (Imm.of W):=by
 intro b o u hu
 unfold Gl at hu
 unfold Imm.of
 split at hu
 ·rename_i e;subst e
  split at hu
  ·rename_i ho
   rw [h.1 o ho,←hu]
  ·cases hu
 ·split at hu
  ·rename_i e;subst e
   split at hu
   ·rename_i ho
    rw [←hu]
    obtain ⟨h1,h2⟩:=h.2 (o / 2) (by omega)
    by_cases hp : o % 2=0
    ·rw [if_pos hp,←h1];congr 2;omega
    ·rw [if_neg hp,←h2];congr 2;omega
   ·cases hu
  ·cases hu
section
open Go.RowKit
variable {H : Type} {enc : TypeId×Value→H} {P : Program} {w : World} {spare : Nat→Bool} {held : Bool}
end
end Go.Proofs.YtmlkhhidifjjfaaDoor
namespace Go.Proofs.YtmlkhhidifjjfaaDoor
open Go.ChangeShapes Go.WideShapes Go.ChangeAt Go.RowKit Go.Deep
theorem packetProps_own : ownKnob Tryd.prog.godebug=none:=by kernel_rfl
theorem packetProps_laidOut : laidOutB Tryd.prog=true:=by kernel_rfl
theorem packetProps_glob {W : World} (hLH : laidMetH Tryd.prog Rows.packetPropsRow.laid W) : Gl.le (Imm.of W):=by
 have hL : laidMet Tryd.prog Rows.packetPropsRow.laid W:=by rw [←MakeChecks.laidMetH_plain _ _ _ (by kernel_rfl)];exact hLH
 have e1 : Rows.laid_unicode_utf8_first=Lib.firstData:=by kernel_rfl
 have e2 : (Rows.laid_unicode_utf8_acceptRanges : DataW Unit)=Lib.acceptData:=by kernel_rfl
 have h1 : Lib.VarReads Tryd.prog W "unicode/utf8.first" Lib.firstData:=by rw [←e1];exact Lib.laidMet.reads hL (.tail _ (.tail _ (.head _)))
 have h2 : Lib.VarReads Tryd.prog W "unicode/utf8.acceptRanges" Lib.acceptData:=by rw [←e2];exact Lib.laidMet.reads hL (.head _)
 exact gl_of_tabs (utf8Tabs_of_readsT (U8Types.of196 lay196) ⟨by kernel_rfl,by kernel_rfl,by kernel_rfl,by kernel_rfl,by kernel_rfl,by kernel_rfl,by kernel_rfl⟩ h1 h2)
set_option maxRecDepth 100000 in
set_option maxHeartbeats 1000000 in
theorem packetProps_contract (H : Type) (enc : TypeId×Value→H) (W : World) (base : Nat) (args : Array Value) (ds gs : List (DataW H)) (before : List MemPlace) (vts : List TypeId)
  (hval0 : ∀ (j : Nat) t v,Tryd.f10.params[j]?=some t→args[j]?=some v→Value.okWide Tryd.prog W .any base t v)
  (hW : DataW.Whole enc Tryd.prog Tryd.f10.params.toList Rows.packetPropsSpec.vars false W args.toList ds gs before) (hL : laidMetH Tryd.prog Rows.packetPropsRow.laid W) (hwt : (DataW.weightsEach Tryd.prog (Tryd.f10.params.toList++vts) (ds++gs)).all (·≤reachBytes)=true) :
  Calls Tryd.prog 10 args W fun e W'=>∃ v,e=.returned v∧Rows.packetPropsSpec.post enc Tryd.prog Tryd.f10 false true false false W args v W':=by
 have hW':=hW
 obtain ⟨p,q,hA0,hV,rfl,hfz,hnd⟩:=hW
 have hval : ∀ (j : Nat) t v,Tryd.f10.params[j]?=some t→args[j]?=some v→Value.okWide Tryd.prog W .any base t v:=hval0
 have hA : DataW.TrodAll enc Tryd.prog W 0 (fun _=>true) true Tryd.f10.params.toList args.toList ds p:=hA0
 rw [Tryd.params10] at hA hval hwt
 obtain ⟨v0,vs0,d0,ds0,p0,q0,hargs,rfl,rfl,h0,r0⟩:=trodAll_cons hA
 obtain ⟨v1,vs1,d1,ds1,p1,q1,rfl,rfl,rfl,h1,r1⟩:=trodAll_cons r0
 obtain ⟨rfl,rfl,rfl⟩:=trodAll_nil r1
 obtain rfl : args=#[v0,v1]:=by cases args;simp_all
 obtain ⟨rfl,rfl⟩:=trodVars_none hV
 have k0:=h0
 have lt0 : ∀ x ∈ p0,x.block < W.heap.size:=by obtain ⟨m,hm⟩:=k0;exact DataW.trod_lt m _ _ _ hm
 obtain ⟨x0,y0,z0,_⟩:=arg_tyR (R:=reachBytes) (n:=12) (T:=(.slice true propT)) (by kernel_rfl) (by kernel_rfl) (fun m hm=>of_decide_eq_true (List.all_eq_true.1 hwt m (DataW.weights_mem_each (j:=0) rfl rfl m hm))) (hval 0 28 v0 rfl rfl) h0
 rw [Tryd.underlying28] at y0
 obtain ⟨a0,b0,rfl⟩:=propsA_ofR y0
 have k1:=h1
 have lt1 : ∀ x ∈ p1,x.block < W.heap.size:=by obtain ⟨m,hm⟩:=k1;exact DataW.trod_lt m _ _ _ hm
 obtain ⟨x1,y1,z1,_⟩:=arg_tyR (R:=reachBytes) (n:=12) (T:=(.slice false (.int .u8))) (by kernel_rfl) (by kernel_rfl) (fun m hm=>of_decide_eq_true (List.all_eq_true.1 hwt m (DataW.weights_mem_each (j:=1) rfl rfl m hm))) (hval 1 22 v1 rfl rfl) h1
 rw [Tryd.underlying22] at y1
 obtain ⟨a1,b1,rfl⟩:=bytesA_ofR y1
 clear hA0 hval0
 have rb : reachBytes≤9223372036854775807:=by decide
 have hq:=q_law a0 a1 (fun p hp=>⟨Nat.le_trans (b0.2 p hp).2.2.1 rb,Nat.le_trans (b0.2 p hp).2.2.2.1 rb,Nat.le_trans (b0.2 p hp).2.2.2.2 rb⟩)
 refine (walk_of E1_ok (packetProps_glob hL) (args:=[.lst false (a0.map propV),bytesV a1]) (by simp only [VRs];exact ⟨_,_,rfl,z0,_,_,rfl,z1,rfl⟩) (hq)).mono fun e W' ⟨he,bel⟩=>?_
 subst he
 exact ⟨_,rfl,_,_,_,[],_,[],hW',trodAll_mk1 (shut_bool Tryd.underlying4 _),(trodAll_cons_mk (Below.trod packetProps_laidOut (by kernel_rfl) (of_decide_eq_true (by kernel_rfl)) k0 bel lt0) (trodAll_cons_mk (Below.trod packetProps_laidOut (by kernel_rfl) (of_decide_eq_true (by kernel_rfl)) k1 bel lt1) trodAll_mk0)),rfl,bel.frame _,fun h=>by cases h⟩
noncomputable def packetProps_world (os : Os) : World :=
 let w0:=World.holding Tryd.prog os ⟨#[],#[],[]⟩
 let put (h : Array Obj) (g : Nat) (us : Array Value) : Array Obj:=h.modify g fun
  | .cells _ t frozen=>.cells us t frozen
  | o=>o
 let h1:=put w0.heap 0 (Lib.firstTab.map fun z=>Value.int .u8 z).toArray
 let h2:=put h1 1 ((List.range 16).flatMap fun i=>[Value.int .u8 (Lib.accLo i),Value.int .u8 (Lib.accHi i)]).toArray
 let h3:=(put h2 2 #[Value.iface 221 (.pointer (some ⟨h2.size,0,none⟩))]).push (.cells #[Value.string ⟨#[98,121,116,101,115,46,66,117,102,102,101,114,58,32,116,111,111,32,108,97,114,103,101]⟩] 237)
 { w0 with heap:=h3 }
theorem packetProps_met (os : Os) : laidMet Tryd.prog Rows.packetPropsRow.laid ((packetProps_world os).forCall (fun _ _=>0) ⟨#[],#[.slice none 0 0,.slice none 0 0],[]⟩).memory :=
 laidMet_of_run' 8 (by kernel_rfl) (by kernel_rfl)
theorem packetProps_reads (os : Os) {H : Type} (enc : TypeId×Value→H) : ∃ ds places,DataW.whole enc Tryd.prog ((packetProps_world os).forCall (fun _ _=>0) ⟨#[],#[.slice none 0 0,.slice none 0 0],[]⟩).memory Tryd.f10.params.toList Rows.packetPropsSpec.vars false #[.slice none 0 0,.slice none 0 0].toList 8=some (ds,[],places) :=
 ⟨[.nil,.nil],[],by kernel_rfl⟩
set_option maxRecDepth 100000 in
set_option maxHeartbeats 1000000 in
theorem packetProps_lifted (os : Os) (started : os.Started) (H : Type) (enc : TypeId×Value→H) (F : Stop.Interp) :
  ReturnsInHanded {} Tryd.checked os 10 .any ((OpenSpec.ofChange Rows.packetPropsSpec).preRow enc Tryd.prog Tryd.f10 Rows.packetPropsRow.domain false Rows.packetPropsRow.laid) (((OpenSpec.ofChange Rows.packetPropsSpec).at F).post enc Tryd.prog Tryd.f10 false true false false):=by
 obtain ⟨ds,places,hx⟩:=packetProps_reads os enc
 refine returnsInHanded_of_row (C:=Tryd.checked) (s:=(OpenSpec.ofChange Rows.packetPropsSpec)) packetProps_own started (by kernel_rfl) Tryd.func10
  (witness_row_at (enc:=enc) (C:=Tryd.checked) false (packetProps_world os) #[.slice none 0 0,.slice none 0 0] rfl (by kernel_rfl) (by kernel_rfl) (by kernel_rfl)
   (OpenSpec.preRow_of_cond 8 hx (by kernel_rfl) (fun k hk=>by cases hk) (by kernel_rfl) (packetProps_met os))) ?_
 intro W base args ds gs before hval hW _ hcond hwt hL _ _
 exact packetProps_contract H enc W base args ds gs before _ hval hW hL hwt
theorem packetProps_said : Rows.PacketPropsSaid :=
 OpenClaim.holds_of_cond 10 Tryd.f10 rfl rfl rfl rfl rfl rfl rfl ⟨rfl,rfl,rfl,rfl,rfl⟩ rfl rfl rfl rfl rfl (by kernel_rfl) Tryd.func10 (by kernel_rfl)
  (of_decide_eq_true (by kernel_rfl)) (by unfold Func.isWrapper;first | (rw [if_pos (by decide +kernel)];kernel_rfl) | (rw [if_neg (by decide +kernel)];exact ⟨rfl,rfl⟩))
  (fun os started H enc _ F=>by rw [OpenClaim.pre_eq_preRow];exact packetProps_lifted os started H enc F)
theorem packetProps_plain (f : FuncId) (fn : Func) (hf : Tryd.pinned.checked.prog.funcNamed "tidings/tidingslaw12.PacketProps"=some f) (hfn : Tryd.pinned.checked.prog.funcs[f]?=some fn) :
  true=Tryd.pinned.checked.prog.looks []∧∀ (j : Nat) t,fn.params[j]?=some t→Tryd.pinned.checked.prog.wantsStandIn t=false:=by
 obtain rfl : f=10:=Option.some.inj ((show Tryd.prog.funcNamed "tidings/tidingslaw12.PacketProps"=some 10 by kernel_rfl).symm.trans hf) |>.symm
 obtain rfl : fn=Tryd.f10:=(Option.some.inj (Tryd.func10.symm.trans hfn)).symm
 refine ⟨by kernel_rfl,fun j t ht=>?_⟩
 rw [Tryd.params10] at ht
 have hm : t=28∨t=22:=by
  have:=Array.mem_of_getElem? ht
  simp at this
  first | exact this | exact this.symm | omega | (rcases this with h | h | h <;> simp [h]) | (rcases this with h | h | h | h <;> simp [h]) | (rcases this with h | h | h | h | h <;> simp [h]) | (rcases this with h | h | h | h | h | h <;> simp [h]) | (rcases this with h | h | h | h | h | h | h <;> simp [h])
 rcases hm with rfl | rfl
 ·exact (show Tryd.prog.wantsStandIn 28=false by kernel_rfl)
 ·exact (show Tryd.prog.wantsStandIn 22=false by kernel_rfl)
theorem packetProps_card : Rows.PacketPropsCardSaid :=
 Claim7.holds_tied_plain_at .later [] _ _ _ _ packetProps_said (fun _ h=>by cases h) (by kernel_rfl) (fun _ h=>by cases h) packetProps_row_tie rfl ⟨rfl,rfl⟩ (by kernel_rfl) rfl packetProps_plain (by kernel_rfl)
#print axioms packetProps_card
end Go.Proofs.YtmlkhhidifjjfaaDoor
