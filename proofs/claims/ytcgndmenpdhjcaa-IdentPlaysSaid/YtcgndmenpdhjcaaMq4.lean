/- The statement of IdentPlays: for every input the law returns true, and each argument reads afterwards as it read before. No other condition. -/
import Derived.Test.YtcgndmenpdhjcaaMq3
import Derived.Test.YtcgndmenpdhjcaaMq2
import Derived.Test.YtcgndmenpdhjcaaRows
import Derived.WalkKit
import Derived.ProofKit
import Derived.OpenShut
import Derived.ShutString
import Derived.ChangeOld
import Derived.Below
set_option linter.defProp false
set_option linter.unusedSimpArgs false
set_option linter.unusedVariables false
open List renaming getElem?_eq_some_iff→Xc,getD_eq_getElem?_getD→Xi,range_succ→Xj,getElem?_set→Xq,length_map→Xz,mem_cons→XC,flatMap_cons→XI,mem_map→XJ,append_nil→XL,getD_cons_zero→XP,nil_append→XW,cons_append→XX,getD_cons_succ→XY,take_of_length_le→X6,all_cons→Wc,length_nil→Wf,pairwise_cons→Wg,singleton_append→Wh,length_cons→Ws,map_map→WC,length_singleton→WE,contains_iff_mem→WG,contains_cons→WK,flatMap_nil→WQ,all_nil→WW,drop_eq_nil_iff→Xac,drop_zero→Xar,drop_succ_cons→Xat,take_succ_cons→Xau,mergeSort_perm→Xaw,pairwise_mergeSort→XaE,range_zero→Xbi,perm_nil→Xbl
open Bool renaming decide_eq_true→Xd,not_eq_true→Xh,false_eq_true→Xw,not_eq_true'→Wn,and_self→Ww,or_eq_false_iff→XaR,false_or→XaT
open Nat renaming reduceLeDiff→Xf,reduceEqDiff→Xg,reduceAdd→Xk,reduceSub→Xl,reduceBEq→Xm,reduceMul→Xn,reduceLT→Xp,le_of_ble_eq_true→XT,le_succ_of_le→Xae,not_lt_zero→Xbj,one_mul→Xbo
open Int renaming reduceBEq→Wj
open List.Perm renaming refl→Xa5
namespace Go.Proofs.Ytcgndmenpdhjcaa
set_option maxHeartbeats 16000000
set_option maxRecDepth 10000
section
theorem Zly (l:List Int) (n:Nat):∀ p ∈ Zb l,ZgD n p.2=true:=by
 unfold Zb
 intro p hp
 obtain ⟨x,_,rfl⟩:=XJ.1 hp
 rfl
theorem Zyw (l:List Int) (k:Int) (tm:Tms) (σ:Za) (h:gcT 2 (keepL [8,3] tm) σ=([(8,.map 1),(3,.lst true [])],[.var [.map 1],.map (Zb l)])) :
  Zdk FC PR BY 2 [8,3] 8 12 1 Zb2 c2A (Zb l) (.int .i64 k,.agg []) tm σ=some ([(8,.map 1),(3,.sl 2 0 0 1)],[.var [.map 1],.map (Zb l),.row 0 1 [.int .i64 k]]):=by
 have hk:=eq_true (Zly l 2)
 unfold Zdk
 rw [h]
 generalize Zb l=M at *
 simp -implicitDefEqProofs only [EQA,ZG,ZH,ZL,ZE,ZO,ZI,ZD,ZM,ZP,ZF,ZQ,ZJ,ZA,ZB,ZK,implies_true,forall_const,Xk,Xl,Xp,Xf,Xg,Xm,Xn,Zu,Zv,unA,Zo,Zr,unG,reduceCtorEq,Zi,decide_eq_true_eq,Xh,Xd,ite_self,↓reduceIte,Zq,Zt,gcT,gcA,Zl,Zf,Zd,Ze,Zm,Zc,Zk,Zg,Zn,Xj,Zc5,ZcC,Zda,ZN,Zw,ZC,Zz,Zy,Zx,hk,Zdy,Zb2,c2A,ZaM,kOk,viewAs,ZbI,Zbj,ZbH,ZT,WE,Xbo,Zbw,ZdW]
theorem ZxK (l:List Int) (k:Int) (tm:Tms) (σ:Za) (n:Nat) (xs:List AVal) (hx:xs.length=n) (hb:(n+1)*8<=140737488355328) (h:gcT 2 (keepL [8,3] tm) σ=([(8,.map 1),(3,.sl 2 0 0 n)],[.var [.map 1],.map (Zb l),.row 0 1 xs])) :
  Zdk FC PR BY 2 [8,3] 8 12 1 Zb2 c2A (Zb l) (.int .i64 k,.agg []) tm σ=some ([(8,.map 1),(3,.sl 2 1 0 (n+1))],[.var [.map 1],.map (Zb l),.row 1 1 (xs++[.int .i64 k]),.free]):=by
 have hk:=eq_true (Zly l 3)
 unfold Zdk
 rw [h]
 generalize Zb l=M at *
 simp -implicitDefEqProofs only [EQA,ZG,ZH,ZL,ZE,ZO,ZI,ZD,ZM,ZP,ZF,ZQ,ZJ,ZA,ZB,ZK,implies_true,forall_const,Xk,Xl,Xp,Xf,Xg,Xm,Xn,Zu,Zv,unA,Zo,Zr,unG,reduceCtorEq,Zi,decide_eq_true_eq,Xh,Xd,ite_self,↓reduceIte,Zq,Zt,gcT,gcA,Zl,Zf,Zd,Ze,Zm,Zc,Zk,Zg,Zn,Xj,Zc5,ZcC,Zda,ZN,Zw,ZC,Zz,Zy,Zx,hk,hx,hb,Zdy,Zb2,c2A,ZaM,kOk,viewAs,ZbI,Zbj,ZbH,ZT,WE,Xbo,Zbw,ZdW]
theorem ZyA (l:List Int) (g n:Nat) (xs:List AVal):gcT 2 (keepL [8,3] [(8,.map 1),(3,.sl 2 g 0 n)]) [.var [.map 1],.map (Zb l),.row g 1 xs,.free]=([(8,.map 1),(3,.sl 2 0 0 n)],[.var [.map 1],.map (Zb l),.row 0 1 xs]):=by
 have hr:=Zaq l
 have hn:=fun ρ=>Zag ρ l
 generalize Zb l=M at *
 simp -implicitDefEqProofs only [EQA,ZG,ZH,ZL,ZE,ZO,ZI,ZD,ZM,ZP,ZF,ZQ,ZJ,ZA,ZB,ZK,implies_true,forall_const,Xk,Xl,Xp,Xf,Xg,Xm,Xn,Zu,Zv,unA,Zo,Zr,unG,reduceCtorEq,Zi,decide_eq_true_eq,Xh,Xd,ite_self,↓reduceIte,Zq,Zt,gcT,gcA,Zl,Zf,Zd,Ze,Zm,Zc,Zk,Zg,Zn,Xj,Zc5,ZcC,Zda,ZN,Zw,ZC,Zz,Zy,Zx,hr,hn]
theorem ZpH (l:List Int) (n:Nat) (xs:List AVal):gcT 2 (keepL [8,3] [(8,.map 1),(3,.sl 2 0 0 n)]) [.var [.map 1],.map (Zb l),.row 0 1 xs]=([(8,.map 1),(3,.sl 2 0 0 n)],[.var [.map 1],.map (Zb l),.row 0 1 xs]):=by
 have hr:=Zaq l
 have hn:=fun ρ=>Zag ρ l
 generalize Zb l=M at *
 simp -implicitDefEqProofs only [EQA,ZG,ZH,ZL,ZE,ZO,ZI,ZD,ZM,ZP,ZF,ZQ,ZJ,ZA,ZB,ZK,implies_true,forall_const,Xk,Xl,Xp,Xf,Xg,Xm,Xn,Zu,Zv,unA,Zo,Zr,unG,reduceCtorEq,Zi,decide_eq_true_eq,Xh,Xd,ite_self,↓reduceIte,Zq,Zt,gcT,gcA,Zl,Zf,Zd,Ze,Zm,Zc,Zk,Zg,Zn,Xj,Zc5,ZcC,Zda,ZN,Zw,ZC,Zz,Zy,Zx,hr,hn]
theorem Zl0 (l:List Int) (hl:l.length*8<=140737488355328):∀ (r d:List Int) (tm:Tms) (σ:Za),d≠[]->d.length+r.length<=l.length->gcT 2 (keepL [8,3] tm) σ=([(8,.map 1),(3,.sl 2 0 0 d.length)],[.var [.map 1],.map (Zb l),.row 0 1 (d.map (AVal.int .i64))]) ->
  ∃ tm' σ',ZbX FC PR BY 2 [8,3] 8 12 1 Zb2 c2A (Zb l) (Zb r) tm σ=some (tm',σ')/\gcT 2 (keepL [8,3] tm') σ'=([(8,.map 1),(3,.sl 2 0 0 (d++r).length)],[.var [.map 1],.map (Zb l),.row 0 1 ((d++r).map (AVal.int .i64))])
 | [],d,tm,σ,hd,hb,h=>⟨tm,σ,rfl,by rw [XL];exact h⟩
 | k::r,d,tm,σ,hd,hb,h=>by
  have hb1:(d.length+1)*8<=140737488355328:=by simp only [Ws] at hb;omega
  have e:=ZxK l k tm σ d.length (d.map (AVal.int .i64)) (by simp) hb1 h
  show ∃ tm' σ',(match Zdk FC PR BY 2 [8,3] 8 12 1 Zb2 c2A (Zb l) (.int .i64 k,.agg []) tm σ with
   | some (tm',σ')=>ZbX FC PR BY 2 [8,3] 8 12 1 Zb2 c2A (Zb l) (Zb r) tm' σ'
   | none=>none)=some (tm',σ')/\_
  rw [e]
  have ih:=Zl0 l hl r (d++[k]) [(8,.map 1),(3,.sl 2 1 0 (d.length+1))] [.var [.map 1],.map (Zb l),.row 1 1 (d.map (AVal.int .i64)++[.int .i64 k]),.free] (by simp) (by simp only [List.length_append,Ws,Wf] at hb ⊢;omega)
   (by rw [ZyA];simp)
  rw [List.append_assoc,Wh] at ih
  exact ih
def Zbb (l:List Int):List Int:=l.mergeSort fun x y=>decide (x<=y)
theorem ZlM:∀ d:List Int,Zb5 ZdV (d.map (AVal.int .i64))=some d
 | []=>rfl
 | x::d=>by
  show (Zb5 ZdV (d.map (AVal.int .i64))).map (x::·)=_
  rw [ZlM d];rfl
theorem ZrD (d:List Int) (h:d.length < 4611686018427387904):E 22 [.sl 0 0 0 d.length] [.row 0 1 (d.map (AVal.int .i64))]=some (.tup [],[.row 0 1 ((Zbb d).map (AVal.int .i64))]):=by
 refine ZcG.2 ⟨1,?_⟩
 show Zhc [.sl 0 0 0 d.length] [.row 0 1 (d.map (AVal.int .i64))]=_
 simp only [Zhc,Zg8,ZlM,Xz,h,and_self,if_true]
 rfl
theorem ZuR (d:List Int) (h:d.length < 4611686018427387904) {σ:Za} {t sq:Nat} (hs:σ[t]?=some (.row 0 1 (d.map (AVal.int .i64)))):ZR E BY σ sq 22 0 true [.sl t 0 0 d.length]=some (.tup [],σ.set t (.row 0 1 ((Zbb d).map (AVal.int .i64))),{ any:=true }):=by
 refine ZoJ (args':=[.sl 0 0 0 d.length]) hs (by kernel_rfl) rfl rfl (fun ρ h=>by simp only [ZX,Zp,h]) (fun ρ=>rfl) (Or.inl rfl) ?_
 rw [ZrD d h]
 rfl
theorem Zsq (σ:Za) (sq:Nat):ZR E BY σ sq 22 0 true [.lst true []]=some (.tup [],σ,{}):=by
 have h:E 22 [.lst true []] []=some (.tup [],[]):=ZcG.2 ⟨1,rfl⟩
 unfold ZR ZbZ
 rw [show BY 22=true by kernel_rfl]
 simp only [if_true,show Z3 [AVal.lst true []]=[] from rfl,show ZT σ []=σ from rfl]
 rw [show Zf σ 1000 [] []=[] from rfl]
 unfold Zby
 rw [if_pos (by rfl),show ZX (Zd σ 0 []) [AVal.lst true []]=[.lst true []] from rfl,show Ze σ 0 [] (Zd σ 0 []) [] 0=[] from rfl,h]
 rfl
theorem ZqO (l d:List Int) (tm:Tms) (σ:Za) (hd:d.length < 4611686018427387904) (h:gcT 2 (keepL [8,3] tm) σ=([(8,.map 1),(3,.sl 2 0 0 d.length)],[.var [.map 1],.map (Zb l),.row 0 1 (d.map (AVal.int .i64))])) :
  Zdu FC PR BY 2 [8,3] c3A [.tmp 2] tm σ=some (.sl 2 0 0 d.length,[.var [.map 1],.map (Zb l),.row 0 1 ((Zbb d).map (AVal.int .i64))]):=by
 have hr:=Zaq l
 have hn:=fun ρ=>Zag ρ l
 have hs:=fun {σ:Za} {sq:Nat} hs=>ZuR d hd (σ:=σ) (t:=2) (sq:=sq) hs
 unfold Zdu
 rw [h]
 generalize Zb l=M at *
 generalize (Zbb d).map (AVal.int .i64)=S at *
 generalize d.map (AVal.int .i64)=D at *
 simp -implicitDefEqProofs only [EQA,ZG,ZH,ZL,ZE,ZO,ZI,ZD,ZM,ZP,ZF,ZQ,ZJ,ZA,ZB,ZK,implies_true,forall_const,Xk,Xl,Xp,Xf,Xg,Xm,Xn,Zu,Zv,unA,Zo,Zr,unG,reduceCtorEq,Zi,decide_eq_true_eq,Xh,Xd,ite_self,↓reduceIte,Zq,Zt,gcT,gcA,Zl,Zf,Zd,Ze,Zm,Zc,Zk,Zg,Zn,Xj,Zc5,ZcC,Zda,ZN,Zw,ZC,Zz,Zy,Zx,hs,hr,hn,c3A]
 simp only [Za8,gcA,Zl,Z3,ZaG,Xj,Xbi,XW,XL,XI,WQ,XX,XP,XY,Zn,hr]
 rw [show Zf [.var [.map 1],.map M,.row 0 1 S] 1000 [2,1] [0,1]=[0,1,2] from rfl]
 have e0:Zd [.var [.map 1],.map M,.row 0 1 S] 2 [0,1,2] 1 0=some (1,0):=rfl
 have e1:Zd [.var [.map 1],.map M,.row 0 1 S] 2 [0,1,2] 2 0=some (2,0):=rfl
 simp only [Ze,ZX,Zp,Zg,e0,e1,hn,XP,XY,Zk,Zc,Nat.lt_irrefl,false_and,if_false]
theorem ZtO (l:List Int) (tm:Tms) (σ:Za) (h:gcT 2 (keepL [8,3] tm) σ=([(8,.map 1),(3,.lst true [])],[.var [.map 1],.map (Zb l)])) :
  Zdu FC PR BY 2 [8,3] c3A [.tmp 2] tm σ=some (.lst true [],[.var [.map 1],.map (Zb l)]):=by
 have hr:=Zaq l
 have hn:=fun ρ=>Zag ρ l
 have hs:=Zsq
 unfold Zdu
 rw [h]
 generalize Zb l=M at *
 simp -implicitDefEqProofs only [EQA,ZG,ZH,ZL,ZE,ZO,ZI,ZD,ZM,ZP,ZF,ZQ,ZJ,ZA,ZB,ZK,implies_true,forall_const,Xk,Xl,Xp,Xf,Xg,Xm,Xn,Zu,Zv,unA,Zo,Zr,unG,reduceCtorEq,Zi,decide_eq_true_eq,Xh,Xd,ite_self,↓reduceIte,Zq,Zt,gcT,gcA,Zl,Zf,Zd,Ze,Zm,Zc,Zk,Zg,Zn,Xj,Zc5,ZcC,Zda,ZN,Zw,ZC,Zz,Zy,Zx,hs,hr,hn,c3A]
 simp only [Za8,gcA,Zl,Z3,ZaG,Xj,Xbi,XW,XL,XI,WQ,XX,XP,XY,Zn,hr]
 rw [show Zf [.var [.map 1],.map M] 1000 [1] [0,1]=[0,1] from rfl]
 have e0:Zd [.var [.map 1],.map M] 2 [0,1] 1 0=some (1,0):=rfl
 simp only [Ze,ZX,Zp,Zg,e0,hn,XP,XY]
theorem ZrG {α:Type} {p:α->Prop} (h:∃ x,p x) {a:α} (hu:∀ x,p x->x=a):h.choose=a:=hu _ h.choose_spec
theorem Zqs {es:List (AVal×AVal)} {tm:Tms} {σ:Za} {out:AVal×Za} {m ms en b1:Nat} {live:List Nat} {aslE:List AOp} {c2 c3:Zs} {rs:List Zb0} (h:∀ es':List (AVal×AVal),es'.Perm es->Zdt FC PR BY m live ms en b1 aslE c2 c3 rs es es' tm σ=some out):ZfG FC PR BY m live ms en b1 aslE c2 c3 rs es tm σ=some out:=by
 have h':∃ out,∀ es':List (AVal×AVal),es'.Perm es->Zdt FC PR BY m live ms en b1 aslE c2 c3 rs es es' tm σ=some out:=⟨out,h⟩
 unfold ZfG
 rw [dif_pos h']
 refine congrArg some (ZrG h' fun x hx=>?_)
 have:=(hx es (Xa5 _)).symm.trans (h es (Xa5 _))
 injection this
theorem Zug {l:List Int} {es:List (AVal×AVal)} (h:es.Perm (Zb l)):∃ d:List Int,d.Perm l/\es=Zb d:=by
 refine ⟨es.map fun p=>match p.1 with | .int _ n=>n | _=>0,?_,?_⟩
 ·have:=h.map fun p:AVal×AVal=>match p.1 with | .int _ n=>n | _=>0
  refine this.trans ?_
  rw [Zb,WC]
  rw [show l.map ((fun p:AVal×AVal=>match p.1 with | .int _ n=>n | _=>(0:Int)) ∘ fun k=>(AVal.int .i64 k,AVal.agg []))=l from by rw [show ((fun p:AVal×AVal=>match p.1 with | .int _ n=>n | _=>(0:Int)) ∘ fun k=>(AVal.int .i64 k,AVal.agg []))=id from rfl,List.map_id]]
 ·unfold Zb
  rw [WC]
  conv=>lhs;rw [<-List.map_id es]
  apply List.map_congr_left
  intro p hp
  have hp:=h.mem_iff.1 hp
  obtain ⟨x,_,rfl⟩:=XJ.1 hp
  rfl
theorem Zqn {d l:List Int} (h:d.Perm l):Zbb d=Zbb l:=by
 unfold Zbb
 have ht:∀ a b c:Int,decide (a<=b)=true->decide (b<=c)=true->decide (a<=c)=true:=by intro a b c;simp only [decide_eq_true_eq];omega
 have hto:∀ a b:Int,(decide (a<=b) || decide (b<=a))=true:=by intro a b;simp only [Bool.or_eq_true,decide_eq_true_eq];omega
 have h1:=XaE ht hto d
 have h2:=XaE ht hto l
 have hp:(d.mergeSort fun x y=>decide (x<=y)).Perm (l.mergeSort fun x y=>decide (x<=y)):=((Xaw d _).trans h).trans (Xaw l _).symm
 exact hp.eq_of_pairwise (fun a b _ _ h1 h2=>by simp only [decide_eq_true_eq] at h1 h2;omega) h1 h2
theorem Zqa (l:List Int) {tm:Tms} (h8:tget tm 8=.map 1) (h3:tget tm 3=.lst true []):gcT 2 (keepL [8,3] tm) [.var [.map 1],.map (Zb l)]=([(8,.map 1),(3,.lst true [])],[.var [.map 1],.map (Zb l)]):=by
 have hr:=Zaq l
 have hn:=fun ρ=>Zag ρ l
 generalize Zb l=M at *
 simp -implicitDefEqProofs only [EQA,ZG,ZH,ZL,ZE,ZO,ZI,ZD,ZM,ZP,ZF,ZQ,ZJ,ZA,ZB,ZK,implies_true,forall_const,Xk,Xl,Xp,Xf,Xg,Xm,Xn,Zu,Zv,unA,Zo,Zr,unG,reduceCtorEq,Zi,decide_eq_true_eq,Xh,Xd,ite_self,↓reduceIte,Zq,Zt,gcT,gcA,Zl,Zf,Zd,Ze,Zm,Zc,Zk,Zg,Zn,Xj,Zc5,ZcC,Zda,ZN,Zw,ZC,Zz,Zy,Zx,hr,hn,h8,h3]
theorem Zsh (l:List Int) (hl:l.length*8<=140737488355328) (tm:Tms) (h8:tget tm 8=.map 1) (h3:tget tm 3=.lst true []):∀ es',es'.Perm (Zb l) ->
  Zdt FC PR BY 2 [8,3] 8 12 1 Zb2 c2A c3A [.tmp 2] (Zb l) es' tm (ZW l)=some (if l=[] then (.lst true [],ZW l) else (.sl 2 0 0 l.length,[.var [.map 1],.map (Zb l),.row 0 1 ((Zbb l).map (AVal.int .i64))])):=by
 intro es' hp
 obtain ⟨d,hd,rfl⟩:=Zug hp
 have hg:=Zqa l h8 h3
 unfold ZW at hg ⊢
 have hlen:=hd.length_eq
 cases d with
 | nil =>
  have e:l=[]:=List.nil_perm.1 hd
  rw [if_pos e]
  show (match ZbX FC PR BY 2 [8,3] 8 12 1 Zb2 c2A (Zb l) [] tm [.var [.map 1],.map (Zb l)] with
   | some (tm',σ')=>Zdu FC PR BY 2 [8,3] c3A [.tmp 2] tm' σ'
   | none=>none)=_
  exact ZtO l tm _ hg
 | cons k r =>
  have hne:¬l=[]:=by rintro rfl;cases hlen
  rw [if_neg hne]
  have e:=Zyw l k tm _ hg
  obtain ⟨tm',σ',f1,f2⟩:=Zl0 l hl r [k] _ _ (by simp) (by simp only [Ws,Wf] at hlen ⊢;omega) (ZpH l 1 [.int .i64 k])
  have e2:ZbX FC PR BY 2 [8,3] 8 12 1 Zb2 c2A (Zb l) (Zb (k::r)) tm [.var [.map 1],.map (Zb l)]=some (tm',σ'):=by
   show (match Zdk FC PR BY 2 [8,3] 8 12 1 Zb2 c2A (Zb l) (.int .i64 k,.agg []) tm [.var [.map 1],.map (Zb l)] with
    | some (tm',σ')=>ZbX FC PR BY 2 [8,3] 8 12 1 Zb2 c2A (Zb l) (Zb r) tm' σ'
    | none=>none)=_
   rw [e]
   exact f1
  unfold Zdt
  rw [e2]
  have hlt:(k::r).length < 4611686018427387904:=by omega
  have e3:=ZqO l (k::r) tm' σ' hlt f2
  rw [Zqn hd,hlen] at e3
  exact e3
theorem ZgC (l:List Int) (hl:l.length*8<=140737488355328):E2 17 [.ref 0 0] (ZW l)=some (if l=[] then (.lst true [],ZW l) else (.sl 2 0 0 l.length,[.var [.map 1],.map (Zb l),.row 0 1 ((Zbb l).map (AVal.int .i64))])):=by
 rw [Zz7]
 unfold ZgI ZgB
 have e1:evC FC PR BY 2 c1A (enterA 0 [.ref 0 0] []) [.var [.map 1],.map (Zb l)]=some (.normal,[(3,.lst true []),(0,.ref 0 0)],[.var [.map 1],.map (Zb l)]):=by
  have hr:=Zaq l
  have hn:=fun ρ=>Zag ρ l
  generalize Zb l=M at *
  simp -implicitDefEqProofs only [EQA,ZG,ZH,ZL,ZE,ZO,ZI,ZD,ZM,ZP,ZF,ZQ,ZJ,ZA,ZB,ZK,implies_true,forall_const,Xk,Xl,Xp,Xf,Xg,Xm,Xn,Zu,Zv,unA,Zo,Zr,unG,reduceCtorEq,Zi,decide_eq_true_eq,Xh,Xd,ite_self,↓reduceIte,Zq,Zt,gcT,gcA,Zl,Zf,Zd,Ze,Zm,Zc,Zk,Zg,Zn,Xj,Zc5,ZcC,Zda,ZN,Zw,ZC,Zz,Zy,Zx,hr,hn,c1A]
 have e2:∃ tm,Zdy BY Zg3 [(3,.lst true []),(0,.ref 0 0)] [.var [.map 1],.map (Zb l)]=some (tm,[.var [.map 1],.map (Zb l)])/\tget tm 8=.map 1/\tget tm 3=.lst true []:=by
  generalize Zb l=M
  exact ⟨_,rfl,rfl,rfl⟩
 obtain ⟨tm,e2,h8,h3⟩:=e2
 show (match evC FC PR BY 2 c1A (enterA 0 [.ref 0 0] []) [.var [.map 1],.map (Zb l)] with
  | some (.normal,tm1,σ1)=>match Zdy BY Zg3 tm1 σ1 with
   | some (tm2,σ2)=>match tget tm2 8 with
    | .map t=>match σ2[t]? with
     | some (.map es)=>ZfG FC PR BY 2 [8,3] 8 12 1 Zb2 c2A c3A [.tmp 2] es tm2 σ2
     | _=>none
    | _=>none
   | none=>none
  | _=>none)=_
 rw [e1]
 simp only [e2,h8]
 exact Zqs (Zsh l hl tm h8 h3)
end
section
def Ris (X:List Int):Prop:=X.Pairwise (· < ·)
def Inv (L X:List Int):Prop:=X.Perm L/\Ris X/\∀ x ∈ X,1<=x/\x<=65535
theorem Inv.contains {L X:List Int} (h:Inv L X) (m:Int):L.contains m=X.contains m:=by
 rw [Bool.eq_iff_iff,WG,WG]
 exact h.1.mem_iff.symm
theorem ZgM (m:Int):∀ {X:List Int},Ris X->hin m X=X.contains m
 | [],_=>rfl
 | x::r,h=>by
  have h1:=Wg.1 h
  have ih:=ZgM m h1.2
  rw [WK]
  unfold hin at ih ⊢
  by_cases hx:x < m
  ·rw [show pos m (x::r)=pos m r+1 by rw [pos,if_pos hx],List.getElem?_cons_succ,ih]
   have : (m == x)=false:=by simp;omega
   rw [this,XaT]
  ·rw [show pos m (x::r)=0 by rw [pos,if_neg hx],List.getElem?_cons_zero]
   by_cases he:m=x
   ·subst he;simp
   ·have h2:(m == x)=false:=by simpa using he
    have h3:r.contains m=false:=by
     rw [Bool.eq_false_iff]
     intro hc
     rw [WG] at hc
     have:=h1.1 m hc;omega
    rw [h2,h3]
    simp;exact fun e=>he e.symm
theorem ZjV (m:Int) (X:List Int):(ZaF m X).Perm (X++[m]):=by
 unfold ZaF
 refine List.perm_middle.trans ?_
 rw [List.take_append_drop]
 exact (List.perm_append_singleton m X).symm
theorem Zm4 (m:Int):∀ X:List Int,∀ x ∈ X.take (pos m X),x < m
 | [],x,h=>by simp at h
 | y::r,x,h=>by
  unfold pos at h
  split at h
  ·rw [Xau] at h
   rcases XC.1 h with rfl | h
   ·assumption
   ·exact Zm4 m r x h
  ·simp at h
theorem Zjb (m:Int):∀ {X:List Int},Ris X->∀ x ∈ X.drop (pos m X),m<=x
 | [],_,x,h=>by simp at h
 | y::r,hr,x,h=>by
  have h1:=Wg.1 hr
  unfold pos at h
  split at h
  ·rw [Xat] at h
   exact Zjb m h1.2 x h
  ·rw [Xar] at h
   rcases XC.1 h with rfl | h
   ·omega
   ·have:=h1.1 x h;omega
theorem ZwN {m:Int} {X:List Int} (h:Ris X) (hn:X.contains m=false):Ris (ZaF m X):=by
 unfold ZaF Ris
 have hm:m ∉ X:=by intro hc;rw [<-WG,hn] at hc;cases hc
 rw [List.pairwise_append,Wg]
 refine ⟨h.sublist (List.take_sublist _ _),⟨fun x hx=>?_,h.sublist (List.drop_sublist _ _)⟩,fun x hx y hy=>?_⟩
 ·have h1:=Zjb m h x hx
  have h2:x≠m:=fun e=>hm (e ▸ List.mem_of_mem_drop hx)
  omega
 ·have h1:=Zm4 m X x hx
  rcases XC.1 hy with rfl | hy
  ·exact h1
  ·have:=Zjb m h y hy;omega
theorem ZfP {L X:List Int} (h:Inv L X) (m:Int):(Zaz L m).1=hOk m X:=by
 have h1:=h.contains m
 rw [<-ZgM m h.2.1] at h1
 unfold Zaz hOk Zch
 rw [h1]
 by_cases a:m < 1 <;> by_cases b:m > 65535 <;> cases hin m X <;> simp [a,b]
theorem Zfg {L X:List Int} (h:Inv L X) (m:Int) (ho:hOk m X=true):Inv (Zaz L m).2 (ZaF m X)/\(Zaz L m).2=L++[m]:=by
 unfold hOk at ho
 simp only [Wn,XaR,decide_eq_false_iff_not] at ho
 have hb:1<=m/\m<=65535:=by have:=ho.1;unfold Zch at this;omega
 have hc:X.contains m=false:=by rw [<-ZgM m h.2.1];exact ho.2
 have hcL:L.contains m=false:=(h.contains m).trans hc
 have e:(Zaz L m).2=L++[m]:=by
  unfold Zaz
  rw [if_neg (by rintro (h | h | h);omega;omega;rw [hcL] at h;cases h)]
 refine ⟨⟨?_,ZwN h.2.1 hc,fun x hx=>?_⟩,e⟩
 ·rw [e];exact (ZjV m X).trans (h.1.append_right [m])
 ·rcases List.mem_append.1 ((ZjV m X).mem_iff.1 hx) with hx | hx
  ·exact h.2.2 x hx
  ·rw [List.mem_singleton] at hx;subst hx;exact hb
theorem ZiK {L X:List Int} (h:Inv L X) (m:Int) (ho:hOk m X=false):(Zaz L m).2=L:=by
 have h1:=ZfP h m
 rw [ho] at h1
 unfold Zaz at h1 ⊢
 split
 ·rfl
 ·rename_i hc;rw [if_neg hc] at h1;cases h1
theorem ZiR (m:Int):∀ X:List Int,X.contains m=true->Zbk X (X.idxOf m)=X.erase m
 | [],h=>by simp at h
 | x::r,h=>by
  unfold Zbk
  rw [List.idxOf_cons,List.erase_cons]
  by_cases hx:x=m
  ·subst hx;simp
  ·have h1:(x == m)=false:=by simpa using hx
   have h2:(m == x)=false:=by simpa using fun e=>hx e.symm
   rw [WK,h2,XaT] at h
   have ih:=ZiR m r h
   unfold Zbk at ih
   rw [h1]
   simp only [cond_false,Xw,if_false,Xau,Xat,XX,ih]
theorem ZjM {L X:List Int} (h:Inv L X) (m:Int) (hc:X.contains m=true):Inv (L.erase m) (Zbk X (X.idxOf m)):=by
 rw [ZiR m X hc]
 exact ⟨h.1.erase m,h.2.1.sublist List.erase_sublist,fun x hx=>h.2.2 x (List.mem_of_mem_erase hx)⟩
theorem Zkp {L X:List Int} (h:Inv L X) (m:Int) (hc:X.contains m=false):L.erase m=L:=by
 have : L.contains m=false:=(h.contains m).trans hc
 exact List.erase_of_not_mem (by simpa using this)
theorem ZlF (X:List Int) (m:Int) (hc:X.contains m=true):(Zbk X (X.idxOf m)).length=X.length - 1:=by
 rw [ZiR m X hc,List.length_erase_of_mem (WG.1 hc)]
theorem ZfU (m:Int) (X:List Int):(ZaF m X).length=X.length+1:=by
 rw [(ZjV m X).length_eq];simp
theorem Zl1:∀ (k:Int) {X:List Int},Ris X->(∀ x ∈ X,k<=x)->(∀ j:Int,k<=j->j < k+(ZaV k X:Nat)->j ∈ X)/\(k+(ZaV k X:Nat)) ∉ X
 | k,[],_,_=>⟨fun j h1 h2=>by simp [ZaV] at h2;omega,by simp⟩
 | k,x::r,h,hk=>by
  have h1:=Wg.1 h
  have hkx:=hk x (by simp)
  by_cases he:x=k
  ·subst he
   obtain ⟨a,b⟩:=Zl1 (x+1) h1.2 (fun y hy=>by have:=h1.1 y hy;omega)
   rw [show ZaV x (x::r)=ZaV (x+1) r+1 by rw [ZaV,if_pos rfl]]
   refine ⟨fun j g1 g2=>?_,fun hm=>?_⟩
   ·by_cases hj:j=x
    ·subst hj;simp
    ·exact List.mem_cons_of_mem _ (a j (by omega) (by omega))
   ·rcases XC.1 hm with e | hm
    ·omega
    ·exact b (by rw [show x+1+((ZaV (x+1) r:Nat):Int)=x+((ZaV (x+1) r+1:Nat):Int) by omega];exact hm)
  ·rw [show ZaV k (x::r)=0 by rw [ZaV,if_neg he]]
   refine ⟨fun j g1 g2=>by omega,fun hm=>?_⟩
   rcases XC.1 hm with e | hm
   ·omega
   ·have:=h1.1 _ hm;omega
theorem ZlX {L:List Int} {g:Int} (hg:L.contains g=false):∀ (n:Nat) (k:Int),k<=g->g < k+n->(∀ j:Int,k<=j->j < g->L.contains j=true)->ZcM L n k=((g,true),L++[g])
 | 0,k,h1,h2,_=>by omega
 | n+1,k,h1,h2,h3=>by
  unfold ZcM
  by_cases he:k=g
  ·subst he;rw [if_neg (by rw [hg];simp)]
  ·rw [if_pos (h3 k (by omega) (by omega))]
   exact ZlX hg n (k+1) (by omega) (by omega) (fun j a b=>h3 j (by omega) b)
theorem ZhN {L X:List Int} (h:Inv L X) (hl:X.length<=60000):ZcU L=((tk X,true),L++[tk X])/\hin (tk X) X=false/\Inv (L++[tk X]) (ZaF (tk X) X):=by
 obtain ⟨a,b⟩:=Zl1 1 h.2.1 (fun x hx=>(h.2.2 x hx).1)
 have hr:=ZjK 1 X
 have hc:X.contains (tk X)=false:=by
  rw [Bool.eq_false_iff];intro hc;exact b (WG.1 hc)
 have hcL:L.contains (tk X)=false:=(h.contains _).trans hc
 have hin0:hin (tk X) X=false:=by rw [ZgM _ h.2.1];exact hc
 refine ⟨ZlX hcL 65535 1 (by unfold tk;omega) (by unfold tk;omega) (fun j g1 g2=>?_),hin0,?_⟩
 ·rw [h.contains,WG];exact a j g1 (by unfold tk at g2;omega)
 ·have ho:hOk (tk X) X=true:=by
   unfold hOk
   rw [hin0]
   simp only [Bool.or_false,Wn,decide_eq_false_iff_not]
   unfold Zch tk;omega
  obtain ⟨q1,q2⟩:=Zfg h (tk X) ho
  rw [q2] at q1;exact q1
theorem Ztm {L X:List Int} (h:Inv L X):Zbb L=X:=by
 have h1:(Zbb L).Perm X:=(Xaw L _).trans h.1.symm
 refine h1.eq_of_pairwise (le:=fun a b=>a<=b) (fun a b _ _ h1 h2=>by omega) ?_ (h.2.1.imp (fun h=>Int.le_of_lt h))
 have:=XaE (le:=fun x y:Int=>decide (x<=y)) (fun a b c h1 h2=>by simp at h1 h2 ⊢;omega) (fun a b=>by simp;omega) L
 exact this.imp (fun h=>by simpa using h)
theorem ZbM {L X:List Int} (h:Inv L X):L.length=X.length:=h.1.length_eq.symm
theorem ZAu:Inv [] []:=⟨Xa5 _,List.Pairwise.nil,fun x hx=>by simp at hx⟩
end
section
theorem Zjq {O:ZV} {f own n:Nat} {view:Bool} {args S:List AVal} {q:AVal} (hq:Zas q=true) (hv:ZaX view 2 (some (q,[.var [.sl 1 0 0 n],.row 0 1 S]))=some (q,[.var [.sl 1 0 0 n],.row 0 1 S])) (h:O f (.ref 0 0::args) [.var [.sl 1 0 0 n],.row 0 1 S]=some (q,[.var [.sl 1 0 0 n],.row 0 1 S])) (hb:BY f=false) (hp:args.all ZaC=true) (hn:args.map Z9=args)
  {σ:Za} {t m sq:Nat} (htm:t≠m) (hs:σ[t]?=some (.var [.sl m 0 0 n])) (hm:σ[m]?=some (.row 0 1 S)) (hff:Z8 σ sq own=true) :
  ZR O BY σ sq f own view (.ref t 0::args)=some (q,(σ.set t (.var [.sl m 0 0 n])).set m (.row 0 1 S),{ any:=true,upd:=[(t,[.sl m 0 0 n])] }):=by
 have htl:t < σ.length:=(Xc.1 hs).1
 have hml:m < σ.length:=(Xc.1 hm).1
 have h1:σ.getD t .free=.var [.sl m 0 0 n]:=by simp [Xi,hs]
 have h2:σ.getD m .free=.row 0 1 S:=by simp [Xi,hm]
 have hsh:showAs σ (.ref t 0::args)=some (.ref t 0::args.map Z9,[]):=by
  rw [showAs,show showA σ (.ref t 0)=some (.ref t 0,[]) from rfl,Zf3 hp]
  rfl
 have href:Z3 (.ref t 0::args.map Z9)=[t]:=by
  rw [Z3,Zd6 hp];rfl
 have hre:Zf σ 1000 (Z3 (.ref t 0::args.map Z9)) []=[t,m]:=by
  have e0:([]:List Nat).contains t=false:=rfl
  have e1:([t]:List Nat).contains m=false:=by simp;exact fun e=>htm e.symm
  rw [href,show (1000:Nat)=997+1+1+1 from rfl]
  have hb0:Zn (.var [.sl m 0 0 n])=[m]:=rfl
  have hb1:Zn (.row 0 1 S)=[]:=rfl
  simp only [Zf,e0,h1,hb0,XL,XW,Wh,Xw,if_false,e1,h2,hb1,XX]
 have hρt:Zd σ 0 [t,m] t 0=some (0,0):=by simp [Zd,Zm,hs,Zc,Zk]
 have hρm:Zd σ 0 [t,m] m 0=some (1,0):=by simp [Zd,Zm,hm,Zc,Zk,htm]
 have hvs:ZX (Zd σ 0 [t,m]) (.ref t 0::args.map Z9)=.ref 0 0::args:=by
  rw [ZX,Zeb hp,hn]
  simp only [Zp,hρt]
 have hh:Ze σ 0 [t,m] (Zd σ 0 [t,m]) [t,m] 0=[.var [.sl 1 0 0 n],.row 0 1 S]:=by
  simp only [Ze,h1,h2,Zg,ZX,Zp,hρm,Zk,Xbj,false_and,if_false]
 have hall:([t,m].all fun t=>okB (σ.getD t .free))=true:=by simp only [Wc,WW,h1,h2,okB,Ww]
 have hk:Za3 σ [t,m] [.var [.sl 1 0 0 n],.row 0 1 S] 0=true:=by simp [Za3,okB,ZcT,Zc,hs,hm]
 have hρb:ZaL σ [t,m] sq 1 0=some (m,0):=by simp [ZaL,Zc,hm]
 have hlay:ZaT σ [t,m] sq [.var [.sl 1 0 0 n],.row 0 1 S] 0 σ=(σ.set t (.var [.sl m 0 0 n])).set m (.row 0 1 S):=by
  simp [ZaT,ZaH,Zbn,Zc,Zg,ZX,Zp,hρb,hs,hm,Xi]
 refine ZdP hb hsh hre rfl hall hvs hh h hv (by simp) (by simp) hk hff (Zco _ q hq).1 hlay ?_
 have h3:((σ.set t (.var [.sl m 0 0 n])).set m (.row 0 1 S))[t]?=some (.var [.sl m 0 0 n]):=by
  rw [Xq,if_neg (fun e=>htm e.symm),Xq,if_pos rfl,if_pos htl]
 have h4:((σ.set t (.var [.sl m 0 0 n])).set m (.row 0 1 S))[m]?=some (.row 0 1 S):=by
  rw [Xq,if_pos rfl,if_pos (by simpa using hml)]
 simp [Zbx,h3,h4]
theorem ZiE {O:ZV} {f n n':Nat} {view:Bool} {args S S':List AVal} {q:AVal} (hq:Zas q=true) (hv:ZaX view 2 (some (q,[.var [.sl 2 0 0 n'],.row 0 1 S,.row 0 1 S']))=some (q,[.var [.sl 2 0 0 n'],.row 0 1 S,.row 0 1 S'])) (h:O f (.ref 0 0::args) [.var [.sl 1 0 0 n],.row 0 1 S]=some (q,[.var [.sl 2 0 0 n'],.row 0 1 S,.row 0 1 S'])) (hb:BY f=false) (hp:args.all ZaC=true) (hn:args.map Z9=args)
  {σ:Za} {t m sq:Nat} (htm:t≠m) (hs:σ[t]?=some (.var [.sl m 0 0 n])) (hm:σ[m]?=some (.row 0 1 S)) (hff:Z8 σ sq 1=true) :
  ZR O BY σ sq f 1 view (.ref t 0::args)=some (q,((σ.set t (.var [.sl sq 0 0 n'])).set m (.row 0 1 S)).set sq (.row 0 1 S'),{ any:=true,upd:=[(t,[.sl sq 0 0 n'])] }):=by
 have htl:t < σ.length:=(Xc.1 hs).1
 have hml:m < σ.length:=(Xc.1 hm).1
 have hfs:σ[sq]?=some .free:=by
  have:=ZdZ hff (i:=0) (by decide)
  simpa using this
 have hst:sq≠t:=by rintro rfl;rw [hs] at hfs;cases hfs
 have hsm:sq≠m:=by rintro rfl;rw [hm] at hfs;cases hfs
 have h1:σ.getD t .free=.var [.sl m 0 0 n]:=by simp [Xi,hs]
 have h2:σ.getD m .free=.row 0 1 S:=by simp [Xi,hm]
 have hsh:showAs σ (.ref t 0::args)=some (.ref t 0::args.map Z9,[]):=by
  rw [showAs,show showA σ (.ref t 0)=some (.ref t 0,[]) from rfl,Zf3 hp]
  rfl
 have href:Z3 (.ref t 0::args.map Z9)=[t]:=by
  rw [Z3,Zd6 hp];rfl
 have hre:Zf σ 1000 (Z3 (.ref t 0::args.map Z9)) []=[t,m]:=by
  have e0:([]:List Nat).contains t=false:=rfl
  have e1:([t]:List Nat).contains m=false:=by simp;exact fun e=>htm e.symm
  rw [href,show (1000:Nat)=997+1+1+1 from rfl]
  have hb0:Zn (.var [.sl m 0 0 n])=[m]:=rfl
  have hb1:Zn (.row 0 1 S)=[]:=rfl
  simp only [Zf,e0,h1,hb0,XL,XW,Wh,Xw,if_false,e1,h2,hb1,XX]
 have hρt:Zd σ 0 [t,m] t 0=some (0,0):=by simp [Zd,Zm,hs,Zc,Zk]
 have hρm:Zd σ 0 [t,m] m 0=some (1,0):=by simp [Zd,Zm,hm,Zc,Zk,htm]
 have hvs:ZX (Zd σ 0 [t,m]) (.ref t 0::args.map Z9)=.ref 0 0::args:=by
  rw [ZX,Zeb hp,hn]
  simp only [Zp,hρt]
 have hh:Ze σ 0 [t,m] (Zd σ 0 [t,m]) [t,m] 0=[.var [.sl 1 0 0 n],.row 0 1 S]:=by
  simp only [Ze,h1,h2,Zg,ZX,Zp,hρm,Zk,Xbj,false_and,if_false]
 have hall:([t,m].all fun t=>okB (σ.getD t .free))=true:=by simp only [Wc,WW,h1,h2,okB,Ww]
 have hk:Za3 σ [t,m] [.var [.sl 2 0 0 n'],.row 0 1 S,.row 0 1 S'] 0=true:=by simp [Za3,okB,ZcT,Zc,hs,hm]
 have hρb:ZaL σ [t,m] sq 2 0=some (sq,0):=by simp [ZaL]
 have hlay:ZaT σ [t,m] sq [.var [.sl 2 0 0 n'],.row 0 1 S,.row 0 1 S'] 0 σ=((σ.set t (.var [.sl sq 0 0 n'])).set m (.row 0 1 S)).set sq (.row 0 1 S'):=by
  simp [ZaT,ZaH,Zbn,Zc,Zg,ZX,Zp,hρb,hs,hm,Xi]
 refine ZdP hb hsh hre rfl hall hvs hh h hv (by simp) (by simp) hk hff (Zco _ q hq).1 hlay ?_
 have h3:(((σ.set t (.var [.sl sq 0 0 n'])).set m (.row 0 1 S)).set sq (.row 0 1 S'))[t]?=some (.var [.sl sq 0 0 n']):=by
  rw [Xq,if_neg hst,Xq,if_neg (fun e=>htm e.symm),Xq,if_pos rfl,if_pos htl]
 have h4:(((σ.set t (.var [.sl sq 0 0 n'])).set m (.row 0 1 S)).set sq (.row 0 1 S'))[m]?=some (.row 0 1 S):=by
  rw [Xq,if_neg hsm,Xq,if_pos rfl,if_pos (by simpa using hml)]
 simp [Zbx,h3,h4]
end
section
def Zab:Zs:=(.seq (.region [oM 133 8,oI 134 (.call 21 0 false [(.t 133)]),oM 135 134,⟨(some 136),(.mov (.t 5)),(some (135,true)),[]⟩,⟨(some 137),(.call 17 1 false [(.t 136)]),(some (135,true)),[]⟩,⟨(some 138),(.mov (.t 6)),(some (135,true)),[]⟩,⟨(some 139),(.nilchk (.t 138)),(some (135,true)),[]⟩,⟨(some 140),(.faddr 0 (.t 139)),(some (135,true)),[]⟩,⟨(some 141),(.ld none (.t 140)),(some (135,true)),[]⟩,⟨(some 142),(.call 19 0 true [(.t 137),(.t 141)]),(some (135,true)),[]⟩,oI 143 (.pick (.t 135) (.t 142) (.c (.bool false))),oM 4 143] (some [(4,8),(1,1),(9,9)]) [4]) .ret)
def Zgt:Zs:=Zab
def Zaj:=xw Zgt Zab rfl
def Zad:Zs:=(.seq (.seq (.region [oM 45 9,oM 46 1,oI 47 (.len (.t 46)),oI 48 (.bin .lss (.t 45) (.t 47)),oM 49 48,⟨(some 50),(.mov (.t 9)),(some (49,true)),[]⟩,⟨(some 51),(.bin .lss (.t 50) (.c (.int .i64 150))),(some (49,true)),[]⟩,oI 52 (.pick (.t 49) (.t 51) (.c (.bool false)))] none [52,9,8,6,5,1]) (.cond (.t 52) .skip (.exit 2))) (.seq (.block 3 (.seq (.region [oM 55 1,oM 56 9,oI 57 (.iaddr 2 (.t 55) (.t 56)),oF 58 1 57,oL 59 58,oM 10 59] none [10,9,8,6,5,1]) (.seq (.seq (.region [oM 60 1,oM 61 9,oI 62 (.iaddr 2 (.t 60) (.t 61)),oF 63 0 62,oL 64 63,oI 65 (.call 9 0 true [(.t 64),(.c (.int .i64 0)),(.c (.int .i64 4))])] none [65,10,9,8,6,5,1]) (.block 4 (.seq (.region [oI 79 (.bin .eql (.t 65) (.c (.int .i64 0))),oM 78 79] none [78,65,10,9,8,6,5,1]) (.cond (.t 78) (.seq (.region [oM 81 5,oI 82 (.call 10 0 true [(.t 81)]),oM 80 82,oI 83 (.ext (.t 80) 0),oI 84 (.ext (.t 80) 1),oM 11 83,oM 12 84] none [12,11,9,8,6,5,1]) (.seq (.region [oM 86 6,oI 87 (.call 11 1 true [(.t 86)]),oM 85 87,oI 88 (.ext (.t 85) 0),oI 89 (.ext (.t 85) 1),oM 13 88,oM 14 89] none [14,13,12,11,9,8,6,5,1]) (.seq (.region [oM 90 11,oM 91 13,oI 92 (.bin .neq (.t 90) (.t 91)),oM 93 92,⟨(some 94),(.mov (.t 12)),(some (93,false)),[]⟩,⟨(some 95),(.mov (.t 14)),(some (93,false)),[]⟩,⟨(some 96),(.beq true (.t 94) (.t 95)),(some (93,false)),[]⟩,oI 97 (.pick (.t 93) (.c (.bool true)) (.t 96))] none [97,9,8,6,5,1]) (.cond (.t 97) (.seq (.region [oI 4 (.mov (.c (.bool false)))] none [4]) .ret) .skip)))) (.seq (.region [oI 99 (.bin .eql (.t 65) (.c (.int .i64 1))),oM 98 99] none [98,65,10,9,8,6,5,1]) (.cond (.t 98) (.seq (.region [oM 100 5,oM 101 10,oI 102 (.call 12 0 true [(.t 100),(.t 101)]),oM 103 6,oM 104 10,oI 105 (.call 8 1 true [(.t 103),(.t 104)]),oI 106 (.beq true (.t 102) (.t 105))] none [106,9,8,6,5,1]) (.cond (.t 106) (.seq (.region [oI 4 (.mov (.c (.bool false)))] none [4]) .ret) .skip)) (.seq (.region [oI 108 (.bin .eql (.t 65) (.c (.int .i64 2))),oM 107 108] none [107,65,10,9,8,6,5,1]) (.cond (.t 107) (.seq (.region [oM 109 5,oM 110 10,oI 111 (.call 13 0 true [(.t 109),(.t 110)]),oM 112 6,oM 113 10,oI 114 (.call 14 1 true [(.t 112),(.t 113)]),oI 115 (.beq true (.t 111) (.t 114))] none [115,9,8,6,5,1]) (.cond (.t 115) (.seq (.region [oI 4 (.mov (.c (.bool false)))] none [4]) .ret) .skip)) (.seq (.region [oI 117 (.bin .eql (.t 65) (.c (.int .i64 3))),oM 116 117] none [116,10,9,8,6,5,1]) (.cond (.t 116) (.seq (.region [oM 118 5,oM 119 10,oI 120 (.call 15 0 true [(.t 118),(.t 119)]),oM 121 6,oM 122 10,oI 123 (.call 16 0 true [(.t 121),(.t 122)]),oI 124 (.beq true (.t 120) (.t 123))] none [124,9,8,6,5,1]) (.cond (.t 124) (.seq (.region [oI 4 (.mov (.c (.bool false)))] none [4]) .ret) .skip)) (.seq (.region [oM 66 5,oI 67 (.call 17 1 false [(.t 66)]),oM 15 67] none [15,9,8,6,5,1]) (.seq (.region [oM 68 8,oM 69 15,oI 70 (.call 18 0 false [(.t 68),(.t 69)])] none [15,9,8,6,5,1]) (.seq (.region [oM 71 15,oM 72 6,oI 73 (.nilchk (.t 72)),oF 74 0 73,oL 75 74,oI 76 (.call 19 0 true [(.t 71),(.t 75)]),oI 77 (.un .not (.t 76))] none [77,9,8,6,5,1]) (.cond (.t 77) (.seq (.region [oI 4 (.mov (.c (.bool false)))] none [4]) .ret) .skip)))))))))))))) (.seq (.region [oM 125 5,oI 126 (.call 20 0 true [(.t 125)]),oM 127 6,oI 128 (.nilchk (.t 127)),oF 129 0 128,oL 130 129,oI 131 (.len (.t 130)),oI 132 (.bin .neq (.t 126) (.t 131))] (some [(1,5)]) [132,9,8,6,5,1]) (.cond (.t 132) (.seq (.region [oI 4 (.mov (.c (.bool false)))] none [4]) .ret) .skip))))) (.region [oM 53 9,oI 54 (.bin .add (.t 53) (.c (.int .i64 1))),oM 9 54] none [9,8,6,5,1])))
def Zhy:Zs:=Zad
def Zak:=xw Zhy Zad rfl
def Zac:Zs:=(.seq (.region [oI 43 (.build [(.lst true []),(.lst true []),(.lst true []),(.lst true []),(.lst true []),(.lst true [])] []),oI 44 (.mkbook (.t 43)),oM 8 44] none [8,6,5,1]) (.seq (.seq (.region [oI 9 (.mov (.c (.int .i64 0)))] none [9,8,6,5,1]) (.block 2 (.loop [9,8,6,5,1] Zhy))) Zgt))
def ZiV:Zs:=Zac
def Zal:=xw ZiV Zac rfl
def Zaa:Zs:=(.seq (.seq (.region [oM 31 7,oM 32 0,oI 33 (.len (.t 32)),oI 34 (.bin .lss (.t 31) (.t 33))] none [34,7,6,5,1,0]) (.cond (.t 34) .skip (.exit 0))) (.seq (.block 1 (.region [oM 37 6,oM 38 0,oM 39 7,oI 40 (.iaddr 1 (.t 38) (.t 39)),oL 41 40,oI 42 (.call 8 1 true [(.t 37),(.t 41)])] none [7,6,5,1,0])) (.region [oM 35 7,oI 36 (.bin .add (.t 35) (.c (.int .i64 1))),oM 7 36] none [7,6,5,1,0])))
def Zfs:Zs:=Zaa
def Zai:=xw Zfs Zaa rfl
def Zae:Zs:=(.seq (.region [oI 4 (.mov (.c (.bool false)))] none [1,0]) (.seq (.seq (.region [oM 16 0,oI 17 (.len (.t 16)),oI 18 (.bin .gtr (.t 17) (.c (.int .i64 40)))] none [18,1,0]) (.cond (.t 18) (.region [oM 19 0,oI 20 (.slice 1 (.t 19) none (some (.c (.int .i64 40))) none),oM 0 20] none [1,0]) .skip)) (.seq (.region [oM 21 0,oI 22 (.call 6 2 false [(.t 21)]),oM 5 22] none [5,1,0]) (.seq (.seq (.region [oM 23 5,oI 24 (.peq false (.t 23) (.c .nilp)),oM 25 24,⟨(some 26),(.call 7 0 true []),(some (25,false)),[]⟩,⟨(some 27),(.un .not (.t 26)),(some (25,false)),[]⟩,oI 28 (.pick (.t 25) (.c (.bool true)) (.t 27))] none [28,5,1,0]) (.cond (.t 28) (.seq (.region [oI 4 (.mov (.c (.bool false)))] none [4]) .ret) .skip)) (.seq (.region [oI 29 (.build [(.lst true [])] []),oI 30 (.mkrow (.t 29)),oM 6 30] none [6,5,1,0]) (.seq (.seq (.region [oI 7 (.mov (.c (.int .i64 0)))] none [7,6,5,1,0]) (.block 0 (.loop [7,6,5,1,0] Zfs))) ZiV))))))
def Zhz:Zau:=⟨[(.tmp 4)],Zae⟩
theorem Zui:FC 3=some Zhz:=by kernel_rfl
theorem Zah:Zhz.body=Zae:=rfl
theorem Zan:Zhz.res=[(.tmp 4)]:=rfl
def ZjD:Zs:=(.seq (.region [oI 0 (.mov (.c (.bool false)))] none []) (.seq (.region [oI 6 (.bslice false 1 3 (.int .i64 0) [(0,(.c (.int .i64 2))),(1,(.c (.int .i64 2))),(2,(.c (.int .i64 0)))]),oI 7 (.call 6 2 false [(.t 6)]),oM 1 7] none [1]) (.seq (.seq (.region [oM 8 1,oI 9 (.peq false (.t 8) (.c .nilp)),oM 10 9,⟨(some 11),(.mov (.t 1)),(some (10,false)),[]⟩,⟨(some 12),(.call 20 0 true [(.t 11)]),(some (10,false)),[]⟩,⟨(some 13),(.bin .neq (.t 12) (.c (.int .i64 1))),(some (10,false)),[]⟩,oI 14 (.pick (.t 10) (.c (.bool true)) (.t 13))] none [14,1]) (.cond (.t 14) (.seq (.region [oI 0 (.mov (.c (.bool false)))] none [0]) .ret) .skip)) (.seq (.region [oM 16 1,oI 17 (.call 10 0 true [(.t 16)]),oM 15 17,oI 18 (.ext (.t 15) 0),oI 19 (.ext (.t 15) 1),oM 2 18,oM 3 19] none [3,2,1]) (.seq (.region [oM 21 1,oI 22 (.call 10 0 true [(.t 21)]),oM 20 22,oI 23 (.ext (.t 20) 0),oI 24 (.ext (.t 20) 1),oM 4 23,oM 5 24] none [5,4,3,2,1]) (.seq (.region [oM 25 3,oM 26 25,⟨(some 27),(.mov (.t 2)),(some (26,true)),[]⟩,⟨(some 28),(.bin .eql (.t 27) (.c (.int .i64 1))),(some (26,true)),[]⟩,oI 29 (.pick (.t 26) (.t 28) (.c (.bool false))),oM 30 29,⟨(some 31),(.mov (.t 5)),(some (30,true)),[]⟩,oI 32 (.pick (.t 30) (.t 31) (.c (.bool false))),oM 33 32,⟨(some 34),(.mov (.t 4)),(some (33,true)),[]⟩,⟨(some 35),(.bin .eql (.t 34) (.c (.int .i64 3))),(some (33,true)),[]⟩,oI 36 (.pick (.t 33) (.t 35) (.c (.bool false))),oM 37 36,⟨(some 38),(.mov (.t 1)),(some (37,true)),[]⟩,⟨(some 39),(.call 13 0 true [(.t 38),(.c (.int .i64 2))]),(some (37,true)),[]⟩,oI 40 (.pick (.t 37) (.t 39) (.c (.bool false))),oM 41 40,⟨(some 42),(.mov (.t 1)),(some (41,true)),[]⟩,⟨(some 43),(.call 13 0 true [(.t 42),(.c (.int .i64 2))]),(some (41,true)),[]⟩,⟨(some 44),(.un .not (.t 43)),(some (41,true)),[]⟩,oI 45 (.pick (.t 41) (.t 44) (.c (.bool false))),oM 46 45,⟨(some 47),(.mov (.t 1)),(some (46,true)),[]⟩,⟨(some 48),(.call 17 0 true [(.t 47)]),(some (46,true)),[]⟩,⟨(some 49),(.bslice false 1 2 (.int .i64 0) [(0,(.c (.int .i64 1))),(1,(.c (.int .i64 3)))]),(some (46,true)),[]⟩,⟨(some 50),(.call 19 0 true [(.t 48),(.t 49)]),(some (46,true)),[]⟩,oI 51 (.pick (.t 46) (.t 50) (.c (.bool false))),oM 0 51] none [0]) .ret))))))
def ZiY:Zau:=⟨[(.tmp 0)],ZjD⟩
theorem ZAG:FC 7=some ZiY:=by kernel_rfl
theorem ZyU:ZiY.body=ZjD:=rfl
theorem ZrR:ZiY.res=[(.tmp 0)]:=rfl
end
section
def ZdQ:Zs:=(.seq (.region [oI 4 (.mov (.c (.bool true)))] none [4]) .ret)
def Zjf:Zs:=ZdQ
def ZfJ:=xw Zjf ZdQ rfl
def Zeg:Zs:=(.seq (.seq (.region [oM 11 5,oM 12 0,oI 13 (.len (.t 12)),oI 14 (.bin .lss (.t 11) (.t 13))] none [14,5,1,0]) (.cond (.t 14) .skip (.exit 0))) (.seq (.block 1 (.seq (.region [oM 17 0,oM 18 5,oI 19 (.iaddr 1 (.t 17) (.t 18)),oL 20 19,oM 21 1,oM 22 5,oI 23 (.iaddr 1 (.t 21) (.t 22)),oL 24 23,oI 25 (.bin .neq (.t 20) (.t 24))] (some [(2,6),(3,6),(2,7),(3,7)]) [25,5,1,0]) (.cond (.t 25) (.seq (.region [oI 4 (.mov (.c (.bool false)))] none [4]) .ret) .skip))) (.region [oM 15 5,oI 16 (.bin .add (.t 15) (.c (.int .i64 1))),oM 5 16] none [5,1,0])))
def ZiG:Zs:=Zeg
def Zfn:=xw ZiG Zeg rfl
def Zd5:Zs:=(.seq (.region [oI 4 (.mov (.c (.bool false)))] none [1,0]) (.seq (.seq (.region [oM 6 0,oI 7 (.len (.t 6)),oM 8 1,oI 9 (.len (.t 8)),oI 10 (.bin .neq (.t 7) (.t 9))] none [10,1,0]) (.cond (.t 10) (.seq (.region [oI 4 (.mov (.c (.bool false)))] none [4]) .ret) .skip)) (.seq (.seq (.region [oI 5 (.mov (.c (.int .i64 0)))] none [5,1,0]) (.block 0 (.loop [5,1,0] ZiG))) Zjf)))
def Zg6:Zau:=⟨[(.tmp 4)],Zd5⟩
theorem Zw6:FC 19=some Zg6:=by kernel_rfl
theorem Ze5:Zg6.body=Zd5:=rfl
theorem Zf5:Zg6.res=[(.tmp 4)]:=rfl
noncomputable def Zho (m:Nat) (tm:Tms) (σ:Za):Option (AVal×Za):=(ZaS m Zg6 (ZbY FC PR BY m Zjf (Option.map (Zbl 0) (evL FC PR BY m [5,1,0] ZiG tm σ))))
def Zgl:Zs:=(.seq (.region [oI 6 (.mov (.c (.int .i64 0)))] none [2,1,0]) (.seq (.region [oM 8 2,oM 9 1,oI 10 (.bin .sub (.t 8) (.t 9)),oI 11 (.bin .add (.t 10) (.c (.int .i64 1))),oM 7 11] none [7,1,0]) (.seq (.region [oM 12 0,oM 13 7,oI 14 (.bin .rem (.t 12) (.t 13)),oM 0 14] none [7,1,0]) (.seq (.seq (.region [oM 15 0,oI 16 (.bin .lss (.t 15) (.c (.int .i64 0)))] none [16,7,1,0]) (.cond (.t 16) (.region [oM 17 0,oM 18 7,oI 19 (.bin .add (.t 17) (.t 18)),oM 0 19] none [1,0]) .skip)) (.seq (.region [oM 20 1,oM 21 0,oI 22 (.bin .add (.t 20) (.t 21)),oM 6 22] none [6]) .ret)))))
def Zio:Zau:=⟨[(.tmp 6)],Zgl⟩
theorem Zr1:FC 9=some Zio:=by kernel_rfl
theorem Zk8:Zio.body=Zgl:=rfl
theorem Zlt:Zio.res=[(.tmp 6)]:=rfl
end
section
theorem Zl4 (a b:List Int) (ha:a.length<=9223372036854775807):∀ (r s:List Int) (i:Nat),a.drop i=r->b.drop i=s->r.length=s.length ->
  Zho 0 [(5,.int .i64 (i:Int)),(1,.lst false (b.map (.int .i64 ·))),(0,.lst false (a.map (.int .i64 ·)))] []=some (.bool (r == s),[])
 | [],s,i,h1,h2,hl=>by
  have e:s=[]:=List.length_eq_zero_iff.1 hl.symm
  subst e
  have h0:=ZeK h1
  unfold Zho
  rw [Zaw]
  simp -implicitDefEqProofs only [EQA,ZG,ZH,ZL,ZE,ZO,ZI,ZD,ZM,ZP,ZF,ZQ,ZJ,ZA,ZB,ZK,implies_true,forall_const,Xk,Xl,Xp,Xf,Xg,Xm,Xn,Zu,Zv,unA,Zo,Zr,unG,reduceCtorEq,Zi,decide_eq_true_eq,Xh,Xd,ite_self,↓reduceIte,Zq,Zt,gcT,gcA,Zl,Zf,Zd,Ze,Zm,Zc,Zk,Zg,Zn,Xj,Ze5,Zd5,Zf5,ZfJ,ZdQ,Zfn,Zeg,ZN,Zw,ZC,Zz,Zy,Zx,h0,Xz]
 | x::r,y::s,i,h1,h2,hl=>by
  obtain ⟨g1,d1,l1⟩:=Zcu h1
  obtain ⟨g2,d2,l2⟩:=Zcu h2
  have h0:(i:Int) < (a.length:Int):=by omega
  have e1:=fun σ kk=>iad g1 (AVal.int IntKind.i64 ·) (k:=1) rfl σ false kk
  have e2:=fun σ kk=>iad g2 (AVal.int IntKind.i64 ·) (k:=1) rfl σ false kk
  have hw:=Zd3 (i:=i) h0 ha
  have ih:=Zl4 a b ha r s (i+1) d1 d2 (by simpa using hl)
  unfold Zho at ih ⊢
  by_cases hxy:x=y
  ·subst hxy
   have hb:(x != x)=false:=by simp
   rw [show ((x::r) == (x::s))=(r == s) from by simp]
   rw [Zaw]
   simp -implicitDefEqProofs only [EQA,ZG,ZH,ZL,ZE,ZO,ZI,ZD,ZM,ZP,ZF,ZQ,ZJ,ZA,ZB,ZK,implies_true,forall_const,Xk,Xl,Xp,Xf,Xg,Xm,Xn,Zu,Zv,unA,Zo,Zr,unG,reduceCtorEq,Zi,decide_eq_true_eq,Xh,Xd,ite_self,↓reduceIte,Zq,Zt,gcT,gcA,Zl,Zf,Zd,Ze,Zm,Zc,Zk,Zg,Zn,Xj,Ze5,Zd5,Zf5,ZfJ,ZdQ,Zfn,Zeg,ZN,Zw,ZC,Zz,Zy,Zx,h0,e1,e2,hw,hb,Xz]
   exact ih
  ·have hb:(x != y)=true:=by simpa using hxy
   rw [show ((x::r) == (y::s))=false from by simp [hxy]]
   rw [Zaw]
   simp -implicitDefEqProofs only [EQA,ZG,ZH,ZL,ZE,ZO,ZI,ZD,ZM,ZP,ZF,ZQ,ZJ,ZA,ZB,ZK,implies_true,forall_const,Xk,Xl,Xp,Xf,Xg,Xm,Xn,Zu,Zv,unA,Zo,Zr,unG,reduceCtorEq,Zi,decide_eq_true_eq,Xh,Xd,ite_self,↓reduceIte,Zq,Zt,gcT,gcA,Zl,Zf,Zd,Ze,Zm,Zc,Zk,Zg,Zn,Xj,Ze5,Zd5,Zf5,ZfJ,ZdQ,Zfn,Zeg,ZN,Zw,ZC,Zz,Zy,Zx,h0,e1,e2,hw,hb,Xz]
theorem Zjx (a b:List Int) (ha:a.length<=9223372036854775807):E 19 [.lst false (a.map (.int .i64 ·)),.lst false (b.map (.int .i64 ·))] []=some (.bool (a == b),[]):=by
 rw [ZbG (by rfl) Zw6]
 by_cases h:a.length=b.length
 ·have hn:=ZpJ h
  have hl:=Zl4 a b ha a b 0 rfl rfl h
  have z:((0:Nat):Int)=0:=rfl
  rw [z] at hl
  unfold Zho at hl
  simp -implicitDefEqProofs only [EQA,ZG,ZH,ZL,ZE,ZO,ZI,ZD,ZM,ZP,ZF,ZQ,ZJ,ZA,ZB,ZK,implies_true,forall_const,Xk,Xl,Xp,Xf,Xg,Xm,Xn,Zu,Zv,unA,Zo,Zr,unG,reduceCtorEq,Zi,decide_eq_true_eq,Xh,Xd,ite_self,↓reduceIte,Zq,Zt,gcT,gcA,Zl,Zf,Zd,Ze,Zm,Zc,Zk,Zg,Zn,Xj,Ze5,Zd5,Zf5,ZfJ,ZdQ,Zfn,Zeg,ZN,Zw,ZC,Zz,Zy,Zx,hn,Xz]
  exact hl
 ·have hn:=Zzr h
  have e:=Zum h
  rw [e]
  simp -implicitDefEqProofs only [EQA,ZG,ZH,ZL,ZE,ZO,ZI,ZD,ZM,ZP,ZF,ZQ,ZJ,ZA,ZB,ZK,implies_true,forall_const,Xk,Xl,Xp,Xf,Xg,Xm,Xn,Zu,Zv,unA,Zo,Zr,unG,reduceCtorEq,Zi,decide_eq_true_eq,Xh,Xd,ite_self,↓reduceIte,Zq,Zt,gcT,gcA,Zl,Zf,Zd,Ze,Zm,Zc,Zk,Zg,Zn,Xj,Ze5,Zd5,Zf5,ZfJ,ZdQ,Zfn,Zeg,ZN,Zw,ZC,Zz,Zy,Zx,hn,Xz]
theorem Zv4 (σ:Za) (sq own:Nat) (x y:Bool) (a b:List Int) (ha:a.length<=9223372036854775807):ZR E BY σ sq 19 own true [.lst x (a.map (.int .i64 ·)),.lst y (b.map (.int .i64 ·))]=some (.bool (a == b),σ,{}) :=
 ZhL (Zjx a b ha) (by kernel_rfl) rfl rfl rfl (fun _=>rfl) _ _ _
end
section
theorem Zap {σ:Za} {sq f own:Nat} {view:Bool} {args:List AVal} {r:AVal×Za×Cls} (h:ZR E BY σ sq f own view args=some r):ZR E2 BY σ sq f own view args=some r:=Zjw Zns h
theorem Zil (xs:List Int) (hx:xs.length<=9223372036854775807) {σ:Za} {args:List AVal} {ts:List Nat} {sq:Nat} (hsh:showAs σ args=some ([.lst false (xs.map (.int .i64 ·))],ts)) (hff:Z8 (ZT σ ts) sq 2=true) :
  ZR E BY σ sq 6 2 false args=some (.ref sq 0,((ZT σ ts).set sq (.var [.map (sq+1)])).set (sq+1) (.map (Zb (ZbW xs))),{ any:=true }) :=
 Zqt (by kernel_rfl) hsh rfl rfl (Zpb xs hx) hff
theorem Zuv (l:List Int) (hl:l.length*8<=140737488355328):ZaX true 2 (E2 17 [.ref 0 0] (ZW l))=some (.lst false ((Zbb l).map (AVal.int .i64)),ZW l):=by
 rw [ZgC l hl]
 have hln:l.length=(Zbb l).length:=(List.length_mergeSort l).symm
 by_cases h:l=[]
 ·rw [if_pos h]
  subst h
  have hs:Zbb []=[]:=by simp [Zbb]
  rw [hs]
  rfl
 ·rw [if_neg h]
  have he:Zi [.var [.map 1],.map (Zb l),.row 0 1 ((Zbb l).map (AVal.int .i64))] (.sl 2 0 0 l.length)=some ((Zbb l).map (AVal.int .i64),[2]):=by
   simp [Zi,hln,X6]
  show Zcw 2 (some (.sl 2 0 0 l.length,[.var [.map 1],.map (Zb l),.row 0 1 ((Zbb l).map (AVal.int .i64))]))=_
  simp only [Zcw,viewR,ZbI,Zbj,he]
  exact ZcI (r:=.lst false ((Zbb l).map (AVal.int .i64))) rfl l [.frow 0 1 ((Zbb l).map (AVal.int .i64))]
theorem Zx5 (l:List Int) (hl:l.length*8<=140737488355328) {σ:Za} {t m sq:Nat} (htm:t≠m) (hs:σ[t]?=some (.var [.map m])) (hm:σ[m]?=some (.map (Zb l))) :
  ZR E2 BY σ sq 17 0 true [.ref t 0]=some (.lst false ((Zbb l).map (AVal.int .i64)),(σ.set t (.var [.map m])).set m (.map (Zb l)),{ any:=true,upd:=[(t,[.map m])] }):=by
 have ha:=Zuv l hl
 obtain ⟨p,hp⟩:∃ p,E2 17 [.ref 0 0] (ZW l)=some p:=⟨_,ZgC l hl⟩
 rw [hp] at ha
 exact Zih (args:=[]) (r0:=p.1) (h0:=p.2) rfl hp ha (by kernel_rfl) rfl rfl htm hs hm rfl
theorem Zws:E2 7 [] []=some (.bool true,[]):=by
 have hN:=fun {σ:Za} {sq:Nat} hff=>Zap (Zil [2,2,0] (by decide) (σ:=σ) (sq:=sq) (args:=[.lst true [.int .i64 2,.int .i64 2,.int .i64 0]]) (ts:=[]) rfl hff)
 rw [show ZbW [2,2,0]=[2] from by decide] at hN
 have hL:=fun {σ:Za} {sq:Nat} {view:Bool} hs hm=>Zap (ZbP [2] (σ:=σ) (t:=0) (m:=1) (sq:=sq) (own:=0) (view:=view) (by decide) hs hm rfl)
 have hT:=fun {σ:Za} {sq:Nat} {view:Bool} hs hm=>Zap (Zgy [2] (σ:=σ) (t:=0) (m:=1) (sq:=sq) (own:=0) (view:=view) (by decide) hs hm rfl)
 have hT2:=fun {σ:Za} {sq:Nat} {view:Bool} hs hm=>Zap (Zgy [2,1] (σ:=σ) (t:=0) (m:=1) (sq:=sq) (own:=0) (view:=view) (by decide) hs hm rfl)
 have hF:=fun {σ:Za} {sq:Nat} {view:Bool} hs hm=>Zap (Zes [2,1,3] 2 (σ:=σ) (t:=0) (m:=1) (sq:=sq) (own:=0) (view:=view) (by decide) hs hm rfl)
 have hF2:=fun {σ:Za} {sq:Nat} {view:Bool} hs hm=>Zap (Zes [1,3] 2 (σ:=σ) (t:=0) (m:=1) (sq:=sq) (own:=0) (view:=view) (by decide) hs hm rfl)
 have hA:=fun {σ:Za} {sq:Nat} hs hm=>Zx5 [1,3] (by decide) (σ:=σ) (t:=0) (m:=1) (sq:=sq) (by decide) hs hm
 have t1:ZcU [2]=((1,true),[2,1]):=by rfl
 have t2:ZcU [2,1]=((3,true),[2,1,3]):=by rfl
 have f1:([2,1,3]:List Int).contains 2=true:=by decide
 have f2:([2,1,3]:List Int).erase 2=[1,3]:=by decide
 have f3:([1,3]:List Int).contains 2=false:=by decide
 have f4:([1,3]:List Int).erase 2=[1,3]:=by decide
 have s1:Zbb [1,3]=[1,3]:=by simp [Zbb,List.mergeSort]
 rw [t1] at hT
 rw [t2] at hT2
 rw [f1,f2] at hF
 rw [f3,f4] at hF2
 rw [s1] at hA
 have hI:=fun σ sq own=>Zap (Zv4 σ sq own false true [1,3] [1,3] (by decide))
 have hI:∀ σ sq own,ZR E2 BY σ sq 19 own true [.lst false [.int .i64 1,.int .i64 3],.lst true [.int .i64 1,.int .i64 3]]=some (.bool true,σ,{}):=hI
 have z1:((1:Nat):Int)=1:=rfl
 rw [Zks (by rfl) ZAG]
 simp -implicitDefEqProofs only [EQA,ZG,ZH,ZL,ZE,ZO,ZI,ZD,ZM,ZP,ZF,ZQ,ZJ,ZA,ZB,ZK,implies_true,forall_const,Xk,Xl,Xp,Xf,Xg,Xm,Xn,Zu,Zv,unA,Zo,Zr,unG,reduceCtorEq,Zi,decide_eq_true_eq,Xh,Xd,ite_self,↓reduceIte,Zq,Zt,gcT,gcA,Zl,Zf,Zd,Ze,Zm,Zc,Zk,Zg,Zn,Xj,ZyU,ZjD,ZrR,ZN,Zw,ZC,Zz,Zy,Zx,Zaq,Zag,hN,hL,hT,hT2,hF,hF2,hA,hI,Z8,ZT,ZaM,kOk,viewAs,ZbI,Zbj,ZbH,ZT,WE,Xbo,Zbw,ZdW,List.zip_cons_cons,List.zip_nil_left,List.map_cons,List.map_nil,Ws,Wf,z1,bne_self_eq_false]
end
section
theorem yw (c d:Zs) (h:c=d) (m:Nat) (tm:Tms) (σ:Za):evC FC PR2 BY m c tm σ=evC FC PR2 BY m d tm σ:=by rw [h]
theorem ZdE (m:Nat) (tm:Tms) (σ:Za):evC FC PR2 BY m Zgt tm σ=evC FC PR2 BY m Zab tm σ:=yw _ _ rfl m tm σ
theorem Zj6 (m:Nat) (tm:Tms) (σ:Za):evC FC PR2 BY m ZiV tm σ=evC FC PR2 BY m Zac tm σ:=yw _ _ rfl m tm σ
theorem Zh5 (m:Nat) (tm:Tms) (σ:Za):evC FC PR2 BY m Zfs tm σ=evC FC PR2 BY m Zaa tm σ:=yw _ _ rfl m tm σ
theorem ZaK (m:Nat) (tm:Tms) (σ:Za):evC FC PR2 BY m Zhy tm σ=evC FC PR2 BY m Zad tm σ:=yw _ _ rfl m tm σ
section
variable {σ:Za} {t g sq:Nat} {X:List Int}
theorem Zla (hl:X.length<=1000000) (m:Int) (htg:t≠g) (hs:σ[t]?=some (.var [.sl g 0 0 X.length])) (hg:σ[g]?=some (.row 0 1 (iS X))):ZR E2 BY σ sq 16 0 true [.ref t 0,.int .i64 m]=some (.bool (X.contains m),(σ.set t (.var [.sl g 0 0 X.length])).set g (.row 0 1 (iS X)),{ any:=true,upd:=[(t,[.sl g 0 0 X.length])] }) :=
 Zap (Zjq (O:=E) rfl rfl (ZrV X (Nat.le_trans hl (by decide)) m) (by kernel_rfl) rfl rfl htg hs hg rfl)
theorem ZjH (hl:X.length<=1000000) (m:Int) (ho:hOk m X=false) (htg:t≠g) (hs:σ[t]?=some (.var [.sl g 0 0 X.length])) (hg:σ[g]?=some (.row 0 1 (iS X))) (hff:Z8 σ sq 1=true):ZR E2 BY σ sq 8 1 true [.ref t 0,.int .i64 m]=some (.bool false,(σ.set t (.var [.sl g 0 0 X.length])).set g (.row 0 1 (iS X)),{ any:=true,upd:=[(t,[.sl g 0 0 X.length])] }):=by
 have hq:E 8 [.ref 0 0,.int .i64 m] (pR X)=some (.bool false,pR X):=by
  unfold hOk at ho
  by_cases hb:Zch m
  ·exact Ztb X m hb
  ·refine Zu5 X hl m hb ?_
   simpa [hb] using ho
 exact Zap (Zjq (O:=E) rfl rfl hq (by kernel_rfl) rfl rfl htg hs hg hff)
theorem Zi1 (hl:X.length<=1000000) (m:Int) (ho:hOk m X=true) (htg:t≠g) (hs:σ[t]?=some (.var [.sl g 0 0 X.length])) (hg:σ[g]?=some (.row 0 1 (iS X))) (hff:Z8 σ sq 1=true):ZR E2 BY σ sq 8 1 true [.ref t 0,.int .i64 m]=some (.bool true,((σ.set t (.var [.sl sq 0 0 (ZaF m X).length])).set g (.row 0 1 (iS X))).set sq (.row 0 1 (iS (ZaF m X))),{ any:=true,upd:=[(t,[.sl sq 0 0 (ZaF m X).length])] }):=by
 unfold hOk at ho
 simp only [Wn,XaR,decide_eq_false_iff_not] at ho
 have hq:=Zmt X hl m ho.1 ho.2
 rw [<-ZfU m X] at hq
 exact Zap (ZiE (O:=E) rfl rfl hq (by kernel_rfl) rfl rfl htg hs hg hff)
theorem Znh (hl:X.length<=1000000) (m:Int) (ho:X.contains m=false) (htg:t≠g) (hs:σ[t]?=some (.var [.sl g 0 0 X.length])) (hg:σ[g]?=some (.row 0 1 (iS X))) (hff:Z8 σ sq 1=true):ZR E2 BY σ sq 14 1 true [.ref t 0,.int .i64 m]=some (.bool false,(σ.set t (.var [.sl g 0 0 X.length])).set g (.row 0 1 (iS X)),{ any:=true,upd:=[(t,[.sl g 0 0 X.length])] }):=by
 have hq:=Zj4 X hl m
 rw [if_neg (by rw [ho];simp)] at hq
 exact Zap (Zjq (O:=E) rfl rfl hq (by kernel_rfl) rfl rfl htg hs hg hff)
theorem Zkw (hl:X.length<=1000000) (m:Int) (ho:X.contains m=true) (htg:t≠g) (hs:σ[t]?=some (.var [.sl g 0 0 X.length])) (hg:σ[g]?=some (.row 0 1 (iS X))) (hff:Z8 σ sq 1=true):ZR E2 BY σ sq 14 1 true [.ref t 0,.int .i64 m]=some (.bool true,((σ.set t (.var [.sl sq 0 0 (Zbk X (X.idxOf m)).length])).set g (.row 0 1 (iS X))).set sq (.row 0 1 (iS (Zbk X (X.idxOf m)))),{ any:=true,upd:=[(t,[.sl sq 0 0 (Zbk X (X.idxOf m)).length])] }):=by
 have hq:=Zj4 X hl m
 rw [if_pos ho,<-ZlF X m ho] at hq
 exact Zap (ZiE (O:=E) rfl rfl hq (by kernel_rfl) rfl rfl htg hs hg hff)
theorem ZlB (hl:X.length<=60000) (hi:hin (tk X) X=false) (htg:t≠g) (hs:σ[t]?=some (.var [.sl g 0 0 X.length])) (hg:σ[g]?=some (.row 0 1 (iS X))) (hff:Z8 σ sq 1=true):ZR E2 BY σ sq 11 1 true [.ref t 0]=some (.tup [.int .i64 (tk X),.bool true],((σ.set t (.var [.sl sq 0 0 (ZaF (tk X) X).length])).set g (.row 0 1 (iS X))).set sq (.row 0 1 (iS (ZaF (tk X) X))),{ any:=true,upd:=[(t,[.sl sq 0 0 (ZaF (tk X) X).length])] }):=by
 have hq:=ZAv X hl hi
 rw [<-ZfU (tk X) X] at hq
 exact Zap (ZiE (O:=E) (args:=[]) rfl rfl hq (by kernel_rfl) rfl rfl htg hs hg hff)
end
def hL (X:List Int) (M:List (AVal×AVal)):Za:=[.var [.sl 1 0 0 X.length],.row 0 1 (iS X),.var [.map 3],.map M]
theorem ZiO (B:List Int) (sc:List AVal) (L:List Int) (hB:B.length<=40):∀ (r acc X:List Int) (i:Nat),B.drop i=r->Inv acc X->X.length<=i->i<=B.length ->
  ∃ X',Inv (r.foldl (fun a k=>(Zaz a k).2) acc) X'/\X'.length<=B.length /\
  evL FC PR2 BY 0 [7,6,5,1,0] Zfs [(7,.int .i64 (i:Int)),(6,.ref 0 0),(5,.ref 2 0),(1,.lst false sc),(0,.lst false (B.map (.int .i64 ·)))] (hL X (Zb L))=some (.exit 0,[(34,.bool false),(7,.int .i64 (B.length:Int)),(6,.ref 0 0),(5,.ref 2 0),(1,.lst false sc),(0,.lst false (B.map (.int .i64 ·)))],hL X' (Zb L))
 | [],acc,X,i,h,hI,hX,hi=>by
  have h1:=ZeK h
  have hie:i=B.length:=by have:=Xac.1 h;omega
  refine ⟨X,hI,by omega,?_⟩
  have hr:=Zaq L
  have hn:=fun ρ=>Zag ρ L
  rw [hie] at h1 ⊢
  unfold hL
  generalize Zb L=M at *
  generalize iS X=S at *
  rw [Zaw]
  simp -implicitDefEqProofs only [EQA,ZG,ZH,ZL,ZE,ZO,ZI,ZD,ZM,ZP,ZF,ZQ,ZJ,ZA,ZB,ZK,implies_true,forall_const,Xk,Xl,Xp,Xf,Xg,Xm,Xn,Zu,Zv,unA,Zo,Zr,unG,reduceCtorEq,Zi,decide_eq_true_eq,Xh,Xd,ite_self,↓reduceIte,Zq,Zt,gcT,gcA,Zl,Zf,Zd,Ze,Zm,Zc,Zk,Zg,Zn,Xj,Zah,Zae,Zan,Zaj,Zab,Zak,Zad,Zal,Zac,Zai,Zaa,ZN,Zw,ZC,Zz,Zy,Zx,Zh5,h1,hr,hn,Xz]
 | x::r,acc,X,i,h,hI,hX,hi=>by
  obtain ⟨g1,d1,l1⟩:=Zcu h
  have h1:(i:Int) < B.length:=by omega
  have e1:=fun σ kk=>iad g1 (AVal.int IntKind.i64 ·) (k:=1) rfl σ false kk
  have hw:=Zd3 (i:=i) h1 (by omega)
  have hr:=Zaq L
  have hn:=fun ρ=>Zag ρ L
  rw [List.foldl_cons]
  cases ho:hOk x X with
  | false =>
   have hI':Inv (Zaz acc x).2 X:=by rw [ZiK hI x ho];exact hI
   obtain ⟨X',q1,q2,ih⟩:=ZiO B sc L hB r _ X (i+1) d1 hI' (by omega) (by omega)
   refine ⟨X',q1,q2,?_⟩
   have hC:=fun {σ:Za} {sq:Nat} hs hg hff=>ZjH (σ:=σ) (t:=0) (g:=1) (sq:=sq) (X:=X) (by omega) x ho (by decide) hs hg hff
   generalize hR:some (ZaB.exit 0,[(34,AVal.bool false),(7,.int .i64 (B.length:Int)),(6,.ref 0 0),(5,.ref 2 0),(1,.lst false sc),(0,.lst false (B.map (AVal.int .i64 ·)))],hL X' (Zb L))=R at *
   unfold hL at ih ⊢
   generalize Zb L=M at *
   generalize iS X=S at *
   generalize hBL:B.map (AVal.int IntKind.i64 ·)=BL at *
   have hBl:BL.length=B.length:=by rw [<-hBL,Xz]
   rw [Zaw]
   simp -implicitDefEqProofs only [EQA,ZG,ZH,ZL,ZE,ZO,ZI,ZD,ZM,ZP,ZF,ZQ,ZJ,ZA,ZB,ZK,implies_true,forall_const,Xk,Xl,Xp,Xf,Xg,Xm,Xn,Zu,Zv,unA,Zo,Zr,unG,reduceCtorEq,Zi,decide_eq_true_eq,Xh,Xd,ite_self,↓reduceIte,Zq,Zt,gcT,gcA,Zl,Zf,Zd,Ze,Zm,Zc,Zk,Zg,Zn,Xj,Zah,Zae,Zan,Zaj,Zab,Zak,Zad,Zal,Zac,Zai,Zaa,ZN,Zw,ZC,Zz,Zy,Zx,Zh5,h1,e1,hw,hC,hr,hn,hBl,Z8]
   exact ih
  | true =>
   have hI':=(Zfg hI x ho).1
   have hX':=ZfU x X
   obtain ⟨X',q1,q2,ih⟩:=ZiO B sc L hB r _ (ZaF x X) (i+1) d1 hI' (by omega) (by omega)
   refine ⟨X',q1,q2,?_⟩
   have hC:=fun {σ:Za} {sq:Nat} hs hg hff=>Zi1 (σ:=σ) (t:=0) (g:=1) (sq:=sq) (X:=X) (by omega) x ho (by decide) hs hg hff
   generalize hR:some (ZaB.exit 0,[(34,AVal.bool false),(7,.int .i64 (B.length:Int)),(6,.ref 0 0),(5,.ref 2 0),(1,.lst false sc),(0,.lst false (B.map (AVal.int .i64 ·)))],hL X' (Zb L))=R at *
   unfold hL at ih ⊢
   generalize ZaF x X=Y at *
   generalize Zb L=M at *
   generalize iS Y=SY at *
   generalize iS X=S at *
   generalize hBL:B.map (AVal.int IntKind.i64 ·)=BL at *
   have hBl:BL.length=B.length:=by rw [<-hBL,Xz]
   rw [Zaw]
   simp -implicitDefEqProofs only [EQA,ZG,ZH,ZL,ZE,ZO,ZI,ZD,ZM,ZP,ZF,ZQ,ZJ,ZA,ZB,ZK,implies_true,forall_const,Xk,Xl,Xp,Xf,Xg,Xm,Xn,Zu,Zv,unA,Zo,Zr,unG,reduceCtorEq,Zi,decide_eq_true_eq,Xh,Xd,ite_self,↓reduceIte,Zq,Zt,gcT,gcA,Zl,Zf,Zd,Ze,Zm,Zc,Zk,Zg,Zn,Xj,Zah,Zae,Zan,Zaj,Zab,Zak,Zad,Zal,Zac,Zai,Zaa,ZN,Zw,ZC,Zz,Zy,Zx,Zh5,h1,e1,hw,hC,hr,hn,hBl,Z8]
   exact ih
end
section
def Zj (p:Int×Int):AVal:=.agg [.int .i64 p.1,.int .i64 p.2]
theorem ZwO (n:Int) (m:Nat) (hm:m<=4611686018427387904):∃ k:Nat,k<=m/\E 9 [.int .i64 n,.int .i64 0,.int .i64 (m:Nat)] []=some (.int .i64 (k:Nat),[]):=by
 rw [ZbG (by rfl) Zr1]
 have w1:IntKind.i64.wrap ((m:Nat) - 0)=((m:Nat):Int):=by rw [Int.sub_zero];exact Za6 (by omega) (by omega)
 have w2:IntKind.i64.wrap (((m:Nat):Int)+1)=((m+1:Nat):Int):=by rw [show ((m:Nat):Int)+1=((m+1:Nat):Int) from by omega];exact Za6 (by omega) (by omega)
 have w3:(((m+1:Nat):Int)=0)=False:=by simp;omega
 have hb:n.tmod ((m+1:Nat):Int) < ((m+1:Nat):Int):=Int.tmod_lt_of_pos _ (by omega)
 have hl:-((m+1:Nat):Int) < n.tmod ((m+1:Nat):Int):=by
  have h1:=Int.tmod_lt_of_pos (-n) (b:=((m+1:Nat):Int)) (by omega)
  rw [Int.neg_tmod] at h1
  omega
 by_cases h:n.tmod ((m+1:Nat):Int) < 0
 ·have w4:IntKind.i64.wrap (n.tmod ((m+1:Nat):Int)+((m+1:Nat):Int))=(((n.tmod ((m+1:Nat):Int)+((m+1:Nat):Int)).toNat:Nat):Int):=by
   rw [Za6 (by omega) (by omega)];omega
  have w5:IntKind.i64.wrap (0+(((n.tmod ((m+1:Nat):Int)+((m+1:Nat):Int)).toNat:Nat):Int))=(((n.tmod ((m+1:Nat):Int)+((m+1:Nat):Int)).toNat:Nat):Int):=by
   rw [Int.zero_add];exact Za6 (by omega) (by omega)
  refine ⟨(n.tmod ((m+1:Nat):Int)+((m+1:Nat):Int)).toNat,by omega,?_⟩
  simp -implicitDefEqProofs only [EQA,ZG,ZH,ZL,ZE,ZO,ZI,ZD,ZM,ZP,ZF,ZQ,ZJ,ZA,ZB,ZK,implies_true,forall_const,Xk,Xl,Xp,Xf,Xg,Xm,Xn,Zu,Zv,unA,Zo,Zr,unG,reduceCtorEq,Zi,decide_eq_true_eq,Xh,Xd,ite_self,↓reduceIte,Zq,Zt,gcT,gcA,Zl,Zf,Zd,Ze,Zm,Zc,Zk,Zg,Zn,Xj,Zk8,Zgl,Zlt,ZN,Zw,ZC,Zz,Zy,Zx,w1,w2,w3,h,w4,w5]
 ·have w5:IntKind.i64.wrap (0+n.tmod ((m+1:Nat):Int))=(((n.tmod ((m+1:Nat):Int)).toNat:Nat):Int):=by
   rw [Int.zero_add,Za6 (by omega) (by omega)];omega
  refine ⟨(n.tmod ((m+1:Nat):Int)).toNat,by omega,?_⟩
  simp -implicitDefEqProofs only [EQA,ZG,ZH,ZL,ZE,ZO,ZI,ZD,ZM,ZP,ZF,ZQ,ZJ,ZA,ZB,ZK,implies_true,forall_const,Xk,Xl,Xp,Xf,Xg,Xm,Xn,Zu,Zv,unA,Zo,Zr,unG,reduceCtorEq,Zi,decide_eq_true_eq,Xh,Xd,ite_self,↓reduceIte,Zq,Zt,gcT,gcA,Zl,Zf,Zd,Ze,Zm,Zc,Zk,Zg,Zn,Xj,Zk8,Zgl,Zlt,ZN,Zw,ZC,Zz,Zy,Zx,w1,w2,w3,h,w5]
theorem ZAg (n:Int):∃ k:Nat,k<=4/\∀ (σ:Za) (sq:Nat),ZR E2 BY σ sq 9 0 true [.int .i64 n,.int .i64 0,.int .i64 4]=some (.int .i64 (k:Nat),σ,{}):=by
 obtain ⟨k,hk,he⟩:=ZwO n 4 (by decide)
 exact ⟨k,hk,fun σ sq=>Zap (ZhL he (by kernel_rfl) rfl rfl rfl (fun _=>rfl) σ sq 0)⟩
def hP (n:Nat) (X:List Int) (M:List (AVal×AVal)):Za:=[.book n [],.var [.sl 2 0 0 X.length],.row 0 1 (iS X),.var [.map 4],.map M]
def hQ (n:Nat) (l X:List Int) (M:List (AVal×AVal)):Za:=[.book n [(.sl 1 0 0 l.length,l)],.row 0 1 (iS l),.var [.sl 3 0 0 X.length],.row 0 1 (iS X),.var [.map 5],.map M]
def tP (i:Nat) (SC:List AVal):Tms:=[(9,.int .i64 (i:Int)),(8,.ref 0 0),(6,.ref 1 0),(5,.ref 3 0),(1,.lst false SC)]
def tQ (i:Nat) (SC:List AVal):Tms:=[(9,.int .i64 (i:Int)),(8,.ref 0 0),(6,.ref 2 0),(5,.ref 4 0),(1,.lst false SC)]
noncomputable abbrev ZU (tm:Tms) (σ:Za):=evL FC PR2 BY 0 [9,8,6,5,1] Zhy tm σ
theorem Znp (n:Nat) (SC:List (Int×Int)) (L X:List Int) (d m:Int) (i:Nat) (hi:SC[i]?=some (d,m)) (hi2:i < 150) (hI:Inv L X) (hX:X.length<=1000)
  (hk:∀ (σ:Za) (sq:Nat),ZR E2 BY σ sq 9 0 true [.int .i64 d,.int .i64 0,.int .i64 4]=some (.int .i64 0,σ,{}))  :
  ZU (tP i (SC.map Zj)) (hP n X (Zb L))=ZU (tP (i+1) (SC.map Zj)) (hP n (ZaF (tk X) X) (Zb (L++[tk X]))):=by
  have l1:i < SC.length:=(Xc.1 hi).1
  have h1:(i:Int) < SC.length:=by omega
  have h2:(i:Int) < 150:=by omega
  have e1:=fun σ kk=>iad hi Zj (k:=2) rfl σ false kk
  have hw:IntKind.i64.wrap ((i:Int)+1)=((i+1:Nat):Int):=by rw [Za6 (by omega) (by omega)];omega
  obtain ⟨t1,t2,t3⟩:=ZhN hI (by omega)
  have hS:=fun {σ:Za} {sq:Nat} {view:Bool} hs hm=>Zap (Zgy L (σ:=σ) (t:=3) (m:=4) (sq:=sq) (own:=0) (view:=view) (by decide) hs hm rfl)
  rw [t1] at hS
  have hR:=fun {σ:Za} {sq:Nat} hs hg hff=>ZlB (σ:=σ) (t:=1) (g:=2) (sq:=sq) (X:=X) (by omega) t2 (by decide) hs hg hff
  have hlen:=ZbM t3
  have hN:=fun {σ:Za} {sq:Nat} {view:Bool} hs hm=>Zap (ZbP (L++[tk X]) (σ:=σ) (t:=3) (m:=4) (sq:=sq) (own:=0) (view:=view) (by decide) hs hm rfl)
  rw [hlen] at hN
  have hr2:=Zaq (L++[tk X])
  have hn2:=fun ρ=>Zag ρ (L++[tk X])
  have hr:=Zaq L
  have hn:=fun ρ=>Zag ρ L
  generalize hR0:ZU (tP (i+1) (SC.map Zj)) (hP n (ZaF (tk X) X) (Zb (L++[tk X])))=R
  unfold ZU hP tP at hR0 ⊢
  have hbl:(SC.map Zj).length=SC.length:=Xz ..
  generalize hX2:ZaF (tk X) X=X2 at *
  generalize hM2:Zb (L++[tk X])=M2 at *
  generalize hM:Zb L=M at *
  generalize hSX2:iS X2=SX2 at *
  generalize hSX:iS X=SX at *
  generalize hSC:SC.map Zj=SV at *
  unfold Zj at e1
  generalize tk X=z at *
  have hz:∀ z:Int,(z != z)=false:=fun z=>bne_self_eq_false z
  rw [Zaw]
  simp -implicitDefEqProofs only [EQA,ZG,ZH,ZL,ZE,ZO,ZI,ZD,ZM,ZP,ZF,ZQ,ZJ,ZA,ZB,ZK,implies_true,forall_const,Xk,Xl,Xp,Xf,Xg,Xm,Xn,Zu,Zv,unA,Zo,Zr,unG,reduceCtorEq,Zi,decide_eq_true_eq,Xh,Xd,ite_self,↓reduceIte,Zq,Zt,gcT,gcA,Zl,Zf,Zd,Ze,Zm,Zc,Zk,Zg,Zn,Xj,Zah,Zae,Zan,Zaj,Zab,Zak,Zad,Zal,Zac,Zai,Zaa,ZN,Zw,ZC,Zz,Zy,Zx,ZaK,h1,h2,e1,hw,hk,hS,hR,hN,hr,hn,hr2,hn2,hbl,hz,Z8,Wj,AVal.cells,Za4]
  rw [Za5 _ _ _ _ _ _ _ (by rfl)]
  simp -implicitDefEqProofs only [EQA,ZG,ZH,ZL,ZE,ZO,ZI,ZD,ZM,ZP,ZF,ZQ,ZJ,ZA,ZB,ZK,implies_true,forall_const,Xk,Xl,Xp,Xf,Xg,Xm,Xn,Zu,Zv,unA,Zo,Zr,unG,reduceCtorEq,Zi,decide_eq_true_eq,Xh,Xd,ite_self,↓reduceIte,Zq,Zt,gcT,gcA,Zl,Zf,Zd,Ze,Zm,Zc,Zk,Zg,Zn,Xj,Zah,Zae,Zan,Zaj,Zab,Zak,Zad,Zal,Zac,Zai,Zaa,ZN,Zw,ZC,Zz,Zy,Zx,ZaK,hw,hr,hn,hr2,hn2]
  exact hR0
theorem Zrx (n:Nat) (SC:List (Int×Int)) (L X:List Int) (d m:Int) (i:Nat) (hi:SC[i]?=some (d,m)) (hi2:i < 150) (hI:Inv L X) (hX:X.length<=1000)
  (hk:∀ (σ:Za) (sq:Nat),ZR E2 BY σ sq 9 0 true [.int .i64 d,.int .i64 0,.int .i64 4]=some (.int .i64 1,σ,{})) (ho:hOk m X=true) :
  ZU (tP i (SC.map Zj)) (hP n X (Zb L))=ZU (tP (i+1) (SC.map Zj)) (hP n (ZaF m X) (Zb ((Zaz L m).2))):=by
  have l1:i < SC.length:=(Xc.1 hi).1
  have h1:(i:Int) < SC.length:=by omega
  have h2:(i:Int) < 150:=by omega
  have e1:=fun σ kk=>iad hi Zj (k:=2) rfl σ false kk
  have hw:IntKind.i64.wrap ((i:Int)+1)=((i+1:Nat):Int):=by rw [Za6 (by omega) (by omega)];omega
  obtain ⟨t3,t4⟩:=Zfg hI m ho
  have hS:=fun {σ:Za} {sq:Nat} {view:Bool} hs hm=>Zap (Zem L m (σ:=σ) (t:=3) (m:=4) (sq:=sq) (own:=0) (view:=view) (by decide) hs hm rfl)
  rw [ZfP hI m,ho] at hS
  have hR:=fun {σ:Za} {sq:Nat} hs hg hff=>Zi1 (σ:=σ) (t:=1) (g:=2) (sq:=sq) (X:=X) (by omega) m ho (by decide) hs hg hff
  have hlen:=ZbM t3
  have hN:=fun {σ:Za} {sq:Nat} {view:Bool} hs hm=>Zap (ZbP ((Zaz L m).2) (σ:=σ) (t:=3) (m:=4) (sq:=sq) (own:=0) (view:=view) (by decide) hs hm rfl)
  rw [hlen] at hN
  have hr2:=Zaq ((Zaz L m).2)
  have hn2:=fun ρ=>Zag ρ ((Zaz L m).2)
  have hr:=Zaq L
  have hn:=fun ρ=>Zag ρ L
  generalize hR0:ZU (tP (i+1) (SC.map Zj)) (hP n (ZaF m X) (Zb ((Zaz L m).2)))=R
  unfold ZU hP tP at hR0 ⊢
  have hbl:(SC.map Zj).length=SC.length:=Xz ..
  generalize hX2:ZaF m X=X2 at *
  generalize hM2:Zb ((Zaz L m).2)=M2 at *
  generalize hM:Zb L=M at *
  generalize hSX2:iS X2=SX2 at *
  generalize hSX:iS X=SX at *
  generalize hSC:SC.map Zj=SV at *
  unfold Zj at e1
  have hz:∀ z:Int,(z != z)=false:=fun z=>bne_self_eq_false z
  rw [Zaw]
  simp -implicitDefEqProofs only [EQA,ZG,ZH,ZL,ZE,ZO,ZI,ZD,ZM,ZP,ZF,ZQ,ZJ,ZA,ZB,ZK,implies_true,forall_const,Xk,Xl,Xp,Xf,Xg,Xm,Xn,Zu,Zv,unA,Zo,Zr,unG,reduceCtorEq,Zi,decide_eq_true_eq,Xh,Xd,ite_self,↓reduceIte,Zq,Zt,gcT,gcA,Zl,Zf,Zd,Ze,Zm,Zc,Zk,Zg,Zn,Xj,Zah,Zae,Zan,Zaj,Zab,Zak,Zad,Zal,Zac,Zai,Zaa,ZN,Zw,ZC,Zz,Zy,Zx,ZaK,h1,h2,e1,hw,hk,hS,hR,hN,hr,hn,hr2,hn2,hbl,hz,Z8,Wj,AVal.cells,Za4]
  rw [Za5 _ _ _ _ _ _ _ (by rfl)]
  simp -implicitDefEqProofs only [EQA,ZG,ZH,ZL,ZE,ZO,ZI,ZD,ZM,ZP,ZF,ZQ,ZJ,ZA,ZB,ZK,implies_true,forall_const,Xk,Xl,Xp,Xf,Xg,Xm,Xn,Zu,Zv,unA,Zo,Zr,unG,reduceCtorEq,Zi,decide_eq_true_eq,Xh,Xd,ite_self,↓reduceIte,Zq,Zt,gcT,gcA,Zl,Zf,Zd,Ze,Zm,Zc,Zk,Zg,Zn,Xj,Zah,Zae,Zan,Zaj,Zab,Zak,Zad,Zal,Zac,Zai,Zaa,ZN,Zw,ZC,Zz,Zy,Zx,ZaK,hw,hr,hn,hr2,hn2]
  exact hR0
theorem Zrt (n:Nat) (SC:List (Int×Int)) (L X:List Int) (d m:Int) (i:Nat) (hi:SC[i]?=some (d,m)) (hi2:i < 150) (hI:Inv L X) (hX:X.length<=1000)
  (hk:∀ (σ:Za) (sq:Nat),ZR E2 BY σ sq 9 0 true [.int .i64 d,.int .i64 0,.int .i64 4]=some (.int .i64 1,σ,{})) (ho:hOk m X=false) :
  ZU (tP i (SC.map Zj)) (hP n X (Zb L))=ZU (tP (i+1) (SC.map Zj)) (hP n (X) (Zb (L))):=by
  have l1:i < SC.length:=(Xc.1 hi).1
  have h1:(i:Int) < SC.length:=by omega
  have h2:(i:Int) < 150:=by omega
  have e1:=fun σ kk=>iad hi Zj (k:=2) rfl σ false kk
  have hw:IntKind.i64.wrap ((i:Int)+1)=((i+1:Nat):Int):=by rw [Za6 (by omega) (by omega)];omega
  have t3:=hI
  have hS:=fun {σ:Za} {sq:Nat} {view:Bool} hs hm=>Zap (Zem L m (σ:=σ) (t:=3) (m:=4) (sq:=sq) (own:=0) (view:=view) (by decide) hs hm rfl)
  rw [ZfP hI m,ho,ZiK hI m ho] at hS
  have hR:=fun {σ:Za} {sq:Nat} hs hg hff=>ZjH (σ:=σ) (t:=1) (g:=2) (sq:=sq) (X:=X) (by omega) m ho (by decide) hs hg hff
  have hlen:=ZbM t3
  have hN:=fun {σ:Za} {sq:Nat} {view:Bool} hs hm=>Zap (ZbP (L) (σ:=σ) (t:=3) (m:=4) (sq:=sq) (own:=0) (view:=view) (by decide) hs hm rfl)
  rw [hlen] at hN
  have hr2:=Zaq (L)
  have hn2:=fun ρ=>Zag ρ (L)
  have hr:=Zaq L
  have hn:=fun ρ=>Zag ρ L
  generalize hR0:ZU (tP (i+1) (SC.map Zj)) (hP n (X) (Zb (L)))=R
  unfold ZU hP tP at hR0 ⊢
  have hbl:(SC.map Zj).length=SC.length:=Xz ..
  generalize hX2:X=X2 at *
  generalize hM2:Zb (L)=M2 at *
  generalize hM:Zb L=M at *
  generalize hSX2:iS X2=SX2 at *
  generalize hSX:iS X=SX at *
  generalize hSC:SC.map Zj=SV at *
  unfold Zj at e1
  have hz:∀ z:Int,(z != z)=false:=fun z=>bne_self_eq_false z
  rw [Zaw]
  simp -implicitDefEqProofs only [EQA,ZG,ZH,ZL,ZE,ZO,ZI,ZD,ZM,ZP,ZF,ZQ,ZJ,ZA,ZB,ZK,implies_true,forall_const,Xk,Xl,Xp,Xf,Xg,Xm,Xn,Zu,Zv,unA,Zo,Zr,unG,reduceCtorEq,Zi,decide_eq_true_eq,Xh,Xd,ite_self,↓reduceIte,Zq,Zt,gcT,gcA,Zl,Zf,Zd,Ze,Zm,Zc,Zk,Zg,Zn,Xj,Zah,Zae,Zan,Zaj,Zab,Zak,Zad,Zal,Zac,Zai,Zaa,ZN,Zw,ZC,Zz,Zy,Zx,ZaK,h1,h2,e1,hw,hk,hS,hR,hN,hr,hn,hr2,hn2,hbl,hz,Z8,Wj,AVal.cells,Za4]
  rw [Za5 _ _ _ _ _ _ _ (by rfl)]
  simp -implicitDefEqProofs only [EQA,ZG,ZH,ZL,ZE,ZO,ZI,ZD,ZM,ZP,ZF,ZQ,ZJ,ZA,ZB,ZK,implies_true,forall_const,Xk,Xl,Xp,Xf,Xg,Xm,Xn,Zu,Zv,unA,Zo,Zr,unG,reduceCtorEq,Zi,decide_eq_true_eq,Xh,Xd,ite_self,↓reduceIte,Zq,Zt,gcT,gcA,Zl,Zf,Zd,Ze,Zm,Zc,Zk,Zg,Zn,Xj,Zah,Zae,Zan,Zaj,Zab,Zak,Zad,Zal,Zac,Zai,Zaa,ZN,Zw,ZC,Zz,Zy,Zx,ZaK,hw,hr,hn,hr2,hn2]
  exact hR0
theorem Znt (n:Nat) (SC:List (Int×Int)) (L X:List Int) (d m:Int) (i:Nat) (hi:SC[i]?=some (d,m)) (hi2:i < 150) (hI:Inv L X) (hX:X.length<=1000)
  (hk:∀ (σ:Za) (sq:Nat),ZR E2 BY σ sq 9 0 true [.int .i64 d,.int .i64 0,.int .i64 4]=some (.int .i64 2,σ,{})) (ho:X.contains m=true) :
  ZU (tP i (SC.map Zj)) (hP n X (Zb L))=ZU (tP (i+1) (SC.map Zj)) (hP n (Zbk X (X.idxOf m)) (Zb (L.erase m))):=by
  have l1:i < SC.length:=(Xc.1 hi).1
  have h1:(i:Int) < SC.length:=by omega
  have h2:(i:Int) < 150:=by omega
  have e1:=fun σ kk=>iad hi Zj (k:=2) rfl σ false kk
  have hw:IntKind.i64.wrap ((i:Int)+1)=((i+1:Nat):Int):=by rw [Za6 (by omega) (by omega)];omega
  have t3:=ZjM hI m ho
  have hS:=fun {σ:Za} {sq:Nat} {view:Bool} hs hm=>Zap (Zes L m (σ:=σ) (t:=3) (m:=4) (sq:=sq) (own:=0) (view:=view) (by decide) hs hm rfl)
  rw [hI.contains m,ho] at hS
  have hR:=fun {σ:Za} {sq:Nat} hs hg hff=>Zkw (σ:=σ) (t:=1) (g:=2) (sq:=sq) (X:=X) (by omega) m ho (by decide) hs hg hff
  have hlen:=ZbM t3
  have hN:=fun {σ:Za} {sq:Nat} {view:Bool} hs hm=>Zap (ZbP (L.erase m) (σ:=σ) (t:=3) (m:=4) (sq:=sq) (own:=0) (view:=view) (by decide) hs hm rfl)
  rw [hlen] at hN
  have hr2:=Zaq (L.erase m)
  have hn2:=fun ρ=>Zag ρ (L.erase m)
  have hr:=Zaq L
  have hn:=fun ρ=>Zag ρ L
  generalize hR0:ZU (tP (i+1) (SC.map Zj)) (hP n (Zbk X (X.idxOf m)) (Zb (L.erase m)))=R
  unfold ZU hP tP at hR0 ⊢
  have hbl:(SC.map Zj).length=SC.length:=Xz ..
  generalize hX2:Zbk X (X.idxOf m)=X2 at *
  generalize hM2:Zb (L.erase m)=M2 at *
  generalize hM:Zb L=M at *
  generalize hSX2:iS X2=SX2 at *
  generalize hSX:iS X=SX at *
  generalize hSC:SC.map Zj=SV at *
  unfold Zj at e1
  have hz:∀ z:Int,(z != z)=false:=fun z=>bne_self_eq_false z
  rw [Zaw]
  simp -implicitDefEqProofs only [EQA,ZG,ZH,ZL,ZE,ZO,ZI,ZD,ZM,ZP,ZF,ZQ,ZJ,ZA,ZB,ZK,implies_true,forall_const,Xk,Xl,Xp,Xf,Xg,Xm,Xn,Zu,Zv,unA,Zo,Zr,unG,reduceCtorEq,Zi,decide_eq_true_eq,Xh,Xd,ite_self,↓reduceIte,Zq,Zt,gcT,gcA,Zl,Zf,Zd,Ze,Zm,Zc,Zk,Zg,Zn,Xj,Zah,Zae,Zan,Zaj,Zab,Zak,Zad,Zal,Zac,Zai,Zaa,ZN,Zw,ZC,Zz,Zy,Zx,ZaK,h1,h2,e1,hw,hk,hS,hR,hN,hr,hn,hr2,hn2,hbl,hz,Z8,Wj,AVal.cells,Za4]
  rw [Za5 _ _ _ _ _ _ _ (by rfl)]
  simp -implicitDefEqProofs only [EQA,ZG,ZH,ZL,ZE,ZO,ZI,ZD,ZM,ZP,ZF,ZQ,ZJ,ZA,ZB,ZK,implies_true,forall_const,Xk,Xl,Xp,Xf,Xg,Xm,Xn,Zu,Zv,unA,Zo,Zr,unG,reduceCtorEq,Zi,decide_eq_true_eq,Xh,Xd,ite_self,↓reduceIte,Zq,Zt,gcT,gcA,Zl,Zf,Zd,Ze,Zm,Zc,Zk,Zg,Zn,Xj,Zah,Zae,Zan,Zaj,Zab,Zak,Zad,Zal,Zac,Zai,Zaa,ZN,Zw,ZC,Zz,Zy,Zx,ZaK,hw,hr,hn,hr2,hn2]
  exact hR0
theorem Zzv (n:Nat) (SC:List (Int×Int)) (L X:List Int) (d m:Int) (i:Nat) (hi:SC[i]?=some (d,m)) (hi2:i < 150) (hI:Inv L X) (hX:X.length<=1000)
  (hk:∀ (σ:Za) (sq:Nat),ZR E2 BY σ sq 9 0 true [.int .i64 d,.int .i64 0,.int .i64 4]=some (.int .i64 2,σ,{})) (ho:X.contains m=false) :
  ZU (tP i (SC.map Zj)) (hP n X (Zb L))=ZU (tP (i+1) (SC.map Zj)) (hP n (X) (Zb (L))):=by
  have l1:i < SC.length:=(Xc.1 hi).1
  have h1:(i:Int) < SC.length:=by omega
  have h2:(i:Int) < 150:=by omega
  have e1:=fun σ kk=>iad hi Zj (k:=2) rfl σ false kk
  have hw:IntKind.i64.wrap ((i:Int)+1)=((i+1:Nat):Int):=by rw [Za6 (by omega) (by omega)];omega
  have t3:=hI
  have hS:=fun {σ:Za} {sq:Nat} {view:Bool} hs hm=>Zap (Zes L m (σ:=σ) (t:=3) (m:=4) (sq:=sq) (own:=0) (view:=view) (by decide) hs hm rfl)
  rw [hI.contains m,ho,Zkp hI m ho] at hS
  have hR:=fun {σ:Za} {sq:Nat} hs hg hff=>Znh (σ:=σ) (t:=1) (g:=2) (sq:=sq) (X:=X) (by omega) m ho (by decide) hs hg hff
  have hlen:=ZbM t3
  have hN:=fun {σ:Za} {sq:Nat} {view:Bool} hs hm=>Zap (ZbP (L) (σ:=σ) (t:=3) (m:=4) (sq:=sq) (own:=0) (view:=view) (by decide) hs hm rfl)
  rw [hlen] at hN
  have hr2:=Zaq (L)
  have hn2:=fun ρ=>Zag ρ (L)
  have hr:=Zaq L
  have hn:=fun ρ=>Zag ρ L
  generalize hR0:ZU (tP (i+1) (SC.map Zj)) (hP n (X) (Zb (L)))=R
  unfold ZU hP tP at hR0 ⊢
  have hbl:(SC.map Zj).length=SC.length:=Xz ..
  generalize hX2:X=X2 at *
  generalize hM2:Zb (L)=M2 at *
  generalize hM:Zb L=M at *
  generalize hSX2:iS X2=SX2 at *
  generalize hSX:iS X=SX at *
  generalize hSC:SC.map Zj=SV at *
  unfold Zj at e1
  have hz:∀ z:Int,(z != z)=false:=fun z=>bne_self_eq_false z
  rw [Zaw]
  simp -implicitDefEqProofs only [EQA,ZG,ZH,ZL,ZE,ZO,ZI,ZD,ZM,ZP,ZF,ZQ,ZJ,ZA,ZB,ZK,implies_true,forall_const,Xk,Xl,Xp,Xf,Xg,Xm,Xn,Zu,Zv,unA,Zo,Zr,unG,reduceCtorEq,Zi,decide_eq_true_eq,Xh,Xd,ite_self,↓reduceIte,Zq,Zt,gcT,gcA,Zl,Zf,Zd,Ze,Zm,Zc,Zk,Zg,Zn,Xj,Zah,Zae,Zan,Zaj,Zab,Zak,Zad,Zal,Zac,Zai,Zaa,ZN,Zw,ZC,Zz,Zy,Zx,ZaK,h1,h2,e1,hw,hk,hS,hR,hN,hr,hn,hr2,hn2,hbl,hz,Z8,Wj,AVal.cells,Za4]
  rw [Za5 _ _ _ _ _ _ _ (by rfl)]
  simp -implicitDefEqProofs only [EQA,ZG,ZH,ZL,ZE,ZO,ZI,ZD,ZM,ZP,ZF,ZQ,ZJ,ZA,ZB,ZK,implies_true,forall_const,Xk,Xl,Xp,Xf,Xg,Xm,Xn,Zu,Zv,unA,Zo,Zr,unG,reduceCtorEq,Zi,decide_eq_true_eq,Xh,Xd,ite_self,↓reduceIte,Zq,Zt,gcT,gcA,Zl,Zf,Zd,Ze,Zm,Zc,Zk,Zg,Zn,Xj,Zah,Zae,Zan,Zaj,Zab,Zak,Zad,Zal,Zac,Zai,Zaa,ZN,Zw,ZC,Zz,Zy,Zx,ZaK,hw,hr,hn,hr2,hn2]
  exact hR0
theorem Zxa (n:Nat) (SC:List (Int×Int)) (L X:List Int) (d m:Int) (i:Nat) (hi:SC[i]?=some (d,m)) (hi2:i < 150) (hI:Inv L X) (hX:X.length<=1000)
  (hk:∀ (σ:Za) (sq:Nat),ZR E2 BY σ sq 9 0 true [.int .i64 d,.int .i64 0,.int .i64 4]=some (.int .i64 3,σ,{}))  :
  ZU (tP i (SC.map Zj)) (hP n X (Zb L))=ZU (tP (i+1) (SC.map Zj)) (hP n (X) (Zb (L))):=by
  have l1:i < SC.length:=(Xc.1 hi).1
  have h1:(i:Int) < SC.length:=by omega
  have h2:(i:Int) < 150:=by omega
  have e1:=fun σ kk=>iad hi Zj (k:=2) rfl σ false kk
  have hw:IntKind.i64.wrap ((i:Int)+1)=((i+1:Nat):Int):=by rw [Za6 (by omega) (by omega)];omega
  have t3:=hI
  have hS:=fun {σ:Za} {sq:Nat} {view:Bool} hs hm=>Zap (ZgE L m (σ:=σ) (t:=3) (m:=4) (sq:=sq) (own:=0) (view:=view) (by decide) hs hm rfl)
  rw [hI.contains m] at hS
  have hR:=fun {σ:Za} {sq:Nat} hs hg=>Zla (σ:=σ) (t:=1) (g:=2) (sq:=sq) (X:=X) (by omega) m (by decide) hs hg
  have hlen:=ZbM t3
  have hN:=fun {σ:Za} {sq:Nat} {view:Bool} hs hm=>Zap (ZbP (L) (σ:=σ) (t:=3) (m:=4) (sq:=sq) (own:=0) (view:=view) (by decide) hs hm rfl)
  rw [hlen] at hN
  have hr2:=Zaq (L)
  have hn2:=fun ρ=>Zag ρ (L)
  have hr:=Zaq L
  have hn:=fun ρ=>Zag ρ L
  generalize hR0:ZU (tP (i+1) (SC.map Zj)) (hP n (X) (Zb (L)))=R
  unfold ZU hP tP at hR0 ⊢
  have hbl:(SC.map Zj).length=SC.length:=Xz ..
  generalize hX2:X=X2 at *
  generalize hM2:Zb (L)=M2 at *
  generalize hM:Zb L=M at *
  generalize hSX2:iS X2=SX2 at *
  generalize hSX:iS X=SX at *
  generalize hSC:SC.map Zj=SV at *
  unfold Zj at e1
  generalize X.contains m=zb at *
  have hz:∀ z:Int,(z != z)=false:=fun z=>bne_self_eq_false z
  rw [Zaw]
  simp -implicitDefEqProofs only [EQA,ZG,ZH,ZL,ZE,ZO,ZI,ZD,ZM,ZP,ZF,ZQ,ZJ,ZA,ZB,ZK,implies_true,forall_const,Xk,Xl,Xp,Xf,Xg,Xm,Xn,Zu,Zv,unA,Zo,Zr,unG,reduceCtorEq,Zi,decide_eq_true_eq,Xh,Xd,ite_self,↓reduceIte,Zq,Zt,gcT,gcA,Zl,Zf,Zd,Ze,Zm,Zc,Zk,Zg,Zn,Xj,Zah,Zae,Zan,Zaj,Zab,Zak,Zad,Zal,Zac,Zai,Zaa,ZN,Zw,ZC,Zz,Zy,Zx,ZaK,h1,h2,e1,hw,hk,hS,hR,hN,hr,hn,hr2,hn2,hbl,hz,Z8,Wj,AVal.cells,Za4]
  rw [Za5 _ _ _ _ _ _ _ (by rfl)]
  simp -implicitDefEqProofs only [EQA,ZG,ZH,ZL,ZE,ZO,ZI,ZD,ZM,ZP,ZF,ZQ,ZJ,ZA,ZB,ZK,implies_true,forall_const,Xk,Xl,Xp,Xf,Xg,Xm,Xn,Zu,Zv,unA,Zo,Zr,unG,reduceCtorEq,Zi,decide_eq_true_eq,Xh,Xd,ite_self,↓reduceIte,Zq,Zt,gcT,gcA,Zl,Zf,Zd,Ze,Zm,Zc,Zk,Zg,Zn,Xj,Zah,Zae,Zan,Zaj,Zab,Zak,Zad,Zal,Zac,Zai,Zaa,ZN,Zw,ZC,Zz,Zy,Zx,ZaK,hw,hr,hn,hr2,hn2]
  exact hR0
theorem ZnS (n:Nat) (l:List Int) (SC:List (Int×Int)) (L X:List Int) (d m:Int) (i:Nat) (hi:SC[i]?=some (d,m)) (hi2:i < 150) (hI:Inv L X) (hX:X.length<=1000)
  (hk:∀ (σ:Za) (sq:Nat),ZR E2 BY σ sq 9 0 true [.int .i64 d,.int .i64 0,.int .i64 4]=some (.int .i64 0,σ,{}))  :
  ZU (tQ i (SC.map Zj)) (hQ n l X (Zb L))=ZU (tQ (i+1) (SC.map Zj)) (hQ n l (ZaF (tk X) X) (Zb (L++[tk X]))):=by
  have l1:i < SC.length:=(Xc.1 hi).1
  have h1:(i:Int) < SC.length:=by omega
  have h2:(i:Int) < 150:=by omega
  have e1:=fun σ kk=>iad hi Zj (k:=2) rfl σ false kk
  have hw:IntKind.i64.wrap ((i:Int)+1)=((i+1:Nat):Int):=by rw [Za6 (by omega) (by omega)];omega
  obtain ⟨t1,t2,t3⟩:=ZhN hI (by omega)
  have hS:=fun {σ:Za} {sq:Nat} {view:Bool} hs hm=>Zap (Zgy L (σ:=σ) (t:=4) (m:=5) (sq:=sq) (own:=0) (view:=view) (by decide) hs hm rfl)
  rw [t1] at hS
  have hR:=fun {σ:Za} {sq:Nat} hs hg hff=>ZlB (σ:=σ) (t:=2) (g:=3) (sq:=sq) (X:=X) (by omega) t2 (by decide) hs hg hff
  have hlen:=ZbM t3
  have hN:=fun {σ:Za} {sq:Nat} {view:Bool} hs hm=>Zap (ZbP (L++[tk X]) (σ:=σ) (t:=4) (m:=5) (sq:=sq) (own:=0) (view:=view) (by decide) hs hm rfl)
  rw [hlen] at hN
  have hr2:=Zaq (L++[tk X])
  have hn2:=fun ρ=>Zag ρ (L++[tk X])
  have hr:=Zaq L
  have hn:=fun ρ=>Zag ρ L
  generalize hR0:ZU (tQ (i+1) (SC.map Zj)) (hQ n l (ZaF (tk X) X) (Zb (L++[tk X])))=R
  unfold ZU hQ tQ at hR0 ⊢
  have hbl:(SC.map Zj).length=SC.length:=Xz ..
  generalize hX2:ZaF (tk X) X=X2 at *
  generalize hM2:Zb (L++[tk X])=M2 at *
  generalize hM:Zb L=M at *
  generalize hSX2:iS X2=SX2 at *
  generalize hSX:iS X=SX at *
  generalize iS l=Sl at *
  generalize hSC:SC.map Zj=SV at *
  unfold Zj at e1
  generalize tk X=z at *
  have hz:∀ z:Int,(z != z)=false:=fun z=>bne_self_eq_false z
  rw [Zaw]
  simp -implicitDefEqProofs only [EQA,ZG,ZH,ZL,ZE,ZO,ZI,ZD,ZM,ZP,ZF,ZQ,ZJ,ZA,ZB,ZK,implies_true,forall_const,Xk,Xl,Xp,Xf,Xg,Xm,Xn,Zu,Zv,unA,Zo,Zr,unG,reduceCtorEq,Zi,decide_eq_true_eq,Xh,Xd,ite_self,↓reduceIte,Zq,Zt,gcT,gcA,Zl,Zf,Zd,Ze,Zm,Zc,Zk,Zg,Zn,Xj,Zah,Zae,Zan,Zaj,Zab,Zak,Zad,Zal,Zac,Zai,Zaa,ZN,Zw,ZC,Zz,Zy,Zx,ZaK,h1,h2,e1,hw,hk,hS,hR,hN,hr,hn,hr2,hn2,hbl,hz,Z8,Wj,AVal.cells,Za4]
  rw [Za5 _ _ _ _ _ _ _ (by rfl)]
  simp -implicitDefEqProofs only [EQA,ZG,ZH,ZL,ZE,ZO,ZI,ZD,ZM,ZP,ZF,ZQ,ZJ,ZA,ZB,ZK,implies_true,forall_const,Xk,Xl,Xp,Xf,Xg,Xm,Xn,Zu,Zv,unA,Zo,Zr,unG,reduceCtorEq,Zi,decide_eq_true_eq,Xh,Xd,ite_self,↓reduceIte,Zq,Zt,gcT,gcA,Zl,Zf,Zd,Ze,Zm,Zc,Zk,Zg,Zn,Xj,Zah,Zae,Zan,Zaj,Zab,Zak,Zad,Zal,Zac,Zai,Zaa,ZN,Zw,ZC,Zz,Zy,Zx,ZaK,hw,hr,hn,hr2,hn2]
  exact hR0
theorem Zyk (n:Nat) (l:List Int) (SC:List (Int×Int)) (L X:List Int) (d m:Int) (i:Nat) (hi:SC[i]?=some (d,m)) (hi2:i < 150) (hI:Inv L X) (hX:X.length<=1000)
  (hk:∀ (σ:Za) (sq:Nat),ZR E2 BY σ sq 9 0 true [.int .i64 d,.int .i64 0,.int .i64 4]=some (.int .i64 1,σ,{})) (ho:hOk m X=true) :
  ZU (tQ i (SC.map Zj)) (hQ n l X (Zb L))=ZU (tQ (i+1) (SC.map Zj)) (hQ n l (ZaF m X) (Zb ((Zaz L m).2))):=by
  have l1:i < SC.length:=(Xc.1 hi).1
  have h1:(i:Int) < SC.length:=by omega
  have h2:(i:Int) < 150:=by omega
  have e1:=fun σ kk=>iad hi Zj (k:=2) rfl σ false kk
  have hw:IntKind.i64.wrap ((i:Int)+1)=((i+1:Nat):Int):=by rw [Za6 (by omega) (by omega)];omega
  obtain ⟨t3,t4⟩:=Zfg hI m ho
  have hS:=fun {σ:Za} {sq:Nat} {view:Bool} hs hm=>Zap (Zem L m (σ:=σ) (t:=4) (m:=5) (sq:=sq) (own:=0) (view:=view) (by decide) hs hm rfl)
  rw [ZfP hI m,ho] at hS
  have hR:=fun {σ:Za} {sq:Nat} hs hg hff=>Zi1 (σ:=σ) (t:=2) (g:=3) (sq:=sq) (X:=X) (by omega) m ho (by decide) hs hg hff
  have hlen:=ZbM t3
  have hN:=fun {σ:Za} {sq:Nat} {view:Bool} hs hm=>Zap (ZbP ((Zaz L m).2) (σ:=σ) (t:=4) (m:=5) (sq:=sq) (own:=0) (view:=view) (by decide) hs hm rfl)
  rw [hlen] at hN
  have hr2:=Zaq ((Zaz L m).2)
  have hn2:=fun ρ=>Zag ρ ((Zaz L m).2)
  have hr:=Zaq L
  have hn:=fun ρ=>Zag ρ L
  generalize hR0:ZU (tQ (i+1) (SC.map Zj)) (hQ n l (ZaF m X) (Zb ((Zaz L m).2)))=R
  unfold ZU hQ tQ at hR0 ⊢
  have hbl:(SC.map Zj).length=SC.length:=Xz ..
  generalize hX2:ZaF m X=X2 at *
  generalize hM2:Zb ((Zaz L m).2)=M2 at *
  generalize hM:Zb L=M at *
  generalize hSX2:iS X2=SX2 at *
  generalize hSX:iS X=SX at *
  generalize iS l=Sl at *
  generalize hSC:SC.map Zj=SV at *
  unfold Zj at e1
  have hz:∀ z:Int,(z != z)=false:=fun z=>bne_self_eq_false z
  rw [Zaw]
  simp -implicitDefEqProofs only [EQA,ZG,ZH,ZL,ZE,ZO,ZI,ZD,ZM,ZP,ZF,ZQ,ZJ,ZA,ZB,ZK,implies_true,forall_const,Xk,Xl,Xp,Xf,Xg,Xm,Xn,Zu,Zv,unA,Zo,Zr,unG,reduceCtorEq,Zi,decide_eq_true_eq,Xh,Xd,ite_self,↓reduceIte,Zq,Zt,gcT,gcA,Zl,Zf,Zd,Ze,Zm,Zc,Zk,Zg,Zn,Xj,Zah,Zae,Zan,Zaj,Zab,Zak,Zad,Zal,Zac,Zai,Zaa,ZN,Zw,ZC,Zz,Zy,Zx,ZaK,h1,h2,e1,hw,hk,hS,hR,hN,hr,hn,hr2,hn2,hbl,hz,Z8,Wj,AVal.cells,Za4]
  rw [Za5 _ _ _ _ _ _ _ (by rfl)]
  simp -implicitDefEqProofs only [EQA,ZG,ZH,ZL,ZE,ZO,ZI,ZD,ZM,ZP,ZF,ZQ,ZJ,ZA,ZB,ZK,implies_true,forall_const,Xk,Xl,Xp,Xf,Xg,Xm,Xn,Zu,Zv,unA,Zo,Zr,unG,reduceCtorEq,Zi,decide_eq_true_eq,Xh,Xd,ite_self,↓reduceIte,Zq,Zt,gcT,gcA,Zl,Zf,Zd,Ze,Zm,Zc,Zk,Zg,Zn,Xj,Zah,Zae,Zan,Zaj,Zab,Zak,Zad,Zal,Zac,Zai,Zaa,ZN,Zw,ZC,Zz,Zy,Zx,ZaK,hw,hr,hn,hr2,hn2]
  exact hR0
theorem Zqv (n:Nat) (l:List Int) (SC:List (Int×Int)) (L X:List Int) (d m:Int) (i:Nat) (hi:SC[i]?=some (d,m)) (hi2:i < 150) (hI:Inv L X) (hX:X.length<=1000)
  (hk:∀ (σ:Za) (sq:Nat),ZR E2 BY σ sq 9 0 true [.int .i64 d,.int .i64 0,.int .i64 4]=some (.int .i64 1,σ,{})) (ho:hOk m X=false) :
  ZU (tQ i (SC.map Zj)) (hQ n l X (Zb L))=ZU (tQ (i+1) (SC.map Zj)) (hQ n l (X) (Zb (L))):=by
  have l1:i < SC.length:=(Xc.1 hi).1
  have h1:(i:Int) < SC.length:=by omega
  have h2:(i:Int) < 150:=by omega
  have e1:=fun σ kk=>iad hi Zj (k:=2) rfl σ false kk
  have hw:IntKind.i64.wrap ((i:Int)+1)=((i+1:Nat):Int):=by rw [Za6 (by omega) (by omega)];omega
  have t3:=hI
  have hS:=fun {σ:Za} {sq:Nat} {view:Bool} hs hm=>Zap (Zem L m (σ:=σ) (t:=4) (m:=5) (sq:=sq) (own:=0) (view:=view) (by decide) hs hm rfl)
  rw [ZfP hI m,ho,ZiK hI m ho] at hS
  have hR:=fun {σ:Za} {sq:Nat} hs hg hff=>ZjH (σ:=σ) (t:=2) (g:=3) (sq:=sq) (X:=X) (by omega) m ho (by decide) hs hg hff
  have hlen:=ZbM t3
  have hN:=fun {σ:Za} {sq:Nat} {view:Bool} hs hm=>Zap (ZbP (L) (σ:=σ) (t:=4) (m:=5) (sq:=sq) (own:=0) (view:=view) (by decide) hs hm rfl)
  rw [hlen] at hN
  have hr2:=Zaq (L)
  have hn2:=fun ρ=>Zag ρ (L)
  have hr:=Zaq L
  have hn:=fun ρ=>Zag ρ L
  generalize hR0:ZU (tQ (i+1) (SC.map Zj)) (hQ n l (X) (Zb (L)))=R
  unfold ZU hQ tQ at hR0 ⊢
  have hbl:(SC.map Zj).length=SC.length:=Xz ..
  generalize hX2:X=X2 at *
  generalize hM2:Zb (L)=M2 at *
  generalize hM:Zb L=M at *
  generalize hSX2:iS X2=SX2 at *
  generalize hSX:iS X=SX at *
  generalize iS l=Sl at *
  generalize hSC:SC.map Zj=SV at *
  unfold Zj at e1
  have hz:∀ z:Int,(z != z)=false:=fun z=>bne_self_eq_false z
  rw [Zaw]
  simp -implicitDefEqProofs only [EQA,ZG,ZH,ZL,ZE,ZO,ZI,ZD,ZM,ZP,ZF,ZQ,ZJ,ZA,ZB,ZK,implies_true,forall_const,Xk,Xl,Xp,Xf,Xg,Xm,Xn,Zu,Zv,unA,Zo,Zr,unG,reduceCtorEq,Zi,decide_eq_true_eq,Xh,Xd,ite_self,↓reduceIte,Zq,Zt,gcT,gcA,Zl,Zf,Zd,Ze,Zm,Zc,Zk,Zg,Zn,Xj,Zah,Zae,Zan,Zaj,Zab,Zak,Zad,Zal,Zac,Zai,Zaa,ZN,Zw,ZC,Zz,Zy,Zx,ZaK,h1,h2,e1,hw,hk,hS,hR,hN,hr,hn,hr2,hn2,hbl,hz,Z8,Wj,AVal.cells,Za4]
  rw [Za5 _ _ _ _ _ _ _ (by rfl)]
  simp -implicitDefEqProofs only [EQA,ZG,ZH,ZL,ZE,ZO,ZI,ZD,ZM,ZP,ZF,ZQ,ZJ,ZA,ZB,ZK,implies_true,forall_const,Xk,Xl,Xp,Xf,Xg,Xm,Xn,Zu,Zv,unA,Zo,Zr,unG,reduceCtorEq,Zi,decide_eq_true_eq,Xh,Xd,ite_self,↓reduceIte,Zq,Zt,gcT,gcA,Zl,Zf,Zd,Ze,Zm,Zc,Zk,Zg,Zn,Xj,Zah,Zae,Zan,Zaj,Zab,Zak,Zad,Zal,Zac,Zai,Zaa,ZN,Zw,ZC,Zz,Zy,Zx,ZaK,hw,hr,hn,hr2,hn2]
  exact hR0
theorem Zqf (n:Nat) (l:List Int) (SC:List (Int×Int)) (L X:List Int) (d m:Int) (i:Nat) (hi:SC[i]?=some (d,m)) (hi2:i < 150) (hI:Inv L X) (hX:X.length<=1000)
  (hk:∀ (σ:Za) (sq:Nat),ZR E2 BY σ sq 9 0 true [.int .i64 d,.int .i64 0,.int .i64 4]=some (.int .i64 2,σ,{})) (ho:X.contains m=true) :
  ZU (tQ i (SC.map Zj)) (hQ n l X (Zb L))=ZU (tQ (i+1) (SC.map Zj)) (hQ n l (Zbk X (X.idxOf m)) (Zb (L.erase m))):=by
  have l1:i < SC.length:=(Xc.1 hi).1
  have h1:(i:Int) < SC.length:=by omega
  have h2:(i:Int) < 150:=by omega
  have e1:=fun σ kk=>iad hi Zj (k:=2) rfl σ false kk
  have hw:IntKind.i64.wrap ((i:Int)+1)=((i+1:Nat):Int):=by rw [Za6 (by omega) (by omega)];omega
  have t3:=ZjM hI m ho
  have hS:=fun {σ:Za} {sq:Nat} {view:Bool} hs hm=>Zap (Zes L m (σ:=σ) (t:=4) (m:=5) (sq:=sq) (own:=0) (view:=view) (by decide) hs hm rfl)
  rw [hI.contains m,ho] at hS
  have hR:=fun {σ:Za} {sq:Nat} hs hg hff=>Zkw (σ:=σ) (t:=2) (g:=3) (sq:=sq) (X:=X) (by omega) m ho (by decide) hs hg hff
  have hlen:=ZbM t3
  have hN:=fun {σ:Za} {sq:Nat} {view:Bool} hs hm=>Zap (ZbP (L.erase m) (σ:=σ) (t:=4) (m:=5) (sq:=sq) (own:=0) (view:=view) (by decide) hs hm rfl)
  rw [hlen] at hN
  have hr2:=Zaq (L.erase m)
  have hn2:=fun ρ=>Zag ρ (L.erase m)
  have hr:=Zaq L
  have hn:=fun ρ=>Zag ρ L
  generalize hR0:ZU (tQ (i+1) (SC.map Zj)) (hQ n l (Zbk X (X.idxOf m)) (Zb (L.erase m)))=R
  unfold ZU hQ tQ at hR0 ⊢
  have hbl:(SC.map Zj).length=SC.length:=Xz ..
  generalize hX2:Zbk X (X.idxOf m)=X2 at *
  generalize hM2:Zb (L.erase m)=M2 at *
  generalize hM:Zb L=M at *
  generalize hSX2:iS X2=SX2 at *
  generalize hSX:iS X=SX at *
  generalize iS l=Sl at *
  generalize hSC:SC.map Zj=SV at *
  unfold Zj at e1
  have hz:∀ z:Int,(z != z)=false:=fun z=>bne_self_eq_false z
  rw [Zaw]
  simp -implicitDefEqProofs only [EQA,ZG,ZH,ZL,ZE,ZO,ZI,ZD,ZM,ZP,ZF,ZQ,ZJ,ZA,ZB,ZK,implies_true,forall_const,Xk,Xl,Xp,Xf,Xg,Xm,Xn,Zu,Zv,unA,Zo,Zr,unG,reduceCtorEq,Zi,decide_eq_true_eq,Xh,Xd,ite_self,↓reduceIte,Zq,Zt,gcT,gcA,Zl,Zf,Zd,Ze,Zm,Zc,Zk,Zg,Zn,Xj,Zah,Zae,Zan,Zaj,Zab,Zak,Zad,Zal,Zac,Zai,Zaa,ZN,Zw,ZC,Zz,Zy,Zx,ZaK,h1,h2,e1,hw,hk,hS,hR,hN,hr,hn,hr2,hn2,hbl,hz,Z8,Wj,AVal.cells,Za4]
  rw [Za5 _ _ _ _ _ _ _ (by rfl)]
  simp -implicitDefEqProofs only [EQA,ZG,ZH,ZL,ZE,ZO,ZI,ZD,ZM,ZP,ZF,ZQ,ZJ,ZA,ZB,ZK,implies_true,forall_const,Xk,Xl,Xp,Xf,Xg,Xm,Xn,Zu,Zv,unA,Zo,Zr,unG,reduceCtorEq,Zi,decide_eq_true_eq,Xh,Xd,ite_self,↓reduceIte,Zq,Zt,gcT,gcA,Zl,Zf,Zd,Ze,Zm,Zc,Zk,Zg,Zn,Xj,Zah,Zae,Zan,Zaj,Zab,Zak,Zad,Zal,Zac,Zai,Zaa,ZN,Zw,ZC,Zz,Zy,Zx,ZaK,hw,hr,hn,hr2,hn2]
  exact hR0
theorem ZtY (n:Nat) (l:List Int) (SC:List (Int×Int)) (L X:List Int) (d m:Int) (i:Nat) (hi:SC[i]?=some (d,m)) (hi2:i < 150) (hI:Inv L X) (hX:X.length<=1000)
  (hk:∀ (σ:Za) (sq:Nat),ZR E2 BY σ sq 9 0 true [.int .i64 d,.int .i64 0,.int .i64 4]=some (.int .i64 2,σ,{})) (ho:X.contains m=false) :
  ZU (tQ i (SC.map Zj)) (hQ n l X (Zb L))=ZU (tQ (i+1) (SC.map Zj)) (hQ n l (X) (Zb (L))):=by
  have l1:i < SC.length:=(Xc.1 hi).1
  have h1:(i:Int) < SC.length:=by omega
  have h2:(i:Int) < 150:=by omega
  have e1:=fun σ kk=>iad hi Zj (k:=2) rfl σ false kk
  have hw:IntKind.i64.wrap ((i:Int)+1)=((i+1:Nat):Int):=by rw [Za6 (by omega) (by omega)];omega
  have t3:=hI
  have hS:=fun {σ:Za} {sq:Nat} {view:Bool} hs hm=>Zap (Zes L m (σ:=σ) (t:=4) (m:=5) (sq:=sq) (own:=0) (view:=view) (by decide) hs hm rfl)
  rw [hI.contains m,ho,Zkp hI m ho] at hS
  have hR:=fun {σ:Za} {sq:Nat} hs hg hff=>Znh (σ:=σ) (t:=2) (g:=3) (sq:=sq) (X:=X) (by omega) m ho (by decide) hs hg hff
  have hlen:=ZbM t3
  have hN:=fun {σ:Za} {sq:Nat} {view:Bool} hs hm=>Zap (ZbP (L) (σ:=σ) (t:=4) (m:=5) (sq:=sq) (own:=0) (view:=view) (by decide) hs hm rfl)
  rw [hlen] at hN
  have hr2:=Zaq (L)
  have hn2:=fun ρ=>Zag ρ (L)
  have hr:=Zaq L
  have hn:=fun ρ=>Zag ρ L
  generalize hR0:ZU (tQ (i+1) (SC.map Zj)) (hQ n l (X) (Zb (L)))=R
  unfold ZU hQ tQ at hR0 ⊢
  have hbl:(SC.map Zj).length=SC.length:=Xz ..
  generalize hX2:X=X2 at *
  generalize hM2:Zb (L)=M2 at *
  generalize hM:Zb L=M at *
  generalize hSX2:iS X2=SX2 at *
  generalize hSX:iS X=SX at *
  generalize iS l=Sl at *
  generalize hSC:SC.map Zj=SV at *
  unfold Zj at e1
  have hz:∀ z:Int,(z != z)=false:=fun z=>bne_self_eq_false z
  rw [Zaw]
  simp -implicitDefEqProofs only [EQA,ZG,ZH,ZL,ZE,ZO,ZI,ZD,ZM,ZP,ZF,ZQ,ZJ,ZA,ZB,ZK,implies_true,forall_const,Xk,Xl,Xp,Xf,Xg,Xm,Xn,Zu,Zv,unA,Zo,Zr,unG,reduceCtorEq,Zi,decide_eq_true_eq,Xh,Xd,ite_self,↓reduceIte,Zq,Zt,gcT,gcA,Zl,Zf,Zd,Ze,Zm,Zc,Zk,Zg,Zn,Xj,Zah,Zae,Zan,Zaj,Zab,Zak,Zad,Zal,Zac,Zai,Zaa,ZN,Zw,ZC,Zz,Zy,Zx,ZaK,h1,h2,e1,hw,hk,hS,hR,hN,hr,hn,hr2,hn2,hbl,hz,Z8,Wj,AVal.cells,Za4]
  rw [Za5 _ _ _ _ _ _ _ (by rfl)]
  simp -implicitDefEqProofs only [EQA,ZG,ZH,ZL,ZE,ZO,ZI,ZD,ZM,ZP,ZF,ZQ,ZJ,ZA,ZB,ZK,implies_true,forall_const,Xk,Xl,Xp,Xf,Xg,Xm,Xn,Zu,Zv,unA,Zo,Zr,unG,reduceCtorEq,Zi,decide_eq_true_eq,Xh,Xd,ite_self,↓reduceIte,Zq,Zt,gcT,gcA,Zl,Zf,Zd,Ze,Zm,Zc,Zk,Zg,Zn,Xj,Zah,Zae,Zan,Zaj,Zab,Zak,Zad,Zal,Zac,Zai,Zaa,ZN,Zw,ZC,Zz,Zy,Zx,ZaK,hw,hr,hn,hr2,hn2]
  exact hR0
theorem ZqX (n:Nat) (l:List Int) (SC:List (Int×Int)) (L X:List Int) (d m:Int) (i:Nat) (hi:SC[i]?=some (d,m)) (hi2:i < 150) (hI:Inv L X) (hX:X.length<=1000)
  (hk:∀ (σ:Za) (sq:Nat),ZR E2 BY σ sq 9 0 true [.int .i64 d,.int .i64 0,.int .i64 4]=some (.int .i64 3,σ,{}))  :
  ZU (tQ i (SC.map Zj)) (hQ n l X (Zb L))=ZU (tQ (i+1) (SC.map Zj)) (hQ n l (X) (Zb (L))):=by
  have l1:i < SC.length:=(Xc.1 hi).1
  have h1:(i:Int) < SC.length:=by omega
  have h2:(i:Int) < 150:=by omega
  have e1:=fun σ kk=>iad hi Zj (k:=2) rfl σ false kk
  have hw:IntKind.i64.wrap ((i:Int)+1)=((i+1:Nat):Int):=by rw [Za6 (by omega) (by omega)];omega
  have t3:=hI
  have hS:=fun {σ:Za} {sq:Nat} {view:Bool} hs hm=>Zap (ZgE L m (σ:=σ) (t:=4) (m:=5) (sq:=sq) (own:=0) (view:=view) (by decide) hs hm rfl)
  rw [hI.contains m] at hS
  have hR:=fun {σ:Za} {sq:Nat} hs hg=>Zla (σ:=σ) (t:=2) (g:=3) (sq:=sq) (X:=X) (by omega) m (by decide) hs hg
  have hlen:=ZbM t3
  have hN:=fun {σ:Za} {sq:Nat} {view:Bool} hs hm=>Zap (ZbP (L) (σ:=σ) (t:=4) (m:=5) (sq:=sq) (own:=0) (view:=view) (by decide) hs hm rfl)
  rw [hlen] at hN
  have hr2:=Zaq (L)
  have hn2:=fun ρ=>Zag ρ (L)
  have hr:=Zaq L
  have hn:=fun ρ=>Zag ρ L
  generalize hR0:ZU (tQ (i+1) (SC.map Zj)) (hQ n l (X) (Zb (L)))=R
  unfold ZU hQ tQ at hR0 ⊢
  have hbl:(SC.map Zj).length=SC.length:=Xz ..
  generalize hX2:X=X2 at *
  generalize hM2:Zb (L)=M2 at *
  generalize hM:Zb L=M at *
  generalize hSX2:iS X2=SX2 at *
  generalize hSX:iS X=SX at *
  generalize iS l=Sl at *
  generalize hSC:SC.map Zj=SV at *
  unfold Zj at e1
  generalize X.contains m=zb at *
  have hz:∀ z:Int,(z != z)=false:=fun z=>bne_self_eq_false z
  rw [Zaw]
  simp -implicitDefEqProofs only [EQA,ZG,ZH,ZL,ZE,ZO,ZI,ZD,ZM,ZP,ZF,ZQ,ZJ,ZA,ZB,ZK,implies_true,forall_const,Xk,Xl,Xp,Xf,Xg,Xm,Xn,Zu,Zv,unA,Zo,Zr,unG,reduceCtorEq,Zi,decide_eq_true_eq,Xh,Xd,ite_self,↓reduceIte,Zq,Zt,gcT,gcA,Zl,Zf,Zd,Ze,Zm,Zc,Zk,Zg,Zn,Xj,Zah,Zae,Zan,Zaj,Zab,Zak,Zad,Zal,Zac,Zai,Zaa,ZN,Zw,ZC,Zz,Zy,Zx,ZaK,h1,h2,e1,hw,hk,hS,hR,hN,hr,hn,hr2,hn2,hbl,hz,Z8,Wj,AVal.cells,Za4]
  rw [Za5 _ _ _ _ _ _ _ (by rfl)]
  simp -implicitDefEqProofs only [EQA,ZG,ZH,ZL,ZE,ZO,ZI,ZD,ZM,ZP,ZF,ZQ,ZJ,ZA,ZB,ZK,implies_true,forall_const,Xk,Xl,Xp,Xf,Xg,Xm,Xn,Zu,Zv,unA,Zo,Zr,unG,reduceCtorEq,Zi,decide_eq_true_eq,Xh,Xd,ite_self,↓reduceIte,Zq,Zt,gcT,gcA,Zl,Zf,Zd,Ze,Zm,Zc,Zk,Zg,Zn,Xj,Zah,Zae,Zan,Zaj,Zab,Zak,Zad,Zal,Zac,Zai,Zaa,ZN,Zw,ZC,Zz,Zy,Zx,ZaK,hw,hr,hn,hr2,hn2]
  exact hR0
end
section
theorem ZgQ {O:ZV} {bf:Nat->Bool} {σ:Za} {sq f own:Nat} {view:Bool} {args vs':List AVal} {ids:List Nat} {h0 h:Za} {r:AVal} (hb:bf f=true) (hre:Zf σ 1000 (Z3 args) []=ids) (hne:ids.isEmpty=false)
  (hall:(ids.all fun t=>okB (σ.getD t .free))=true) (hvs:ZX (Zd σ 0 ids) args=vs') (hh:Ze σ 0 ids (Zd σ 0 ids) ids 0=h0) (hO:ZaX view ids.length (O f vs' h0)=some (r,h))
  (hl1:h.length<=ids.length+own) (hl2:ids.length<=h.length) (hk:Za3 σ ids h 0=true) (hff:Z8 σ sq own=true) {r':AVal} (hr:Zp (ZaL σ ids sq) r=r') {σ':Za} (hlay:ZaT σ ids sq h 0 σ=σ') {u:List (Nat×List AVal)} (hu:Zbx σ' ids=u) :
  ZR O bf σ sq f own view args=some (r',σ',{ any:=true,upd:=u }):=by
 subst hr hlay hu
 unfold ZR ZbZ
 rw [hb]
 simp only [if_true,show ZT σ []=σ from rfl,hre]
 unfold Zby
 rw [if_pos hall,hvs,hh,hO]
 simp only [ZaJ,hne,Bool.false_and,Xw,if_false,hl1,hl2,decide_true,hk,hff,Ww,if_true]
theorem Zhs (args:List AVal) (σ:Za):E2 18 args σ=Zdz args σ:=ZjI (by rfl) args σ
theorem Zm5 (args:List AVal) (σ:Za):E2 21 args σ=ZeU args σ:=ZjI (by rfl) args σ
theorem ZgV {L:List Int} (hL0:L=[]) {σ:Za} {t m sq:Nat} (htm:t≠m) (hs:σ[t]?=some (.var [.map m])) (hm:σ[m]?=some (.map (Zb L))) (hff:Z8 σ sq 1=true) :
  ZR E2 BY σ sq 17 1 false [.ref t 0]=some (.lst true [],(σ.set t (.var [.map m])).set m (.map (Zb L)),{ any:=true,upd:=[(t,[.map m])] }):=by
 have h:=ZgC L (by subst hL0;simp)
 rw [if_pos hL0] at h
 exact Zih (O:=E2) (args:=[]) (l':=L) (view:=false) (q:=.lst true []) rfl h rfl (by kernel_rfl) rfl rfl htm hs hm hff
theorem Zgh {L X:List Int} (hI:Inv L X) (hX:X.length<=1000) (hL0:¬L=[]) {σ:Za} {t m sq:Nat} (htm:t≠m) (hs:σ[t]?=some (.var [.map m])) (hm:σ[m]?=some (.map (Zb L))) (hff:Z8 σ sq 1=true) :
  ZR E2 BY σ sq 17 1 false [.ref t 0]=some (.sl sq 0 0 X.length,((σ.set t (.var [.map m])).set m (.map (Zb L))).set sq (.row 0 1 (iS X)),{ any:=true,upd:=[(t,[.map m])] }):=by
 have hlen:=ZbM hI
 have h:=ZgC L (by omega)
 rw [if_neg hL0,Ztm hI,hlen] at h
 change E2 _ _ _=some (.sl 2 0 0 X.length,[.var [.map 1],.map (Zb L),.row 0 1 (iS X)]) at h
 have htl:t < σ.length:=(Xc.1 hs).1
 have hml:m < σ.length:=(Xc.1 hm).1
 have hfs:σ[sq]?=some .free:=by
  have:=ZdZ hff (i:=0) (by decide)
  simpa using this
 have hst:sq≠t:=by rintro rfl;rw [hs] at hfs;cases hfs
 have hsm:sq≠m:=by rintro rfl;rw [hm] at hfs;cases hfs
 have h1:σ.getD t .free=.var [.map m]:=by simp [Xi,hs]
 have h2:σ.getD m .free=.map (Zb L):=by simp [Xi,hm]
 have hsh:showAs σ [.ref t 0]=some ([.ref t 0],[]):=rfl
 have hre:Zf σ 1000 (Z3 [.ref t 0]) []=[t,m]:=by
  have e0:([]:List Nat).contains t=false:=rfl
  have e1:([t]:List Nat).contains m=false:=by simp;exact fun e=>htm e.symm
  rw [show Z3 [AVal.ref t 0]=[t] from rfl,show (1000:Nat)=997+1+1+1 from rfl]
  have hb0:Zn (.var [.map m])=[m]:=rfl
  simp only [Zf,e0,h1,hb0,XL,XW,Wh,Xw,if_false,e1,h2,Zfy,XX]
 have hρt:Zd σ 0 [t,m] t 0=some (0,0):=by simp [Zd,Zm,hs,Zc,Zk]
 have hρm:Zd σ 0 [t,m] m 0=some (1,0):=by simp [Zd,Zm,hm,Zc,Zk,htm]
 have hvs:ZX (Zd σ 0 [t,m]) [.ref t 0]=[.ref 0 0]:=by simp only [ZX,Zp,hρt]
 have hh:Ze σ 0 [t,m] (Zd σ 0 [t,m]) [t,m] 0=ZW L:=by
  simp only [Ze,h1,h2,Zg,Zag,ZX,Zp,hρm,ZW]
 have hall:([t,m].all fun t=>okB (σ.getD t .free))=true:=by simp only [Wc,WW,h1,h2,okB,Ww]
 have hk:Za3 σ [t,m] [.var [.map 1],.map (Zb L),.row 0 1 (iS X)] 0=true:=by simp [Za3,okB,ZcT,Zc,hs,hm]
 have hρb:ZaL σ [t,m] sq 1 0=some (m,0):=by simp [ZaL,Zc,hm]
 have hρb2:ZaL σ [t,m] sq 2 0=some (sq,0):=by simp [ZaL]
 have hlay:ZaT σ [t,m] sq [.var [.map 1],.map (Zb L),.row 0 1 (iS X)] 0 σ=((σ.set t (.var [.map m])).set m (.map (Zb L))).set sq (.row 0 1 (iS X)):=by
  simp [ZaT,ZaH,Zbn,Zc,Zg,Zag,ZX,Zp,hρb,hs,hm,Xi]
 refine ZdP (view:=false) (by kernel_rfl) hsh hre rfl hall hvs hh h rfl (by simp) (by simp) hk hff (by simp only [Zp,hρb2]) hlay ?_
 have h3:(((σ.set t (.var [.map m])).set m (.map (Zb L))).set sq (.row 0 1 (iS X)))[t]?=some (.var [.map m]):=by
  rw [Xq,if_neg hst,Xq,if_neg (fun e=>htm e.symm),Xq,if_pos rfl,if_pos htl]
 have h4:(((σ.set t (.var [.map m])).set m (.map (Zb L))).set sq (.row 0 1 (iS X)))[m]?=some (.map (Zb L)):=by
  rw [Xq,if_neg hsm,Xq,if_pos rfl,if_pos (by simpa using hml)]
 simp [Zbx,h3,h4]
theorem ZgK (X:List Int) (hX:X.length<=1000) {σ:Za} {a b sq:Nat} (ha:σ[a]?=some (.row 0 1 (iS X))) (hb:σ[b]?=some (.row 0 1 (iS X))) :
  ZR E2 BY σ sq 19 0 true [.sl a 0 0 X.length,.sl b 0 0 X.length]=some (.bool true,σ,{ rd:=[a,b] }):=by
 have hl:(iS X).length=X.length:=ZcB X
 have ea:∀ {c:Nat},σ[c]?=some (.row 0 1 (iS X))->Zi σ (.sl c 0 0 X.length)=some (iS X,[c]):=by
  intro c hc
  simp only [Zi,hc,Nat.zero_add,hl,Nat.le_refl,and_self,if_true,Xar]
  rw [X6 (by omega)]
 have hq:=Zjx X X (by omega)
 rw [show (X == X)=true by simp] at hq
 exact Zap (Zne (O:=E) (bf:=BY) (vs:=[.lst false (iS X),.lst false (iS X)]) (ts:=[a,b]) (r:=.bool true) (r':=.bool true) (by kernel_rfl) (by simp only [showAs,showA,ZbV,ea ha,ea hb];rfl) rfl rfl hq rfl rfl sq 0)
theorem ZgP {σ:Za} {b sq:Nat} (hb:σ[b]?=some (.row 0 1 [])) :
  ZR E2 BY σ sq 19 0 true [.lst true [],.sl b 0 0 0]=some (.bool true,σ,{ rd:=[b] }):=by
 have eb:Zi σ (.sl b 0 0 0)=some ([],[b]):=by simp [Zi,hb]
 have hq:=Zjx [] [] (by decide)
 rw [show (([]:List Int) == [])=true by simp] at hq
 exact Zap (Zne (O:=E) (bf:=BY) (vs:=[.lst false [],.lst false []]) (ts:=[b]) (r:=.bool true) (r':=.bool true) (by kernel_rfl) (by simp only [showAs,showA,ZbV,eb];rfl) rfl rfl hq rfl rfl sq 0)
end
section
theorem Zgw (X:List Int):Zb6 (iS X)=some X:=ZlK X
theorem ZAm (n:Nat) (hn:n < 400):E2 18 [.ref 0 0,.lst true []] [.book n []]=some (.tup [],[.book (n+1) []]):=by
 rw [Zhs];simp only [Zdz,if_pos hn]
theorem Zw0 (n:Nat) (hn:n < 400) (X:List Int) (hX:X.length<=1000):E2 18 [.ref 0 0,.sl 1 0 0 X.length] [.book n [],.row 0 1 (iS X)]=some (.tup [],[.book n [(.sl 1 0 0 X.length,X)],.row 0 1 (iS X)]):=by
 rw [Zhs];simp only [Zdz,Zgw];rw [if_pos ⟨trivial,by omega,hn⟩]
theorem ZsD (n:Nat) (hn:n+1 < 400) (l:List Int):E2 18 [.ref 0 0,.lst true []] [.book n [(.sl 1 0 0 l.length,l)],.row 0 1 (iS l)]=some (.tup [],[.book (n+2) [],.frow 0 1 []]):=by
 rw [Zhs];simp only [Zdz,Zgw];rw [if_pos ⟨trivial,trivial,hn⟩]
theorem Zo3 (n:Nat) (hn:n+1 < 400) (l X:List Int) (hX:X.length<=1000):E2 18 [.ref 0 0,.sl 2 0 0 X.length] [.book n [(.sl 1 0 0 l.length,l)],.row 0 1 (iS l),.row 0 1 (iS X)]=some (.tup [],[.book (n+1) [(.sl 2 0 0 X.length,X)],.frow 0 1 [],.row 0 1 (iS X)]):=by
 rw [Zhs];simp only [Zdz,Zgw];rw [if_pos ⟨trivial,trivial,trivial,by omega,hn⟩]
theorem Zwl (n:Nat) (X:List Int) (M:List (AVal×AVal)) (hn:n < 400) (hX:X.length<=1000) (sq:Nat) :
  ZR E2 BY [.book n [],.var [.sl 2 0 0 X.length],.row 0 1 (iS X),.var [.map 4],.map M,.free] sq 18 0 false [.ref 0 0,.lst true []]=some (.tup [],[.book (n+1) [],.var [.sl 2 0 0 X.length],.row 0 1 (iS X),.var [.map 4],.map M,.free],{ any:=true,upd:=[] }) :=
 ZgQ (O:=E2) (bf:=BY) (view:=false) (vs':=[.ref 0 0,.lst true []]) (ids:=[0]) (h0:=[.book n []]) (h:=[.book (n+1) []]) (r:=.tup []) (by kernel_rfl) rfl rfl rfl rfl rfl (ZAm n hn) (XT rfl) (XT rfl) rfl rfl rfl rfl rfl
theorem ZnB (n:Nat) (X:List Int) (M:List (AVal×AVal)) (hn:n < 400) (hX:X.length<=1000) (sq:Nat) :
  ZR E2 BY [.book n [],.var [.sl 2 0 0 X.length],.row 0 1 (iS X),.var [.map 4],.map M,.row 0 1 (iS X)] sq 18 0 false [.ref 0 0,.sl 5 0 0 X.length]=some (.tup [],[.book n [(.sl 5 0 0 X.length,X)],.var [.sl 2 0 0 X.length],.row 0 1 (iS X),.var [.map 4],.map M,.row 0 1 (iS X)],{ any:=true,upd:=[] }) :=
 ZgQ (O:=E2) (bf:=BY) (view:=false) (vs':=[.ref 0 0,.sl 1 0 0 X.length]) (ids:=[0,5]) (h0:=[.book n [],.row 0 1 (iS X)]) (h:=[.book n [(.sl 1 0 0 X.length,X)],.row 0 1 (iS X)]) (r:=.tup []) (by kernel_rfl) rfl rfl rfl rfl rfl (Zw0 n hn X hX) (XT rfl) (XT rfl) rfl rfl rfl rfl rfl
theorem Zy8 (n:Nat) (l:List Int) (X:List Int) (M:List (AVal×AVal)) (hn:n+1 < 400) (hX:X.length<=1000) (sq:Nat) :
  ZR E2 BY [.book n [(.sl 1 0 0 l.length,l)],.row 0 1 (iS l),.var [.sl 3 0 0 X.length],.row 0 1 (iS X),.var [.map 5],.map M,.free] sq 18 0 false [.ref 0 0,.lst true []]=some (.tup [],[.book (n+2) [],.frow 0 1 [],.var [.sl 3 0 0 X.length],.row 0 1 (iS X),.var [.map 5],.map M,.free],{ any:=true,upd:=[] }) :=
 ZgQ (O:=E2) (bf:=BY) (view:=false) (vs':=[.ref 0 0,.lst true []]) (ids:=[0,1]) (h0:=[.book n [(.sl 1 0 0 l.length,l)],.row 0 1 (iS l)]) (h:=[.book (n+2) [],.frow 0 1 []]) (r:=.tup []) (by kernel_rfl) rfl rfl rfl rfl rfl (ZsD n hn l) (XT rfl) (XT rfl) rfl rfl rfl rfl rfl
theorem Zts (n:Nat) (l:List Int) (X:List Int) (M:List (AVal×AVal)) (hn:n+1 < 400) (hX:X.length<=1000) (sq:Nat) :
  ZR E2 BY [.book n [(.sl 1 0 0 l.length,l)],.row 0 1 (iS l),.var [.sl 3 0 0 X.length],.row 0 1 (iS X),.var [.map 5],.map M,.row 0 1 (iS X)] sq 18 0 false [.ref 0 0,.sl 6 0 0 X.length]=some (.tup [],[.book (n+1) [(.sl 6 0 0 X.length,X)],.frow 0 1 [],.var [.sl 3 0 0 X.length],.row 0 1 (iS X),.var [.map 5],.map M,.row 0 1 (iS X)],{ any:=true,upd:=[] }) :=
 ZgQ (O:=E2) (bf:=BY) (view:=false) (vs':=[.ref 0 0,.sl 2 0 0 X.length]) (ids:=[0,1,6]) (h0:=[.book n [(.sl 1 0 0 l.length,l)],.row 0 1 (iS l),.row 0 1 (iS X)]) (h:=[.book (n+1) [(.sl 2 0 0 X.length,X)],.frow 0 1 [],.row 0 1 (iS X)]) (r:=.tup []) (by kernel_rfl) rfl rfl rfl rfl rfl (Zo3 n hn l X hX) (XT rfl) (XT rfl) rfl rfl rfl rfl rfl
theorem ZrK (n:Nat) (SC:List (Int×Int)) (L X:List Int) (d m:Int) (i:Nat) (hi:SC[i]?=some (d,m)) (hi2:i < 150) (hI:Inv L X) (hX:X.length<=1000) (hn:n < 400)
  (hk:∀ (σ:Za) (sq:Nat),ZR E2 BY σ sq 9 0 true [.int .i64 d,.int .i64 0,.int .i64 4]=some (.int .i64 4,σ,{})) (hL0:L=[]) :
  ZU (tP i (SC.map Zj)) (hP n X (Zb L))=ZU (tP (i+1) (SC.map Zj)) (hP (n+1) X (Zb L)):=by
  have l1:i < SC.length:=(Xc.1 hi).1
  have h1:(i:Int) < SC.length:=by omega
  have h2:(i:Int) < 150:=by omega
  have e1:=fun σ kk=>iad hi Zj (k:=2) rfl σ false kk
  have hw:IntKind.i64.wrap ((i:Int)+1)=((i+1:Nat):Int):=by rw [Za6 (by omega) (by omega)];omega
  have hA:=fun {σ:Za} {sq:Nat} hs hm hff=>ZgV hL0 (σ:=σ) (t:=3) (m:=4) (sq:=sq) (by decide) hs hm hff
  have hX0:X=[]:=by subst hL0;exact Xbl.1 hI.1
  have hV:=fun {σ:Za} {sq:Nat} hb=>ZgP (σ:=σ) (b:=2) (sq:=sq) hb
  have hB:=Zwl n X (Zb L) hn hX
  have hlen:=ZbM hI
  have hN:=fun {σ:Za} {sq:Nat} {view:Bool} hs hm=>Zap (ZbP L (σ:=σ) (t:=3) (m:=4) (sq:=sq) (own:=0) (view:=view) (by decide) hs hm rfl)
  rw [hlen] at hN
  have hr:=Zaq L
  have hn2:=fun ρ=>Zag ρ L
  generalize hR0:ZU (tP (i+1) (SC.map Zj)) (hP (n+1) X (Zb L))=R
  unfold ZU hP tP at hR0
  unfold ZU hP tP
  have hbl:(SC.map Zj).length=SC.length:=Xz ..
  subst hX0
  have e0:iS []=[]:=rfl
  have e00:([]:List Int).length=0:=rfl
  rw [e0] at hB hR0 ⊢
  rw [e00] at hB hN hR0 ⊢
  generalize hM:Zb L=M at *
  generalize hSC:SC.map Zj=SV at *
  unfold Zj at e1
  have hz:∀ z:Int,(z != z)=false:=fun z=>bne_self_eq_false z
  rw [Zaw]
  simp -implicitDefEqProofs only [EQA,ZG,ZH,ZL,ZE,ZO,ZI,ZD,ZM,ZP,ZF,ZQ,ZJ,ZA,ZB,ZK,implies_true,forall_const,Xk,Xl,Xp,Xf,Xg,Xm,Xn,Zu,Zv,unA,Zo,Zr,unG,reduceCtorEq,Zi,decide_eq_true_eq,Xh,Xd,ite_self,↓reduceIte,Zq,Zt,gcT,gcA,Zl,Zf,Zd,Ze,Zm,Zc,Zk,Zg,Zn,Xj,Zah,Zae,Zan,Zaj,Zab,Zak,Zad,Zal,Zac,Zai,Zaa,ZN,Zw,ZC,Zz,Zy,Zx,ZaK,h1,h2,e1,hw,hk,hA,hB,hV,hN,hr,hn2,hbl,hz,Z8,Wj,AVal.cells,Za4]
  rw [Za5 _ _ _ _ _ _ _ (by rfl)]
  simp -implicitDefEqProofs only [EQA,ZG,ZH,ZL,ZE,ZO,ZI,ZD,ZM,ZP,ZF,ZQ,ZJ,ZA,ZB,ZK,implies_true,forall_const,Xk,Xl,Xp,Xf,Xg,Xm,Xn,Zu,Zv,unA,Zo,Zr,unG,reduceCtorEq,Zi,decide_eq_true_eq,Xh,Xd,ite_self,↓reduceIte,Zq,Zt,gcT,gcA,Zl,Zf,Zd,Ze,Zm,Zc,Zk,Zg,Zn,Xj,Zah,Zae,Zan,Zaj,Zab,Zak,Zad,Zal,Zac,Zai,Zaa,ZN,Zw,ZC,Zz,Zy,Zx,ZaK,hw,hr,hn2]
  exact hR0
theorem ZwH (n:Nat) (SC:List (Int×Int)) (L X:List Int) (d m:Int) (i:Nat) (hi:SC[i]?=some (d,m)) (hi2:i < 150) (hI:Inv L X) (hX:X.length<=1000) (hn:n < 400)
  (hk:∀ (σ:Za) (sq:Nat),ZR E2 BY σ sq 9 0 true [.int .i64 d,.int .i64 0,.int .i64 4]=some (.int .i64 4,σ,{})) (hL0:¬L=[]) :
  ZU (tP i (SC.map Zj)) (hP n X (Zb L))=ZU (tQ (i+1) (SC.map Zj)) (hQ n X X (Zb L)):=by
  have l1:i < SC.length:=(Xc.1 hi).1
  have h1:(i:Int) < SC.length:=by omega
  have h2:(i:Int) < 150:=by omega
  have e1:=fun σ kk=>iad hi Zj (k:=2) rfl σ false kk
  have hw:IntKind.i64.wrap ((i:Int)+1)=((i+1:Nat):Int):=by rw [Za6 (by omega) (by omega)];omega
  have hA:=fun {σ:Za} {sq:Nat} hs hm hff=>Zgh hI hX hL0 (σ:=σ) (t:=3) (m:=4) (sq:=sq) (by decide) hs hm hff
  have hV:=fun {σ:Za} {sq:Nat} ha hb=>ZgK X hX (σ:=σ) (a:=5) (b:=2) (sq:=sq) ha hb
  have hB:=ZnB n X (Zb L) hn hX
  have hlen:=ZbM hI
  have hN:=fun {σ:Za} {sq:Nat} {view:Bool} hs hm=>Zap (ZbP L (σ:=σ) (t:=3) (m:=4) (sq:=sq) (own:=0) (view:=view) (by decide) hs hm rfl)
  rw [hlen] at hN
  have hr:=Zaq L
  have hn2:=fun ρ=>Zag ρ L
  generalize hR0:ZU (tQ (i+1) (SC.map Zj)) (hQ n X X (Zb L))=R
  unfold ZU hQ tQ at hR0
  unfold ZU hP tP
  have hbl:(SC.map Zj).length=SC.length:=Xz ..
  generalize hM:Zb L=M at *
  generalize hSX:iS X=SX at *
  generalize hSC:SC.map Zj=SV at *
  unfold Zj at e1
  have hz:∀ z:Int,(z != z)=false:=fun z=>bne_self_eq_false z
  rw [Zaw]
  simp -implicitDefEqProofs only [EQA,ZG,ZH,ZL,ZE,ZO,ZI,ZD,ZM,ZP,ZF,ZQ,ZJ,ZA,ZB,ZK,implies_true,forall_const,Xk,Xl,Xp,Xf,Xg,Xm,Xn,Zu,Zv,unA,Zo,Zr,unG,reduceCtorEq,Zi,decide_eq_true_eq,Xh,Xd,ite_self,↓reduceIte,Zq,Zt,gcT,gcA,Zl,Zf,Zd,Ze,Zm,Zc,Zk,Zg,Zn,Xj,Zah,Zae,Zan,Zaj,Zab,Zak,Zad,Zal,Zac,Zai,Zaa,ZN,Zw,ZC,Zz,Zy,Zx,ZaK,h1,h2,e1,hw,hk,hA,hB,hV,hN,hr,hn2,hbl,hz,Z8,Wj,AVal.cells,Za4]
  rw [Za5 _ _ _ _ _ _ _ (by rfl)]
  simp -implicitDefEqProofs only [EQA,ZG,ZH,ZL,ZE,ZO,ZI,ZD,ZM,ZP,ZF,ZQ,ZJ,ZA,ZB,ZK,implies_true,forall_const,Xk,Xl,Xp,Xf,Xg,Xm,Xn,Zu,Zv,unA,Zo,Zr,unG,reduceCtorEq,Zi,decide_eq_true_eq,Xh,Xd,ite_self,↓reduceIte,Zq,Zt,gcT,gcA,Zl,Zf,Zd,Ze,Zm,Zc,Zk,Zg,Zn,Xj,Zah,Zae,Zan,Zaj,Zab,Zak,Zad,Zal,Zac,Zai,Zaa,ZN,Zw,ZC,Zz,Zy,Zx,ZaK,hw,hr,hn2]
  exact hR0
theorem Zy5 (n:Nat) (l:List Int) (SC:List (Int×Int)) (L X:List Int) (d m:Int) (i:Nat) (hi:SC[i]?=some (d,m)) (hi2:i < 150) (hI:Inv L X) (hX:X.length<=1000) (hn:n+1 < 400)
  (hk:∀ (σ:Za) (sq:Nat),ZR E2 BY σ sq 9 0 true [.int .i64 d,.int .i64 0,.int .i64 4]=some (.int .i64 4,σ,{})) (hL0:L=[]) :
  ZU (tQ i (SC.map Zj)) (hQ n l X (Zb L))=ZU (tP (i+1) (SC.map Zj)) (hP (n+2) X (Zb L)):=by
  have l1:i < SC.length:=(Xc.1 hi).1
  have h1:(i:Int) < SC.length:=by omega
  have h2:(i:Int) < 150:=by omega
  have e1:=fun σ kk=>iad hi Zj (k:=2) rfl σ false kk
  have hw:IntKind.i64.wrap ((i:Int)+1)=((i+1:Nat):Int):=by rw [Za6 (by omega) (by omega)];omega
  have hA:=fun {σ:Za} {sq:Nat} hs hm hff=>ZgV hL0 (σ:=σ) (t:=4) (m:=5) (sq:=sq) (by decide) hs hm hff
  have hX0:X=[]:=by subst hL0;exact Xbl.1 hI.1
  have hV:=fun {σ:Za} {sq:Nat} hb=>ZgP (σ:=σ) (b:=3) (sq:=sq) hb
  have hB:=Zy8 n l X (Zb L) hn hX
  have hlen:=ZbM hI
  have hN:=fun {σ:Za} {sq:Nat} {view:Bool} hs hm=>Zap (ZbP L (σ:=σ) (t:=4) (m:=5) (sq:=sq) (own:=0) (view:=view) (by decide) hs hm rfl)
  rw [hlen] at hN
  have hr:=Zaq L
  have hn2:=fun ρ=>Zag ρ L
  generalize hR0:ZU (tP (i+1) (SC.map Zj)) (hP (n+2) X (Zb L))=R
  unfold ZU hP tP at hR0
  unfold ZU hQ tQ
  have hbl:(SC.map Zj).length=SC.length:=Xz ..
  subst hX0
  have e0:iS []=[]:=rfl
  have e00:([]:List Int).length=0:=rfl
  rw [e0] at hB hR0 ⊢
  rw [e00] at hB hN hR0 ⊢
  generalize hM:Zb L=M at *
  generalize hSl:iS l=Sl at *
  generalize hSC:SC.map Zj=SV at *
  unfold Zj at e1
  have hz:∀ z:Int,(z != z)=false:=fun z=>bne_self_eq_false z
  rw [Zaw]
  simp -implicitDefEqProofs only [EQA,ZG,ZH,ZL,ZE,ZO,ZI,ZD,ZM,ZP,ZF,ZQ,ZJ,ZA,ZB,ZK,implies_true,forall_const,Xk,Xl,Xp,Xf,Xg,Xm,Xn,Zu,Zv,unA,Zo,Zr,unG,reduceCtorEq,Zi,decide_eq_true_eq,Xh,Xd,ite_self,↓reduceIte,Zq,Zt,gcT,gcA,Zl,Zf,Zd,Ze,Zm,Zc,Zk,Zg,Zn,Xj,Zah,Zae,Zan,Zaj,Zab,Zak,Zad,Zal,Zac,Zai,Zaa,ZN,Zw,ZC,Zz,Zy,Zx,ZaK,h1,h2,e1,hw,hk,hA,hB,hV,hN,hr,hn2,hbl,hz,Z8,Wj,AVal.cells,Za4]
  rw [Za5 _ _ _ _ _ _ _ (by rfl)]
  simp -implicitDefEqProofs only [EQA,ZG,ZH,ZL,ZE,ZO,ZI,ZD,ZM,ZP,ZF,ZQ,ZJ,ZA,ZB,ZK,implies_true,forall_const,Xk,Xl,Xp,Xf,Xg,Xm,Xn,Zu,Zv,unA,Zo,Zr,unG,reduceCtorEq,Zi,decide_eq_true_eq,Xh,Xd,ite_self,↓reduceIte,Zq,Zt,gcT,gcA,Zl,Zf,Zd,Ze,Zm,Zc,Zk,Zg,Zn,Xj,Zah,Zae,Zan,Zaj,Zab,Zak,Zad,Zal,Zac,Zai,Zaa,ZN,Zw,ZC,Zz,Zy,Zx,ZaK,hw,hr,hn2]
  exact hR0
theorem ZyL (n:Nat) (l:List Int) (SC:List (Int×Int)) (L X:List Int) (d m:Int) (i:Nat) (hi:SC[i]?=some (d,m)) (hi2:i < 150) (hI:Inv L X) (hX:X.length<=1000) (hn:n+1 < 400)
  (hk:∀ (σ:Za) (sq:Nat),ZR E2 BY σ sq 9 0 true [.int .i64 d,.int .i64 0,.int .i64 4]=some (.int .i64 4,σ,{})) (hL0:¬L=[]) :
  ZU (tQ i (SC.map Zj)) (hQ n l X (Zb L))=ZU (tQ (i+1) (SC.map Zj)) (hQ (n+1) X X (Zb L)):=by
  have l1:i < SC.length:=(Xc.1 hi).1
  have h1:(i:Int) < SC.length:=by omega
  have h2:(i:Int) < 150:=by omega
  have e1:=fun σ kk=>iad hi Zj (k:=2) rfl σ false kk
  have hw:IntKind.i64.wrap ((i:Int)+1)=((i+1:Nat):Int):=by rw [Za6 (by omega) (by omega)];omega
  have hA:=fun {σ:Za} {sq:Nat} hs hm hff=>Zgh hI hX hL0 (σ:=σ) (t:=4) (m:=5) (sq:=sq) (by decide) hs hm hff
  have hV:=fun {σ:Za} {sq:Nat} ha hb=>ZgK X hX (σ:=σ) (a:=6) (b:=3) (sq:=sq) ha hb
  have hB:=Zts n l X (Zb L) hn hX
  have hlen:=ZbM hI
  have hN:=fun {σ:Za} {sq:Nat} {view:Bool} hs hm=>Zap (ZbP L (σ:=σ) (t:=4) (m:=5) (sq:=sq) (own:=0) (view:=view) (by decide) hs hm rfl)
  rw [hlen] at hN
  have hr:=Zaq L
  have hn2:=fun ρ=>Zag ρ L
  generalize hR0:ZU (tQ (i+1) (SC.map Zj)) (hQ (n+1) X X (Zb L))=R
  unfold ZU hQ tQ at hR0
  unfold ZU hQ tQ
  have hbl:(SC.map Zj).length=SC.length:=Xz ..
  generalize hM:Zb L=M at *
  generalize hSl:iS l=Sl at *
  generalize hSX:iS X=SX at *
  generalize hSC:SC.map Zj=SV at *
  unfold Zj at e1
  have hz:∀ z:Int,(z != z)=false:=fun z=>bne_self_eq_false z
  rw [Zaw]
  simp -implicitDefEqProofs only [EQA,ZG,ZH,ZL,ZE,ZO,ZI,ZD,ZM,ZP,ZF,ZQ,ZJ,ZA,ZB,ZK,implies_true,forall_const,Xk,Xl,Xp,Xf,Xg,Xm,Xn,Zu,Zv,unA,Zo,Zr,unG,reduceCtorEq,Zi,decide_eq_true_eq,Xh,Xd,ite_self,↓reduceIte,Zq,Zt,gcT,gcA,Zl,Zf,Zd,Ze,Zm,Zc,Zk,Zg,Zn,Xj,Zah,Zae,Zan,Zaj,Zab,Zak,Zad,Zal,Zac,Zai,Zaa,ZN,Zw,ZC,Zz,Zy,Zx,ZaK,h1,h2,e1,hw,hk,hA,hB,hV,hN,hr,hn2,hbl,hz,Z8,Wj,AVal.cells,Za4]
  rw [Za5 _ _ _ _ _ _ _ (by rfl)]
  simp -implicitDefEqProofs only [EQA,ZG,ZH,ZL,ZE,ZO,ZI,ZD,ZM,ZP,ZF,ZQ,ZJ,ZA,ZB,ZK,implies_true,forall_const,Xk,Xl,Xp,Xf,Xg,Xm,Xn,Zu,Zv,unA,Zo,Zr,unG,reduceCtorEq,Zi,decide_eq_true_eq,Xh,Xd,ite_self,↓reduceIte,Zq,Zt,gcT,gcA,Zl,Zf,Zd,Ze,Zm,Zc,Zk,Zg,Zn,Xj,Zah,Zae,Zan,Zaj,Zab,Zak,Zad,Zal,Zac,Zai,Zaa,ZN,Zw,ZC,Zz,Zy,Zx,ZaK,hw,hr,hn2]
  exact hR0
end
section
def sT (q:Bool) (i:Nat) (SC:List AVal):Tms:=if q then tQ i SC else tP i SC
def sH (q:Bool) (n:Nat) (l X:List Int) (M:List (AVal×AVal)):Za:=if q then hQ n l X M else hP n X M
theorem Zk6 (q:Bool) (n:Nat) (l:List Int) (SC:List (Int×Int)) (L X:List Int) (i:Nat) (hi:¬(i < SC.length/\i < 150)) :
  ZU (sT q i (SC.map Zj)) (sH q n l X (Zb L))=some (.exit 2,(52,.bool false)::sT q i (SC.map Zj),sH q n l X (Zb L)):=by
 have hr:=Zaq L
 have hn:=fun ρ=>Zag ρ L
 have hbl:(SC.map Zj).length=SC.length:=Xz ..
 cases q with
 | false =>
  unfold sT sH ZU hP tP
  simp only [Xw,if_false]
  generalize Zb L=M at *
  generalize iS X=SX at *
  generalize SC.map Zj=SV at *
  by_cases h1:i < SC.length
  ·have h1':(i:Int) < SC.length:=by omega
   have h2:¬(i:Int) < 150:=by omega
   rw [Zaw]
   simp -implicitDefEqProofs only [EQA,ZG,ZH,ZL,ZE,ZO,ZI,ZD,ZM,ZP,ZF,ZQ,ZJ,ZA,ZB,ZK,implies_true,forall_const,Xk,Xl,Xp,Xf,Xg,Xm,Xn,Zu,Zv,unA,Zo,Zr,unG,reduceCtorEq,Zi,decide_eq_true_eq,Xh,Xd,ite_self,↓reduceIte,Zq,Zt,gcT,gcA,Zl,Zf,Zd,Ze,Zm,Zc,Zk,Zg,Zn,Xj,Zah,Zae,Zan,Zaj,Zab,Zak,Zad,Zal,Zac,Zai,Zaa,ZN,Zw,ZC,Zz,Zy,Zx,ZaK,h1',h2,hr,hn,hbl]
  ·have h1':¬(i:Int) < SC.length:=by omega
   rw [Zaw]
   simp -implicitDefEqProofs only [EQA,ZG,ZH,ZL,ZE,ZO,ZI,ZD,ZM,ZP,ZF,ZQ,ZJ,ZA,ZB,ZK,implies_true,forall_const,Xk,Xl,Xp,Xf,Xg,Xm,Xn,Zu,Zv,unA,Zo,Zr,unG,reduceCtorEq,Zi,decide_eq_true_eq,Xh,Xd,ite_self,↓reduceIte,Zq,Zt,gcT,gcA,Zl,Zf,Zd,Ze,Zm,Zc,Zk,Zg,Zn,Xj,Zah,Zae,Zan,Zaj,Zab,Zak,Zad,Zal,Zac,Zai,Zaa,ZN,Zw,ZC,Zz,Zy,Zx,ZaK,h1',hr,hn,hbl]
 | true =>
  unfold sT sH ZU hQ tQ
  simp only [if_true]
  generalize Zb L=M at *
  generalize iS X=SX at *
  generalize iS l=Sl at *
  generalize SC.map Zj=SV at *
  by_cases h1:i < SC.length
  ·have h1':(i:Int) < SC.length:=by omega
   have h2:¬(i:Int) < 150:=by omega
   rw [Zaw]
   simp -implicitDefEqProofs only [EQA,ZG,ZH,ZL,ZE,ZO,ZI,ZD,ZM,ZP,ZF,ZQ,ZJ,ZA,ZB,ZK,implies_true,forall_const,Xk,Xl,Xp,Xf,Xg,Xm,Xn,Zu,Zv,unA,Zo,Zr,unG,reduceCtorEq,Zi,decide_eq_true_eq,Xh,Xd,ite_self,↓reduceIte,Zq,Zt,gcT,gcA,Zl,Zf,Zd,Ze,Zm,Zc,Zk,Zg,Zn,Xj,Zah,Zae,Zan,Zaj,Zab,Zak,Zad,Zal,Zac,Zai,Zaa,ZN,Zw,ZC,Zz,Zy,Zx,ZaK,h1',h2,hr,hn,hbl]
  ·have h1':¬(i:Int) < SC.length:=by omega
   rw [Zaw]
   simp -implicitDefEqProofs only [EQA,ZG,ZH,ZL,ZE,ZO,ZI,ZD,ZM,ZP,ZF,ZQ,ZJ,ZA,ZB,ZK,implies_true,forall_const,Xk,Xl,Xp,Xf,Xg,Xm,Xn,Zu,Zv,unA,Zo,Zr,unG,reduceCtorEq,Zi,decide_eq_true_eq,Xh,Xd,ite_self,↓reduceIte,Zq,Zt,gcT,gcA,Zl,Zf,Zd,Ze,Zm,Zc,Zk,Zg,Zn,Xj,Zah,Zae,Zan,Zaj,Zab,Zak,Zad,Zal,Zac,Zai,Zaa,ZN,Zw,ZC,Zz,Zy,Zx,ZaK,h1',hr,hn,hbl]
theorem Zmp (SC:List (Int×Int)):∀ (r:List (Int×Int)) (i:Nat) (q:Bool) (n:Nat) (l L X:List Int),SC.drop i=r->i<=150->Inv L X->X.length<=40+i->n+(if q then 1 else 0)<=i ->
  ∃ q' n' l' L' X' i',Inv L' X'/\X'.length<=1000/\n'+1<=399/\ZU (sT q i (SC.map Zj)) (sH q n l X (Zb L))=some (.exit 2,(52,.bool false)::sT q' i' (SC.map Zj),sH q' n' l' X' (Zb L'))
 | [],i,q,n,l,L,X,h,hi,hI,hX,hn=>by
  have h1:SC.length<=i:=Xac.1 h
  exact ⟨q,n,l,L,X,i,hI,by omega,by split at hn <;> omega,Zk6 q n l SC L X i (by omega)⟩
 | (d,m)::r,i,q,n,l,L,X,h,hi,hI,hX,hn=>by
  obtain ⟨g1,d1,l1⟩:=Zcu h
  by_cases h2:i < 150
  case neg=>exact ⟨q,n,l,L,X,i,hI,by omega,by split at hn <;> omega,Zk6 q n l SC L X i (by omega)⟩
  obtain ⟨k,hk,hW⟩:=ZAg d
  have nxt:=fun q n l L X=>Zmp SC r (i+1) q n l L X d1 (by omega)
  have hX1:X.length<=1000:=by omega
  have key:∃ q2 n2 l2 L2 X2,Inv L2 X2/\X2.length<=40+(i+1)/\n2+(if q2 then 1 else 0)<=i+1/\ZU (sT q i (SC.map Zj)) (sH q n l X (Zb L))=ZU (sT q2 (i+1) (SC.map Zj)) (sH q2 n2 l2 X2 (Zb L2)):=by
   have hk':k=0\/k=1\/k=2\/k=3\/k=4:=by omega
   rcases hk' with rfl | rfl | rfl | rfl | rfl
   ·refine ⟨q,n,l,L++[tk X],ZaF (tk X) X,(ZhN hI (by omega)).2.2,by rw [ZfU];omega,Xae hn,?_⟩
    cases q with
    | false=>exact Znp n SC L X d m i g1 h2 hI hX1 hW
    | true=>exact ZnS n l SC L X d m i g1 h2 hI hX1 hW
   ·cases ho:hOk m X with
    | true =>
     refine ⟨q,n,l,(Zaz L m).2,ZaF m X,(Zfg hI m ho).1,by rw [ZfU];omega,Xae hn,?_⟩
     cases q with
     | false=>exact Zrx n SC L X d m i g1 h2 hI hX1 hW ho
     | true=>exact Zyk n l SC L X d m i g1 h2 hI hX1 hW ho
    | false =>
     refine ⟨q,n,l,L,X,hI,by omega,Xae hn,?_⟩
     cases q with
     | false=>exact Zrt n SC L X d m i g1 h2 hI hX1 hW ho
     | true=>exact Zqv n l SC L X d m i g1 h2 hI hX1 hW ho
   ·cases ho:X.contains m with
    | true =>
     refine ⟨q,n,l,L.erase m,Zbk X (X.idxOf m),ZjM hI m ho,by rw [ZlF X m ho];omega,Xae hn,?_⟩
     cases q with
     | false=>exact Znt n SC L X d m i g1 h2 hI hX1 hW ho
     | true=>exact Zqf n l SC L X d m i g1 h2 hI hX1 hW ho
    | false =>
     refine ⟨q,n,l,L,X,hI,by omega,Xae hn,?_⟩
     cases q with
     | false=>exact Zzv n SC L X d m i g1 h2 hI hX1 hW ho
     | true=>exact ZtY n l SC L X d m i g1 h2 hI hX1 hW ho
   ·refine ⟨q,n,l,L,X,hI,by omega,Xae hn,?_⟩
    cases q with
    | false=>exact Zxa n SC L X d m i g1 h2 hI hX1 hW
    | true=>exact ZqX n l SC L X d m i g1 h2 hI hX1 hW
   ·by_cases hL0:L=[]
    ·cases q with
     | false=>exact ⟨false,n+1,l,L,X,hI,by omega,by simp at hn ⊢;omega,ZrK n SC L X d m i g1 h2 hI hX1 (by simp at hn;omega) hW hL0⟩
     | true=>exact ⟨false,n+2,l,L,X,hI,by omega,by simp at hn ⊢;omega,Zy5 n l SC L X d m i g1 h2 hI hX1 (by simp at hn;omega) hW hL0⟩
    ·cases q with
     | false=>exact ⟨true,n,X,L,X,hI,by omega,by simp at hn ⊢;omega,ZwH n SC L X d m i g1 h2 hI hX1 (by simp at hn;omega) hW hL0⟩
     | true=>exact ⟨true,n+1,X,L,X,hI,by omega,by simp at hn ⊢;omega,ZyL n l SC L X d m i g1 h2 hI hX1 (by simp at hn;omega) hW hL0⟩
  obtain ⟨q2,n2,l2,L2,X2,a1,a2,a3,a4⟩:=key
  obtain ⟨q',n',l',L',X',i',b1,b2,b3,b4⟩:=nxt q2 n2 l2 L2 X2 a1 a2 a3
  exact ⟨q',n',l',L',X',i',b1,b2,b3,a4.trans b4⟩
theorem ZkE (n:Nat) (hn:n<=399) (X:List Int) (M:List (AVal×AVal)) (sq:Nat) :
  ZR E2 BY [.book n [],.var [.sl 2 0 0 X.length],.row 0 1 (iS X),.var [.map 4],.map M,.free] sq 21 0 false [.ref 0 0]=some (.bool true,[Zc3,.var [.sl 2 0 0 X.length],.row 0 1 (iS X),.var [.map 4],.map M,.free],{ any:=true,upd:=[(0,[.any,.any,.any,.any,.any,.any])] }):=by
 have h:E2 21 [.ref 0 0] [.book n []]=some (.bool true,[Zc3]):=by
  rw [Zm5];simp only [ZeU];rw [if_pos (by omega)]
 exact ZdP (O:=E2) (bf:=BY) (view:=false) (vs:=[.ref 0 0]) (vs':=[.ref 0 0]) (ids:=[0]) (h0:=[.book n []]) (h:=[Zc3]) (r:=.bool true) (by kernel_rfl) rfl rfl rfl rfl rfl rfl h rfl (XT rfl) (XT rfl) rfl rfl rfl rfl rfl
theorem Zlx (n:Nat) (hn:n+1<=399) (l X:List Int) (M:List (AVal×AVal)) (sq:Nat) :
  ZR E2 BY [.book n [(.sl 1 0 0 l.length,l)],.row 0 1 (iS l),.var [.sl 3 0 0 X.length],.row 0 1 (iS X),.var [.map 5],.map M,.free] sq 21 0 false [.ref 0 0]=some (.bool true,[Zc3,.frow 0 1 [],.var [.sl 3 0 0 X.length],.row 0 1 (iS X),.var [.map 5],.map M,.free],{ any:=true,upd:=[(0,[.any,.any,.any,.any,.any,.any])] }):=by
 have h:E2 21 [.ref 0 0] [.book n [(.sl 1 0 0 l.length,l)],.row 0 1 (iS l)]=some (.bool true,[Zc3,.frow 0 1 []]):=by
  rw [Zm5];simp only [ZeU,Zgw];rw [if_pos ⟨trivial,trivial,by omega⟩]
 exact ZdP (O:=E2) (bf:=BY) (view:=false) (vs:=[.ref 0 0]) (vs':=[.ref 0 0]) (ids:=[0,1]) (h0:=[.book n [(.sl 1 0 0 l.length,l)],.row 0 1 (iS l)]) (h:=[Zc3,.frow 0 1 []]) (r:=.bool true) (by kernel_rfl) rfl rfl rfl rfl rfl rfl h rfl (XT rfl) (XT rfl) rfl rfl rfl rfl rfl
theorem ZdJ (σ:Za) (b:Bool):Za8 0 σ (.bool b)=some (.bool b,[]):=rfl
theorem Zmi (q:Bool) (n:Nat) (hn:n+1<=399) (l:List Int) (SV:List AVal) (L X:List Int) (i:Nat) (hI:Inv L X) (hX:X.length<=1000) :
  ZaS 0 Zhz (ZbY FC PR2 BY 0 Zgt (some (.normal,(52,.bool false)::sT q i SV,sH q n l X (Zb L))))=some (.bool true,[]):=by
 have hr:=Zaq L
 have hn2:=fun ρ=>Zag ρ L
 by_cases hL0:L=[]
 ·have hX0:X=[]:=by subst hL0;exact Xbl.1 hI.1
  cases q with
  | false =>
   have hC:=ZkE n (by omega) X (Zb L)
   have hA:=fun {σ:Za} {sq:Nat} hs hm hff=>ZgV hL0 (σ:=σ) (t:=3) (m:=4) (sq:=sq) (by decide) hs hm hff
   have hV:=fun {σ:Za} {sq:Nat} hb=>ZgP (σ:=σ) (b:=2) (sq:=sq) hb
   unfold sT sH hP tP
   simp only [Xw,if_false]
   subst hX0
   rw [show iS []=[] from rfl] at hC ⊢
   rw [show ([]:List Int).length=0 from rfl] at hC ⊢
   generalize hM:Zb L=M at *
   simp -implicitDefEqProofs only [EQA,ZG,ZH,ZL,ZE,ZO,ZI,ZD,ZM,ZP,ZF,ZQ,ZJ,ZA,ZB,ZK,implies_true,forall_const,Xk,Xl,Xp,Xf,Xg,Xm,Xn,Zu,Zv,unA,Zo,Zr,unG,reduceCtorEq,Zi,decide_eq_true_eq,Xh,Xd,ite_self,↓reduceIte,Zq,Zt,gcT,gcA,Zl,Zf,Zd,Ze,Zm,Zc,Zk,Zg,Zn,Xj,Zah,Zae,Zan,Zaj,Zab,Zak,Zad,Zal,Zac,Zai,Zaa,ZN,Zw,ZC,Zz,Zy,Zx,ZdE,hC,hA,hV,hr,hn2,Z8,AVal.cells,ZdJ,Za4]
   rw [Za5 _ _ _ _ _ _ _ (by rfl)]
   simp -implicitDefEqProofs only [EQA,ZG,ZH,ZL,ZE,ZO,ZI,ZD,ZM,ZP,ZF,ZQ,ZJ,ZA,ZB,ZK,implies_true,forall_const,Xk,Xl,Xp,Xf,Xg,Xm,Xn,Zu,Zv,unA,Zo,Zr,unG,reduceCtorEq,Zi,decide_eq_true_eq,Xh,Xd,ite_self,↓reduceIte,Zq,Zt,gcT,gcA,Zl,Zf,Zd,Ze,Zm,Zc,Zk,Zg,Zn,Xj,Zah,Zae,Zan,Zaj,Zab,Zak,Zad,Zal,Zac,Zai,Zaa,ZN,Zw,ZC,Zz,Zy,Zx,ZdE,ZdJ]
  | true =>
   have hC:=Zlx n hn l X (Zb L)
   have hA:=fun {σ:Za} {sq:Nat} hs hm hff=>ZgV hL0 (σ:=σ) (t:=4) (m:=5) (sq:=sq) (by decide) hs hm hff
   have hV:=fun {σ:Za} {sq:Nat} hb=>ZgP (σ:=σ) (b:=3) (sq:=sq) hb
   unfold sT sH hQ tQ
   simp only [if_true]
   subst hX0
   rw [show iS []=[] from rfl] at hC ⊢
   rw [show ([]:List Int).length=0 from rfl] at hC ⊢
   generalize hM:Zb L=M at *
   generalize hSl:iS l=Sl at *
   simp -implicitDefEqProofs only [EQA,ZG,ZH,ZL,ZE,ZO,ZI,ZD,ZM,ZP,ZF,ZQ,ZJ,ZA,ZB,ZK,implies_true,forall_const,Xk,Xl,Xp,Xf,Xg,Xm,Xn,Zu,Zv,unA,Zo,Zr,unG,reduceCtorEq,Zi,decide_eq_true_eq,Xh,Xd,ite_self,↓reduceIte,Zq,Zt,gcT,gcA,Zl,Zf,Zd,Ze,Zm,Zc,Zk,Zg,Zn,Xj,Zah,Zae,Zan,Zaj,Zab,Zak,Zad,Zal,Zac,Zai,Zaa,ZN,Zw,ZC,Zz,Zy,Zx,ZdE,hC,hA,hV,hr,hn2,Z8,AVal.cells,ZdJ,Za4]
   rw [Za5 _ _ _ _ _ _ _ (by rfl)]
   simp -implicitDefEqProofs only [EQA,ZG,ZH,ZL,ZE,ZO,ZI,ZD,ZM,ZP,ZF,ZQ,ZJ,ZA,ZB,ZK,implies_true,forall_const,Xk,Xl,Xp,Xf,Xg,Xm,Xn,Zu,Zv,unA,Zo,Zr,unG,reduceCtorEq,Zi,decide_eq_true_eq,Xh,Xd,ite_self,↓reduceIte,Zq,Zt,gcT,gcA,Zl,Zf,Zd,Ze,Zm,Zc,Zk,Zg,Zn,Xj,Zah,Zae,Zan,Zaj,Zab,Zak,Zad,Zal,Zac,Zai,Zaa,ZN,Zw,ZC,Zz,Zy,Zx,ZdE,ZdJ]
 ·cases q with
  | false =>
   have hC:=ZkE n (by omega) X (Zb L)
   have hA:=fun {σ:Za} {sq:Nat} hs hm hff=>Zgh hI hX hL0 (σ:=σ) (t:=3) (m:=4) (sq:=sq) (by decide) hs hm hff
   have hV:=fun {σ:Za} {sq:Nat} ha hb=>ZgK X hX (σ:=σ) (a:=5) (b:=2) (sq:=sq) ha hb
   unfold sT sH hP tP
   simp only [Xw,if_false]
   generalize hM:Zb L=M at *
   generalize hSX:iS X=SX at *
   simp -implicitDefEqProofs only [EQA,ZG,ZH,ZL,ZE,ZO,ZI,ZD,ZM,ZP,ZF,ZQ,ZJ,ZA,ZB,ZK,implies_true,forall_const,Xk,Xl,Xp,Xf,Xg,Xm,Xn,Zu,Zv,unA,Zo,Zr,unG,reduceCtorEq,Zi,decide_eq_true_eq,Xh,Xd,ite_self,↓reduceIte,Zq,Zt,gcT,gcA,Zl,Zf,Zd,Ze,Zm,Zc,Zk,Zg,Zn,Xj,Zah,Zae,Zan,Zaj,Zab,Zak,Zad,Zal,Zac,Zai,Zaa,ZN,Zw,ZC,Zz,Zy,Zx,ZdE,hC,hA,hV,hr,hn2,Z8,AVal.cells,ZdJ,Za4]
   rw [Za5 _ _ _ _ _ _ _ (by rfl)]
   simp -implicitDefEqProofs only [EQA,ZG,ZH,ZL,ZE,ZO,ZI,ZD,ZM,ZP,ZF,ZQ,ZJ,ZA,ZB,ZK,implies_true,forall_const,Xk,Xl,Xp,Xf,Xg,Xm,Xn,Zu,Zv,unA,Zo,Zr,unG,reduceCtorEq,Zi,decide_eq_true_eq,Xh,Xd,ite_self,↓reduceIte,Zq,Zt,gcT,gcA,Zl,Zf,Zd,Ze,Zm,Zc,Zk,Zg,Zn,Xj,Zah,Zae,Zan,Zaj,Zab,Zak,Zad,Zal,Zac,Zai,Zaa,ZN,Zw,ZC,Zz,Zy,Zx,ZdE,ZdJ]
  | true =>
   have hC:=Zlx n hn l X (Zb L)
   have hA:=fun {σ:Za} {sq:Nat} hs hm hff=>Zgh hI hX hL0 (σ:=σ) (t:=4) (m:=5) (sq:=sq) (by decide) hs hm hff
   have hV:=fun {σ:Za} {sq:Nat} ha hb=>ZgK X hX (σ:=σ) (a:=6) (b:=3) (sq:=sq) ha hb
   unfold sT sH hQ tQ
   simp only [if_true]
   generalize hM:Zb L=M at *
   generalize hSl:iS l=Sl at *
   generalize hSX:iS X=SX at *
   simp -implicitDefEqProofs only [EQA,ZG,ZH,ZL,ZE,ZO,ZI,ZD,ZM,ZP,ZF,ZQ,ZJ,ZA,ZB,ZK,implies_true,forall_const,Xk,Xl,Xp,Xf,Xg,Xm,Xn,Zu,Zv,unA,Zo,Zr,unG,reduceCtorEq,Zi,decide_eq_true_eq,Xh,Xd,ite_self,↓reduceIte,Zq,Zt,gcT,gcA,Zl,Zf,Zd,Ze,Zm,Zc,Zk,Zg,Zn,Xj,Zah,Zae,Zan,Zaj,Zab,Zak,Zad,Zal,Zac,Zai,Zaa,ZN,Zw,ZC,Zz,Zy,Zx,ZdE,hC,hA,hV,hr,hn2,Z8,AVal.cells,ZdJ,Za4]
   rw [Za5 _ _ _ _ _ _ _ (by rfl)]
   simp -implicitDefEqProofs only [EQA,ZG,ZH,ZL,ZE,ZO,ZI,ZD,ZM,ZP,ZF,ZQ,ZJ,ZA,ZB,ZK,implies_true,forall_const,Xk,Xl,Xp,Xf,Xg,Xm,Xn,Zu,Zv,unA,Zo,Zr,unG,reduceCtorEq,Zi,decide_eq_true_eq,Xh,Xd,ite_self,↓reduceIte,Zq,Zt,gcT,gcA,Zl,Zf,Zd,Ze,Zm,Zc,Zk,Zg,Zn,Xj,Zah,Zae,Zan,Zaj,Zab,Zak,Zad,Zal,Zac,Zai,Zaa,ZN,Zw,ZC,Zz,Zy,Zx,ZdE,ZdJ]
end
section
theorem ZmA (σ:Za) (sq own:Nat):ZR E2 BY σ sq 7 own true []=some (.bool true,σ,{}) :=
 ZhL Zws (by kernel_rfl) rfl rfl rfl (fun _=>rfl) _ _ _
theorem Zkj (B:List Int) (SC:List (Int×Int)) (hB:B.length<=40):∃ X,Inv (ZbW B) X/\X.length<=40 /\
  evL FC PR2 BY 0 [7,6,5,1,0] Zfs [(7,.int .i64 0),(6,.ref 0 0),(5,.ref 2 0),(1,.lst false (SC.map Zj)),(0,.lst false (B.map (.int .i64 ·)))] (hL [] (Zb (ZbW B)))=some (.exit 0,[(34,.bool false),(7,.int .i64 (B.length:Int)),(6,.ref 0 0),(5,.ref 2 0),(1,.lst false (SC.map Zj)),(0,.lst false (B.map (.int .i64 ·)))],hL X (Zb (ZbW B))) /\
  ∃ q' n' l' L' X' i',Inv L' X'/\X'.length<=1000/\n'+1<=399/\ZU (tP 0 (SC.map Zj)) (hP 0 X (Zb (ZbW B)))=some (.exit 2,(52,.bool false)::sT q' i' (SC.map Zj),sH q' n' l' X' (Zb L')):=by
 obtain ⟨X,h1,h2,h3⟩:=ZiO B (SC.map Zj) (ZbW B) hB B [] [] 0 rfl ZAu (by decide) (by omega)
 have h4:=Zmp SC SC 0 false 0 [] (ZbW B) X rfl (by decide) h1 (by omega) (by decide)
 exact ⟨X,h1,by omega,h3,h4⟩
theorem Zyc (B0:List Int) (SC:List (Int×Int)):E2 3 [.lst false (B0.map (.int .i64 ·)),.lst false (SC.map Zj)] []=some (.bool true,[]):=by
 rw [Zks (by rfl) Zui]
 by_cases h:(B0.length:Int) > 40
 ·obtain ⟨X,a1,a2,a3,q',n',l',L',X',i',b1,b2,b3,b4⟩:=Zkj (B0.take 40) SC (by simp;omega)
  have hf:=Zmi q' n' b3 l' (SC.map Zj) L' X' i' b1 b2
  have hN:=fun {σ:Za} {sq:Nat} hff=>Zap (Zil (B0.take 40) (by simp;omega) (σ:=σ) (sq:=sq) (args:=[.lst false ((B0.take 40).map (.int .i64 ·))]) (ts:=[]) rfl hff)
  have hw:=ZmA
  have hs:Zbz [] 1 (.lst false (B0.map (AVal.int IntKind.i64 ·))) none (some (.int .i64 40)) none=some (.lst false ((B0.take 40).map (AVal.int IntKind.i64 ·)),[],{}):=Zys [] 1 B0 (AVal.int IntKind.i64 ·) .i64 40 (by decide) (by omega)
  have hr:=Zaq (ZbW (B0.take 40))
  have hn2:=fun ρ=>Zag ρ (ZbW (B0.take 40))
  unfold hL at a3
  unfold ZU hP tP at b4
  have z0:((0:Nat):Int)=0:=rfl
  rw [z0] at b4
  rw [show iS []=[] from rfl,show ([]:List Int).length=0 from rfl] at a3
  generalize Zb (ZbW (B0.take 40))=M at *
  generalize iS X=SX at *
  generalize X.length=x at *
  generalize SC.map Zj=SV at *
  simp -implicitDefEqProofs only [EQA,ZG,ZH,ZL,ZE,ZO,ZI,ZD,ZM,ZP,ZF,ZQ,ZJ,ZA,ZB,ZK,implies_true,forall_const,Xk,Xl,Xp,Xf,Xg,Xm,Xn,Zu,Zv,unA,Zo,Zr,unG,reduceCtorEq,Zi,decide_eq_true_eq,Xh,Xd,ite_self,↓reduceIte,Zq,Zt,gcT,gcA,Zl,Zf,Zd,Ze,Zm,Zc,Zk,Zg,Zn,Xj,Zah,Zae,Zan,Zaj,Zab,Zak,Zad,Zal,Zac,Zai,Zaa,ZN,Zw,ZC,Zz,Zy,Zx,Zj6,h,hs,hN,hw,hr,hn2,a3,b4,Z8,ZT,Zcp,AVal.cells,Xz]
  exact hf
 ·obtain ⟨X,a1,a2,a3,q',n',l',L',X',i',b1,b2,b3,b4⟩:=Zkj B0 SC (by omega)
  have hf:=Zmi q' n' b3 l' (SC.map Zj) L' X' i' b1 b2
  have hN:=fun {σ:Za} {sq:Nat} hff=>Zap (Zil B0 (by omega) (σ:=σ) (sq:=sq) (args:=[.lst false (B0.map (.int .i64 ·))]) (ts:=[]) rfl hff)
  have hw:=ZmA
  have hr:=Zaq (ZbW B0)
  have hn2:=fun ρ=>Zag ρ (ZbW B0)
  unfold hL at a3
  unfold ZU hP tP at b4
  have z0:((0:Nat):Int)=0:=rfl
  rw [z0] at b4
  rw [show iS []=[] from rfl,show ([]:List Int).length=0 from rfl] at a3
  generalize Zb (ZbW B0)=M at *
  generalize iS X=SX at *
  generalize X.length=x at *
  generalize SC.map Zj=SV at *
  simp -implicitDefEqProofs only [EQA,ZG,ZH,ZL,ZE,ZO,ZI,ZD,ZM,ZP,ZF,ZQ,ZJ,ZA,ZB,ZK,implies_true,forall_const,Xk,Xl,Xp,Xf,Xg,Xm,Xn,Zu,Zv,unA,Zo,Zr,unG,reduceCtorEq,Zi,decide_eq_true_eq,Xh,Xd,ite_self,↓reduceIte,Zq,Zt,gcT,gcA,Zl,Zf,Zd,Ze,Zm,Zc,Zk,Zg,Zn,Xj,Zah,Zae,Zan,Zaj,Zab,Zak,Zad,Zal,Zac,Zai,Zaa,ZN,Zw,ZC,Zz,Zy,Zx,Zj6,h,hN,hw,hr,hn2,a3,b4,Z8,ZT,Zcp,AVal.cells,Xz]
  exact hf
end
section
open Go.RowKit
def Zib:Ty:=.slice false (.int .i64)
theorem Zw4 {x:AVal} (h:ZjW false Zib x):∃ l:List Int,x=.lst false (l.map (AVal.int .i64 ·)):=by
 obtain ⟨y,h,rfl⟩:=h
 simp only [Zib,TyC] at h
 obtain ⟨ys,rfl,h1,h2⟩:=h
 have : ∀ ys:List (List AVal),(∀ y ∈ ys,TyC (.int .i64) y)->∃ l:List Int,ys.map (Zbp false)=l.map (AVal.int .i64 ·):=by
  intro ys
  induction ys with
  | nil=>intro _;exact ⟨[],rfl⟩
  | cons y ys ih =>
   intro hy
   have hy0:=hy y (by simp)
   simp only [TyC] at hy0
   obtain ⟨a,_,ha⟩:=hy0
   obtain ⟨l,hl⟩:=ih fun y' h'=>hy y' (by simp [h'])
   exact ⟨a::l,by simp [ha,hl,Zbp]⟩
 obtain ⟨l,hl⟩:=this ys h2
 exact ⟨l,by simp [Zbp,hl]⟩
theorem Zvt (w:World):Gl.le (Imm.of w):=by
 intro b o u h
 unfold Gl at h
 cases h
end
section
open Go.RowKit
def Zh3:Ty:=.slice true (.struct [.int .i64,.int .i64])
theorem Zpf {x:AVal} (h:ZjW false Zh3 x):∃ l:List (Int×Int),x=.lst false (l.map Zj):=by
 obtain ⟨y,h,rfl⟩:=h
 simp only [Zh3,TyC] at h
 obtain ⟨ys,rfl,h1,h2⟩:=h
 have : ∀ ys:List (List AVal),(∀ y ∈ ys,Zd7 [.int .i64,.int .i64] y)->∃ l:List (Int×Int),ys.map (Zbp true)=l.map Zj:=by
  intro ys
  induction ys with
  | nil=>intro _;exact ⟨[],rfl⟩
  | cons y ys ih =>
   intro hy
   have hy0:=hy y (by simp)
   simp only [Zd7] at hy0
   obtain ⟨_,_,rfl,h1,_,_,rfl,h2,rfl⟩:=hy0
   simp only [TyC] at h1 h2
   obtain ⟨a,_,rfl⟩:=h1
   obtain ⟨b,_,rfl⟩:=h2
   obtain ⟨l,hl⟩:=ih fun y' h'=>hy y' (by simp [h'])
   exact ⟨(a,b)::l,by simp [hl,Zbp,Zj]⟩
 obtain ⟨l,hl⟩:=this ys (fun y hy=>by simpa only [TyC] using h2 y hy)
 exact ⟨l,by simp [Zbp,hl]⟩
end
section
open Go.ChangeShapes Go.WideShapes Go.ChangeAt Go.RowKit Go.Deep
open Go.ChangeMaps (open_string shut_string)
theorem ZuH:ownKnob Try.prog.godebug=none:=by kernel_rfl
theorem ZmU:laidOutB Try.prog=true:=by kernel_rfl
set_option maxRecDepth 100000 in
theorem ZxQ (os:Os) (started:os.Started) (H:Type) (enc:TypeId×Value->H) :
  ReturnsInHanded {} Try.checked os 3 .any (Rows.identPlaysSpec.pre6 enc Try.prog Try.f3 Rows.identPlaysRow.domain false) (Rows.identPlaysSpec.post enc Try.prog Try.f3 false true false false):=by
 refine returnsInHanded_of_change (C:=Try.checked) ZuH started (by kernel_rfl) Try.func3
  (ChangeSpec.witness6 (enc:=enc) (C:=Try.checked) false ⟨#[],#[.slice none 0 0,.slice none 0 0],[]⟩ 8 (by kernel_rfl) (by kernel_rfl) (by kernel_rfl) (by kernel_rfl)) ?_
 intro W base args ds gs before hval0 hW hcnd _
 have hval:∀ (j:Nat) t v,Try.f3.params[j]?=some t->args[j]?=some v->Value.okWide Try.prog W .any base t v:=hval0
 have hW':=hW
 obtain ⟨p,q,hA0,hV,rfl,hfz,hnd⟩:=hW
 have hA:DataW.TrodAll enc Try.prog W 0 (fun _=>true) true Try.f3.params.toList args.toList ds p:=hA0
 rw [Try.params3] at hA hval
 obtain ⟨v0,vs0,d0,ds0,p0,q0,hargs,rfl,rfl,h0,r0⟩:=trodAll_cons hA
 obtain ⟨v1,vs1,d1,ds1,p1,q1,rfl,rfl,rfl,h1,r1⟩:=trodAll_cons r0
 obtain ⟨rfl,rfl,rfl⟩:=trodAll_nil r1
 obtain rfl:args=#[v0,v1]:=by cases args;simp_all
 obtain ⟨rfl,rfl⟩:=trodVars_none hV
 have k0:=h0
 have lt0:∀ x ∈ p0,x.block < W.heap.size:=by obtain ⟨m,hm⟩:=k0;exact DataW.trod_lt m _ _ _ hm
 have k1:=h1
 have lt1:∀ x ∈ p1,x.block < W.heap.size:=by obtain ⟨m,hm⟩:=k1;exact DataW.trod_lt m _ _ _ hm
 obtain ⟨x0,y0,z0,_⟩:=Zmb (n:=12) (T:=Zib) (by kernel_rfl) (hval 0 22 v0 rfl rfl) h0
 obtain ⟨a0,rfl⟩:=Zw4 y0
 obtain ⟨x1,y1,z1,_⟩:=Zmb (n:=12) (T:=Zh3) (by kernel_rfl) (hval 1 23 v1 rfl rfl) h1
 obtain ⟨a1,rfl⟩:=Zpf y1
 clear hA0 hval0
 refine (Zqo Zpo (Zvt _) (args:=[.lst false (a0.map (AVal.int .i64 ·)),.lst false (a1.map Zj)]) (by simp only [VRs];exact ⟨_,_,rfl,z0,_,_,rfl,z1,rfl⟩) (Zyc a0 a1)).mono fun e W' ⟨he,bel⟩=>?_
 subst he
 exact ⟨_,rfl,_,_,_,[],_,[],hW',trodAll_mk1 (shut_bool Try.underlying4 _),(trodAll_cons_mk (Below.trod ZmU (by kernel_rfl) (of_decide_eq_true (by kernel_rfl)) k0 bel lt0) (trodAll_cons_mk (Below.trod ZmU (by kernel_rfl) (of_decide_eq_true (by kernel_rfl)) k1 bel lt1) trodAll_mk0)),rfl,bel.frame _,fun h=>by cases h⟩
theorem identPlays_holds:Rows.IdentPlaysSaid :=
 OpenClaim.holds_of_wide 3 Try.f3 rfl rfl rfl rfl rfl rfl rfl ⟨rfl,rfl,rfl,rfl,rfl⟩ rfl rfl rfl rfl rfl (by kernel_rfl) Try.func3 (by kernel_rfl)
  (of_decide_eq_true (by kernel_rfl)) (by unfold Func.isWrapper;first | (rw [if_pos (by decide +kernel)];kernel_rfl) | (rw [if_neg (by decide +kernel)];exact ⟨rfl,rfl⟩))
  (fun os started H enc _=>ZxQ os started H enc)
#print axioms identPlays_holds
end
end Go.Proofs.Ytcgndmenpdhjcaa
