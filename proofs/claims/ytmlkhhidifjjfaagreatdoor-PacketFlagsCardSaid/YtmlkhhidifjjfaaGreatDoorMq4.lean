/- packed -/
import Derived.Test.YtmlkhhidifjjfaaGreatDoorMq3
import Derived.Test.YtmlkhhidifjjfaaGreatDoorMq2
import Derived.Defers
import Derived.Recover
import Derived.Tactics
import Derived.Test.YtmlkhhidifjjfaaGreatDoorProg
import Derived.Shelf.Unicode.ValidAny
import Derived.Lib.TrimAscii
set_option linter.defProp false
set_option linter.unusedSectionVars false
set_option linter.unusedSimpArgs false
set_option linter.unusedVariables false
namespace Go.Proofs.YtmlkhhidifjjfaaGreatDoor
set_option maxHeartbeats 16000000
set_option maxRecDepth 10000
section
def Zdm (P:List AVal) (c:Int) (ps:Option (List Zt)):List AVal:=(P.set 7 (.int .i64 c)).set 9 (Ze4 ps)
theorem Zls {P:List AVal} (hP:P.length=26) (hN:Zd P=true) (c:Int) (ps:Option (List Zt)):(Zdm P c ps).length=26/\Zd (Zdm P c ps)=true :=
 ⟨by simp [Zdm,hP],ZO (by cases ps <;> rfl) 9 (ZO rfl 7 hN)⟩
section
variable (P:List AVal) (hP:P.length=26) (hN:Zd P=true)
include hP hN
theorem ZI6 (k:Int) (hk:k=14\/k=15) (h0:P[0]?=some (.int .i64 k)) (h7:P[7]?=some (.int .i64 0)) (h9:P[9]?=some (.lst true [])) (hu:∀ r:Zb,r.length<=140737488355328->(Zae k r).2.1<=r.length) (l:Zb) (hl:l.length<=140737488355328) {c:Int} {ps:Option (List Zt)} {r:Zb} (h:Zcs k l=.ok ((c,ps),r)) :
  E 27 [.ref 0 0] (Zg P l)=some (if r.length=0 then .tup [] else .pan (Zy 129),Zg (Zdm P c ps) r):=by
 have hG:=fun σ sq hs=>Zrx P hP hN l hl σ 0 sq hs k h0 h7 h9 hu h
 obtain ⟨hQ,hQN⟩:=Zls hP hN c ps
 have a4:=fun L=>(Z2 P hP 0 (by omega) L).trans h0
 unfold Zg
 rw [show (P.set 7 (.int .i64 c)).set 9 (Ze4 ps)=Zdm P c ps from rfl] at hG
 generalize Zdm P c ps=Q at *
 have b2:=Zao Q hQ
 by_cases hr:r.length=0
 ·have m1:=Za5
  have z:=Zey (l:=r) (decide_eq_true hr)
  rw [if_pos hr]
  rcases hk with rfl | rfl
  all_goals
   rw [Zh (by rfl) Za6]
   simp -implicitDefEqProofs only [EQA,ZC,Zq,Nat.reduceAdd,Nat.reduceLT,Nat.reduceLeDiff,Nat.reduceEqDiff,Nat.reduceBEq,↓reduceIte,Zd,Za8,Za0,Zeb,oI,oN,a4,b2,hG,m1,Int.reduceBEq,z]
   exact ZS rfl (ZaA hQN (by rfl))
 ·have m1:=Zbs
  have z:=Zey (l:=r) (decide_eq_false hr)
  rw [if_neg hr]
  rcases hk with rfl | rfl
  all_goals
   rw [Zh (by rfl) Za6]
   simp -implicitDefEqProofs only [EQA,ZC,Nat.reduceAdd,Nat.reduceLT,Nat.reduceLeDiff,Nat.reduceEqDiff,Nat.reduceBEq,↓reduceIte,Za8,Za0,oI,oN,a4,b2,hG,m1,Int.reduceBEq,z]
   exact ZS rfl (ZaA hQN (by rfl))
theorem ZCS (k:Int) (hk:k=14\/k=15) (h0:P[0]?=some (.int .i64 k)) (hu:∀ r:Zb,r.length<=140737488355328->(Zae k r).2.1<=r.length) (l:Zb) (hl:l.length<=140737488355328) {e:Int} (h:Zcs k l=.error e) :
  ∃ cs,Zd cs=true/\E 27 [.ref 0 0] (Zg P l)=some (.pan (Zy e),[.var cs]):=by
 obtain ⟨cs,hn,he⟩:=Zr5 P hP hN k h0 hu l hl h
 have hG:=fun σ sq (hs:(σ:Za)[0]?=some (.var (P++[.lst false (l.map Zc)])))=>Zcq (O:=E) (bf:=BY) (f:=60) (view:=true) (rest:=[]) (by kernel_rfl) rfl (Zw P hP hN _ _) hn rfl he hs sq
 have a4:=fun L=>(Z2 P hP 0 (by omega) L).trans h0
 refine ⟨cs,hn,?_⟩
 unfold Zg
 rcases hk with rfl | rfl
 all_goals
  rw [Zh (by rfl) Za6]
  simp -implicitDefEqProofs only [EQA,ZC,Nat.reduceAdd,Nat.reduceLT,Nat.reduceLeDiff,Nat.reduceEqDiff,Nat.reduceBEq,↓reduceIte,Za8,Za0,oI,oN,a4,hG,Int.reduceBEq]
  exact ZS rfl hn
theorem ZrT (k:Int) (hk:k=4\/k=5\/k=6\/k=7) (h0:P[0]?=some (.int .i64 k)) (h7:P[7]?=some (.int .i64 0)) (h9:P[9]?=some (.lst true [])) (hu:∀ r:Zb,r.length<=140737488355328->(Zae k r).2.1<=r.length) (l:Zb) (hl:l.length<=140737488355328) {n:Int} {r1:Zb} (hi:idK l=.ok (n,r1)) {c:Int} {ps:Option (List Zt)} {r:Zb} (h:Zcs k r1=.ok ((c,ps),r)) :
  E 27 [.ref 0 0] (Zg P l)=some (if r.length=0 then .tup [] else .pan (Zy 129),Zg (Zdm (P.set 4 (.int .i64 n)) c ps) r):=by
 have hr1:=ZeE hi
 have hI:=fun σ sq hs=>Zfy P hP hN l hl σ 0 sq hs hi
 have hP4:(P.set 4 (.int .i64 n)).length=26:=by simp [hP]
 have hN4:Zd (P.set 4 (.int .i64 n))=true:=ZO rfl 4 hN
 have g0:(P.set 4 (.int .i64 n))[0]?=some (.int .i64 k):=by rw [List.getElem?_set_ne (by omega)];exact h0
 have g7:(P.set 4 (.int .i64 n))[7]?=some (.int .i64 0):=by rw [List.getElem?_set_ne (by omega)];exact h7
 have g9:(P.set 4 (.int .i64 n))[9]?=some (.lst true []):=by rw [List.getElem?_set_ne (by omega)];exact h9
 generalize P.set 4 (.int .i64 n)=S at *
 have hG:=fun σ sq hs=>Zrx S hP4 hN4 r1 (by omega) σ 0 sq hs k g0 g7 g9 hu h
 obtain ⟨hQ,hQN⟩:=Zls hP4 hN4 c ps
 have a4:=fun L=>(Z2 P hP 0 (by omega) L).trans h0
 unfold Zg
 rw [show (S.set 7 (.int .i64 c)).set 9 (Ze4 ps)=Zdm S c ps from rfl] at hG
 generalize Zdm S c ps=Q at *
 have b2:=Zao Q hQ
 by_cases hr:r.length=0
 ·have m1:=Za5
  have z:=Zey (l:=r) (decide_eq_true hr)
  rw [if_pos hr]
  rcases hk with rfl | rfl | rfl | rfl
  all_goals
   rw [Zh (by rfl) Za6]
   simp -implicitDefEqProofs only [EQA,ZC,Zq,Nat.reduceAdd,Nat.reduceLT,Nat.reduceLeDiff,Nat.reduceEqDiff,Nat.reduceBEq,↓reduceIte,Zd,Za8,Za0,Zeb,oI,oN,a4,b2,hI,hG,m1,Int.reduceBEq,z]
   exact ZS rfl (ZaA hQN (by rfl))
 ·have m1:=Zbs
  have z:=Zey (l:=r) (decide_eq_false hr)
  rw [if_neg hr]
  rcases hk with rfl | rfl | rfl | rfl
  all_goals
   rw [Zh (by rfl) Za6]
   simp -implicitDefEqProofs only [EQA,ZC,Nat.reduceAdd,Nat.reduceLT,Nat.reduceLeDiff,Nat.reduceEqDiff,Nat.reduceBEq,↓reduceIte,Za8,Za0,oI,oN,a4,b2,hI,hG,m1,Int.reduceBEq,z]
   exact ZS rfl (ZaA hQN (by rfl))
theorem ZHE (k:Int) (hk:k=4\/k=5\/k=6\/k=7) (h0:P[0]?=some (.int .i64 k)) (l:Zb) (hl:l.length<=140737488355328) {e:Int} (h:idK l=.error e) :
  ∃ cs,Zd cs=true/\E 27 [.ref 0 0] (Zg P l)=some (.pan (Zy e),[.var cs]):=by
 obtain ⟨cs,hn,he⟩:=ZkN P hP hN l hl h
 have hG:=fun σ sq (hs:(σ:Za)[0]?=some (.var (P++[.lst false (l.map Zc)])))=>Zcq (O:=E) (bf:=BY) (f:=59) (view:=true) (rest:=[]) (by kernel_rfl) rfl (Zw P hP hN _ _) hn rfl he hs sq
 have a4:=fun L=>(Z2 P hP 0 (by omega) L).trans h0
 refine ⟨cs,hn,?_⟩
 unfold Zg
 rcases hk with rfl | rfl | rfl | rfl
 all_goals
  rw [Zh (by rfl) Za6]
  simp -implicitDefEqProofs only [EQA,ZC,Nat.reduceAdd,Nat.reduceLT,Nat.reduceLeDiff,Nat.reduceEqDiff,Nat.reduceBEq,↓reduceIte,Za8,Za0,oI,oN,a4,hG,Int.reduceBEq]
  exact ZS rfl hn
theorem Zw1 (k:Int) (hk:k=4\/k=5\/k=6\/k=7) (h0:P[0]?=some (.int .i64 k)) (hu:∀ r:Zb,r.length<=140737488355328->(Zae k r).2.1<=r.length) (l:Zb) (hl:l.length<=140737488355328) {n:Int} {r1:Zb} (hi:idK l=.ok (n,r1)) {e:Int} (h:Zcs k r1=.error e) :
  ∃ cs,Zd cs=true/\E 27 [.ref 0 0] (Zg P l)=some (.pan (Zy e),[.var cs]):=by
 have hr1:=ZeE hi
 have hI:=fun σ sq hs=>Zfy P hP hN l hl σ 0 sq hs hi
 have hP4:(P.set 4 (.int .i64 n)).length=26:=by simp [hP]
 have hN4:Zd (P.set 4 (.int .i64 n))=true:=ZO rfl 4 hN
 have g0:(P.set 4 (.int .i64 n))[0]?=some (.int .i64 k):=by rw [List.getElem?_set_ne (by omega)];exact h0
 generalize P.set 4 (.int .i64 n)=S at *
 obtain ⟨cs,hn,he⟩:=Zr5 S hP4 hN4 k g0 hu r1 (by omega) h
 have hG:=fun σ sq (hs:(σ:Za)[0]?=some (.var (S++[.lst false (r1.map Zc)])))=>Zcq (O:=E) (bf:=BY) (f:=60) (view:=true) (rest:=[]) (by kernel_rfl) rfl (Zw S hP4 hN4 _ _) hn rfl he hs sq
 have a4:=fun L=>(Z2 P hP 0 (by omega) L).trans h0
 refine ⟨cs,hn,?_⟩
 unfold Zg
 rcases hk with rfl | rfl | rfl | rfl
 all_goals
  rw [Zh (by rfl) Za6]
  simp -implicitDefEqProofs only [EQA,ZC,Nat.reduceAdd,Nat.reduceLT,Nat.reduceLeDiff,Nat.reduceEqDiff,Nat.reduceBEq,↓reduceIte,Za8,Za0,oI,oN,a4,hI,hG,Int.reduceBEq]
  exact ZS rfl hn
theorem Zz3 (k:Int) (hk:k=12\/k=13) (h0:P[0]?=some (.int .i64 k)) (l:Zb):E 27 [.ref 0 0] (Zg P l)=some (if l.length=0 then .tup [] else .pan (Zy 129),Zg P l):=by
 have a4:=fun L=>(Z2 P hP 0 (by omega) L).trans h0
 have b2:=Zao P hP
 unfold Zg
 by_cases hr:l.length=0
 ·have m1:=Za5
  have z:=Zey (l:=l) (decide_eq_true hr)
  rw [if_pos hr]
  rcases hk with rfl | rfl
  all_goals
   rw [Zh (by rfl) Za6]
   simp -implicitDefEqProofs only [EQA,ZC,Zq,Nat.reduceAdd,Nat.reduceLT,Nat.reduceLeDiff,Nat.reduceEqDiff,Nat.reduceBEq,↓reduceIte,Zd,Za8,Za0,Zeb,oI,oN,a4,b2,m1,Int.reduceBEq,z]
   exact ZS rfl (Zw P hP hN _ _)
 ·have m1:=Zbs
  have z:=Zey (l:=l) (decide_eq_false hr)
  rw [if_neg hr]
  rcases hk with rfl | rfl
  all_goals
   rw [Zh (by rfl) Za6]
   simp -implicitDefEqProofs only [EQA,ZC,Nat.reduceAdd,Nat.reduceLT,Nat.reduceLeDiff,Nat.reduceEqDiff,Nat.reduceBEq,↓reduceIte,Za8,Za0,oI,oN,a4,b2,m1,Int.reduceBEq,z]
   exact ZS rfl (Zw P hP hN _ _)
end
end
section
def Zec (k:Int):Int:=if k=6\/k=8\/k=10 then 2 else 0
theorem ZH5 (k:Int):E 40 [.int .i64 k] []=some (.int .u8 (Zec k),[]):=by
 unfold Zec
 by_cases h6:k=6
 ·subst h6;rw [Zh (by rfl) Zk1];simp -implicitDefEqProofs only [EQA,Nat.reduceLT,Nat.reduceEqDiff,reduceCtorEq,↓reduceIte,ZlH,ZhE,Zjb,oI]
 by_cases h8:k=8
 ·subst h8;rw [Zh (by rfl) Zk1];simp -implicitDefEqProofs only [EQA,Nat.reduceLT,Nat.reduceEqDiff,reduceCtorEq,↓reduceIte,ZlH,ZhE,Zjb,oI,Int.reduceBEq]
 by_cases h10:k=10
 ·subst h10;rw [Zh (by rfl) Zk1];simp -implicitDefEqProofs only [EQA,Nat.reduceLT,Nat.reduceEqDiff,reduceCtorEq,↓reduceIte,ZlH,ZhE,Zjb,oI,Int.reduceBEq]
 have b6:(k == 6)=false:=by simpa using h6
 have b8:(k == 8)=false:=by simpa using h8
 have b10:(k == 10)=false:=by simpa using h10
 rw [if_neg (by omega),Zh (by rfl) Zk1]
 simp -implicitDefEqProofs only [EQA,Nat.reduceLT,Nat.reduceEqDiff,reduceCtorEq,↓reduceIte,ZlH,ZhE,Zjb,oI,b6,b8,b10]
theorem Zly (k:Int) (σ:Za) (sq own:Nat):Zj E BY σ sq 40 own true [.int .i64 k]=some (.int .u8 (Zec k),σ,{}) :=
 Zcl (ZH5 k) (by kernel_rfl) (by simp -implicitDefEqProofs only [ZcR,Zbq,eq_self,eq_self]) (by simp -implicitDefEqProofs only [ZC,Zbq,eq_self,eq_self]) rfl (fun _=>rfl) _ _ _ _
def tyI (b:Int):Int:=IntKind.i64.wrap (b.fdiv (2 ^ min (Int.toNat 4) IntKind.u8.bits))
def Zbg (a b:Int):Int:=IntKind.u8.wrap (BitVec.ofInt IntKind.u8.bits a &&& BitVec.ofInt IntKind.u8.bits b).toNat
def qoI (b:Int):Int:=IntKind.i64.wrap (Zbg (b.fdiv (2 ^ min (Int.toNat 1) IntKind.u8.bits)) 3)
def Zct (P:List AVal) (b:Int):List AVal:=(((P.set 0 (.int .i64 3)).set 1 (.bool (Zbg b 8 != 0))).set 2 (.int .i64 (qoI b))).set 3 (.bool (Zbg b 1 != 0))
section
variable (P:List AVal) (hP:P.length=26) (hN:Zd P=true)
include hP hN
theorem ZlJ (L v:AVal):[v]++List.drop 1 (P++[L])=P.set 0 v++[L]:=Zat P hP 0 1 (by omega) rfl L v
theorem Zzr (b:Int) (l:Zb) (h:tyI b=0):E 26 [.ref 0 0,.int .u8 b] (Zg P l)=some (.pan (Zy 129),Zg (P.set 0 (.int .i64 0)) l):=by
 have a1:=Z1 P hP
 have a3:=ZlJ P hP hN
 have a4:=Zg3 P hP 0 (by omega)
 have m1:=Zbs
 have z:((0:Int) != 0)=false:=by decide
 unfold tyI at h
 unfold Zg
 rw [Zh (by rfl) Zf3]
 simp -implicitDefEqProofs only [EQA,ZC,Nat.reduceLT,Nat.reduceLeDiff,Nat.reduceEqDiff,Zax,reduceCtorEq,↓reduceIte,Zf5,ZeB,oI,oN,a1,a3,a4,m1,h,z,Int.reduceLT]
 exact ZS rfl (ZaA (ZO rfl _ hN) (by rfl))
theorem Zzu (b t:Int) (l:Zb) (h:tyI b=t) (h0:¬t=0) (h3:¬t=3) (hf:¬Zbg b 15=Zec t):E 26 [.ref 0 0,.int .u8 b] (Zg P l)=some (.pan (Zy 129),Zg (P.set 0 (.int .i64 t)) l):=by
 have a1:=Z1 P hP
 have a3:=ZlJ P hP hN
 have a4:=Zg3 P hP 0 (by omega)
 have m0:=Za5
 have m1:=Zbs
 have e0:(t != 0)=true:=by simpa using h0
 have e3:(t != 3)=true:=by simpa using h3
 have ef:(Zbg b 15 == Zec t)=false:=by simpa using hf
 have hC:=Zly t
 unfold tyI at h
 unfold Zbg at ef
 unfold Zg
 rw [Zh (by rfl) Zf3]
 simp -implicitDefEqProofs only [EQA,ZC,Nat.reduceLT,Nat.reduceLeDiff,Nat.reduceEqDiff,Zax,reduceCtorEq,↓reduceIte,Zf5,ZeB,oI,oN,a1,a3,a4,m0,m1,h,e0,e3,ef,hC,Int.reduceLT]
 exact ZS rfl (ZaA (ZO rfl _ hN) (by rfl))
theorem Ztb (b t:Int) (l:Zb) (h:tyI b=t) (h0:¬t=0) (h3:¬t=3) (hf:Zbg b 15=Zec t):E 26 [.ref 0 0,.int .u8 b] (Zg P l)=some (.tup [],Zg (P.set 0 (.int .i64 t)) l):=by
 have a1:=Z1 P hP
 have a3:=ZlJ P hP hN
 have a4:=Zg3 P hP 0 (by omega)
 have m0:=Za5
 have e0:(t != 0)=true:=by simpa using h0
 have e3:(t != 3)=true:=by simpa using h3
 have ef:(Zbg b 15 == Zec t)=true:=by simpa using hf
 have hC:=Zly t
 unfold tyI at h
 unfold Zbg at ef
 unfold Zg
 rw [Zh (by rfl) Zf3]
 simp -implicitDefEqProofs only [EQA,ZC,Zq,Nat.reduceLT,Nat.reduceLeDiff,Nat.reduceEqDiff,Zax,reduceCtorEq,↓reduceIte,Zd,Zf5,ZeB,ZlV,oI,oN,a1,a3,a4,m0,h,e0,e3,ef,hC,Int.reduceLT]
 exact ZS rfl (ZaA (ZO rfl _ hN) (by rfl))
theorem ZJw (b:Int) (l:Zb) (h:tyI b=3):E 26 [.ref 0 0,.int .u8 b] (Zg P l)=some (if qoI b < 3 then (if qoI b > 0\/(Zbg b 8 != 0)=false then .tup [] else .pan (Zy 130)) else .pan (Zy 129),Zg (Zct P b) l):=by
 have hQ:(Zct P b).length=26:=by simp [Zct,hP]
 have hQN:Zd (Zct P b)=true:=ZO rfl _ (ZO rfl _ (ZO rfl _ (ZO rfl _ hN)))
 have g1:(Zct P b)[1]?=some (.bool (Zbg b 8 != 0)):=by simp [Zct,hP]
 have g2:(Zct P b)[2]?=some (.int .i64 (qoI b)):=by simp [Zct,hP]
 have a1:=Z1 P hP
 have a3:=fun L=>ZlJ P hP hN L (.int .i64 3)
 have a4:=Zg3 P hP 0 (by omega)
 have hP0:(P.set 0 (.int .i64 3)).length=26:=by simp [hP]
 have b1:=Z1 _ hP0
 have b3:=fun L=>Zat _ hP0 1 2 (by omega) rfl L (.bool (Zbg b 8 != 0))
 have hP1:((P.set 0 (.int .i64 3)).set 1 (.bool (Zbg b 8 != 0))).length=26:=by simp [hP]
 have c1:=Z1 _ hP1
 have c3:=fun L=>Zat _ hP1 2 3 (by omega) rfl L (.int .i64 (qoI b))
 have hP2:(((P.set 0 (.int .i64 3)).set 1 (.bool (Zbg b 8 != 0))).set 2 (.int .i64 (qoI b))).length=26:=by simp [hP]
 have d1:=Z1 _ hP2
 have d3:=fun L=>Zat _ hP2 3 4 (by omega) rfl L (.bool (Zbg b 1 != 0))
 rw [show (((P.set 0 (.int .i64 3)).set 1 (.bool (Zbg b 8 != 0))).set 2 (.int .i64 (qoI b))).set 3 (.bool (Zbg b 1 != 0))=Zct P b from rfl] at d3
 generalize Zct P b=Q at *
 have k1:=fun L=>(Z2 Q hQ 1 (by omega) L).trans g1
 have k2:=fun L=>(Z2 Q hQ 2 (by omega) L).trans g2
 have m0:=Za5
 have m1:=Zbs
 have e0:((3:Int) != 0)=true:=by decide
 have e3:((3:Int) != 3)=false:=by decide
 unfold tyI at h
 unfold Zg
 by_cases hq:qoI b < 3
 ·rw [if_pos hq]
  by_cases hq0:qoI b > 0
  ·rw [if_pos (Or.inl hq0)]
   unfold qoI Zbg at *
   rw [Zh (by rfl) Zf3]
   simp -implicitDefEqProofs only [EQA,ZC,Zq,Nat.reduceAdd,Nat.reduceLT,Nat.reduceLeDiff,Nat.reduceEqDiff,Zax,ZH,Zau,reduceCtorEq,↓reduceIte,Zd,Zf5,ZeB,ZlV,oI,oN,a1,a3,a4,b1,b3,c1,c3,d1,d3,k2,m0,h,e0,e3,hq,hq0,Int.reduceLT]
   exact ZS rfl (ZaA hQN (by rfl))
  ·cases hd:(Zbg b 8 != 0)
   ·rw [if_pos (Or.inr rfl)]
    rw [hd] at b3 c1 c3 d1 d3 k1
    unfold qoI Zbg at *
    rw [Zh (by rfl) Zf3]
    simp -implicitDefEqProofs only [EQA,ZC,Zq,Nat.reduceAdd,Nat.reduceLT,Nat.reduceLeDiff,Nat.reduceEqDiff,Zax,unA,ZH,unG,reduceCtorEq,↓reduceIte,Zd,Zf5,ZeB,ZlV,oI,oN,a1,a3,a4,b1,b3,c1,c3,d1,d3,k1,k2,m0,h,e0,e3,hq,hq0,hd,Int.reduceLT]
    exact ZS rfl (ZaA hQN (by rfl))
   ·rw [if_neg (by simp [hq0])]
    rw [hd] at b3 c1 c3 d1 d3 k1
    unfold qoI Zbg at *
    rw [Zh (by rfl) Zf3]
    simp -implicitDefEqProofs only [EQA,ZC,Nat.reduceAdd,Nat.reduceLT,Nat.reduceLeDiff,Nat.reduceEqDiff,Zax,unA,ZH,unG,reduceCtorEq,↓reduceIte,Zf5,ZeB,oI,oN,a1,a3,a4,b1,b3,c1,c3,d1,d3,k1,k2,m0,m1,h,e0,e3,hq,hq0,hd,Int.reduceLT]
    exact ZS rfl (ZaA hQN (by rfl))
 ·rw [if_neg hq]
  unfold qoI Zbg at *
  rw [Zh (by rfl) Zf3]
  simp -implicitDefEqProofs only [EQA,ZC,Nat.reduceAdd,Nat.reduceLT,Nat.reduceLeDiff,Nat.reduceEqDiff,Zax,reduceCtorEq,↓reduceIte,Zf5,ZeB,oI,oN,a1,a3,a4,b1,b3,c1,c3,d1,d3,k2,m0,m1,h,e0,e3,hq,Int.reduceLT]
  exact ZS rfl (ZaA hQN (by rfl))
end
end
section
section
variable {σ:Za} {cs xs:List AVal} {g w:Nat}
theorem ZmQ {t r:Nat} (hs:σ[t]?=some (.var cs)) (hr:σ[r]?=some (.row g w xs)) (htr:t≠r) (hrf:Zp cs=[r]):ZA σ 1000 [t] []=[t,r]:=by
 have h1:σ.getD t .free=.var cs:=by simp [List.getD_eq_getElem?_getD,hs]
 have h2:σ.getD r .free=.row g w xs:=by simp [List.getD_eq_getElem?_getD,hr]
 have e1:([]:List Nat).contains t=false:=rfl
 have e2:([t]:List Nat).contains r=false:=by simp;exact fun e=>htr e.symm
 rw [show (1000:Nat)=997+1+1+1 from rfl,ZA,e1]
 simp only [Bool.false_eq_true,if_false,h1,ZN,hrf,List.append_nil,List.nil_append]
 rw [ZA,e2]
 simp only [Bool.false_eq_true,if_false,h2,ZN,List.nil_append]
 rfl
theorem Zs4 {r:AVal} {σ:Za} (hr:ZG r=true) (hrf:Zp cs=[1]) (hg:g<=1) (hren:∀ ρ:Rho,ρ 1 g=some (1,g)->Ze ρ cs=cs):gcA 2 [r] (.var cs::.row g w xs::σ)=([r],[.var cs,.row g w xs]):=by
 have e1:=(ZaW (Zl (.var cs::.row g w xs::σ) 2 [0,1]) r hr)
 have h1:ZB 2 [r] (.var cs::.row g w xs::σ)=[0,1]:=by
  have : Zp [r]=[]:=by simp only [Zp,e1.2,List.append_nil]
  have hR:List.range 2=[0,1]:=rfl
  simp only [ZB,this,List.nil_append,hR,List.flatMap_cons,List.flatMap_nil,List.append_nil,List.getD_cons_zero,List.getD_cons_succ,ZN,hrf]
  rfl
 have hng:(if g=0 then 0 else 1)=g:=by split <;> omega
 have hρ:Zl (.var cs::.row g w xs::σ) 2 [0,1] 1 g=some (1,g):=by
  simp only [Zl,ZZ,Zm,ZR,List.getElem?_cons_succ,List.getElem?_cons_zero]
  simp [hng]
 simp only [gcA,h1,Ze,e1.1,Zv,List.getD_cons_zero,List.getD_cons_succ,ZR,Zm,ZF,hren _ hρ]
 simp [hng]
theorem ZnX {r:AVal} {σ:Za} (hr:ZG r=true) (hrf:Zp cs=[1]) (hg:g<=1) (hren:∀ ρ:Rho,ρ 1 g=some (1,g)->Ze ρ cs=cs):Zak 2 (.var cs::.row g w xs::σ) r=some (r,[.var cs,.row g w xs]):=by
 simp only [Zak,Zs4 hr hrf hg hren]
end
theorem Zcn:∀ (a b:List AVal),Zp (a++b)=Zp a++Zp b
 | [],b=>by simp [Zp]
 | x::a,b=>by simp [Zp,Zcn a b,List.append_assoc]
theorem ZbH (ρ:Rho):∀ (a b:List AVal),Ze ρ (a++b)=Ze ρ a++Ze ρ b
 | [],b=>by simp [Ze]
 | x::a,b=>by simp [Ze,ZbH ρ a b]
theorem ZhR {v:AVal}:∀ {P:List AVal} {k:Nat},Zd P=true->k < P.length->Zp (P.set k v)=ZV v
 | [],_,_,h=>by simp at h
 | x::P,0,h,_=>by
  simp only [Zd,Bool.and_eq_true] at h
  simp only [List.set_cons_zero,Zp,(ZaM (fun _ _=>none) P h.2).2,List.append_nil]
 | x::P,k+1,h,hk=>by
  simp only [Zd,Bool.and_eq_true] at h
  simp only [List.set_cons_succ,Zp,(ZaW (fun _ _=>none) x h.1).2,List.nil_append]
  exact ZhR h.2 (by simpa using hk)
theorem Zh7 (ρ:Rho) {v:AVal}:∀ {P:List AVal} {k:Nat},Zd P=true->Ze ρ (P.set k v)=P.set k (Zk ρ v)
 | [],_,_=>by simp [Ze]
 | x::P,0,h=>by
  simp only [Zd,Bool.and_eq_true] at h
  simp only [List.set_cons_zero,Ze,(ZaM ρ P h.2).1]
 | x::P,k+1,h=>by
  simp only [Zd,Bool.and_eq_true] at h
  simp only [List.set_cons_succ,Ze,(ZaW ρ x h.1).1,Zh7 ρ h.2]
theorem ZJ7 {σ:Za} {t r g w w2 g2:Nat} {cs xs cs2 xs2:List AVal} (hs:σ[t]?=some (.var cs)) (hr:σ[r]?=some (.row g w xs)) (hg2:g2<=1):ZaV σ [t,r] [.var cs2,.row g2 w2 xs2] 0=true:=by
 have h1:σ.getD t .free=.var cs:=by simp [List.getD_eq_getElem?_getD,hs]
 have h2:σ.getD r .free=.row g w xs:=by simp [List.getD_eq_getElem?_getD,hr]
 simp [ZaV,okB,Zb1,Zm,hs,hr,hg2]
theorem Zgw {O:ZL} {bf:Nat->Bool} {σ:Za} {t r f own g w g2 w2 sq:Nat} {view:Bool} {rest:List AVal} {cs cs1 cs2 cs3 xs xs2:List AVal} {q q':AVal} (hs:σ[t]?=some (.var cs)) (hr:σ[r]?=some (.row g w xs)) (htr:t≠r) (hrf:Zp cs=[r]) (hb:bf f=false) (hp:rest.all Z5=true)
  (hren:∀ ρ:Rho,ρ r g=some (1,0)->Ze ρ cs=cs1) (hg2:g2<=1) (hff:ZaU σ sq own=true) (hn:ZG q'=true)
  (h:O f (.ref 0 0::rest.map ZD) [.var cs1,.row 0 w xs]=some (q,[.var cs2,.row g2 w2 xs2])) (hv:Z6 view 2 (some (q,[.var cs2,.row g2 w2 xs2]))=some (q',[.var cs2,.row g2 w2 xs2]))
  (hback:∀ ρ:Rho,(∀ j,ρ 1 j=some (r,g+j))->Ze ρ cs2=cs3) :
  Zj O bf σ sq f own view (.ref t 0::rest)=some (q',(σ.set t (.var cs3)).set r (.row (g+g2) w2 xs2),{ any:=true,upd:=[(t,cs3)] }):=by
 have htl:t < σ.length:=by
  rcases Nat.lt_or_ge t σ.length with h | h
  ·exact h
  ·rw [List.getElem?_eq_none h] at hs;cases hs
 have h1:σ.getD t .free=.var cs:=by simp [List.getD_eq_getElem?_getD,hs]
 have h2:σ.getD r .free=.row g w xs:=by simp [List.getD_eq_getElem?_getD,hr]
 have hf0:Zo σ []=σ:=rfl
 have hsh:showAs σ (.ref t 0::rest)=some (.ref t 0::rest.map ZD,[]):=by
  rw [showAs,show showA σ (.ref t 0)=some (.ref t 0,[]) from rfl,ZdH hp]
  rfl
 have href:Zp (.ref t 0::rest.map ZD)=[t]:=by
  rw [Zp,Zc5 hp];rfl
 have hup:Za2 ((σ.set t (.var cs3)).set r (.row (g+g2) w2 xs2)) [t,r]=[(t,cs3)]:=by
  have e1:((σ.set t (.var cs3)).set r (.row (g+g2) w2 xs2))[t]?=some (.var cs3):=by
   rw [List.getElem?_set_ne (fun e=>htr e.symm),List.getElem?_set_self htl]
  have e2:((σ.set t (.var cs3)).set r (.row (g+g2) w2 xs2))[r]?=some (.row (g+g2) w2 xs2):=by
   rw [List.getElem?_set_self (by
    rcases Nat.lt_or_ge r σ.length with h | h
    ·simpa using h
    ·rw [List.getElem?_eq_none h] at hr;cases hr)]
  simp only [Za2,e1,e2]
 unfold Zj ZbJ
 rw [hb]
 simp only [Bool.false_eq_true,if_false,hsh,hf0,href,ZmQ hs hr htr hrf]
 unfold Zbt
 have hall:([t,r].all fun t=>okB (σ.getD t .free))=true:=by simp only [List.all_cons,List.all_nil,h1,h2,okB,Bool.and_true]
 rw [if_pos hall]
 have hρt:Zl σ 0 [t,r] t 0=some (0,0):=by simp [Zl,ZZ,hs,Zm,ZR]
 have hρr:Zl σ 0 [t,r] r g=some (1,0):=by simp [Zl,ZZ,hr,Zm,ZR,htr]
 have hargs:Ze (Zl σ 0 [t,r]) (.ref t 0::rest.map ZD)=.ref 0 0::rest.map ZD:=by
  rw [Ze,Zdb hp]
  simp only [Zk,hρt]
 have hheap:Zv σ 0 [t,r] (Zl σ 0 [t,r]) [t,r] 0=[.var cs1,.row 0 w xs]:=by
  simp only [Zv,h1,h2,ZR,Zm,ZF,hren _ hρr]
  simp
 rw [hargs,hheap,h]
 rw [show [t,r].length=2 from rfl,hv]
 have hk:=ZJ7 (cs2:=cs2) (w2:=w2) (xs2:=xs2) hs hr hg2
 have hb3:Ze (Zaz σ [t,r] sq) cs2=cs3:=hback _ (fun j=>by simp only [Zaz,List.getElem?_cons_succ,List.getElem?_cons_zero,h2,Zm])
 simp only [Zay,List.isEmpty_cons,Bool.false_eq_true,if_false,List.length_cons,List.length_nil,Nat.zero_add,Nat.reduceAdd,Nat.le_add_right,Nat.le_refl,decide_true,hk,hff,Bool.and_self,if_true,ZaY,ZaF,List.getD_cons_zero,List.getD_cons_succ,Zb6,List.getElem?_cons_zero,List.getElem?_cons_succ,h2,Zm,ZF,(ZaW _ _ hn).1,hb3,hup]
end
section
section
variable (P:List AVal) (hP:P.length=26) (hF:Zp P=[1]) (hS:∀ ρ:Rho,ρ 1 0=some (1,0)->Ze ρ P=P) (w:Nat) (xs:List AVal)
include hP hF hS
theorem Zgv {r:AVal} (hr:ZG r=true) (f:Bool) (ys:List AVal):Zak 2 [.var (P++[.lst f ys]),.row 0 w xs] r=some (r,[.var (P++[.lst f ys]),.row 0 w xs]) :=
 ZnX hr (by rw [Zcn,hF];rfl) (by omega) (fun ρ h=>by rw [ZbH,hS ρ h];rfl)
theorem ZLU (l:Zb) (n:Nat) (hn:n<=l.length) (hl:l.length<=140737488355328):E 55 [.ref 0 0,.int .i64 (n:Nat)] [.var (P++[.lst false (l.map Zc)]),.row 0 w xs]=some (.int .i64 (Zid (l.take n)),[.var (P++[.lst false ((l.drop n).map Zc)]),.row 0 w xs]):=by
 have h1:(l.length:Int)>=((n:Nat):Int):=by omega
 have s1:=fun σ kk=>Zjt σ 1 l Zc kk (n:Int) (by omega) (by omega)
 have s2:=fun σ kk=>ZeX σ l kk (n:Int) (by omega) (by omega)
 have e2:((n:Int)).toNat=n:=rfl
 rw [e2] at s1 s2
 have ht:(l.take n).length<=9223372036854775807:=by simp;omega
 have hG:=fun σ sq own f=>Zjm σ sq own (l.take n) ht f
 have a1:=Z1 P hP
 have a2:=Zao P hP
 have a3:=Zej P hP
 have a4:=ZfF P hP
 have m1:=Za5
 rw [Zh (by rfl) Zjj]
 simp -implicitDefEqProofs only [EQA,ZC,Nat.reduceAdd,Nat.reduceLT,Nat.reduceLeDiff,Nat.reduceEqDiff,reduceCtorEq,↓reduceIte,ZjD,Zhz,ZqD,oI,oN,h1,s1,s2,hG,a1,a2,a3,a4,m1,Zid]
 exact Zgv P hP hF hS w xs rfl _ _
theorem ZIS (l:Zb) (n:Nat) (hn:l.length < n) (hn':n<=9223372036854775807):E 55 [.ref 0 0,.int .i64 (n:Nat)] [.var (P++[.lst false (l.map Zc)]),.row 0 w xs]=some (.pan (Zy 129),[.var (P++[.lst false (l.map Zc)]),.row 0 w xs]):=by
 have h1:¬(l.length:Int)>=((n:Nat):Int):=by omega
 have a2:=Zao P hP
 have m1:=Zbs
 rw [Zh (by rfl) Zjj]
 simp -implicitDefEqProofs only [EQA,Nat.reduceAdd,Nat.reduceLT,Nat.reduceEqDiff,reduceCtorEq,↓reduceIte,ZjD,Zhz,oI,oN,h1,a2,m1]
 exact Zgv P hP hF hS w xs rfl _ _
theorem ZLu (l:Zb) (hl:l.length<=140737488355328) (h:(Zaa l).2.2=0):E 64 [.ref 0 0] [.var (P++[.lst false (l.map Zc)]),.row 0 w xs]=some (.str (Zaa l).1,[.var (P++[.lst false ((l.drop (Zaa l).2.1).map Zc)]),.row 0 w xs]):=by
 have hG:=fun σ sq own f=>Zg4 σ sq own f l hl
 have hu:=(ZgS l).1
 unfold gtT at hG
 have s2:=fun σ kk=>ZeX σ l kk ((Zaa l).2.1:Int) (by omega) (by omega)
 have e2:(((Zaa l).2.1:Nat):Int).toNat=(Zaa l).2.1:=rfl
 rw [e2] at s2
 rw [h] at hG
 have a1:=Z1 P hP
 have a2:=Zao P hP
 have a3:=Zej P hP
 have a4:=ZfF P hP
 have m1:=Za5
 rw [Zh (by rfl) Zkm]
 simp -implicitDefEqProofs only [EQA,ZC,Nat.reduceAdd,Nat.reduceLT,Nat.reduceLeDiff,Nat.reduceEqDiff,reduceCtorEq,↓reduceIte,ZjT,ZgI,Zuw,oI,oN,s2,hG,a1,a2,a3,a4,m1]
 exact Zgv P hP hF hS w xs rfl _ _
theorem ZvY (l:Zb) (hl:l.length<=140737488355328) (h:(Zaa l).2.2≠0):E 64 [.ref 0 0] [.var (P++[.lst false (l.map Zc)]),.row 0 w xs]=some (.pan (Zy 129),[.var (P++[.lst false (l.map Zc)]),.row 0 w xs]):=by
 have hG:=fun σ sq own f=>Zg4 σ sq own f l hl
 unfold gtT at hG
 have h0:((Zaa l).2.2 == 0)=false:=by simpa using h
 have h1:=h
 have a2:=Zao P hP
 have m1:=Zbs
 rw [Zh (by rfl) Zkm]
 simp -implicitDefEqProofs only [EQA,Nat.reduceAdd,Nat.reduceLT,Nat.reduceEqDiff,reduceCtorEq,↓reduceIte,ZjT,ZgI,oI,oN,hG,a2,h0,m1]
 exact Zgv P hP hF hS w xs rfl _ _
end
theorem Zja {q:AVal} {cs xs:List AVal} {g w:Nat} (view:Bool) (hn:ZG q=true) (hv:viewR [.var cs,.row g w xs] q=some (q,[])) (hrf:Zp cs=[1]) (hg:g<=1) (hren:∀ ρ:Rho,ρ 1 g=some (1,g)->Ze ρ cs=cs):Z6 view 2 (some (q,[.var cs,.row g w xs]))=some (q,[.var cs,.row g w xs]):=by
 unfold Z6
 split
 ·have hnp:∀ x,q≠.pan x:=by rintro x rfl;simp [viewR,ZQ,ZK] at hv
  rw [show Zbr 2 (some (q,[.var cs,.row g w xs]))=(match viewR [.var cs,.row g w xs] q with
   | some (r',ts)=>match gcA 2 [r'] (Zo [.var cs,.row g w xs] ts) with
    | ([r''],σ')=>some (r'',σ')
    | _=>none
   | none=>none) from by cases q <;> first | rfl | exact absurd rfl (hnp _)]
  rw [hv]
  simp only [show Zo [ZI.var cs,.row g w xs] []=[.var cs,.row g w xs] from rfl,Zs4 hn hrf hg hren]
 ·rfl
theorem Zmj {x:AVal} {σ:Za} (view:Bool):Z6 view 2 (some (.pan x,σ))=some (.pan x,σ):=by
 unfold Z6
 split <;> rfl
def Zi (Q:List AVal) (k r g n:Nat):List AVal:=Q.set k (.sl r g 0 n)
section
variable (Q:List AVal) (hQ:Q.length=26) (hN:Zd Q=true) (k:Nat) (hk:k < 26) (n:Nat)
include hQ hN hk
theorem ZbP (r g:Nat):(Zi Q k r g n).length=26:=by simp [Zi,hQ]
theorem Zb7 (r g:Nat):Zp (Zi Q k r g n)=[r]:=by
 unfold Zi
 rw [ZhR hN (by omega)]
 rfl
theorem ZbA {r g r' g':Nat} (ρ:Rho) (h:ρ r g=some (r',g')):Ze ρ (Zi Q k r g n)=Zi Q k r' g' n:=by
 unfold Zi
 rw [Zh7 ρ hN]
 simp only [Zk,h]
variable (w:Nat) (xs:List AVal) (l:Zb) (hl:l.length<=140737488355328) (σ:Za) (t r g sq:Nat) (htr:t≠r) (hs:σ[t]?=some (.var (Zi Q k r g n++[.lst false (l.map Zc)]))) (hr:σ[r]?=some (.row g w xs))
include hl htr hs hr
theorem Zk0 {c:Nat} {m a:Int} {l2:Zb} (hm:((c:Nat):Int)=m) (h:ZaE c l=.ok (a,l2)):Zj E BY σ sq 55 0 true [.ref t 0,.int .i64 m]=some (.int .i64 a,(σ.set t (.var (Zi Q k r g n++[.lst false (l2.map Zc)]))).set r (.row g w xs),{ any:=true,upd:=[(t,Zi Q k r g n++[.lst false (l2.map Zc)])] }):=by
 subst hm
 unfold ZaE at h
 split at h
 ·cases h
 ·injection h with h;injection h with h1 h2;subst h1 h2
  have e:=ZLU (Zi Q k 1 0 n) (ZbP Q hQ hN k hk n 1 0) (Zb7 Q hQ hN k hk n 1 0) (fun ρ h=>ZbA Q hQ hN k hk n ρ h) w xs l c (by omega) hl
  exact Zgw (g2:=0) (own:=0) (rest:=[.int .i64 (c:Nat)]) hs hr htr (by rw [Zcn,Zb7 Q hQ hN k hk n];rfl) (by kernel_rfl) rfl (fun ρ h=>by rw [ZbH,ZbA Q hQ hN k hk n ρ h];rfl) (by omega) rfl rfl e
   (Zja true rfl rfl (by rw [Zcn,Zb7 Q hQ hN k hk n];rfl) (by omega) (fun ρ h=>by rw [ZbH,ZbA Q hQ hN k hk n ρ h];rfl)) (fun ρ h=>by rw [ZbH,ZbA Q hQ hN k hk n ρ (h 0)];rfl)
theorem Zup {c:Nat} {m e:Int} (hm:((c:Nat):Int)=m) (hc:c<=9223372036854775807) (h:ZaE c l=.error e):Zj E BY σ sq 55 0 true [.ref t 0,.int .i64 m]=some (.pan (Zy e),(σ.set t (.var (Zi Q k r g n++[.lst false (l.map Zc)]))).set r (.row g w xs),{ any:=true,upd:=[(t,Zi Q k r g n++[.lst false (l.map Zc)])] }):=by
 subst hm
 unfold ZaE at h
 split at h
 ·injection h with h;subst h
  have e:=ZIS (Zi Q k 1 0 n) (ZbP Q hQ hN k hk n 1 0) (Zb7 Q hQ hN k hk n 1 0) (fun ρ h=>ZbA Q hQ hN k hk n ρ h) w xs l c (by omega) hc
  exact Zgw (g2:=0) (own:=0) (rest:=[.int .i64 (c:Nat)]) hs hr htr (by rw [Zcn,Zb7 Q hQ hN k hk n];rfl) (by kernel_rfl) rfl (fun ρ h=>by rw [ZbH,ZbA Q hQ hN k hk n ρ h];rfl) (by omega) rfl rfl e
   (Zmj true) (fun ρ h=>by rw [ZbH,ZbA Q hQ hN k hk n ρ (h 0)];rfl)
 ·cases h
theorem Zmy {a l2:Zb} (h:Zap l=.ok (a,l2)):Zj E BY σ sq 64 0 true [.ref t 0]=some (.str a,(σ.set t (.var (Zi Q k r g n++[.lst false (l2.map Zc)]))).set r (.row g w xs),{ any:=true,upd:=[(t,Zi Q k r g n++[.lst false (l2.map Zc)])] }):=by
 unfold Zap at h
 split at h
 ·rename_i h0
  injection h with h;injection h with h1 h2;subst h1 h2
  have e:=ZLu (Zi Q k 1 0 n) (ZbP Q hQ hN k hk n 1 0) (Zb7 Q hQ hN k hk n 1 0) (fun ρ h=>ZbA Q hQ hN k hk n ρ h) w xs l hl h0
  exact Zgw (g2:=0) (own:=0) (rest:=[]) hs hr htr (by rw [Zcn,Zb7 Q hQ hN k hk n];rfl) (by kernel_rfl) rfl (fun ρ h=>by rw [ZbH,ZbA Q hQ hN k hk n ρ h];rfl) (by omega) rfl rfl e
   (Zja true rfl rfl (by rw [Zcn,Zb7 Q hQ hN k hk n];rfl) (by omega) (fun ρ h=>by rw [ZbH,ZbA Q hQ hN k hk n ρ h];rfl)) (fun ρ h=>by rw [ZbH,ZbA Q hQ hN k hk n ρ (h 0)];rfl)
 ·cases h
theorem Zqi {c:Int} (h:Zap l=.error c):Zj E BY σ sq 64 0 true [.ref t 0]=some (.pan (Zy c),(σ.set t (.var (Zi Q k r g n++[.lst false (l.map Zc)]))).set r (.row g w xs),{ any:=true,upd:=[(t,Zi Q k r g n++[.lst false (l.map Zc)])] }):=by
 unfold Zap at h
 split at h
 ·cases h
 ·rename_i h0
  injection h with h;subst h
  have e:=ZvY (Zi Q k 1 0 n) (ZbP Q hQ hN k hk n 1 0) (Zb7 Q hQ hN k hk n 1 0) (fun ρ h=>ZbA Q hQ hN k hk n ρ h) w xs l hl h0
  exact Zgw (g2:=0) (own:=0) (rest:=[]) hs hr htr (by rw [Zcn,Zb7 Q hQ hN k hk n];rfl) (by kernel_rfl) rfl (fun ρ h=>by rw [ZbH,ZbA Q hQ hN k hk n ρ h];rfl) (by omega) rfl rfl e
   (Zmj true) (fun ρ h=>by rw [ZbH,ZbA Q hQ hN k hk n ρ (h 0)];rfl)
end
section
variable (Q:List AVal) (hQ:Q.length=26) (hN:Zd Q=true) (k:Nat) (hk:k < 26) (n:Nat) (w:Nat) (xs:List AVal) (l:Zb) (hl:l.length<=140737488355328) (kd:Int) (h0:(Zi Q k 1 0 n)[0]?=some (.int .i64 kd))
include hQ hN hk hl h0
theorem ZFy {c:Int} {r:Zb} (h:ZaD kd l=.ok (c,r)):E 56 [.ref 0 0] [.var (Zi Q k 1 0 n++[.lst false (l.map Zc)]),.row 0 w xs]=some (.int .i64 c,[.var (Zi Q k 1 0 n++[.lst false (r.map Zc)]),.row 0 w xs]):=by
 unfold ZaD at h
 split at h
 case h_2=>cases h
 rename_i n' r' h2
 split at h
 case isFalse=>cases h
 rename_i hn
 injection h with h;injection h with h3 h4;subst h3 h4
 have hG:=fun σ sq hs hr=>Zk0 Q hQ hN k hk n w xs l hl σ 0 1 0 sq (by omega) hs hr (m:=1) rfl h2
 have hL:=ZbP Q hQ hN k hk n 1 0
 have hR:=Zb7 Q hQ hN k hk n 1 0
 have hS:∀ ρ:Rho,ρ 1 0=some (1,0)->Ze ρ (Zi Q k 1 0 n)=Zi Q k 1 0 n:=fun ρ h=>ZbA Q hQ hN k hk n ρ h
 generalize Zi Q k 1 0 n=P at *
 have a4:=fun L=>(Z2 P hL 0 (by omega) L).trans h0
 have m1:=Za5
 have hC:=fun σ sq own=>ZiL kd n' σ sq own
 rw [hn] at hC
 rw [Zh (by rfl) ZfR]
 simp -implicitDefEqProofs only [EQA,Nat.reduceAdd,Nat.reduceLT,Nat.reduceEqDiff,reduceCtorEq,↓reduceIte,Zff,Zeq,ZtF,oI,hG,hC,a4,m1]
 exact Zgv P hL hR hS w xs rfl _ _
theorem Zys {c:Int} (h:ZaD kd l=.error c):∃ r:Zb,E 56 [.ref 0 0] [.var (Zi Q k 1 0 n++[.lst false (l.map Zc)]),.row 0 w xs]=some (.pan (Zy c),[.var (Zi Q k 1 0 n++[.lst false (r.map Zc)]),.row 0 w xs]):=by
 unfold ZaD at h
 have hL:=ZbP Q hQ hN k hk n 1 0
 have hR:=Zb7 Q hQ hN k hk n 1 0
 have hS:∀ ρ:Rho,ρ 1 0=some (1,0)->Ze ρ (Zi Q k 1 0 n)=Zi Q k 1 0 n:=fun ρ h=>ZbA Q hQ hN k hk n ρ h
 split at h
 ·rename_i n' r' h2
  split at h
  case isTrue=>cases h
  rename_i hn
  injection h with h;subst h
  have hG:=fun σ sq hs hr=>Zk0 Q hQ hN k hk n w xs l hl σ 0 1 0 sq (by omega) hs hr (m:=1) rfl h2
  refine ⟨r',?_⟩
  generalize Zi Q k 1 0 n=P at *
  have a4:=fun L=>(Z2 P hL 0 (by omega) L).trans h0
  have m1:=Zbs
  have hC:=fun σ sq own=>ZiL kd n' σ sq own
  rw [Bool.not_eq_true _ |>.mp hn] at hC
  rw [Zh (by rfl) ZfR]
  simp -implicitDefEqProofs only [EQA,Nat.reduceAdd,Nat.reduceLT,Nat.reduceEqDiff,reduceCtorEq,↓reduceIte,Zff,Zeq,oI,hG,hC,a4,m1]
  exact Zgv P hL hR hS w xs rfl _ _
 ·rename_i c' h2
  injection h with h;subst h
  have hG:=fun σ sq hs hr=>Zup Q hQ hN k hk n w xs l hl σ 0 1 0 sq (by omega) hs hr (m:=1) rfl (by decide) h2
  refine ⟨l,?_⟩
  generalize Zi Q k 1 0 n=P at *
  rw [Zh (by rfl) ZfR]
  simp -implicitDefEqProofs only [EQA,Nat.reduceAdd,Nat.reduceLT,reduceCtorEq,↓reduceIte,Zff,Zeq,oI,hG]
  exact Zgv P hL hR hS w xs rfl _ _
variable (σ:Za) (t r g sq:Nat) (htr:t≠r) (hs:σ[t]?=some (.var (Zi Q k r g n++[.lst false (l.map Zc)]))) (hr:σ[r]?=some (.row g w xs))
include htr hs hr
theorem Zwf {c:Int} {l2:Zb} (h:ZaD kd l=.ok (c,l2)):Zj E BY σ sq 56 0 true [.ref t 0]=some (.int .i64 c,(σ.set t (.var (Zi Q k r g n++[.lst false (l2.map Zc)]))).set r (.row g w xs),{ any:=true,upd:=[(t,Zi Q k r g n++[.lst false (l2.map Zc)])] }):=by
 have e:=ZFy Q hQ hN k hk n w xs l hl kd h0 h
 exact Zgw (g2:=0) (own:=0) (rest:=[]) hs hr htr (by rw [Zcn,Zb7 Q hQ hN k hk n];rfl) (by kernel_rfl) rfl (fun ρ h=>by rw [ZbH,ZbA Q hQ hN k hk n ρ h];rfl) (by omega) rfl rfl e
  (Zja true rfl rfl (by rw [Zcn,Zb7 Q hQ hN k hk n];rfl) (by omega) (fun ρ h=>by rw [ZbH,ZbA Q hQ hN k hk n ρ h];rfl)) (fun ρ h=>by rw [ZbH,ZbA Q hQ hN k hk n ρ (h 0)];rfl)
theorem ZzV {c:Int} (h:ZaD kd l=.error c):∃ l2:Zb,Zj E BY σ sq 56 0 true [.ref t 0]=some (.pan (Zy c),(σ.set t (.var (Zi Q k r g n++[.lst false (l2.map Zc)]))).set r (.row g w xs),{ any:=true,upd:=[(t,Zi Q k r g n++[.lst false (l2.map Zc)])] }):=by
 obtain ⟨l2,e⟩:=Zys Q hQ hN k hk n w xs l hl kd h0 h
 exact ⟨l2,Zgw (g2:=0) (own:=0) (rest:=[]) hs hr htr (by rw [Zcn,Zb7 Q hQ hN k hk n];rfl) (by kernel_rfl) rfl (fun ρ h=>by rw [ZbH,ZbA Q hQ hN k hk n ρ h];rfl) (by omega) rfl rfl e
  (Zmj true) (fun ρ h=>by rw [ZbH,ZbA Q hQ hN k hk n ρ (h 0)];rfl)⟩
end
end
section
structure Zbk where
 filter:Zb
 qos:Int
 noLocal:Bool
 asPublished:Bool
 handling:Int
 id:Int
 deriving DecidableEq
def ZU (s:Zbk):AVal:=.agg [.str s.filter,.int .i64 s.qos,.bool s.noLocal,.bool s.asPublished,.int .i64 s.handling,.int .i64 s.id]
structure ZtC where
 topic:Zb
 data:Zb
 qos:Int
 retain:Bool
 props:List Zt
 deriving DecidableEq
structure Zs where
 type:Int
 dup:Bool
 qos:Int
 retain:Bool
 id:Int
 topic:Zb
 payload:Zb
 code:Int
 codes:List Int
 props:List Zt
 subs:List Zbk
 filters:List Zb
 clean:Bool
 keep:Int
 client:Zb
 hasWill:Bool
 will:ZtC
 hasUser:Bool
 user:Zb
 hasPassword:Bool
 password:Zb
 present:Bool
 deriving DecidableEq
def Z4 (p:Zs):AVal:=.agg [.int .i64 p.type,.bool p.dup,.int .i64 p.qos,.bool p.retain,.int .i64 p.id,.str p.topic,.lst false (p.payload.map Zc),.int .i64 p.code,.lst false (p.codes.map (AVal.int .i64)),.lst false (p.props.map Zn),.lst false (p.subs.map ZU),.lst false (p.filters.map AVal.str),.bool p.clean,.int .i64 p.keep,.str p.client,.bool p.hasWill,.str p.will.topic,.lst false (p.will.data.map Zc),.int .i64 p.will.qos,.bool p.will.retain,.lst false (p.will.props.map Zn),.bool p.hasUser,.str p.user,.bool p.hasPassword,.lst false (p.password.map Zc),.bool p.present]
end
section
def Zfa (m:Int):Int:=IntKind.i64.wrap (m.tdiv 16)
def Zbl (l:Zb):RK Zbk:=match Zap l with
 | .error c=>.error c
 | .ok (f,r1)=>match ZaE 1 r1 with
  | .error c=>.error c
  | .ok (o,r2)=>if o < 64 then (if Zu o 3 < 3/\Zfa o < 3 then .ok (⟨f,Zu o 3,Zu o 4 != 0,Zu o 8 != 0,Zfa o,0⟩,r2) else .error 130) else .error 129
theorem ZcQ {cs cs' xs:List AVal} {w j:Nat} {r:AVal} {σ:Za} (hr:ZG r=true) (hj:j≠0) (h0:σ[0]?=some (.var cs)) (h1:σ[j]?=some (.row 0 w xs)) (hrf:Zp cs=[j]) (hren:∀ ρ:Rho,ρ j 0=some (1,0)->Ze ρ cs=cs'):Zak 1 σ r=some (r,[.var cs',.row 0 w xs]):=by
 have d0:σ.getD 0 .free=.var cs:=by simp [List.getD_eq_getElem?_getD,h0]
 have d1:σ.getD j .free=.row 0 w xs:=by simp [List.getD_eq_getElem?_getD,h1]
 have e1:=(ZaW (Zl σ 1 [0,j]) r hr)
 have ej:([0]:List Nat).contains j=false:=by simp;omega
 have hi:ZB 1 [r] σ=[0,j]:=by
  have : Zp [r]=[]:=by simp only [Zp,e1.2,List.append_nil]
  have hR:List.range 1=[0]:=rfl
  simp only [ZB,this,List.nil_append,hR,List.flatMap_cons,List.flatMap_nil,List.append_nil,d0,ZN,hrf]
  rw [show (1000:Nat)=998+1+1 from rfl,ZA,ej]
  simp only [Bool.false_eq_true,if_false,d1,ZN,List.nil_append]
  rfl
 have hρ:Zl σ 1 [0,j] j 0=some (1,0):=by
  have : ¬(0:Nat)=j:=fun e=>hj e.symm
  simp [Zl,ZZ,Zm,ZR,h1,this]
 simp only [Zak,gcA,hi,Ze,e1.1,Zv,d0,d1,ZR,Zm,ZF,hren _ hρ]
 simp
section
variable (P:List AVal) (hP:P.length=26) (hN:Zd P=true) (h10:P[10]?=some (.lst true [])) (l:Zb) (hl:l.length<=140737488355328)
include hP hN h10 hl
theorem ZGT {s:Zbk} {r:Zb} (h:Zbl l=.ok (s,r)):E 62 [.ref 0 0] (Zg P l)=some (.tup [],[.var (Zi P 10 1 0 1++[.lst false (r.map Zc)]),.row 0 6 [ZU s]]):=by
 unfold Zbl at h
 split at h
 ·cases h
 rename_i f r1 ht
 have l1:=Zdg ht
 split at h
 ·cases h
 rename_i o r2 hn
 split at h
 case isFalse=>cases h
 rename_i h64
 split at h
 case isFalse=>cases h
 rename_i hq
 obtain ⟨hq1,hq2⟩:=hq
 injection h with h;injection h with e1 e2;subst e1 e2
 have hT:=fun σ sq hs=>ZdI P hP hN l hl σ 0 sq hs ht
 have hG:=fun σ sq hs=>Zcz P hP hN r1 (by omega) σ 0 sq hs (m:=1) rfl hn
 have m0:=Za5
 have a1:=Z1 P hP
 have a3:=fun L v=>Zat P hP 10 11 (by omega) rfl L v
 have a4:=fun L=>(Z2 P hP 10 (by omega) L).trans h10
 have z:¬(16:Int)=0:=by decide
 unfold Zi ZU Zg
 unfold Zu Zfa at *
 rw [Zh (by rfl) Zdd]
 simp -implicitDefEqProofs only [EQA,Za1,Zq,Nat.reduceAdd,Nat.reduceLT,Nat.reduceLeDiff,Nat.reduceEqDiff,Nat.reduceBEq,ZH,unG,reduceCtorEq,ZY,↓reduceIte,Zd,Zdr,ZcN,ZuG,oI,oN,hT,hG,m0,a1,a3,a4,z,h64,hq1,hq2,Zan,AVal.cells,ZaR,viewAs,ZQ,ZK,ZaG,Zo,Nat.one_mul,Nat.le_refl,Zaf,Zaj,Zah,Zas,Zav,Zal,List.lookup_nil,kOk]
 refine ZcQ (j:=2) rfl (by omega) rfl rfl ?_ (fun ρ h=>?_)
 ·rw [Zcn,ZhR hN (by omega)];rfl
 ·rw [ZbH,Zh7 ρ hN]
  simp only [Zk,h]
  rfl
end
theorem ZKw (ss:List Zbk):kOk 6 (ss.map ZU)=true:=by cases ss <;> rfl
section
variable (P:List AVal) (hP:P.length=26) (hN:Zd P=true) (ss:List Zbk) (hss:ss.length*48+48<=140737488355328) (l:Zb) (hl:l.length<=140737488355328)
include hP hN hss hl
theorem ZHV {s:Zbk} {r:Zb} (h:Zbl l=.ok (s,r)):E 62 [.ref 0 0] [.var (Zi P 10 1 0 ss.length++[.lst false (l.map Zc)]),.row 0 6 (ss.map ZU)]=some (.tup [],[.var (Zi P 10 1 1 (ss.length+1)++[.lst false (r.map Zc)]),.row 1 6 ((ss++[s]).map ZU)]):=by
 unfold Zbl at h
 split at h
 ·cases h
 rename_i f r1 ht
 have l1:=Zdg ht
 split at h
 ·cases h
 rename_i o r2 hn
 split at h
 case isFalse=>cases h
 rename_i h64
 split at h
 case isFalse=>cases h
 rename_i hq
 obtain ⟨hq1,hq2⟩:=hq
 injection h with h;injection h with e1 e2;subst e1 e2
 have hT:=fun σ sq hs hr=>Zmy P hP hN 10 (by omega) ss.length 6 (ss.map ZU) l hl σ 0 1 0 sq (by omega) hs hr ht
 have hG:=fun σ sq hs hr=>Zk0 P hP hN 10 (by omega) ss.length 6 (ss.map ZU) r1 (by omega) σ 0 1 0 sq (by omega) hs hr (m:=1) rfl hn
 have m0:=Za5
 have hL:=ZbP P hP hN 10 (by omega) ss.length 1 0
 have a1:=Z1 _ hL
 have a3:=fun L v=>Zat _ hL 10 11 (by omega) rfl L v
 have h10:(Zi P 10 1 0 ss.length)[10]?=some (.sl 1 0 0 ss.length):=by unfold Zi;rw [List.getElem?_set_self (by omega)]
 have a4:=fun L=>(Z2 _ hL 10 (by omega) L).trans h10
 have hset:(Zi P 10 1 0 ss.length).set 10 (.sl 1 1 0 (ss.length+1))=Zi P 10 1 1 (ss.length+1):=by unfold Zi;rw [List.set_set]
 have z:¬(16:Int)=0:=by decide
 have kk:=ZKw ss
 have k1:∀ a b c d e f:AVal,kOk 6 [.agg [a,b,c,d,e,f]]=true:=fun _ _ _ _ _ _=>rfl
 have len:(ss.map ZU).length=ss.length:=by simp
 have tk:(ss.map ZU).take ss.length=ss.map ZU:=by rw [<-len,List.take_length]
 have lim:(ss.length+1)*48<=140737488355328:=by omega
 have lim2:48*(ss.length+1)<=140737488355328:=by omega
 unfold Zu Zfa at *
 rw [Zh (by rfl) Zdd]
 simp -implicitDefEqProofs only [EQA,Za1,Nat.reduceAdd,Nat.reduceLT,Nat.reduceLeDiff,Nat.reduceEqDiff,Nat.reduceBEq,ZH,unG,reduceCtorEq,ZY,↓reduceIte,Zdr,ZcN,ZuG,oI,oN,hT,hG,m0,a1,a3,a4,z,h64,hq1,hq2,Zan,AVal.cells,ZaR,viewAs,ZQ,ZK,ZaG,Zo,Nat.le_refl,Zaf,Zaj,Zah,Zas,Zav,Zal,List.lookup_nil,k1,len,lim,hset]
 rw [ZnX (g:=1) rfl (by rw [Zcn,Zb7 P hP hN 10 (by omega)];rfl) (by omega) (fun ρ h=>by rw [ZbH,ZbA P hP hN 10 (by omega) _ ρ h];rfl)]
 simp only [List.map_append,List.map_cons,List.map_nil]
 rfl
end
section
variable (P:List AVal) (hP:P.length=26) (hN:Zd P=true) (l:Zb) (hl:l.length<=140737488355328)
include hP hN hl
theorem ZKL {e:Int} (h:Zbl l=.error e):∃ cs,Zd cs=true/\E 62 [.ref 0 0] (Zg P l)=some (.pan (Zy e),[.var cs]):=by
 unfold Zbl at h
 have z:¬(16:Int)=0:=by decide
 unfold Zg
 split at h
 ·rename_i c ht
  injection h with h;subst h
  have hT:=fun σ sq hs=>Zgj P hP hN l hl σ 0 sq hs ht
  refine ⟨_,Zw P hP hN false (l.map Zc),?_⟩
  rw [Zh (by rfl) Zdd]
  simp -implicitDefEqProofs only [EQA,Nat.reduceLT,↓reduceIte,Zdr,ZcN,oI,oN,hT]
  exact ZS rfl (Zw P hP hN _ _)
 rename_i f r1 ht
 have l1:=Zdg ht
 have hT:=fun σ sq hs=>ZdI P hP hN l hl σ 0 sq hs ht
 split at h
 ·rename_i c hn
  injection h with h;subst h
  have hG:=fun σ sq hs=>ZfA P hP hN r1 (by omega) σ 0 sq hs (m:=1) rfl (by decide) hn
  refine ⟨_,Zw P hP hN false (r1.map Zc),?_⟩
  rw [Zh (by rfl) Zdd]
  simp -implicitDefEqProofs only [EQA,Za1,Nat.reduceAdd,Nat.reduceLT,Nat.reduceLeDiff,Nat.reduceEqDiff,Nat.reduceBEq,reduceCtorEq,↓reduceIte,Zdr,ZcN,oI,oN,hT,hG,Zan,AVal.cells]
  exact ZS rfl (Zw P hP hN _ _)
 rename_i o r2 hn
 have hG:=fun σ sq hs=>Zcz P hP hN r1 (by omega) σ 0 sq hs (m:=1) rfl hn
 have m0:=Za5
 have m1:=Zbs
 refine ⟨_,Zw P hP hN false (r2.map Zc),?_⟩
 split at h
 case isFalse =>
  rename_i h64
  injection h with h;subst h
  rw [Zh (by rfl) Zdd]
  simp -implicitDefEqProofs only [EQA,Za1,Nat.reduceAdd,Nat.reduceLT,Nat.reduceLeDiff,Nat.reduceEqDiff,Nat.reduceBEq,reduceCtorEq,↓reduceIte,Zdr,ZcN,oI,oN,hT,hG,m1,h64,Zan,AVal.cells]
  exact ZS rfl (Zw P hP hN _ _)
 rename_i h64
 split at h
 ·cases h
 rename_i hq
 injection h with h;subst h
 by_cases hq1:Zu o 3 < 3
 ·have hq2:¬Zfa o < 3:=fun h=>hq ⟨hq1,h⟩
  unfold Zu Zfa at *
  rw [Zh (by rfl) Zdd]
  simp -implicitDefEqProofs only [EQA,Za1,Nat.reduceAdd,Nat.reduceLT,Nat.reduceLeDiff,Nat.reduceEqDiff,Nat.reduceBEq,ZH,unG,reduceCtorEq,↓reduceIte,Zdr,ZcN,oI,oN,hT,hG,m0,m1,z,h64,hq1,hq2,Zan,AVal.cells]
  exact ZS rfl (Zw P hP hN _ _)
 ·unfold Zu at *
  rw [Zh (by rfl) Zdd]
  simp -implicitDefEqProofs only [EQA,Za1,Nat.reduceAdd,Nat.reduceLT,Nat.reduceLeDiff,Nat.reduceEqDiff,Nat.reduceBEq,ZH,Zau,reduceCtorEq,↓reduceIte,Zdr,ZcN,oI,oN,hT,hG,m0,m1,z,h64,hq1,Zan,AVal.cells]
  exact ZS rfl (Zw P hP hN _ _)
variable (ss:List Zbk)
theorem ZyA {e:Int} (h:Zbl l=.error e):∃ r:Zb,E 62 [.ref 0 0] [.var (Zi P 10 1 0 ss.length++[.lst false (l.map Zc)]),.row 0 6 (ss.map ZU)]=some (.pan (Zy e),[.var (Zi P 10 1 0 ss.length++[.lst false (r.map Zc)]),.row 0 6 (ss.map ZU)]):=by
 unfold Zbl at h
 have z:¬(16:Int)=0:=by decide
 have fin:∀ (r:Zb) (σ:Za) (x:AVal),ZG x=true->Zak 2 (.var (Zi P 10 1 0 ss.length++[.lst false (r.map Zc)])::.row 0 6 (ss.map ZU)::σ) x=some (x,[.var (Zi P 10 1 0 ss.length++[.lst false (r.map Zc)]),.row 0 6 (ss.map ZU)]):=fun r σ x hx =>
  ZnX (g:=0) hx (by rw [Zcn,Zb7 P hP hN 10 (by omega)];rfl) (by omega) (fun ρ h=>by rw [ZbH,ZbA P hP hN 10 (by omega) _ ρ h];rfl)
 split at h
 ·rename_i c ht
  injection h with h;subst h
  have hT:=fun σ sq hs hr=>Zqi P hP hN 10 (by omega) ss.length 6 (ss.map ZU) l hl σ 0 1 0 sq (by omega) hs hr ht
  refine ⟨l,?_⟩
  rw [Zh (by rfl) Zdd]
  simp -implicitDefEqProofs only [EQA,Nat.reduceAdd,Nat.reduceLT,↓reduceIte,Zdr,ZcN,oI,oN,hT]
  exact fin _ _ _ rfl
 rename_i f r1 ht
 have l1:=Zdg ht
 have hT:=fun σ sq hs hr=>Zmy P hP hN 10 (by omega) ss.length 6 (ss.map ZU) l hl σ 0 1 0 sq (by omega) hs hr ht
 split at h
 ·rename_i c hn
  injection h with h;subst h
  have hG:=fun σ sq hs hr=>Zup P hP hN 10 (by omega) ss.length 6 (ss.map ZU) r1 (by omega) σ 0 1 0 sq (by omega) hs hr (m:=1) rfl (by decide) hn
  refine ⟨r1,?_⟩
  rw [Zh (by rfl) Zdd]
  simp -implicitDefEqProofs only [EQA,Za1,Nat.reduceAdd,Nat.reduceLT,Nat.reduceLeDiff,Nat.reduceEqDiff,Nat.reduceBEq,reduceCtorEq,↓reduceIte,Zdr,ZcN,oI,oN,hT,hG,Zan,AVal.cells]
  exact fin _ _ _ rfl
 rename_i o r2 hn
 have hG:=fun σ sq hs hr=>Zk0 P hP hN 10 (by omega) ss.length 6 (ss.map ZU) r1 (by omega) σ 0 1 0 sq (by omega) hs hr (m:=1) rfl hn
 have m0:=Za5
 have m1:=Zbs
 refine ⟨r2,?_⟩
 split at h
 case isFalse =>
  rename_i h64
  injection h with h;subst h
  rw [Zh (by rfl) Zdd]
  simp -implicitDefEqProofs only [EQA,Za1,Nat.reduceAdd,Nat.reduceLT,Nat.reduceLeDiff,Nat.reduceEqDiff,Nat.reduceBEq,reduceCtorEq,↓reduceIte,Zdr,ZcN,oI,oN,hT,hG,m1,h64,Zan,AVal.cells]
  exact fin _ _ _ rfl
 rename_i h64
 split at h
 ·cases h
 rename_i hq
 injection h with h;subst h
 by_cases hq1:Zu o 3 < 3
 ·have hq2:¬Zfa o < 3:=fun h=>hq ⟨hq1,h⟩
  unfold Zu Zfa at *
  rw [Zh (by rfl) Zdd]
  simp -implicitDefEqProofs only [EQA,Za1,Nat.reduceAdd,Nat.reduceLT,Nat.reduceLeDiff,Nat.reduceEqDiff,Nat.reduceBEq,ZH,unG,reduceCtorEq,↓reduceIte,Zdr,ZcN,oI,oN,hT,hG,m0,m1,z,h64,hq1,hq2,Zan,AVal.cells]
  exact fin _ _ _ rfl
 ·unfold Zu at *
  rw [Zh (by rfl) Zdd]
  simp -implicitDefEqProofs only [EQA,Za1,Nat.reduceAdd,Nat.reduceLT,Nat.reduceLeDiff,Nat.reduceEqDiff,Nat.reduceBEq,ZH,Zau,reduceCtorEq,↓reduceIte,Zdr,ZcN,oI,oN,hT,hG,m0,m1,z,h64,hq1,Zan,AVal.cells]
  exact fin _ _ _ rfl
end
end
section
section
variable (P:List AVal) (hP:P.length=26) (hN:Zd P=true)
include hP hN
theorem ZGb (k:Int) (hk:P[0]?=some (.int .i64 k)) (l:Zb) (hl:l.length<=140737488355328) {c:Int} (h:ZaD k l=.error c):∃ r:Zb,E 56 [.ref 0 0] [.var (P++[.lst false (l.map Zc)])]=some (.pan (Zy c),[.var (P++[.lst false (r.map Zc)])]):=by
 unfold ZaD at h
 split at h
 ·rename_i n' r' h2
  split at h
  case isTrue=>cases h
  rename_i hn
  injection h with h;subst h
  have hG:=fun σ sq hs=>Zcz P hP hN l hl σ 0 sq hs (m:=1) rfl h2
  have a4:=fun L=>(Z2 P hP 0 (by omega) L).trans hk
  have m1:=Zbs
  have hC:=fun σ sq own=>ZiL k n' σ sq own
  rw [Bool.not_eq_true _ |>.mp hn] at hC
  refine ⟨r',?_⟩
  rw [Zh (by rfl) ZfR]
  simp -implicitDefEqProofs only [EQA,Nat.reduceLT,Nat.reduceEqDiff,reduceCtorEq,↓reduceIte,Zff,Zeq,oI,hG,hC,a4,m1]
  exact ZS rfl (ZaA hN (by rfl))
 ·rename_i c' h2
  injection h with h;subst h
  have hG:=fun σ sq hs=>ZfA P hP hN l hl σ 0 sq hs (m:=1) rfl (by decide) h2
  refine ⟨l,?_⟩
  rw [Zh (by rfl) ZfR]
  simp -implicitDefEqProofs only [EQA,Nat.reduceLT,reduceCtorEq,↓reduceIte,Zff,Zeq,oI,hG]
  exact ZS rfl (ZaA hN (by rfl))
end
section
variable (P:List AVal) (hP:P.length=26) (hN:Zd P=true) (l:Zb) (hl:l.length<=140737488355328)
include hP hN hl
theorem ZBm (h11:P[11]?=some (.lst true [])) {s r:Zb} (h:Zap l=.ok (s,r)):evC FC PR BY 3 Zc6 [(1,.ref 2 0),(0,.ref 0 0)] [.var [.ref 1 0],.var (P++[.lst false (l.map Zc)]),.var [.ref 1 0]]=some (.normal,[],[.var [.ref 1 0],.var (Zi P 11 3 0 1++[.lst false (r.map Zc)]),.var [.ref 1 0],.row 0 1 [.str s]]):=by
 have hT:=fun σ sq hs=>ZdI P hP hN l hl σ 1 sq hs h
 have a1:=Z1 P hP
 have a3:=fun L v=>Zat P hP 11 12 (by omega) rfl L v
 have a4:=fun L=>(Z2 P hP 11 (by omega) L).trans h11
 unfold Zi
 simp -implicitDefEqProofs only [EQA,Nat.reduceAdd,Nat.reduceLT,Nat.reduceLeDiff,Nat.reduceEqDiff,Nat.reduceBEq,reduceCtorEq,ZY,↓reduceIte,Zc6,oI,oN,hT,a1,a3,a4,AVal.cells,ZaR,viewAs,ZQ,ZK,Zo,Nat.one_mul,Zaf,Zaj,Zah,Zas,Zav,Zal,Zc7,List.lookup_cons,List.lookup_nil,kOk]
theorem Zyr {c:Int} (h:Zap l=.error c) (h11:P[11]?=some (.lst true [])):evC FC PR BY 3 Zc6 [(1,.ref 2 0),(0,.ref 0 0)] [.var [.ref 1 0],.var (P++[.lst false (l.map Zc)]),.var [.ref 1 0]]=some (.panic (Zy c),[],[.var [.ref 1 0],.var (P++[.lst false (l.map Zc)]),.var [.ref 1 0],.free]):=by
 have hT:=fun σ sq hs=>Zgj P hP hN l hl σ 1 sq hs h
 have a4:=fun L=>(Z2 P hP 11 (by omega) L).trans h11
 simp -implicitDefEqProofs only [EQA,Nat.reduceAdd,Nat.reduceSub,Nat.reduceLT,Nat.reduceLeDiff,Nat.reduceEqDiff,Nat.reduceBEq,reduceCtorEq,↓reduceIte,Zc6,oI,oN,hT,a4,Zhx,Zc2,List.any_cons,List.any_nil,Zaf,Zaj,Zah,Zas,Zav,Zal,Zc7,List.lookup_cons,List.lookup_nil]
theorem ZI8 (h8:P[8]?=some (.lst true [])) (k:Int) (hk:P[0]?=some (.int .i64 k)) {c:Int} {r:Zb} (h:ZaD k l=.ok (c,r)):evC FC PR BY 3 ZcX [(1,.ref 2 0),(0,.ref 0 0)] [.var [.ref 1 0],.var (P++[.lst false (l.map Zc)]),.var [.ref 1 0]]=some (.normal,[],[.var [.ref 1 0],.var (Zi P 8 3 0 1++[.lst false (r.map Zc)]),.var [.ref 1 0],.row 0 1 [.int .i64 c]]):=by
 have hT:=fun σ sq hs=>ZiP P hP hN l hl σ 1 sq hs k hk h
 have a1:=Z1 P hP
 have a3:=fun L v=>Zat P hP 8 9 (by omega) rfl L v
 have a4:=fun L=>(Z2 P hP 8 (by omega) L).trans h8
 unfold Zi
 simp -implicitDefEqProofs only [EQA,Nat.reduceAdd,Nat.reduceLT,Nat.reduceLeDiff,Nat.reduceEqDiff,Nat.reduceBEq,reduceCtorEq,ZY,↓reduceIte,ZcX,oI,oN,hT,a1,a3,a4,AVal.cells,ZaR,viewAs,ZQ,ZK,Zo,Nat.one_mul,Zaf,Zaj,Zah,Zas,Zav,Zal,Zc7,List.lookup_cons,List.lookup_nil,kOk]
theorem ZD3 (h8:P[8]?=some (.lst true [])) (k:Int) (hk:P[0]?=some (.int .i64 k)) {e:Int} (h:ZaD k l=.error e):∃ r:Zb,evC FC PR BY 3 ZcX [(1,.ref 2 0),(0,.ref 0 0)] [.var [.ref 1 0],.var (P++[.lst false (l.map Zc)]),.var [.ref 1 0]]=some (.panic (Zy e),[],[.var [.ref 1 0],.var (P++[.lst false (r.map Zc)]),.var [.ref 1 0],.free]):=by
 obtain ⟨r,he⟩:=ZGb P hP hN k hk l hl h
 have hT:=fun (σ:Za) sq (hs:σ[1]?=some (.var (P++[.lst false (l.map Zc)])))=>Zcq (O:=E) (bf:=BY) (f:=56) (view:=true) (rest:=[]) (by kernel_rfl) rfl (Zw P hP hN _ _) (Zw P hP hN _ _) rfl he hs sq
 have a4:=fun L=>(Z2 P hP 8 (by omega) L).trans h8
 refine ⟨r,?_⟩
 simp -implicitDefEqProofs only [EQA,Nat.reduceAdd,Nat.reduceSub,Nat.reduceLT,Nat.reduceLeDiff,Nat.reduceEqDiff,Nat.reduceBEq,reduceCtorEq,↓reduceIte,ZcX,oI,oN,hT,a4,Zhx,Zc2,List.any_cons,List.any_nil,Zaf,Zaj,Zah,Zas,Zav,Zal,Zc7,List.lookup_cons,List.lookup_nil]
end
end
section
section
variable (P:List AVal) (hP:P.length=26) (hN:Zd P=true) (l:Zb) (hl:l.length<=140737488355328)
include hP hN hl
theorem ZIu (xs:List AVal) (hx:xs.length*16+16<=140737488355328) (kk:kOk 1 xs=true) {s r:Zb} (h:Zap l=.ok (s,r)):evC FC PR BY 4 Zc6 [(1,.ref 3 0),(0,.ref 0 0)] [.var [.ref 1 0],.var (Zi P 11 2 0 xs.length++[.lst false (l.map Zc)]),.row 0 1 xs,.var [.ref 1 0]]=some (.normal,[],[.var [.ref 1 0],.var (Zi P 11 2 1 (xs.length+1)++[.lst false (r.map Zc)]),.row 1 1 (xs++[.str s]),.var [.ref 1 0],.free]):=by
 have hT:=fun σ sq hs hr=>Zmy P hP hN 11 (by omega) xs.length 1 xs l hl σ 1 2 0 sq (by omega) hs hr h
 have hL:=ZbP P hP hN 11 (by omega) xs.length 2 0
 have a1:=Z1 _ hL
 have a3:=fun L v=>Zat _ hL 11 12 (by omega) rfl L v
 have hc:(Zi P 11 2 0 xs.length)[11]?=some (.sl 2 0 0 xs.length):=by unfold Zi;rw [List.getElem?_set_self (by omega)]
 have a4:=fun L=>(Z2 _ hL 11 (by omega) L).trans hc
 have hset:(Zi P 11 2 0 xs.length).set 11 (.sl 2 1 0 (xs.length+1))=Zi P 11 2 1 (xs.length+1):=by unfold Zi;rw [List.set_set]
 have k1:kOk 1 [.str s]=true:=rfl
 have tk:xs.take xs.length=xs:=List.take_length
 have lim:(xs.length+1)*16<=140737488355328:=by omega
 have lim2:16*(xs.length+1)<=140737488355328:=by omega
 simp -implicitDefEqProofs only [EQA,Nat.reduceAdd,Nat.reduceLT,Nat.reduceLeDiff,Nat.reduceEqDiff,Nat.reduceBEq,reduceCtorEq,ZY,↓reduceIte,Zc6,oI,oN,hT,a1,a3,a4,AVal.cells,ZaR,viewAs,ZQ,ZK,Zo,Zaf,Zaj,Zah,Zas,Zav,Zal,Zc7,List.lookup_cons,List.lookup_nil,k1,lim,hset]
theorem Zva (xs:List AVal) (hx:xs.length*8+8<=140737488355328) (kk:kOk 1 xs=true) (k:Int) (hk:P[0]?=some (.int .i64 k)) {c:Int} {r:Zb} (h:ZaD k l=.ok (c,r)):evC FC PR BY 4 ZcX [(1,.ref 3 0),(0,.ref 0 0)] [.var [.ref 1 0],.var (Zi P 8 2 0 xs.length++[.lst false (l.map Zc)]),.row 0 1 xs,.var [.ref 1 0]]=some (.normal,[],[.var [.ref 1 0],.var (Zi P 8 2 1 (xs.length+1)++[.lst false (r.map Zc)]),.row 1 1 (xs++[.int .i64 c]),.var [.ref 1 0],.free]):=by
 have hk0:(Zi P 8 1 0 xs.length)[0]?=some (.int .i64 k):=by unfold Zi;rw [List.getElem?_set_ne (by omega)];exact hk
 have hT:=fun σ sq hs hr=>Zwf P hP hN 8 (by omega) xs.length 1 xs l hl k hk0 σ 1 2 0 sq (by omega) hs hr h
 have hL:=ZbP P hP hN 8 (by omega) xs.length 2 0
 have a1:=Z1 _ hL
 have a3:=fun L v=>Zat _ hL 8 9 (by omega) rfl L v
 have hc:(Zi P 8 2 0 xs.length)[8]?=some (.sl 2 0 0 xs.length):=by unfold Zi;rw [List.getElem?_set_self (by omega)]
 have a4:=fun L=>(Z2 _ hL 8 (by omega) L).trans hc
 have hset:(Zi P 8 2 0 xs.length).set 8 (.sl 2 1 0 (xs.length+1))=Zi P 8 2 1 (xs.length+1):=by unfold Zi;rw [List.set_set]
 have k1:kOk 1 [.int .i64 c]=true:=rfl
 have tk:xs.take xs.length=xs:=List.take_length
 have lim:(xs.length+1)*8<=140737488355328:=by omega
 have lim2:8*(xs.length+1)<=140737488355328:=by omega
 simp -implicitDefEqProofs only [EQA,Nat.reduceAdd,Nat.reduceLT,Nat.reduceLeDiff,Nat.reduceEqDiff,Nat.reduceBEq,reduceCtorEq,ZY,↓reduceIte,ZcX,oI,oN,hT,a1,a3,a4,AVal.cells,ZaR,viewAs,ZQ,ZK,Zo,Zaf,Zaj,Zah,Zas,Zav,Zal,Zc7,List.lookup_cons,List.lookup_nil,k1,lim,hset]
end
end
section
def ZqL (P:List AVal) (f c:Int) (ps:List Zt):List AVal:=((P.set 25 (.bool (f == 1))).set 7 (.int .i64 c)).set 9 (.lst false (ps.map Zn))
section
variable (P:List AVal) (hP:P.length=26) (hN:Zd P=true) (h0:P[0]?=some (.int .i64 2)) (l:Zb) (hl:l.length<=140737488355328)
include hP hN h0 hl
theorem ZKp {e:Int} (h:ZaE 1 l=.error e):∃ cs,Zd cs=true/\E 27 [.ref 0 0] (Zg P l)=some (.pan (Zy e),[.var cs]):=by
 have a4:=fun L=>(Z2 P hP 0 (by omega) L).trans h0
 have hT:=fun σ sq hs=>ZfA P hP hN l hl σ 0 sq hs (m:=1) rfl (by decide) h
 refine ⟨P++[.lst false (l.map Zc)],Zw P hP hN _ _,?_⟩
 unfold Zg
 rw [Zh (by rfl) Za6]
 simp -implicitDefEqProofs only [EQA,ZC,Nat.reduceAdd,Nat.reduceLT,Nat.reduceLeDiff,Nat.reduceEqDiff,Nat.reduceBEq,↓reduceIte,Za8,Za0,oI,oN,a4,hT,Int.reduceBEq]
 exact ZS rfl (Zw P hP hN _ _)
theorem Zzi {f:Int} {r:Zb} (h:ZaE 1 l=.ok (f,r)) (hf:¬f < 2):∃ cs,Zd cs=true/\E 27 [.ref 0 0] (Zg P l)=some (.pan (Zy 129),[.var cs]):=by
 have a4:=fun L=>(Z2 P hP 0 (by omega) L).trans h0
 have hT:=fun σ sq hs=>Zcz P hP hN l hl σ 0 sq hs (m:=1) rfl h
 have m1:=Zbs
 refine ⟨P++[.lst false (r.map Zc)],Zw P hP hN _ _,?_⟩
 unfold Zg
 rw [Zh (by rfl) Za6]
 simp -implicitDefEqProofs only [EQA,ZC,Nat.reduceAdd,Nat.reduceLT,Nat.reduceLeDiff,Nat.reduceEqDiff,Nat.reduceBEq,↓reduceIte,Za8,Za0,oI,oN,a4,hT,m1,hf,Int.reduceBEq]
 exact ZS rfl (Zw P hP hN _ _)
theorem ZwW {f:Int} {r:Zb} (h:ZaE 1 l=.ok (f,r)) (hf:f < 2) {e:Int} (hc:ZaD 2 r=.error e):∃ cs,Zd cs=true/\E 27 [.ref 0 0] (Zg P l)=some (.pan (Zy e),[.var cs]):=by
 have hr:=ZgC h
 have a1:=Z1 P hP
 have a4:=fun L=>(Z2 P hP 0 (by omega) L).trans h0
 have hT:=fun σ sq hs=>Zcz P hP hN l hl σ 0 sq hs (m:=1) rfl h
 have m0:=Za5
 have a3:=fun L=>Zat P hP 25 26 (by omega) rfl L (.bool (f == 1))
 have hP1:(P.set 25 (.bool (f == 1))).length=26:=by simp [hP]
 have hN1:Zd (P.set 25 (.bool (f == 1)))=true:=ZO rfl _ hN
 have g0:(P.set 25 (.bool (f == 1)))[0]?=some (.int .i64 2):=by rw [List.getElem?_set_ne (by omega)];exact h0
 generalize P.set 25 (.bool (f == 1))=Q at *
 obtain ⟨cs,hn,he⟩:=Zs6 Q hP1 hN1 2 g0 r (by omega) hc
 have hC:=fun (σ:Za) sq (hs:σ[0]?=some (.var (Q++[.lst false (r.map Zc)])))=>Zcq (O:=E) (bf:=BY) (f:=56) (view:=true) (rest:=[]) (by kernel_rfl) rfl (Zw Q hP1 hN1 _ _) hn rfl he hs sq
 refine ⟨cs,hn,?_⟩
 unfold Zg
 rw [Zh (by rfl) Za6]
 simp -implicitDefEqProofs only [EQA,ZC,Nat.reduceAdd,Nat.reduceSub,Nat.reduceLT,Nat.reduceLeDiff,Nat.reduceEqDiff,Nat.reduceBEq,↓reduceIte,Za8,Za0,oI,oN,a1,a3,a4,hT,hC,m0,hf,Int.reduceBEq,Zhx,Zc2,List.any_cons,List.any_nil,Zaf,Zaj,Zah,Zas,Zav,Zal,Zc7,List.lookup_cons,List.lookup_nil]
 exact ZS rfl hn
theorem ZvT {f:Int} {r:Zb} (h:ZaE 1 l=.ok (f,r)) (hf:f < 2) {c:Int} {r2:Zb} (hc:ZaD 2 r=.ok (c,r2)) {e:Int} (hp:ZbE 2 r2=.error e):∃ cs,Zd cs=true/\E 27 [.ref 0 0] (Zg P l)=some (.pan (Zy e),[.var cs]):=by
 have hr2:=ZlI hc
 have hr:=ZgC h
 have a1:=Z1 P hP
 have a4:=fun L=>(Z2 P hP 0 (by omega) L).trans h0
 have hT:=fun σ sq hs=>Zcz P hP hN l hl σ 0 sq hs (m:=1) rfl h
 have m0:=Za5
 have a3:=fun L=>Zat P hP 25 26 (by omega) rfl L (.bool (f == 1))
 have hP1:(P.set 25 (.bool (f == 1))).length=26:=by simp [hP]
 have hN1:Zd (P.set 25 (.bool (f == 1)))=true:=ZO rfl _ hN
 have g0:(P.set 25 (.bool (f == 1)))[0]?=some (.int .i64 2):=by rw [List.getElem?_set_ne (by omega)];exact h0
 generalize P.set 25 (.bool (f == 1))=Q at *
 have hC:=fun σ sq hs=>ZiP Q hP1 hN1 r (by omega) σ 0 sq hs 2 g0 hc
 have b1:=Z1 _ hP1
 have b3:=fun L=>Zat _ hP1 7 8 (by omega) rfl L (.int .i64 c)
 have hP2:(Q.set 7 (.int .i64 c)).length=26:=by simp [hP1]
 have hN2:Zd (Q.set 7 (.int .i64 c))=true:=ZO rfl _ hN1
 generalize Q.set 7 (.int .i64 c)=S at *
 have hG:=fun σ sq hs=>ZfV S hP2 hN2 r2 (by omega) σ 0 sq hs hp
 have c1:=Z1 _ hP2
 refine ⟨S++[.lst false (r2.map Zc)],Zw _ hP2 hN2 _ _,?_⟩
 unfold Zg
 rw [Zh (by rfl) Za6]
 simp -implicitDefEqProofs only [EQA,ZC,Nat.reduceAdd,Nat.reduceSub,Nat.reduceLT,Nat.reduceLeDiff,Nat.reduceEqDiff,Nat.reduceBEq,↓reduceIte,Za8,Za0,oI,oN,a1,a3,a4,b1,b3,hT,hC,hG,m0,hf,Int.reduceBEq,Zhx,Zc2,List.any_cons,List.any_nil,Zaf,Zaj,Zah,Zas,Zav,Zal,Zc7,List.lookup_cons,List.lookup_nil]
 exact ZS rfl (Zw _ hP2 hN2 _ _)
theorem ZLE {f:Int} {r:Zb} (h:ZaE 1 l=.ok (f,r)) (hf:f < 2) {c:Int} {r2:Zb} (hc:ZaD 2 r=.ok (c,r2)) {ps:List Zt} {r3:Zb} (hp:ZbE 2 r2=.ok (ps,r3)) (hu:(Zae 2 r2).2.1<=r2.length):E 27 [.ref 0 0] (Zg P l)=some (if r3.length=0 then .tup [] else .pan (Zy 129),Zg (ZqL P f c ps) r3):=by
 have hr2:=ZlI hc
 have hr:=ZgC h
 have a1:=Z1 P hP
 have a4:=fun L=>(Z2 P hP 0 (by omega) L).trans h0
 have hT:=fun σ sq hs=>Zcz P hP hN l hl σ 0 sq hs (m:=1) rfl h
 have m0:=Za5
 have a3:=fun L=>Zat P hP 25 26 (by omega) rfl L (.bool (f == 1))
 have hP1:(P.set 25 (.bool (f == 1))).length=26:=by simp [hP]
 have hN1:Zd (P.set 25 (.bool (f == 1)))=true:=ZO rfl _ hN
 have g0:(P.set 25 (.bool (f == 1)))[0]?=some (.int .i64 2):=by rw [List.getElem?_set_ne (by omega)];exact h0
 unfold ZqL
 generalize P.set 25 (.bool (f == 1))=Q at *
 have hC:=fun σ sq hs=>ZiP Q hP1 hN1 r (by omega) σ 0 sq hs 2 g0 hc
 have b1:=Z1 _ hP1
 have b3:=fun L=>Zat _ hP1 7 8 (by omega) rfl L (.int .i64 c)
 have hP2:(Q.set 7 (.int .i64 c)).length=26:=by simp [hP1]
 have hN2:Zd (Q.set 7 (.int .i64 c))=true:=ZO rfl _ hN1
 generalize Q.set 7 (.int .i64 c)=S at *
 have hG:=fun σ sq hs=>ZdQ S hP2 hN2 r2 (by omega) σ 0 sq hs hu hp
 have c1:=Z1 _ hP2
 have c3:=fun L=>Zat _ hP2 9 10 (by omega) rfl L (.lst false (ps.map Zn))
 have hP3:(S.set 9 (.lst false (ps.map Zn))).length=26:=by simp [hP2]
 have hN3:Zd (S.set 9 (.lst false (ps.map Zn)))=true:=ZO (ZbW _ _) _ hN2
 generalize S.set 9 (.lst false (ps.map Zn))=U at *
 have d2:=Zao _ hP3
 unfold Zg
 by_cases hr3:r3.length=0
 ·have z:=Zey (l:=r3) (decide_eq_true hr3)
  rw [if_pos hr3]
  rw [Zh (by rfl) Za6]
  simp -implicitDefEqProofs only [EQA,ZC,Zq,Nat.reduceAdd,Nat.reduceLT,Nat.reduceLeDiff,Nat.reduceEqDiff,Nat.reduceBEq,↓reduceIte,Zd,Za8,Za0,Zeb,oI,oN,a1,a3,a4,b1,b3,c1,c3,d2,z,hT,hC,hG,m0,hf,Int.reduceBEq,Zaf,Zaj,Zah,Zas,Zav,Zal,List.lookup_cons,List.lookup_nil]
  exact ZS rfl (Zw _ hP3 hN3 _ _)
 ·have z:=Zey (l:=r3) (decide_eq_false hr3)
  have m1:=Zbs
  rw [if_neg hr3]
  rw [Zh (by rfl) Za6]
  simp -implicitDefEqProofs only [EQA,ZC,Nat.reduceAdd,Nat.reduceLT,Nat.reduceLeDiff,Nat.reduceEqDiff,Nat.reduceBEq,↓reduceIte,Za8,Za0,oI,oN,a1,a3,a4,b1,b3,c1,c3,d2,z,hT,hC,hG,m0,m1,hf,Int.reduceBEq,Zaf,Zaj,Zah,Zas,Zav,Zal,List.lookup_cons,List.lookup_nil]
  exact ZS rfl (Zw _ hP3 hN3 _ _)
end
end
section
theorem Zxc {O:ZL} {bf:Nat->Bool} {σ:Za} {t f own:Nat} {rest:List AVal} {cs cs':List AVal} {r r':AVal} (hb:bf f=false) (hp:rest.all Z5=true) (hc:Zd cs=true) (hc':Zd cs'=true) (hn:ZG r'=true) (hv:viewR [.var cs'] r=some (r',[]))
  (h:O f (.ref 0 0::rest.map ZD) [.var cs]=some (r,[.var cs'])) (hs:σ[t]?=some (.var cs)) (sq:Nat) (hff:ZaU σ sq own=true):Zj O bf σ sq f own true (.ref t 0::rest)=some (r',σ.set t (.var cs'),{ any:=true,upd:=[(t,cs')] }):=by
 have htl:t < σ.length:=by
  rcases Nat.lt_or_ge t σ.length with h | h
  ·exact h
  ·rw [List.getElem?_eq_none h] at hs;cases hs
 have hup:Za2 (σ.set t (.var cs')) [t]=[(t,cs')]:=by
  simp only [Za2,List.getElem?_set,if_pos htl,if_true]
 have hd:σ.getD t .free=.var cs:=by simp [List.getD_eq_getElem?_getD,hs]
 have hf0:Zo σ []=σ:=rfl
 have hsh:showAs σ (.ref t 0::rest)=some (.ref t 0::rest.map ZD,[]):=by
  rw [showAs,show showA σ (.ref t 0)=some (.ref t 0,[]) from rfl,ZdH hp]
  rfl
 have href:Zp (.ref t 0::rest.map ZD)=[t]:=by
  rw [Zp,Zc5 hp];rfl
 unfold Zj ZbJ
 rw [hb]
 simp only [Bool.false_eq_true,if_false,hsh,hf0,href,ZeS hs hc]
 unfold Zbt
 have hall:([t].all fun t=>okB (σ.getD t .free))=true:=by simp [List.all_cons,List.all_nil,hs,okB]
 rw [if_pos hall]
 have hρ:Zl σ 0 [t] t 0=some (0,0):=by simp [Zl,ZZ,hs,Zm,ZR]
 have hheap:Zv σ 0 [t] (Zl σ 0 [t]) [t] 0=[.var cs]:=by
  simp only [Zv,hd,ZF,(ZaM _ cs hc).1]
 have hargs:Ze (Zl σ 0 [t]) (.ref t 0::rest.map ZD)=.ref 0 0::rest.map ZD:=by
  rw [Ze,Zdb hp]
  simp only [Zk,hρ]
 rw [hargs,hheap,h]
 have hask:Z6 true [t].length (some (r,[.var cs']))=some (r',[.var cs']):=by
  unfold Z6
  rw [if_pos rfl]
  have hnp:∀ x,r≠.pan x:=by rintro x rfl;simp [viewR,ZQ,ZK] at hv
  rw [show Zbr [t].length (some (r,[.var cs']))=(match viewR [.var cs'] r with
   | some (r',ts)=>match gcA [t].length [r'] (Zo [.var cs'] ts) with
    | ([r''],σ')=>some (r'',σ')
    | _=>none
   | none=>none) from by cases r <;> first | rfl | exact absurd rfl (hnp _)]
  rw [hv]
  simp only [List.length_cons,List.length_nil,Nat.zero_add,show Zo [ZI.var cs'] []=[.var cs'] from rfl,ZkM hn hc']
 rw [hask]
 have hk:ZaV σ [t] [.var cs'] 0=true:=by
  simp [ZaV,okB,hs,Zb1,Zm]
 simp only [Zay,List.isEmpty_cons,Bool.false_eq_true,if_false,List.length_cons,List.length_nil,Nat.zero_add,Nat.le_add_right,Nat.le_refl,decide_true,hk,hff,Bool.and_self,if_true,ZaY,ZaF,List.getD_cons_zero,ZF,(ZaW _ r' hn).1,(ZaM _ cs' hc').1,hup]
theorem ZDL {O:ZL} {bf:Nat->Bool} {σ:Za} {t f own:Nat} {rest:List AVal} {cs cs':List AVal} {x:AVal} {view:Bool} (hb:bf f=false) (hp:rest.all Z5=true) (hc:Zd cs=true) (hc':Zd cs'=true) (hn:ZG x=true)
  (h:O f (.ref 0 0::rest.map ZD) [.var cs]=some (.pan x,[.var cs'])) (hs:σ[t]?=some (.var cs)) (sq:Nat) (hff:ZaU σ sq own=true):Zj O bf σ sq f own view (.ref t 0::rest)=some (.pan x,σ.set t (.var cs'),{ any:=true,upd:=[(t,cs')] }):=by
 have htl:t < σ.length:=by
  rcases Nat.lt_or_ge t σ.length with h | h
  ·exact h
  ·rw [List.getElem?_eq_none h] at hs;cases hs
 have hup:Za2 (σ.set t (.var cs')) [t]=[(t,cs')]:=by
  simp only [Za2,List.getElem?_set,if_pos htl,if_true]
 have hd:σ.getD t .free=.var cs:=by simp [List.getD_eq_getElem?_getD,hs]
 have hf0:Zo σ []=σ:=rfl
 have hsh:showAs σ (.ref t 0::rest)=some (.ref t 0::rest.map ZD,[]):=by
  rw [showAs,show showA σ (.ref t 0)=some (.ref t 0,[]) from rfl,ZdH hp]
  rfl
 have href:Zp (.ref t 0::rest.map ZD)=[t]:=by
  rw [Zp,Zc5 hp];rfl
 unfold Zj ZbJ
 rw [hb]
 simp only [Bool.false_eq_true,if_false,hsh,hf0,href,ZeS hs hc]
 unfold Zbt
 have hall:([t].all fun t=>okB (σ.getD t .free))=true:=by simp [List.all_cons,List.all_nil,hs,okB]
 rw [if_pos hall]
 have hρ:Zl σ 0 [t] t 0=some (0,0):=by simp [Zl,ZZ,hs,Zm,ZR]
 have hheap:Zv σ 0 [t] (Zl σ 0 [t]) [t] 0=[.var cs]:=by
  simp only [Zv,hd,ZF,(ZaM _ cs hc).1]
 have hargs:Ze (Zl σ 0 [t]) (.ref t 0::rest.map ZD)=.ref 0 0::rest.map ZD:=by
  rw [Ze,Zdb hp]
  simp only [Zk,hρ]
 rw [hargs,hheap,h]
 have hask:Z6 view [t].length (some (.pan x,[.var cs']))=some (.pan x,[.var cs']):=by
  unfold Z6
  split <;> rfl
 rw [hask]
 have hk:ZaV σ [t] [.var cs'] 0=true:=by
  simp [ZaV,okB,hs,Zb1,Zm]
 have hnp:ZG (.pan x)=true:=by simpa only [ZG] using hn
 simp only [Zay,List.isEmpty_cons,Bool.false_eq_true,if_false,List.length_cons,List.length_nil,Nat.zero_add,Nat.le_add_right,Nat.le_refl,decide_true,hk,hff,Bool.and_self,if_true,ZaY,ZaF,List.getD_cons_zero,ZF,(ZaW _ _ hnp).1,(ZaM _ cs' hc').1,hup]
theorem ZcP {O:ZL} {bf:Nat->Bool} {σ:Za} {sq f own:Nat} {view:Bool} {args vs vs':List AVal} {ids:List Nat} {h0 h:Za} {r0 r:AVal} (hb:bf f=false) (hsh:showAs σ args=some (vs,[])) (hre:ZA σ 1000 (Zp vs) []=ids) (hne:ids.isEmpty=false)
  (hall:(ids.all fun t=>okB (σ.getD t .free))=true) (hvs:Ze (Zl σ 0 ids) vs=vs') (hh:Zv σ 0 ids (Zl σ 0 ids) ids 0=h0) {hh0:Za} (hO:O f vs' h0=some (r0,hh0)) (hv:Z6 view ids.length (some (r0,hh0))=some (r,h))
  (hl1:h.length<=ids.length+own) (hl2:ids.length<=h.length) (hk:ZaV σ ids h 0=true) (hff:ZaU σ sq own=true) {r':AVal} (hr:Zk (Zaz σ ids sq) r=r') {σ':Za} (hlay:ZaY σ ids sq h 0 σ=σ') {u:List (Nat×List AVal)} (hu:Za2 σ' ids=u) :
  Zj O bf σ sq f own view args=some (r',σ',{ any:=true,upd:=u }):=by
 subst hr hlay hu
 unfold Zj ZbJ
 rw [hb]
 simp only [Bool.false_eq_true,if_false,hsh,show Zo σ []=σ from rfl,hre]
 unfold Zbt
 rw [if_pos hall,hvs,hh,hO,hv]
 simp only [Zay,hne,Bool.false_and,Bool.false_eq_true,if_false,hl1,hl2,decide_true,hk,hff,Bool.and_self,if_true]
end
section
section
variable (P:List AVal) (hP:P.length=26) (hN:Zd P=true) (l:Zb) (hl:l.length<=140737488355328)
include hP hN hl
theorem Zv3 (xs:List AVal) {c:Int} (h:Zap l=.error c):evC FC PR BY 4 Zc6 [(1,.ref 3 0),(0,.ref 0 0)] [.var [.ref 1 0],.var (Zi P 11 2 0 xs.length++[.lst false (l.map Zc)]),.row 0 1 xs,.var [.ref 1 0]]=some (.panic (Zy c),[],[.var [.ref 1 0],.var (Zi P 11 2 0 xs.length++[.lst false (l.map Zc)]),.row 0 1 xs,.var [.ref 1 0],.free]):=by
 have hT:=fun σ sq hs hr=>Zqi P hP hN 11 (by omega) xs.length 1 xs l hl σ 1 2 0 sq (by omega) hs hr h
 have hL:=ZbP P hP hN 11 (by omega) xs.length 2 0
 have hc:(Zi P 11 2 0 xs.length)[11]?=some (.sl 2 0 0 xs.length):=by unfold Zi;rw [List.getElem?_set_self (by omega)]
 have a4:=fun L=>(Z2 _ hL 11 (by omega) L).trans hc
 simp -implicitDefEqProofs only [EQA,Nat.reduceAdd,Nat.reduceSub,Nat.reduceLT,Nat.reduceLeDiff,Nat.reduceEqDiff,Nat.reduceBEq,reduceCtorEq,↓reduceIte,Zc6,oI,oN,hT,a4,Zhx,Zc2,List.any_cons,List.any_nil,Zaf,Zaj,Zah,Zas,Zav,Zal,Zc7,List.lookup_cons,List.lookup_nil]
theorem ZvH (xs:List AVal) (k:Int) (hk:P[0]?=some (.int .i64 k)) {e:Int} (h:ZaD k l=.error e):∃ r:Zb,evC FC PR BY 4 ZcX [(1,.ref 3 0),(0,.ref 0 0)] [.var [.ref 1 0],.var (Zi P 8 2 0 xs.length++[.lst false (l.map Zc)]),.row 0 1 xs,.var [.ref 1 0]]=some (.panic (Zy e),[],[.var [.ref 1 0],.var (Zi P 8 2 0 xs.length++[.lst false (r.map Zc)]),.row 0 1 xs,.var [.ref 1 0],.free]):=by
 have hk0:(Zi P 8 1 0 xs.length)[0]?=some (.int .i64 k):=by unfold Zi;rw [List.getElem?_set_ne (by omega)];exact hk
 have hT0:=fun (σ:Za) sq (hs:σ[1]?=some (.var (Zi P 8 2 0 xs.length++[.lst false (l.map Zc)]))) (hr:σ[2]?=some (.row 0 1 xs))=>ZzV P hP hN 8 (by omega) xs.length 1 xs l hl k hk0 σ 1 2 0 sq (by omega) hs hr h
 have hL:=ZbP P hP hN 8 (by omega) xs.length 2 0
 have hc:(Zi P 8 2 0 xs.length)[8]?=some (.sl 2 0 0 xs.length):=by unfold Zi;rw [List.getElem?_set_self (by omega)]
 have a4:=fun L=>(Z2 _ hL 8 (by omega) L).trans hc
 obtain ⟨r,hT⟩:=hT0 [.var [.ref 1 0],.var (Zi P 8 2 0 xs.length++[.lst false (l.map Zc)]),.row 0 1 xs,.var [.ref 1 0],.free] 4 rfl rfl
 refine ⟨r,?_⟩
 simp -implicitDefEqProofs only [EQA,Nat.reduceAdd,Nat.reduceSub,Nat.reduceLT,Nat.reduceLeDiff,Nat.reduceEqDiff,Nat.reduceBEq,reduceCtorEq,↓reduceIte,ZcX,oI,oN,hT,a4,Zhx,Zc2,List.any_cons,List.any_nil,Zaf,Zaj,Zah,Zas,Zav,Zal,Zc7,List.lookup_cons,List.lookup_nil]
end
section
variable {cs:List AVal} {r:AVal} {σ:Za}
theorem ZrB (hr:ZG r=true) (hc:Zd cs=true):Zak 3 (.var [.ref 1 0]::.var cs::.var [.ref 1 0]::σ) r=some (r,[.var [.ref 1 0],.var cs,.var [.ref 1 0]]):=by
 have e1:=fun ρ=>ZaW ρ r hr
 have e2:=fun ρ=>ZaM ρ cs hc
 have hi:ZB 3 [r] (.var [.ref 1 0]::.var cs::.var [.ref 1 0]::σ)=[0,1,2]:=by
  have : Zp [r]=[]:=by simp only [Zp,(e1 (fun _ _=>none)).2,List.append_nil]
  have hR:List.range 3=[0,1,2]:=rfl
  simp only [ZB,this,List.nil_append,hR,List.flatMap_cons,List.flatMap_nil,List.append_nil,List.getD_cons_zero,List.getD_cons_succ,ZN,(e2 (fun _ _=>none)).2]
  rfl
 have hρ:Zl (.var [.ref 1 0]::.var cs::.var [.ref 1 0]::σ) 3 [0,1,2] 1 0=some (1,0):=rfl
 simp only [Zak,gcA,hi,Ze,(e1 _).1,Zv,List.getD_cons_zero,List.getD_cons_succ,ZF,Zk,hρ,(e2 _).1]
theorem Ztg {w:Nat} {xs:List AVal} (hr:ZG r=true) (hc:Zp cs=[3]) (hren:∀ ρ:Rho,ρ 3 0=some (3,0)->Ze ρ cs=cs):Zak 3 (.var [.ref 1 0]::.var cs::.var [.ref 1 0]::.row 0 w xs::σ) r=some (r,[.var [.ref 1 0],.var cs,.var [.ref 1 0],.row 0 w xs]):=by
 have e1:=fun ρ=>ZaW ρ r hr
 have hi:ZB 3 [r] (.var [.ref 1 0]::.var cs::.var [.ref 1 0]::.row 0 w xs::σ)=[0,1,2,3]:=by
  have : Zp [r]=[]:=by simp only [Zp,(e1 (fun _ _=>none)).2,List.append_nil]
  have hR:List.range 3=[0,1,2]:=rfl
  simp only [ZB,this,List.nil_append,hR,List.flatMap_cons,List.flatMap_nil,List.append_nil,List.getD_cons_zero,List.getD_cons_succ,ZN,hc]
  rfl
 have hρ:Zl (.var [.ref 1 0]::.var cs::.var [.ref 1 0]::.row 0 w xs::σ) 3 [0,1,2,3] 1 0=some (1,0):=rfl
 have hρ3:Zl (.var [.ref 1 0]::.var cs::.var [.ref 1 0]::.row 0 w xs::σ) 3 [0,1,2,3] 3 0=some (3,0):=rfl
 simp only [Zak,gcA,hi,Ze,(e1 _).1,Zv,List.getD_cons_zero,List.getD_cons_succ,ZR,Zm,ZF,Zk,hρ,hren _ hρ3]
 rfl
theorem Zlg {w g:Nat} {xs:List AVal} (hr:ZG r=true) (hg:g<=1) (hc:Zp cs=[2]) (hren:∀ ρ:Rho,ρ 2 g=some (2,g)->Ze ρ cs=cs):Zak 4 (.var [.ref 1 0]::.var cs::.row g w xs::.var [.ref 1 0]::σ) r=some (r,[.var [.ref 1 0],.var cs,.row g w xs,.var [.ref 1 0]]):=by
 have e1:=fun ρ=>ZaW ρ r hr
 have hi:ZB 4 [r] (.var [.ref 1 0]::.var cs::.row g w xs::.var [.ref 1 0]::σ)=[0,1,2,3]:=by
  have : Zp [r]=[]:=by simp only [Zp,(e1 (fun _ _=>none)).2,List.append_nil]
  have hR:List.range 4=[0,1,2,3]:=rfl
  simp only [ZB,this,List.nil_append,hR,List.flatMap_cons,List.flatMap_nil,List.append_nil,List.getD_cons_zero,List.getD_cons_succ,ZN,hc]
  rfl
 have hng:(if g=0 then 0 else 1)=g:=by split <;> omega
 have hρ:Zl (.var [.ref 1 0]::.var cs::.row g w xs::.var [.ref 1 0]::σ) 4 [0,1,2,3] 1 0=some (1,0):=rfl
 have hρ3:Zl (.var [.ref 1 0]::.var cs::.row g w xs::.var [.ref 1 0]::σ) 4 [0,1,2,3] 2 g=some (2,g):=by
  simp only [Zl,ZZ,Zm,ZR,List.getElem?_cons_succ,List.getElem?_cons_zero]
  simp [hng]
 simp only [Zak,gcA,hi,Ze,(e1 _).1,Zv,List.getD_cons_zero,List.getD_cons_succ,ZR,Zm,ZF,Zk,hρ,hren _ hρ3]
 simp [hng]
end
section
variable (P:List AVal) (hP:P.length=26) (hN:Zd P=true) (l:Zb) (hl:l.length<=140737488355328)
include hP hN hl
theorem Zg0 (k:Nat) (hk:k < 26) (r g n:Nat) (L:Zb):Zp (Zi P k r g n++[.lst false (L.map Zc)])=[r]:=by
 rw [Zcn,Zi,ZhR hN (by omega)];rfl
theorem ZgN (k r g n r' g':Nat) (L:Zb) (ρ:Rho) (h:ρ r g=some (r',g')):Ze ρ (Zi P k r g n++[.lst false (L.map Zc)])=Zi P k r' g' n++[.lst false (L.map Zc)]:=by
 rw [ZbH,Zi,Zh7 ρ hN,Zi]
 simp only [Zk,h,Ze]
theorem ZFU (h11:P[11]?=some (.lst true [])) {s r:Zb} (h:Zap l=.ok (s,r)):E 63 [.ref 0 0,.ref 2 0] [.var [.ref 1 0],.var (P++[.lst false (l.map Zc)]),.var [.ref 1 0]]=some (.tup [],[.var [.ref 1 0],.var (Zi P 11 3 0 1++[.lst false (r.map Zc)]),.var [.ref 1 0],.row 0 1 [.str s]]):=by
 rw [Zh (by rfl) Zk9]
 have:=ZBm P hP hN l hl h11 h
 have h2:=Ztg (σ:=[]) (w:=1) (xs:=[.str s]) (r:=.tup []) rfl (Zg0 P hP hN l hl 11 (by omega) 3 0 1 r) (fun ρ hρ=>ZgN P hP hN l hl 11 3 0 1 3 0 r ρ hρ)
 show Zar 3 _ (evC FC PR BY 3 Zc6 [(1,.ref 2 0),(0,.ref 0 0)] _)=_
 rw [this]
 exact h2
theorem ZJA {c:Int} (h:Zap l=.error c) (h11:P[11]?=some (.lst true [])):E 63 [.ref 0 0,.ref 2 0] [.var [.ref 1 0],.var (P++[.lst false (l.map Zc)]),.var [.ref 1 0]]=some (.pan (Zy c),[.var [.ref 1 0],.var (P++[.lst false (l.map Zc)]),.var [.ref 1 0]]):=by
 rw [Zh (by rfl) Zk9]
 have:=Zyr P hP hN l hl h h11
 have h2:=ZrB (σ:=[.free]) (r:=.pan (Zy c)) rfl (Zw P hP hN false (l.map Zc))
 show Zar 3 _ (evC FC PR BY 3 Zc6 [(1,.ref 2 0),(0,.ref 0 0)] _)=_
 rw [this]
 exact h2
theorem ZEN (h8:P[8]?=some (.lst true [])) (k:Int) (hk:P[0]?=some (.int .i64 k)) {c:Int} {r:Zb} (h:ZaD k l=.ok (c,r)):E 65 [.ref 0 0,.ref 2 0] [.var [.ref 1 0],.var (P++[.lst false (l.map Zc)]),.var [.ref 1 0]]=some (.tup [],[.var [.ref 1 0],.var (Zi P 8 3 0 1++[.lst false (r.map Zc)]),.var [.ref 1 0],.row 0 1 [.int .i64 c]]):=by
 rw [Zh (by rfl) ZjJ]
 have:=ZI8 P hP hN l hl h8 k hk h
 have h2:=Ztg (σ:=[]) (w:=1) (xs:=[.int .i64 c]) (r:=.tup []) rfl (Zg0 P hP hN l hl 8 (by omega) 3 0 1 r) (fun ρ hρ=>ZgN P hP hN l hl 8 3 0 1 3 0 r ρ hρ)
 show Zar 3 _ (evC FC PR BY 3 ZcX [(1,.ref 2 0),(0,.ref 0 0)] _)=_
 rw [this]
 exact h2
theorem ZFm (h8:P[8]?=some (.lst true [])) (k:Int) (hk:P[0]?=some (.int .i64 k)) {e:Int} (h:ZaD k l=.error e):∃ r:Zb,E 65 [.ref 0 0,.ref 2 0] [.var [.ref 1 0],.var (P++[.lst false (l.map Zc)]),.var [.ref 1 0]]=some (.pan (Zy e),[.var [.ref 1 0],.var (P++[.lst false (r.map Zc)]),.var [.ref 1 0]]):=by
 obtain ⟨r,this⟩:=ZD3 P hP hN l hl h8 k hk h
 have h2:=ZrB (σ:=[.free]) (r:=.pan (Zy e)) rfl (Zw P hP hN false (r.map Zc))
 refine ⟨r,?_⟩
 rw [Zh (by rfl) ZjJ]
 show Zar 3 _ (evC FC PR BY 3 ZcX [(1,.ref 2 0),(0,.ref 0 0)] _)=_
 rw [this]
 exact h2
variable (xs:List AVal)
theorem ZvB (hx:xs.length*16+16<=140737488355328) (kk:kOk 1 xs=true) {s r:Zb} (h:Zap l=.ok (s,r)):E 63 [.ref 0 0,.ref 3 0] [.var [.ref 1 0],.var (Zi P 11 2 0 xs.length++[.lst false (l.map Zc)]),.row 0 1 xs,.var [.ref 1 0]]=some (.tup [],[.var [.ref 1 0],.var (Zi P 11 2 1 (xs.length+1)++[.lst false (r.map Zc)]),.row 1 1 (xs++[.str s]),.var [.ref 1 0]]):=by
 rw [Zh (by rfl) Zk9]
 have:=ZIu P hP hN l hl xs hx kk h
 have h2:=Zlg (σ:=[.free]) (w:=1) (g:=1) (xs:=xs++[.str s]) (r:=.tup []) rfl (by omega) (Zg0 P hP hN l hl 11 (by omega) 2 1 (xs.length+1) r) (fun ρ hρ=>ZgN P hP hN l hl 11 2 1 (xs.length+1) 2 1 r ρ hρ)
 show Zar 4 _ (evC FC PR BY 4 Zc6 [(1,.ref 3 0),(0,.ref 0 0)] _)=_
 rw [this]
 exact h2
theorem Zyu {c:Int} (h:Zap l=.error c):E 63 [.ref 0 0,.ref 3 0] [.var [.ref 1 0],.var (Zi P 11 2 0 xs.length++[.lst false (l.map Zc)]),.row 0 1 xs,.var [.ref 1 0]]=some (.pan (Zy c),[.var [.ref 1 0],.var (Zi P 11 2 0 xs.length++[.lst false (l.map Zc)]),.row 0 1 xs,.var [.ref 1 0]]):=by
 rw [Zh (by rfl) Zk9]
 have:=Zv3 P hP hN l hl xs h
 have h2:=Zlg (σ:=[.free]) (w:=1) (g:=0) (xs:=xs) (r:=.pan (Zy c)) rfl (by omega) (Zg0 P hP hN l hl 11 (by omega) 2 0 xs.length l) (fun ρ hρ=>ZgN P hP hN l hl 11 2 0 xs.length 2 0 l ρ hρ)
 show Zar 4 _ (evC FC PR BY 4 Zc6 [(1,.ref 3 0),(0,.ref 0 0)] _)=_
 rw [this]
 exact h2
theorem Zwv (hx:xs.length*8+8<=140737488355328) (kk:kOk 1 xs=true) (k:Int) (hk:P[0]?=some (.int .i64 k)) {c:Int} {r:Zb} (h:ZaD k l=.ok (c,r)):E 65 [.ref 0 0,.ref 3 0] [.var [.ref 1 0],.var (Zi P 8 2 0 xs.length++[.lst false (l.map Zc)]),.row 0 1 xs,.var [.ref 1 0]]=some (.tup [],[.var [.ref 1 0],.var (Zi P 8 2 1 (xs.length+1)++[.lst false (r.map Zc)]),.row 1 1 (xs++[.int .i64 c]),.var [.ref 1 0]]):=by
 rw [Zh (by rfl) ZjJ]
 have:=Zva P hP hN l hl xs hx kk k hk h
 have h2:=Zlg (σ:=[.free]) (w:=1) (g:=1) (xs:=xs++[.int .i64 c]) (r:=.tup []) rfl (by omega) (Zg0 P hP hN l hl 8 (by omega) 2 1 (xs.length+1) r) (fun ρ hρ=>ZgN P hP hN l hl 8 2 1 (xs.length+1) 2 1 r ρ hρ)
 show Zar 4 _ (evC FC PR BY 4 ZcX [(1,.ref 3 0),(0,.ref 0 0)] _)=_
 rw [this]
 exact h2
theorem ZJ4 (k:Int) (hk:P[0]?=some (.int .i64 k)) {e:Int} (h:ZaD k l=.error e):∃ r:Zb,E 65 [.ref 0 0,.ref 3 0] [.var [.ref 1 0],.var (Zi P 8 2 0 xs.length++[.lst false (l.map Zc)]),.row 0 1 xs,.var [.ref 1 0]]=some (.pan (Zy e),[.var [.ref 1 0],.var (Zi P 8 2 0 xs.length++[.lst false (r.map Zc)]),.row 0 1 xs,.var [.ref 1 0]]):=by
 obtain ⟨r,this⟩:=ZvH P hP hN l hl xs k hk h
 have h2:=Zlg (σ:=[.free]) (w:=1) (g:=0) (xs:=xs) (r:=.pan (Zy e)) rfl (by omega) (Zg0 P hP hN l hl 8 (by omega) 2 0 xs.length r) (fun ρ hρ=>ZgN P hP hN l hl 8 2 0 xs.length 2 0 r ρ hρ)
 refine ⟨r,?_⟩
 rw [Zh (by rfl) ZjJ]
 show Zar 4 _ (evC FC PR BY 4 ZcX [(1,.ref 3 0),(0,.ref 0 0)] _)=_
 rw [this]
 exact h2
end
end
section
def ZaI {α:Type} (one:Zb->RK α):Nat->Zb->Except Int (List α)
 | 0,l=>if l.length=0 then .ok [] else .error 0
 | n+1,l=>if l.length=0 then .ok [] else match one l with
  | .error e=>.error e
  | .ok (a,r)=>match ZaI one n r with
   | .error e=>.error e
   | .ok t=>.ok (a::t)
section
variable {O:ZL} {bf:Nat->Bool} {f:Nat} {cs cs1 cs2 cs3 xs xs2:List AVal} {w w2 g2:Nat} {q:AVal} {σ:Za} {sq:Nat}
theorem Zsy (h0:σ[0]?=some (.var cs)) (h1:σ[1]?=some (.var [.ref 0 0])) (h2:σ[2]?=some (.var [.ref 0 0])) (hc:Zp cs=[]):ZA σ 1000 [1,2] []=[1,0,2]:=by
 have d0:σ.getD 0 .free=.var cs:=by simp [List.getD_eq_getElem?_getD,h0]
 have d1:σ.getD 1 .free=.var [.ref 0 0]:=by simp [List.getD_eq_getElem?_getD,h1]
 have d2:σ.getD 2 .free=.var [.ref 0 0]:=by simp [List.getD_eq_getElem?_getD,h2]
 rw [show (1000:Nat)=995+1+1+1+1+1 from rfl]
 simp only [ZA,d0,d1,d2,ZN,Zp,ZV,hc,List.contains_cons,List.contains_nil,List.append_nil,List.nil_append,List.cons_append,Bool.or_false,Bool.false_eq_true,if_false]
 simp
theorem ZzK (h0:σ[0]?=some (.var cs)) (h1:σ[1]?=some (.var [.ref 0 0])) (h2:σ[2]?=some (.var [.ref 0 0])) (h3:σ[3]?=some (.row 0 w xs)) (hc:Zp cs=[3]):ZA σ 1000 [1,2] []=[1,0,3,2]:=by
 have d0:σ.getD 0 .free=.var cs:=by simp [List.getD_eq_getElem?_getD,h0]
 have d1:σ.getD 1 .free=.var [.ref 0 0]:=by simp [List.getD_eq_getElem?_getD,h1]
 have d2:σ.getD 2 .free=.var [.ref 0 0]:=by simp [List.getD_eq_getElem?_getD,h2]
 have d3:σ.getD 3 .free=.row 0 w xs:=by simp [List.getD_eq_getElem?_getD,h3]
 rw [show (1000:Nat)=994+1+1+1+1+1+1 from rfl]
 simp only [ZA,d0,d1,d2,d3,ZN,Zp,ZV,hc,List.contains_cons,List.contains_nil,List.append_nil,List.nil_append,List.cons_append,Bool.or_false,Bool.false_eq_true,if_false]
 simp
theorem ZLO (hb:bf f=false) (hc:Zd cs=true) (hq:ZG q=true) (hback:∀ ρ:Rho,ρ 3 0=some (3,0)->Ze ρ cs2=cs3) (hO:O f [.ref 0 0,.ref 2 0] [.var [.ref 1 0],.var cs,.var [.ref 1 0]]=some (q,[.var [.ref 1 0],.var cs2,.var [.ref 1 0],.row 0 w xs])) :
  Zj O bf [.var cs,.var [.ref 0 0],.var [.ref 0 0],.free,.free,.free,.free] 3 f 4 false [.ref 1 0,.ref 2 0]=some (q,[.var cs3,.var [.ref 0 0],.var [.ref 0 0],.row 0 w xs,.free,.free,.free],{ any:=true,upd:=[(1,[.ref 0 0]),(0,cs3),(2,[.ref 0 0])] }):=by
 have ec:=fun ρ=>ZaM ρ cs hc
 refine ZcP (ids:=[1,0,2]) (vs:=[.ref 1 0,.ref 2 0]) hb rfl (Zsy rfl rfl rfl (ec (fun _ _=>none)).2) rfl rfl rfl ?_ hO rfl (by simp) (by simp) rfl rfl (ZaW _ q hq).1 ?_ rfl
 ·show [ZI.var (Ze _ [.ref 0 0]),.var (Ze _ cs),.var (Ze _ [.ref 0 0])]=_
  rw [(ec _).1];rfl
 ·have hb3:=hback (Zaz [.var cs,.var [.ref 0 0],.var [.ref 0 0],.free,.free,.free,.free] [1,0,2] 3) rfl
  show [ZI.var (Ze _ cs2),.var (Ze _ [.ref 1 0]),.var (Ze _ [.ref 1 0]),.row 0 w xs,.free,.free,.free]=_
  rw [hb3];rfl
theorem ZHK (hb:bf f=false) (hc:Zd cs=true) (hq:ZG q=true) (hc2:Zd cs2=true) (hO:O f [.ref 0 0,.ref 2 0] [.var [.ref 1 0],.var cs,.var [.ref 1 0]]=some (q,[.var [.ref 1 0],.var cs2,.var [.ref 1 0]])) :
  Zj O bf [.var cs,.var [.ref 0 0],.var [.ref 0 0],.free,.free,.free,.free] 3 f 4 false [.ref 1 0,.ref 2 0]=some (q,[.var cs2,.var [.ref 0 0],.var [.ref 0 0],.free,.free,.free,.free],{ any:=true,upd:=[(1,[.ref 0 0]),(0,cs2),(2,[.ref 0 0])] }):=by
 have ec:=fun ρ=>ZaM ρ cs hc
 refine ZcP (ids:=[1,0,2]) (vs:=[.ref 1 0,.ref 2 0]) hb rfl (Zsy rfl rfl rfl (ec (fun _ _=>none)).2) rfl rfl rfl ?_ hO rfl (by simp) (by simp) rfl rfl (ZaW _ q hq).1 ?_ rfl
 ·show [ZI.var (Ze _ [.ref 0 0]),.var (Ze _ cs),.var (Ze _ [.ref 0 0])]=_
  rw [(ec _).1];rfl
 ·show [ZI.var (Ze _ cs2),.var (Ze _ [.ref 1 0]),.var (Ze _ [.ref 1 0]),.free,.free,.free,.free]=_
  rw [(ZaM _ cs2 hc2).1];rfl
theorem ZuH (hb:bf f=false) (hc:Zp cs=[3]) (hren:∀ ρ:Rho,ρ 3 0=some (2,0)->Ze ρ cs=cs1) (hq:ZG q=true) (hg2:g2<=1) (hback:∀ ρ:Rho,ρ 2 g2=some (3,g2)->Ze ρ cs2=cs3) (hO:O f [.ref 0 0,.ref 3 0] [.var [.ref 1 0],.var cs1,.row 0 w xs,.var [.ref 1 0]]=some (q,[.var [.ref 1 0],.var cs2,.row g2 w2 xs2,.var [.ref 1 0]])) :
  Zj O bf [.var cs,.var [.ref 0 0],.var [.ref 0 0],.row 0 w xs,.free,.free,.free,.free] 4 f 4 false [.ref 1 0,.ref 2 0]=some (q,[.var cs3,.var [.ref 0 0],.var [.ref 0 0],.row g2 w2 xs2,.free,.free,.free,.free],{ any:=true,upd:=[(1,[.ref 0 0]),(0,cs3),(2,[.ref 0 0])] }):=by
 refine ZcP (ids:=[1,0,3,2]) (vs:=[.ref 1 0,.ref 2 0]) hb rfl (ZzK rfl rfl rfl rfl hc) rfl rfl rfl ?_ hO rfl (by simp) (by simp) ?_ rfl (ZaW _ q hq).1 ?_ rfl
 ·have h1:=hren (Zl [.var cs,.var [.ref 0 0],.var [.ref 0 0],.row 0 w xs,.free,.free,.free,.free] 0 [1,0,3,2]) rfl
  show [ZI.var (Ze _ [.ref 0 0]),.var (Ze _ cs),.row 0 w xs,.var (Ze _ [.ref 0 0])]=_
  rw [h1];rfl
 ·simp [ZaV,okB,Zb1,Zm,hg2]
 ·have hb3:=hback (Zaz [.var cs,.var [.ref 0 0],.var [.ref 0 0],.row 0 w xs,.free,.free,.free,.free] [1,0,3,2] 4) (by simp [Zaz,Zm])
  show [ZI.var (Ze _ cs2),.var (Ze _ [.ref 1 0]),.var (Ze _ [.ref 1 0]),.row (0+g2) w2 xs2,.free,.free,.free,.free]=_
  rw [hb3,Nat.zero_add];rfl
theorem ZsI {f g:Nat} (hc:Zp cs=[3]) (hg:g<=1) (hren:∀ ρ:Rho,ρ 3 g=some (3,0)->Ze ρ cs=cs1) (τ:Za) :
  gcT 3 [(1,.fn f [.ref 1 0,.ref 2 0]),(0,.ref 0 0)] (.var cs::.var [.ref 0 0]::.var [.ref 0 0]::.row g w xs::τ)=([(1,.fn f [.ref 1 0,.ref 2 0]),(0,.ref 0 0)],[.var cs1,.var [.ref 0 0],.var [.ref 0 0],.row 0 w xs]):=by
 have hi:ZB 3 [.fn f [.ref 1 0,.ref 2 0],.ref 0 0] (.var cs::.var [.ref 0 0]::.var [.ref 0 0]::.row g w xs::τ)=[0,1,2,3]:=by
  have hR:List.range 3=[0,1,2]:=rfl
  simp only [ZB,hR,List.flatMap_cons,List.flatMap_nil,List.append_nil,List.getD_cons_zero,List.getD_cons_succ,ZN,Zp,ZV,hc]
  rfl
 have hρ:Zl (.var cs::.var [.ref 0 0]::.var [.ref 0 0]::.row g w xs::τ) 3 [0,1,2,3] 3 g=some (3,0):=by
  simp [Zl,ZZ,Zm,ZR]
 have hρ0:Zl (.var cs::.var [.ref 0 0]::.var [.ref 0 0]::.row g w xs::τ) 3 [0,1,2,3] 0 0=some (0,0):=rfl
 have hρ1:Zl (.var cs::.var [.ref 0 0]::.var [.ref 0 0]::.row g w xs::τ) 3 [0,1,2,3] 1 0=some (1,0):=rfl
 have hρ2:Zl (.var cs::.var [.ref 0 0]::.var [.ref 0 0]::.row g w xs::τ) 3 [0,1,2,3] 2 0=some (2,0):=rfl
 simp only [gcT,gcA,List.map_cons,List.map_nil,hi,Zv,List.getD_cons_zero,List.getD_cons_succ,ZR,Zm,ZF,Ze,Zk,hρ0,hρ1,hρ2,hren _ hρ]
 simp
theorem Zjq {r:AVal} (hr:ZG r=true) (hc:Zp cs=[3]) (hren:∀ ρ:Rho,ρ 3 0=some (3,0)->Ze ρ cs=cs) (τ:Za):Zak 3 (.var cs::.var [.ref 0 0]::.var [.ref 0 0]::.row 0 w xs::τ) r=some (r,[.var cs,.var [.ref 0 0],.var [.ref 0 0],.row 0 w xs]):=by
 have e1:=fun ρ=>ZaW ρ r hr
 have hi:ZB 3 [r] (.var cs::.var [.ref 0 0]::.var [.ref 0 0]::.row 0 w xs::τ)=[0,1,2,3]:=by
  have hR:List.range 3=[0,1,2]:=rfl
  simp only [ZB,(e1 (fun _ _=>none)).2,List.nil_append,hR,List.flatMap_cons,List.flatMap_nil,List.append_nil,List.getD_cons_zero,List.getD_cons_succ,ZN,Zp,ZV,hc]
  rfl
 have hρ3:Zl (.var cs::.var [.ref 0 0]::.var [.ref 0 0]::.row 0 w xs::τ) 3 [0,1,2,3] 3 0=some (3,0):=rfl
 have hρ0:Zl (.var cs::.var [.ref 0 0]::.var [.ref 0 0]::.row 0 w xs::τ) 3 [0,1,2,3] 0 0=some (0,0):=rfl
 simp only [Zak,gcA,hi,Ze,(e1 _).1,Zv,List.getD_cons_zero,List.getD_cons_succ,ZR,Zm,ZF,Zk,hρ0,hren _ hρ3]
 rfl
theorem Zke {r:AVal} (hr:ZG r=true) (hc:Zd cs=true) (τ:Za):Zak 3 (.var cs::.var [.ref 0 0]::.var [.ref 0 0]::τ) r=some (r,[.var cs,.var [.ref 0 0],.var [.ref 0 0]]):=by
 have e1:=fun ρ=>ZaW ρ r hr
 have e2:=fun ρ=>ZaM ρ cs hc
 have hi:ZB 3 [r] (.var cs::.var [.ref 0 0]::.var [.ref 0 0]::τ)=[0,1,2]:=by
  have hR:List.range 3=[0,1,2]:=rfl
  simp only [ZB,(e1 (fun _ _=>none)).2,List.nil_append,hR,List.flatMap_cons,List.flatMap_nil,List.append_nil,List.getD_cons_zero,List.getD_cons_succ,ZN,Zp,ZV,(e2 (fun _ _=>none)).2]
  rfl
 have hρ0:Zl (.var cs::.var [.ref 0 0]::.var [.ref 0 0]::τ) 3 [0,1,2] 0 0=some (0,0):=rfl
 simp only [Zak,gcA,hi,Ze,(e1 _).1,Zv,List.getD_cons_zero,List.getD_cons_succ,ZF,Zk,hρ0,(e2 _).1]
end
section
variable {α:Type} {one:Zb->RK α} {g:α->AVal} {f k:Nat} (P:List AVal) (hP:P.length=26) (hN:Zd P=true) (hk:k < 26) (hf:f < 1000000) (hby:BY f=false)
  (hlen:∀ {l s r},one l=.ok (s,r)->r.length < l.length)
  (hT1:∀ (xs:List α) (l:Zb) (s:α) (r:Zb),l.length<=1099511627776->xs.length<=1099511627776->one l=.ok (s,r)->E f [.ref 0 0,.ref 3 0] [.var [.ref 1 0],.var (Zi P k 2 0 xs.length++[.lst false (l.map Zc)]),.row 0 1 (xs.map g),.var [.ref 1 0]]=some (.tup [],[.var [.ref 1 0],.var (Zi P k 2 1 (xs.length+1)++[.lst false (r.map Zc)]),.row 1 1 ((xs++[s]).map g),.var [.ref 1 0]]))
  (hF1:∀ (xs:List α) (l:Zb) (e:Int),l.length<=1099511627776->one l=.error e->∃ r:Zb,E f [.ref 0 0,.ref 3 0] [.var [.ref 1 0],.var (Zi P k 2 0 xs.length++[.lst false (l.map Zc)]),.row 0 1 (xs.map g),.var [.ref 1 0]]=some (.pan (Zy e),[.var [.ref 1 0],.var (Zi P k 2 0 xs.length++[.lst false (r.map Zc)]),.row 0 1 (xs.map g),.var [.ref 1 0]]))
include hP hN hk
def H3 (P:List AVal) (k n:Nat) (l:Zb) (ys:List AVal):Za:=[.var (Zi P k 3 0 n++[.lst false (l.map Zc)]),.var [.ref 0 0],.var [.ref 0 0],.row 0 1 ys]
theorem Zbo (r g n:Nat) (L:Zb):Zp (Zi P k r g n++[.lst false (L.map Zc)])=[r]:=by
 rw [Zcn,Zi,ZhR hN (by omega)];rfl
theorem ZaJ (r g n r' g':Nat) (L:Zb) (ρ:Rho) (h:ρ r g=some (r',g')):Ze ρ (Zi P k r g n++[.lst false (L.map Zc)])=Zi P k r' g' n++[.lst false (L.map Zc)]:=by
 rw [ZbH,Zi,Zh7 ρ hN,Zi]
 simp only [Zk,h,Ze]
include hf hby hlen hT1 hF1
theorem Zr8:∀ (n:Nat) (l:Zb) (xs:List α),l.length<=n->n+xs.length<=1099511627776 ->
  (∀ ts,ZaI one n l=.ok ts->ZaS 3 [(1,.fn f [.ref 1 0,.ref 2 0]),(0,.ref 0 0)] (H3 P k xs.length l (xs.map g))=some (.tup [],H3 P k (xs++ts).length [] ((xs++ts).map g))) /\
  (∀ e,ZaI one n l=.error e->∃ (xs':List α) (r:Zb),ZaS 3 [(1,.fn f [.ref 1 0,.ref 2 0]),(0,.ref 0 0)] (H3 P k xs.length l (xs.map g))=some (.pan (Zy e),H3 P k xs'.length r (xs'.map g))):=by
 intro n
 induction n with
 | zero =>
  intro l xs hl hx
  have l0:l=[]:=List.eq_nil_of_length_eq_zero (by omega)
  subst l0
  refine ⟨fun ts h=>?_,fun e h=>by simp [ZaI] at h⟩
  have : ts=[]:=by simpa [ZaI] using h.symm
  subst this
  rw [List.append_nil]
  have hL:=ZbP P hP hN k hk xs.length 3 0
  have b2:=Zao _ hL
  have hO:=Zjq (w:=1) (xs:=xs.map g) (r:=.tup []) rfl (Zbo P hP hN hk 3 0 xs.length []) (fun ρ h=>ZaJ P hP hN hk 3 0 xs.length 3 0 [] ρ h)
  unfold H3 ZaS
  rw [Z9]
  generalize Zi P k 3 0 xs.length=Q at *
  generalize xs.map g=ys at *
  simp -implicitDefEqProofs only [EQA,Nat.reduceAdd,Nat.reduceLT,Nat.reduceEqDiff,Nat.reduceBEq,reduceCtorEq,decide_eq_true_eq,ite_self,↓reduceIte,Zj7,Zdt,ZcI,oI,b2]
  exact hO _
 | succ n ih =>
  intro l xs hl hx
  have hL:=ZbP P hP hN k hk xs.length 3 0
  have b2:=Zao _ hL
  by_cases l0:l.length=0
  ·have l0:l=[]:=List.eq_nil_of_length_eq_zero l0
   subst l0
   refine ⟨fun ts h=>?_,fun e h=>by simp [ZaI] at h⟩
   have : ts=[]:=by simpa [ZaI] using h.symm
   subst this
   rw [List.append_nil]
   have hO:=Zjq (w:=1) (xs:=xs.map g) (r:=.tup []) rfl (Zbo P hP hN hk 3 0 xs.length []) (fun ρ h=>ZaJ P hP hN hk 3 0 xs.length 3 0 [] ρ h)
   unfold H3 ZaS
   rw [Z9]
   generalize Zi P k 3 0 xs.length=Q at *
   generalize xs.map g=ys at *
   simp -implicitDefEqProofs only [EQA,Nat.reduceAdd,Nat.reduceLT,Nat.reduceEqDiff,Nat.reduceBEq,reduceCtorEq,decide_eq_true_eq,ite_self,↓reduceIte,Zj7,Zdt,ZcI,oI,b2]
   exact hO _
  ·have z1:((l.length:Nat):Int) > 0:=by omega
   have z2:(0:Int) < ((l.length:Nat):Int):=by omega
   cases ho:one l with
   | error e =>
    refine ⟨fun ts h=>by simp [ZaI,l0,ho] at h,fun e' h=>?_⟩
    have : e'=e:=by simpa [ZaI,l0,ho] using h.symm
    subst this
    obtain ⟨r,hE⟩:=hF1 xs l e' (by omega) ho
    have hC:=ZuH (O:=E) (bf:=BY) (cs:=Zi P k 3 0 xs.length++[.lst false (l.map Zc)]) (cs3:=Zi P k 3 0 xs.length++[.lst false (r.map Zc)]) hby (Zbo P hP hN hk 3 0 xs.length l) (fun ρ h=>ZaJ P hP hN hk 3 0 xs.length 2 0 l ρ h) (q:=.pan (Zy e')) rfl (by omega) (fun ρ h=>ZaJ P hP hN hk 2 0 xs.length 3 0 r ρ h) hE
    have hO:=Zjq (w:=1) (xs:=xs.map g) (r:=.pan (Zy e')) rfl (Zbo P hP hN hk 3 0 xs.length r) (fun ρ h=>ZaJ P hP hN hk 3 0 xs.length 3 0 r ρ h)
    refine ⟨xs,r,?_⟩
    unfold H3 ZaS
    rw [Z9]
    clear hE hT1 hF1 ih
    generalize Zi P k 3 0 xs.length=Q at *
    generalize xs.map g=ys at *
    generalize Zy e'=ce at *
    simp -implicitDefEqProofs only [EQA,Nat.reduceAdd,Nat.reduceLT,Nat.reduceEqDiff,Nat.reduceBEq,reduceCtorEq,↓reduceIte,Zdt,ZcI,oI,b2,hC,hf,z1]
    exact hO _
   | ok s =>
    obtain ⟨s,r⟩:=s
    have hr:=hlen ho
    have hE:=hT1 xs l s r (by omega) (by omega) ho
    have hC:=ZuH (O:=E) (bf:=BY) (cs:=Zi P k 3 0 xs.length++[.lst false (l.map Zc)]) (cs3:=Zi P k 3 1 (xs.length+1)++[.lst false (r.map Zc)]) hby (Zbo P hP hN hk 3 0 xs.length l) (fun ρ h=>ZaJ P hP hN hk 3 0 xs.length 2 0 l ρ h) (q:=.tup []) rfl (by omega) (fun ρ h=>ZaJ P hP hN hk 2 1 (xs.length+1) 3 1 r ρ h) hE
    have hG:=ZsI (f:=f) (w:=1) (xs:=(xs++[s]).map g) (g:=1) (Zbo P hP hN hk 3 1 (xs.length+1) r) (by omega) (fun ρ h=>ZaJ P hP hN hk 3 1 (xs.length+1) 3 0 r ρ h)
    have step:ZaS 3 [(1,.fn f [.ref 1 0,.ref 2 0]),(0,.ref 0 0)] (H3 P k xs.length l (xs.map g))=ZaS 3 [(1,.fn f [.ref 1 0,.ref 2 0]),(0,.ref 0 0)] (H3 P k (xs++[s]).length r ((xs++[s]).map g)):=by
     rw [show (xs++[s]).length=xs.length+1 from by simp]
     unfold H3
     conv=>lhs;unfold ZaS
     conv=>rhs;unfold ZaS
     conv=>lhs;rw [Z9]
     clear hE hT1 hF1 ih
     generalize Zi P k 3 0 xs.length=Q at *
     generalize Zi P k 3 1 (xs.length+1)=Q2 at *
     generalize Zi P k 3 0 (xs.length+1)=Q3 at *
     generalize xs.map g=ys at *
     generalize (xs++[s]).map g=zs at *
     simp -implicitDefEqProofs only [EQA,Z7,Nat.reduceAdd,Nat.reduceLT,Nat.reduceEqDiff,Nat.reduceBEq,reduceCtorEq,↓reduceIte,Zdt,ZcI,oI,b2,hC,hG,hf,z1]
    obtain ⟨i1,i2⟩:=ih r (xs++[s]) (by omega) (by simp;omega)
    refine ⟨fun ts h=>?_,fun e h=>?_⟩
    ·rw [step]
     simp only [ZaI,l0,ho,if_false] at h
     cases hl2:ZaI one n r with
     | error e=>rw [hl2] at h;cases h
     | ok us =>
      rw [hl2] at h
      injection h with h;subst h
      have:=i1 us hl2
      rw [List.append_assoc,List.singleton_append] at this
      exact this
    ·rw [step]
     simp only [ZaI,l0,ho,if_false] at h
     cases hl2:ZaI one n r with
     | error e2 =>
      rw [hl2] at h
      injection h with h;subst h
      exact i2 e2 hl2
     | ok us=>rw [hl2] at h;cases h
end
end
section
open Go.RowKit
def ZeJ (m i j:Nat) (rs:List Zco) (σ:Za):Option (AVal×Za):=match resA [(3,.ref j 0),(2,.ref i 0)] σ rs with
 | some r=>Zak m σ r
 | none=>none
noncomputable def Zfd (fs:Nat->Option ZE) (prim:Zcb) (bf:Nat->Bool) (tc:Nat) (c2 c3:Zf) (rs:List Zco) (m:Nat) (tm1:Tms) (σ1:Za) (i j:Nat):Option (AVal×Za) :=
 match evC fs prim bf σ1.length c2 tm1 σ1 with
 | some (.ret,_,σ2)=>ZeJ m i j rs σ2
 | some (.panic (.iface t x),_,σ2)=>if t=tc then match evC fs prim bf σ1.length c3 [(10,x),(1,.ref j 0),(0,.ref i 0)] σ2 with
  | some (.normal,_,σ3)=>ZeJ m i j rs σ3
  | _=>none
  else none
 | _=>none
noncomputable def ZgV (fs:Nat->Option ZE) (prim:Zcb) (bf:Nat->Bool) (tc:Nat) (c1 c2 c3:Zf) (rs:List Zco) (args:List AVal) (σ:Za):Option (AVal×Za) :=
 match evC fs prim bf σ.length c1 (enterA 0 args []) σ with
 | some (.normal,tm1,σ1)=>match tget tm1 2,tget tm1 3 with
  | .ref i 0,.ref j 0=>if σ.length<=σ1.length/\i < σ1.length/\j < σ1.length then Zfd fs prim bf tc c2 c3 rs σ.length (tput tm1 (some 5) .top) σ1 i j else none
  | _,_=>none
 | _=>none
structure Zkz (P:Program) (f h:FuncId) (ti tc:TypeId) (an1 an2 an3:Ann) (c1 c2 c3:Zf) (rs:List Zco):Prop where
 ex:∃ (F H:Func) (b1 b2 b3 b4:Code) (i0 j0 j1 j2 j3 bid:Nat) (t1 t2 t3 t4 t5 t6 t7 t8:TypeId) (p1 p2 p3 p4 p5 p6 p7 p8:String) (a1 a2 a3 a4 a5 a6 a7 a8:Array Edge) (at1 at2:Array TypeId) (ims:Array (String×TypeId)) (k:IntKind),
  P.funcs[f]?=some F/\(F.name == "runtime.NumGoroutine")=false/\F.ntmps=20/\Zew P F.results.toList=some rs /\
  F.body=some (.seq b1 (.seq (.region i0 #[⟨some 5,.makeFunc (.func h) #[] #[.tmp 2,.tmp 3],t1,p1,a1,none⟩,⟨none,.defer ⟨.value (.tmp 5),#[],at1⟩,t2,p2,a2,none⟩] false) b2)) /\
  Zcp (ZaK P an1 b1)=c1/\Zcp (ZaK P an2 b2)=c2/\an1.nt=20/\an2.nt=20/\an2.keep=[2,3] /\
  P.funcs[h]?=some H/\(H.name == "runtime.NumGoroutine")=false/\H.ntmps=13/\H.results=#[] /\
  H.body=some (.seq (.region j0 #[⟨some 5,.call ⟨.builtin .recover,#[],at2⟩,t3,p3,a3,none⟩] false) (.block bid (.seq (.region j1 #[⟨some 7,.binOp .eql ti (.tmp 5) (.const .nilIface) ti,t4,p4,a4,none⟩] false)
   (.cond (.tmp 7) (.region j2 #[⟨some 2,.assign (.tmp 5),t5,p5,a5,none⟩] false)
    (.seq (.region j3 #[⟨some 8,.typeAssert (.tmp 5) ti tc true,t6,p6,a6,none⟩,⟨some 9,.extract (.tmp 8) 1,t7,p7,a7,none⟩,⟨some 10,.extract (.tmp 8) 0,t8,p8,a8,none⟩] false)
     (.cond (.tmp 9) b3 b4)))))) /\
  Zcp (ZaK P an3 b3)=c3/\an3.nt=13/\P.underlying ti=some (.interface ims)/\P.underlying tc=some (.int k)
section
variable {P:Program} {O:ZL} {bf:Nat->Bool} {base:Nat->Prop} {w0 w:World} {I0 I:Imm} {β:Bmap} {σ:Za}
theorem Zhu {m:Nat} {I':Imm} {β':Bmap} {i:Nat} {v:Value} (hk:KeptE m β β') (hi:i < m) (h:VR I β (.ref i 0) v):VR I' β' (.ref i 0) v:=by
 simp only [VR] at h ⊢
 obtain ⟨b,k,c,h1,h2⟩:=h
 exact ⟨b,k,c,hk i hi _ h1,h2⟩
theorem Zts {F:Func} {rs:List Zco} (hrs:Zew P F.results.toList=some rs) {m i j:Nat} {tmps:Array Value} {I':Imm} {β':Bmap} {σ' σ2:Za} {w':World} {r:AVal} (hI:I.le I') (hk:KeptE m β β') (R:Rel base w0 I0 I' β' σ2 w') (h2:VR I' β' (.ref i 0) (tmps.getD 2 undef)) (h3:VR I' β' (.ref j 0) (tmps.getD 3 undef)) (h:ZeJ m i j rs σ2=some (r,σ')) :
  ∃ v,(results F tmps).run P w'=.ok v w'/\∃ u,Ends r (.returned v) u/\ZbR m base w0 I0 I β r σ' u w':=by
 unfold ZeJ at h
 split at h
 ·rename_i x hx
  have T:TR I' β' [(3,.ref j 0),(2,.ref i 0)] tmps:=by
   intro n
   simp only [tget]
   split
   ·rename_i e;subst e;exact h3
   ·split
    ·rename_i e;subst e;exact h2
    ·simp only [VR]
  obtain ⟨v,q1,q2⟩:=Zuj T R hrs hx
  have hnp:∀ y,x≠.pan y:=by rintro y rfl;simp only [VR] at q2
  obtain ⟨p1,p2⟩:=ZjO (⟨I',β',hI,hk,R,by rw [ZfH hnp];exact q2⟩:ZbR m base w0 I0 I β x σ2 v w') h
  refine ⟨v,q1,v,p2 _ ?_,p1⟩
  cases x <;> first | rfl | exact absurd rfl (hnp _)
 ·cases h
theorem pgs {a:Act} {d:Nat} {u:Value} (h:d < a.tmps.size):(a.put (some d) u).tmps.getD d undef=u:=by
 simp [Act.put,Array.getD,h]
theorem ZgD {m:Sem Value} {u:Value} (h:m.run P w=.ok u w):(do let q <-m;pure (Next.value q):Sem Next).run P w=.ok (.value u) w:=by
 rw [Sem.run_bind,h];rfl
theorem pgn {a:Act} {d j:Nat} {u:Value} (h:d≠j):(a.put (some d) u).tmps.getD j undef=a.tmps.getD j undef:=by
 simp only [Act.put,Array.getD_eq_getD_getElem?]
 rw [Array.getElem?_setIfInBounds_ne h]
theorem Zwu (hm:P.follows .mixedOrders=true) (hO:Zaw P O) {f h:FuncId} {ti tc:TypeId} {an1 an2 an3:Ann} {c1 c2 c3:Zf} {rs:List Zco} (D:Zkz P f h ti tc an1 an2 an3 c1 c2 c3 rs) (hb:KLt base w0) (R:Rel base w0 I0 I β σ w)
  {i j m n:Nat} {x:AVal} {v2 v3 v:Value} (h2:VR I β (.ref i 0) v2) (h3:VR I β (.ref j 0) v3) (hv:VR I β x v) {tm':Tms} {σ':Za} (hx:Z0 O bf m n c3 [(10,x),(1,.ref j 0),(0,.ref i 0)] σ=some (.normal,tm',σ')) :
  CallsD P h #[v2,v3] (.panicking [{ v:=.iface tc v,recovered:=false }]) w fun e u' w'=>e=.returned (.tuple #[])/\u'=.panicking [{ v:=.iface tc v,recovered:=true }]/\∃ I' β',I.le I'/\KeptE m β β'/\Rel base w0 I0 I' β' σ' w':=by
 obtain ⟨F,H,b1,b2,b3,b4,i0,j0,j1,j2,j3,bid,t1,t2,t3,t4,t5,t6,t7,t8,p1,p2,p3,p4,p5,p6,p7,p8,a1,a2,a3,a4,a5,a6,a7,a8,at1,at2,ims,k,hF,hname,hnt,hrs,hbody,hc1,hc2,hn1,hn2,hk2,hH,hHname,hHn,hHr,hHb,hc3,hn3,hti,htc⟩:=D.ex
 refine callsD_of_wpS hH hHb fun c₀ cs hu=>?_
 apply wpS_seq
 apply wpS_region
 simp [wpOpsS,go_sem,recoverD,hu,hHn,Exit.thenS]
 refine wpS_of_wp ?_
 generalize hT:(#[v2,v3]++(Array.replicate 11 undef).setIfInBounds 3 (Value.iface tc v))=T
 have hs:T.size=13:=by rw [<-hT];simp
 have hT0:T.getD 0 undef=v2:=by rw [<-hT];simp [Array.getD]
 have hT1:T.getD 1 undef=v3:=by rw [<-hT];simp [Array.getD]
 have hT5:T.getD 5 undef=.iface tc v:=by rw [<-hT];simp [Array.getD]
 clear hT
 refine wp_block (wp_seq (wp_region_list (Zd4 rfl ?_)))
 unfold Oper.wp
 have e1:∀ o:Oper,o.op=.binOp .eql ti (.tmp 5) (.const .nilIface) ti->(execOp ({ tmps:=T,defers:=[] }:Act).eval o).run P w=.ok (.value (.bool false)) w:=by
  intro o ho
  unfold execOp;rw [ho]
  simp only [Act.eval,hT5]
  exact ZgD (ZqU (P:=P) (w:=w) (t1:=tc) (u:=v) hti false (op:=.eql) (.tmp 5) .nilIface rfl)
 rw [e1 _ rfl,Oper.upon_value]
 refine wpList_nil ?_
 simp only [Exit.then]
 refine wp_cond_false (by simp only [Act.eval];exact pgs (by simp [hs])) ?_
 refine wp_seq (wp_region_list (Zd4 rfl ?_))
 unfold Oper.wp
 generalize hA1:({ tmps:=T,defers:=[] }:Act).put (some 7) (.bool false)=A1
 have hs1:A1.tmps.size=13:=by rw [<-hA1,Zd8];exact hs
 have g1:∀ j,j≠7->A1.tmps.getD j undef=T.getD j undef:=by intro j hj;rw [<-hA1];exact pgn (by omega)
 have hd1:A1.defers=[]:=by rw [<-hA1];rfl
 have e2:∀ o:Oper,o.op=.typeAssert (.tmp 5) ti tc true->(execOp A1.eval o).run P w=.ok (.value (.tuple #[v,.bool true])) w:=by
  intro o ho
  unfold execOp;rw [ho]
  simp only [Act.eval,g1 5 (by omega),hT5]
  refine ZgD ?_
  simp [Instr.typeAssert,underlying,htc]
 rw [e2 _ rfl,Oper.upon_value]
 generalize hA2:A1.put (some 8) (.tuple #[v,.bool true])=A2
 have hs2:A2.tmps.size=13:=by rw [<-hA2,Zd8];exact hs1
 have g2:∀ j,j≠8->A2.tmps.getD j undef=A1.tmps.getD j undef:=by intro j hj;rw [<-hA2];exact pgn (by omega)
 have g28:A2.tmps.getD 8 undef=.tuple #[v,.bool true]:=by rw [<-hA2];exact pgs (by omega)
 have hd2:A2.defers=[]:=by rw [<-hA2];exact hd1
 refine Zd4 rfl ?_
 unfold Oper.wp
 have e3:∀ o:Oper,o.op=.extract (.tmp 8) 1->(execOp A2.eval o).run P w=.ok (.value (.bool true)) w:=by
  intro o ho
  unfold execOp;rw [ho]
  simp only [Act.eval,g28]
  refine ZgD ?_
  simp [Instr.extract]
 rw [e3 _ rfl,Oper.upon_value]
 generalize hA3:A2.put (some 9) (.bool true)=A3
 have hs3:A3.tmps.size=13:=by rw [<-hA3,Zd8];exact hs2
 have g3:∀ j,j≠9->A3.tmps.getD j undef=A2.tmps.getD j undef:=by intro j hj;rw [<-hA3];exact pgn (by omega)
 have g39:A3.tmps.getD 9 undef=.bool true:=by rw [<-hA3];exact pgs (by omega)
 have hd3:A3.defers=[]:=by rw [<-hA3];exact hd2
 refine Zd4 rfl ?_
 unfold Oper.wp
 have e4:∀ o:Oper,o.op=.extract (.tmp 8) 0->(execOp A3.eval o).run P w=.ok (.value v) w:=by
  intro o ho
  unfold execOp;rw [ho]
  simp only [Act.eval,g3 8 (by omega),g28]
  refine ZgD ?_
  simp [Instr.extract]
 rw [e4 _ rfl,Oper.upon_value]
 generalize hA4:A3.put (some 10) v=A4
 have hs4:A4.tmps.size=13:=by rw [<-hA4,Zd8];exact hs3
 have g4:∀ j,j≠10->A4.tmps.getD j undef=A3.tmps.getD j undef:=by intro j hj;rw [<-hA4];exact pgn (by omega)
 have g410:A4.tmps.getD 10 undef=v:=by rw [<-hA4];exact pgs (by omega)
 have hd4:A4.defers=[]:=by rw [<-hA4];exact hd3
 refine wpList_nil ?_
 simp only [Exit.then]
 refine wp_cond_true (by simp only [Act.eval];rw [g4 9 (by omega),g39]) ?_
 have hst:StF ZbG m an3.nt base w0 I0 I β [(10,x),(1,.ref j 0),(0,.ref i 0)] σ A4 w:=by
  refine ⟨I,β,Imm.le.refl I,KeptE.refl _ β,fun n=>?_,⟨ZeQ.2 hd4,by rw [hs4,hn3];omega⟩,R⟩
  simp only [tget]
  split
  ·rename_i e;subst e;rw [g410];exact hv
  ·split
   ·rename_i e;subst e;rw [g4 1 (by omega),g3 1 (by omega),g2 1 (by omega),g1 1 (by omega),hT1];exact h3
   ·split
    ·rename_i e;subst e;rw [g4 0 (by omega),g3 0 (by omega),g2 0 (by omega),g1 0 (by omega),hT0];exact h2
    ·simp only [VR]
 rw [<-hc3,ZdF] at hx
 refine ZhU (dr:=ZbG) (an:=an3) hO (fun n hn=>by simp [ZbG] at hn) hm hb m n rfl hst hx ?_
 intro a' w' ⟨I',β',k1,k2,k3,k4,k5⟩
 simp only [Exit.inBlock,bodyPostS]
 refine ⟨ZeQ.1 k4.1,_,rfl,.tuple #[],?_,rfl,rfl,I',k1,β',k2,k5⟩
 simp [results,hHr]
theorem ZCL {f h:FuncId} {ti tc:TypeId} {an1 an2 an3:Ann} {c1 c2 c3:Zf} {rs:List Zco} (D:Zkz P f h ti tc an1 an2 an3 c1 c2 c3 rs) {v2 v3:Value} {w:World} :
  CallsD P h #[v2,v3] .returning w fun e u' w'=>e=.returned (.tuple #[])/\u'=.returning/\w'=w:=by
 obtain ⟨F,H,b1,b2,b3,b4,i0,j0,j1,j2,j3,bid,t1,t2,t3,t4,t5,t6,t7,t8,p1,p2,p3,p4,p5,p6,p7,p8,a1,a2,a3,a4,a5,a6,a7,a8,at1,at2,ims,k,hF,hname,hnt,hrs,hbody,hc1,hc2,hn1,hn2,hk2,hH,hHname,hHn,hHr,hHb,hc3,hn3,hti,htc⟩:=D.ex
 refine callsD_of_wpS hH hHb fun c₀ cs hu=>?_
 apply wpS_seq
 apply wpS_region
 simp [wpOpsS,go_sem,recoverD,hu,hHn,Exit.thenS]
 refine wpS_of_wp ?_
 generalize hT:(#[v2,v3]++(Array.replicate 11 undef).setIfInBounds 3 Value.nilIface)=T
 have hs:T.size=13:=by rw [<-hT];simp
 have hT5:T.getD 5 undef=.nilIface:=by rw [<-hT];simp [Array.getD]
 clear hT
 refine wp_block (wp_seq (wp_region_list (Zd4 rfl ?_)))
 unfold Oper.wp
 have e1:∀ o:Oper,o.op=.binOp .eql ti (.tmp 5) (.const .nilIface) ti->(execOp ({ tmps:=T,defers:=[] }:Act).eval o).run P w=.ok (.value (.bool true)) w:=by
  intro o ho
  unfold execOp;rw [ho]
  simp only [Act.eval,hT5]
  exact ZgD (ZqF (P:=P) (w:=w) hti false (op:=.eql) (.tmp 5) .nilIface rfl)
 rw [e1 _ rfl,Oper.upon_value]
 refine wpList_nil ?_
 simp only [Exit.then]
 refine wp_cond_true (by simp only [Act.eval];exact pgs (by simp [hs])) ?_
 refine wp_region_list (Zd4 rfl ?_)
 unfold Oper.wp
 generalize hA1:({ tmps:=T,defers:=[] }:Act).put (some 7) (.bool true)=A1
 have g1:∀ j,j≠7->A1.tmps.getD j undef=T.getD j undef:=by intro j hj;rw [<-hA1];exact pgn (by omega)
 have hd1:A1.defers=[]:=by rw [<-hA1];rfl
 have e2:∀ o:Oper,o.op=.assign (.tmp 5)->(execOp A1.eval o).run P w=.ok (.value .nilIface) w:=by
  intro o ho
  unfold execOp;rw [ho]
  simp [Act.eval,g1 5 (by omega),hT5]
 rw [e2 _ rfl,Oper.upon_value]
 refine wpList_nil ?_
 simp only [Exit.inBlock,bodyPostS]
 refine ⟨hd1,.returning,?_,.tuple #[],?_,rfl,rfl,trivial⟩
 ·cases c₀;simp_all
 ·simp [results,hHr]
end
section
variable {P:Program} {fs:Nat->Option ZE} {prim:Zcb} {bf:Nat->Bool}
theorem ZAO (hm:P.follows .mixedOrders=true) (hO:∀ n,Zaw P (Zaq fs prim bf n)) {f h:FuncId} {ti tc:TypeId} {an1 an2 an3:Ann} {c1 c2 c3:Zf} {rs:List Zco} (D:Zkz P f h ti tc an1 an2 an3 c1 c2 c3 rs)
  {args:List AVal} {σ σ':Za} {r:AVal} (hg:ZgV fs prim bf tc c1 c2 c3 rs args σ=some (r,σ')) :
  (∃ fn,P.funcs[f]?=some fn/\fn.body.isSome=true/\(fn.name == "runtime.NumGoroutine")=false) /\
  ∀ base w0 I0 I β w (vs:Array Value),KLt base w0->Rel base w0 I0 I β σ w->VRs I β args vs.toList ->
   Calls P f vs w (fun e w'=>∃ u,Ends r e u/\ZbR σ.length base w0 I0 I β r σ' u w'):=by
 obtain ⟨F,H,b1,b2,b3,b4,i0,j0,j1,j2,j3,bid,t1,t2,t3,t4,t5,t6,t7,t8,p1,p2,p3,p4,p5,p6,p7,p8,a1,a2,a3,a4,a5,a6,a7,a8,at1,at2,ims,k,hF,hname,hnt,hrs,hbody,hc1,hc2,hn1,hn2,hk2,hH,hHname,hHn,hHr,hHb,hc3,hn3,hti,htc⟩:=D.ex
 refine ⟨⟨F,hF,by rw [hbody];rfl,hname⟩,?_⟩
 intro base w0 I0 I β w vs hb R hargs
 unfold ZgV at hg
 split at hg
 case h_2=>cases hg
 rename_i tm1 σ1 hx1
 split at hg
 case h_2=>cases hg
 rename_i i j hi hj
 split at hg
 case isFalse=>cases hg
 rename_i hlen
 obtain ⟨hl0,hli,hlj⟩:=hlen
 obtain ⟨n1,hx1⟩:=Zbd.1 hx1
 rw [<-hc1,ZdF] at hx1
 refine calls_of_wp_defers hF hbody ?_
 have T:=ZoC hargs (F.ntmps - vs.size)
 have hst:StF ZbG σ.length an1.nt base w0 I0 I β (enterA 0 args []) σ { tmps:=vs++Array.replicate (F.ntmps - vs.size) undef,defers:=[] } w:=⟨I,β,Imm.le.refl I,KeptE.refl _ β,T,⟨ZeQ.2 rfl,by rw [hn1];simp;omega⟩,R⟩
 refine wp_seq ?_
 refine ZhU (dr:=ZbG) (an:=an1) (hO n1) (fun n hn=>by simp [ZbG] at hn) hm hb σ.length n1 rfl hst hx1 ?_
 rintro A0 w1 ⟨I1,β1,g1,g2,T1,⟨gd,gs⟩,R1⟩
 have gd:=ZeQ.1 gd
 rw [hn1] at gs
 simp only [Exit.then]
 refine wp_seq (wp_region_list (Zd4 rfl ?_))
 unfold Oper.wp
 have e1:∀ o:Oper,o.op=.makeFunc (.func h) #[] #[.tmp 2,.tmp 3]->(execOp A0.eval o).run P w1=.ok (.value (.func (.func h) #[] #[A0.tmps.getD 2 undef,A0.tmps.getD 3 undef])) w1:=by
  intro o ho
  unfold execOp;rw [ho]
  refine ZgD ?_
  simp [Instr.makeFunc,Act.eval]
 rw [e1 _ rfl,Oper.upon_value]
 generalize hv2:A0.tmps.getD 2 undef=v2
 generalize hv3:A0.tmps.getD 3 undef=v3
 have hr2:VR I1 β1 (.ref i 0) v2:=by rw [<-hv2,<-hi];exact T1 2
 have hr3:VR I1 β1 (.ref j 0) v3:=by rw [<-hv3,<-hj];exact T1 3
 generalize hA1:A0.put (some 5) (.func (.func h) #[] #[v2,v3])=A1
 have hs1:A1.tmps.size=A0.tmps.size:=by rw [<-hA1,Zd8]
 have q1:∀ j,j≠5->A1.tmps.getD j undef=A0.tmps.getD j undef:=by intro j hj;rw [<-hA1];exact pgn (by omega)
 have q5:A1.tmps.getD 5 undef=.func (.func h) #[] #[v2,v3]:=by rw [<-hA1];exact pgs (by omega)
 have hd1:A1.defers=[]:=by rw [<-hA1];exact gd
 refine Zd4 rfl ?_
 unfold Oper.wp
 have e2:∀ o:Oper,o.op=.defer ⟨.value (.tmp 5),#[],at1⟩->(execOp A1.eval o).run P w1=.ok (.defer ⟨.fn (.func h) #[v2,v3],#[]⟩) w1:=by
  intro o ho
  unfold execOp;rw [ho]
  simp [resolve,Act.eval,q5,Deferred.ofValue]
 rw [e2 _ rfl,Oper.upon_defer]
 refine wpList_nil ?_
 simp only [Exit.then]
 generalize hd:(⟨.fn (.func h) #[v2,v3],#[]⟩:Deferred)=d
 have hA2:({ A1 with defers:=d::A1.defers }:Act).put none undef={ A1 with defers:=[d] }:=by rw [hd1];rfl
 rw [hA2]
 let dr:Door:=⟨[d],[2,3],fun n=>if n=2 then v2 else v3⟩
 have hdr:dr.ok { A1 with defers:=[d] }:=by
  refine ⟨rfl,fun j hj=>?_⟩
  simp only [dr,List.mem_cons,List.not_mem_nil,or_false] at hj
  rcases hj with rfl | rfl
  ·show A1.tmps.getD 2 undef=_;rw [q1 2 (by omega),hv2];rfl
  ·show A1.tmps.getD 3 undef=_;rw [q1 3 (by omega),hv3];rfl
 have T2:TR I1 β1 (tput tm1 (some 5) .top) A1.tmps:=by
  rw [<-hA1]
  exact ZpN T1 (by simp only [VR]) (fun n hn=>by injection hn with hn;omega)
 unfold Zfd at hg
 have hst2:StF dr σ1.length an2.nt base w0 I0 I1 β1 (tput tm1 (some 5) .top) σ1 { A1 with defers:=[d] } w1:=⟨I1,β1,Imm.le.refl I1,KeptE.refl _ β1,T2,⟨hdr,by rw [hn2];show 20<=A1.tmps.size;omega⟩,R1⟩
 have lift:∀ {I':Imm} {β':Bmap},I1.le I'->KeptE σ1.length β1 β'->I.le I'/\KeptE σ.length β β':=fun h1 h2=>⟨g1.trans h1,g2.trans (fun t ht bi e=>h2 t (by omega) bi e)⟩
 have hinv:∀ w:World,(invoke (.fn (.func h) #[v2,v3]) #[]).run P w=.ok (.enter h #[v2,v3]) w:=fun w=>by
  unfold invoke
  simpa using Zje (args:=#[v2,v3]) (w:=w) hH (by rw [hHb];rfl) hHname
 have tm2:∀ {A:Act},dr.ok A->A.tmps.getD 2 undef=v2/\A.tmps.getD 3 undef=v3:=fun hA=>⟨hA.2 2 (by simp [dr]),hA.2 3 (by simp [dr])⟩
 split at hg
 case h_3=>cases hg
 ·rename_i tmx σ2 hx2
  obtain ⟨n2,hx2⟩:=Zbd.1 hx2
  rw [<-hc2,ZdF] at hx2
  refine ZhU (dr:=dr) (an:=an2) (hO n2) (fun n hn=>by rw [hk2];exact hn) hm hb σ1.length n2 rfl hst2 hx2 ?_
  rintro A3 w3 ⟨I3,β3,k1,k2,T3,⟨kd,ks⟩,R3⟩
  show Leaves P F A3.tmps _ A3.defers .returning w3
  rw [kd.1]
  show Leaves P F A3.tmps _ [d] .returning w3
  rw [<-hd]
  refine leaves_cons (f:=h) (args:=#[v2,v3]) (by simp) (hinv w3) ?_
  refine (ZCL D).mono ?_
  rintro e u' w' ⟨rfl,rfl,rfl⟩
  simp only [settle,Leaves]
  obtain ⟨l1,l2⟩:=lift k1 k2
  exact Zts hrs l1 l2 R3 (by rw [(tm2 kd).1];exact Zhu k2 hli hr2) (by rw [(tm2 kd).2];exact Zhu k2 hlj hr3) hg
 ·rename_i t x tmx σ2 hx2
  split at hg
  case isFalse=>cases hg
  rename_i ht
  subst ht
  split at hg
  case h_2=>cases hg
  rename_i tmy σ3 hx3
  obtain ⟨n2,hx2⟩:=Zbd.1 hx2
  rw [<-hc2,ZdF] at hx2
  obtain ⟨n3,hx3⟩:=Zbd.1 hx3
  refine ZhU (dr:=dr) (an:=an2) (hO n2) (fun n hn=>by rw [hk2];exact hn) hm hb σ1.length n2 rfl hst2 hx2 ?_
  rintro A3 u w3 kd ⟨I3,β3,k1,k2,R3,kv⟩
  simp only [ZaN,VR] at kv
  obtain ⟨v,rfl,kv⟩:=kv
  show Leaves P F A3.tmps _ A3.defers (.panicking [{ v:=.iface t v,recovered:=false }]) w3
  rw [kd.1]
  show Leaves P F A3.tmps _ [d] _ w3
  rw [<-hd]
  refine leaves_cons (f:=h) (args:=#[v2,v3]) (by simp) (hinv w3) ?_
  refine (Zwu hm (hO n3) D hb R3 (Zhu k2 hli hr2) (Zhu k2 hlj hr3) kv hx3).mono ?_
  rintro e u' w' ⟨rfl,rfl,I4,β4,m1,m2,R4⟩
  simp only [settle,List.dropWhile,Leaves]
  have k3:=k2.trans m2
  obtain ⟨l1,l2⟩:=lift (k1.trans m1) k3
  exact Zts hrs l1 l2 R4 (by rw [(tm2 kd).1];exact Zhu k3 hli hr2) (by rw [(tm2 kd).2];exact Zhu k3 hlj hr3) hg
end
section
variable {fs:Nat->Option ZE} {p p':Zcb} {bf:Nat->Bool}
theorem Ztj (h0:∀ f,p f=none->p' f=none) (h1:∀ f g,p f=some g->p' f=some g\/∀ a σ,g a σ=none):∀ n,OLe (Zaq fs p bf n) (Zaq fs p' bf n)
 | 0=>by intro f a σ r h;simp only [Zaq] at h;cases h
 | n+1=>by
  intro f a σ r h
  rw [Zaq] at h ⊢
  split at h
  ·rename_i g hg
   rcases h1 f g hg with h2 | h2
   ·rw [h2];exact h
   ·rw [h2] at h;cases h
  ·rename_i hg
   rw [h0 f hg]
   split at h
   ·cases h
   ·rename_i fn hfn
    exact Zlt (fun q hq=>Zds (Ztj h0 h1 n) (Nat.le_refl n) hq) h
theorem ZGA (h0:∀ f,p f=none->p' f=none) (h1:∀ f g,p f=some g->p' f=some g\/∀ a σ,g a σ=none):OLe (EV fs p bf) (EV fs p' bf):=by
 intro f a σ r h
 obtain ⟨n,hn⟩:=Zc8.1 h
 exact Zc8.2 ⟨n,Ztj h0 h1 n f a σ r hn⟩
end
end
section
open Go.Shelf
def ZJU:Ren:=⟨fun | 196=>139 | 259=>147 | n=>n,fun | 9=>9 | 4=>4 | 3=>3 | 5=>5 | 12=>12 | 119=>183 | 0=>0 | 46=>68 | 139=>186 | 138=>185 | 53=>122 | n=>n,fun | 3=>1 | 4=>2 | n=>n⟩
theorem ZrP:Go.Proofs.Lays.n196 Tryz.prog ZJU:={ mixed:=by kernel_rfl,f196:=Tryz.func139.trans (congrArg some (by kernel_rfl)),f259:=Tryz.func147.trans (congrArg some (by kernel_rfl)),t0:=Tryz.underlying0,a0:=Tryz.isAgg0,z0:=Tryz.sizeOf0,v0:=Tryz.zeroValue0,t3:=Tryz.underlying3,a3:=Tryz.isAgg3,z3:=Tryz.sizeOf3,v3:=Tryz.zeroValue3,t4:=Tryz.underlying4,a4:=Tryz.isAgg4,z4:=Tryz.sizeOf4,v4:=Tryz.zeroValue4,t5:=Tryz.underlying5,a5:=Tryz.isAgg5,z5:=Tryz.sizeOf5,v5:=Tryz.zeroValue5,t9:=Tryz.underlying9,a9:=Tryz.isAgg9,z9:=Tryz.sizeOf9,v9:=Tryz.zeroValue9,t12:=Tryz.underlying12,a12:=Tryz.isAgg12,z12:=Tryz.sizeOf12,v12:=Tryz.zeroValue12,t46:=Tryz.underlying68,a46:=Tryz.isAgg68,z46:=Tryz.sizeOf68,v46:=Tryz.zeroValue68,t53:=Tryz.underlying122,a53:=Tryz.isAgg122,z53:=Tryz.sizeOf122,v53:=Tryz.zeroValue122,t119:=Tryz.underlying183,a119:=Tryz.isAgg183,z119:=Tryz.sizeOf183,t138:=Tryz.underlying185,a138:=Tryz.isAgg185,z138:=Tryz.sizeOf185,v138:=Tryz.zeroValue185,t139:=Tryz.underlying186,a139:=Tryz.isAgg186,z139:=Tryz.sizeOf186,v139:=Tryz.zeroValue186,g3:=by kernel_rfl,g4:=by kernel_rfl }
end
section
set_option maxRecDepth 100000
theorem Zjd:Tryz.prog.follows .mixedOrders=true:=by kernel_rfl
theorem ZIx:Zuv Tryz.prog 22 1 1 (.int .u8 0) 98:=⟨_,_,_,_,_,_,_,_,_,_,_,rfl,rfl,rfl,by kernel_rfl,rfl,rfl,rfl,rfl,rfl,rfl,rfl,rfl,by kernel_rfl,by kernel_rfl,⟨_,_,_,_,rfl⟩,rfl,by decide⟩
theorem ZuB {α:Type} {d v:α}:∀ {l:List (Nat×α)} {n:Nat},Zer d l n=v->v=d\/(n,v) ∈ l
 | [],n,h=>Or.inl h.symm
 | (k,w)::r,n,h=>by
  simp only [Zer] at h
  split at h
  ·rename_i e;subst e h;exact Or.inr (by simp)
  ·rcases ZuB h with h | h
   ·exact Or.inl h
   ·exact Or.inr (by simp [h])
theorem ZrL:Zkf Tryz.prog PR:=by
 intro f g h args σ r σ' hg
 rcases ZuB h with h | h
 ·cases h
 unfold Zq8 at h
 simp only [List.mem_cons,Prod.mk.injEq,Option.some.injEq,List.not_mem_nil,or_false] at h
 rcases h with ⟨rfl,rfl⟩ | h
 ·exact ZLA Zjd ZIx hg
 rcases h with ⟨rfl,rfl⟩ | h
 ·exact ZBj ⟨Tryz.f139,Tryz.func139,by kernel_rfl,by kernel_rfl⟩ (fun s w hs hT=>Any.utf8_ValidString ZrP s w hs hT) hg
 rcases h with ⟨rfl,rfl⟩ | h
 ·exact Zsx hg
 rcases h with ⟨rfl,rfl⟩ | h
 ·exact Zsx hg
 exact absurd h.2 (by simp)
end
section
def ZbN:Nat:=70368744177664
def ZgG (args:List AVal) (σ:Za):Option (AVal×Za):=match args,σ with
 | [.ref 0 0,.lst _ ys],[.var [.lst true [],.int .i64 0,.int .i8 _]] =>
  if ys.length<=ZbN/\kOk 1 ys=true then some (.tup [.int .i64 ys.length,.nili],[.var [.sl 1 0 0 ys.length,.int .i64 0,.int .i8 0],.row 0 1 ys]) else none
 | [.ref 0 0,.lst _ ys],[.var [.sl 1 g 0 m,.int .i64 0,.int .i8 _],.row g' 1 xs] =>
  if g=g'/\m=xs.length/\xs.length+ys.length<=ZbN/\kOk 1 ys=true then some (.tup [.int .i64 ys.length,.nili],[.var [.sl 1 (g+1) 0 (xs++ys).length,.int .i64 0,.int .i8 0],.row (g+1) 1 (xs++ys)]) else none
 | _,_=>none
end
section
set_option maxRecDepth 100000
def c1R:Zf :=  (.region [⟨(some 1),(.box (.t 0)),none,[]⟩,⟨(some 2),(.alloc [(.int .i64 0),(.bool false),(.int .i64 0),(.bool false),(.int .i64 0),(.str []),(.lst true []),(.int .i64 0),(.lst true []),(.lst true []),(.lst true []),(.lst true []),(.bool false),(.int .i64 0),(.str []),(.bool false),(.str []),(.lst true []),(.int .i64 0),(.bool false),(.lst true []),(.bool false),(.str []),(.bool false),(.lst true []),(.bool false)]),none,[]⟩,⟨(some 3),(.alloc [(.int .i64 0)]),none,[]⟩] none [3,2,1])
def c2R:Zf:=(.seq (.region [⟨(some 6),(.faddr 1 (.t 1)),none,[]⟩,⟨(some 7),(.ld none (.t 6)),none,[]⟩,⟨(some 8),(.build [(.int .i64 0),(.bool false),(.int .i64 0),(.bool false),(.int .i64 0),(.str []),(.lst true []),(.int .i64 0),(.lst true []),(.lst true []),(.lst true []),(.lst true []),(.bool false),(.int .i64 0),(.str []),(.bool false),(.str []),(.lst true []),(.int .i64 0),(.bool false),(.lst true []),(.bool false),(.str []),(.bool false),(.lst true []),(.bool false),(.lst true [])] [(26,1,(.t 7))]),none,[]⟩,⟨(some 9),(.box (.t 8)),none,[]⟩,⟨(some 4),(.mov (.t 9)),none,[]⟩] none [4,3,2,1]) (.seq (.region [⟨(some 10),(.mov (.t 4)),none,[]⟩,⟨(some 11),(.faddr 0 (.t 1)),none,[]⟩,⟨(some 12),(.ld none (.t 11)),none,[]⟩,⟨(some 13),(.call 26 0 true [(.t 10),(.t 12)]),none,[]⟩] none [4,3,2]) (.seq (.region [⟨(some 14),(.mov (.t 4)),none,[]⟩,⟨(some 15),(.call 27 1 true [(.t 14)]),none,[]⟩] none [4,3,2]) (.seq (.region [⟨(some 16),(.mov (.t 4)),none,[]⟩,⟨(some 17),(.nilchk (.t 16)),none,[]⟩,⟨(some 18),(.faddr 0 (.t 17)),none,[]⟩,⟨(some 19),(.ld (some 26) (.t 18)),none,[]⟩,⟨none,(.st 26 (.t 2) (.t 19)),none,[]⟩,⟨none,(.st 1 (.t 3) (.c (.int .i64 0))),none,[]⟩] none [3,2]) .ret))))
def c3R:Zf:=(.seq (.region [⟨(some 3),(.mov (.t 10)),none,[]⟩] none [3,1,0]) (.region [⟨(some 11),(.build [(.int .i64 0),(.bool false),(.int .i64 0),(.bool false),(.int .i64 0),(.str []),(.lst true []),(.int .i64 0),(.lst true []),(.lst true []),(.lst true []),(.lst true []),(.bool false),(.int .i64 0),(.str []),(.bool false),(.str []),(.lst true []),(.int .i64 0),(.bool false),(.lst true []),(.bool false),(.str []),(.bool false),(.lst true []),(.bool false)] []),none,[]⟩,⟨(some 12),(.mov (.t 3)),none,[]⟩,⟨none,(.st 26 (.t 0) (.t 11)),none,[]⟩,⟨none,(.st 1 (.t 1) (.t 12)),none,[]⟩] none []))
def rsR:List Zco:=[(.cell 2 (some 26)),(.cell 3 none)]
def ZKj:Ann:={ nt:=20,lr:=fun _=>[3,2,1] }
def ZFG:Ann:={ ann 8 with nt:=20,keep:=[2,3],cfg:=fun f=>if f=27 then (1,true) else (0,true) }
def ZE4:Ann:={ ann 25 with nt:=13 }
theorem ZyN:Zkz Tryz.prog 8 25 20 27 ZKj ZFG ZE4 c1R c2R c3R rsR :=
 ⟨_,_,_,_,_,_,_,_,_,_,_,_,_,_,_,_,_,_,_,_,_,_,_,_,_,_,_,_,_,_,_,_,_,_,_,_,_,_,#[],.i64,rfl,by kernel_rfl,rfl,by kernel_rfl,rfl,by kernel_rfl,by kernel_rfl,rfl,rfl,rfl,rfl,by kernel_rfl,rfl,rfl,rfl,by kernel_rfl,rfl,by kernel_rfl,by kernel_rfl⟩
noncomputable def Zee:List AVal->Za->Option (AVal×Za):=ZgV FC PR BY 27 c1R c2R c3R rsR
noncomputable def PR1:Zcb:=fun f=>if f=8 then some Zee else if f=82 then some ZgG else PR f
noncomputable abbrev E1:ZL:=EV FC PR1 BY
theorem ZHF:OLe E E1:=by
 refine ZGA (fun f hf=>?_) (fun f g hg=>?_)
 ·unfold PR1
  rw [if_neg (by rintro rfl;revert hf;decide),if_neg (by rintro rfl;revert hf;decide)]
  exact hf
 ·by_cases h1:f=8
  ·subst h1
   have : PR 8=some Ziw:=by rfl
   rw [this] at hg;injection hg with hg;subst hg
   exact Or.inr fun _ _=>rfl
  by_cases h2:f=82
  ·subst h2
   have : PR 82=some Ziw:=by rfl
   rw [this] at hg;injection hg with hg;subst hg
   exact Or.inr fun _ _=>rfl
  refine Or.inl ?_
  unfold PR1
  rw [if_neg h1,if_neg h2]
  exact hg
theorem Zbi {f:Nat} {fn:ZE} (hp:PR1 f=none) (hf:FC f=some fn) (args:List AVal) (σ:Za):E1 f args σ=Zar σ.length fn (evC FC PR1 BY σ.length fn.body (enterA 0 args []) σ):=ZuF hp hf args σ
theorem Zfl (args:List AVal) (σ:Za):E1 8 args σ=Zee args σ:=Zsp (by rfl) args σ
theorem Zsu (args:List AVal) (σ:Za):E1 82 args σ=ZgG args σ:=Zsp (by rfl) args σ
theorem Zwd {args:List AVal} {σ σ':Za} {r:AVal} (hg:Zee args σ=some (r,σ')) :
  (∃ fn,Tryz.prog.funcs[8]?=some fn/\fn.body.isSome=true/\(fn.name == "runtime.NumGoroutine")=false) /\
  ∀ base w0 I0 I β w (vs:Array Value),KLt base w0->Rel base w0 I0 I β σ w->VRs I β args vs.toList ->
   Calls Tryz.prog 8 vs w (fun e w'=>∃ u,Ends r e u/\ZbR σ.length base w0 I0 I β r σ' u w') :=
 ZAO Zjd (fun n=>by
  have h:Zaq FC PR BY n=Zaq CF PR BY n:=Zme CF PR BY n
  rw [h]
  exact ZoD Zjd ZrL ann BY n) ZyN hg
end
section
def P0:List AVal:=[.int .i64 0,.bool false,.int .i64 0,.bool false,.int .i64 0,.str [],.lst true [],.int .i64 0,.lst true [],.lst true [],.lst true [],.lst true [],.bool false,.int .i64 0,.str [],.bool false,.str [],.lst true [],.int .i64 0,.bool false,.lst true [],.bool false,.str [],.bool false,.lst true [],.bool false]
def tmR:Tms:=[(3,.ref 2 0),(2,.ref 1 0),(1,.ref 0 0)]
def σR (b:Int) (l:Zb):Za:=[.var [.int .u8 b,.lst false (l.map Zc)],.var P0,.var [.int .i64 0]]
theorem Zp0 (b:Int) (l:Zb):evC FC PR BY 0 c1R (enterA 0 [.agg [.int .u8 b,.lst false (l.map Zc)]] []) []=some (.normal,tmR,σR b l):=by
 unfold tmR σR P0
 simp -implicitDefEqProofs only [EQA,Nat.reduceAdd,Nat.reduceLT,Nat.reduceEqDiff,Nat.reduceBEq,↓reduceIte,c1R,AVal.cells]
theorem ZuQ (b:Int) (l:Zb) {P1 Q:List AVal} {L:AVal} (h1:P1.length=26) (n1:Zd P1=true) (hQ:Q.length=26) (nQ:Zd Q=true) (oQ:Q.all ZX=true) (nL:ZG L=true)
  (hf:E 26 [.ref 0 0,.int .u8 b] (Zg P0 l)=some (.tup [],Zg P1 l)) (hb:E 27 [.ref 0 0] (Zg P1 l)=some (.tup [],[.var (Q++[L])])) :
  evC FC PR BY 3 c2R (tput tmR (some 5) .top) (σR b l)=some (.ret,[(3,.ref 2 0),(2,.ref 1 0)],[.var [.int .u8 b,.lst false (l.map Zc)],.var Q,.var [.int .i64 0],.var (Q++[L]),.free]):=by
 have hF:=fun (σ:Za) sq (hs:σ[3]?=some (.var (P0++[.lst false (l.map Zc)])))=>ZcJ (O:=E) (bf:=BY) (f:=26) (rest:=[.int .u8 b]) (by kernel_rfl) rfl (by rfl) (ZaA n1 (by rfl)) rfl rfl hf hs sq
 have hB:=fun (σ:Za) sq (hf:σ[sq]?=some .free) (hs:σ[3]?=some (.var (P1++[.lst false (l.map Zc)])))=>Zxc (own:=1) (O:=E) (bf:=BY) (f:=27) (rest:=[]) (by kernel_rfl) rfl (ZaA n1 (by rfl)) (ZaA nQ (by simp [Zd,nL])) rfl rfl hb hs sq (by simp [ZaU,freeAt,hf])
 have b1:=Z1 Q hQ
 have b2:=Zej Q hQ
 unfold P0 at hF
 simp only [List.cons_append,List.nil_append] at hF
 unfold tmR σR P0
 simp -implicitDefEqProofs only [EQA,Za1,Nat.reduceAdd,Nat.reduceLT,Nat.reduceLeDiff,Nat.reduceEqDiff,Nat.reduceBEq,↓reduceIte,c2R,AVal.cells,Zan,hF,hB,b1,b2,hQ,oQ]
theorem Zk8 (b:Int) (l:Zb) {cs:List AVal} {c:Int} (n1:Zd cs=true)
  (hf:E 26 [.ref 0 0,.int .u8 b] (Zg P0 l)=some (.pan (Zy c),[.var cs])) :
  evC FC PR BY 3 c2R (tput tmR (some 5) .top) (σR b l)=some (.panic (Zy c),[],[.var [.int .u8 b,.lst false (l.map Zc)],.var P0,.var [.int .i64 0],.var cs]):=by
 have hF:=fun (σ:Za) sq (hs:σ[3]?=some (.var (P0++[.lst false (l.map Zc)])))=>Zcq (O:=E) (bf:=BY) (f:=26) (view:=true) (rest:=[.int .u8 b]) (by kernel_rfl) rfl (by rfl) n1 rfl hf hs sq
 unfold P0 at hF
 simp only [List.cons_append,List.nil_append] at hF
 unfold tmR σR P0
 simp -implicitDefEqProofs only [EQA,Za1,Nat.reduceAdd,Nat.reduceLT,Nat.reduceLeDiff,Nat.reduceEqDiff,Nat.reduceBEq,↓reduceIte,c2R,AVal.cells,Zan,hF]
theorem ZtQ (b:Int) (l:Zb) {P1 cs:List AVal} {c:Int} (h1:P1.length=26) (n1:Zd P1=true) (n2:Zd cs=true)
  (hf:E 26 [.ref 0 0,.int .u8 b] (Zg P0 l)=some (.tup [],Zg P1 l)) (hb:E 27 [.ref 0 0] (Zg P1 l)=some (.pan (Zy c),[.var cs])) :
  evC FC PR BY 3 c2R (tput tmR (some 5) .top) (σR b l)=some (.panic (Zy c),[],[.var [.int .u8 b,.lst false (l.map Zc)],.var P0,.var [.int .i64 0],.var cs,.free]):=by
 have hF:=fun (σ:Za) sq (hs:σ[3]?=some (.var (P0++[.lst false (l.map Zc)])))=>ZcJ (O:=E) (bf:=BY) (f:=26) (rest:=[.int .u8 b]) (by kernel_rfl) rfl (by rfl) (ZaA n1 (by rfl)) rfl rfl hf hs sq
 have hB:=fun (σ:Za) sq (hf:σ[sq]?=some .free) (hs:σ[3]?=some (.var (P1++[.lst false (l.map Zc)])))=>ZDL (own:=1) (O:=E) (bf:=BY) (f:=27) (view:=true) (rest:=[]) (by kernel_rfl) rfl (ZaA n1 (by rfl)) n2 rfl hb hs sq (by simp [ZaU,freeAt,hf])
 unfold P0 at hF
 simp only [List.cons_append,List.nil_append] at hF
 unfold tmR σR P0
 simp -implicitDefEqProofs only [EQA,Za1,Nat.reduceAdd,Nat.reduceLT,Nat.reduceLeDiff,Nat.reduceEqDiff,Nat.reduceBEq,↓reduceIte,c2R,AVal.cells,Zan,hF,hB]
theorem ZCq (b c:Int) (l:Zb) (τ:Za):evC FC PR BY 3 c3R [(10,.int .i64 c),(1,.ref 2 0),(0,.ref 1 0)] (.var [.int .u8 b,.lst false (l.map Zc)]::.var P0::.var [.int .i64 0]::τ)=some (.normal,[],.var [.int .u8 b,.lst false (l.map Zc)]::.var P0::.var [.int .i64 c]::τ):=by
 unfold P0
 simp -implicitDefEqProofs only [EQA,Nat.reduceAdd,Nat.reduceLT,Nat.reduceLeDiff,Nat.reduceEqDiff,reduceCtorEq,↓reduceIte,c3R,AVal.cells,Zan,ZX]
theorem ZtI (b c:Int) (l:Zb) {Q:List AVal} (τ:Za) (hQ:Q.length=26) (nQ:Zd Q=true):ZeJ 0 1 2 rsR (.var [.int .u8 b,.lst false (l.map Zc)]::.var Q::.var [.int .i64 c]::τ)=some (.tup [.agg Q,.int .i64 c],[]):=by
 have h1:resA [(3,.ref 2 0),(2,.ref 1 0)] (.var [.int .u8 b,.lst false (l.map Zc)]::.var Q::.var [.int .i64 c]::τ) rsR=some (.tup [.agg Q,.int .i64 c]):=by
  have h2:Q.take 26=Q:=List.take_of_length_le (by omega)
  simp [resA,resAll,resOne,rsR,tget,ldA,partA,hQ,h2]
 unfold ZeJ
 rw [h1]
 generalize (.var [.int .u8 b,.lst false (l.map Zc)]::.var Q::.var [.int .i64 c]::τ:Za)=σ
 have e1:=ZaM (Zl σ 0 []) Q nQ
 have hr:Zp [AVal.tup [.agg Q,.int .i64 c]]=[]:=by simp [Zp,ZV,e1.2]
 have hi:ZB 0 [AVal.tup [.agg Q,.int .i64 c]] σ=[]:=by
  simp only [ZB,hr,List.nil_append,List.range_zero,List.flatMap_nil]
  rfl
 simp [Zak,gcA,hi,Ze,Zk,e1.1,Zv]
theorem ZmL (b:Int) (l:Zb) {P1 Q:List AVal} {L:AVal} (h1:P1.length=26) (n1:Zd P1=true) (hQ:Q.length=26) (nQ:Zd Q=true) (oQ:Q.all ZX=true) (nL:ZG L=true)
  (hf:E 26 [.ref 0 0,.int .u8 b] (Zg P0 l)=some (.tup [],Zg P1 l)) (hb:E 27 [.ref 0 0] (Zg P1 l)=some (.tup [],[.var (Q++[L])])) :
  Zee [.agg [.int .u8 b,.lst false (l.map Zc)]] []=some (.tup [.agg Q,.int .i64 0],[]):=by
 unfold Zee ZgV
 show (match evC FC PR BY 0 c1R (enterA 0 [.agg [.int .u8 b,.lst false (l.map Zc)]] []) [] with | some (.normal,tm1,σ1)=>_ | _=>none)=_
 rw [Zp0]
 show (if (0:Nat)<=(σR b l).length/\1 < (σR b l).length/\2 < (σR b l).length then Zfd FC PR BY 27 c2R c3R rsR 0 (tput tmR (some 5) .top) (σR b l) 1 2 else none)=_
 rw [if_pos (by simp [σR])]
 unfold Zfd
 rw [show (σR b l).length=3 from rfl,ZuQ b l h1 n1 hQ nQ oQ nL hf hb]
 exact ZtI b 0 l _ hQ nQ
theorem Zgd (b c:Int) (l:Zb) {τ:Za} (h:evC FC PR BY 3 c2R (tput tmR (some 5) .top) (σR b l)=some (.panic (Zy c),[],.var [.int .u8 b,.lst false (l.map Zc)]::.var P0::.var [.int .i64 0]::τ)) :
  Zee [.agg [.int .u8 b,.lst false (l.map Zc)]] []=some (.tup [.agg P0,.int .i64 c],[]):=by
 unfold Zee ZgV
 show (match evC FC PR BY 0 c1R (enterA 0 [.agg [.int .u8 b,.lst false (l.map Zc)]] []) [] with | some (.normal,tm1,σ1)=>_ | _=>none)=_
 rw [Zp0]
 show (if (0:Nat)<=(σR b l).length/\1 < (σR b l).length/\2 < (σR b l).length then Zfd FC PR BY 27 c2R c3R rsR 0 (tput tmR (some 5) .top) (σR b l) 1 2 else none)=_
 rw [if_pos (by simp [σR])]
 unfold Zfd
 rw [show (σR b l).length=3 from rfl,h]
 show (if (27:Nat)=27 then (match evC FC PR BY 3 c3R [(10,.int .i64 c),(1,.ref 2 0),(0,.ref 1 0)] _ with | some (.normal,_,σ3)=>ZeJ 0 1 2 rsR σ3 | _=>none) else none)=_
 rw [if_pos rfl,ZCq]
 exact ZtI b c l _ rfl (by rfl)
end
section
theorem Zv9 (a b:Zt):E 93 [Zn a,Zn b] []=some (.bool (a.id == b.id && a.num == b.num && a.text == b.text && a.pair == b.pair && a.data == b.data),[]):=by
 rw [Zh (by rfl) Zu1]
 simp -implicitDefEqProofs only [EQA,ZC,Z7,Zdw,Znx,Nat.reduceAdd,Nat.reduceLT,Nat.reduceEqDiff,Nat.reduceBEq,ZeK,ZH,Zau,unG,reduceCtorEq,ZY,ite_self,↓reduceIte,ZJZ,ZoX,ZJp,oI,ZM,Zn,ZbB]
theorem ZJv (a b:Zt):(a.id == b.id && a.num == b.num && a.text == b.text && a.pair == b.pair && a.data == b.data)=(a == b):=by
 obtain ⟨i,n,t,p,d⟩:=a
 obtain ⟨i',n',t',p',d'⟩:=b
 rw [Bool.eq_iff_iff]
 simp [and_assoc]
theorem ZB1 (a:Zt):Z5 (Zn a)=true:=by
 simp -implicitDefEqProofs only [eq_self,Bool.and_self,List.all_cons,List.all_nil,Zsb,Zr2,ZtE,Zso,Zn,ZbB,ZM]
theorem ZFQ (a:Zt):ZD (Zn a)=Zn a:=by
 simp -implicitDefEqProofs only [eq_self,List.map_cons,List.map_nil,ZsH,Zsc,Zrq,Zq9,Zn,ZbB,ZM]
theorem Zxq (σ:Za) (sq own:Nat) (view:Bool) (i n:Int) (t p d:Zb) (i' n':Int) (t' p' d':Zb):Zj E BY σ sq 93 own view [.agg [.int .i64 i,.int .i64 n,.str t,.str p,.lst false (d.map Zc)],.agg [.int .i64 i',.int .i64 n',.str t',.str p',.lst false (d'.map Zc)]]=some (.bool (i == i' && n == n' && t == t' && p == p' && d == d'),σ,{}) :=
 Zcl (Zv9 ⟨i,n,t,p,d⟩ ⟨i',n',t',p',d'⟩) (by kernel_rfl) (by simp only [List.all_cons,ZB1];rfl) (by simp only [List.map_cons,ZFQ];rfl) rfl (fun _=>rfl) _ _ _ _
theorem Zqa (a b:List Zt) (h:a.length=b.length) (hl:a.length<=9223372036854775807):∀ (r s:List Zt) (i:Nat),a.drop i=r->b.drop i=s->Zky 0 [(17,.int .i64 i),(16,.int .i64 a.length),(15,Za4 a),(2,.fn 93 []),(1,Za4 b)] []=some (.bool (r == s),[])
 | [],s,i,ha,hb=>by
  have hs:s=[]:=by
   subst hb;rw [List.drop_eq_nil_iff] at ha ⊢;omega
  subst hs
  have h1:=Zc4 ha
  unfold Zky
  rw [Z9]
  simp -implicitDefEqProofs only [EQA,Nat.reduceLT,Nat.reduceEqDiff,↓reduceIte,ZpW,ZLd,ZoN,Zuh,Zk5,oI,oN,Za4,h1]
 | x::r,[],i,ha,hb=>by
  have:=(Zad ha).2.2;rw [List.drop_eq_nil_iff] at hb;omega
 | x::r,y::s,i,ha,hb=>by
  have ih:=Zqa a b h hl r s (i+1) (Zad ha).2.1 (Zad hb).2.1
  have h1:(i:Int) < a.length:=by have:=(Zad ha).2.2;omega
  have e1:=iad (Zad ha).1 Zn (k:=5) rfl
  have e2:=iad (Zad hb).1 Zn (k:=5) rfl
  have e3:=Zdc h1 hl
  unfold Zky at ih ⊢
  rw [Z9]
  simp -implicitDefEqProofs only [EQA,ZC,Z7,Nat.reduceAdd,Nat.reduceLT,Nat.reduceLeDiff,Nat.reduceEqDiff,Nat.reduceBEq,unA,↓reduceIte,gcT,gcA,ZB,ZA,Zv,ZN,ZpW,Zuh,Zk5,oI,oN,ZM,Za4,Zn,ZbB,h1,e1,e2,e3,Zxq]
  simp only [Za4] at ih
  rw [ih,ZJv]
  by_cases hx:x=y <;> simp [hx]
theorem Zxp (a b:List Zt) (hl:a.length<=9223372036854775807):E 92 [Za4 a,Za4 b,.fn 93 []] []=some (.bool (a == b),[]):=by
 rw [Zh (by rfl) ZDd]
 by_cases h:a.length=b.length
 ·have:=Zqa a b h hl a b 0 rfl rfl
  unfold Zky at this
  simp only [Za4] at this
  have e:=Zlf h
  simp -implicitDefEqProofs only [EQA,Z7,Nat.reduceAdd,Nat.reduceLT,Nat.reduceEqDiff,reduceCtorEq,↓reduceIte,gcT,gcA,ZB,ZA,Zv,ZN,Zth,ZkU,oI,Za4,e]
  exact this
 ·have e:=ZjI h
  simp -implicitDefEqProofs only [EQA,Nat.reduceAdd,Nat.reduceLT,Nat.reduceEqDiff,reduceCtorEq,↓reduceIte,Zth,ZkU,ZpW,oI,Za4,e,ZjP h]
theorem ZGz (σ:Za) (sq own:Nat) (view:Bool) (a b:List Zt) (hl:a.length<=9223372036854775807):Zj E BY σ sq 92 own view [.lst false (a.map Zn),.lst false (b.map Zn),.fn 93 []]=some (.bool (a == b),σ,{}) :=
 Zcl (Zxp a b hl) (by kernel_rfl) (by simp -implicitDefEqProofs only [ZcR,Zs0,Zbq,eq_self,Za4]) (by simp -implicitDefEqProofs only [ZC,Zbq,eq_self,Za4]) rfl (fun _=>rfl) _ _ _ _
theorem ZB8 (a b:List Zt) (hl:a.length<=9223372036854775807):E 48 [Za4 a,Za4 b] []=some (.bool (a == b),[]):=by
 rw [Zh (by rfl) ZAe]
 simp -implicitDefEqProofs only [EQA,Nat.reduceLT,Nat.reduceEqDiff,reduceCtorEq,↓reduceIte,ZEm,ZmW,ZH2,oI,Za4,ZGz,hl]
theorem Zkx (σ:Za) (sq own:Nat) (view:Bool) (a b:List Zt) (hl:a.length<=9223372036854775807):Zj E BY σ sq 48 own view [.lst false (a.map Zn),.lst false (b.map Zn)]=some (.bool (a == b),σ,{}) :=
 Zcl (ZB8 a b hl) (by kernel_rfl) (by simp -implicitDefEqProofs only [ZcR,Zbq,eq_self,Za4]) (by simp -implicitDefEqProofs only [ZC,Zbq,eq_self,Za4]) rfl (fun _=>rfl) _ _ _ _
end
section
theorem ZvF (b:Zb):List.take b.length (b.map Zc)=b.map Zc:=List.take_of_length_le (by simp)
def ZP (x:Int):Nat:=(x % 18446744073709551616).toNat
theorem Zpq (x:Int):IntKind.u64.wrap x=((ZP x:Nat):Int):=by rw [IntKind.wrap_u64,ZP];omega
def Zek (k:Int) (p:Zt):Zb×Zb :=
 if k=1 then (beB (ZP p.num) 1,[]) else if k=2 then (beB (ZP p.num) 2,[]) else if k=3 then (beB (ZP p.num) 4,[])
 else if k=4 then ((ZaB p.num).1,[]) else if k=5 then ((Zag p.text).1,[]) else if k=6 then ((Zby p.data).1,[])
 else if k=7 then ((Zag p.text).1,(Zag p.pair).1) else ([],[])
def ZcH (p:Zt):Zb:=(ZaB p.id).1++((Zek (ZbS p.id) p).1++(Zek (ZbS p.id) p).2)
theorem ZtN:∀ k n:Nat,(Zcu k n).length<=k+1
 | 0,n=>by simp [Zcu]
 | k+1,n=>by
  unfold Zcu
  split
  ·simp
  ·have:=ZtN k (n / 128)
   simp only [List.length_cons];omega
theorem Zgo (n:Int):(ZaB n).1.length<=4:=by
 unfold ZaB
 split
 ·simp
 ·exact ZtN 3 _
theorem ZnJ (b:Zb):(Zby b).1.length<=65537:=by
 unfold Zby
 split
 ·simp
 ·simp only [List.length_append,Zba];omega
theorem ZhL (b:Zb):(Zag b).1.length<=65537:=by
 unfold Zag
 split
 ·exact ZnJ b
 ·simp
theorem ZI0 (k:Int) (p:Zt):(Zek k p).1.length<=65537/\(Zek k p).2.length<=65537:=by
 have h1:=Zgo p.num
 have h2:=ZhL p.text
 have h3:=ZhL p.pair
 have h4:=ZnJ p.data
 unfold Zek
 repeat' split
 all_goals simp only [Zba,List.length_nil]
 all_goals omega
theorem ZtR (p:Zt):(ZcH p).length<=200000:=by
 have h1:=Zgo p.id
 have h2:=ZI0 (ZbS p.id) p
 unfold ZcH
 simp only [List.length_append];omega
theorem ZgQ (σ:Za) (sq own:Nat) (f:Bool) (a v w:Zb) (h:a.length+(v.length+w.length)<=140737488355328):Zj E BY σ sq 37 own true [.lst f [.lst false (a.map Zc),.lst false (v.map Zc),.lst false (w.map Zc)]]=some (.lst false ((a++(v++w)).map Zc),σ,{}):=by
 have:=ZgW σ sq own f a [v,w] (by simp) (by simpa using h)
 simpa only [List.map_cons,List.map_nil,ZM,List.flatten_cons,List.flatten_nil,List.append_nil] using this
theorem Zpr (p:Zt) (k:Int) (W:Nat) (hk:ZbS p.id=k) (hW:(k=1/\W=1)\/(k=2/\W=2)\/(k=3/\W=4)):E 128 [Zn p] []=some (.lst false (((ZaB p.id).1++(beB (ZP p.num) W++[])).map Zc),[]):=by
 have hK:=fun σ sq own=>Zit σ sq own p.id
 have hV:=fun σ sq own=>Ze8 σ sq own p.id
 unfold Zex at hV
 have l0:=Zgo p.id
 have hP:=fun σ sq own=>ZlA σ sq own (ZP p.num) W (by omega) (by omega)
 have hJ:=fun σ sq own f=>ZgQ σ sq own f (ZaB p.id).1 (beB (ZP p.num) W) [] (by simp only [Zba,List.length_nil];omega)
 simp only [List.map_nil] at hJ
 have hu:=Zpq p.num
 rw [hk] at hK
 generalize beB (ZP p.num) W=B at *
 have z1:((1:Nat):Int)=1:=rfl
 have z2:((2:Nat):Int)=2:=rfl
 have z4:((4:Nat):Int)=4:=rfl
 rcases hW with ⟨rfl,rfl⟩ | ⟨rfl,rfl⟩ | ⟨rfl,rfl⟩
 ·have w1:IntKind.i64.wrap (1 - 1)=0:=rfl
  have w2:IntKind.i64.wrap (1*2 ^ min (Int.toNat 0) IntKind.i64.bits)=1:=rfl
  have ng:¬((0:Int) < 0):=by decide
  rw [z1] at hP
  rw [Zh (by rfl) ZfB]
  simp -implicitDefEqProofs only [EQA,Zq,Nat.reduceLT,Nat.reduceEqDiff,Nat.reduceBEq,Zax,↓reduceIte,Zfp,Zep,Zfe,oI,ZM,Zn,ZbB,hK,hV,hP,hJ,hu,w1,w2,ng,viewAs,ZQ,ZK,Zo,AVal.cells]
 ·have w1:IntKind.i64.wrap (2 - 1)=1:=rfl
  have w2:IntKind.i64.wrap (1*2 ^ min (Int.toNat 1) IntKind.i64.bits)=2:=rfl
  have ng:¬((1:Int) < 0):=by decide
  rw [z2] at hP
  rw [Zh (by rfl) ZfB]
  simp -implicitDefEqProofs only [EQA,Zq,Nat.reduceLT,Nat.reduceEqDiff,Nat.reduceBEq,Zax,↓reduceIte,Zfp,Zep,Zfe,oI,ZM,Zn,ZbB,hK,hV,hP,hJ,hu,w1,w2,ng,Int.reduceBEq,viewAs,ZQ,ZK,Zo,AVal.cells]
 ·have w1:IntKind.i64.wrap (3 - 1)=2:=rfl
  have w2:IntKind.i64.wrap (1*2 ^ min (Int.toNat 2) IntKind.i64.bits)=4:=rfl
  have ng:¬((2:Int) < 0):=by decide
  rw [z4] at hP
  rw [Zh (by rfl) ZfB]
  simp -implicitDefEqProofs only [EQA,Zq,Nat.reduceLT,Nat.reduceEqDiff,Nat.reduceBEq,Zax,↓reduceIte,Zfp,Zep,Zfe,oI,ZM,Zn,ZbB,hK,hV,hP,hJ,hu,w1,w2,ng,Int.reduceBEq,viewAs,ZQ,ZK,Zo,AVal.cells]
theorem ZxX (p:Zt) (ht:p.text.length<=9223372036854775807) (hp:p.pair.length<=9223372036854775807) (hd:p.data.length<=9223372036854775807):E 128 [Zn p] []=some (.lst false ((ZcH p).map Zc),[]):=by
 have hK:=fun σ sq own=>Zit σ sq own p.id
 have hV:=fun σ sq own=>Ze8 σ sq own p.id
 unfold Zex at hV
 have l0:=Zgo p.id
 unfold ZcH
 rcases ZsF p.id with hk | hk | hk | hk | hk | hk | hk | hk
 ·rw [hk] at hK ⊢
  rw [show Zek 0 p=([],[]) from rfl,Zh (by rfl) ZfB]
  have hJ:=fun σ sq own f=>ZgQ σ sq own f (ZaB p.id).1 [] [] (by simp only [List.length_nil];omega)
  simp only [List.map_nil] at hJ
  simp -implicitDefEqProofs only [EQA,Zq,Nat.reduceLT,Nat.reduceEqDiff,Nat.reduceBEq,↓reduceIte,Zfp,Zep,Zfe,oI,ZM,Zn,ZbB,hK,hV,hJ,Int.reduceBEq,viewAs,ZQ,ZK,Zo,AVal.cells]
 ·have h:=Zpr p 1 1 hk (by simp)
  rw [hk];exact h
 ·have h:=Zpr p 2 2 hk (by simp)
  rw [hk];exact h
 ·have h:=Zpr p 3 4 hk (by simp)
  rw [hk];exact h
 ·rw [hk] at hK ⊢
  rw [show Zek 4 p=((ZaB p.num).1,[]) from rfl,Zh (by rfl) ZfB]
  have l1:=Zgo p.num
  have hJ:=fun σ sq own f=>ZgQ σ sq own f (ZaB p.id).1 (ZaB p.num).1 [] (by simp only [List.length_nil];omega)
  simp only [List.map_nil] at hJ
  have hV2:=fun σ sq own=>Ze8 σ sq own p.num
  unfold Zex at hV2
  simp -implicitDefEqProofs only [EQA,Zq,Nat.reduceLT,Nat.reduceEqDiff,Nat.reduceBEq,↓reduceIte,Zfp,Zep,Zfe,oI,ZM,Zn,ZbB,hK,hV,hV2,hJ,Int.reduceBEq,viewAs,ZQ,ZK,Zo,AVal.cells]
 ·rw [hk] at hK ⊢
  rw [show Zek 5 p=((Zag p.text).1,[]) from rfl,Zh (by rfl) ZfB]
  have l1:=ZhL p.text
  have hJ:=fun σ sq own f=>ZgQ σ sq own f (ZaB p.id).1 (Zag p.text).1 [] (by simp only [List.length_nil];omega)
  simp only [List.map_nil] at hJ
  have hV2:=fun σ sq own=>Ziq σ sq own p.text ht
  unfold byT at hV2
  simp -implicitDefEqProofs only [EQA,Zq,Nat.reduceLT,Nat.reduceEqDiff,Nat.reduceBEq,↓reduceIte,Zfp,Zep,Zfe,oI,ZM,Zn,ZbB,hK,hV,hV2,hJ,Int.reduceBEq,viewAs,ZQ,ZK,Zo,AVal.cells]
 ·rw [hk] at hK ⊢
  rw [show Zek 6 p=((Zby p.data).1,[]) from rfl,Zh (by rfl) ZfB]
  have l1:=ZnJ p.data
  have hJ:=fun σ sq own f=>ZgQ σ sq own f (ZaB p.id).1 (Zby p.data).1 [] (by simp only [List.length_nil];omega)
  simp only [List.map_nil] at hJ
  have hV2:=fun σ sq own f=>Zpd σ sq own f p.data hd
  unfold byT at hV2
  simp -implicitDefEqProofs only [EQA,Zq,Nat.reduceLT,Nat.reduceEqDiff,Nat.reduceBEq,↓reduceIte,Zfp,Zep,Zfe,oI,ZM,Zn,ZbB,hK,hV,hV2,hJ,Int.reduceBEq,viewAs,ZQ,ZK,Zo,AVal.cells]
 ·rw [hk] at hK ⊢
  rw [show Zek 7 p=((Zag p.text).1,(Zag p.pair).1) from rfl,Zh (by rfl) ZfB]
  have l1:=ZhL p.text
  have l2:=ZhL p.pair
  have hJ:=fun σ sq own f=>ZgQ σ sq own f (ZaB p.id).1 (Zag p.text).1 (Zag p.pair).1 (by omega)
  have hV2:=fun σ sq own=>Ziq σ sq own p.text ht
  have hV3:=fun σ sq own=>Ziq σ sq own p.pair hp
  unfold byT at hV2 hV3
  simp -implicitDefEqProofs only [EQA,Zq,Nat.reduceLT,Nat.reduceEqDiff,Nat.reduceBEq,↓reduceIte,Zfp,Zep,Zfe,oI,ZM,Zn,ZbB,hK,hV,hV2,hV3,hJ,Int.reduceBEq,viewAs,ZQ,ZK,Zo,AVal.cells]
def ZeU (p:Zt):Prop:=p.text.length<=9223372036854775807/\p.pair.length<=9223372036854775807/\p.data.length<=9223372036854775807
theorem Zsw (σ:Za) (sq own:Nat) (p:Zt) (h:ZeU p):Zj E BY σ sq 128 own true [.agg [.int .i64 p.id,.int .i64 p.num,.str p.text,.str p.pair,.lst false (p.data.map Zc)]]=some (.lst false ((ZcH p).map Zc),σ,{}) :=
 Zbm (ZxX p h.1 h.2.1 h.2.2) (by kernel_rfl) rfl rfl rfl (fun _=>rfl) _ _ _
def ZfZ (w:Int) (l:List Zt) (b:Zb):Zb×Int :=
 if (ZaB b.length).2≠0 then ([],129)
 else if (Zae w ((ZaB b.length).1++b)).2.2≠0\/(Zae w ((ZaB b.length).1++b)).2.1≠((ZaB b.length).1++b).length\/((Zae w ((ZaB b.length).1++b)).1 == l)=false then ([],129)
 else ((ZaB b.length).1++b,0)
def Zbj (w:Int) (l:List Zt):Zb×Int:=ZfZ w l (l.map ZcH).flatten
theorem Zt8 (σ:Za) (sq own:Nat) (f:Bool) (a v:Zb) (h:a.length+v.length<=140737488355328):Zj E BY σ sq 37 own true [.lst f [.lst false (a.map Zc),.lst false (v.map Zc)]]=some (.lst false ((a++v).map Zc),σ,{}):=by
 have:=ZgW σ sq own f a [v] (by simp) (by simpa using h)
 simpa only [List.map_cons,List.map_nil,ZM,List.flatten_cons,List.flatten_nil,List.append_nil] using this
end
section
theorem Znw (w:Int):∀ (n:Nat) (b:Zb) (l:List Zt),(ZdT w n b l).1.length<=l.length+b.length
 | n,[],l=>by rw [Zqu];simp
 | 0,c::r,l=>by simp [ZdT]
 | n+1,c::r,l=>by
  rw [Zsl]
  split
  ·rename_i h
   have hu:=ZrN h
   have ih:=Znw w n ((c::r).drop (ZbI w (c::r) l).2.1) (l++[(ZbI w (c::r) l).1])
   rw [List.length_drop,List.length_append,List.length_singleton] at ih
   omega
  ·simp
theorem ZGP (w:Int) (b:Zb):(Zae w b).1.length<=b.length:=by
 unfold Zae
 split
 ·simp
 ·split
  ·have:=Znw w (Z8 b).1 ((b.take ((Z8 b).2.1+(Z8 b).1)).drop (Z8 b).2.1) []
   simp only [List.length_drop,List.length_take,List.length_nil] at this
   simp only
   omega
  ·simp
def okV (k:Int) (p:Zt):Bool :=
 if k=1 then decide (p.num>=0) && decide (p.num < 256) else if k=2 then decide (p.num>=0) && decide (p.num < 65536) else if k=3 then decide (p.num>=0) && decide (p.num < 4294967296)
 else if k=4 then (ZaB p.num).2 == 0 else if k=5 then (Zag p.text).2 == 0 else if k=6 then (Zby p.data).2 == 0
 else if k=7 then (Zag p.text).2 == 0 && (Zag p.pair).2 == 0 else false
def ZEz (p:Zt):Bool:=!(decide (p.id < 1) || decide (p.id > 127)) && okV (ZbS p.id) p
end
section
def ZfX (f:Bool) (x:Zb×Int):AVal:=.tup [.lst f (x.1.map Zc),.int .i64 x.2]
theorem Zvm (w:Int) (l:List Zt) (hl:l.length<=9223372036854775807) (b:Zb) (hb:b.length<=140737488355000) (i:Nat) (h1:¬(i:Int) < l.length) :
  ∃ f,ZiF 0 [(16,.int .i64 i),(15,.int .i64 l.length),(14,.lst false (l.map Zn)),(6,.sl 0 0 0 b.length),(1,.lst false (l.map Zn)),(0,.int .i64 w)] [.row 0 1 (b.map Zc)]=some (ZfX f (ZfZ w l b),[]):=by
 have hV:=fun σ sq own=>Ze8 σ sq own (b.length:Int)
 unfold Zex at hV
 have l0:=Zgo (b.length:Int)
 have hJ:=fun σ sq own f=>Zt8 σ sq own f (ZaB b.length).1 b (by omega)
 have hR:=fun σ sq own f=>Zjy σ sq own f w ((ZaB b.length).1++b) (by simp;omega)
 have hS:=fun σ sq own view (a:List Zt) (ha:a.length<=9223372036854775807)=>Zkx σ sq own view a l ha
 have ht:=ZvF b
 have hlen:((ZaB b.length).1++b).length<=140737488355328:=by simp;omega
 have hrl:=ZGP w ((ZaB b.length).1++b)
 unfold ZfZ ZfX
 generalize ZaB b.length=V at *
 obtain ⟨v,e⟩:=V
 simp only at hV hJ hR hlen hrl ⊢
 generalize hc:v++b=c at *
 generalize Zae w c=R at *
 obtain ⟨again,used,code⟩:=R
 simp only at hR hrl ⊢
 have hS2:=fun σ sq own view=>hS σ sq own view again (by omega)
 unfold ZiF
 by_cases he:e=0
 ·subst he
  have n0:((0:Int) != 0)=false:=rfl
  rw [if_neg (by simp)]
  by_cases hc0:code=0
  ·subst hc0
   by_cases hu:used=c.length
   ·have n2:((used:Int) != (c.length:Int))=false:=by simp [hu]
    cases hs:(again == l) <;> rw [hs] at hS2
    ·refine ⟨true,?_⟩
     rw [if_pos (by simp),Z9]
     simp -implicitDefEqProofs only [EQA,Zq,Nat.reduceLT,Nat.reduceEqDiff,unA,ZH,unG,reduceCtorEq,ZY,↓reduceIte,Zd,ZhF,ZhI,ZfI,ZfP,Zea,oI,oN,h1,hV,hJ,hR,hS2,ht,n0,n2,viewAs,ZQ,ZK,Zo,Nat.le_refl,AVal.cells]
    ·refine ⟨false,?_⟩
     rw [if_neg (by simp [hu]),Z9]
     simp -implicitDefEqProofs only [EQA,Zq,Nat.reduceLT,Nat.reduceEqDiff,unA,ZH,unG,reduceCtorEq,ZY,↓reduceIte,Zd,ZhF,ZhI,ZfI,ZfP,Zea,oI,oN,h1,hV,hJ,hR,hS2,ht,n0,n2,viewAs,ZQ,ZK,Zo,Nat.le_refl,AVal.cells]
   ·have n2:((used:Int) != (c.length:Int))=true:=by simp;omega
    refine ⟨true,?_⟩
    rw [if_pos (by simp [hu]),Z9]
    simp -implicitDefEqProofs only [EQA,Zq,Nat.reduceLT,Nat.reduceEqDiff,ZH,Zau,unG,reduceCtorEq,ZY,↓reduceIte,Zd,ZhF,ZhI,ZfI,ZfP,Zea,oI,oN,h1,hV,hJ,hR,ht,n0,n2,viewAs,ZQ,ZK,Zo,Nat.le_refl,AVal.cells]
  ·have n1:(code != 0)=true:=by simpa using hc0
   refine ⟨true,?_⟩
   rw [if_pos (by simp [hc0]),Z9]
   simp -implicitDefEqProofs only [EQA,Zq,Nat.reduceLT,Nat.reduceEqDiff,ZH,Zau,reduceCtorEq,ZY,↓reduceIte,Zd,ZhF,ZhI,ZfI,ZfP,Zea,oI,oN,h1,hV,hJ,hR,ht,n0,n1,viewAs,ZQ,ZK,Zo,Nat.le_refl,AVal.cells]
 ·have n1:(e != 0)=true:=by simpa using he
  refine ⟨true,?_⟩
  rw [if_pos he,Z9]
  simp -implicitDefEqProofs only [EQA,Zq,Nat.reduceLT,Nat.reduceEqDiff,reduceCtorEq,↓reduceIte,Zd,ZhF,ZhI,ZfI,ZfP,Zea,oI,oN,h1,hV,n1]
theorem Zp8 (w:Int) (l:List Zt) (hl:l.length<=9223372036854775807) (hx:∀ p ∈ l,ZeU p):∀ (r:List Zt) (i:Nat) (acc:Zb),l.drop i=r->acc.length+r.length*200000<=140737488355000 ->
  ∃ f,ZiF 0 [(16,.int .i64 i),(15,.int .i64 l.length),(14,.lst false (l.map Zn)),(6,.sl 0 0 0 acc.length),(1,.lst false (l.map Zn)),(0,.int .i64 w)] [.row 0 1 (acc.map Zc)]=some (ZfX f (ZfZ w l (acc++(r.map ZcH).flatten)),[])
 | [],i,acc,h,hn=>by
  simp only [List.map_nil,List.flatten_nil,List.append_nil]
  exact Zvm w l hl acc (by simpa using hn) i (Zc4 h)
 | p::r,i,acc,h,hn=>by
  have hlp:=ZtR p
  simp only [List.length_cons] at hn
  obtain ⟨f,ih⟩:=Zp8 w l hl hx r (i+1) (acc++ZcH p) (Zad h).2.1 (by rw [List.length_append];omega)
  refine ⟨f,?_⟩
  have h1:(i:Int) < l.length:=by have:=(Zad h).2.2;omega
  have e1:=iad (Zad h).1 Zn (k:=5) rfl
  have e3:=Zdc h1 hl
  have hC:=fun σ sq own=>Zsw σ sq own p (hx p (List.mem_of_getElem? (Zad h).1))
  rw [List.append_assoc] at ih
  rw [List.map_cons,List.flatten_cons]
  generalize ZcH p=q at *
  have k1:=ZfN q
  have k2:(acc.length+q.length)*1<=140737488355328:=by omega
  have e4:(acc++q).map Zc=acc.map Zc++q.map Zc:=by simp
  have e5:(acc++q).length=acc.length+q.length:=by simp
  rw [e4,e5] at ih
  unfold ZiF at ih ⊢
  rw [Z9]
  simp -implicitDefEqProofs only [EQA,Z7,Zck,Nat.reduceAdd,Nat.reduceLT,Nat.reduceEqDiff,Nat.reduceBEq,reduceCtorEq,ZY,↓reduceIte,gcT,gcA,ZB,ZA,Zl,Zv,ZZ,Zm,ZR,ZF,ZN,ZfP,Zea,oI,oN,ZM,Zn,ZbB,h1,e1,e3,hC,k1,k2,ZaR,Nat.le_refl,AVal.cells]
  exact ih
theorem ZJn (w:Int) (l:List Zt) (hl:l.length<=700000000) (hx:∀ p ∈ l,ZeU p):∃ f,E 107 [.int .i64 w,Za4 l] []=some (ZfX f (Zbj w l),[]):=by
 have z0:((0:Nat):Int)=0:=rfl
 unfold Zbj
 cases l with
 | nil =>
  have hV:=fun σ sq own=>Ze8 σ sq own 0
  have hv:ZaB 0=([0],0):=rfl
  unfold Zex at hV
  rw [hv] at hV
  have hJ:=fun σ sq own f=>Zt8 σ sq own f [0] [] (by simp)
  have hR:=fun σ sq own f=>Zjy σ sq own f w [0] (by simp)
  have hr:Zae w [0]=([],1,0):=rfl
  rw [hr] at hR
  have hS:=fun σ sq own view=>Zkx σ sq own view [] [] (by simp)
  have e:ZfZ w [] (([]:List Zt).map ZcH).flatten=([0],0):=by
   unfold ZfZ
   simp only [List.map_nil,List.flatten_nil,List.length_nil,z0,hv,List.append_nil,hr]
   rfl
  rw [e]
  refine ⟨false,?_⟩
  rw [Zh (by rfl) Zsk]
  simp only [List.map_nil,List.map_cons,Zc] at hV hJ hR hS
  unfold ZfX
  have b0:Zc 0=.int .u8 0:=rfl
  have u0:(0:UInt8).toNat=0:=rfl
  have n0:((0:Int) != 0)=false:=rfl
  have n1:((1:Int) != 1)=false:=rfl
  rw [u0,z0] at hV hJ hR
  have z1:((1:Nat):Int)=1:=rfl
  rw [z1] at hR
  simp -implicitDefEqProofs only [EQA,Z7,Nat.reduceLT,Nat.reduceEqDiff,reduceCtorEq,↓reduceIte,gcT,gcA,ZB,ZA,Zv,ZN,ZsN,ZjF,oI,Za4]
  rw [Z9]
  simp -implicitDefEqProofs only [EQA,Zq,Nat.reduceLT,Nat.reduceEqDiff,unA,ZH,unG,reduceCtorEq,↓reduceIte,Zd,ZhF,ZhI,ZfI,ZfP,Zea,oI,oN,z0,z1,hV,hJ,hR,hS,n0,n1,b0,viewAs,ZQ,ZK,Zo,AVal.cells,Int.reduceLT]
 | cons p r =>
  have hlp:=ZtR p
  simp only [List.length_cons] at hl
  obtain ⟨f,ih⟩:=Zp8 w (p::r) (by simp only [List.length_cons];omega) hx r 1 (ZcH p) rfl (by omega)
  refine ⟨f,?_⟩
  have e1:=iad (l:=p::r) (i:=0) rfl Zn (k:=5) rfl
  have h1:(0:Int) < ((p::r).length:Int):=by simp only [List.length_cons];omega
  have w1:IntKind.i64.wrap (0+1)=1:=rfl
  have z1:((1:Nat):Int)=1:=rfl
  have hC:=fun σ sq own=>Zsw σ sq own p (hx p (by simp))
  rw [List.map_cons,List.flatten_cons]
  generalize ZcH p=q at *
  have k1:=ZfN q
  have k2:q.length*1<=140737488355328:=by omega
  have e6:(q.map Zc).length=q.length:=by simp
  rw [z0] at e1
  rw [z1] at ih
  generalize (r.map ZcH).flatten=t at *
  generalize hL:p::r=L at *
  rw [Zh (by rfl) Zsk]
  unfold ZiF at ih
  simp -implicitDefEqProofs only [EQA,Z7,Nat.reduceLT,Nat.reduceEqDiff,reduceCtorEq,↓reduceIte,gcT,gcA,ZB,ZA,Zv,ZN,ZsN,ZjF,oI,Za4]
  rw [Z9]
  simp -implicitDefEqProofs only [EQA,Z7,Zck,Nat.reduceAdd,Nat.reduceLT,Nat.reduceEqDiff,Nat.reduceBEq,reduceCtorEq,ZY,↓reduceIte,gcT,gcA,ZB,ZA,Zl,Zv,ZZ,Zm,ZR,ZF,ZN,ZfP,Zea,oI,oN,ZM,Zn,ZbB,h1,e1,w1,hC,k1,k2,ZaR,Nat.le_refl,AVal.cells]
  exact ih
theorem ZBK (σ:Za) (sq own:Nat) (f:Bool) (w:Int) (l:List Zt) (hl:l.length<=700000000) (hx:∀ p ∈ l,ZeU p):Zj E BY σ sq 107 own true [.int .i64 w,.lst f (l.map Zn)]=some (ZfX false (Zbj w l),σ,{}):=by
 obtain ⟨g,h⟩:=ZJn w l hl hx
 exact Zbm h (by kernel_rfl) rfl rfl rfl (fun _=>rfl) _ _ _
end
section
end
section
def Zpk:Zf:=(.seq (.region [oI 4 (.mov (.c (.bool false)))] none [1,0]) (.seq (.region [oI 5 (.mov (.t 0)),oI 6 (.b2s (.t 5)),oI 7 (.mov (.t 1)),oI 8 (.b2s (.t 7)),oI 9 (.bin .eql (.t 6) (.t 8)),oI 4 (.mov (.t 9))] none [4]) .ret))
def ZmA:ZE:=⟨[(.tmp 4)],Zpk⟩
theorem ZwV:FC 21=some ZmA:=by kernel_rfl
theorem ZHk:ZmA.body=Zpk:=rfl
theorem ZI1:ZmA.res=[(.tmp 4)]:=rfl
end
section
end
section
structure Zt4 where
 topic:Zb
 payload:Zb
 qos:Int
 retain:Bool
 sender:Zb
 expires:Int
 props:List Zt
 origin:Int
 number:Int
 hops:Int
 deriving DecidableEq
structure ZIa where
 note:Zt4
 qos:Int
 retain:Bool
 ids:List Int
 share:Zb
 deriving DecidableEq
end
section
theorem ZCk (w:Int) (b:Zb) (h:(Zae w b).2.2=0):(Zae w b).2.1<=268435460:=by
 have h1:=Znd b
 have h2:(Z8 b).2.1<=5:=by
  have : ∀ (b:Zb) (i n:Nat),i<=4->(gvA i n b).2.1<=5:=by
   intro b
   induction b with
   | nil=>intro i n hi;unfold gvA;split <;> simp
   | cons c r ih =>
    intro i n hi
    unfold gvA
    repeat' split
    all_goals (try simp only)
    all_goals first
     | omega
     | exact ih _ _ (by omega)
  exact this b 0 0 (by omega)
 unfold Zae at h ⊢
 split
 ·rename_i hc;rw [if_pos hc] at h;simp at h
 ·rename_i hc
  rw [if_neg hc] at h
  split
  ·simp only;omega
  ·rename_i h3;rw [if_neg h3] at h;exact absurd h h3
structure ZIh (n:Zt4):Prop where
 topic:n.topic.length<=9223372036854775807
 payload:n.payload.length<=9223372036854775807
 sender:n.sender.length<=9223372036854775807
 props:n.props.length<=700000000
 tx:∀ p ∈ n.props,ZeU p
 dat:∀ p ∈ n.props,p.data.length<=140737488355328
end
section
def wn:List AVal:=[.lst true [],.int .i64 0,.int .i8 0]
def wv (r g n:Nat):List AVal:=[.sl r g 0 n,.int .i64 0,.int .i8 0]
def wH (g:Nat) (l:Zb):Za:=[.var (wv 1 g l.length),.row g 1 (l.map Zc)]
theorem Zbp {σ:Za} {sq f own:Nat} {view:Bool} {args:List AVal} {r:AVal×Za×Cls} (h:Zj E BY σ sq f own view args=some r):Zj E1 BY σ sq f own view args=some r:=Znt ZHF h
theorem Zhg {O:ZL} {f:Nat} {args args':List AVal} {l l':Zb} {q:AVal} (hq:ZG q=true) (hw:viewR (wH 1 l') q=some (q,[])/\viewR (wH 0 l') q=some (q,[])) (g2:Nat) (hg2:g2<=1) (h:O f (.ref 0 0::args') (wH 0 l)=some (q,wH g2 l')) (hb:BY f=false) (hp:args.all Z5=true) (hn:args.map ZD=args') {σ:Za} {t r g sq own:Nat} (htr:t≠r) (hff:ZaU σ sq own=true) (hs:σ[t]?=some (.var (wv r g l.length))) (hr:σ[r]?=some (.row g 1 (l.map Zc))) :
  Zj O BY σ sq f own true (.ref t 0::args)=some (q,(σ.set t (.var (wv r (g+g2) l'.length))).set r (.row (g+g2) 1 (l'.map Zc)),{ any:=true,upd:=[(t,wv r (g+g2) l'.length)] }):=by
 subst hn
 have hw':viewR [.var (wv 1 g2 l'.length),.row g2 1 (l'.map Zc)] q=some (q,[]):=by
  rcases Nat.lt_or_ge g2 1 with e | e
  ·obtain rfl:g2=0:=by omega
   exact hw.2
  ·obtain rfl:g2=1:=by omega
   exact hw.1
 exact Zgw (cs1:=wv 1 0 l.length) (cs2:=wv 1 g2 l'.length) hs hr htr rfl hb hp (fun ρ hρ=>by simp only [wv,Ze,Zk,hρ]) hg2 hff hq h (Zja true hq hw' rfl hg2 (fun ρ hρ=>by simp only [wv,Ze,Zk,hρ])) (fun ρ hρ=>by simp only [wv,Ze,Zk,hρ])
theorem ZfW {O:ZL} {f:Nat} {args args':List AVal} {l':Zb} {q:AVal} (hq:ZG q=true) (hv:Z6 true 1 (some (q,wH 0 l'))=some (q,wH 0 l')) (h:O f (.ref 0 0::args') [.var wn]=some (q,wH 0 l')) (hb:BY f=false) (hp:args.all Z5=true) (hn:args.map ZD=args') {σ:Za} {t sq:Nat} (hf:σ[sq]?=some .free) (hs:σ[t]?=some (.var wn)) :
  Zj O BY σ sq f 1 true (.ref t 0::args)=some (q,(σ.set t (.var (wv sq 0 l'.length))).set sq (.row 0 1 (l'.map Zc)),{ any:=true,upd:=[(t,wv sq 0 l'.length)] }):=by
 subst hn
 have htl:t < σ.length:=(List.getElem?_eq_some_iff.1 hs).1
 have hsl:sq < σ.length:=(List.getElem?_eq_some_iff.1 hf).1
 have hne:sq≠t:=by rintro rfl;rw [hs] at hf;cases hf
 have h1:σ.getD t .free=.var wn:=by simp [List.getD_eq_getElem?_getD,hs]
 have hf0:Zo σ []=σ:=rfl
 have hsh:showAs σ (.ref t 0::args)=some (.ref t 0::args.map ZD,[]):=by
  rw [showAs,show showA σ (.ref t 0)=some (.ref t 0,[]) from rfl,ZdH hp]
  rfl
 have href:Zp (.ref t 0::args.map ZD)=[t]:=by
  rw [Zp,Zc5 hp];rfl
 have hre:ZA σ 1000 [t] []=[t]:=by
  have e1:([]:List Nat).contains t=false:=rfl
  rw [show (1000:Nat)=998+1+1 from rfl,ZA,e1]
  simp only [Bool.false_eq_true,if_false,h1,ZN]
  rfl
 unfold Zj ZbJ
 rw [hb]
 simp only [Bool.false_eq_true,if_false,hsh,hf0,href,hre]
 unfold Zbt
 have hall:([t].all fun t=>okB (σ.getD t .free))=true:=by simp only [List.all_cons,List.all_nil,h1,okB,Bool.and_true]
 rw [if_pos hall]
 have hρt:Zl σ 0 [t] t 0=some (0,0):=by simp [Zl,ZZ,hs,Zm,ZR]
 have hargs:Ze (Zl σ 0 [t]) (.ref t 0::args.map ZD)=.ref 0 0::args.map ZD:=by
  rw [Ze,Zdb hp]
  simp only [Zk,hρt]
 have hheap:Zv σ 0 [t] (Zl σ 0 [t]) [t] 0=[.var wn]:=by
  simp only [Zv,h1,ZF]
  rfl
 rw [hargs,hheap,h]
 rw [show [t].length=1 from rfl,hv]
 have hk:ZaV σ [t] (wH 0 l') 0=true:=by simp [wH,ZaV,okB,Zb1,Zm,hs]
 have hff:ZaU σ sq 1=true:=by simp [ZaU,freeAt,hf]
 have hup:Za2 ((σ.set t (.var (wv sq 0 l'.length))).set sq (.row 0 1 (l'.map Zc))) [t]=[(t,wv sq 0 l'.length)]:=by
  have e1:((σ.set t (.var (wv sq 0 l'.length))).set sq (.row 0 1 (l'.map Zc)))[t]?=some (.var (wv sq 0 l'.length)):=by
   rw [List.getElem?_set_ne hne,List.getElem?_set_self htl]
  simp only [Za2,e1]
 have hlay:ZaY σ [t] sq (wH 0 l') 0 σ=(σ.set t (.var (wv sq 0 l'.length))).set sq (.row 0 1 (l'.map Zc)):=by
  simp [wH,ZaY,ZaF,Zb6,ZF,Zm,wv,Ze,Zk,Zaz]
 simp only [Zay,List.isEmpty_cons,Bool.false_and,Bool.false_eq_true,if_false,hk,hff,hlay,hup,(ZaW _ _ hq).1]
 rfl
theorem Zp4 {O:ZL} {f:Nat} {args args':List AVal} (h:O f (.ref 0 0::args') [.var wn]=some (.tup [],[.var wn])) (hb:BY f=false) (hp:args.all Z5=true) (hn:args.map ZD=args') {σ:Za} {t sq own:Nat} (hff:ZaU σ sq own=true) (hs:σ[t]?=some (.var wn)) :
  Zj O BY σ sq f own true (.ref t 0::args)=some (.tup [],σ,{ any:=true,upd:=[(t,wn)] }):=by
 subst hn
 have htl:t < σ.length:=(List.getElem?_eq_some_iff.1 hs).1
 have h1:σ.getD t .free=.var wn:=by simp [List.getD_eq_getElem?_getD,hs]
 have hf0:Zo σ []=σ:=rfl
 have hsh:showAs σ (.ref t 0::args)=some (.ref t 0::args.map ZD,[]):=by
  rw [showAs,show showA σ (.ref t 0)=some (.ref t 0,[]) from rfl,ZdH hp]
  rfl
 have href:Zp (.ref t 0::args.map ZD)=[t]:=by
  rw [Zp,Zc5 hp];rfl
 have hre:ZA σ 1000 [t] []=[t]:=by
  have e1:([]:List Nat).contains t=false:=rfl
  rw [show (1000:Nat)=998+1+1 from rfl,ZA,e1]
  simp only [Bool.false_eq_true,if_false,h1,ZN]
  rfl
 unfold Zj ZbJ
 rw [hb]
 simp only [Bool.false_eq_true,if_false,hsh,hf0,href,hre]
 unfold Zbt
 have hall:([t].all fun t=>okB (σ.getD t .free))=true:=by simp only [List.all_cons,List.all_nil,h1,okB,Bool.and_true]
 rw [if_pos hall]
 have hρt:Zl σ 0 [t] t 0=some (0,0):=by simp [Zl,ZZ,hs,Zm,ZR]
 have hargs:Ze (Zl σ 0 [t]) (.ref t 0::args.map ZD)=.ref 0 0::args.map ZD:=by
  rw [Ze,Zdb hp]
  simp only [Zk,hρt]
 have hheap:Zv σ 0 [t] (Zl σ 0 [t]) [t] 0=[.var wn]:=by
  simp only [Zv,h1,ZF]
  rfl
 rw [hargs,hheap,h]
 have hv:Z6 true 1 (some (.tup [],[.var wn]))=some (.tup [],[.var wn]):=rfl
 rw [show [t].length=1 from rfl,hv]
 have hk:ZaV σ [t] [.var wn] 0=true:=by simp [ZaV,okB,Zb1,Zm,hs]
 have hset:σ.set t (.var wn)=σ:=by
  apply List.ext_getElem?
  intro i
  rw [List.getElem?_set]
  by_cases e:t=i
  ·subst e;rw [if_pos rfl,if_pos htl,hs]
  ·simp [e]
 have hup:Za2 σ [t]=[(t,wn)]:=by simp only [Za2,hs]
 have hlay:ZaY σ [t] sq [.var wn] 0 σ=σ:=by
  simp only [ZaY,ZaF,ZF,List.getD_cons_zero]
  exact hset
 simp only [Zay,List.isEmpty_cons,Bool.false_eq_true,if_false,hk,hff,hlay,hup,Zk,Ze,List.length_cons,List.length_nil,Nat.zero_add,Nat.le_add_right,Nat.le_refl,decide_true,Bool.and_self,if_true]
def wT (n:Nat):AVal:=.tup [.int .i64 (n:Nat),.nili]
theorem Zyv (x:Zb) (hx:x.length<=ZbN):E1 82 [.ref 0 0,.lst false (x.map Zc)] [.var wn]=some (wT x.length,wH 0 x):=by
 rw [Zsu]
 simp only [ZgG,wn,List.length_map,hx,ZfN,and_self,if_true]
 rfl
theorem ZxT (l x:Zb) (hx:l.length+x.length<=ZbN):E1 82 [.ref 0 0,.lst false (x.map Zc)] (wH 0 l)=some (wT x.length,wH 1 (l++x)):=by
 rw [Zsu]
 simp only [ZgG,wH,wv,List.length_map,hx,ZfN,and_self,if_true,List.map_append,List.length_append]
 rfl
theorem Zri (x:Zb) (hx:x.length<=ZbN) {σ:Za} {t sq:Nat} (hf:σ[sq]?=some .free) (hs:σ[t]?=some (.var wn)) :
  Zj E1 BY σ sq 82 1 true [.ref t 0,.lst false (x.map Zc)]=some (wT x.length,(σ.set t (.var (wv sq 0 x.length))).set sq (.row 0 1 (x.map Zc)),{ any:=true,upd:=[(t,wv sq 0 x.length)] }) :=
 ZfW (args:=[.lst false (x.map Zc)]) rfl rfl (Zyv x hx) (by kernel_rfl) rfl rfl hf hs
theorem ff1 {σ:Za} {sq:Nat} (hf:σ[sq]?=some .free):ZaU σ sq 1=true:=by simp [ZaU,freeAt,hf]
theorem Zis (l x:Zb) (hx:l.length+x.length<=ZbN) {σ:Za} (t r g:Nat) {sq:Nat} (htr:t≠r) (hf:σ[sq]?=some .free) (hs:σ[t]?=some (.var (wv r g l.length))) (hr:σ[r]?=some (.row g 1 (l.map Zc))) :
  Zj E1 BY σ sq 82 1 true [.ref t 0,.lst false (x.map Zc)]=some (wT x.length,(σ.set t (.var (wv r (g+1) (l++x).length))).set r (.row (g+1) 1 ((l++x).map Zc)),{ any:=true,upd:=[(t,wv r (g+1) (l++x).length)] }) :=
 Zhg (args:=[.lst false (x.map Zc)]) rfl ⟨rfl,rfl⟩ 1 (by omega) (ZxT l x hx) (by kernel_rfl) rfl rfl htr (ff1 hf) hs hr
theorem ZtY (x:Zb) (σ:Za):Zak 1 (.var (wv 1 0 x.length)::.row 0 1 (x.map Zc)::σ) (.tup [])=some (.tup [],wH 0 x):=rfl
theorem Zgn (l:Zb) (g:Nat) (σ:Za):Zak 2 (.var (wv 1 (g+1) l.length)::.row (g+1) 1 (l.map Zc)::σ) (.tup [])=some (.tup [],wH 1 l):=by
 simp [Zak,gcA,ZB,Zp,ZV,List.range,List.range.loop,ZN,wv,ZA,Zl,ZZ,Zv,ZR,Zm,ZF,Ze,Zk,wH]
theorem ZEh (n:Int) (W:Nat) (h1:1<=W) (hW:W<=8):E1 79 [.ref 0 0,.int .i64 n,.int .i64 (W:Nat)] [.var wn]=some (.tup [],wH 0 (beB (ZP n) W)):=by
 have hw:=Zpq n
 have hP:=fun σ sq own=>Zbp (ZlA σ sq own (ZP n) W h1 hW)
 have hlen:(beB (ZP n) W).length<=ZbN:=by rw [Zba];unfold ZbN;omega
 generalize beB (ZP n) W=B at *
 have hC:=fun {σ:Za} {t sq:Nat}=>Zri B hlen (σ:=σ) (t:=t) (sq:=sq)
 have hO:=fun σ=>ZtY B σ
 rw [Zbi (by rfl) Zp2]
 unfold wn at *
 simp -implicitDefEqProofs only [EQA,Nat.reduceAdd,Nat.reduceLT,Nat.reduceEqDiff,Nat.reduceBEq,reduceCtorEq,↓reduceIte,ZtT,Zlb,ZqS,oI,hw,hP,hC,wT,hO,Zaf,Zaj,Zah,Zas,Zav,Zal]
theorem ZEW (l:Zb) (n:Int) (W:Nat) (h1:1<=W) (hW:W<=8) (hl:l.length+W<=ZbN):E1 79 [.ref 0 0,.int .i64 n,.int .i64 (W:Nat)] (wH 0 l)=some (.tup [],wH 1 (l++beB (ZP n) W)):=by
 have hw:=Zpq n
 have hP:=fun σ sq own=>Zbp (ZlA σ sq own (ZP n) W h1 hW)
 have hlen:l.length+(beB (ZP n) W).length<=ZbN:=by rw [Zba];omega
 generalize beB (ZP n) W=B at *
 have hC:=fun {σ:Za} {sq:Nat}=>Zis l B hlen (σ:=σ) 0 1 0 (sq:=sq) (by omega)
 have hO:=fun g σ=>Zgn (l++B) g σ
 rw [Zbi (by rfl) Zp2]
 unfold wH at *
 simp -implicitDefEqProofs only [EQA,Nat.reduceAdd,Nat.reduceLT,Nat.reduceEqDiff,Nat.reduceBEq,reduceCtorEq,↓reduceIte,ZtT,Zlb,ZqS,oI,hw,hP,hC,wT,hO,Zaf,Zaj,Zah,Zas,Zav,Zal]
end
section
end
section
end
section
structure Zzm where
 fmt:Int
 content:Zb
 corr:Zb
 users:Zb
end
section
end
section
structure ZM0 where
 r1:Zb×ZdR
 r2:Zb×ZdR
 r3:Zb×ZdR
 r4:Zb×ZdR
 r5:Zb×ZdR
 r6:Zb×ZdR
 r7:Zb×ZdR
 r8:Zb×ZdR
end
section
theorem ZLK (w:Int) (b:Zb):(Zae w b).1.length<=268435455:=by
 have hlt:=Znd b
 unfold Zae
 split
 ·simp
 ·split
  ·have:=Znw w (Z8 b).1 ((b.take ((Z8 b).2.1+(Z8 b).1)).drop (Z8 b).2.1) []
   simp only [List.length_drop,List.length_take,List.length_nil] at this
   simp only
   omega
  ·simp
end
section
structure ZMZ (it:ZIa):Prop where
 note:ZIh it.note
 ids:it.ids.length<=1000000
 share:it.share.length<=9223372036854775807
end
section
end
section
structure ZyO where
 topic:Zb
 sender:Zb
 share:Zb
 payload:Zb
 qos:Int
 sub:Int
 retain:Bool
 keep:Bool
 life:Int
 p:Zzm
 ids:List Int
 origin:Int
 number:Int
structure ZMY (m:ZyO):Prop where
 topic:m.topic.length<=9223372036854775807
 sender:m.sender.length<=9223372036854775807
 share:m.share.length<=9223372036854775807
 content:m.p.content.length<=9223372036854775807
 users:m.p.users.length<=9223372036854775807
 ids:m.ids.length<=9223372036854775807
end
section
structure ZMX where
 d:Zb×ZdR
 m:Zb×ZdR
 k:Zb×ZdR
end
section
def Zu8 (k:Int) (p:Zt):Prop :=
 if k=1\/k=2\/k=3\/k=4 then p.text=[]/\p.pair=[]/\p.data=[] else if k=5 then p.num=0/\p.pair=[]/\p.data=[]
 else if k=6 then p.num=0/\p.text=[]/\p.pair=[] else p.num=0/\p.data=[]
structure ZMW (w:Int) (acc:List Zt) (p:Zt):Prop where
 good:ZEz p=true
 may:Zga p.id w=true
 canon:Zu8 (ZbS p.id) p
 fits:Zgx p.id p.num=true
 dup:((Zfo p.id acc).isSome && !Zhp p.id w)=false
end
section
theorem ZiR (s:Zb):(Zby s).1.length<=65537:=by
 unfold Zby
 split
 ·simp
 ·simp [Zba];omega
theorem Zcr (s:Zb):(Zag s).1.length<=65537:=by
 unfold Zag
 split
 ·exact ZiR s
 ·simp
theorem ZcV (w:Int) (l:List Zt):(Zbj w l).1.length<=268435460:=by
 unfold Zbj ZfZ
 generalize (l.map ZcH).flatten=b
 by_cases h:(ZaB b.length).2≠0
 ·rw [if_pos h];simp
 ·rw [if_neg h]
  split
  ·simp
  ·rename_i h2
   have h0:(Zae w ((ZaB b.length).1++b)).2.2=0:=Classical.byContradiction fun e=>h2 (Or.inl e)
   have h1:(Zae w ((ZaB b.length).1++b)).2.1=((ZaB b.length).1++b).length:=Classical.byContradiction fun e=>h2 (Or.inr (Or.inl e))
   have:=ZCk w _ h0
   rw [h1] at this
   exact this
theorem ZyT (s:Zb) (hs:s.length<=9223372036854775807):E1 81 [.ref 0 0,.str s] [.var wn]=some (.tup [],wH 0 (Zag s).1):=by
 have hP:=fun σ sq own=>Zbp (Ziq σ sq own s hs)
 unfold byT at hP
 have hlen:(Zag s).1.length<=ZbN:=by have:=Zcr s;unfold ZbN;omega
 generalize (Zag s).1=B at *
 generalize (Zag s).2=C at *
 have hC:=fun {σ:Za} {t sq:Nat}=>Zri B hlen (σ:=σ) (t:=t) (sq:=sq)
 have hO:=fun σ=>ZtY B σ
 rw [Zbi (by rfl) ZsD]
 unfold wn at *
 simp -implicitDefEqProofs only [EQA,Nat.reduceAdd,Nat.reduceLT,Nat.reduceEqDiff,Nat.reduceBEq,reduceCtorEq,↓reduceIte,ZsL,Zj2,Zsd,oI,hP,hC,wT,hO]
theorem ZH7 (l:Zb) (s:Zb) (hs:s.length<=9223372036854775807) (hl:l.length+(Zag s).1.length<=ZbN):E1 81 [.ref 0 0,.str s] (wH 0 l)=some (.tup [],wH 1 (l++(Zag s).1)):=by
 have hP:=fun σ sq own=>Zbp (Ziq σ sq own s hs)
 unfold byT at hP
 generalize (Zag s).1=B at *
 generalize (Zag s).2=C at *
 have hC:=fun {σ:Za} {sq:Nat}=>Zis l B hl (σ:=σ) 0 1 0 (sq:=sq) (by omega)
 have hO:=fun g σ=>Zgn (l++B) g σ
 rw [Zbi (by rfl) ZsD]
 unfold wH at *
 simp -implicitDefEqProofs only [EQA,Nat.reduceAdd,Nat.reduceLT,Nat.reduceEqDiff,Nat.reduceBEq,reduceCtorEq,↓reduceIte,ZsL,Zj2,Zsd,oI,hP,hC,wT,hO]
theorem Zp6 (s:Zb) (hs:s.length<=9223372036854775807) {σ:Za} {t sq:Nat} (hf:σ[sq]?=some .free) (hs0:σ[t]?=some (.var wn)) :
  Zj E1 BY σ sq 81 1 true [.ref t 0,.str s]=some (.tup [],(σ.set t (.var (wv sq 0 (Zag s).1.length))).set sq (.row 0 1 ((Zag s).1.map Zc)),{ any:=true,upd:=[(t,wv sq 0 (Zag s).1.length)] }) :=
 ZfW (args:=[.str s]) rfl rfl (ZyT s hs) (by kernel_rfl) rfl rfl hf hs0
theorem ZiY (l:Zb) (s:Zb) (hs:s.length<=9223372036854775807) (hl:l.length+(Zag s).1.length<=ZbN) {σ:Za} (t r g:Nat) {sq:Nat} (htr:t≠r) (hf:σ[sq]?=some .free) (hs0:σ[t]?=some (.var (wv r g l.length))) (hr:σ[r]?=some (.row g 1 (l.map Zc))) :
  Zj E1 BY σ sq 81 1 true [.ref t 0,.str s]=some (.tup [],(σ.set t (.var (wv r (g+1) (l++(Zag s).1).length))).set r (.row (g+1) 1 ((l++(Zag s).1).map Zc)),{ any:=true,upd:=[(t,wv r (g+1) (l++(Zag s).1).length)] }) :=
 Zhg (args:=[.str s]) rfl ⟨rfl,rfl⟩ 1 (by omega) (ZH7 l s hs hl) (by kernel_rfl) rfl rfl htr (ff1 hf) hs0 hr
theorem ZyB (l:Zb) (s:Zb) (hs:s.length<=9223372036854775807) (hl:l.length+(Zby s).1.length<=ZbN):E1 105 [.ref 0 0,.lst false (s.map Zc)] (wH 0 l)=some (.tup [],wH 1 (l++(Zby s).1)):=by
 have hP:=fun σ sq own=>Zbp (Zpd σ sq own false s hs)
 unfold byT at hP
 generalize (Zby s).1=B at *
 generalize (Zby s).2=C at *
 have hC:=fun {σ:Za} {sq:Nat}=>Zis l B hl (σ:=σ) 0 1 0 (sq:=sq) (by omega)
 have hO:=fun g σ=>Zgn (l++B) g σ
 rw [Zbi (by rfl) ZBq]
 unfold wH at *
 simp -implicitDefEqProofs only [EQA,Nat.reduceAdd,Nat.reduceLT,Nat.reduceEqDiff,Nat.reduceBEq,reduceCtorEq,↓reduceIte,ZBu,ZlS,ZCH,oI,hP,hC,wT,hO]
theorem Zto (l:Zb) (s:Zb) (hs:s.length<=9223372036854775807) (hl:l.length+(Zby s).1.length<=ZbN) {σ:Za} (t r g:Nat) {sq:Nat} (htr:t≠r) (hf:σ[sq]?=some .free) (hs0:σ[t]?=some (.var (wv r g l.length))) (hr:σ[r]?=some (.row g 1 (l.map Zc))) :
  Zj E1 BY σ sq 105 1 true [.ref t 0,.lst false (s.map Zc)]=some (.tup [],(σ.set t (.var (wv r (g+1) (l++(Zby s).1).length))).set r (.row (g+1) 1 ((l++(Zby s).1).map Zc)),{ any:=true,upd:=[(t,wv r (g+1) (l++(Zby s).1).length)] }) :=
 Zhg (args:=[.lst false (s.map Zc)]) rfl ⟨rfl,rfl⟩ 1 (by omega) (ZyB l s hs hl) (by kernel_rfl) rfl rfl htr (ff1 hf) hs0 hr
theorem ZvN (l:Zb) (w:Int) (ps:List Zt) (hp:ps.length<=700000000) (hx:∀ p ∈ ps,ZeU p) (hl:l.length+(Zbj w ps).1.length<=ZbN):E1 80 [.ref 0 0,.int .i64 w,.lst false (ps.map Zn)] (wH 0 l)=some (.tup [],wH 1 (l++(Zbj w ps).1)):=by
 have hP:=fun σ sq own=>Zbp (ZBK σ sq own false w ps hp hx)
 unfold ZfX at hP
 generalize (Zbj w ps).1=B at *
 generalize (Zbj w ps).2=C at *
 have hC:=fun {σ:Za} {sq:Nat}=>Zis l B hl (σ:=σ) 0 1 0 (sq:=sq) (by omega)
 have hO:=fun g σ=>Zgn (l++B) g σ
 rw [Zbi (by rfl) ZzN]
 unfold wH at *
 simp -implicitDefEqProofs only [EQA,Nat.reduceAdd,Nat.reduceLT,Nat.reduceEqDiff,Nat.reduceBEq,reduceCtorEq,↓reduceIte,ZDn,ZnZ,ZGN,oI,hP,hC,wT,hO]
theorem Zgh (l:Zb) (w:Int) (ps:List Zt) (hp:ps.length<=700000000) (hx:∀ p ∈ ps,ZeU p) (hl:l.length+(Zbj w ps).1.length<=ZbN) {σ:Za} (t r g:Nat) {sq:Nat} (htr:t≠r) (hf:σ[sq]?=some .free) (hs0:σ[t]?=some (.var (wv r g l.length))) (hr:σ[r]?=some (.row g 1 (l.map Zc))) :
  Zj E1 BY σ sq 80 1 true [.ref t 0,.int .i64 w,.lst false (ps.map Zn)]=some (.tup [],(σ.set t (.var (wv r (g+1) (l++(Zbj w ps).1).length))).set r (.row (g+1) 1 ((l++(Zbj w ps).1).map Zc)),{ any:=true,upd:=[(t,wv r (g+1) (l++(Zbj w ps).1).length)] }) :=
 Zhg (args:=[.int .i64 w,.lst false (ps.map Zn)]) rfl ⟨rfl,rfl⟩ 1 (by omega) (ZvN l w ps hp hx hl) (by kernel_rfl) rfl rfl htr (ff1 hf) hs0 hr
theorem Zkd (n:Int) (W:Nat) (h1:1<=W) (hW:W<=8) {m:Int} (hm:((W:Nat):Int)=m) {σ:Za} {t sq:Nat} (hf:σ[sq]?=some .free) (hs0:σ[t]?=some (.var wn)) :
  Zj E1 BY σ sq 79 1 true [.ref t 0,.int .i64 n,.int .i64 m]=some (.tup [],(σ.set t (.var (wv sq 0 (beB (ZP n) W).length))).set sq (.row 0 1 ((beB (ZP n) W).map Zc)),{ any:=true,upd:=[(t,wv sq 0 (beB (ZP n) W).length)] }):=by
 subst hm
 exact ZfW (args:=[.int .i64 n,.int .i64 (W:Nat)]) rfl rfl (ZEh n W h1 hW) (by kernel_rfl) rfl rfl hf hs0
theorem ZfT (l:Zb) (n:Int) (W:Nat) (h1:1<=W) (hW:W<=8) {m:Int} (hm:((W:Nat):Int)=m) (hl:l.length+W<=ZbN) {σ:Za} (t r g:Nat) {sq:Nat} (htr:t≠r) (hf:σ[sq]?=some .free) (hs0:σ[t]?=some (.var (wv r g l.length))) (hr:σ[r]?=some (.row g 1 (l.map Zc))) :
  Zj E1 BY σ sq 79 1 true [.ref t 0,.int .i64 n,.int .i64 m]=some (.tup [],(σ.set t (.var (wv r (g+1) (l++beB (ZP n) W).length))).set r (.row (g+1) 1 ((l++beB (ZP n) W).map Zc)),{ any:=true,upd:=[(t,wv r (g+1) (l++beB (ZP n) W).length)] }):=by
 subst hm
 exact Zhg (args:=[.int .i64 n,.int .i64 (W:Nat)]) rfl ⟨rfl,rfl⟩ 1 (by omega) (ZEW l n W h1 hW hl) (by kernel_rfl) rfl rfl htr (ff1 hf) hs0 hr
def Z3 (b:Bool) (n:Int):Int:=if b then n else 0
theorem ZCe (b:Bool) (n:Int):E 42 [.bool b,.int .i64 n] []=some (.int .i64 (Z3 b n),[]):=by
 rw [Zh (by rfl) ZGh]
 unfold Z3
 cases b <;> simp -implicitDefEqProofs only [EQA,Nat.reduceLT,Nat.reduceEqDiff,reduceCtorEq,↓reduceIte,ZvD,ZpT,ZGf,oI]
theorem Zip (b:Bool) (n:Int) (σ:Za) (sq own:Nat):Zj E1 BY σ sq 42 own true [.bool b,.int .i64 n]=some (.int .i64 (Z3 b n),σ,{}) :=
 Zbp (Zbm (ZCe b n) (by kernel_rfl) rfl rfl rfl (fun _=>rfl) _ _ _)
end
section
def Zx (p:Zs):List AVal:=[.int .i64 p.type,.bool p.dup,.int .i64 p.qos,.bool p.retain,.int .i64 p.id,.str p.topic,.lst false (p.payload.map Zc),.int .i64 p.code,.lst false (p.codes.map (AVal.int .i64)),.lst false (p.props.map Zn),.lst false (p.subs.map ZU),.lst false (p.filters.map AVal.str),.bool p.clean,.int .i64 p.keep,.str p.client,.bool p.hasWill,.str p.will.topic,.lst false (p.will.data.map Zc),.int .i64 p.will.qos,.bool p.will.retain,.lst false (p.will.props.map Zn),.bool p.hasUser,.str p.user,.bool p.hasPassword,.lst false (p.password.map Zc),.bool p.present]
theorem Zbn (p:Zs):Z4 p=.agg (Zx p):=rfl
theorem ZbX (p:Zs):(Zx p).length=26:=rfl
theorem ZdW (p:Zs):Z5 (.agg (Zx p))=true:=rfl
theorem ZdB (p:Zs):ZD (.agg (Zx p))=.agg (Zx p):=rfl
theorem ZcC (p:Zs):(Zx p).take 26=Zx p:=rfl
theorem Zuc (p:Zs):Zp (Zx p)=[]:=by
 have h:=ZtS (ZdW p)
 rw [ZdB] at h
 simpa [ZV] using h
structure OkW (p:Zs):Prop where
 topic:p.topic.length<=9223372036854775807
 payload:p.payload.length<=1099511627776
 codes:p.codes.length<=1048576
 props:p.props.length<=700000000/\∀ q ∈ p.props,ZeU q
 subs:p.subs.length<=1048576/\∀ s ∈ p.subs,s.filter.length<=9223372036854775807
 filters:p.filters.length<=1048576/\∀ f ∈ p.filters,f.length<=9223372036854775807
 client:p.client.length<=9223372036854775807
 wtopic:p.will.topic.length<=9223372036854775807
 wdata:p.will.data.length<=9223372036854775807
 wprops:p.will.props.length<=700000000/\∀ q ∈ p.will.props,ZeU q
 user:p.user.length<=9223372036854775807
 password:p.password.length<=9223372036854775807
def wO:Option Zb->Za
 | none=>[.var wn]
 | some l=>wH 0 l
theorem Zdz {j g:Nat} {l:Zb} {σ:Za} (hj:j≠0) (h0:σ[0]?=some (.var (wv j g l.length))) (h1:σ[j]?=some (.row g 1 (l.map Zc))):Zak 1 σ (.tup [])=some (.tup [],wH 0 l):=by
 have d0:σ.getD 0 .free=.var (wv j g l.length):=by simp [List.getD_eq_getElem?_getD,h0]
 have d1:σ.getD j .free=.row g 1 (l.map Zc):=by simp [List.getD_eq_getElem?_getD,h1]
 have ej:([0]:List Nat).contains j=false:=by simp;omega
 have hrf:Zp (wv j g l.length)=[j]:=rfl
 have hi:ZB 1 [.tup []] σ=[0,j]:=by
  have : Zp [AVal.tup []]=[]:=rfl
  have hR:List.range 1=[0]:=rfl
  simp only [ZB,this,List.nil_append,hR,List.flatMap_cons,List.flatMap_nil,List.append_nil,d0,ZN,hrf]
  rw [show (1000:Nat)=998+1+1 from rfl,ZA,ej]
  simp only [Bool.false_eq_true,if_false,d1,ZN,List.nil_append]
  rfl
 have hρ:Zl σ 1 [0,j] j g=some (1,0):=by
  have : ¬(0:Nat)=j:=fun e=>hj e.symm
  simp [Zl,ZZ,Zm,ZR,h1,this]
 have hren:Ze (Zl σ 1 [0,j]) (wv j g l.length)=wv 1 0 l.length:=by simp only [wv,Ze,Zk,hρ]
 have ht:Ze (Zl σ 1 [0,j]) [AVal.tup []]=[.tup []]:=rfl
 simp only [Zak,gcA,hi,ht,Zv,d0,d1,ZR,Zm,ZF,hren,wH]
 simp
theorem ZHq (σ:Za):Zak 1 (.var wn::σ) (.tup [])=some (.tup [],[.var wn]):=rfl
theorem Zzq (l:Zb) (σ:Za):Zak 2 (.var (wv 1 0 l.length)::.row 0 1 (l.map Zc)::σ) (.tup [])=some (.tup [],wH 0 l):=by
 simp [Zak,gcA,ZB,Zp,ZV,List.range,List.range.loop,ZN,wv,ZA,Zl,ZZ,Zv,ZR,Zm,ZF,Ze,Zk,wH]
def ZbD (p:Zs):Zb:=if p.code≠0\/p.props≠[] then beB (ZP p.code) 1++(if p.props≠[] then (Zbj p.type p.props).1 else []) else []
def ZcU (p:Zs):Option Zb:=if p.code≠0\/p.props≠[] then some (ZbD p) else none
theorem Zd1:ZbN=70368744177664:=rfl
section
variable (p:Zs) (h:OkW p)
include h
theorem ZqE:E1 83 [.ref 0 0,Z4 p] [.var wn]=some (.tup [],wO (ZcU p)):=by
 have l2:=ZcV p.type p.props
 have l1:=Zba 1 (ZP p.code)
 have hN:=fun {σ:Za} {t sq:Nat}=>Zkd p.code 1 (by omega) (by omega) (m:=1) rfl (σ:=σ) (t:=t) (sq:=sq)
 have hPr:=fun {σ:Za} {sq:Nat}=>Zgh (beB (ZP p.code) 1) p.type p.props h.props.1 h.props.2 (by rw [Zd1];omega) (σ:=σ) 0 2 0 (sq:=sq) (by omega)
 have hO:=fun {j g:Nat} {l:Zb} {σ:Za}=>Zdz (j:=j) (g:=g) (l:=l) (σ:=σ)
 have hl:(p.props.map Zn).length=p.props.length:=by simp
 rw [Zbn]
 have e1:=ZcC p
 have e0:=ZbX p
 have a0:(Zx p)[0]?=some (.int .i64 p.type):=rfl
 have a7:(Zx p)[7]?=some (.int .i64 p.code):=rfl
 have a9:(Zx p)[9]?=some (.lst false (p.props.map Zn)):=rfl
 unfold ZcU ZbD
 generalize Zx p=P at *
 generalize p.type=ty at *
 generalize p.code=c at *
 generalize p.props=ps at *
 rw [Zbi (by rfl) Ztd]
 by_cases hc:c=0
 ·have b1:(c != 0)=false:=by simp [hc]
  cases ps with
  | nil =>
   rw [if_neg (by simp [hc])]
   unfold wn wO at *
   simp -implicitDefEqProofs only [EQA,Zq,Z7,ZuI,Nat.reduceAdd,Nat.reduceLT,Nat.reduceEqDiff,Nat.reduceBEq,ZH,unG,reduceCtorEq,decide_eq_true_eq,↓reduceIte,Zd,ZfM,Zeo,ZfC,oI,AVal.cells,a0,a7,a9,b1]
   exact ZHq []
  | cons q ps =>
   rw [if_pos (by simp)]
   have g0:((((q::ps).map Zn).length:Nat):Int) > 0:=by simp
   rw [if_pos (by simp)]
   generalize (Zbj ty (q::ps)).1=B at *
   generalize (q::ps).map Zn=qs at *
   generalize beB (ZP c) 1=D at *
   unfold wn wO at *
   simp -implicitDefEqProofs only [EQA,Zq,Nat.reduceAdd,Nat.reduceLT,Nat.reduceEqDiff,Nat.reduceBEq,ZH,unG,reduceCtorEq,↓reduceIte,Zd,ZfM,Zeo,ZfC,oI,AVal.cells,a0,a7,a9,b1,g0,hN,hPr]
   exact hO (j:=2) (by decide) rfl rfl
 ·have b1:(c != 0)=true:=by simp [hc]
  rw [if_pos (by simp [hc]),if_pos (by simp [hc])]
  cases ps with
  | nil =>
   rw [if_neg (by simp),List.append_nil]
   generalize beB (ZP c) 1=D at *
   unfold wn wO at *
   simp -implicitDefEqProofs only [EQA,Zq,Nat.reduceAdd,Nat.reduceLT,Nat.reduceEqDiff,Nat.reduceBEq,ZH,Zau,reduceCtorEq,decide_eq_true_eq,↓reduceIte,Zd,ZfM,Zeo,ZfC,oI,AVal.cells,a0,a7,a9,b1,hN]
   exact hO (j:=2) (by decide) rfl rfl
  | cons q ps =>
   have g0:((((q::ps).map Zn).length:Nat):Int) > 0:=by simp
   rw [if_pos (by simp)]
   generalize (Zbj ty (q::ps)).1=B at *
   generalize (q::ps).map Zn=qs at *
   generalize beB (ZP c) 1=D at *
   unfold wn wO at *
   simp -implicitDefEqProofs only [EQA,Zq,Nat.reduceAdd,Nat.reduceLT,Nat.reduceEqDiff,Nat.reduceBEq,ZH,Zau,reduceCtorEq,↓reduceIte,Zd,ZfM,Zeo,ZfC,oI,AVal.cells,a0,a7,a9,b1,g0,hN,hPr]
   exact hO (j:=2) (by decide) rfl rfl
theorem Zwr (l:Zb) (hl:l.length<=1000000000):E1 83 [.ref 0 0,Z4 p] (wH 0 l)=some (.tup [],if ZbD p=[] then wH 0 l else wH 1 (l++ZbD p)):=by
 have l2:=ZcV p.type p.props
 have l1:=Zba 1 (ZP p.code)
 have hN:=fun {σ:Za} {sq:Nat}=>ZfT l p.code 1 (by omega) (by omega) (m:=1) rfl (by rw [Zd1];omega) (σ:=σ) 0 1 0 (sq:=sq) (by omega)
 have hPr:=fun {σ:Za} {sq:Nat}=>Zgh (l++beB (ZP p.code) 1) p.type p.props h.props.1 h.props.2 (by rw [Zd1,List.length_append];omega) (σ:=σ) 0 1 1 (sq:=sq) (by omega)
 have hl:(p.props.map Zn).length=p.props.length:=by simp
 rw [Zbn]
 have e1:=ZcC p
 have e0:=ZbX p
 have a0:(Zx p)[0]?=some (.int .i64 p.type):=rfl
 have a7:(Zx p)[7]?=some (.int .i64 p.code):=rfl
 have a9:(Zx p)[9]?=some (.lst false (p.props.map Zn)):=rfl
 obtain ⟨R,hR⟩:∃ R,R=ZbD p:=⟨_,rfl⟩
 rw [<-hR]
 unfold ZbD at hR
 generalize Zx p=P at *
 generalize p.type=ty at *
 generalize p.code=c at *
 generalize p.props=ps at *
 rw [Zbi (by rfl) Ztd]
 by_cases hc:c=0
 ·have b1:(c != 0)=false:=by simp [hc]
  cases ps with
  | nil =>
   rw [if_neg (by simp [hc])] at hR
   subst hR
   rw [if_pos rfl]
   unfold wH at *
   simp -implicitDefEqProofs only [EQA,ZuI,Nat.reduceAdd,Nat.reduceLT,Nat.reduceEqDiff,Nat.reduceBEq,ZH,unG,reduceCtorEq,decide_eq_true_eq,↓reduceIte,ZfM,Zeo,ZfC,oI,AVal.cells,a0,a7,a9,b1]
   exact Zzq _ _
  | cons q ps =>
   have g0:((((q::ps).map Zn).length:Nat):Int) > 0:=by simp
   rw [if_pos (by simp),if_pos (by simp)] at hR
   subst hR
   rw [if_neg (by intro e;have:=congrArg List.length e;simp [l1] at this)]
   generalize (Zbj ty (q::ps)).1=B at *
   generalize (q::ps).map Zn=qs at *
   generalize beB (ZP c) 1=D at *
   rw [<-List.append_assoc]
   unfold wH at *
   simp -implicitDefEqProofs only [EQA,Nat.reduceAdd,Nat.reduceLT,Nat.reduceEqDiff,Nat.reduceBEq,ZH,unG,reduceCtorEq,↓reduceIte,ZfM,Zeo,ZfC,oI,AVal.cells,a0,a7,a9,b1,g0,hN,hPr]
   exact Zgn _ 1 _
 ·have b1:(c != 0)=true:=by simp [hc]
  rw [if_pos (by simp [hc])] at hR
  cases ps with
  | nil =>
   rw [if_neg (by simp),List.append_nil] at hR
   subst hR
   rw [if_neg (by intro e;have:=congrArg List.length e;simp [l1] at this)]
   generalize beB (ZP c) 1=D at *
   unfold wH at *
   simp -implicitDefEqProofs only [EQA,Nat.reduceAdd,Nat.reduceLT,Nat.reduceEqDiff,Nat.reduceBEq,ZH,Zau,reduceCtorEq,decide_eq_true_eq,↓reduceIte,ZfM,Zeo,ZfC,oI,AVal.cells,a0,a7,a9,b1,hN]
   exact Zgn _ 0 _
  | cons q ps =>
   have g0:((((q::ps).map Zn).length:Nat):Int) > 0:=by simp
   rw [if_pos (by simp)] at hR
   subst hR
   rw [if_neg (by intro e;have:=congrArg List.length e;simp [l1] at this)]
   generalize (Zbj ty (q::ps)).1=B at *
   generalize (q::ps).map Zn=qs at *
   generalize beB (ZP c) 1=D at *
   rw [<-List.append_assoc]
   unfold wH at *
   simp -implicitDefEqProofs only [EQA,Nat.reduceAdd,Nat.reduceLT,Nat.reduceEqDiff,Nat.reduceBEq,ZH,Zau,reduceCtorEq,↓reduceIte,ZfM,Zeo,ZfC,oI,AVal.cells,a0,a7,a9,b1,g0,hN,hPr]
   exact Zgn _ 1 _
def Zfu (p:Zs):Nat:=if ZbD p=[] then 0 else 1
theorem ZFr (l:Zb) (hl:l.length<=1000000000) {σ:Za} (t r g:Nat) {sq:Nat} (htr:t≠r) (hf:σ[sq]?=some .free) (hs0:σ[t]?=some (.var (wv r g l.length))) (hr:σ[r]?=some (.row g 1 (l.map Zc))) :
  Zj E1 BY σ sq 83 1 true [.ref t 0,.agg (Zx p)]=some (.tup [],(σ.set t (.var (wv r (g+Zfu p) (l++ZbD p).length))).set r (.row (g+Zfu p) 1 ((l++ZbD p).map Zc)),{ any:=true,upd:=[(t,wv r (g+Zfu p) (l++ZbD p).length)] }):=by
 have hw:=Zwr p h l hl
 have hw':E1 83 [.ref 0 0,Z4 p] (wH 0 l)=some (.tup [],wH (Zfu p) (l++ZbD p)):=by
  rw [hw]
  unfold Zfu
  split
  ·rename_i e;rw [e,List.append_nil]
  ·rfl
 exact Zhg (args:=[.agg (Zx p)]) rfl ⟨rfl,rfl⟩ (Zfu p) (by unfold Zfu;split <;> omega) hw' (by kernel_rfl) (by rw [List.all_cons,ZdW];rfl) (by rw [List.map_cons,ZdB];rfl) htr (ff1 hf) hs0 hr
def ZbM (p:Zs):Zb:=beB (ZP p.id) 2++(Zbj p.type p.props).1
theorem ZDE:E1 84 [.ref 0 0,Z4 p] [.var wn]=some (.tup [],wH 0 (ZbM p)):=by
 have l2:=ZcV p.type p.props
 have l1:=Zba 2 (ZP p.id)
 have hN:=fun {σ:Za} {t sq:Nat}=>Zkd p.id 2 (by omega) (by omega) (m:=2) rfl (σ:=σ) (t:=t) (sq:=sq)
 have hPr:=fun {σ:Za} {sq:Nat}=>Zgh (beB (ZP p.id) 2) p.type p.props h.props.1 h.props.2 (by rw [Zd1];omega) (σ:=σ) 0 2 0 (sq:=sq) (by omega)
 have hO:=fun {j g:Nat} {l:Zb} {σ:Za}=>Zdz (j:=j) (g:=g) (l:=l) (σ:=σ)
 rw [Zbn]
 have e0:=ZbX p
 have a0:(Zx p)[0]?=some (.int .i64 p.type):=rfl
 have a4:(Zx p)[4]?=some (.int .i64 p.id):=rfl
 have a9:(Zx p)[9]?=some (.lst false (p.props.map Zn)):=rfl
 unfold ZbM
 generalize Zx p=P at *
 generalize p.type=ty at *
 generalize p.id=c at *
 generalize p.props=ps at *
 generalize (Zbj ty ps).1=B at *
 generalize ps.map Zn=qs at *
 generalize beB (ZP c) 2=D at *
 rw [Zbi (by rfl) ZBr]
 unfold wn at *
 simp -implicitDefEqProofs only [EQA,Zq,Nat.reduceAdd,Nat.reduceLT,Nat.reduceEqDiff,Nat.reduceBEq,reduceCtorEq,↓reduceIte,Zd,ZLg,Zmi,ZL3,oI,AVal.cells,a0,a4,a9,hN,hPr]
 exact hO (j:=2) (by decide) rfl rfl
theorem Zof {σ:Za} {t sq:Nat} (hf:σ[sq]?=some .free) (hs0:σ[t]?=some (.var wn)) :
  Zj E1 BY σ sq 84 1 true [.ref t 0,.agg (Zx p)]=some (.tup [],(σ.set t (.var (wv sq 0 (ZbM p).length))).set sq (.row 0 1 ((ZbM p).map Zc)),{ any:=true,upd:=[(t,wv sq 0 (ZbM p).length)] }) :=
 ZfW (args:=[.agg (Zx p)]) rfl rfl (ZDE p h) (by kernel_rfl) (by rw [List.all_cons,ZdW];rfl) (by rw [List.map_cons,ZdB];rfl) hf hs0
end
end
section
theorem ZcY (w:Int) (b:Zb):(Zae w b).2.1<=b.length:=by
 unfold Zae
 split
 ·simp
 ·rename_i h
  split
  ·simp only
   have : ¬(((Z8 b).1:Int) > (b.length:Int) - ((Z8 b).2.1:Nat)):=fun e=>h (Or.inr e)
   omega
  ·simp
def Zam:Zs:=⟨0,false,0,false,0,[],[],0,[],[],[],[],false,0,[],false,⟨[],[],0,false,[]⟩,false,[],false,[],false⟩
theorem Zjv (σ:Za):ZaG σ P0=some (Zx Zam,[]):=rfl
theorem Zkr (q:Zs) (ρ:Rho):Ze ρ (Zx q)=Zx q:=by
 have h:=ZsP (ρ:=ρ) (ZdW q)
 rw [ZdB,Zk] at h
 injection h
theorem Zp3 {Q:List AVal} {q:Zs} (c:Int) (h:∀ σ,ZaG σ Q=some (Zx q,[])):Zbr 0 (some (.tup [.agg Q,.int .i64 c],[]))=some (.tup [Z4 q,.int .i64 c],[]):=by
 have h1:viewR [] (.tup [.agg Q,.int .i64 c])=some (.tup [Z4 q,.int .i64 c],[]):=by
  rw [viewR,viewAs,ZQ,h]
  rfl
 unfold Zbr
 simp only [h1]
 have e1:=Zuc q
 have e2:=Zkr q
 have hi:ZB 0 [AVal.tup [Z4 q,.int .i64 c]] []=[]:=by
  have : Zp [AVal.tup [Z4 q,.int .i64 c]]=[]:=by simp [Zp,ZV,Zbn,e1]
  simp only [ZB,this,List.nil_append,List.range_zero,List.flatMap_nil]
  rfl
 simp only [Zo,gcA,hi,Ze,Zk,Zv]
 rw [Zbn,Zk,e2]
theorem Zqj {b c:Int} {l:Zb} {Q:List AVal} {q:Zs} (h:E1 8 [.agg [.int .u8 b,.lst false (l.map Zc)]] []=some (.tup [.agg Q,.int .i64 c],[])) (hv:∀ σ,ZaG σ Q=some (Zx q,[])) (f:Bool) (σ:Za) (sq own:Nat) :
  Zj E1 BY σ sq 8 own true [.agg [.int .u8 b,.lst f (l.map Zc)]]=some (.tup [Z4 q,.int .i64 c],σ,{}):=by
 refine Zbm h (by kernel_rfl) rfl rfl (Zp3 c hv) (fun sq=>?_) σ sq own
 simp only [Zk,Ze,Zbn,Zkr]
def Zfk (b:Int) (l:Zb):Zs×Int :=
 if qoI b < 3 then (if qoI b > 0\/(Zbg b 8 != 0)=false then (match Zed (qoI b) l with
  | .error e=>(Zam,e)
  | .ok (tp,n,ps,pay)=>({ Zam with type:=3,dup:=(Zbg b 8 != 0),qos:=qoI b,retain:=(Zbg b 1 != 0),id:=n,topic:=tp,props:=ps,payload:=pay },0))
  else (Zam,130)) else (Zam,129)
theorem Zun (b:Int) (h3:tyI b=3) (l:Zb) (hl:l.length<=140737488355328):∃ Q,E1 8 [.agg [.int .u8 b,.lst false (l.map Zc)]] []=some (.tup [.agg Q,.int .i64 (Zfk b l).2],[])/\∀ σ,ZaG σ Q=some (Zx (Zfk b l).1,[]):=by
 have hf:=ZJw P0 rfl (by rfl) b l h3
 have hQ:(Zct P0 b).length=26:=rfl
 have hN:Zd (Zct P0 b)=true:=by rfl
 unfold Zfk
 by_cases hq:qoI b < 3
 ·rw [if_pos hq] at hf ⊢
  by_cases hd:qoI b > 0\/(Zbg b 8 != 0)=false
  ·rw [if_pos hd] at hf ⊢
   cases hp:Zed (qoI b) l with
   | error e =>
    obtain ⟨cs,hn,hb⟩:=ZzX (Zct P0 b) hQ hN (qoI b) rfl rfl l hl hp
    refine ⟨P0,?_,Zjv⟩
    rw [Zfl]
    exact Zgd b e l (ZtQ b l hQ hN hn hf hb)
   | ok s =>
    obtain ⟨tp,n,ps,pay⟩:=s
    have hb:=Zz2 (Zct P0 b) hQ hN (qoI b) rfl rfl rfl (fun r _=>ZcY 3 r) l hl hp
    refine ⟨((((Zct P0 b).set 5 (.str tp)).set 4 (.int .i64 n)).set 9 (.lst false (ps.map Zn))).set 6 (.lst false (pay.map Zc)),?_,fun σ=>rfl⟩
    rw [Zfl]
    exact ZmL b l hQ hN rfl (by rfl) rfl rfl hf hb
  ·rw [if_neg hd] at hf ⊢
   refine ⟨P0,?_,Zjv⟩
   rw [Zfl]
   exact Zgd b 130 l (Zk8 b l (Zw _ hQ hN _ _) hf)
 ·rw [if_neg hq] at hf ⊢
  refine ⟨P0,?_,Zjv⟩
  rw [Zfl]
  exact Zgd b 129 l (Zk8 b l (Zw _ hQ hN _ _) hf)
theorem ZCI (b:Int) (h3:tyI b=3) (l:Zb) (hl:l.length<=140737488355328) (f:Bool) (σ:Za) (sq own:Nat) :
  Zj E1 BY σ sq 8 own true [.agg [.int .u8 b,.lst f (l.map Zc)]]=some (.tup [Z4 (Zfk b l).1,.int .i64 (Zfk b l).2],σ,{}):=by
 obtain ⟨Q,h,hv⟩:=Zun b h3 l hl
 exact Zqj h hv f σ sq own
end
section
def Zdo (k:Int) (l:Zb):Except Int (Int×List Zt×Zb):=match idK l with
 | .error c=>.error c
 | .ok (n,r1)=>match ZbE k r1 with
  | .error c=>.error c
  | .ok (ps,r2)=>if r2.length=0 then .error 130 else .ok (n,ps,r2)
def ZbO (P:List AVal) (n:Int) (ps:List Zt):List AVal:=(P.set 4 (.int .i64 n)).set 9 (.lst false (ps.map Zn))
structure QOk (k:Int) (Q:List AVal):Prop where
 len:Q.length=26
 nor:Zd Q=true
 ty:Q[0]?=some (.int .i64 k)
 c8:Q[8]?=some (.lst true [])
 c10:Q[10]?=some (.lst true [])
 c11:Q[11]?=some (.lst true [])
theorem Zdk {k:Int} {P:List AVal} (h:QOk k P) (n:Int) (ps:List Zt):QOk k (ZbO P n ps):=by
 unfold ZbO
 refine ⟨by simp [h.len],ZO (ZbW _ _) _ (ZO rfl _ h.nor),?_,?_,?_,?_⟩
 ·rw [List.getElem?_set_ne (by omega),List.getElem?_set_ne (by omega)];exact h.ty
 ·rw [List.getElem?_set_ne (by omega),List.getElem?_set_ne (by omega)];exact h.c8
 ·rw [List.getElem?_set_ne (by omega),List.getElem?_set_ne (by omega)];exact h.c10
 ·rw [List.getElem?_set_ne (by omega),List.getElem?_set_ne (by omega)];exact h.c11
theorem Zzw {f:Nat} {cs:List AVal} (hc:Zd cs=true) (τ:Za) :
  gcT 3 [(1,.fn f [.ref 1 0,.ref 2 0]),(0,.ref 0 0)] (.var cs::.var [.ref 0 0]::.var [.ref 0 0]::τ)=([(1,.fn f [.ref 1 0,.ref 2 0]),(0,.ref 0 0)],[.var cs,.var [.ref 0 0],.var [.ref 0 0]]):=by
 have e2:=fun ρ=>ZaM ρ cs hc
 have hi:ZB 3 [.fn f [.ref 1 0,.ref 2 0],.ref 0 0] (.var cs::.var [.ref 0 0]::.var [.ref 0 0]::τ)=[0,1,2]:=by
  have hR:List.range 3=[0,1,2]:=rfl
  simp only [ZB,hR,List.flatMap_cons,List.flatMap_nil,List.append_nil,List.getD_cons_zero,List.getD_cons_succ,ZN,Zp,ZV,(e2 (fun _ _=>none)).2]
  rfl
 have hρ0:Zl (.var cs::.var [.ref 0 0]::.var [.ref 0 0]::τ) 3 [0,1,2] 0 0=some (0,0):=rfl
 have hρ1:Zl (.var cs::.var [.ref 0 0]::.var [.ref 0 0]::τ) 3 [0,1,2] 1 0=some (1,0):=rfl
 have hρ2:Zl (.var cs::.var [.ref 0 0]::.var [.ref 0 0]::τ) 3 [0,1,2] 2 0=some (2,0):=rfl
 simp only [gcT,gcA,List.map_cons,List.map_nil,hi,Zv,List.getD_cons_zero,List.getD_cons_succ,ZF,Ze,Zk,hρ0,hρ1,hρ2,(e2 _).1]
 rfl
theorem ZBh {f:Nat} {cs:List AVal} (hc:Zd cs=true) (τ:Za) :
  gcT 1 [(1,.fn f [.ref 0 0]),(0,.ref 0 0)] (.var cs::τ)=([(1,.fn f [.ref 0 0]),(0,.ref 0 0)],[.var cs]):=by
 have e2:=fun ρ=>ZaM ρ cs hc
 have hi:ZB 1 [.fn f [.ref 0 0],.ref 0 0] (.var cs::τ)=[0]:=by
  have hR:List.range 1=[0]:=rfl
  simp only [ZB,hR,List.flatMap_cons,List.flatMap_nil,List.append_nil,List.getD_cons_zero,ZN,Zp,ZV,(e2 (fun _ _=>none)).2]
  rfl
 have hρ0:Zl (.var cs::τ) 1 [0] 0 0=some (0,0):=rfl
 simp only [gcT,gcA,List.map_cons,List.map_nil,hi,Zv,List.getD_cons_zero,ZF,Ze,Zk,hρ0,(e2 _).1]
 rfl
section
variable (k:Int) (f:Nat) (P:List AVal) (h:QOk k P) (l:Zb) (hl:l.length<=140737488355328)
include h hl
theorem Zsa {n:Int} {ps:List Zt} {r:Zb} (hk:Zdo k l=.ok (n,ps,r)):E 61 [.ref 0 0,.fn f [.ref 1 0,.ref 2 0]] [.var (P++[.lst false (l.map Zc)]),.var [.ref 0 0],.var [.ref 0 0]]=ZaS 3 [(1,.fn f [.ref 1 0,.ref 2 0]),(0,.ref 0 0)] [.var (ZbO P n ps++[.lst false (r.map Zc)]),.var [.ref 0 0],.var [.ref 0 0]]:=by
 obtain ⟨hP,hN,h0,-,-,-⟩:=h
 unfold Zdo at hk
 split at hk
 ·cases hk
 rename_i n' r1 hi
 have l1:=ZeE hi
 split at hk
 ·cases hk
 rename_i ps' r2 hp
 split at hk
 ·cases hk
 rename_i hne
 injection hk with hk;injection hk with e1 hk;injection hk with e2 e3;subst e1 e2 e3
 have hI:=fun σ sq hs=>Zfy P hP hN l hl σ 0 sq hs hi
 have hP4:(P.set 4 (.int .i64 n')).length=26:=by simp [hP]
 have hN4:Zd (P.set 4 (.int .i64 n'))=true:=ZO rfl 4 hN
 have h04:(P.set 4 (.int .i64 n'))[0]?=some (.int .i64 k):=by rw [List.getElem?_set_ne (by omega)];exact h0
 unfold ZbO
 generalize P.set 4 (.int .i64 n')=R at *
 have hG:=fun σ sq hs=>ZdQ R hP4 hN4 r1 (by omega) σ 0 sq hs (ZcY k r1) hp
 have c1:=Z1 R hP4
 have c2:=Zao R hP4
 have c4:=fun L=>(Z2 R hP4 0 (by omega) L).trans h04
 have c3:=fun L=>Zat R hP4 9 10 (by omega) rfl L (.lst false (ps'.map Zn))
 have hP9:(R.set 9 (.lst false (ps'.map Zn))).length=26:=by simp [hP4]
 have hN9:Zd (R.set 9 (.lst false (ps'.map Zn)))=true:=ZO (ZbW _ _) 9 hN4
 generalize R.set 9 (.lst false (ps'.map Zn))=S at *
 have d2:=Zao S hP9
 have m1:=Za5
 have z:((r2.length:Nat):Int) > 0:=by omega
 have z2:(0:Int) < ((r2.length:Nat):Int):=by omega
 have gC:=fun τ=>Zzw (f:=f) (Zw S hP9 hN9 false (r2.map Zc)) τ
 unfold ZaS
 rw [Zh (by rfl) Zfv]
 simp -implicitDefEqProofs only [EQA,ZC,Z7,Nat.reduceAdd,Nat.reduceLT,Nat.reduceLeDiff,Nat.reduceEqDiff,reduceCtorEq,↓reduceIte,Zfz,Zeh,oI,oN,c1,c3,c4,hI,hG,d2,m1,z,gC]
theorem ZCc {e:Int} (hk:Zdo k l=.error e):∃ cs,Zd cs=true/\E 61 [.ref 0 0,.fn f [.ref 1 0,.ref 2 0]] [.var (P++[.lst false (l.map Zc)]),.var [.ref 0 0],.var [.ref 0 0]]=some (.pan (Zy e),[.var (cs),.var [.ref 0 0],.var [.ref 0 0]]):=by
 obtain ⟨hP,hN,h0,-,-,-⟩:=h
 unfold Zdo at hk
 split at hk
 ·rename_i c hi
  injection hk with hk;subst hk
  obtain ⟨cs,hn,he⟩:=ZkN P hP hN l hl hi
  have hI:=fun (σ:Za) sq (hs:σ[0]?=some (.var (P++[.lst false (l.map Zc)])))=>Zcq (O:=E) (bf:=BY) (f:=59) (view:=true) (rest:=[]) (by kernel_rfl) rfl (Zw P hP hN _ _) hn rfl he hs sq
  refine ⟨cs,hn,?_⟩
  rw [Zh (by rfl) Zfv]
  simp -implicitDefEqProofs only [EQA,Nat.reduceAdd,Nat.reduceLT,reduceCtorEq,↓reduceIte,Zfz,Zeh,oI,oN,hI]
  exact Zke rfl hn _
 rename_i n' r1 hi
 have l1:=ZeE hi
 have hI:=fun σ sq hs=>Zfy P hP hN l hl σ 0 sq hs hi
 have hP4:(P.set 4 (.int .i64 n')).length=26:=by simp [hP]
 have hN4:Zd (P.set 4 (.int .i64 n'))=true:=ZO rfl 4 hN
 have h04:(P.set 4 (.int .i64 n'))[0]?=some (.int .i64 k):=by rw [List.getElem?_set_ne (by omega)];exact h0
 generalize P.set 4 (.int .i64 n')=R at *
 have c1:=Z1 R hP4
 have c2:=Zao R hP4
 have c4:=fun L=>(Z2 R hP4 0 (by omega) L).trans h04
 split at hk
 ·rename_i c hp
  injection hk with hk;subst hk
  have hG:=fun σ sq hs=>ZfV R hP4 hN4 r1 (by omega) σ 0 sq hs hp
  refine ⟨_,Zw R hP4 hN4 false (r1.map Zc),?_⟩
  rw [Zh (by rfl) Zfv]
  simp -implicitDefEqProofs only [EQA,Nat.reduceAdd,Nat.reduceLT,Nat.reduceEqDiff,reduceCtorEq,↓reduceIte,Zfz,Zeh,oI,oN,c4,hI,hG]
  exact Zke rfl (Zw R hP4 hN4 _ _) _
 rename_i ps' r2 hp
 split at hk
 case isFalse=>cases hk
 rename_i hne
 injection hk with hk;subst hk
 have hG:=fun σ sq hs=>ZdQ R hP4 hN4 r1 (by omega) σ 0 sq hs (ZcY k r1) hp
 have c3:=fun L=>Zat R hP4 9 10 (by omega) rfl L (.lst false (ps'.map Zn))
 have hP9:(R.set 9 (.lst false (ps'.map Zn))).length=26:=by simp [hP4]
 have hN9:Zd (R.set 9 (.lst false (ps'.map Zn)))=true:=ZO (ZbW _ _) 9 hN4
 generalize R.set 9 (.lst false (ps'.map Zn))=S at *
 have d2:=Zao S hP9
 have m1:=Zbs
 have z:¬((r2.length:Nat):Int) > 0:=by omega
 have z2:¬(0:Int) < ((r2.length:Nat):Int):=by omega
 refine ⟨_,Zw S hP9 hN9 false (r2.map Zc),?_⟩
 rw [Zh (by rfl) Zfv]
 simp -implicitDefEqProofs only [EQA,ZC,Nat.reduceAdd,Nat.reduceLT,Nat.reduceLeDiff,Nat.reduceEqDiff,reduceCtorEq,↓reduceIte,Zfz,Zeh,oI,oN,c1,c3,c4,hI,hG,d2,m1,z]
 exact Zke rfl (Zw S hP9 hN9 _ _) _
theorem Zt5 {n:Int} {ps:List Zt} {r:Zb} (hk:Zdo k l=.ok (n,ps,r)):E 61 [.ref 0 0,.fn f [.ref 0 0]] [.var (P++[.lst false (l.map Zc)])]=ZaS 1 [(1,.fn f [.ref 0 0]),(0,.ref 0 0)] [.var (ZbO P n ps++[.lst false (r.map Zc)])]:=by
 obtain ⟨hP,hN,h0,-,-,-⟩:=h
 unfold Zdo at hk
 split at hk
 ·cases hk
 rename_i n' r1 hi
 have l1:=ZeE hi
 split at hk
 ·cases hk
 rename_i ps' r2 hp
 split at hk
 ·cases hk
 rename_i hne
 injection hk with hk;injection hk with e1 hk;injection hk with e2 e3;subst e1 e2 e3
 have hI:=fun σ sq hs=>Zfy P hP hN l hl σ 0 sq hs hi
 have hP4:(P.set 4 (.int .i64 n')).length=26:=by simp [hP]
 have hN4:Zd (P.set 4 (.int .i64 n'))=true:=ZO rfl 4 hN
 have h04:(P.set 4 (.int .i64 n'))[0]?=some (.int .i64 k):=by rw [List.getElem?_set_ne (by omega)];exact h0
 unfold ZbO
 generalize P.set 4 (.int .i64 n')=R at *
 have hG:=fun σ sq hs=>ZdQ R hP4 hN4 r1 (by omega) σ 0 sq hs (ZcY k r1) hp
 have c1:=Z1 R hP4
 have c2:=Zao R hP4
 have c4:=fun L=>(Z2 R hP4 0 (by omega) L).trans h04
 have c3:=fun L=>Zat R hP4 9 10 (by omega) rfl L (.lst false (ps'.map Zn))
 have hP9:(R.set 9 (.lst false (ps'.map Zn))).length=26:=by simp [hP4]
 have hN9:Zd (R.set 9 (.lst false (ps'.map Zn)))=true:=ZO (ZbW _ _) 9 hN4
 generalize R.set 9 (.lst false (ps'.map Zn))=S at *
 have d2:=Zao S hP9
 have m1:=Za5
 have z:((r2.length:Nat):Int) > 0:=by omega
 have z2:(0:Int) < ((r2.length:Nat):Int):=by omega
 have gC:=fun τ=>ZBh (f:=f) (Zw S hP9 hN9 false (r2.map Zc)) τ
 unfold ZaS
 rw [Zh (by rfl) Zfv]
 simp -implicitDefEqProofs only [EQA,ZC,Z7,Nat.reduceAdd,Nat.reduceLT,Nat.reduceLeDiff,Nat.reduceEqDiff,reduceCtorEq,↓reduceIte,Zfz,Zeh,oI,oN,c1,c3,c4,hI,hG,d2,m1,z,gC]
theorem ZIO {e:Int} (hk:Zdo k l=.error e):∃ cs,Zd cs=true/\E 61 [.ref 0 0,.fn f [.ref 0 0]] [.var (P++[.lst false (l.map Zc)])]=some (.pan (Zy e),[.var (cs)]):=by
 obtain ⟨hP,hN,h0,-,-,-⟩:=h
 unfold Zdo at hk
 split at hk
 ·rename_i c hi
  injection hk with hk;subst hk
  obtain ⟨cs,hn,he⟩:=ZkN P hP hN l hl hi
  have hI:=fun (σ:Za) sq (hs:σ[0]?=some (.var (P++[.lst false (l.map Zc)])))=>Zcq (O:=E) (bf:=BY) (f:=59) (view:=true) (rest:=[]) (by kernel_rfl) rfl (Zw P hP hN _ _) hn rfl he hs sq
  refine ⟨cs,hn,?_⟩
  rw [Zh (by rfl) Zfv]
  simp -implicitDefEqProofs only [EQA,Nat.reduceLT,reduceCtorEq,↓reduceIte,Zfz,Zeh,oI,oN,hI]
  exact ZS rfl hn
 rename_i n' r1 hi
 have l1:=ZeE hi
 have hI:=fun σ sq hs=>Zfy P hP hN l hl σ 0 sq hs hi
 have hP4:(P.set 4 (.int .i64 n')).length=26:=by simp [hP]
 have hN4:Zd (P.set 4 (.int .i64 n'))=true:=ZO rfl 4 hN
 have h04:(P.set 4 (.int .i64 n'))[0]?=some (.int .i64 k):=by rw [List.getElem?_set_ne (by omega)];exact h0
 generalize P.set 4 (.int .i64 n')=R at *
 have c1:=Z1 R hP4
 have c2:=Zao R hP4
 have c4:=fun L=>(Z2 R hP4 0 (by omega) L).trans h04
 split at hk
 ·rename_i c hp
  injection hk with hk;subst hk
  have hG:=fun σ sq hs=>ZfV R hP4 hN4 r1 (by omega) σ 0 sq hs hp
  refine ⟨_,Zw R hP4 hN4 false (r1.map Zc),?_⟩
  rw [Zh (by rfl) Zfv]
  simp -implicitDefEqProofs only [EQA,Nat.reduceLT,Nat.reduceEqDiff,reduceCtorEq,↓reduceIte,Zfz,Zeh,oI,oN,c4,hI,hG]
  exact ZS rfl (Zw R hP4 hN4 _ _)
 rename_i ps' r2 hp
 split at hk
 case isFalse=>cases hk
 rename_i hne
 injection hk with hk;subst hk
 have hG:=fun σ sq hs=>ZdQ R hP4 hN4 r1 (by omega) σ 0 sq hs (ZcY k r1) hp
 have c3:=fun L=>Zat R hP4 9 10 (by omega) rfl L (.lst false (ps'.map Zn))
 have hP9:(R.set 9 (.lst false (ps'.map Zn))).length=26:=by simp [hP4]
 have hN9:Zd (R.set 9 (.lst false (ps'.map Zn)))=true:=ZO (ZbW _ _) 9 hN4
 generalize R.set 9 (.lst false (ps'.map Zn))=S at *
 have d2:=Zao S hP9
 have m1:=Zbs
 have z:¬((r2.length:Nat):Int) > 0:=by omega
 have z2:¬(0:Int) < ((r2.length:Nat):Int):=by omega
 refine ⟨_,Zw S hP9 hN9 false (r2.map Zc),?_⟩
 rw [Zh (by rfl) Zfv]
 simp -implicitDefEqProofs only [EQA,ZC,Nat.reduceAdd,Nat.reduceLT,Nat.reduceLeDiff,Nat.reduceEqDiff,reduceCtorEq,↓reduceIte,Zfz,Zeh,oI,oN,c1,c3,c4,hI,hG,d2,m1,z]
 exact ZS rfl (Zw S hP9 hN9 _ _)
end
end
section
theorem Zt2 {n:Nat} {l r:Zb} {a:Int} (hn:0 < n) (h:ZaE n l=.ok (a,r)):r.length < l.length:=by
 unfold ZaE at h
 split at h
 ·cases h
 ·injection h with h;injection h with _ h;subst h;rw [List.length_drop];omega
theorem ZmH {l r a:Zb} (h:Zap l=.ok (a,r)):r.length < l.length:=by
 unfold Zap at h
 split at h
 ·rename_i h0
  injection h with h;injection h with _ h;subst h
  rw [List.length_drop]
  unfold Zaa at h0 ⊢
  split at h0
  ·rename_i h1;exact absurd h0 h1
  ·rename_i h1
   rw [if_neg h1]
   split at h0
   ·rename_i h2
    rw [if_pos h2]
    unfold ZaC at h0 ⊢
    split at h0
    ·cases h0
    ·rename_i h3
     rw [if_neg h3]
     simp only
     omega
   ·cases h0
 ·cases h
theorem ZkK {k:Int} {l r:Zb} {a:Int} (h:ZaD k l=.ok (a,r)):r.length < l.length:=by
 unfold ZaD at h
 split at h
 ·rename_i h1
  split at h
  ·injection h with h;injection h with _ h;subst h;exact Zt2 (by omega) h1
  ·cases h
 ·cases h
theorem ZiM {l r:Zb} {a:Zbk} (h:Zbl l=.ok (a,r)):r.length < l.length:=by
 unfold Zbl at h
 split at h
 ·cases h
 rename_i f r1 ht
 have l1:=ZmH ht
 split at h
 ·cases h
 rename_i o r2 hn
 have l2:=Zt2 (by omega) hn
 split at h
 case isFalse=>cases h
 split at h
 case isFalse=>cases h
 injection h with h;injection h with _ h;subst h
 omega
section
variable {O:ZL} {bf:Nat->Bool} {f:Nat} {cs cs1 cs2 cs3 xs xs2:List AVal} {w w2:Nat} {q:AVal}
theorem ZFu (hb:bf f=false) (hc:Zd cs=true) (hq:ZG q=true) (hback:∀ ρ:Rho,ρ 1 0=some (1,0)->Ze ρ cs2=cs2) (hO:O f [.ref 0 0] [.var cs]=some (q,[.var cs2,.row 0 w xs])) :
  Zj O bf [.var cs,.free,.free,.free,.free] 1 f 4 false [.ref 0 0]=some (q,[.var cs2,.row 0 w xs,.free,.free,.free],{ any:=true,upd:=[(0,cs2)] }):=by
 have ec:=fun ρ=>ZaM ρ cs hc
 refine ZcP (ids:=[0]) (vs:=[.ref 0 0]) hb rfl (ZeS rfl hc) rfl rfl rfl ?_ hO rfl (by simp) (by simp) rfl rfl (ZaW _ q hq).1 ?_ rfl
 ·show [ZI.var (Ze _ cs)]=_
  rw [(ec _).1]
 ·have hb3:=hback (Zaz [.var cs,.free,.free,.free,.free] [0] 1) rfl
  show [ZI.var (Ze _ cs2),.row 0 w xs,.free,.free,.free]=_
  rw [hb3]
theorem ZwH (hb:bf f=false) (hc:Zd cs=true) (hq:ZG q=true) (hc2:Zd cs2=true) (hO:O f [.ref 0 0] [.var cs]=some (q,[.var cs2])) :
  Zj O bf [.var cs,.free,.free,.free,.free] 1 f 4 false [.ref 0 0]=some (q,[.var cs2,.free,.free,.free,.free],{ any:=true,upd:=[(0,cs2)] }):=by
 have ec:=fun ρ=>ZaM ρ cs hc
 refine ZcP (ids:=[0]) (vs:=[.ref 0 0]) hb rfl (ZeS rfl hc) rfl rfl rfl ?_ hO rfl (by simp) (by simp) rfl rfl (ZaW _ q hq).1 ?_ rfl
 ·show [ZI.var (Ze _ cs)]=_
  rw [(ec _).1]
 ·show [ZI.var (Ze _ cs2),.free,.free,.free,.free]=_
  rw [(ZaM _ cs2 hc2).1]
theorem Zqz {g2:Nat} (hb:bf f=false) (hc:Zp cs=[1]) (hren:∀ ρ:Rho,ρ 1 0=some (1,0)->Ze ρ cs=cs) (hq:ZG q=true) (hg2:g2<=1) (hback:∀ ρ:Rho,ρ 1 g2=some (1,g2)->Ze ρ cs2=cs2) (hO:O f [.ref 0 0] [.var cs,.row 0 w xs]=some (q,[.var cs2,.row g2 w2 xs2])) :
  Zj O bf [.var cs,.row 0 w xs,.free,.free,.free,.free] 2 f 4 false [.ref 0 0]=some (q,[.var cs2,.row g2 w2 xs2,.free,.free,.free,.free],{ any:=true,upd:=[(0,cs2)] }):=by
 refine ZcP (ids:=[0,1]) (vs:=[.ref 0 0]) hb rfl (ZmQ (g:=0) (w:=w) (xs:=xs) rfl rfl (by omega) hc) rfl rfl rfl ?_ hO rfl (by simp) (by simp) ?_ rfl (ZaW _ q hq).1 ?_ rfl
 ·have h1:=hren (Zl [.var cs,.row 0 w xs,.free,.free,.free,.free] 0 [0,1]) rfl
  show [ZI.var (Ze _ cs),.row 0 w xs]=_
  rw [h1]
 ·simp [ZaV,okB,Zb1,Zm,hg2]
 ·have hb3:=hback (Zaz [.var cs,.row 0 w xs,.free,.free,.free,.free] [0,1] 2) (by simp [Zaz,Zm])
  show [ZI.var (Ze _ cs2),.row (0+g2) w2 xs2,.free,.free,.free,.free]=_
  rw [hb3,Nat.zero_add]
theorem Ztv {f g:Nat} (hc:Zp cs=[1]) (hg:g<=1) (hren:∀ ρ:Rho,ρ 1 g=some (1,0)->Ze ρ cs=cs1) (τ:Za) :
  gcT 1 [(1,.fn f [.ref 0 0]),(0,.ref 0 0)] (.var cs::.row g w xs::τ)=([(1,.fn f [.ref 0 0]),(0,.ref 0 0)],[.var cs1,.row 0 w xs]):=by
 have hi:ZB 1 [.fn f [.ref 0 0],.ref 0 0] (.var cs::.row g w xs::τ)=[0,1]:=by
  have hR:List.range 1=[0]:=rfl
  simp only [ZB,hR,List.flatMap_cons,List.flatMap_nil,List.append_nil,List.getD_cons_zero,ZN,Zp,ZV,hc]
  rfl
 have hρ:Zl (.var cs::.row g w xs::τ) 1 [0,1] 1 g=some (1,0):=by
  simp [Zl,ZZ,Zm,ZR]
 have hρ0:Zl (.var cs::.row g w xs::τ) 1 [0,1] 0 0=some (0,0):=rfl
 simp only [gcT,gcA,List.map_cons,List.map_nil,hi,Zv,List.getD_cons_zero,List.getD_cons_succ,ZR,Zm,ZF,Ze,Zk,hρ0,hren _ hρ]
 simp
end
section
variable (Q:List AVal) (hQ:Q.length=26) (hN:Zd Q=true) (h10:Q[10]?=some (.lst true []))
include hQ hN
def H1 (Q:List AVal) (n:Nat) (l:Zb) (ys:List AVal):Za:=[.var (Zi Q 10 1 0 n++[.lst false (l.map Zc)]),.row 0 6 ys]
def tmS:Tms:=[(1,.fn 1000062 [.ref 0 0]),(0,.ref 0 0)]
theorem ZtM:∀ (n:Nat) (l:Zb) (xs:List Zbk),l.length<=n->n+xs.length<=1099511627776 ->
  (∀ ts,ZaI Zbl n l=.ok ts->ZaS 1 tmS (H1 Q xs.length l (xs.map ZU))=some (.tup [],H1 Q (xs++ts).length [] ((xs++ts).map ZU))) /\
  (∀ e,ZaI Zbl n l=.error e->∃ (xs':List Zbk) (r:Zb),ZaS 1 tmS (H1 Q xs.length l (xs.map ZU))=some (.pan (Zy e),H1 Q xs'.length r (xs'.map ZU))):=by
 have hk:(10:Nat) < 26:=by omega
 intro n
 induction n with
 | zero =>
  intro l xs hl hx
  have l0:l=[]:=List.eq_nil_of_length_eq_zero (by omega)
  subst l0
  refine ⟨fun ts h=>?_,fun e h=>by simp [ZaI] at h⟩
  have : ts=[]:=by simpa [ZaI] using h.symm
  subst this
  rw [List.append_nil]
  have hL:=ZbP Q hQ hN 10 hk xs.length 1 0
  have b2:=Zao _ hL
  have hO:=fun τ=>ZcQ (j:=1) (w:=6) (xs:=xs.map ZU) (r:=.tup []) (σ:=.var (Zi Q 10 1 0 xs.length++[.lst false []])::.row 0 6 (xs.map ZU)::τ) rfl (by omega) rfl rfl (Zbo Q hQ hN hk 1 0 xs.length []) (fun ρ h=>ZaJ Q hQ hN hk 1 0 xs.length 1 0 [] ρ h)
  unfold H1 tmS ZaS
  rw [Z9]
  generalize Zi Q 10 1 0 xs.length=R at *
  generalize xs.map ZU=ys at *
  simp -implicitDefEqProofs only [EQA,Zq,Nat.reduceAdd,Nat.reduceSub,Nat.reduceLT,Nat.reduceEqDiff,Nat.reduceBEq,reduceCtorEq,decide_eq_true_eq,↓reduceIte,Zd,Zj7,Zdt,ZcI,oI,b2]
  exact hO _
 | succ n ih =>
  intro l xs hl hx
  have hL:=ZbP Q hQ hN 10 hk xs.length 1 0
  have b2:=Zao _ hL
  by_cases l0:l.length=0
  ·have l0:l=[]:=List.eq_nil_of_length_eq_zero l0
   subst l0
   refine ⟨fun ts h=>?_,fun e h=>by simp [ZaI] at h⟩
   have : ts=[]:=by simpa [ZaI] using h.symm
   subst this
   rw [List.append_nil]
   have hO:=fun τ=>ZcQ (j:=1) (w:=6) (xs:=xs.map ZU) (r:=.tup []) (σ:=.var (Zi Q 10 1 0 xs.length++[.lst false []])::.row 0 6 (xs.map ZU)::τ) rfl (by omega) rfl rfl (Zbo Q hQ hN hk 1 0 xs.length []) (fun ρ h=>ZaJ Q hQ hN hk 1 0 xs.length 1 0 [] ρ h)
   unfold H1 tmS ZaS
   rw [Z9]
   generalize Zi Q 10 1 0 xs.length=R at *
   generalize xs.map ZU=ys at *
   simp -implicitDefEqProofs only [EQA,Zq,Nat.reduceAdd,Nat.reduceSub,Nat.reduceLT,Nat.reduceEqDiff,Nat.reduceBEq,reduceCtorEq,decide_eq_true_eq,↓reduceIte,Zd,Zj7,Zdt,ZcI,oI,b2]
   exact hO _
  ·have z1:((l.length:Nat):Int) > 0:=by omega
   have z2:(0:Int) < ((l.length:Nat):Int):=by omega
   cases ho:Zbl l with
   | error e =>
    refine ⟨fun ts h=>by simp [ZaI,l0,ho] at h,fun e' h=>?_⟩
    have : e'=e:=by simpa [ZaI,l0,ho] using h.symm
    subst this
    obtain ⟨r,hE⟩:=ZyA Q hQ hN l (by omega) xs ho
    have hC:=Zqz (O:=E) (bf:=BY) (f:=62) (g2:=0) (by kernel_rfl) (Zbo Q hQ hN hk 1 0 xs.length l) (fun ρ h=>ZaJ Q hQ hN hk 1 0 xs.length 1 0 l ρ h) (q:=.pan (Zy e')) rfl (by omega) (fun ρ h=>ZaJ Q hQ hN hk 1 0 xs.length 1 0 r ρ h) hE
    have hO:=fun τ=>ZcQ (j:=1) (w:=6) (xs:=xs.map ZU) (r:=.pan (Zy e')) (σ:=.var (Zi Q 10 1 0 xs.length++[.lst false (r.map Zc)])::.row 0 6 (xs.map ZU)::τ) rfl (by omega) rfl rfl (Zbo Q hQ hN hk 1 0 xs.length r) (fun ρ h=>ZaJ Q hQ hN hk 1 0 xs.length 1 0 r ρ h)
    refine ⟨xs,r,?_⟩
    unfold H1 tmS ZaS
    rw [Z9]
    clear hE ih
    generalize Zi Q 10 1 0 xs.length=R at *
    generalize xs.map ZU=ys at *
    generalize Zy e'=ce at *
    simp -implicitDefEqProofs only [EQA,Nat.reduceAdd,Nat.reduceSub,Nat.reduceLT,Nat.reduceEqDiff,Nat.reduceBEq,reduceCtorEq,↓reduceIte,Zdt,ZcI,oI,b2,hC,z1]
    exact hO _
   | ok s =>
    obtain ⟨s,r⟩:=s
    have hr:=ZiM ho
    have hE:=ZHV Q hQ hN xs (by omega) l (by omega) ho
    have hC:=Zqz (O:=E) (bf:=BY) (f:=62) (g2:=1) (by kernel_rfl) (Zbo Q hQ hN hk 1 0 xs.length l) (fun ρ h=>ZaJ Q hQ hN hk 1 0 xs.length 1 0 l ρ h) (q:=.tup []) rfl (by omega) (fun ρ h=>ZaJ Q hQ hN hk 1 1 (xs.length+1) 1 1 r ρ h) hE
    have hG:=Ztv (f:=1000062) (w:=6) (xs:=(xs++[s]).map ZU) (g:=1) (Zbo Q hQ hN hk 1 1 (xs.length+1) r) (by omega) (fun ρ h=>ZaJ Q hQ hN hk 1 1 (xs.length+1) 1 0 r ρ h)
    have step:ZaS 1 tmS (H1 Q xs.length l (xs.map ZU))=ZaS 1 tmS (H1 Q (xs++[s]).length r ((xs++[s]).map ZU)):=by
     rw [show (xs++[s]).length=xs.length+1 from by simp]
     unfold H1 tmS
     conv=>lhs;unfold ZaS
     conv=>rhs;unfold ZaS
     conv=>lhs;rw [Z9]
     clear hE ih
     generalize Zi Q 10 1 0 xs.length=R at *
     generalize Zi Q 10 1 1 (xs.length+1)=R2 at *
     generalize Zi Q 10 1 0 (xs.length+1)=R3 at *
     generalize xs.map ZU=ys at *
     generalize (xs++[s]).map ZU=zs at *
     simp -implicitDefEqProofs only [EQA,Z7,Nat.reduceAdd,Nat.reduceSub,Nat.reduceLT,Nat.reduceEqDiff,Nat.reduceBEq,reduceCtorEq,↓reduceIte,Zdt,ZcI,oI,b2,hC,hG,z1]
    obtain ⟨i1,i2⟩:=ih r (xs++[s]) (by omega) (by simp;omega)
    refine ⟨fun ts h=>?_,fun e h=>?_⟩
    ·rw [step]
     simp only [ZaI,l0,ho,if_false] at h
     cases hl2:ZaI Zbl n r with
     | error e=>rw [hl2] at h;cases h
     | ok us =>
      rw [hl2] at h
      injection h with h;subst h
      have:=i1 us hl2
      rw [List.append_assoc,List.singleton_append] at this
      exact this
    ·rw [step]
     simp only [ZaI,l0,ho,if_false] at h
     cases hl2:ZaI Zbl n r with
     | error e2 =>
      rw [hl2] at h
      injection h with h;subst h
      exact i2 e2 hl2
     | ok us=>rw [hl2] at h;cases h
end
def Zbw {α:Type} (one:Zb->RK α) (k:Int) (l:Zb):Except Int (Int×List Zt×List α):=match Zdo k l with
 | .error e=>.error e
 | .ok (n,ps,r)=>match ZaI one r.length r with
  | .error e=>.error e
  | .ok ts=>.ok (n,ps,ts)
theorem Zir {k:Int} {l:Zb} {n:Int} {ps:List Zt} {r:Zb} (h:Zdo k l=.ok (n,ps,r)):r.length<=l.length/\r.length≠0:=by
 unfold Zdo at h
 split at h
 ·cases h
 rename_i n' r1 hi
 have l1:=ZeE hi
 split at h
 ·cases h
 rename_i ps' r2 hp
 have l2:=ZgB hp
 split at h
 ·cases h
 rename_i hne
 injection h with h;injection h with e1 h;injection h with e2 e3;subst e1 e2 e3
 exact ⟨by omega,hne⟩
theorem ZlG {α:Type} {one:Zb->RK α} {n:Nat} {l:Zb} (h:l.length=n+1) {s:α} {r:Zb} (ho:one l=.ok (s,r)) (hlen:∀ {l s r},one l=.ok (s,r)->r.length < l.length):ZaI one l.length l=match ZaI one n r with
  | .error e=>.error e
  | .ok t=>.ok (s::t):=by
 rw [h]
 simp only [ZaI,h,Nat.add_eq_zero_iff,Nat.succ_ne_self,and_false,if_false,ho]
 all_goals rfl
section
variable {α:Type} {one:Zb->RK α} {g:α->AVal} {f kk:Nat} {k:Int} (hk:kk < 26) (hf:f < 1000000) (hby:BY f=false)
  (hlen:∀ {l s r},one l=.ok (s,r)->r.length < l.length)
  (hT0:∀ Q,QOk k Q->∀ (l:Zb) (s:α) (r:Zb),l.length<=1099511627776->one l=.ok (s,r)->E f [.ref 0 0,.ref 2 0] [.var [.ref 1 0],.var (Q++[.lst false (l.map Zc)]),.var [.ref 1 0]]=some (.tup [],[.var [.ref 1 0],.var (Zi Q kk 3 0 1++[.lst false (r.map Zc)]),.var [.ref 1 0],.row 0 1 [g s]]))
  (hF0:∀ Q,QOk k Q->∀ (l:Zb) (e:Int),l.length<=1099511627776->one l=.error e->∃ r:Zb,E f [.ref 0 0,.ref 2 0] [.var [.ref 1 0],.var (Q++[.lst false (l.map Zc)]),.var [.ref 1 0]]=some (.pan (Zy e),[.var [.ref 1 0],.var (Q++[.lst false (r.map Zc)]),.var [.ref 1 0]]))
  (hT1:∀ Q,QOk k Q->∀ (xs:List α) (l:Zb) (s:α) (r:Zb),l.length<=1099511627776->xs.length<=1099511627776->one l=.ok (s,r)->E f [.ref 0 0,.ref 3 0] [.var [.ref 1 0],.var (Zi Q kk 2 0 xs.length++[.lst false (l.map Zc)]),.row 0 1 (xs.map g),.var [.ref 1 0]]=some (.tup [],[.var [.ref 1 0],.var (Zi Q kk 2 1 (xs.length+1)++[.lst false (r.map Zc)]),.row 1 1 ((xs++[s]).map g),.var [.ref 1 0]]))
  (hF1:∀ Q,QOk k Q->∀ (xs:List α) (l:Zb) (e:Int),l.length<=1099511627776->one l=.error e->∃ r:Zb,E f [.ref 0 0,.ref 3 0] [.var [.ref 1 0],.var (Zi Q kk 2 0 xs.length++[.lst false (l.map Zc)]),.row 0 1 (xs.map g),.var [.ref 1 0]]=some (.pan (Zy e),[.var [.ref 1 0],.var (Zi Q kk 2 0 xs.length++[.lst false (r.map Zc)]),.row 0 1 (xs.map g),.var [.ref 1 0]]))
include hk hf hby hT0
theorem ZsX {Q:List AVal} (hQ:QOk k Q) {l r:Zb} {s:α} (hl:l.length<=1099511627776) (hl0:l.length≠0) (ho:one l=.ok (s,r)) :
  ZaS 3 [(1,.fn f [.ref 1 0,.ref 2 0]),(0,.ref 0 0)] [.var (Q++[.lst false (l.map Zc)]),.var [.ref 0 0],.var [.ref 0 0]]=ZaS 3 [(1,.fn f [.ref 1 0,.ref 2 0]),(0,.ref 0 0)] (H3 Q kk 1 r [g s]):=by
 have hE:=hT0 Q hQ l s r hl ho
 obtain ⟨hL,hN,-,-,-,-⟩:=hQ
 have z1:((l.length:Nat):Int) > 0:=by omega
 have z2:(0:Int) < ((l.length:Nat):Int):=by omega
 have b2:=Zao _ hL
 have hC:=ZLO (O:=E) (bf:=BY) (cs:=Q++[.lst false (l.map Zc)]) (cs3:=Zi Q kk 3 0 1++[.lst false (r.map Zc)]) hby (Zw Q hL hN false (l.map Zc)) (q:=.tup []) rfl (fun ρ h=>ZaJ Q hL hN hk 3 0 1 3 0 r ρ h) hE
 have hG:=ZsI (f:=f) (w:=1) (xs:=[g s]) (g:=0) (Zbo Q hL hN hk 3 0 1 r) (by omega) (fun ρ h=>ZaJ Q hL hN hk 3 0 1 3 0 r ρ h)
 unfold H3
 conv=>lhs;unfold ZaS
 conv=>rhs;unfold ZaS
 conv=>lhs;rw [Z9]
 clear hE hT0
 generalize Zi Q kk 3 0 1=Q2 at *
 simp -implicitDefEqProofs only [EQA,Z7,Nat.reduceAdd,Nat.reduceLT,Nat.reduceEqDiff,Nat.reduceBEq,reduceCtorEq,↓reduceIte,Zdt,ZcI,oI,b2,hC,hG,hf,z1]
omit hT0
include hF0
theorem ZIP {Q:List AVal} (hQ:QOk k Q) {l:Zb} {e:Int} (hl:l.length<=1099511627776) (hl0:l.length≠0) (ho:one l=.error e) :
  ∃ r:Zb,ZaS 3 [(1,.fn f [.ref 1 0,.ref 2 0]),(0,.ref 0 0)] [.var (Q++[.lst false (l.map Zc)]),.var [.ref 0 0],.var [.ref 0 0]]=some (.pan (Zy e),[.var (Q++[.lst false (r.map Zc)]),.var [.ref 0 0],.var [.ref 0 0]]):=by
 obtain ⟨r,hE⟩:=hF0 Q hQ l e hl ho
 obtain ⟨hL,hN,-,-,-,-⟩:=hQ
 have z1:((l.length:Nat):Int) > 0:=by omega
 have z2:(0:Int) < ((l.length:Nat):Int):=by omega
 have b2:=Zao _ hL
 have hC:=ZHK (O:=E) (bf:=BY) (cs:=Q++[.lst false (l.map Zc)]) (cs2:=Q++[.lst false (r.map Zc)]) hby (Zw Q hL hN false (l.map Zc)) (q:=.pan (Zy e)) rfl (Zw Q hL hN false (r.map Zc)) hE
 have hO:=fun τ=>Zke (r:=.pan (Zy e)) rfl (Zw Q hL hN false (r.map Zc)) τ
 refine ⟨r,?_⟩
 unfold ZaS
 rw [Z9]
 clear hE hF0
 generalize Zy e=ce at *
 simp -implicitDefEqProofs only [EQA,Nat.reduceAdd,Nat.reduceLT,Nat.reduceEqDiff,Nat.reduceBEq,reduceCtorEq,↓reduceIte,Zdt,ZcI,oI,b2,hC,hf,z1]
 exact hO _
include hT0 hT1 hF1 hlen
theorem ZnV {P:List AVal} (hP:QOk k P) {l:Zb} (hl:l.length<=1099511627775) {n:Int} {ps:List Zt} {ts:List α} (h:Zbw one k l=.ok (n,ps,ts)) :
  E 61 [.ref 0 0,.fn f [.ref 1 0,.ref 2 0]] [.var (P++[.lst false (l.map Zc)]),.var [.ref 0 0],.var [.ref 0 0]]=some (.tup [],H3 (ZbO P n ps) kk ts.length [] (ts.map g)):=by
 unfold Zbw at h
 split at h
 ·cases h
 rename_i n' ps' r hm
 obtain ⟨l1,l2⟩:=Zir hm
 split at h
 ·cases h
 rename_i us hu
 injection h with h;injection h with e1 h;injection h with e2 e3;subst e1 e2 e3
 rw [Zsa k f P hP l (by omega) hm]
 have hQ:=Zdk hP n' ps'
 generalize ZbO P n' ps'=Q at *
 obtain ⟨j,hj⟩:∃ j,r.length=j+1:=⟨r.length - 1,by omega⟩
 cases ho:one r with
 | error e =>
  rw [hj] at hu
  simp only [ZaI,hj,Nat.add_eq_zero_iff,Nat.succ_ne_self,and_false,if_false,ho] at hu
  cases hu
 | ok sr =>
  obtain ⟨s,r'⟩:=sr
  have hr:=hlen ho
  rw [ZlG hj ho hlen] at hu
  cases hl2:ZaI one j r' with
  | error e=>rw [hl2] at hu;cases hu
  | ok vs =>
   rw [hl2] at hu
   injection hu with hu;subst hu
   rw [ZsX hk hf hby hT0 hQ (by omega) l2 ho]
   exact (Zr8 (g:=g) Q hQ.len hQ.nor hk hf hby hlen (hT1 Q hQ) (hF1 Q hQ) j r' [s] (by omega) (by simp;omega)).1 vs hl2
theorem ZpP {P:List AVal} (hP:QOk k P) {l:Zb} (hl:l.length<=1099511627775) {e:Int} (h:Zbw one k l=.error e) :
  (∃ cs,Zd cs=true/\E 61 [.ref 0 0,.fn f [.ref 1 0,.ref 2 0]] [.var (P++[.lst false (l.map Zc)]),.var [.ref 0 0],.var [.ref 0 0]]=some (.pan (Zy e),[.var cs,.var [.ref 0 0],.var [.ref 0 0]])) \/
  (∃ (Q:List AVal) (xs:List α) (r:Zb),Q.length=26/\Zd Q=true/\E 61 [.ref 0 0,.fn f [.ref 1 0,.ref 2 0]] [.var (P++[.lst false (l.map Zc)]),.var [.ref 0 0],.var [.ref 0 0]]=some (.pan (Zy e),H3 Q kk xs.length r (xs.map g))):=by
 unfold Zbw at h
 split at h
 ·rename_i c hm
  injection h with h;subst h
  exact Or.inl (ZCc k f P hP l (by omega) hm)
 rename_i n' ps' r hm
 obtain ⟨l1,l2⟩:=Zir hm
 rw [Zsa k f P hP l (by omega) hm]
 have hQ:=Zdk hP n' ps'
 generalize ZbO P n' ps'=Q at *
 obtain ⟨j,hj⟩:∃ j,r.length=j+1:=⟨r.length - 1,by omega⟩
 split at h
 case h_2=>cases h
 rename_i c hu
 injection h with h;subst h
 cases ho:one r with
 | error e =>
  have : e=c:=by
   rw [hj] at hu
   simp only [ZaI,hj,Nat.add_eq_zero_iff,Nat.succ_ne_self,and_false,if_false,ho] at hu
   injection hu
  subst this
  obtain ⟨r',hr'⟩:=ZIP hk hf hby hF0 hQ (by omega) l2 ho
  exact Or.inl ⟨_,Zw Q hQ.len hQ.nor false (r'.map Zc),hr'⟩
 | ok sr =>
  obtain ⟨s,r'⟩:=sr
  have hr:=hlen ho
  rw [ZlG hj ho hlen] at hu
  cases hl2:ZaI one j r' with
  | ok vs=>rw [hl2] at hu;cases hu
  | error e2 =>
   rw [hl2] at hu
   injection hu with hu;subst hu
   rw [ZsX hk hf hby hT0 hQ (by omega) l2 ho]
   obtain ⟨xs',r2,hx⟩:=(Zr8 (g:=g) Q hQ.len hQ.nor hk hf hby hlen (hT1 Q hQ) (hF1 Q hQ) j r' [s] (by omega) (by simp;omega)).2 e2 hl2
   exact Or.inr ⟨Q,xs',r2,hQ.len,hQ.nor,hx⟩
end
section
theorem ZuP {Q:List AVal} (hQ:QOk 8 Q) {l r:Zb} {s:Zbk} (hl:l.length<=1099511627776) (hl0:l.length≠0) (ho:Zbl l=.ok (s,r)) :
  ZaS 1 tmS [.var (Q++[.lst false (l.map Zc)])]=ZaS 1 tmS (H1 Q 1 r [ZU s]):=by
 obtain ⟨hL,hN,-,-,h10,-⟩:=hQ
 have hk:(10:Nat) < 26:=by omega
 have hE:=ZGT Q hL hN h10 l (by omega) ho
 unfold Zg at hE
 have z1:((l.length:Nat):Int) > 0:=by omega
 have z2:(0:Int) < ((l.length:Nat):Int):=by omega
 have b2:=Zao _ hL
 have hC:=ZFu (O:=E) (bf:=BY) (f:=62) (cs:=Q++[.lst false (l.map Zc)]) (by kernel_rfl) (Zw Q hL hN false (l.map Zc)) (q:=.tup []) rfl (fun ρ h=>ZaJ Q hL hN hk 1 0 1 1 0 r ρ h) hE
 have hG:=Ztv (f:=1000062) (w:=6) (xs:=[ZU s]) (g:=0) (Zbo Q hL hN hk 1 0 1 r) (by omega) (fun ρ h=>ZaJ Q hL hN hk 1 0 1 1 0 r ρ h)
 unfold H1 tmS
 conv=>lhs;unfold ZaS
 conv=>rhs;unfold ZaS
 conv=>lhs;rw [Z9]
 clear hE
 generalize Zi Q 10 1 0 1=Q2 at *
 generalize ZU s=sv at *
 simp -implicitDefEqProofs only [EQA,Z7,Nat.reduceAdd,Nat.reduceSub,Nat.reduceLT,Nat.reduceEqDiff,Nat.reduceBEq,reduceCtorEq,↓reduceIte,Zdt,ZcI,oI,b2,hC,hG,z1]
theorem ZI5 {Q:List AVal} (hQ:QOk 8 Q) {l:Zb} {e:Int} (hl:l.length<=1099511627776) (hl0:l.length≠0) (ho:Zbl l=.error e) :
  ∃ cs,Zd cs=true/\ZaS 1 tmS [.var (Q++[.lst false (l.map Zc)])]=some (.pan (Zy e),[.var cs]):=by
 obtain ⟨hL,hN,-,-,h10,-⟩:=hQ
 obtain ⟨cs,hc,hE⟩:=ZKL Q hL hN l (by omega) ho
 unfold Zg at hE
 have z1:((l.length:Nat):Int) > 0:=by omega
 have z2:(0:Int) < ((l.length:Nat):Int):=by omega
 have b2:=Zao _ hL
 have hC:=ZwH (O:=E) (bf:=BY) (f:=62) (cs:=Q++[.lst false (l.map Zc)]) (by kernel_rfl) (Zw Q hL hN false (l.map Zc)) (q:=.pan (Zy e)) rfl hc hE
 have hO:=fun τ=>ZS (r:=.pan (Zy e)) (σ:=τ) rfl hc
 refine ⟨cs,hc,?_⟩
 unfold ZaS tmS
 rw [Z9]
 clear hE
 generalize Zy e=ce at *
 simp -implicitDefEqProofs only [EQA,Nat.reduceAdd,Nat.reduceSub,Nat.reduceLT,Nat.reduceEqDiff,Nat.reduceBEq,reduceCtorEq,↓reduceIte,Zdt,ZcI,oI,b2,hC,z1]
 exact hO _
theorem Zy1 {P:List AVal} (hP:QOk 8 P) {l:Zb} (hl:l.length<=1099511627775) {n:Int} {ps:List Zt} {ts:List Zbk} (h:Zbw Zbl 8 l=.ok (n,ps,ts)) :
  E 61 [.ref 0 0,.fn 1000062 [.ref 0 0]] [.var (P++[.lst false (l.map Zc)])]=some (.tup [],H1 (ZbO P n ps) ts.length [] (ts.map ZU)):=by
 unfold Zbw at h
 split at h
 ·cases h
 rename_i n' ps' r hm
 obtain ⟨l1,l2⟩:=Zir hm
 split at h
 ·cases h
 rename_i us hu
 injection h with h;injection h with e1 h;injection h with e2 e3;subst e1 e2 e3
 rw [Zt5 8 1000062 P hP l (by omega) hm]
 have hQ:=Zdk hP n' ps'
 generalize ZbO P n' ps'=Q at *
 obtain ⟨j,hj⟩:∃ j,r.length=j+1:=⟨r.length - 1,by omega⟩
 cases ho:Zbl r with
 | error e =>
  rw [hj] at hu
  simp only [ZaI,hj,Nat.add_eq_zero_iff,Nat.succ_ne_self,and_false,if_false,ho] at hu
  cases hu
 | ok sr =>
  obtain ⟨s,r'⟩:=sr
  have hr:=ZiM ho
  rw [ZlG hj ho ZiM] at hu
  cases hl2:ZaI Zbl j r' with
  | error e=>rw [hl2] at hu;cases hu
  | ok vs =>
   rw [hl2] at hu
   injection hu with hu;subst hu
   show ZaS 1 tmS _=_
   rw [ZuP hQ (by omega) l2 ho]
   exact (ZtM Q hQ.len hQ.nor j r' [s] (by omega) (by simp;omega)).1 vs hl2
theorem ZyX {P:List AVal} (hP:QOk 8 P) {l:Zb} (hl:l.length<=1099511627775) {e:Int} (h:Zbw Zbl 8 l=.error e) :
  (∃ cs,Zd cs=true/\E 61 [.ref 0 0,.fn 1000062 [.ref 0 0]] [.var (P++[.lst false (l.map Zc)])]=some (.pan (Zy e),[.var cs])) \/
  (∃ (Q:List AVal) (xs:List Zbk) (r:Zb),Q.length=26/\Zd Q=true/\E 61 [.ref 0 0,.fn 1000062 [.ref 0 0]] [.var (P++[.lst false (l.map Zc)])]=some (.pan (Zy e),H1 Q xs.length r (xs.map ZU))):=by
 unfold Zbw at h
 split at h
 ·rename_i c hm
  injection h with h;subst h
  exact Or.inl (ZIO 8 1000062 P hP l (by omega) hm)
 rename_i n' ps' r hm
 obtain ⟨l1,l2⟩:=Zir hm
 rw [Zt5 8 1000062 P hP l (by omega) hm]
 have hQ:=Zdk hP n' ps'
 generalize ZbO P n' ps'=Q at *
 obtain ⟨j,hj⟩:∃ j,r.length=j+1:=⟨r.length - 1,by omega⟩
 split at h
 case h_2=>cases h
 rename_i c hu
 injection h with h;subst h
 show (∃ cs,Zd cs=true/\ZaS 1 tmS _=_)\/(∃ (Q:List AVal) (xs:List Zbk) (r:Zb),Q.length=26/\Zd Q=true/\ZaS 1 tmS _=_)
 cases ho:Zbl r with
 | error e =>
  have : e=c:=by
   rw [hj] at hu
   simp only [ZaI,hj,Nat.add_eq_zero_iff,Nat.succ_ne_self,and_false,if_false,ho] at hu
   injection hu
  subst this
  exact Or.inl (ZI5 hQ (by omega) l2 ho)
 | ok sr =>
  obtain ⟨s,r'⟩:=sr
  have hr:=ZiM ho
  rw [ZlG hj ho ZiM] at hu
  cases hl2:ZaI Zbl j r' with
  | ok vs=>rw [hl2] at hu;cases hu
  | error e2 =>
   rw [hl2] at hu
   injection hu with hu;subst hu
   rw [ZuP hQ (by omega) l2 ho]
   obtain ⟨xs',r2,hx⟩:=(ZtM Q hQ.len hQ.nor j r' [s] (by omega) (by simp;omega)).2 e2 hl2
   exact Or.inr ⟨Q,xs',r2,hQ.len,hQ.nor,hx⟩
end
end
end Go.Proofs.YtmlkhhidifjjfaaGreatDoor
