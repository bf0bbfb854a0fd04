/- The card of PacketReads: for every input the law returns true, and each argument reads afterwards as it read before. No other condition; the tables of unicode/utf8 are tied to the program. -/
import Derived.Test.YtjhabjdfhmbanaaGreatDoorMq4
import Derived.Test.YtjhabjdfhmbanaaGreatDoorMq2
import Derived.Test.YtjhabjdfhmbanaaGreatDoorMq3
import Derived.Test.YtjhabjdfhmbanaaGreatDoorMq1
import Derived.Lib.LaidU8T
import Derived.Test.YtjhabjdfhmbanaaGreatDoorRows
import Derived.Deep.Slices
import Derived.Test.YtjhabjdfhmbanaaGreatDoorCards
import Derived.Test.YtjhabjdfhmbanaaGreatDoorTie
import Derived.WalkKit
import Derived.ProofKit
import Derived.OpenShut
import Derived.ShutString
import Derived.ChangeOld
import Derived.Below
import Derived.SevenTiedAt
import Derived.LaidByTextLater
import Derived.Lib.LaidIn
import Derived.Deep.DeepHandedRow
import Derived.MakeChecks
import Derived.SizedLaws
set_option linter.unusedSectionVars false
set_option linter.unusedSimpArgs false
set_option linter.unusedVariables false
open Nat renaming reduceEqDiff→Xa,reduceLT→Xc,reduceAdd→Xd,reduceLeDiff→Xf,reduceBEq→Xg,zero_add→XF,le_refl→XH,add_zero→X6,one_mul→WL,reduceMul→XaR
open Option.some renaming injEq→Xb,inj→WP
open Prod.mk renaming injEq→Xe
open Bool renaming false_eq_true→Xi,and_eq_true→Xk,and_self→XT,false_and→Wi,and_true→Xag,and_false→XaZ
open Int renaming reduceBEq→Xj,reduceLT→Wc,toNat_of_nonneg→XaA,reduceBNe→Xbc
open List renaming getElem?_set_ne→Xl,getD_cons_zero→Xm,nil_append→Xp,append_nil→Xr,getD_cons_succ→Xs,map_cons→Xu,range_succ→Xv,length_nil→Xw,all_eq_true→Xy,length_cons→Xz,map_nil→XC,mem_append→XE,take_of_length_le→XG,cons_append→XJ,getElem?_cons_zero→XK,getElem?_cons_succ→XN,lookup_nil→XP,flatMap_nil→XQ,length_map→XS,getElem?_set_self→XV,all_cons→XW,mem_cons→X0,range→X5,isEmpty_nil→X8,contains_nil→Wh,set_comm→Wj,set_cons_succ→Wp,set_set→WD,set_cons_zero→WG,take→WI,range_zero→W3,length→Xaz,headD_cons→Xa9
open Option renaming map_eq_some_iff→Xo
open Or renaming inl→Xq,inr→Xt
open BitVec renaming ofInt→XR
namespace Go.Proofs.YtjhabjdfhmbanaaGreatDoor
set_option maxHeartbeats 16000000
set_option maxRecDepth 10000
section
def ZlG:Zf:=by apply Zb 8 [0] [];conv=>lhs;reduce;dsimp only[zi]
def ZmQ:Zf:=by apply Zb 8 [1,0] [];conv=>lhs;reduce;dsimp only[zi]
def ZmB:Zf:=by apply Zb 8 [1,1,0] [];conv=>lhs;reduce;dsimp only[zi]
def ZmL:Zf:=by apply Zb 8 [1,1,1,0] [];conv=>lhs;reduce;dsimp only[zi]
def Ziq:Zf:=by apply Zb 8 [1,1,1,1,0] [];conv=>lhs;reduce;dsimp only[zi]
def Zf4:Zf:=by apply Zb 8 [1,1,1,1,1,0] [];conv=>lhs;reduce;dsimp only[zi]
def ZhQ:Zf:=by apply Zb 8 [1,1,1,1,1,1,0] [];conv=>lhs;reduce;dsimp only[zi]
def Ztd:Zf:=by apply Zb 8 [1,1,1,1,1,1,1,0] [];conv=>lhs;reduce;dsimp only[zi]
def ZjM:Zf:=by apply Zb 8 [1,1,1,1,1,1,1,1,0] [];conv=>lhs;reduce;dsimp only[zi]
def ZjP:Zf:=by apply Zb 8 [1,1,1,1,1,1,1,1,1,0] [];conv=>lhs;reduce;dsimp only[zi]
def ZkU:Zf:=by apply Zb 8 [1,1,1,1,1,1,1,1,1,1,0] [];conv=>lhs;reduce;dsimp only[zi]
def Zlm:Zf:=by apply Zb 8 [1,1,1,1,1,1,1,1,1,1,1,0] [];conv=>lhs;reduce;dsimp only[zi]
theorem ZLC:ZiN=(.seq ZlG (.seq ZmQ (.seq ZmB (.seq ZmL (.seq Ziq (.seq Zf4 (.seq ZhQ (.seq Ztd (.seq ZjM (.seq ZjP (.seq ZkU (.seq Zlm .ret)))))))))))):=rfl
def flB(b:Int):Int:=IntKind.i64.wrap (ZaF b 15)
theorem ZNP(b:Int)(hb:0<=b/\b<256):flB b=ZaF b 15/\(Zk (flB b) 8 != 0)=(ZaF b 8 != 0)/\Zk (ZaL (flB b) 1) 3=qoI b/\(Zk (flB b) 1 != 0)=(ZaF b 1 != 0)/\0<=qoI b/\qoI b<=3:=by
 have h:∀ n:Nat,n<256->flB (n:Int)=ZaF (n:Int) 15/\(Zk (flB (n:Int)) 8 != 0)=(ZaF (n:Int) 8 != 0)/\Zk (ZaL (flB (n:Int)) 1) 3=qoI (n:Int)/\(Zk (flB (n:Int)) 1 != 0)=(ZaF (n:Int) 1 != 0)/\0<=qoI (n:Int)/\qoI (n:Int)<=3:=by decide +kernel
 have:=h b.toNat (by omega)
 rwa [XaA hb.1]at this
def tb3:Tms:=[(4,.ref 2 0),(2,.ref 1 0),(1,.ref 0 0)]
def hA(b:Int)(f:Bool)(l:Zd)(P:List AVal):Za:=[.var [.int .u8 b,.lst f (l.map Zh)],.var P0,.var P]
section
variable (b:Int)(f:Bool)(l:Zd)
theorem ZOS:evC FC PR BY 0 (.seq ZlG ZmQ) (enterA 0 [.agg [.int .u8 b,.lst f (l.map Zh)]] []) []=some (.normal,tb3,hA b f l (P0.set 0 (.int .i64 (tyI b)))):=by
 unfold tb3 hA P0 tyI
 simp -implicitDefEqProofs only[EQA,Zs,Zc,Xd,Xc,Xf,Xa,Xg,Zbh,↓reduceIte,Zb,ZlG,ZmQ,AVal.cells,Zao,Wc,ZY]
variable (P:List AVal)(t:Int)(h0:P[0]?=some (.int .i64 t))
theorem ZDf:evC FC PR BY 0 ZmB tb3 (hA b f l P)=some (.normal,(5,.int .i64 (flB b))::tb3,hA b f l P):=by
 unfold tb3 hA flB ZaF
 simp -implicitDefEqProofs only[EQA,Zc,Xd,Xc,Xa,↓reduceIte,Zb,ZmB]
theorem ZAY:evC FC PR BY 0 ZmL ((5,.int .i64 (flB b))::tb3) (hA b f l P)=some (.normal,(6,.int .i64 0)::(5,.int .i64 (flB b))::tb3,hA b f l P):=by
 unfold tb3 hA
 simp -implicitDefEqProofs only[EQA,Zc,Xd,Xc,Xa,↓reduceIte,Zb,ZmL]
include h0
theorem ZPM:∃ tm,(tm=(6,.int .i64 (Zc6 t))::(5,.int .i64 (flB b))::tb3\/tm=(29,.bool false)::(6,.int .i64 (Zc6 t))::(5,.int .i64 (flB b))::tb3)/\evC FC PR BY 0 Ziq ((6,.int .i64 0)::(5,.int .i64 (flB b))::tb3) (hA b f l P)=some (.normal,tm,hA b f l P):=by
 unfold Zc6
 by_cases h6:t=6
 ·refine⟨_,Xq rfl,?_⟩
  subst h6
  unfold tb3 hA
  simp -implicitDefEqProofs only[EQA,Zc,Xd,Xc,Xa,Zy,Z6,reduceCtorEq,↓reduceIte,Zb,Ziq,h0]
 by_cases h8:t=8
 ·refine⟨_,Xq rfl,?_⟩
  subst h8
  unfold tb3 hA
  simp -implicitDefEqProofs only[EQA,Zc,Xd,Xc,Xa,Zy,Z6,unG,reduceCtorEq,↓reduceIte,Zb,Ziq,h0,Xj]
 by_cases h10:t=10
 ·refine⟨_,Xq rfl,?_⟩
  subst h10
  unfold tb3 hA
  simp -implicitDefEqProofs only[EQA,Zc,Xd,Xc,Xa,Zy,unG,↓reduceIte,Zb,Ziq,h0,Xj]
 have b6:(t==6)=false:=by simpa using h6
 have b8:(t==8)=false:=by simpa using h8
 have b10:(t==10)=false:=by simpa using h10
 refine⟨_,Xt rfl,?_⟩
 rw[if_neg (by omega)]
 unfold tb3 hA
 simp -implicitDefEqProofs only[EQA,Zc,Xd,Xc,Xa,Zy,unG,↓reduceIte,Zb,Ziq,h0,b6,b8,b10]
def Zfp(b t:Int):Bool:=(t==0) ||((t != 3)&&(flB b != Zc6 t)) ||((t==3)&&(Zk (ZaL (flB b) 1) 3==3))
theorem ZHe{tm:Tms}(ht:tm=(6,.int .i64 (Zc6 t))::(5,.int .i64 (flB b))::tb3\/tm=(29,.bool false)::(6,.int .i64 (Zc6 t))::(5,.int .i64 (flB b))::tb3) :
  evC FC PR BY 0 Zf4 tm (hA b f l P)=if Zfp b t then some (.ret,[(3,.int .i64 129),(2,.ref 1 0)],hA b f l P)else some (.normal,(53,.bool false)::(5,.int .i64 (flB b))::tb3,hA b f l P):=by
 have key:∀ c,Zfp b t=c->evC FC PR BY 0 Zf4 tm (hA b f l P)=if c then some (.ret,[(3,.int .i64 129),(2,.ref 1 0)],hA b f l P)else some (.normal,(53,.bool false)::(5,.int .i64 (flB b))::tb3,hA b f l P):=by
  intro c hc
  unfold Zfp Zk ZaL at hc
  have p1:P0.all ZY=true:=rfl
  by_cases e0:t=0
  ·subst e0
   have : c=true:=by rw[<-hc];rfl
   subst this
   unfold hA P0
   rcases ht with rfl |rfl<;>unfold tb3<;>simp -implicitDefEqProofs only[EQA,Zc,Xd,Xc,Xf,Xa,Zy,Z6,reduceCtorEq,↓reduceIte,Zb,Zf4,h0,Zao,AVal.cells,ZY]
  ·have b0:(t==0)=false:=by simpa using e0
   by_cases e3:t=3
   ·subst e3
    cases e4:(IntKind.i64.wrap (XR IntKind.i64.bits ((flB b).fdiv (2^min (Int.toNat 1) IntKind.i64.bits))&&&XR IntKind.i64.bits 3).toNat==3)<;>rw[e4]at hc
    ·have : c=false:=by rw[<-hc];rfl
     subst this
     unfold hA P0
     rcases ht with rfl |rfl<;>unfold tb3<;>simp -implicitDefEqProofs only[EQA,Zc,Xd,Xc,Xa,Zbh,Zy,Z6,unG,reduceCtorEq,↓reduceIte,Zb,Zf4,h0,e4,Xj,Xbc,Wc]
    ·have : c=true:=by rw[<-hc];rfl
     subst this
     unfold hA P0
     rcases ht with rfl |rfl<;>unfold tb3<;>simp -implicitDefEqProofs only[EQA,Zc,Xd,Xc,Xf,Xa,Zbh,Zy,Z6,unG,reduceCtorEq,↓reduceIte,Zb,Zf4,h0,e4,Zao,AVal.cells,ZY,Xj,Xbc,Wc]
   ·have b3:(t==3)=false:=by simpa using e3
    have b3':(t != 3)=true:=by simpa using e3
    rw[b0,b3,b3']at hc
    cases e4:(flB b != Zc6 t)<;>rw[e4]at hc
    ·have : c=false:=by rw[<-hc];rfl
     subst this
     unfold hA P0
     rcases ht with rfl |rfl<;>unfold tb3<;>simp -implicitDefEqProofs only[EQA,Zc,Xd,Xc,Xa,Zy,Z6,unG,reduceCtorEq,↓reduceIte,Zb,Zf4,h0,e4,b0,b3,b3']
    ·have : c=true:=by rw[<-hc];rfl
     subst this
     unfold hA P0
     rcases ht with rfl |rfl<;>unfold tb3<;>simp -implicitDefEqProofs only[EQA,Zc,Xd,Xc,Xf,Xa,Zy,Z6,unG,reduceCtorEq,↓reduceIte,Zb,Zf4,h0,e4,b0,b3',Zao,AVal.cells,ZY]
 grind
theorem ZNH(h3:t≠3):evC FC PR BY 0 ZhQ ((53,.bool false)::(5,.int .i64 (flB b))::tb3) (hA b f l P)=some (.normal,(57,.bool false)::(5,.int .i64 (flB b))::tb3,hA b f l P):=by
 have b3:(t==3)=false:=by simpa using h3
 unfold hA tb3
 simp -implicitDefEqProofs only[EQA,Zc,Xd,Xc,Xa,↓reduceIte,Zb,ZhQ,h0,b3]
end
def Zip(P:List AVal)(F:Int):List AVal:=((P.set 1 (.bool (Zk F 8 != 0))).set 2 (.int .i64 (Zk (ZaL F 1) 3))).set 3 (.bool (Zk F 1 != 0))
section
variable (b:Int)(f:Bool)(l:Zd)(P:List AVal)(h0:P[0]?=some (.int .i64 3))(hP:P.length=26)
include h0 hP
theorem ZQ2:evC FC PR BY 0 ZhQ ((53,.bool false)::(5,.int .i64 (flB b))::tb3) (hA b f l P)=if(Zk (flB b) 8 != 0)&&(Zk (ZaL (flB b) 1) 3==0)then some (.ret,[(3,.int .i64 130),(2,.ref 1 0)],hA b f l (Zip P (flB b)))else some (.normal,(76,.bool false)::tb3,hA b f l (Zip P (flB b))):=by
 unfold Zip
 have put:∀ (Q:List AVal) (k k':Nat) (v:AVal),Q.length=26->k<26->k'=k+1->WI k Q++[v]++List.drop k' Q=Q.set k v:=by
  intro Q k k' v hQ hk hk'
  subst hk'
  rw[List.set_eq_take_append_cons_drop,if_pos (by grind)];simp
 have a3:=put P 1 2 (.bool (Zk (flB b) 8 != 0)) hP (by omega) rfl
 have q1:(P.set 1 (.bool (Zk (flB b) 8 != 0))).length=26:=by simp[hP]
 have g1:(P.set 1 (.bool (Zk (flB b) 8 != 0)))[1]?=some (.bool (Zk (flB b) 8 != 0)):=XV (by omega)
 generalize P.set 1 (.bool (Zk (flB b) 8 != 0))=P1 at *
 have b3:=put P1 2 3 (.int .i64 (Zk (ZaL (flB b) 1) 3)) q1 (by omega) rfl
 have q2:(P1.set 2 (.int .i64 (Zk (ZaL (flB b) 1) 3))).length=26:=by simp[q1]
 have g2:(P1.set 2 (.int .i64 (Zk (ZaL (flB b) 1) 3)))[2]?=some (.int .i64 (Zk (ZaL (flB b) 1) 3)):=XV (by omega)
 have g1':(P1.set 2 (.int .i64 (Zk (ZaL (flB b) 1) 3)))[1]?=some (.bool (Zk (flB b) 8 != 0)):=by rw[Xl (by omega)];exact g1
 generalize P1.set 2 (.int .i64 (Zk (ZaL (flB b) 1) 3))=P2 at *
 have c3:=put P2 3 4 (.bool (Zk (flB b) 1 != 0)) q2 (by omega) rfl
 have q3:(P2.set 3 (.bool (Zk (flB b) 1 != 0))).length=26:=by simp[q2]
 have g3:(P2.set 3 (.bool (Zk (flB b) 1 != 0)))[2]?=some (.int .i64 (Zk (ZaL (flB b) 1) 3)):=by rw[Xl (by omega)];exact g2
 have g3':(P2.set 3 (.bool (Zk (flB b) 1 != 0)))[1]?=some (.bool (Zk (flB b) 8 != 0)):=by rw[Xl (by omega)];exact g1'
 generalize P2.set 3 (.bool (Zk (flB b) 1 != 0))=P3 at *
 unfold hA tb3 P0
 unfold Zk ZaL at *
 cases e1:(IntKind.i64.wrap (XR IntKind.i64.bits (flB b)&&&XR IntKind.i64.bits 8).toNat != 0)<;>rw[e1]at a3 g3'
 ·rw[if_neg (by simp)]
  simp -implicitDefEqProofs only[EQA,Zs,ZE,Zc,Xd,Xc,Xf,Xa,Zbh,Zy,Z6,↓reduceIte,Zb,ZhQ,h0,hP,q1,q2,a3,b3,c3,g3',e1,Wc]
 ·cases e2:(IntKind.i64.wrap (XR IntKind.i64.bits ((flB b).fdiv (2^min (Int.toNat 1) IntKind.i64.bits))&&&XR IntKind.i64.bits 3).toNat==0)
  ·rw[if_neg (by simp)]
   simp -implicitDefEqProofs only[EQA,Zs,ZE,Zc,Xd,Xc,Xf,Xa,Zbh,Zy,unG,↓reduceIte,Zb,ZhQ,h0,hP,q1,q2,a3,b3,c3,g3,g3',e1,e2,Wc]
  ·rw[if_pos (by simp)]
   simp -implicitDefEqProofs only[EQA,Zc,Xd,Xc,Xf,Xa,Zbh,Zy,unG,↓reduceIte,Zb,ZhQ,h0,hP,q1,q2,a3,b3,c3,g3,g3',e1,e2,Zao,AVal.cells,ZY,Wc]
end
def hBR(a0 a1:ZP)(P cs:List AVal)(B:Za):Za:=a0::a1::.var P::.var cs::B
def tb7:Tms:=[(7,.ref 3 0),(4,.ref 2 0),(2,.ref 1 0)]
theorem Zy5(b:Int)(f:Bool)(l:Zd)(P:List AVal){tm:Tms}(ht:tm=(57,.bool false)::(5,.int .i64 (flB b))::tb3\/tm=(76,.bool false)::tb3):evC FC PR BY 0 Ztd tm (hA b f l P)=some (.normal,tb7,[.var [.int .u8 b,.lst f (l.map Zh)],.var P0,.var P,.var [.lst f (l.map Zh),.int .i64 0]]):=by
 unfold hA tb7 P0
 rcases ht with rfl |rfl<;>unfold tb3<;>simp -implicitDefEqProofs only[EQA,Zs,Zc,Xd,Xc,Xf,Xa,Xg,↓reduceIte,Zb,Ztd,Zao,AVal.cells]
section
variable {O:ZS}{bf:Nat->Bool}{f:Nat}{s s':RS}{P P' Q xs:List AVal}{a0 a1:ZP}{k n w:Nat}{L c:AVal}(hb:bf f=false)(hn:Ze P=true)
include hb hn
theorem Zzj(B:Za):Zt (hBR a0 a1 P (rs s) B) 1000 (Zl [.ref 3 0,.ref 2 0]) []=[3,2]:=by
 have e1:=fun C s=>Z5 C (rs s) (ZbA s)
 have e2:=fun C=>Z5 C P hn
 unfold hBR
 simp only[Zl,ZH,Xr,XJ,Xp]
 rw[show(1000:Nat)=997+1+1+1 from rfl,Zt]
 simp only[Wh,Xi,if_false,Xm,Xs,ZB,(e1 (fun _ _=>none) s).2,Xp]
 rw[Zt]
 have : ([3]:List Nat).contains 2=false:=rfl
 simp only[this,Xi,if_false,Xs,Xm,ZB,(e2 (fun _ _=>none)).2,Xr]
 rfl
theorem ZU9(hn':Ze P'=true)(h:O f [.ref 0 0,.ref 1 0] (hr s P)=some (.tup [],hr s' P')):Zq O bf (hBR a0 a1 P (rs s) [.free]) 4 f 1 true [.ref 3 0,.ref 2 0]=some (.tup [],hBR a0 a1 P' (rs s') [.free],{ any:=true,upd:=[(3,rs s'),(2,P')] }):=by
 have e1:=fun C s=>Z5 C (rs s) (ZbA s)
 have e2:=fun C=>Z5 C P hn
 have e3:=fun C=>Z5 C P' hn'
 have hask:ZV true 2 (some (.tup [],hr s' P'))=some (.tup [],hr s' P'):=by
  have:=Zen (s:=s') hn' []
  unfold ZV
  rw[if_pos rfl]
  exact this
 refine Zcf (vs:=[.ref 3 0,.ref 2 0]) (ids:=[3,2]) hb rfl (Zzj hb hn _) rfl rfl rfl ?_ h hask (by simp[hr]) (by simp[hr]) rfl rfl rfl ?_ rfl rfl
 ·simp only[hBR,Zo,Xm,Xs,Zz,(e1 _ _).1,(e2 _).1,hr]
 ·simp only[hr,hBR,ZaQ,ZaA,Xm,Xs,Zz,(e1 _ _).1,(e3 _).1]
  rfl
theorem ZT8(hL:Q.length=26)(hn':Ze Q=true)(hk:k<26)(nL:ZQ L=true)(nc:ZQ c=true)(h:O f [.ref 0 0,.ref 1 0] (hr s P)=some (.tup [],[.var [L,c],.var (Zi Q k 2 0 n),.row 0 w xs])):Zq O bf (hBR a0 a1 P (rs s) [.free]) 4 f 1 true [.ref 3 0,.ref 2 0]=some (.tup [],hBR a0 a1 (Zi Q k 4 0 n) [L,c] [.row 0 w xs],{ any:=true,upd:=[(3,[L,c]),(2,Zi Q k 4 0 n)] }):=by
 have e1:=fun C s=>Z5 C (rs s) (ZbA s)
 have e2:=fun C=>Z5 C P hn
 have e3:=fun C=>(Z5 C [L,c] (by simp only[Ze,nL,nc];rfl)).1
 have hask:ZV true 2 (some (.tup [],[.var [L,c],.var (Zi Q k 2 0 n),.row 0 w xs]))=some (.tup [],[.var [L,c],.var (Zi Q k 2 0 n),.row 0 w xs]):=by
  have:=ZgB (L:=L) (c:=c) (w:=w) (xs:=xs) (B:=[]) (Za0 Q hL hn' k hk n 2 0) (fun C h=>ZaC Q hL hn' k hk n C h) nL nc
  unfold ZV
  rw[if_pos rfl]
  exact this
 have hb3:Zj (Zak (hBR a0 a1 P (rs s) [.free]) [3,2] 4) (Zi Q k 2 0 n)=Zi Q k 4 0 n:=ZaC Q hL hn' k hk n _ (by simp[Zak])
 refine Zcf (vs:=[.ref 3 0,.ref 2 0]) (ids:=[3,2]) hb rfl (Zzj hb hn _) rfl rfl rfl ?_ h hask (by simp) (by simp) rfl rfl rfl ?_ rfl rfl
 ·simp only[hBR,Zo,Xm,Xs,Zz,(e1 _ _).1,(e2 _).1,hr]
 ·simp only[ZaQ,ZaA,Xm,Xs,ZbZ,XN,Zm,Zz,(e3 _),hb3]
  rfl
end
section
variable (b:Int)(l:Zd)(R:List AVal)(fl:Bool)(r:Zd)(c:Int)(B:Za)(hR:R.length=26)(oR:R.all ZY=true)
include hR oR
theorem ZzR:∃ tm c',(tm=tb7\/tm=(96,.bool false)::tb7)/\c'=(if c=0/\r.length>0 then 129 else c)/\evC FC PR BY 0 ZjP tb7 (hBR (.var [.int .u8 b,.lst false (l.map Zh)]) (.var P0) R [.lst fl (r.map Zh),.int .i64 c] B)=some (.normal,tm,hBR (.var [.int .u8 b,.lst false (l.map Zh)]) (.var P0) R [.lst fl (r.map Zh),.int .i64 c'] B):=by
 by_cases h0:c=0
 ·subst h0
  by_cases h1:r.length>0
  ·have h2:(r.length:Int)>0:=by omega
   refine⟨tb7,129,Xq rfl,by grind,?_⟩
   have hF:∀ (G:Za) sq,G[3]?=some (.var [.lst fl (r.map Zh),.int .i64 0])->Zq E BY G sq 28 0 true [.ref 3 0,.int .i64 129]=some (.tup [],G.set 3 (.var [.lst fl (r.map Zh),.int .i64 129]),{ any:=true,upd:=[(3,[.lst fl (r.map Zh),.int .i64 129])] }):=by
    intro G sq hs
    have h:E 28 [.ref 0 0,.int .i64 129] [.var [.lst fl (r.map Zh),.int .i64 0]]=some (.tup [],[.var [.lst fl (r.map Zh),.int .i64 129]]):=by
     rw[Zg (by rfl) Zr2]
     simp -implicitDefEqProofs only[EQA,Zs,Zc,ZT,Xd,Xc,Xf,Xa,reduceCtorEq,↓reduceIte,Ze,ZoW,ZjU,ZoI,Zb,AVal.cells]
    exact Zce (rest:=[.int .i64 129]) (by kernel_rfl) rfl rfl rfl rfl rfl h hs sq
   unfold hBR tb7
   simp -implicitDefEqProofs only[EQA,Zc,Xc,Xa,Zy,unG,↓reduceIte,Zb,ZjP,h2,hF]
  ·have h2:¬(r.length:Int)>0:=by omega
   refine⟨_,0,Xt rfl,by grind,?_⟩
   unfold hBR tb7
   simp -implicitDefEqProofs only[EQA,Zc,Xc,Xa,Zy,unG,↓reduceIte,Zb,ZjP,h2]
 ·have b0:(c==0)=false:=by simpa using h0
  refine⟨_,c,Xt rfl,by grind,?_⟩
  unfold hBR tb7
  simp -implicitDefEqProofs only[EQA,Zc,Xc,Xa,Zy,Z6,↓reduceIte,Zb,ZjP,b0]
theorem ZxV{tm:Tms}(ht:tm=tb7\/tm=(96,.bool false)::tb7):∃ tm',resA tm' (hBR (.var [.int .u8 b,.lst false (l.map Zh)]) (.var (if c=0 then R else P0)) R [.lst fl (r.map Zh),.int .i64 c] B) [.cell 2 (some 26),.tmp 3]=some (.tup [.agg (if c=0 then R else P0),.int .i64 c])/\evC FC PR BY 0 (.seq ZkU (.seq Zlm .ret)) tm (hBR (.var [.int .u8 b,.lst false (l.map Zh)]) (.var P0) R [.lst fl (r.map Zh),.int .i64 c] B)=some (.ret,tm',hBR (.var [.int .u8 b,.lst false (l.map Zh)]) (.var (if c=0 then R else P0)) R [.lst fl (r.map Zh),.int .i64 c] B):=by
 have tk:R.take 26=R:=XG (by omega)
 by_cases h0:c=0
 ·subst h0
  rw[if_pos rfl]
  refine⟨[(3,.int .i64 0),(2,.ref 1 0)],?_,?_⟩
  ·simp[resA,resAll,resOne,tget,ldA,partA,hBR,hR,tk]
  ·unfold hBR P0
   rcases ht with rfl |rfl<;>unfold tb7<;>simp -implicitDefEqProofs only[EQA,Zc,Xd,Xc,Xf,Xa,↓reduceIte,Zb,ZkU,Zlm,Xbc,AVal.cells,tk,hR,oR]
 ·have b0:(c != 0)=true:=by simpa using h0
  rw[if_neg h0]
  refine⟨[(3,.int .i64 c),(2,.ref 1 0)],rfl,?_⟩
  unfold hBR P0
  rcases ht with rfl |rfl<;>unfold tb7<;>simp -implicitDefEqProofs only[EQA,Zc,Xd,Xc,Xf,Xa,Xg,↓reduceIte,Zb,ZkU,Zlm,b0,AVal.cells,Zao,ZY,ZaG,ZaP,ZaU,Zbi,Zbl,Zbg,Zbq,Zbo,ZaV,XP]
end
end
section
def ZcI(q:Zx)(l:Zd):Zx×RS :=
 if q.type=1 then ZfV q (l,0)
 else if q.type=2 then ZiK q (l,0)
 else if q.type=3 then({ (ZcY q (l,0)).1 with payload:=(ZcY q (l,0)).2.1 },([],(ZcY q (l,0)).2.2))
 else if q.type=4\/q.type=5\/q.type=6\/q.type=7 then ZiS q (l,0)
 else if q.type=8 then({ q with id:=(ZaH ZaS 8 (l,0)).1,props:=(ZaH ZaS 8 (l,0)).2.1,subs:=(ZaH ZaS 8 (l,0)).2.2.1 },(ZaH ZaS 8 (l,0)).2.2.2)
 else if q.type=10 then({ q with id:=(ZaH ZA 10 (l,0)).1,props:=(ZaH ZA 10 (l,0)).2.1,filters:=(ZaH ZA 10 (l,0)).2.2.1 },(ZaH ZA 10 (l,0)).2.2.2)
 else if q.type=9\/q.type=11 then({ q with id:=(ZaH (Zal q.type) q.type (l,0)).1,props:=(ZaH (Zal q.type) q.type (l,0)).2.1,codes:=(ZaH (Zal q.type) q.type (l,0)).2.2.1 },(ZaH (Zal q.type) q.type (l,0)).2.2.2)
 else if q.type=14\/q.type=15 then Zdh q (l,0)
 else(q,(l,0))
def ZeR(x:Zx×RS):Zx×Int:=if(if x.2.2=0/\x.2.1.length>0 then 129 else x.2.2)=0 then(x.1,0)else(ZX,if x.2.2=0/\x.2.1.length>0 then 129 else x.2.2)
def Zlp(b:Int)(l:Zd):Zx×Int :=
 if Zfp b (tyI b)=true then(ZX,129)else if tyI b=3 then(if((Zk (flB b) 8 != 0)&&(Zk (ZaL (flB b) 1) 3==0))=true then(ZX,130)else
  ZeR (ZcI { ZX with type:=3,dup:=Zk (flB b) 8 != 0,qos:=Zk (ZaL (flB b) 1) 3,retain:=Zk (flB b) 1 != 0 } l))
 else ZeR (ZcI { ZX with type:=tyI b } l)
def Zmn(P:List AVal)(q:Zx)(l:Zd):Prop :=
 (∃ P',RP P' (ZcI q l).1/\E 27 [.ref 0 0,.ref 1 0] (hr (l,0) P)=some (.tup [],hr (ZcI q l).2 P')) \/
 (∃ Q k w xs fl,Q.length=26/\Ze Q=true/\k<26/\Is (Q.set k (.lst false xs)) (ZcI q l).1/\E 27 [.ref 0 0,.ref 1 0] (hr (l,0) P)=some (.tup [],[.var [.lst fl ((ZcI q l).2.1.map Zh),.int .i64 (ZcI q l).2.2],.var (Zi Q k 2 0 xs.length),.row 0 w xs]))
theorem rp0(t:Int):RP (P0.set 0 (.int .i64 t)) { ZX with type:=t }:=⟨rfl,by rfl,⟨fun G=>rfl,rfl⟩⟩
theorem Znu{D:Type}{P Q:List AVal}{q:Zx}{l:Zd}{k w:Nat}{g:D->AVal}{acc:List D}{s:RS}(hL:Q.length=26)(hn:Ze Q=true)(hk:k<26)(hs:s=(ZcI q l).2)(hi:Is (Q.set k (.lst false (acc.map g))) (ZcI q l).1)(h0:acc=[]->Is Q (ZcI q l).1)
  (h:E 27 [.ref 0 0,.ref 1 0] (hr (l,0) P)=some (.tup [],hdR Q k w g acc s)):Zmn P q l:=by
 subst hs
 cases acc with
 |nil=>exact Xq ⟨Q,⟨hL,hn,h0 rfl⟩,h⟩
 |cons x xs =>
  refine Xt ⟨Q,k,w,(x::xs).map g,false,hL,hn,hk,hi,?_⟩
  rw[XS]
  exact h
section
variable (l:Zd)(hl:l.length<=1099511627775)
include hl
theorem ZEA(t:Int)(h1:1<=t/\t<=15)(h3:t≠3):Zmn (P0.set 0 (.int .i64 t)) { ZX with type:=t } l:=by
 have hc:((l,(0:Int)):RS).1.length<=140737488355328:=by simp only;omega
 have hc2:((l,(0:Int)):RS).1.length<=1099511627775:=hl
 have hP:=rp0 t
 have hQ:=Zeq l hl t
 have : t=1\/t=2\/t=4\/t=5\/t=6\/t=7\/t=8\/t=9\/t=10\/t=11\/t=12\/t=13\/t=14\/t=15:=by omega
 rcases this with rfl |rfl |rfl |rfl |rfl |rfl |rfl |rfl |rfl |rfl |rfl |rfl |rfl |rfl
 ·exact Xq (ZGb (l,0) hc _ hP rfl)
 ·exact Xq (ZQT (l,0) hc _ hP rfl)
 ·exact Xq (ZmZ (l,0) hc _ hP (Xq rfl))
 ·exact Xq (ZmZ (l,0) hc _ hP (Xt (Xq rfl)))
 ·exact Xq (ZmZ (l,0) hc _ hP (Xt (Xt (Xq rfl))))
 ·exact Xq (ZmZ (l,0) hc _ hP (Xt (Xt (Xt rfl))))
 ·have hM:=ZcC hQ (ZaH ZaS 8 (l,0)).1 (ZaH ZaS 8 (l,0)).2.1
  refine Znu hM.len hM.nor (by omega) rfl ((Ze6 l hl 8 _ _).set (by unfold Zbd;simp[P0]) (fun _=>rfl) rfl rfl) (fun h=>?_) (ZUW (l,0) hc2 hQ)
  show Is _ ({ ZX with type:=8,id:=_,props:=_,subs:=(ZaH ZaS 8 (l,0)).2.2.1 }:Zx)
  rw[h];exact Ze6 l hl 8 _ _
 ·have hM:=ZcC hQ (ZaH (Zal 9) 9 (l,0)).1 (ZaH (Zal 9) 9 (l,0)).2.1
  refine Znu hM.len hM.nor (by omega) rfl ((Ze6 l hl 9 _ _).set (by unfold Zbd;simp[P0]) (fun _=>rfl) rfl rfl) (fun h=>?_) (ZM0 (l,0) hc2 hQ)
  show Is _ ({ ZX with type:=9,id:=_,props:=_,codes:=(ZaH (Zal 9) 9 (l,0)).2.2.1 }:Zx)
  rw[h];exact Ze6 l hl 9 _ _
 ·have hM:=ZcC hQ (ZaH ZA 10 (l,0)).1 (ZaH ZA 10 (l,0)).2.1
  refine Znu hM.len hM.nor (by omega) rfl ((Ze6 l hl 10 _ _).set (by unfold Zbd;simp[P0]) (fun _=>rfl) rfl rfl) (fun h=>?_) (ZE0 (l,0) hc2 hQ)
  show Is _ ({ ZX with type:=10,id:=_,props:=_,filters:=(ZaH ZA 10 (l,0)).2.2.1 }:Zx)
  rw[h];exact Ze6 l hl 10 _ _
 ·have hM:=ZcC hQ (ZaH (Zal 11) 11 (l,0)).1 (ZaH (Zal 11) 11 (l,0)).2.1
  refine Znu hM.len hM.nor (by omega) rfl ((Ze6 l hl 11 _ _).set (by unfold Zbd;simp[P0]) (fun _=>rfl) rfl rfl) (fun h=>?_) (ZUx (l,0) hc2 hQ)
  show Is _ ({ ZX with type:=11,id:=_,props:=_,codes:=(ZaH (Zal 11) 11 (l,0)).2.2.1 }:Zx)
  rw[h];exact Ze6 l hl 11 _ _
 ·exact Xq ⟨_,hP,Zyq (l,0) hc _ hP (Xq rfl)⟩
 ·exact Xq ⟨_,hP,Zyq (l,0) hc _ hP (Xt rfl)⟩
 ·exact Xq (Zzw (l,0) hc _ hP (Xq rfl))
 ·exact Xq (Zzw (l,0) hc _ hP (Xt rfl))
theorem ZTQ(F:Int):Zmn (Zip (P0.set 0 (.int .i64 3)) F) { ZX with type:=3,dup:=Zk F 8 != 0,qos:=Zk (ZaL F 1) 3,retain:=Zk F 1 != 0 } l:=by
 have hc:((l,(0:Int)):RS).1.length<=140737488355328:=by simp only;omega
 have hP:RP (Zip (P0.set 0 (.int .i64 3)) F) { ZX with type:=3,dup:=Zk F 8 != 0,qos:=Zk (ZaL F 1) 3,retain:=Zk F 1 != 0 }:=⟨rfl,by rfl,⟨fun G=>rfl,rfl⟩⟩
 obtain⟨P',h1,h2⟩:=ZTn (l,0) hc _ hP rfl
 refine Xt ⟨P',6,1,_,true,h1.len,h1.nor,by omega,h1.is.set (v:=.lst false ((ZcY { ZX with type:=3,dup:=Zk F 8 != 0,qos:=Zk (ZaL F 1) 3,retain:=Zk F 1 != 0 } (l,0)).2.1.map Zh)) (by rw[h1.len];omega) (fun _=>rfl) rfl rfl,?_⟩
 rw[XS]
 exact h2
end
theorem Zn9{Q:List AVal}{q:Zx}{c:Int}(hv:∀ G,Zae G Q=some (ZC q,[])):ZV true 0 (some (.tup [.agg Q,.int .i64 c],[]))=some (.tup [ZcA q,.int .i64 c],[]):=by
 unfold ZV
 rw[if_pos rfl]
 have h1:viewR [] (.tup [.agg Q,.int .i64 c])=some (.tup [ZcA q,.int .i64 c],[]):=by
  rw[viewR,viewAs,Z3,hv]
  rfl
 unfold ZbR
 simp only[h1]
 have e1:=Zx4 q
 have e2:=ZAa q
 have hi:Zw 0 [AVal.tup [ZcA q,.int .i64 c]] []=[]:=by
  have : Zl [AVal.tup [ZcA q,.int .i64 c]]=[]:=by simp[Zl,ZH,ZgY,e1]
  simp only[Zw,this,Xp,W3,XQ]
  rfl
 simp only[Zv,gcA,hi,Zj,Zp,Zo]
 rw[ZgY,Zp,e2]
theorem ZKO{Q:List AVal}{q:Zx}{c:Int}{w:Nat}{ys:List AVal}(hv:∀ G:Za,G[0]?=some (.row 0 w ys)->Zae G Q=some (ZC q,[0])):ZV true 0 (some (.tup [.agg Q,.int .i64 c],[.row 0 w ys]))=some (.tup [ZcA q,.int .i64 c],[]):=by
 unfold ZV
 rw[if_pos rfl]
 have h1:viewR [.row 0 w ys] (.tup [.agg Q,.int .i64 c])=some (.tup [ZcA q,.int .i64 c],[0]):=by
  rw[viewR,viewAs,Z3,hv _ rfl]
  rfl
 unfold ZbR
 simp only[h1]
 have e1:=Zx4 q
 have e2:=ZAa q
 have hi:Zw 0 [AVal.tup [ZcA q,.int .i64 c]] (Zv [.row 0 w ys] [0])=[]:=by
  have : Zl [AVal.tup [ZcA q,.int .i64 c]]=[]:=by simp[Zl,ZH,ZgY,e1]
  simp only[Zw,this,Xp,W3,XQ]
  rfl
 simp only[gcA,hi,Zj,Zp,Zo]
 rw[ZgY,Zp,e2]
theorem Znk{R:List AVal}{c:Int}{G:Za}(hn:Ze R=true):ZR 0 G (.tup [.agg R,.int .i64 c])=some (.tup [.agg R,.int .i64 c],[]):=by
 have e1:=Z5 (Zn G 0 []) R hn
 have hr:Zl [AVal.tup [.agg R,.int .i64 c]]=[]:=by simp[Zl,ZH,e1.2]
 have hi:Zw 0 [AVal.tup [.agg R,.int .i64 c]] G=[]:=by
  simp only[Zw,hr,Xp,W3,XQ]
  rfl
 simp[ZR,gcA,hi,Zj,Zp,e1.1,Zo]
theorem ZK8{Q:List AVal}{c:Int}{k n w:Nat}{ys:List AVal}{G:Za}(hL:Q.length=26)(hn:Ze Q=true)(hk:k<26)(h4:G[4]?=some (.row 0 w ys)):ZR 0 G (.tup [.agg (Zi Q k 4 0 n),.int .i64 c])=some (.tup [.agg (Zi Q k 0 0 n),.int .i64 c],[.row 0 w ys]):=by
 have d4:G.getD 4 .free=.row 0 w ys:=by simp[List.getD_eq_getElem?_getD,h4]
 have hRf:=Za0 Q hL hn k hk n 4 0
 have hr:Zl [AVal.tup [.agg (Zi Q k 4 0 n),.int .i64 c]]=[4]:=by simp[Zl,ZH,hRf]
 have hi:Zw 0 [AVal.tup [.agg (Zi Q k 4 0 n),.int .i64 c]] G=[4]:=by
  simp only[Zw,hr,W3,XQ,Xr]
  rw[show(1000:Nat)=998+1+1 from rfl,Zt]
  simp only[Wh,Xi,if_false,d4,ZB,Xp,Xr]
  rfl
 have hC:Zn G 0 [4] 4 0=some (0,0):=by simp[Zn,ZI,Zm,ZD,h4]
 simp only[ZR,gcA,hi,Zj,Zp,ZaC Q hL hn k hk n _ hC,Zo,d4,ZD,Zm,Zz]
 simp
theorem ZKt{m:Nat}{a b c:Zf}{tm tm':Tms}{G G':Za}(h:evC FC PR BY m (.seq a b) tm G=some (.normal,tm',G')):evC FC PR BY m (.seq a (.seq b c)) tm G=evC FC PR BY m c tm' G':=by
 rw[Zwm]at h⊢
 cases ha:evC FC PR BY m a tm G with
 |none=>rw[ha]at h;cases h
 |some r =>
  obtain⟨e,t,s⟩:=r
  rw[ha]at h
  cases e with
  |normal =>
   rw[ZAd]at h⊢
   exact Zb3 h
  |exit i=>rw[ZvP]at h;cases h
  |ret=>rw[ZwI]at h;cases h
  |panic x=>rw[ZuV]at h;cases h
theorem ZIT (b : Int) (hb : 0 <= b /\ b < 256) (l : Zd) (hl : l.length <= 1099511627775) : ZV true 0 (E 8 [.agg [.int .u8 b, .lst false (l.map Zh)]] []) = some (.tup [ZcA (Zlp b l).1, .int .i64 (Zlp b l).2], []) := by
  have hr := Zxx b hb
  have early : ∀ {tm : Tms} {G : Za} {c : Int}, tm = [(3, .int .i64 c), (2, .ref 1 0)] -> G[1]? = some (.var P0) -> evC FC PR BY 0 ZiN (enterA 0 [.agg [.int .u8 b, .lst false (l.map Zh)]] []) [] = some (.ret, tm, G) ->
      ZV true 0 (E 8 [.agg [.int .u8 b, .lst false (l.map Zh)]] []) = some (.tup [ZcA ZX, .int .i64 c], []) := by
    intro tm G c ht hs h
    rw [Zg (by rfl) Zxs]
    show ZV true 0 (Zax 0 ZrY (evC FC PR BY 0 ZiN (enterA 0 [.agg [.int .u8 b, .lst false (l.map Zh)]] []) [])) = _
    rw [h, ht]
    have h1 : resA [(3, .int .i64 c), (2, .ref 1 0)] G [.cell 2 (some 26), .tmp 3] = some (.tup [.agg P0, .int .i64 c]) := by
      simp [resA, resAll, resOne, tget, ldA, partA, hs, P0]
    show ZV true 0 (match resA [(3, .int .i64 c), (2, .ref 1 0)] G [.cell 2 (some 26), .tmp 3] with | some r => ZR 0 G r | none => none) = _
    rw [h1]
    show ZV true 0 (ZR 0 G (.tup [.agg P0, .int .i64 c])) = _
    rw [Znk (by rfl)]
    exact Zn9 Zq2
  have late : ∀ {P : List AVal} {q : Zx}, RP P q -> Zmn P q l -> (∀ x, evC FC PR BY 0 (.seq ZjM (.seq ZjP (.seq ZkU (.seq Zlm .ret)))) tb7 [.var [.int .u8 b, .lst false (l.map Zh)], .var P0, .var P, .var [.lst false (l.map Zh), .int .i64 0]] = x -> evC FC PR BY 0 ZiN (enterA 0 [.agg [.int .u8 b, .lst false (l.map Zh)]] []) [] = x) ->
      ZV true 0 (E 8 [.agg [.int .u8 b, .lst false (l.map Zh)]] []) = some (.tup [ZcA (ZeR (ZcI q l)).1, .int .i64 (ZeR (ZcI q l)).2], []) := by
    intro P q hP hB hx
    rw [Zg (by rfl) Zxs]
    show ZV true 0 (Zax 0 ZrY (evC FC PR BY 0 ZiN (enterA 0 [.agg [.int .u8 b, .lst false (l.map Zh)]] []) [])) = _
    rw [hx _ rfl]
    unfold ZeR
    rcases hB with ⟨P', h1, h2⟩ | ⟨Q, k, w, xs, fl, hL, hn, hk, hi, h2⟩
    . generalize ZcI q l = X at *
      obtain ⟨q', r, c⟩ := X
      simp only at h1 h2 ⊢
      have h9 : evC FC PR BY 0 ZjM tb7 [.var [.int .u8 b, .lst false (l.map Zh)], .var P0, .var P, .var [.lst false (l.map Zh), .int .i64 0]] = some (.normal, tb7, hBR (.var [.int .u8 b, .lst false (l.map Zh)]) (.var P0) P' (rs (r, c)) [.free]) := by
        have hG := ZU9 (O := E) (bf := BY) (f := 27) (a0 := .var [.int .u8 b, .lst false (l.map Zh)]) (a1 := .var P0) (by kernel_rfl) hP.nor h1.nor h2
        unfold hBR rs at hG
        unfold hBR tb7 rs
        simp -implicitDefEqProofs only [EQA,Zc,Xd,Xc,Xa,Xg,↓reduceIte,Zb,ZjM,hG]
      rw [Zb3 h9]
      obtain ⟨tm, c', g1, g2, g3⟩ := ZzR b l P' false r c [.free] h1.len h1.is.ok
      obtain ⟨tm', g4, g5⟩ := ZxV b l P' false r c' [.free] h1.len h1.is.ok g1
      unfold rs
      simp only
      rw [Zb3 g3, g5]
      show ZV true 0 (match resA tm' _ [.cell 2 (some 26), .tmp 3] with | some r => ZR 0 _ r | none => none) = _
      rw [g4]
      show ZV true 0 (ZR 0 _ (.tup [.agg (if c' = 0 then P' else P0), .int .i64 c'])) = _
      rw [<- g2]
      by_cases hc : c' = 0
      . rw [if_pos hc, if_pos hc, Znk h1.nor, Zn9 h1.is.view, hc]
      . rw [if_neg hc, if_neg hc, Znk (by rfl), Zn9 Zq2]
    . generalize ZcI q l = X at *
      obtain ⟨q', r, c⟩ := X
      simp only at hi h2 ⊢
      have hR : (Zi Q k 4 0 xs.length).length = 26 := Zbp Q hL hn k hk xs.length 4 0
      have oR : (Zi Q k 4 0 xs.length).all ZY = true := Zjv hi.ok rfl
      have h9 : evC FC PR BY 0 ZjM tb7 [.var [.int .u8 b, .lst false (l.map Zh)], .var P0, .var P, .var [.lst false (l.map Zh), .int .i64 0]] = some (.normal, tb7, hBR (.var [.int .u8 b, .lst false (l.map Zh)]) (.var P0) (Zi Q k 4 0 xs.length) [.lst fl (r.map Zh), .int .i64 c] [.row 0 w xs]) := by
        have hG := ZT8 (O := E) (bf := BY) (f := 27) (a0 := .var [.int .u8 b, .lst false (l.map Zh)]) (a1 := .var P0) (by kernel_rfl) hP.nor hL hn hk rfl rfl h2
        unfold hBR rs at hG
        unfold hBR tb7
        simp -implicitDefEqProofs only [EQA,Zc,Xd,Xc,Xa,Xg,↓reduceIte,Zb,ZjM,hG]
      rw [Zb3 h9]
      obtain ⟨tm, c', g1, g2, g3⟩ := ZzR b l (Zi Q k 4 0 xs.length) fl r c [.row 0 w xs] hR oR
      obtain ⟨tm', g4, g5⟩ := ZxV b l (Zi Q k 4 0 xs.length) fl r c' [.row 0 w xs] hR oR g1
      rw [Zb3 g3, g5]
      show ZV true 0 (match resA tm' _ [.cell 2 (some 26), .tmp 3] with | some r => ZR 0 _ r | none => none) = _
      rw [g4]
      show ZV true 0 (ZR 0 _ (.tup [.agg (if c' = 0 then Zi Q k 4 0 xs.length else P0), .int .i64 c'])) = _
      rw [<- g2]
      by_cases hc : c' = 0
      . rw [if_pos hc, if_pos hc, ZK8 hL hn hk rfl, hc]
        refine ZKO (fun G hs => ?_)
        have hv : ZN G (.sl 0 0 0 xs.length) = some (.lst false xs, [0]) := by
          simp [ZN, ZZ, hs]
        have := Zp1 hv (P := Q.set k (.lst false xs)) (k := k) (hi.view G) (by simp; omega)
        unfold Zi
        rw [WD] at this
        rw [this]
        have e : (ZC q').set k (.lst false xs) = ZC q' := by
          have h3 := hi.view []
          have h4 : (Q.set k (.lst false xs))[k]? = some (.lst false xs) := XV (by omega)
          have h5 : (ZC q')[k]? = some (.lst false xs) := by
            have hk' : k < (ZC q').length := by show k < 26; exact hk
            obtain ⟨x, us, e1, e2⟩ := ZlY (k := k) (y := (ZC q')[k]) h3 (List.getElem?_eq_getElem hk')
            rw [h4] at e1
            injection e1 with e1
            subst e1
            simp only [ZN, Xb, Xe] at e2
            grind
          exact Zj3 h5
        rw [e]
      . rw [if_neg hc, if_neg hc, Znk (by rfl), Zn9 Zq2]
  unfold Zlp
  have p0 : (P0.set 0 (.int .i64 (tyI b)))[0]? = some (.int .i64 (tyI b)) := rfl
  have pl : (P0.set 0 (.int .i64 (tyI b))).length = 26 := rfl
  obtain ⟨tm5, ht5, h5⟩ := ZPM b false l (P0.set 0 (.int .i64 (tyI b))) (tyI b) p0
  have h6 := ZHe b false l (P0.set 0 (.int .i64 (tyI b))) (tyI b) p0 ht5
  have pre : ∀ (rest : Zf) x, evC FC PR BY 0 (.seq Zf4 rest) tm5 (hA b false l (P0.set 0 (.int .i64 (tyI b)))) = x -> evC FC PR BY 0 (.seq ZlG (.seq ZmQ (.seq ZmB (.seq ZmL (.seq Ziq (.seq Zf4 rest)))))) (enterA 0 [.agg [.int .u8 b, .lst false (l.map Zh)]] []) [] = x := by
    intro rest x hx
    rw [ZKt (ZOS b false l), Zb3 (ZDf b false l _), Zb3 (ZAY b false l _), Zb3 h5]
    exact hx
  rw [ZLC] at early late
  cases hbad : Zfp b (tyI b)
  . rw [if_neg (by simp)]
    rw [hbad] at h6
    simp only [Xi, if_false] at h6
    by_cases h3 : tyI b = 3
    . rw [if_pos h3]
      rw [h3] at h6 pre p0 pl
      have h7 := ZQ2 b false l (P0.set 0 (.int .i64 3)) p0 pl
      cases hd : ((Zk (flB b) 8 != 0) && (Zk (ZaL (flB b) 1) 3 == 0))
      . rw [if_neg (by simp)]
        rw [hd] at h7
        simp only [Xi, if_false] at h7
        refine late (P := Zip (P0.set 0 (.int .i64 3)) (flB b)) ⟨rfl, by rfl, ⟨fun G => rfl, rfl⟩⟩ (ZTQ l hl (flB b)) (fun x hx => ?_)
        refine pre _ x ?_
        rw [Zb3 h6, Zb3 h7, Zb3 (Zy5 b false l _ (Xt rfl))]
        exact hx
      . rw [if_pos rfl]
        rw [hd] at h7
        simp only [if_true] at h7
        refine early rfl (G := hA b false l (Zip (P0.set 0 (.int .i64 3)) (flB b))) rfl (pre _ _ ?_)
        rw [Zb3 h6]
        exact Zfr (by simp) h7
    . rw [if_neg h3]
      have h7 := ZNH b false l (P0.set 0 (.int .i64 (tyI b))) (tyI b) p0 h3
      have h0 : tyI b ≠ 0 := by
        intro e
        unfold Zfp at hbad
        rw [e] at hbad
        simp at hbad
      refine late (rp0 (tyI b)) (ZEA l hl (tyI b) (by omega) h3) (fun x hx => ?_)
      refine pre _ x ?_
      rw [Zb3 h6, Zb3 h7, Zb3 (Zy5 b false l _ (Xq rfl))]
      exact hx
  . rw [if_pos rfl]
    rw [hbad] at h6
    simp only [if_true] at h6
    exact early rfl (G := hA b false l (P0.set 0 (.int .i64 (tyI b)))) rfl (pre _ _ (Zfr (by simp) h6))
end
section
def Sim{D V:Type}(g:D->V)(x:RK D)(y:V×RS):Prop:=match x with
 | .ok (a,r)=>y=(g a,(r,0))
 | .error e=>e≠0/\y.2.2=e
def Zfv(x:Except Int (Zx×Zd))(y:Zx×RS):Prop:=match x with
 | .ok (q,r)=>y=(q,(r,0))
 | .error e=>e≠0/\y.2.2=e
theorem Zx8(n:Nat)(l:Zd):(l.length<n/\Zck n (l,0)=(List.replicate n 0,(l,129)))\/(¬l.length<n/\Zck n (l,0)=(l.take n,(l.drop n,0))):=by
 unfold Zck
 by_cases h:l.length<n
 ·exact Xq ⟨h,by rw[if_pos (Xt h)];rfl⟩
 grind
theorem ZjR(l:Zd):Sim id (Zaw 1 l) (Z2 (l,0)):=by
 unfold Sim Zaw Z2
 rcases Zx8 1 l with⟨h,e⟩ |⟨h,e⟩
 ·grind
 grind
theorem ZwC(l:Zd):Sim id (Zaw 2 l) (ZbP (l,0)):=by
 unfold Sim Zaw ZbP
 rcases Zx8 2 l with⟨h,e⟩ |⟨h,e⟩
 ·grind
 grind
theorem Zh2(l:Zd):Sim id (Zaf l) (ZA (l,0)):=by
 by_cases h:(ZU l).2.2=0
 ·have e:ZA (l,0)=((ZU l).1,(l.drop (ZU l).2.1,0)):=by unfold ZA;simp[h]
  have e2:Zaf l=.ok ((ZU l).1,l.drop (ZU l).2.1):=by unfold Zaf;grind
  rw[e,e2];rfl
 ·have e:ZA (l,0)=([],(l,129)):=by unfold ZA;simp[h]
  have e2:Zaf l=.error 129:=by unfold Zaf;grind
  rw[e,e2];exact⟨by decide,rfl⟩
theorem ZwX(l:Zd):Sim id (ZbJ l) (Zcz (l,0)):=by
 by_cases h:(ZL l).2.2=0
 ·have e:Zcz (l,0)=((ZL l).1,(l.drop (ZL l).2.1,0)):=by unfold Zcz;simp[h]
  have e2:ZbJ l=.ok ((ZL l).1,l.drop (ZL l).2.1):=by unfold ZbJ;grind
  rw[e,e2];rfl
 ·have e:Zcz (l,0)=([],(l,129)):=by unfold Zcz;simp[h]
  have e2:ZbJ l=.error 129:=by unfold ZbJ;grind
  rw[e,e2];exact⟨by decide,rfl⟩
theorem ZhU(w:Int)(l:Zd):Sim id (Zbj w l) (Zaa w (l,0)):=by
 by_cases h:(Zab w l).2.2=0
 ·have e:Zaa w (l,0)=((Zab w l).1,(l.drop (Zab w l).2.1,0)):=by unfold Zaa;simp[h]
  have e2:Zbj w l=.ok ((Zab w l).1,l.drop (Zab w l).2.1):=by unfold Zbj;grind
  rw[e,e2];rfl
 ·have e:Zaa w (l,0)=([],(l,(Zab w l).2.2)):=by unfold Zaa;simp[h]
  have e2:Zbj w l=.error (Zab w l).2.2:=by unfold Zbj;grind
  rw[e,e2];exact⟨h,rfl⟩
theorem ZqQ(l:Zd):Sim id (idK l) (idR (l,0)):=by
 have h:=ZwC l
 unfold Sim idK idR at *
 cases hx:Zaw 2 l with
 |error e =>
  rw[hx]at h
  refine⟨h.1,?_⟩
  have hs:(ZbP (l,0)).2.2≠0:=by rw[h.2];exact h.1
  simp only
  split
  ·rw[Zc4 _ _ hs];exact h.2
  grind
 |ok a =>
  obtain⟨n,r⟩:=a
  rw[hx]at h
  simp only[id]at h
  rw[h]
  simp only
  by_cases hn:n=0
  ·rw[if_pos hn,if_pos hn];exact⟨by decide,rfl⟩
  grind
theorem Zp3(k:Int)(l:Zd):Sim id (ZaI k l) (Zal k (l,0)):=by
 have h:=ZjR l
 unfold Sim ZaI Zal at *
 cases hx:Zaw 1 l with
 |error e =>
  rw[hx]at h
  refine⟨h.1,?_⟩
  have hs:(Z2 (l,0)).2.2≠0:=by rw[h.2];exact h.1
  simp only
  split
  ·exact h.2
  ·rw[Zc4 _ _ hs];exact h.2
 |ok a =>
  obtain⟨n,r⟩:=a
  rw[hx]at h
  simp only[id]at h
  rw[h]
  simp only
  by_cases hn:ZfS k n=true
  ·grind
  ·rw[if_neg hn,if_neg hn];exact⟨by decide,rfl⟩
theorem Zyd{l:Zd}{o:Int}{r:Zd}(h:Zaw 1 l=.ok (o,r)):0<=o/\o<256:=by
 unfold Zaw at h
 split at h
 ·cases h
 ·rename_i hl
  injection h with h;injection h with h _;subst h
  obtain⟨a,t,rfl⟩:∃ a t,l=a::t:=by
   cases l with
   |nil=>simp at hl
   |cons a t=>grind
  have:=a.toNat_lt
  have e:Ze0 (WI 1 (a::t))=(a.toNat:Int):=by
   unfold Ze0 Zcj
   rw[show WI 1 (a::t)=[a]from rfl,Zds,ZeF,ZaE (by omega) (by omega)]
   omega
  grind
theorem ZB2(o:Int)(h:0<=o/\o<64):Zd5 o=Zk (ZaL o 4) 3/\(ZhF o=true↔¬(Zk o 3<3/\Zd5 o<3)):=by
 have h':∀ n:Nat,n<64->Zd5 (n:Int)=Zk (ZaL (n:Int) 4) 3/\(ZhF (n:Int)=true↔¬(Zk (n:Int) 3<3/\Zd5 (n:Int)<3)):=by decide +kernel
 have:=h' o.toNat (by omega)
 rwa [XaA h.1]at this
theorem ZBO(s:RS)(hs:(ZA s).2.2≠0):(ZaS s).2=(ZA s).2:=by
 unfold ZaS ZeY ZcN;simp only[Zf9 _ hs]
 have e1:(if(Z2 (ZA s).2).1>=64 then Zav 129 (ZA s).2 else(ZA s).2)=(ZA s).2:=by split;exact Zc4 _ _ hs;rfl
 rw[e1];split
 ·exact Zc4 _ _ hs
 ·rfl
theorem ZRK(l:Zd):Sim id (Zbf l) (ZaS (l,0)):=by
 have h:=Zh2 l
 cases hx:Zaf l with
 |error e =>
  rw[hx]at h
  have hK:Zbf l=.error e:=by unfold Zbf;rw[hx]
  rw[hK]
  have hs:(ZA (l,0)).2.2≠0:=by rw[h.2];exact h.1
  exact⟨h.1,by rw[ZBO _ hs];exact h.2⟩
 |ok a =>
  obtain⟨f,r1⟩:=a
  rw[hx]at h
  have h:ZA (l,0)=(f,(r1,0)):=h
  have h2:=ZjR r1
  cases hy:Zaw 1 r1 with
  |error e =>
   rw[hy]at h2
   have hK:Zbf l=.error e:=by unfold Zbf;rw[hx];simp only;rw[hy]
   rw[hK]
   have hs:(Z2 (r1,0)).2.2≠0:=by rw[h2.2];exact h2.1
   refine⟨h2.1,?_⟩
   have e1:(if(Z2 (r1,0)).1>=64 then Zav 129 (Z2 (r1,0)).2 else(Z2 (r1,0)).2)=(Z2 (r1,0)).2:=by split;exact Zc4 _ _ hs;rfl
   have e2:(ZaS (l,0)).2=(Z2 (r1,0)).2:=by
    unfold ZaS ZeY ZcN
    simp only[h]
    rw[e1];split
    ·exact Zc4 _ _ hs
    ·rfl
   rw[e2];exact h2.2
  |ok a =>
   obtain⟨o,r2⟩:=a
   have ho:=Zyd hy
   rw[hy]at h2
   have h2:Z2 (r1,0)=(o,(r2,0)):=h2
   have hR:ZaS (l,0)=(⟨f,Zk o 3,Zk o 4 != 0,Zk o 8 != 0,Zk (ZaL o 4) 3,0⟩,if ZhF o=true then Zav 130 (if o>=64 then Zav 129 (r2,0)else(r2,0))else(if o>=64 then Zav 129 (r2,0)else(r2,0))):=by
    unfold ZaS ZeY ZcN
    simp only[h,h2]
   by_cases h64:o<64
   ·obtain⟨q1,q2⟩:=ZB2 o ⟨ho.1,h64⟩
    have s2:(if o>=64 then Zav 129 (r2,0)else(r2,0))=((r2,0):RS):=if_neg (by omega)
    rw[s2]at hR
    by_cases hq:Zk o 3<3/\Zd5 o<3
    ·have hK:Zbf l=.ok (⟨f,Zk o 3,Zk o 4 != 0,Zk o 8 != 0,Zd5 o,0⟩,r2):=by unfold Zbf;rw[hx];simp only;rw[hy];simp only;grind
     rw[hK,hR,if_neg (fun e=>q2.1 e hq),<-q1]
     rfl
    ·have hK:Zbf l=.error 130:=by unfold Zbf;rw[hx];simp only;rw[hy];simp only;grind
     rw[hK,hR,if_pos (q2.2 hq)]
     exact⟨by decide,rfl⟩
   ·have hK:Zbf l=.error 129:=by unfold Zbf;rw[hx];simp only;rw[hy];simp only;grind
    have s2:(if o>=64 then Zav 129 (r2,0)else(r2,0))=((r2,129):RS):=if_pos (by omega)
    rw[s2]at hR
    rw[hK,hR]
    refine⟨by decide,?_⟩
    have : Zav 130 ((r2,129):RS)=(r2,129):=Zc4 _ _ (by show(129:Int)≠0;decide)
    rw[this]
    split<;>rfl
theorem Ztv{D:Type}(one:RS->D×RS)(n:Nat)(s:RS)(h:s.2≠0):Zc2 one n s=([],s):=by
 cases n with
 |zero=>rfl
 |succ n=>unfold Zc2;rw[if_neg (by unfold ZbB;simp[h])]
theorem Zim(l:Zd):ZbB (l,0)=true↔l.length≠0:=by
 unfold ZbB;cases l<;>simp
theorem ZzX{D:Type}{Zdz:Zd->RK D}{one:RS->D×RS}(h:∀ l,Sim id (Zdz l) (one (l,0))):∀ (n:Nat) (l:Zd),l.length<=n->(∀ l a r,Zdz l=.ok (a,r)->r.length<l.length)->match ZaR Zdz n l with
  | .ok ts=>∃ r,Zc2 one n (l,0)=(ts,(r,0))/\r.length=0
  | .error e=>e≠0/\(Zc2 one n (l,0)).2.2=e
 |0,l,hl,_=>by
  have : l.length=0:=by omega
  unfold ZaR Zc2
  grind
 |n+1,l,hl,hlt=>by
  unfold ZaR Zc2
  by_cases h0:l.length=0
  ·rw[if_pos h0,if_neg (fun e=>(Zim l).1 e h0)]
   exact⟨l,rfl,h0⟩
  ·rw[if_neg h0,if_pos ((Zim l).2 h0)]
   have h1:=h l
   cases hx:Zdz l with
   |error e =>
    rw[hx]at h1
    refine⟨h1.1,?_⟩
    have hs:(one (l,0)).2.2≠0:=by rw[h1.2];exact h1.1
    simp only[Ztv one n _ hs]
    exact h1.2
   |ok a =>
    obtain⟨a,r⟩:=a
    rw[hx]at h1
    have h1:one (l,0)=(a,(r,0)):=h1
    have ih:=ZzX h n r (by have:=hlt l a r hx;omega) hlt
    simp only[h1]
    cases hy:ZaR Zdz n r with
    |error e=>rw[hy]at ih;exact ih
    |ok ts =>
     rw[hy]at ih
     obtain⟨r',e1,e2⟩:=ih
     exact⟨r',by rw[e1],e2⟩
theorem ZrB{D:Type}{Zdz:Zd->RK D}{one:RS->D×RS}(h:∀ l,Sim id (Zdz l) (one (l,0)))(hlt:∀ l a r,Zdz l=.ok (a,r)->r.length<l.length)(hst:∀ s:RS,s.2≠0->(one s).2=s)(k:Int)(l:Zd):match ZbG Zdz k l with
  | .ok (n,ps,ts)=>∃ r,ZaH one k (l,0)=(n,ps,ts,(r,0))/\r.length=0
  | .error e=>e≠0/\(ZaH one k (l,0)).2.2.2.2=e:=by
 have all_st:∀ s:RS,s.2≠0->(Zcb one s).2=s:=fun s hs=>by
  unfold Zcb
  have : ZcQ s=s:=by unfold ZcQ;grind
  rw[this,Ztv one _ s hs]
 unfold ZbG Zea ZaH
 have h1:=ZqQ l
 cases hx:idK l with
 |error e =>
  rw[hx]at h1
  have hs:(idR (l,0)).2.2≠0:=by rw[h1.2];exact h1.1
  simp only[ZeC k _ hs,all_st _ hs]
  exact h1
 |ok a =>
  obtain⟨n,r1⟩:=a
  rw[hx]at h1
  have h1:idR (l,0)=(n,(r1,0)):=h1
  simp only[h1]
  have h2:=ZhU k r1
  cases hy:Zbj k r1 with
  |error e =>
   rw[hy]at h2
   have hs:(Zaa k (r1,0)).2.2≠0:=by rw[h2.2];exact h2.1
   simp only[all_st _ hs]
   exact h2
  |ok a =>
   obtain⟨ps,r2⟩:=a
   rw[hy]at h2
   have h2:Zaa k (r1,0)=(ps,(r2,0)):=h2
   simp only[h2]
   unfold Zcb
   by_cases h0:r2.length=0
   ·rw[if_pos h0]
    have : ZcQ (r2,0)=(r2,130):=by unfold ZcQ;rw[if_pos ⟨rfl,h0⟩];rfl
    rw[this,Ztv one _ _ (by show(130:Int)≠0;decide)]
    exact⟨by decide,rfl⟩
   ·rw[if_neg h0]
    have : ZcQ (r2,0)=(r2,0):=by unfold ZcQ;grind
    rw[this]
    have ih:=ZzX h r2.length r2 (XH _) hlt
    simp only
    cases hz:ZaR Zdz r2.length r2 with
    |error e=>grind
    |ok ts =>
     rw[hz]at ih
     obtain⟨r',e1,e2⟩:=ih
     exact⟨r',by rw[e1],e2⟩
theorem Znx(q:Zx)(s:RS)(h:s.2≠0):(ZcX q s).2=s:=by
 unfold ZcX;split
 ·simp only[ZeC _ s h,Zff s h,Zoa s h]
 ·rfl
theorem Znq(q:Zx)(s:RS)(h:s.2≠0):(Zdv q s).2=s:=by
 unfold Zdv;split
 ·exact Zff s h
 ·rfl
theorem ZrJ(q:Zx)(s:RS)(h:s.2≠0):(Zhx q s).2=s:=by
 unfold Zhx;split
 ·exact Zoa s h
 ·rfl
theorem Zns(q:Zx)(s:RS)(h:s.2≠0):(ZiP q s).2=s:=by
 unfold ZiP
 rw[ZrJ _ _ (by rw[Znq _ _ (by rw[Znx q s h];exact h),Znx q s h];exact h),Znq _ _ (by rw[Znx q s h];exact h),Znx q s h]
theorem Zjq(q:Zx)(s:RS)(h:s.2≠0):(Zjs q s).2=s:=by
 unfold Zjs
 rw[Zns _ _ (by simp only[Zrd s h,ZeC _ s h,Zff s h];exact h)]
 simp only[Zrd s h,ZeC _ s h,Zff s h]
theorem ZuL(s:RS)(h:s.2≠0):Zdy s=s:=by
 unfold Zdy;rw[Zf9 s h,Zc4 _ s h];split<;>rfl
theorem Zlc(m:Int)(q:Zx)(s:RS)(h:s.2≠0):Zhp m q s=s:=by
 unfold Zhp;rw[Zc4 _ s h];split<;>rfl
theorem ZHg(q:Zx)(b:Bool)(hb:q.hasPassword=b)(l:Zd):Zfv (Zh7 b q l) (Zhx q (l,0)):=by
 unfold Zh7 Zhx
 subst hb
 by_cases hp:q.hasPassword=true
 ·rw[if_pos hp,if_pos hp]
  have h:=ZwX l
  cases hx:ZbJ l with
  |error e=>rw[hx]at h;exact h
  |ok a=>obtain⟨d,r⟩:=a;rw[hx]at h;have h:Zcz (l,0)=(d,(r,0)):=h;simp only[h];rfl
 ·rw[if_neg hp,if_neg hp];rfl
theorem ZIu(q:Zx)(b:Bool)(hb:q.hasUser=b)(l:Zd):Zfv (Zgg b q l) (Zdv q (l,0)):=by
 unfold Zgg Zdv
 subst hb
 by_cases hp:q.hasUser=true
 ·rw[if_pos hp,if_pos hp]
  have h:=Zh2 l
  cases hx:Zaf l with
  |error e=>rw[hx]at h;exact h
  |ok a=>obtain⟨d,r⟩:=a;rw[hx]at h;have h:ZA (l,0)=(d,(r,0)):=h;simp only[h];rfl
 ·rw[if_neg hp,if_neg hp];rfl
theorem ZMr(q:Zx)(b:Bool)(hb:q.hasWill=b)(l:Zd):Zfv (ZgV b q l) (ZcX q (l,0)):=by
 unfold ZgV ZcX
 subst hb
 by_cases hp:q.hasWill=true
 ·rw[if_pos hp,if_pos hp]
  unfold ZeT
  have h:=ZhU 16 l
  cases hx:Zbj 16 l with
  |error e =>
   rw[hx]at h
   have hs:(Zaa 16 (l,0)).2.2≠0:=by rw[h.2];exact h.1
   simp only[Zff _ hs,Zoa _ hs]
   exact h
  |ok a =>
   obtain⟨ps,r1⟩:=a
   rw[hx]at h
   have h:Zaa 16 (l,0)=(ps,(r1,0)):=h
   simp only[h]
   have h2:=Zh2 r1
   cases hy:Zaf r1 with
   |error e =>
    rw[hy]at h2
    have hs:(ZA (r1,0)).2.2≠0:=by rw[h2.2];exact h2.1
    simp only[Zoa _ hs]
    exact h2
   |ok a =>
    obtain⟨tp,r2⟩:=a
    rw[hy]at h2
    have h2:ZA (r1,0)=(tp,(r2,0)):=h2
    simp only[h2]
    have h3:=ZwX r2
    cases hz:ZbJ r2 with
    |error e=>rw[hz]at h3;exact h3
    |ok a=>obtain⟨d,r⟩:=a;rw[hz]at h3;have h3:Zcz (r2,0)=(d,(r,0)):=h3;simp only[h3];rfl
 ·rw[if_neg hp,if_neg hp];rfl
theorem ZNG(m:Int)(q:Zx)(h1:q.hasWill=(Zk m 4 != 0))(h2:q.hasUser=(Zk m 128 != 0))(h3:q.hasPassword=(Zk m 64 != 0))(l:Zd):Zfv (Zi3 m q l) (ZiP q (l,0)):=by
 unfold Zi3 ZiP
 have hw:=ZMr q _ h1 l
 cases hx:ZgV (Zk m 4 != 0) q l with
 |error e =>
  rw[hx]at hw
  have hs:(ZcX q (l,0)).2.2≠0:=by rw[hw.2];exact hw.1
  refine⟨hw.1,?_⟩
  rw[ZrJ _ _ (by rw[Znq _ _ hs];exact hs),Znq _ _ hs]
  exact hw.2
 |ok a =>
  obtain⟨q1,l1⟩:=a
  rw[hx]at hw
  have hw:ZcX q (l,0)=(q1,(l1,0)):=hw
  have k2:q1.hasUser=q.hasUser/\q1.hasPassword=q.hasPassword:=by
   have : q1=(ZcX q (l,0)).1:=by rw[hw]
   rw[this];unfold ZcX;split<;>grind
  simp only[hw]
  have hu:=ZIu q1 _ (k2.1.trans h2) l1
  cases hy:Zgg (Zk m 128 != 0) q1 l1 with
  |error e =>
   rw[hy]at hu
   have hs:(Zdv q1 (l1,0)).2.2≠0:=by rw[hu.2];exact hu.1
   refine⟨hu.1,?_⟩
   rw[ZrJ _ _ hs]
   exact hu.2
  |ok a =>
   obtain⟨q2,l2⟩:=a
   rw[hy]at hu
   have hu:Zdv q1 (l1,0)=(q2,(l2,0)):=hu
   have k3:q2.hasPassword=q1.hasPassword:=by
    have : q2=(Zdv q1 (l1,0)).1:=by rw[hu]
    rw[this];unfold Zdv;split<;>rfl
   simp only[hu]
   exact ZHg q2 _ (k3.trans (k2.2.trans h3)) l2
theorem ZFw(m:Int)(q:Zx)(hm:Zk (Zdq m) 3=Zk (ZaL m 3) 3)(l:Zd):Zfv (ZiO q m l) (Zjs (Zhr q m) (l,0)):=by
 have hmk:Zhr q m=Zke q m:=by unfold Zhr Zke;rw[hm]
 unfold ZiO Zjs
 rw[hmk]
 have h:=ZwC l
 cases hx:Zaw 2 l with
 |error e =>
  rw[hx]at h
  have hs:(ZbP (l,0)).2.2≠0:=by rw[h.2];exact h.1
  refine⟨h.1,?_⟩
  rw[Zns _ _ (by simp only[ZeC _ _ hs,Zff _ hs];exact hs)]
  simp only[ZeC _ _ hs,Zff _ hs]
  exact h.2
 |ok a =>
  obtain⟨k,r4⟩:=a
  rw[hx]at h
  have h:ZbP (l,0)=(k,(r4,0)):=h
  simp only[h]
  have h2:=ZhU 1 r4
  cases hy:Zbj 1 r4 with
  |error e =>
   rw[hy]at h2
   have hs:(Zaa 1 (r4,0)).2.2≠0:=by rw[h2.2];exact h2.1
   refine⟨h2.1,?_⟩
   rw[Zns _ _ (by simp only[Zff _ hs];exact hs)]
   simp only[Zff _ hs]
   exact h2.2
  |ok a =>
   obtain⟨ps,r5⟩:=a
   rw[hy]at h2
   have h2:Zaa 1 (r4,0)=(ps,(r5,0)):=h2
   simp only[h2]
   have h3:=Zh2 r5
   cases hz:Zaf r5 with
   |error e =>
    rw[hz]at h3
    have hs:(ZA (r5,0)).2.2≠0:=by rw[h3.2];exact h3.1
    refine⟨h3.1,?_⟩
    rw[Zns _ _ hs]
    exact h3.2
   |ok a =>
    obtain⟨cl,r6⟩:=a
    rw[hz]at h3
    have h3:ZA (r5,0)=(cl,(r6,0)):=h3
    simp only[h3]
    exact ZNG m (headD (Zke q m) k ps cl) rfl rfl rfl r6
theorem ZRX(m:Int)(h:0<=m/\m<256)(q:Zx):Zk (Zdq m) 3=Zk (ZaL m 3) 3/\(ZjQ m (Zhr q m)=true↔¬ZgL m (Zk (Zdq m) 3) (Zk m 4 != 0) (Zk m 32 != 0)=true):=by
 have h':∀ n:Nat,n<256->Zk (Zdq (n:Int)) 3=Zk (ZaL (n:Int) 3) 3/\(((Zk (n:Int) 1 != 0) ||((Zk (ZaL (n:Int) 3) 3==3) ||(!(Zk (n:Int) 4 != 0)&&(decide (Zk (ZaL (n:Int) 3) 3>0) ||(Zk (n:Int) 32 != 0)))))=true↔¬ZgL (n:Int) (Zk (Zdq (n:Int)) 3) (Zk (n:Int) 4 != 0) (Zk (n:Int) 32 != 0)=true):=by decide +kernel
 have:=h' m.toNat (by omega)
 rw[XaA h.1]at this
 exact this
theorem ZMJ(q:Zx)(l:Zd):Zfv (Zgy q l) (ZfV q (l,0)):=by
 unfold Zgy ZfV
 have h:=Zh2 l
 cases hx:Zaf l with
 |error e =>
  rw[hx]at h
  have hs:(ZA (l,0)).2.2≠0:=by rw[h.2];exact h.1
  have e1:ZdX (l,0)=(ZA (l,0)).2:=by unfold ZdX;rw[Zc4 _ _ hs];split<;>rfl
  refine⟨h.1,?_⟩
  rw[e1,ZuL _ hs,Zf9 _ hs,Zlc _ _ _ hs,Zjq _ _ hs]
  exact h.2
 |ok a =>
  obtain⟨sx,r1⟩:=a
  rw[hx]at h
  have h:ZA (l,0)=(sx,(r1,0)):=h
  simp only
  by_cases hm:(sx==[77,81,84,84])=true
  ·rw[if_pos hm]
   have e1:ZdX (l,0)=(r1,0):=by unfold ZdX;rw[h];simp only;grind
   rw[e1]
   have h2:=ZjR r1
   cases hy:Zaw 1 r1 with
   |error e =>
    rw[hy]at h2
    have hs:(Z2 (r1,0)).2.2≠0:=by rw[h2.2];exact h2.1
    have e2:Zdy (r1,0)=(Z2 (r1,0)).2:=by unfold Zdy;rw[Zc4 _ _ hs];split<;>rfl
    refine⟨h2.1,?_⟩
    rw[e2,Zf9 _ hs,Zlc _ _ _ hs,Zjq _ _ hs]
    exact h2.2
   |ok a =>
    obtain⟨v,r2⟩:=a
    rw[hy]at h2
    have h2:Z2 (r1,0)=(v,(r2,0)):=h2
    simp only
    by_cases hv:(v==5)=true
    ·rw[if_pos hv]
     have e2:Zdy (r1,0)=(r2,0):=by unfold Zdy;rw[h2];simp only;grind
     rw[e2]
     have h3:=ZjR r2
     cases hz:Zaw 1 r2 with
     |error e =>
      rw[hz]at h3
      have hs:(Z2 (r2,0)).2.2≠0:=by rw[h3.2];exact h3.1
      refine⟨h3.1,?_⟩
      rw[Zlc _ _ _ hs,Zjq _ _ hs]
      exact h3.2
     |ok a =>
      obtain⟨m,r3⟩:=a
      obtain⟨n1,n2⟩:=ZRX m (Zyd hz) q
      rw[hz]at h3
      have h3:Z2 (r2,0)=(m,(r3,0)):=h3
      simp only[h3]
      unfold Zhp
      by_cases hk:ZgL m (Zk (Zdq m) 3) (Zk m 4 != 0) (Zk m 32 != 0)=true
      ·rw[if_pos hk,if_neg (fun e=>n2.1 e hk)]
       exact ZFw m q n1 r3
      ·rw[if_neg hk,if_pos (n2.2 hk)]
       refine⟨by decide,?_⟩
       rw[Zjq _ _ (by show(129:Int)≠0;decide)]
       rfl
    ·rw[if_neg hv]
     have e2:Zdy (r1,0)=(r2,132):=by unfold Zdy;rw[h2];simp only;rw[if_neg (by grind)];rfl
     have hs:((r2,132):RS).2≠0:=by show(132:Int)≠0;decide
     refine⟨by decide,?_⟩
     rw[e2,Zf9 _ hs,Zlc _ _ _ hs,Zjq _ _ hs]
  ·rw[if_neg hm]
   have e1:ZdX (l,0)=(r1,132):=by unfold ZdX;rw[h];simp only;rw[if_neg (by grind)];rfl
   have hs:((r1,132):RS).2≠0:=by show(132:Int)≠0;decide
   refine⟨by decide,?_⟩
   rw[e1,ZuL _ hs,Zf9 _ hs,Zlc _ _ _ hs,Zjq _ _ hs]
theorem ZS1(k:Int)(q:Zx)(hq:q.type=k)(h7:q.code=0)(h9:q.props=[])(l:Zd):match ZdA k l with
  | .ok ((c,ps),r)=>Zdh q (l,0)=({ q with code:=c,props:=ps.getD [] },(r,0))
  | .error e=>e≠0/\(Zdh q (l,0)).2.2=e:=by
 subst hq
 unfold ZdA Zdh
 by_cases h0:l.length=0
 ·rw[if_pos h0]
  have e1:ZdU q (l,0)=(q,(l,0)):=by unfold ZdU;rw[if_neg (fun e=>(Zim l).1 e h0)]
  have e2:ZfI q (l,0)=(q,(l,0)):=by unfold ZfI;rw[if_neg (fun e=>(Zim l).1 e h0)]
  simp only[e1,e2]
  obtain⟨t,d,qo,rt,i,tp,pl,co,cs,pr,sb,fl,cl,ke,ci,hw,wi,hu,us,hp,pw,pt⟩:=q
  grind
 ·rw[if_neg h0]
  have e1:ZdU q (l,0)=({ q with code:=(Zal q.type (l,0)).1 },(Zal q.type (l,0)).2):=by unfold ZdU;rw[if_pos ((Zim l).2 h0)]
  rw[e1]
  have h:=Zp3 q.type l
  cases hx:ZaI q.type l with
  |error e =>
   rw[hx]at h
   have hs:(Zal q.type (l,0)).2.2≠0:=by rw[h.2];exact h.1
   refine⟨h.1,?_⟩
   have : ZbB (Zal q.type (l,0)).2=false:=by unfold ZbB;simp[hs]
   unfold ZfI
   simp only
   rw[if_neg (by simp[this])]
   exact h.2
  |ok a =>
   obtain⟨c,r⟩:=a
   rw[hx]at h
   have h:Zal q.type (l,0)=(c,(r,0)):=h
   simp only[h]
   by_cases h1:r.length=0
   ·rw[if_pos h1]
    unfold ZfI
    rw[if_neg (fun e=>(Zim r).1 e h1)]
    simp only[Option.getD]
    obtain⟨t,d,qo,rt,i,tp,pl,co,cs,pr,sb,fl,cl,ke,ci,hw,wi,hu,us,hp,pw,pt⟩:=q
    simp only at h9
    subst h9
    rfl
   ·rw[if_neg h1]
    unfold ZfI
    rw[if_pos ((Zim r).2 h1)]
    have h2:=ZhU q.type r
    simp only
    cases hy:Zbj q.type r with
    |error e=>rw[hy]at h2;exact h2
    |ok a=>obtain⟨ps,r'⟩:=a;rw[hy]at h2;have h2:Zaa q.type (r,0)=(ps,(r',0)):=h2;simp only[h2];rfl
theorem Zwv(q:Zx)(h7:q.code=0)(h9:q.props=[])(l:Zd):Zfv (ZgH q l) (Zdh q (l,0)):=by
 have h:=ZS1 q.type q rfl h7 h9 l
 unfold ZgH
 cases hx:ZdA q.type l with
 |error e=>rw[hx]at h;exact h
 |ok a=>obtain⟨⟨c,ps⟩,r⟩:=a;rw[hx]at h;exact h
theorem ZTx(q:Zx)(s:RS)(h:s.2≠0):(Zdh q s).2=s:=by
 have hm:ZbB s=false:=by unfold ZbB;simp[h]
 have e1:ZdU q s=(q,s):=by unfold ZdU;grind
 unfold Zdh
 rw[e1]
 unfold ZfI
 grind
theorem ZSz(q:Zx)(h7:q.code=0)(h9:q.props=[])(l:Zd):Zfv (idQ q l) (ZiS q (l,0)):=by
 unfold idQ ZiS
 have h:=ZqQ l
 cases hx:idK l with
 |error e =>
  rw[hx]at h
  have hs:(idR (l,0)).2.2≠0:=by rw[h.2];exact h.1
  refine⟨h.1,?_⟩
  rw[ZTx _ _ hs]
  exact h.2
 |ok a =>
  obtain⟨n,r⟩:=a
  rw[hx]at h
  have h:idR (l,0)=(n,(r,0)):=h
  simp only[h]
  exact Zwv { q with id:=n } h7 h9 r
theorem ZGG(q:Zx)(l:Zd):Zfv (Zji q l) (ZiK q (l,0)):=by
 unfold Zji ZiK
 have h:=ZjR l
 cases hx:Zaw 1 l with
 |error e =>
  rw[hx]at h
  have hs:(Z2 (l,0)).2.2≠0:=by rw[h.2];exact h.1
  have e1:Zde (l,0)=(Z2 (l,0)).2:=by unfold Zde;rw[Zc4 _ _ hs];grind
  refine⟨h.1,?_⟩
  simp only[e1,ZpW _ _ hs,ZeC _ _ hs]
  exact h.2
 |ok a =>
  obtain⟨f,r⟩:=a
  rw[hx]at h
  have h:Z2 (l,0)=(f,(r,0)):=h
  simp only
  by_cases hf:f<2
  ·rw[if_pos hf]
   have e1:Zde (l,0)=(r,0):=by unfold Zde;rw[h];simp only;grind
   rw[e1,h]
   have h2:=Zp3 2 r
   cases hy:ZaI 2 r with
   |error e =>
    rw[hy]at h2
    have hs:(Zal 2 (r,0)).2.2≠0:=by rw[h2.2];exact h2.1
    refine⟨h2.1,?_⟩
    simp only[ZeC _ _ hs]
    exact h2.2
   |ok a =>
    obtain⟨c,r2⟩:=a
    rw[hy]at h2
    have h2:Zal 2 (r,0)=(c,(r2,0)):=h2
    simp only[h2]
    have h3:=ZhU 2 r2
    cases hz:Zbj 2 r2 with
    |error e=>rw[hz]at h3;exact h3
    |ok a=>obtain⟨ps,r3⟩:=a;rw[hz]at h3;have h3:Zaa 2 (r2,0)=(ps,(r3,0)):=h3;simp only[h3];rfl
  ·rw[if_neg hf]
   have e1:Zde (l,0)=(r,129):=by unfold Zde;rw[h];simp only;rw[if_pos (by omega)];rfl
   have hs:((r,129):RS).2≠0:=by show(129:Int)≠0;decide
   rw[e1]
   refine⟨by decide,?_⟩
   simp only[ZpW _ _ hs,ZeC _ _ hs]
theorem ZCW(q:Zx)(h4:q.id=0)(l:Zd):match ZcM q.qos l with
  | .ok (tp,n,ps,pay)=>ZcY q (l,0)=({ q with topic:=tp,id:=n,props:=ps },(pay,0))
  | .error e=>e≠0/\(ZcY q (l,0)).2.2=e:=by
 unfold ZcM ZcY
 have h:=Zh2 l
 cases hx:Zaf l with
 |error e =>
  rw[hx]at h
  have hs:(ZA (l,0)).2.2≠0:=by rw[h.2];exact h.1
  refine⟨h.1,?_⟩
  split
  ·simp only[ZB1 _ hs,ZeC _ _ hs];exact h.2
  ·simp only[ZeC _ _ hs];exact h.2
 |ok a =>
  obtain⟨tp,r1⟩:=a
  rw[hx]at h
  have h:ZA (l,0)=(tp,(r1,0)):=h
  simp only[h]
  by_cases hq:q.qos>0
  ·rw[if_pos hq,if_pos hq]
   have h2:=ZqQ r1
   cases hy:idK r1 with
   |error e =>
    rw[hy]at h2
    have hs:(idR (r1,0)).2.2≠0:=by rw[h2.2];exact h2.1
    refine⟨h2.1,?_⟩
    simp only[ZeC _ _ hs];exact h2.2
   |ok a =>
    obtain⟨n,r2⟩:=a
    rw[hy]at h2
    have h2:idR (r1,0)=(n,(r2,0)):=h2
    simp only[h2]
    have h3:=ZhU 3 r2
    cases hz:Zbj 3 r2 with
    |error e=>rw[hz]at h3;exact h3
    |ok a=>obtain⟨ps,r3⟩:=a;rw[hz]at h3;have h3:Zaa 3 (r2,0)=(ps,(r3,0)):=h3;simp only[h3]
  ·rw[if_neg hq,if_neg hq]
   have h3:=ZhU 3 r1
   cases hz:Zbj 3 r1 with
   |error e=>rw[hz]at h3;exact h3
   |ok a =>
    obtain⟨ps,r3⟩:=a
    rw[hz]at h3
    have h3:Zaa 3 (r1,0)=(ps,(r3,0)):=h3
    simp only[h3]
    rw[<-h4]
theorem ZhZ{x:Except Int (Zx×Zd)}{y:Zx×RS}(h:Zfv x y):ZeR y=(match ZcO x with
  | .error e=>(ZX,e)
  | .ok q=>(q,0)):=by
 unfold Zfv at h
 unfold ZeR ZcO
 grind
theorem ZmA{y:Zx×RS}{e:Int}(h:e≠0/\y.2.2=e):ZeR y=(ZX,e):=by
 have:=ZhZ (x:=.error e) (y:=y) h
 exact this
theorem Zoc{q:Zx}{r:Zd}(h:r.length=0):ZeR (q,(r,0))=(q,0):=by
 have:=ZhZ (x:=.ok (q,r)) (y:=(q,(r,0))) rfl
 rw[this]
 unfold ZcO
 grind
theorem ZKU(t:Int)(h3:t≠3)(l:Zd):ZeR (ZcI { ZX with type:=t } l)=(match ZhK t l with
  | .error e=>(ZX,e)
  | .ok q=>(q,0)):=by
 unfold ZcI ZhK
 simp only
 by_cases h1:t=1
 ·subst h1;rw[if_pos rfl,if_pos rfl];exact ZhZ (ZMJ _ l)
 rw[if_neg h1,if_neg h1]
 by_cases h2:t=2
 ·subst h2;rw[if_pos rfl,if_pos rfl];exact ZhZ (ZGG _ l)
 rw[if_neg h2,if_neg h2,if_neg h3]
 by_cases h4:t=4\/t=5\/t=6\/t=7
 ·rw[if_pos h4,if_pos h4];exact ZhZ (ZSz _ rfl rfl l)
 rw[if_neg h4,if_neg h4]
 by_cases h8:t=8
 ·subst h8;rw[if_pos rfl,if_pos rfl]
  have h:=ZrB (one:=ZaS) ZRK (fun l a r h=>ZiH h) ZGe 8 l
  unfold ZkI
  cases hx:ZbG Zbf 8 l with
  |error e=>rw[hx]at h;exact ZmA h
  |ok a=>obtain⟨n,ps,ts⟩:=a;rw[hx]at h;obtain⟨r,e1,e2⟩:=h;rw[e1];exact Zoc e2
 rw[if_neg h8,if_neg h8]
 by_cases h10:t=10
 ·subst h10;rw[if_pos rfl,if_pos rfl]
  have h:=ZrB (one:=ZA) Zh2 (fun l a r h=>Zlx h) Zff 10 l
  unfold Zkv
  cases hx:ZbG Zaf 10 l with
  |error e=>rw[hx]at h;exact ZmA h
  |ok a=>obtain⟨n,ps,ts⟩:=a;rw[hx]at h;obtain⟨r,e1,e2⟩:=h;rw[e1];exact Zoc e2
 rw[if_neg h10,if_neg h10]
 by_cases h9:t=9\/t=11
 ·rw[if_pos h9,if_pos h9]
  have h:=ZrB (one:=Zal t) (Zp3 t) (fun l a r h=>ZkW h) (ZpW t) t l
  unfold Zif
  simp only
  cases hx:ZbG (ZaI t) t l with
  |error e=>rw[hx]at h;exact ZmA h
  |ok a=>obtain⟨n,ps,ts⟩:=a;rw[hx]at h;obtain⟨r,e1,e2⟩:=h;rw[e1];exact Zoc e2
 rw[if_neg h9,if_neg h9]
 by_cases h14:t=14\/t=15
 ·rw[if_pos h14,if_pos h14];exact ZhZ (Zwv _ rfl rfl l)
 rw[if_neg h14,if_neg h14]
 exact ZhZ (x:=.ok ({ ZX with type:=t },l)) rfl
theorem ZTh(q:Zx)(h:q.type=3)(h4:q.id=0)(l:Zd):match ZcM q.qos l with
  | .ok (tp,n,ps,pay)=>ZeR (ZcI q l)=({ q with topic:=tp,id:=n,props:=ps,payload:=pay },0)
  | .error e=>ZeR (ZcI q l)=(ZX,e):=by
 have e:ZcI q l=({ (ZcY q (l,0)).1 with payload:=(ZcY q (l,0)).2.1 },([],(ZcY q (l,0)).2.2)):=by
  unfold ZcI
  grind
 rw[e]
 have h:=ZCW q h4 l
 cases hx:ZcM q.qos l with
 |error e=>rw[hx]at h;exact ZmA ⟨h.1,h.2⟩
 |ok a =>
  obtain⟨tp,n,ps,pay⟩:=a
  rw[hx]at h
  have h:ZcY q (l,0)=_:=h
  rw[h]
  exact Zoc rfl
theorem ZCu(b:Int)(hb:0<=b/\b<256)(l:Zd):Zlp b l=ZdL b l:=by
 obtain⟨f1,f2,f3,f4,f5,f6⟩:=ZNP b hb
 unfold Zlp ZdL
 by_cases h0:tyI b=0
 ·rw[if_pos h0,if_pos (by unfold Zfp;rw[h0];rfl)]
 rw[if_neg h0]
 by_cases h3:tyI b=3
 ·rw[if_pos h3,if_pos h3]
  have hbad:Zfp b (tyI b)=(qoI b==3):=by
   unfold Zfp;rw[h3,f3];simp
  unfold ZlK
  rw[hbad,f2,f3,f4]
  by_cases hq:qoI b<3
  ·have hq3:¬(qoI b==3)=true:=by simp;omega
   rw[if_neg hq3,if_pos hq]
   by_cases hd:qoI b>0\/(ZaF b 8 != 0)=false
   ·have : ¬((ZaF b 8 != 0)&&(qoI b==0))=true:=by
     rcases hd with hd |hd
     ·have : (qoI b==0)=false:=by simp;omega
      rw[this];simp
     ·rw[hd];simp
    rw[if_neg this,if_pos hd]
    have h:=ZTh { ZX with type:=3,dup:=ZaF b 8 != 0,qos:=qoI b,retain:=ZaF b 1 != 0 } rfl rfl l
    cases hx:ZcM (qoI b) l with
    |error e=>rw[show ZcM ({ ZX with type:=3,dup:=ZaF b 8 != 0,qos:=qoI b,retain:=ZaF b 1 != 0 }:Zx).qos l=ZcM (qoI b) l from rfl,hx]at h;exact h
    |ok a=>rw[show ZcM ({ ZX with type:=3,dup:=ZaF b 8 != 0,qos:=qoI b,retain:=ZaF b 1 != 0 }:Zx).qos l=ZcM (qoI b) l from rfl,hx]at h;exact h
   grind
  grind
 ·rw[if_neg h3,if_neg h3]
  have hbad:Zfp b (tyI b)=(ZaF b 15 != Zc6 (tyI b)):=by
   unfold Zfp
   have b0:(tyI b==0)=false:=by simpa using h0
   have b3:(tyI b==3)=false:=by simpa using h3
   have b3':(tyI b != 3)=true:=by simpa using h3
   rw[b0,b3,b3',f1];simp
  rw[hbad]
  by_cases hf:ZaF b 15=Zc6 (tyI b)
  ·rw[if_neg (by grind),if_pos hf]
   exact ZKU (tyI b) h3 l
  grind
end
section
theorem Zye:∀ l:Zd,Zia (l.map Zh)=some l
 | []=>rfl
 |b::l=>by
  simp only[Xu,Zia,Zye l,Zh,ZuD,Int.toNat_natCast,UInt8.ofNat_toNat,if_true]
theorem Znl{G:Za}:∀ {P ys:List AVal} {ts:List Nat},Zae G P=some (ys,ts)->Zb5 P=true
 | [],_,_,_=>rfl
 |x::P,ys,ts,h=>by
  rw[Zae]at h
  split at h
  ·rename_i y t0 h0
   split at h
   ·rename_i h1
    have : ZcV x=true:=by cases x<;>first |rfl |(simp[ZN]at h0;done)
    rw[Zb5,this,Znl h1];rfl
   ·cases h
  ·cases h
theorem ZnN{v:AVal}(hv:ZcV v=true):∀ {P:List AVal} (k:Nat),Zb5 P=true->Zb5 (P.set k v)=true
 | [],_,_=>rfl
 |x::P,0,h=>by
  simp only[Zb5,Xk,WG]at h⊢
  grind
 |x::P,k+1,h=>by
  simp only[Zb5,Xk,Wp]at h⊢
  exact⟨h.1,ZnN hv k h.2⟩
theorem ZzE{O:ZS}{bf:Nat->Bool}{G:Za}{sq f own:Nat}{args vs:List AVal}{ls:List Nat}{cs:List AVal}{c:Int}{h:Za}(hb:bf f=true)(h2:bf (f+2000000)=true)(hno:args.any Zig=true)(hl:ZdT G args=some (vs,[],ls))(hr:Zl vs=[])(hn:∀ C:Rho,Zj C vs=vs)
  (hO:O f vs []=some (.tup [.agg cs,.int .i64 c],h)) (hf:Zb5 cs=true) (hh:h.all ZoD=true) (hk:Za1 G [] h 0=true) (hle:h.length<=own) (hne:h.isEmpty=false) (hff:Zaj G sq own=true) {cs':List AVal} (hcs:Zj (Zak G [] sq) cs=cs') {G':Za} (hly:ZaQ G [] sq h 0 G=G') :
  Zq O bf G sq f own false args=some (.tup [.agg cs',.int .i64 c],G',{ any:=true }):=by
 subst hly
 have hm:Zbb bf f G args=some (vs,[],ls,2):=by
  simp only[Zbb,hb,h2,hno,XT,if_true,hl,hr,X8,Xp]
 have hf':ZcV (.tup [.agg cs,.int .i64 c])=true:=by simp only[ZcV,Zb5,hf,XT]
 unfold Zq
 rw[hm]
 simp only[hr,show Zv G []=G from rfl,show Zt G 1000 [] []=[]from rfl]
 unfold Zbk
 simp only[List.all_nil,if_true,hn,Zo,Xw,hO,ZbV,Zi4,hf',hh,XT,ZV,Xi,if_false]
 have hc:ZgJ own (.tup [.agg cs,.int .i64 c]) h=none:=rfl
 simp only[Zaz,X8,hne,XaZ,Xi,if_false,if_true,hc,Xw,XF,hle,Nat.zero_le,decide_true,hk,hff,XT,Zp,Zj,hcs,Za9]
theorem Zms{G:Za}:∀ {P ys:List AVal} {ts:List Nat},Zae G P=some (ys,ts)->ZcJ G P=some (ys,ts)
 | [],_,_,h=>h
 |x::P,ys,ts,h=>by
  rw[Zae]at h
  split at h
  ·rename_i y t0 h0
   split at h
   ·rename_i h1
    have : Zcu G x=some (y,t0):=by
     cases x<;>first |exact h0 |(simp[ZN]at h0;done)
    rw[ZcJ,this]
    simp only[Zms h1]
    exact h
   ·cases h
  ·cases h
theorem Zo4{G:Za}:∀ {P ys:List AVal} {ts:List Nat} {k:Nat} {x:AVal},Zae G P=some (ys,ts)->P[k]?=some x->∃ y t,ys[k]?=some y/\ZN G x=some (y,t)
 | [],_,_,k,x,_,hk=>by simp at hk
 |z::P,ys,ts,k,x,h,hk=>by
  rw[Zae]at h
  split at h
  ·rename_i y t0 h0
   split at h
   ·rename_i h1
    injection h with h;injection h with h _;subst h
    cases k with
    |zero=>grind
    |succ k=>simpa using Zo4 h1 (by grind)
   ·cases h
  ·cases h
theorem ZyS{D:Type}:∀ {l:List D} {k:Nat} {x:D},l[k]?=some x->l.set k x=l
 | [],_,_,h=>by simp at h
 |y::l,0,x,h=>by grind
 |y::l,k+1,x,h=>by rw[Wp,ZyS (by simpa using h)]
theorem ZwY{G:Za}{v y:AVal}{t:List Nat}(hv:ZN G v=some (y,t)):∀ {P ys:List AVal} {ts:List Nat} (k:Nat),Zae G P=some (ys,ts)->ys[k]?=some y->∃ ts',Zae G (P.set k v)=some (ys,ts')
 | [],_,ts,_,h,_=>⟨ts,h⟩
 |x::P,ys,ts,k,h,hk=>by
  rw[Zae]at h
  split at h
  ·rename_i y0 t0 h0
   split at h
   ·rename_i ys0 us0 h1
    injection h with h;injection h with h2 h3
    subst h2
    cases k with
    |zero =>
     simp only[XK,Xb]at hk
     subst hk
     rw[WG,Zae,hv]
     simp only[h1]
     grind
    |succ k =>
     obtain⟨ts',h4⟩:=ZwY hv k h1 (by grind)
     rw[Wp,Zae,h0]
     simp only[h4]
     grind
   ·cases h
  ·cases h
theorem ZuB{G:Za}{P ys:List AVal}{ts:List Nat}{k s w:Nat}{zs:List AVal}(hk:k<P.length)(hp:P[k]?=some (.lst false zs))(h:Zae G P=some (ys,ts))(hs:G[s]?=some (.row 0 w zs)):∃ ts',Zae G (P.set k (.sl s 0 0 zs.length))=some (ys,ts'):=by
 have hv:ZN G (.sl s 0 0 zs.length)=some (.lst false zs,[s]):=by
  simp[ZN,ZZ,hs]
 obtain⟨y,t,h2,h3⟩:=Zo4 h hp
 simp only[ZN,Xb,Xe]at h3
 obtain⟨rfl,rfl⟩:=h3
 exact ZwY hv k h h2
structure ZqI(s:Nat)(q:Zx)(PC:List AVal)(R1 R2:ZP):Prop where
 len:PC.length=26
 ok:PC.all ZY=true
 show':∀ G:Za,G[s]?=some R1->G[s+1]?=some R2->∃ ts,ZcJ G PC=some (ZC q,ts)
 sh:(PC[6]?=some (.lst true [])/\PC[24]?=some (.lst true [])/\PC[17]?=some (.lst true [])) \/
  (∃ l:Zd,l.length<=1099511627776/\R1=.row 0 1 (l.map Zh)/\R2=.free/\((PC[6]?=some (.sl s 0 0 l.length)/\PC[24]?=some (.lst true [])/\PC[17]?=some (.lst true [])) \/
   (PC[6]?=some (.lst true [])/\PC[24]?=some (.sl s 0 0 l.length)/\PC[17]?=some (.lst true []))\/(PC[6]?=some (.lst true [])/\PC[24]?=some (.lst true [])/\PC[17]?=some (.sl s 0 0 l.length)))) \/
  (∃ d e:Zd,d.length<=1099511627776/\e.length<=1099511627776/\R1=.row 0 1 (d.map Zh)/\R2=.row 0 1 (e.map Zh)/\PC[6]?=some (.lst true [])/\PC[24]?=some (.sl (s+1) 0 0 e.length)/\PC[17]?=some (.sl s 0 0 d.length))
theorem Zsk{G:Za}{s:Nat}(h:freeAt G s=true):G.set s .free=G:=by
 unfold freeAt at h
 split at h
 ·exact ZyS ‹_›
 ·cases h
theorem Ztl{q:Zx}{P:List AVal}{k:Nat}{ys:List AVal}(h:Is P q)(hp:P[k]?=some (.lst false ys)):(ZC q)[k]?=some (.lst false ys):=by
 obtain⟨y,t,h2,h3⟩:=Zo4 (h.view []) hp
 simp only[ZN,Xb,Xe]at h3
 grind
theorem ZFE{q:Zx}{P:List AVal}{k:Nat}{v:AVal}(h:Is (P.set k v) q)(w:AVal)(hw:ZcV w=true):Zb5 (P.set k w)=true:=by
 have:=ZnN hw k (Znl (h.view []))
 rwa [WD]at this
theorem ZIi(b:Int)(hb:0<=b/\b<256)(l:Zd)(hl:l.length<=1099511627775)(t s:Nat):∃ PC R1 R2 k,ZqI s (ZdL b l).1 PC R1 R2/\∀ G:Za,G[t]?=some (.row 0 1 (l.map Zh++[.int .u8 165,.int .u8 90]))->Zaj G s 2=true ->
  Zq E1 BY G s 7 2 false [.agg [.int .u8 b,.sl t 0 0 l.length]]=some (.tup [.agg PC,.int .i64 (ZdL b l).2],(G.set s R1).set (s+1) R2,k):=by
 have hL:∀ G:Za,G[t]?=some (.row 0 1 (l.map Zh++[.int .u8 165,.int .u8 90]))->ZdT G [.agg [.int .u8 b,.sl t 0 0 l.length]]=some ([.agg [.int .u8 b,.lnt l]],[],[t]):=by
  intro G hs
  have h1:l.length<=(l.map Zh++[AVal.int .u8 165,.int .u8 90]).length:=by simp
  have h2:(l.map Zh++[AVal.int .u8 165,.int .u8 90]).take l.length=l.map Zh:=by rw[List.take_append_of_le_length (by simp)];simp[XG]
  simp only[ZdT,ZgF,Ze8,ZfP,Ze1,ZZ,hs,XF,h1,and_self,if_true,List.drop_zero,h2,Zye,Zcu,Xr,Xp]
 have hf2:∀ {G:Za},Zaj G s 2=true->freeAt G s=true/\freeAt G (s+1)=true:=by
  intro G h
  simp only[Zaj,Xk,Xag]at h
  exact h
 have hR:=ZAh b l (by omega)
 rcases ZFG b hb l hl with⟨Q,hQ,hN,hz,hi,hE⟩ |⟨Q,kk,w,ys,hQ,hN,⟨hk,hw⟩,hz,hi,hE⟩ |⟨Q,d,e,hQ,hN,hz,hi,hE⟩
 ·refine⟨Q,.free,.free,{ rd:=[t],wr:=[t] },⟨hQ,hi.ok,fun G _ _=>⟨_,Zms (hi.view G)⟩,Xq ⟨hz.c6,hz.c24,hz.c17⟩⟩,fun G hs hf=>?_⟩
  rw[Zsk (hf2 hf).1,Zsk (hf2 hf).2]
  have hq:Q.all ZaJ=false:=by
   cases h:Q.all ZaJ with
   |false=>rfl
   |true=>have:=Xy.1 h _ (List.mem_of_getElem? hz.c6);cases this
  have hn:Zej G t=false:=by simp[Zej,hs,ZjS,List.all_append,AVal.cells,nb1]
  exact ZR1 (by kernel_rfl) (by kernel_rfl) rfl (hL G hs) rfl (fun _=>rfl) hE (by simp only[ZcV,Zb5,Znl (hi.view []),XT]) rfl rfl (by simp only[Zp,Zj,(Z5 _ Q hN).1]) (by simp only[ZbC,XW,Za2,hq,Wi]) (by simp only[Zda,XW,hn,Wi,XaZ])
 ·have hkQ:kk<(Q.set kk (AVal.lst false ys)).length:=by simp[hQ,hk]
  have hp:(Q.set kk (AVal.lst false ys))[kk]?=some (.lst false ys):=by simp[hQ,hk]
  have hc:=Ztl hi hp
  refine⟨Zi Q kk s 0 ys.length,.row 0 w ys,.free,{ any:=true },⟨by simp[Zi,hQ],Zjv hi.ok rfl,fun G h1 _=>?_,?_⟩,fun G hs hf=>?_⟩
  ·obtain⟨ts,h3⟩:=ZuB hkQ hp (hi.view G) h1
   rw[WD]at h3
   exact⟨ts,Zms h3⟩
  ·by_cases h6:kk=6
   ·subst h6
    simp only[ZC,XN,XK,Xb,AVal.lst.injEq,true_and]at hc
    subst hc
    rw[show w=1 by omega]
    refine Xt (Xq ⟨(ZdL b l).1.payload,hR.pay,rfl,rfl,Xq ⟨by simp[Zi,hQ],by rw[Zi,Xl (by omega)];exact hz.c24,by rw[Zi,Xl (by omega)];exact hz.c17⟩⟩)
   by_cases h24:kk=24
   ·subst h24
    simp only[ZC,XN,XK,Xb,AVal.lst.injEq,true_and]at hc
    subst hc
    rw[show w=1 by omega]
    refine Xt (Xq ⟨(ZdL b l).1.password,hR.pw,rfl,rfl,Xt (Xq ⟨by rw[Zi,Xl (by omega)];exact hz.c6,by simp[Zi,hQ],by rw[Zi,Xl (by omega)];exact hz.c17⟩)⟩)
   by_cases h17:kk=17
   ·subst h17
    simp only[ZC,XN,XK,Xb,AVal.lst.injEq,true_and]at hc
    subst hc
    rw[show w=1 by omega]
    refine Xt (Xq ⟨(ZdL b l).1.will.data,hR.wd,rfl,rfl,Xt (Xt ⟨by rw[Zi,Xl (by omega)];exact hz.c6,by rw[Zi,Xl (by omega)];exact hz.c24,by simp[Zi,hQ]⟩)⟩)
   ·refine Xq ?_
    unfold Zi
    rw[Xl h6,Xl h24,Xl h17]
    exact⟨hz.c6,hz.c24,hz.c17⟩
  ·have hf1:=hf2 hf
   have hfr:freeAt (G.set s (.row 0 w ys)) (s+1)=true:=by
    have:=hf1.2
    unfold freeAt at this ⊢
    rw[Xl (by omega)];exact this
   rw[Zsk hfr]
   exact ZzE (h:=[.row 0 w ys]) (by kernel_rfl) (by kernel_rfl) rfl (hL G hs) rfl (fun _=>rfl) hE (ZFE hi _ rfl) rfl rfl (by simp) rfl hf (ZaC Q hQ hN kk hk _ _ rfl) rfl
 ·have hp:(Zc7 Q [(17,d),(24,e)])[17]?=some (.lst false (d.map Zh)):=by simp[Zc7,hQ]
  have hp2:(Zc7 Q [(17,d),(24,e)])[24]?=some (.lst false (e.map Zh)):=by simp[Zc7,hQ]
  have hc:=Ztl hi hp
  have hc2:=Ztl hi hp2
  simp only[ZC,XN,XK,Xb,AVal.lst.injEq,true_and]at hc hc2
  have hd:d.length<=1099511627776:=by
   have:=congrArg Xaz hc
   simp only[XS]at this
   have:=hR.wd;omega
  have he:e.length<=1099511627776:=by
   have:=congrArg Xaz hc2
   simp only[XS]at this
   have:=hR.pw;omega
  have ho:(Zbw Q s (s+1) d.length e.length).all ZY=true:=by
   have:=hi.ok
   unfold Zc7 Zc7 at this
   exact ZAD this rfl rfl
  refine⟨Zbw Q s (s+1) d.length e.length,.row 0 1 (d.map Zh),.row 0 1 (e.map Zh),{ any:=true },⟨by simp[Zbw,hQ],ho,fun G h1 h2=>?_,?_⟩,fun G hs hf=>?_⟩
  ·obtain⟨ts,h3⟩:=ZuB (by grind) hp (hi.view G) h1
   obtain⟨ts',h4⟩:=ZuB (k:=24) (by grind) (by grind) h3 h2
   refine⟨ts',Zms ?_⟩
   simp only[Zc7,XS]at h4
   rwa [WD,Wj _ _ (by omega:(17:Nat)≠24),WD]at h4
  ·refine Xt (Xt ⟨d,e,hd,he,rfl,rfl,by rw[Zbw,Xl (by omega),Xl (by omega)];exact hz.c6,by simp[Zbw,hQ],by simp[Zbw,hQ]⟩)
  ·refine ZzE (h:=[.row 0 1 (d.map Zh),.row 0 1 (e.map Zh)]) (by kernel_rfl) (by kernel_rfl) rfl (hL G hs) rfl (fun _=>rfl) hE ?_ rfl rfl (by simp) rfl hf ?_ rfl
   rotate_left
   ·unfold Zbw
    rw[Zhi,Zhi,(Z5 _ Q hN).1]
    rfl
   have h5:=ZnN (v:=.sl 1 0 0 e.length) rfl 24 (ZnN (v:=.sl 0 0 0 d.length) rfl 17 (Znl (hi.view [])))
   simp only[Zc7]at h5
   rwa [WD,Wj _ _ (by omega:(17:Nat)≠24),WD]at h5
end
section
abbrev OB:=Option Zd
inductive Sh:OB->OB->OB->Prop
 |n:Sh none none none
 |p (l:Zd) (h:l.length<=1099511627776):Sh (some l) none none
 |q (l:Zd) (h:l.length<=1099511627776):Sh none (some l) none
 |r (l:Zd) (h:l.length<=1099511627776):Sh none none (some l)
 |s (l m:Zd) (h:l.length<=1099511627776) (g:m.length<=1099511627776):Sh none (some l) (some m)
def Zcp:Nat->List OB->List AVal
 |_,[]=>[]
 |k,none::r=>.lst true []::Zcp k r
 |k,some l::r=>.sl k 0 0 l.length::Zcp (k+1) r
def Za8:List OB->Za
 | []=>[]
 |none::r=>Za8 r
 |some l::r=>.row 0 1 (l.map Zh)::Za8 r
def ZbQ:List OB->List AVal
 | []=>[]
 |none::r=>.lst false []::ZbQ r
 |some l::r=>.lst false (l.map Zh)::ZbQ r
def bk6(a s g n:Nat):List AVal:=[.sl a g 0 n,.sl s g 0 n,.lst true [],.lst true [],.lst true [],.lst true []]
def bkH(a b c:OB):Za:=.var (bk6 1 (2+(Za8 [a,b,c]).length) 0 3)::.rrow 0 1 (Zcp 2 [a,b,c])::(Za8 [a,b,c]++[.row 0 1 (ZbQ [a,b,c])])
def bkF(a b c:OB):Za:=.var (bk6 1 (2+(Za8 [a,b,c]).length) 0 3)::.rrow 0 1 (Zcp 2 [a,b,c])::((Za8 [a,b,c]).map (fun _=>.frow 0 1 [])++[.row 0 1 (ZbQ [a,b,c])])
theorem Zpf(G:Za)(sq own:Nat):Zq E BY G sq 30 own true [.lst true []]=some (.lst false [],G,{}):=by
 have h:E 30 [.lst true []] []=some (.sl 0 0 0 0,[.row 0 1 []]):=by
  rw[Zg (by rfl) Zwc]
  simp -implicitDefEqProofs only[EQA,Zc,Xc,Xf,Xa,Xg,XaR,reduceCtorEq,ZZ,↓reduceIte,Zyn,Znb,ZAv,Zb,show kOk 1 []=true from rfl,Zan]
  simp[ZR,gcA,Zw,Zt,Zl,ZH,Zn,Zo,ZI,Zm,ZD,Zj,Zp,Zz,ZB]
 exact Zwd (by kernel_rfl) rfl (by kernel_rfl) rfl (fun _=>rfl) h (by rfl) rfl
theorem ZS2(G:Za)(sq own:Nat):Zq E BY G sq 20 own true [.lst true [],.lst false []]=some (.bool true,G,{}) :=
 Zct (Zvl [] []) (by kernel_rfl) rfl rfl rfl (fun _=>rfl) G sq own
theorem ZQs{a b c:OB}(h:Sh a b c):E 31 [.ref 0 0] (bkH a b c)=some (.bool true,bkH a b c):=by
 have hN:=fun G sq=>ZS2 G sq 0
 have hS:∀ (l:Zd) (G:Za) (sq t:Nat),G[t]?=some (.row 0 1 (l.map Zh))->Zq E BY G sq 20 0 true [.sl t 0 0 l.length,.lst false (l.map Zh)]=some (.bool true,G,{ rd:=[t] }):=fun l G sq t hs=>by
  have:=ZAy G sq 0 l l t [] (by rw[Xr];exact hs)
  rwa [show(l==l)=true by simp]at this
 have c0:((0:Nat):Int)=0:=rfl
 have c3:((3:Nat):Int)=3:=rfl
 have z0:(0:Int)<3:=by decide
 have z1:(1:Int)<3:=by decide
 have z2:(2:Int)<3:=by decide
 have z4:¬((3:Int)<3):=by decide
 have w1:IntKind.i64.wrap (0+1)=1:=by decide
 have w2:IntKind.i64.wrap (1+1)=2:=by decide
 have w3:IntKind.i64.wrap (2+1)=3:=by decide
 have z3:¬((0:Int)<0):=by decide
 cases h <;>
 ·simp only[bkH,bk6,Za8,Zcp,ZbQ,Xz,Xw,Xd,XJ,Xp]
  rw[Zg (by rfl) ZEz]
  simp -implicitDefEqProofs only[EQA,Zc,ZT,Xd,Xc,Xa,Xg,reduceCtorEq,↓reduceIte,gcT,gcA,Zw,Zt,Zn,Zo,ZI,Zm,ZD,Zz,ZB,Xv,ZHO,Zrb,Zb,]
  iterate 6
   rw[Z9]
   simp -implicitDefEqProofs only[EQA,Zc,ZT,Xd,Xc,Xa,Xg,unA,reduceCtorEq,↓reduceIte,gcT,gcA,Zw,Zt,Zn,Zo,ZI,Zm,ZD,Zz,ZB,Xv,ZTt,ZJR,ZpR,ZSV,Zra,ZKh,Zo3,ZRQ,Zst,ZQP,Ztg,ZS9,Zuv,Zb,hN,hS,c0,c3,w1,w2,w3,z0,z1,z2,z3,z4,Zc5,Int.reduceToNat,Int.reduceLE,Xc,Xd,Int.toNat_zero,Int.toNat_one,AVal.cells]
  simp[ZR,gcA,Zw,Zt,Zl,ZH,Zn,Zo,ZI,Zm,ZD,Zj,Zp,Zz,ZB,Xv]
theorem ZOg{a b c:OB}(h:Sh a b c):E 33 [.ref 0 0] (bkF a b c)=some (.bool true,bkF a b c):=by
 have c0:((0:Nat):Int)=0:=rfl
 have z3:¬((0:Int)<0):=by decide
 cases h <;>
 ·simp only[bkF,bk6,Za8,Zcp,ZbQ,Xu,XC,Xz,Xw,Xd,XJ,Xp]
  rw[Zg (by rfl) ZU8]
  simp -implicitDefEqProofs only[EQA,Zc,ZT,Xd,Xc,Xa,Xg,reduceCtorEq,↓reduceIte,gcT,gcA,Zw,Zt,Zn,Zo,ZI,Zm,ZD,Zz,ZB,Xv,ZSm,Zsi,Zb,]
  iterate 3
   rw[Z9]
   simp -implicitDefEqProofs only[EQA,Zc,ZT,Xd,Xc,Xa,Xg,reduceCtorEq,↓reduceIte,gcT,gcA,Zw,Zt,Zn,Zo,ZI,Zm,ZD,Zz,ZB,Xv,ZM2,ZRN,Zqg,ZBX,Zuh,ZQa,ZtJ,ZBd,Zux,ZDT,ZrH,ZNl,ZrX,Zb,c0,z3]
  simp[ZR,gcA,Zw,Zt,Zl,ZH,Zn,Zo,ZI,Zm,ZD,Zj,Zp,Zz,ZB,Xv]
theorem ZEW{a b c:OB}(h:Sh a b c):E 34 [.ref 0 0] (bkF a b c)=some (.bool true,bkF a b c):=by
 have c0:((0:Nat):Int)=0:=rfl
 have z3:¬((0:Int)<0):=by decide
 cases h <;>
 ·simp only[bkF,bk6,Za8,Zcp,ZbQ,Xu,XC,Xz,Xw,Xd,XJ,Xp]
  rw[Zg (by rfl) ZJ0]
  simp -implicitDefEqProofs only[EQA,Zc,ZT,Xd,Xc,Xa,Xg,reduceCtorEq,↓reduceIte,gcT,gcA,Zw,Zt,Zn,Zo,ZI,Zm,ZD,Zz,ZB,Xv,ZFp,Zui,Zb,]
  iterate 3
   rw[Z9]
   simp -implicitDefEqProofs only[EQA,Zc,ZT,Xd,Xc,Xa,Xg,reduceCtorEq,↓reduceIte,gcT,gcA,Zw,Zt,Zn,Zo,ZI,Zm,ZD,Zz,ZB,Xv,ZIm,ZTC,Ztt,ZCR,ZqH,ZRS,Zs2,ZBY,ZpH,ZE5,ZtQ,ZQL,ZrG,Zb,c0,z3]
  simp[ZR,gcA,Zw,Zt,Zl,ZH,Zn,Zo,ZI,Zm,ZD,Zj,Zp,Zz,ZB,Xv]
theorem ZQr{a b c:OB}(h:Sh a b c):E 32 [.ref 0 0] (bkH a b c)=some (.bool true,bkF a b c):=by
 refine ZdD.2 ⟨1,?_⟩
 show Zlr [.ref 0 0] (bkH a b c)=_
 cases h<;>simp[bkH,bkF,bk6,Za8,Zcp,ZbQ,Zlr,Ztz,Zid,ZyA,relB, *]
theorem Znj{f:Nat}{h h':Za}{a b c:OB}(hs:Sh a b c)(hb:BY f=false)(hh:h=bkH a b c/\(h'=bkH a b c\/h'=bkF a b c)\/h=bkF a b c/\h'=bkF a b c)(hO:E f [.ref 0 0] h=some (.bool true,h'))(sq:Nat) :
  Zq E BY h sq f 0 true [.ref 0 0]=some (.bool true,h',{ any:=true,upd:=[(0,bk6 1 (2+(Za8 [a,b,c]).length) 0 3)] }):=by
 refine Zz8 (vs:=[.ref 0 0]) (vs':=[.ref 0 0]) (r0:=.bool true) (r:=.bool true) (h:=h') (ids:=X5 (3+(Za8 [a,b,c]).length)) hb rfl ?_ ?_ ?_ ?_ ?_ hO ?_ ?_ ?_ ?_ ?_ rfl ?_ ?_
 all_goals cases hs<;>rcases hh with⟨rfl,rfl |rfl⟩ |⟨rfl,rfl⟩<;>first |kernel_rfl |exact XH _
theorem ZSY{a b c:OB}(h:Sh a b c):E 13 [.ref 0 0] (bkH a b c)=some (.bool true,bkF a b c):=by
 have k1:=Znj h (by kernel_rfl) (Xq ⟨rfl,Xq rfl⟩) (ZQs h)
 have k2:=Znj h (by kernel_rfl) (Xq ⟨rfl,Xt rfl⟩) (ZQr h)
 have k3:=Znj h (by kernel_rfl) (Xt ⟨rfl,rfl⟩) (ZOg h)
 have k4:=Znj h (by kernel_rfl) (Xt ⟨rfl,rfl⟩) (ZEW h)
 have ho:ZR (bkH a b c).length (bkF a b c) (.bool true)=some (.bool true,bkF a b c):=by cases h<;>rfl
 have hn:∃ cs,bkH a b c=.var cs::(bkH a b c).tail:=⟨_,rfl⟩
 generalize bkH a b c=H at *
 generalize bkF a b c=F at *
 obtain⟨cs,hn⟩:=hn
 rw[Zg (by rfl) ZTl]
 simp -implicitDefEqProofs only[EQA,Zc,Xc,Xa,Zy,unG,reduceCtorEq,↓reduceIte,ZOa,Zso,ZHY,Zb,k1,k2,k3,k4]
 exact ho
end
section
def ZkM:List AVal:=[.lst true [],.lst true [],.lst true [],.lst true [],.lst true [],.lst true []]
def Zdu(k:Nat):OB->AVal
 |none=>.lst true []
 |some l=>.sl k 0 0 l.length
def nR(l:List OB):Nat:=(Za8 l).length
theorem ZUJ(l:Zd)(h:l.length<=140737488355328):E 30 [.sl 0 0 0 l.length] [.row 0 1 (l.map Zh)]=some (.sl 1 0 0 l.length,[.row 0 1 (l.map Zh),.row 0 1 (l.map Zh)]):=by
 have k1:=Zpo l
 have k2:l.length*1<=140737488355328:=by omega
 have k3:(l.map Zh).length=l.length:=XS ..
 have k4:(l.map Zh).take l.length=l.map Zh:=XG (by omega)
 generalize l.map Zh=L at *
 rw[Zg (by rfl) Zwc]
 simp -implicitDefEqProofs only[EQA,Zc,Xd,Xc,Xa,Xg,reduceCtorEq,ZZ,↓reduceIte,Zyn,Znb,ZAv,Zb,k1,k2,k3,k4,XH,Zan]
 simp[ZR,gcA,Zw,Zt,Zl,ZH,Zn,Zo,ZI,Zm,ZD,Zj,Zp,Zz,ZB,Xv]
theorem ZpG(l:Zd)(h:l.length<=140737488355328)(G:Za)(sq own t:Nat)(hs:G[t]?=some (.row 0 1 (l.map Zh)))(hff:Zaj G sq own=true) :
  Zq E BY G sq 30 own true [.sl t 0 0 l.length]=some (.lst false (l.map Zh),G.set t (.row 0 1 (l.map Zh)),{ any:=true }):=by
 refine Zwo (args':=[.sl 0 0 0 l.length]) hs (by kernel_rfl) (by kernel_rfl) (by kernel_rfl) hff rfl (fun C h=>by simp only[Zj,Zp,h]) (fun C=>rfl) (Xq rfl) ?_
 rw[ZUJ l h]
 have k3:(l.map Zh).length=l.length:=XS ..
 have k4:(l.map Zh).take l.length=l.map Zh:=XG (by omega)
 generalize l.map Zh=L at *
 unfold ZV
 rw[if_pos rfl]
 simp[ZbR,viewR,Z3,ZN,ZZ,k3,k4,Zv,gcA,Zw,Zt,Zl,ZH,Zj,Zp,Zo,ZB,ZD,Zm,Zz,Xv]
def leO(x:OB):Prop:=∀ l,x=some l->l.length<=140737488355328
theorem ZI0(a:OB)(ha:leO a):E 12 [.ref 0 0,Zdu 1 a] (.var ZkM::Za8 [a]) =
  some (.tup [],.var (bk6 (1+nR [a]) (2+nR [a]) 0 1)::(Za8 [a]++[.rrow 0 1 (Zcp 1 [a]),.row 0 1 (ZbQ [a])])):=by
 have hN:=fun G sq=>Zpf G sq 0
 rcases a with _ |l
 ·simp only[ZkM,Zdu,nR,bk6,Za8,Zcp,ZbQ,Xw,Xp,X6]
  rw[Zg (by rfl) Zjf]
  simp -implicitDefEqProofs only[EQA,Zc,Zdk,Xd,Xc,Xf,Xa,Xg,reduceCtorEq,ZZ,decide_eq_true_eq,ite_self,↓reduceIte,Ze,Zi0,Zhz,ZiY,Zb,hN,Zan,kOk,viewAs,Z3,ZN,Zv,WL,ZdY,ZY,AVal.cells,ZaG,ZaP,ZaU,Zbi,Zbl,Zbg,Zbq,Zbo,ZaV,XP]
  simp[ZR,gcA,Zw,Zt,Zl,ZH,Zn,Zo,ZI,Zm,ZD,Zj,Zp,Zz,ZB,Xv]
 ·have hT:=fun(G:Za) (sq t:Nat) (hs:G[t]?=some (.row 0 1 (l.map Zh)))=>ZpG l (ha l rfl) G sq 0 t hs rfl
  simp only[ZkM,Zdu,nR,bk6,Za8,Zcp,ZbQ,Xw,Xz,Xp,XJ,Xd]
  generalize l.length=n at *
  generalize l.map Zh=L at *
  rw[Zg (by rfl) Zjf]
  simp -implicitDefEqProofs only[EQA,Zc,Zdk,Xd,Xc,Xf,Xa,Xg,reduceCtorEq,ZZ,decide_eq_true_eq,ite_self,↓reduceIte,Zi0,Zhz,ZiY,Zb,hT,Zan,kOk,viewAs,Z3,ZN,Zv,WL,ZdY,ZY,AVal.cells,ZaG,ZaP,ZaU,Zbi,Zbl,Zbg,Zbq,Zbo,ZaV,XP]
  simp[ZR,gcA,Zw,Zt,Zl,ZH,Zn,Zo,ZI,Zm,ZD,Zj,Zp,Zz,ZB,Xv]
theorem ZDz(a b:OB)(hb:leO b):E 12 [.ref 0 0,Zdu (3+nR [a]) b] (.var (bk6 1 (2+nR [a]) 0 1)::.rrow 0 1 (Zcp 2 [a])::(Za8 [a]++(.row 0 1 (ZbQ [a])::Za8 [b]))) =
  some (.tup [],.var (bk6 1 (2+nR [a]) 1 2)::.rrow 1 1 (Zcp 2 [a]++[Zdu (3+nR [a]) b])::(Za8 [a]++(.row 1 1 (ZbQ [a,b])::Za8 [b]))):=by
 have hN:=fun G sq=>Zpf G sq 0
 rcases b with _ |l
 ·rcases a with _ |k <;>
  ·simp only[Zdu,nR,bk6,Za8,Zcp,ZbQ,Xw,Xz,Xp,XJ,Xd,X6]
   rw[Zg (by rfl) Zjf]
   simp -implicitDefEqProofs only[EQA,Zc,Zdk,Xd,Xc,Xf,Xa,Xg,XaR,reduceCtorEq,ZZ,decide_eq_true_eq,ite_self,↓reduceIte,Zi0,Zhz,ZiY,Zb,hN,Zan,kOk,viewAs,Z3,ZN,Zv,ZdY,ZY,AVal.cells,ZaG,ZaP,ZaU,Zbi,Zbl,Zbg,Zbq,Zbo,ZaV,XP]
   simp[ZR,gcA,Zw,Zt,Zl,ZH,Zn,Zo,ZI,Zm,ZD,Zj,Zp,Zz,ZB,Xv]
 ·have hT:=fun(G:Za) (sq t:Nat) (hs:G[t]?=some (.row 0 1 (l.map Zh)))=>ZpG l (hb l rfl) G sq 0 t hs rfl
  rcases a with _ |k <;>
  ·simp only[Zdu,nR,bk6,Za8,Zcp,ZbQ,Xw,Xz,Xp,XJ,Xd,X6]
   generalize l.length=n at *
   generalize l.map Zh=L at *
   rw[Zg (by rfl) Zjf]
   simp -implicitDefEqProofs only[EQA,Zc,Zdk,Xd,Xc,Xf,Xa,Xg,XaR,reduceCtorEq,ZZ,decide_eq_true_eq,ite_self,↓reduceIte,Zi0,Zhz,ZiY,Zb,hT,Zan,kOk,viewAs,Z3,ZN,Zv,ZdY,ZY,AVal.cells,ZaG,ZaP,ZaU,Zbi,Zbl,Zbg,Zbq,Zbo,ZaV,XP]
   simp[ZR,gcA,Zw,Zt,Zl,ZH,Zn,Zo,ZI,Zm,ZD,Zj,Zp,Zz,ZB,Xv]
theorem ZSg(a b c:OB)(hc:leO c):E 12 [.ref 0 0,Zdu (3+nR [a,b]) c] (.var (bk6 1 (2+nR [a,b]) 0 2)::.rrow 0 1 (Zcp 2 [a,b])::(Za8 [a,b]++(.row 0 1 (ZbQ [a,b])::Za8 [c]))) =
  some (.tup [],.var (bk6 1 (2+nR [a,b]) 1 3)::.rrow 1 1 (Zcp 2 [a,b]++[Zdu (3+nR [a,b]) c])::(Za8 [a,b]++(.row 1 1 (ZbQ [a,b,c])::Za8 [c]))):=by
 have hN:=fun G sq=>Zpf G sq 0
 rcases c with _ |l
 ·rcases a with _ |k<;>rcases b with _ |k' <;>
  ·simp only[Zdu,nR,bk6,Za8,Zcp,ZbQ,Xw,Xz,Xp,XJ,Xd,X6]
   rw[Zg (by rfl) Zjf]
   simp -implicitDefEqProofs only[EQA,Zc,Zdk,Xd,Xc,Xf,Xa,Xg,XaR,reduceCtorEq,ZZ,decide_eq_true_eq,ite_self,↓reduceIte,Zi0,Zhz,ZiY,Zb,hN,Zan,kOk,viewAs,Z3,ZN,Zv,ZdY,ZY,AVal.cells,ZaG,ZaP,ZaU,Zbi,Zbl,Zbg,Zbq,Zbo,ZaV,XP]
   simp[ZR,gcA,Zw,Zt,Zl,ZH,Zn,Zo,ZI,Zm,ZD,Zj,Zp,Zz,ZB,Xv]
 ·have hT:=fun(G:Za) (sq t:Nat) (hs:G[t]?=some (.row 0 1 (l.map Zh)))=>ZpG l (hc l rfl) G sq 0 t hs rfl
  rcases a with _ |k<;>rcases b with _ |k' <;>
  ·simp only[Zdu,nR,bk6,Za8,Zcp,ZbQ,Xw,Xz,Xp,XJ,Xd,X6]
   generalize l.length=n at *
   generalize l.map Zh=L at *
   rw[Zg (by rfl) Zjf]
   simp -implicitDefEqProofs only[EQA,Zc,Zdk,Xd,Xc,Xf,Xa,Xg,XaR,reduceCtorEq,ZZ,decide_eq_true_eq,ite_self,↓reduceIte,Zi0,Zhz,ZiY,Zb,hT,Zan,kOk,viewAs,Z3,ZN,Zv,ZdY,ZY,AVal.cells,ZaG,ZaP,ZaU,Zbi,Zbl,Zbg,Zbq,Zbo,ZaV,XP]
   simp[ZR,gcA,Zw,Zt,Zl,ZH,Zn,Zo,ZI,Zm,ZD,Zj,Zp,Zz,ZB,Xv]
end
section
theorem Zul{O:ZS}{bf:Nat->Bool}{G:Za}{sq f own:Nat}{view:Bool}{args vs':List AVal}{ids:List Nat}{h0 h:Za}{r0 r:AVal}(hb:bf f=true)(hb2:bf (f+2000000)=false)(hb3:bf (f+3000000)=false)(hre:Zt G 1000 (Zl args) []=ids)(hne:ids.isEmpty=false)
  (hall:(ids.all fun t=>okB (G.getD t .free))=true) (hvs:Zj (Zn G 0 ids) args=vs') (hh:Zo G 0 ids (Zn G 0 ids) ids 0=h0) {hh0:Za} (hO:O f vs' h0=some (r0,hh0)) (hv:ZV view ids.length (some (r0,hh0))=some (r,h))
  (hl1:h.length<=ids.length+own) (hl2:ids.length<=h.length) (hk:Za1 G ids h 0=true) (hff:Zaj G sq own=true) {r':AVal} (hr:Zp (Zak G ids sq) r=r') {G':Za} (hlay:ZaQ G ids sq h 0 G=G') {u:List (Nat×List AVal)} (hu:Za9 G' ids=u) :
  Zq O bf G sq f own view args=some (r',G',{ any:=true,upd:=u }):=by
 subst hr hlay hu
 unfold Zq
 rw[ZwA hb hb2 hb3]
 simp only[show Zv G []=G from rfl,hre]
 unfold Zbk
 rw[if_pos hall,hvs,hh,hO,Zdo,hv]
 simp only[Zaz,hne,Wi,Xi,if_false,hl1,hl2,decide_true,hk,hff,XT,if_true]
def bR(l:Zd):ZP:=.row 0 1 (l.map Zh)
inductive ShR:OB->OB->OB->ZP->ZP->AVal->AVal->AVal->Prop
 |n (R1 R2:ZP):ShR none none none R1 R2 (.lst true []) (.lst true []) (.lst true [])
 |p (l:Zd):ShR (some l) none none (bR l) .free (.sl 3 0 0 l.length) (.lst true []) (.lst true [])
 |q (l:Zd):ShR none (some l) none (bR l) .free (.lst true []) (.sl 3 0 0 l.length) (.lst true [])
 |r (l:Zd):ShR none none (some l) (bR l) .free (.lst true []) (.lst true []) (.sl 3 0 0 l.length)
 |s (d e:Zd):ShR none (some e) (some d) (bR d) (bR e) (.lst true []) (.sl 4 0 0 e.length) (.sl 3 0 0 d.length)
section
variable {a b c:OB}{R1 R2:ZP}{v6 v24 v17:AVal}(h:ShR a b c R1 R2 v6 v24 v17)(B0 B1 B2 B5 B6:ZP)
include h
theorem ZLG(ha:leO a):Zq E BY [B0,B1,B2,R1,R2,B5,B6,.var ZkM,.free,.free] 8 12 2 true [.ref 7 0,v6] =
  some (.tup [],[B0,B1,B2,R1,R2,B5,B6,.var (bk6 8 9 0 1),.rrow 0 1 [v6],.row 0 1 (ZbQ [a])],{ any:=true,upd:=[(7,bk6 8 9 0 1)] }):=by
 have hO:=ZI0 a ha
 refine Zul (ids:=7::ZH v6) (vs':=[.ref 0 0,Zdu 1 a]) (r0:=.tup []) (r:=.tup []) (h:=.var (bk6 (1+nR [a]) (2+nR [a]) 0 1)::(Za8 [a]++[.rrow 0 1 (Zcp 1 [a]),.row 0 1 (ZbQ [a])])) (by kernel_rfl) (by kernel_rfl) (by kernel_rfl) ?_ ?_ ?_ ?_ ?_ hO ?_ ?_ ?_ ?_ ?_ rfl ?_ ?_
 all_goals cases h<;>first |kernel_rfl |(simp[Za8,ZH];done)
theorem ZCI(hb:leO b):Zq E BY [B0,B1,B2,R1,R2,B5,B6,.var (bk6 8 9 0 1),.rrow 0 1 [v6],.row 0 1 (ZbQ [a]),.free,.free] 10 12 2 true [.ref 7 0,v24] =
  some (.tup [],[B0,B1,B2,R1,R2,B5,B6,.var (bk6 8 9 1 2),.rrow 1 1 [v6,v24],.row 1 1 (ZbQ [a,b]),.free,.free],{ any:=true,upd:=[(7,bk6 8 9 1 2)] }):=by
 have hO:=ZDz a b hb
 refine Zul (ids:=[7,8]++ZH v6++[9]++ZH v24) (vs':=[.ref 0 0,Zdu (3+nR [a]) b]) (r0:=.tup []) (r:=.tup []) (h:=.var (bk6 1 (2+nR [a]) 1 2)::.rrow 1 1 (Zcp 2 [a]++[Zdu (3+nR [a]) b])::(Za8 [a]++(.row 1 1 (ZbQ [a,b])::Za8 [b]))) (by kernel_rfl) (by kernel_rfl) (by kernel_rfl) ?_ ?_ ?_ ?_ ?_ hO ?_ ?_ ?_ ?_ ?_ rfl ?_ ?_
 all_goals cases h<;>first |kernel_rfl |(simp[Za8,ZH];done)
theorem ZMd(hc:leO c):Zq E BY [B0,B1,B2,R1,R2,B5,B6,.var (bk6 8 9 1 2),.rrow 1 1 [v6,v24],.row 1 1 (ZbQ [a,b]),.free,.free,.free,.free] 12 12 2 true [.ref 7 0,v17] =
  some (.tup [],[B0,B1,B2,R1,R2,B5,B6,.var (bk6 8 9 2 3),.rrow 2 1 [v6,v24,v17],.row 2 1 (ZbQ [a,b,c]),.free,.free,.free,.free],{ any:=true,upd:=[(7,bk6 8 9 2 3)] }):=by
 have hO:=ZSg a b c hc
 refine Zul (ids:=[7,8]++ZH v6++ZH v24++[9]++ZH v17) (vs':=[.ref 0 0,Zdu (3+nR [a,b]) c]) (r0:=.tup []) (r:=.tup []) (h:=.var (bk6 1 (2+nR [a,b]) 1 3)::.rrow 1 1 (Zcp 2 [a,b]++[Zdu (3+nR [a,b]) c])::(Za8 [a,b]++(.row 1 1 (ZbQ [a,b,c])::Za8 [c]))) (by kernel_rfl) (by kernel_rfl) (by kernel_rfl) ?_ ?_ ?_ ?_ ?_ hO ?_ ?_ ?_ ?_ ?_ rfl ?_ ?_
 all_goals cases h<;>first |kernel_rfl |(simp[Za8,ZH];done)
theorem ZEg(hs:Sh a b c)(sq:Nat):∃ G',Zq E BY [B0,B1,B2,R1,R2,B5,B6,.var (bk6 8 9 2 3),.rrow 2 1 [v6,v24,v17],.row 2 1 (ZbQ [a,b,c]),.free,.free,.free,.free] sq 13 0 true [.ref 7 0]=some (.bool true,G',{ any:=true,upd:=[(7,bk6 8 9 2 3)] }):=by
 have hO:=ZSY hs
 refine⟨_,Zz8 (ids:=[7,8]++ZH v6++ZH v24++ZH v17++[9]) (vs:=[.ref 7 0]) (vs':=[.ref 0 0]) (r0:=.bool true) (r:=.bool true) (h:=bkF a b c) (by kernel_rfl) rfl ?_ ?_ ?_ ?_ ?_ hO ?_ ?_ ?_ ?_ ?_ rfl rfl ?_⟩
 all_goals cases h<;>first |kernel_rfl |(simp[bkF,Za8,ZH];done)
end
end
section
theorem ZFq(e:Int):E 10 [.int .i64 e] []=some (.int .i64 e,[]):=by
 rw[Zg (by rfl) ZBh]
 simp -implicitDefEqProofs only[EQA,Zc,Xc,Xa,reduceCtorEq,↓reduceIte,ZU6,Zp0,ZJN]
theorem ZEU(G:Za)(sq own:Nat)(view:Bool)(e:Int):Zq E BY G sq 10 own view [.int .i64 e]=some (.int .i64 e,G,{}) :=
 ZdI (ZFq e) (by kernel_rfl) (by simp -implicitDefEqProofs only[Zem,ZbW,eq_self]) (by simp -implicitDefEqProofs only[ZE,ZbW,eq_self]) rfl (fun _=>rfl) _ _ _ _
theorem ZfT{G:Za}{sq f own:Nat}{view:Bool}{args:List AVal}{r:AVal×Za×Cls}(h:Zq E BY G sq f own view args=some r):Zq E1 BY G sq f own view args=some r:=Zpz ZUk h
theorem ZU2(G:Za)(sq own:Nat)(b:Int)(hb:0<=b/\b<256)(l:Zd)(hl:l.length<=1099511627775):Zq E BY G sq 8 own true [.agg [.int .u8 b,.lst false (l.map Zh)]]=some (.tup [.agg (ZC (ZdL b l).1),.int .i64 (ZdL b l).2],G,{}):=by
 rw[Zg4 (by kernel_rfl) rfl]
 have h:=ZIT b hb l hl
 rw[ZCu b hb l,ZgY]at h
 show Zaz G G [] [] sq own (ZV true 0 (E _ [.agg [.int .u8 b,.lst false (l.map Zh)]] []))=_
 rw[h]
 refine ZfJ _ _ _ _ ?_
 rfl
theorem ZG6{s:Nat}{q:Zx}{PC:List AVal}{R1 R2:ZP}(h:ZqI s q PC R1 R2)(hq:OkR q){G:Za}(h1:G[s]?=some R1)(h2:G[s+1]?=some R2):∃ ts,∀ sq own:Nat,Zq E1 BY G sq 9 own true [.agg PC,.agg (ZC q)]=some (.bool true,G,{ rd:=ts }):=by
 obtain⟨ts,hs⟩:=h.show' G h1 h2
 have e:=ZI9 q q ⟨hq.codes,hq.props,hq.subs,hq.filters,hq.wprops⟩ hq.wprops
 rw[(ZPZ q q).2 rfl]at e
 have hsh:showAs G [.agg PC,.agg (ZC q)]=some ([ZcA q,ZcA q],ts):=by
  have h3:ZcJ G (ZC q)=some (ZC q,[]):=rfl
  simp only[showAs,showA,hs,h3,ZgY,Xr]
 exact⟨ts,fun sq own=>ZfT (ZAf (by kernel_rfl) hsh rfl rfl e rfl rfl sq own)⟩
theorem ZVo{q:Zx}{PC:List AVal}{R1 R2:ZP}(h:ZqI 3 q PC R1 R2):∃ a b c v6 v24 v17,ShR a b c R1 R2 v6 v24 v17/\Sh a b c/\leO a/\leO b/\leO c/\PC[6]?=some v6/\PC[24]?=some v24/\PC[17]?=some v17:=by
 have hn:leO none:=fun _ e=>by cases e
 have hl:∀ l:Zd,l.length<=1099511627776->leO (some l):=fun l h k e=>by grind
 rcases h.sh with⟨h1,h2,h3⟩ |⟨l,hb,rfl,rfl,⟨h1,h2,h3⟩ |⟨h1,h2,h3⟩ |⟨h1,h2,h3⟩⟩ |⟨d,e,hd,he,rfl,rfl,h1,h2,h3⟩
 ·exact⟨_,_,_,_,_,_,.n _ _,.n,hn,hn,hn,h1,h2,h3⟩
 ·exact⟨_,_,_,_,_,_,.p l,.p l hb,hl l hb,hn,hn,h1,h2,h3⟩
 ·exact⟨_,_,_,_,_,_,.q l,.q l hb,hn,hl l hb,hn,h1,h2,h3⟩
 ·exact⟨_,_,_,_,_,_,.r l,.r l hb,hn,hn,hl l hb,h1,h2,h3⟩
 ·exact⟨_,_,_,_,_,_,.s d e,.s e d he hd,hn,hl e he,hl d hd,h1,h2,h3⟩
theorem ZHP(b:Int)(hb:0<=b/\b<256)(l:Zd):E1 3 [.agg [.int .u8 b,.lst false (l.map Zh)]] []=some (.bool true,[]):=by
 have fc:=fun G sq own=>ZfT (ZFs G sq own true l 1200 (by decide))
 have hm:(l.take (1200:Int).toNat).length<=1200:=by rw[List.length_take];exact Nat.min_le_left ..
 generalize l.take (1200:Int).toNat=m at *
 have fl:=fun G sq hs=>ZfT (ZRw G sq m (by omega) hs)
 obtain⟨PC,R1,R2,k,hS,fr⟩:=ZIi b hb m (by omega) 1 3
 have fq:=fun G sq own=>ZfT (ZU2 G sq own b hb m (by omega))
 have hR:=ZAh b m (by omega)
 have hp0:=hS.len
 have hp1:PC.take 26=PC:=XG (by omega)
 have hp2:PC.drop 26=[]:=List.drop_eq_nil_of_le (by omega)
 have hpo:=hS.ok
 generalize ZdL b m=x at *
 obtain⟨q,c⟩:=x
 have e0:=Zub q
 have e1:=ZMx q
 have eo:(ZC q).all ZY=true:=rfl
 have e2:(ZC q).drop 26=[]:=rfl
 obtain⟨ts,fs⟩:∃ ts:Za->List Nat,∀ G:Za,G[3]?=some R1->G[4]?=some R2->∀ sq own,Zq E1 BY G sq 9 own true [.agg PC,.agg (ZC q)]=some (.bool true,G,{ rd:=ts G }):=by
  refine Classical.axiomOfChoice (r:=fun(G:Za) (t:List Nat)=>G[3]?=some R1->G[4]?=some R2->∀ sq own,Zq E1 BY G sq 9 own true [.agg PC,.agg (ZC q)]=some (.bool true,G,{ rd:=t })) (fun G=>?_)
  by_cases h:G[3]?=some R1/\G[4]?=some R2
  ·obtain⟨t,ht⟩:=ZG6 hS hR h.1 h.2
   exact⟨t,fun _ _=>ht⟩
  ·exact⟨[],fun h1 h2=>absurd ⟨h1,h2⟩ h⟩
 obtain⟨X',fb⟩:=ZN7 m (by omega)
 have fb:=fun G sq hs=>ZfT (fb G sq 1 hs)
 have fn:=fun G sq own e=>ZfT (ZEU G sq own true e)
 simp only at fr fq
 obtain⟨a,b',c',v6,v24,v17,hsr,hsh,la,lb,lc,g6,g24,g17⟩:=ZVo hS
 have k1:=fun B0 B1 B2 B5 B6=>ZfT (ZLG hsr B0 B1 B2 B5 B6 la)
 have k2:=fun B0 B1 B2 B5 B6=>ZfT (ZCI hsr B0 B1 B2 B5 B6 lb)
 have k3:=fun B0 B1 B2 B5 B6=>ZfT (ZMd hsr B0 B1 B2 B5 B6 lc)
 have kc:=fun B0 B1 B2 B5 B6=>(ZEg hsr B0 B1 B2 B5 B6 hsh 14).choose_spec
 have kc:=fun B0 B1 B2 B5 B6=>ZfT (kc B0 B1 B2 B5 B6)
 unfold ZkM at k1
 unfold bk6 at k1 k2 k3 kc
 have fw:=fun G sq own=>ZEZ G sq own true
 clear hS
 cases hsr <;>
 ·rw[ZG0 (by rfl) ZQd]
  simp -implicitDefEqProofs only[EQA,Zs,Zc,Xd,Xc,Xf,Xa,Xg,unA,Zy,unG,↓reduceIte,ZKS,Zr7,ZGy,Zb,AVal.cells,Zao,fc,fl,fr,Zaj,fq,fs,fb,fn,fw,k1,k2,k3,kc,g6,g24,g17,bne_self_eq_false,hp0,hp1,hpo,e0,e1,eo,ZaG,ZaP,ZaU,Zbi,Zbl,Zbg,Zbq,Zbo,ZaV,XP]
end
section
open Go.RowKit
def Zg7(P:Program):Nat->TypeId->Bool
 |0,_=>true
 |n+1,t=>match P.underlying t with
  |some (.slice e)=>decide (1<=P.bytesOf e)&&Zg7 P n e
  |some (.struct fs)=>fs.toList.all fun f=>Zg7 P n f.type
  |_=>true
mutual
def TyR(R:Nat):Ty->List AVal->Prop
 | .bool,xs=>∃ b,xs=[.bool b]
 | .int k,xs=>∃ n,(Lit.int k n).wf=true/\xs=[.int k n]
 | .str,xs=>∃ l:List UInt8,l.length<=R/\xs=[.str l]
 | .slice s e,xs=>∃ ys:List (List AVal),xs=[.lst false (ys.map (ZcB s))]/\ys.length<=R/\∀ y∈ys,TyR R e y
 | .struct fs,xs=>ZiL R fs xs
def ZiL(R:Nat):List Ty->List AVal->Prop
 | [],xs=>xs=[]
 |f::fs,xs=>∃ a b,xs=a++b/\TyR R f a/\ZiL R fs b
end
section
variable {H:Type}{enc:TypeId×Value->H}{P:Program}{w:World}{spare:Nat->Bool}{held:Bool}{R:Nat}
theorem ZwE{d:DataW H}{e:TypeId}{n:Nat}:∀ {l:List (DataW H)},d∈l->n∈d.weights P e->n∈DataW.weightsAll P e l
 |x::l,h,hn=>by
  simp only[DataW.weightsAll,XE]
  rcases X0.1 h with rfl |h
  ·grind
  ·exact Xt (ZwE h hn)
theorem ZS6{t e:TypeId}{l m:List (DataW H)}{d:DataW H}(hu:P.underlying t=some (.slice e))(hd:d∈l){n:Nat}(hn:n∈d.weights P e):n∈(DataW.slice l m).weights P t:=by
 simp only[DataW.weights,hu,X0,XE]
 exact Xt (Xq (ZwE hd hn))
theorem Zwh{n fuel:Nat}{cs:List Value}(ih:∀ (t:TypeId) (cs:List Value) (x:DataW H×List MemPlace) (T:Ty),Zd9 P n t=some T->Zg7 P n t=true->(∀ m∈x.1.weights P t,m<=R)->DataW.trod enc P w 0 spare held fuel t cs=some x->∃ xs,TyR R T xs/\VRs (Imm.of w) B0 xs cs/\ZaK xs=true) :
  ∀ (fs:List Field) (at':Nat) (Ts:List Ty) (ys:List (DataW H×List MemPlace)),(fs.all fun f=>Zg7 P n f.type)=true->(∀ m∈DataW.weightsEach P (fs.map (·.type)) (ys.map (·.1)),m<=R)->ZkR P at' fs cs.length=true->fs.mapM (fun f=>Zd9 P n f.type)=some Ts ->
   fs.mapM (fun f=>DataW.trod enc P w 0 spare held fuel f.type ((cs.drop f.offset).take (P.cellsOf f.type)))=some ys->∃ xs,ZiL R Ts xs/\VRs (Imm.of w) B0 xs (cs.drop at')/\ZaK xs=true
 | [],at',Ts,ys,_,_,ho,hT,_=>by
  simp only[ZkR,beq_iff_eq]at ho
  simp only[List.mapM_nil,Option.pure_def,Xb]at hT
  subst hT ho
  exact⟨[],by simp only[ZiL],by simp[VRs],rfl⟩
 |f::fs,at',Ts,ys,hby,hwt,ho,hT,h=>by
  simp only[ZkR,Xk,beq_iff_eq]at ho
  obtain⟨T,Ts',h1,h2,rfl⟩:=ZAx hT
  obtain⟨y,ys',h3,h4,rfl⟩:=ZAx h
  simp only[XW,Xk]at hby
  simp only[Xu,DataW.weightsEach,XE]at hwt
  obtain⟨a,a1,a2,a3⟩:=ih _ _ _ _ h1 hby.1 (fun m hm=>hwt m (Xq hm)) h3
  obtain⟨b,b1,b2,b3⟩:=Zwh ih fs _ _ _ hby.2 (fun m hm=>hwt m (Xt hm)) ho.2 h2 h4
  rw[ho.1]at a2
  refine⟨a++b,by simp only[ZiL];grind,ZER a2 (by rw[List.drop_drop];exact b2),ZIn a3 b3⟩
theorem ZxB{n:Nat}{e:TypeId}{T:Ty}(hT:Zd9 P n e=some T)(hs:ZeB (P.underlying e)=false){xs:List AVal}(h:TyR R T xs):xs.length=1:=by
 cases n with
 |zero=>simp[Zd9]at hT
 |succ n =>
  simp only[Zd9]at hT
  split at hT
  ·injection hT with hT;subst hT;simp only[TyR]at h;grind
  ·injection hT with hT;subst hT;simp only[TyR]at h;grind
  ·injection hT with hT;subst hT;simp only[TyR]at h;grind
  ·split at hT
   ·simp only[Xo]at hT
    obtain⟨T',_,rfl⟩:=hT
    simp only[TyR]at h;grind
   ·cases hT
  ·rename_i hu;rw[hu]at hs;simp[ZeB]at hs
  ·cases hT
theorem Zqt:∀ (n fuel:Nat) (t:TypeId) (cs:List Value) (x:DataW H×List MemPlace) (T:Ty),Zd9 P n t=some T->Zg7 P n t=true->(∀ m∈x.1.weights P t,m<=R)->DataW.trod enc P w 0 spare held fuel t cs=some x ->
  ∃ xs,TyR R T xs/\VRs (Imm.of w) B0 xs cs/\ZaK xs=true
 |0,fuel,t,cs,x,T,hT,_,_,_=>by simp[Zd9]at hT
 |n+1,0,t,cs,x,T,_,_,_,h=>by simp[DataW.trod]at h
 |n+1,fuel+1,t,cs,x,T,hT,hby,hwt,h=>by
  have h0:=h
  simp only[Zd9]at hT
  unfold DataW.trod at h
  split at hT
  ·rename_i hu
   injection hT with hT;subst hT
   obtain⟨b,rfl,_⟩:=DataW.trod_bool hu h0
   exact⟨[.bool b],by simp only[TyR];grind,by simp[VRs,VR],rfl⟩
  ·rename_i k hu
   injection hT with hT;subst hT
   obtain⟨n',rfl,_,hk⟩:=DataW.trod_int hu h0
   exact⟨[.int k n'],by simp only[TyR];grind,by simp[VRs,VR],rfl⟩
  ·rename_i hu
   injection hT with hT;subst hT
   obtain⟨s,rfl,hx,hs⟩:=DataW.trod_string hu h0
   have hs':s.data.toList.length<=9223372036854775807:=by
    rw[Array.length_toList];exact Nat.le_trans hs (by simp[maxLen])
   have hR:s.data.toList.length<=R:=by
    subst hx
    exact hwt _ (by simp[DataW.weights])
   exact⟨[.str s.data.toList],by simp only[TyR];grind,by simp only[VRs,VR];grind,rfl⟩
  ·rename_i e hu
   split at hT
   case isFalse=>cases hT
   rename_i hc
   simp only[Xo]at hT
   obtain⟨T,hT,rfl⟩:=hT
   rcases Go.Deep.open_slice hu h0 with⟨hcs,_⟩ |⟨a,len,cap,m,n',D,Pl,hcs,_,hl,hm,hmm,hx,hi⟩
   ·subst hcs
    exact⟨[.lst false []],by simp only[TyR];exact⟨[],by simp,by simp,by simp⟩,by simp only[VRs,VR];exact⟨_,_,rfl,⟨none,0,rfl,by simp,by simp,by simp,by simp,by simp[Zaq]⟩,rfl⟩,rfl⟩
   ·have hlm:len<=m:=by split at hmm<;>omega
    unfold Zg7 at hby
    rw[hu]at hby
    simp only[Xk,decide_eq_true_eq]at hby
    have hlR:len<=R:=by
     have:=hwt _ (by rw[hx];simp only[DataW.weights,hu];exact List.mem_cons_self ..)
     simp only[XS,List.length_range]at this
     have h1:=Nat.le_mul_of_pos_right (len+(m-len)) hby.1
     omega
    have hspot:0<len->a.spot=none:=by
     intro h0
     obtain⟨cs',h1,h2⟩:=hi 0 (by omega)
     obtain⟨_,h6,h7⟩:=World.cells?_some h1
     have h8:=h7 0 hc
     obtain⟨u,hu⟩:∃ u,cs'[0]?=some u:=⟨cs'[0]'(by omega),by simp⟩
     rw[hu]at h8
     simp only[Nat.zero_mul,Addr.add,if_true]at h8
     exact ZSQ (b:=a.block) (off:=a.off) (s:=a.spot) (u:=u) h8
    have hall:∀ i,∃ xs,i<len->TyR R T xs/\(ZcB (ZeB (P.underlying e)) xs).cells=xs/\xs.length=P.cellsOf e/\CR (Imm.of w) B0 xs a.block (a.off+i*P.cellsOf e)/\ZaK xs=true:=by
     intro i
     by_cases hlt:i<len
     ·obtain⟨cs',h1,h2⟩:=hi i (by omega)
      obtain⟨xs,h3,h4,h5⟩:=Zqt n n' e cs' _ T hT hby.2 (fun q hq=>hwt q (by rw[hx];exact ZS6 hu (List.mem_map.2 ⟨i,List.mem_range.2 hlt,rfl⟩) hq)) h2
      obtain⟨_,h6,h7⟩:=World.cells?_some h1
      have hlen:=ZaO h4
      refine⟨xs,fun _=>⟨h3,ZCz (fun hs=>ZxB hT hs h3) (fun _=>Zwk h5),by omega,ZAq xs cs' _ h4 (fun j hj=>?_),h5⟩⟩
      have h8:=h7 j (by omega)
      rw[Go.Deep.add_add,ZPF (hspot (by omega)),<-Nat.add_assoc]at h8
      exact h8
     ·exact⟨[],fun h=>absurd h hlt⟩
    obtain⟨Y,hY⟩:=Classical.axiomOfChoice hall
    subst hcs
    have hmx:maxLen=9223372036854775807:=by simp[maxLen]
    rw[hmx]at hm
    refine⟨[.lst false ((X5 len).map fun i=>ZcB (ZeB (P.underlying e)) (Y i))],?_,?_,?_⟩
    ·simp only[TyR]
     refine⟨(X5 len).map Y,by rw[List.map_map];rfl,by grind,?_⟩
     grind
    ·simp only[VRs,VR,XS,List.length_range]
     refine⟨_,_,rfl,⟨some a,cap,rfl,hl,hm,by simp,?_,Ztp len Y fun i hlt=>by grind⟩,rfl⟩
     cases len with
     |zero=>grind
     |succ len =>
      refine Xt ⟨a.block,a.off,P.cellsOf e,?_,hc,ZAw (len+1) a.off Y fun i hlt=>?_⟩
      ·have:=hspot (by omega)
       cases a;simp_all
      grind
    ·simp only[ZaK,ZaN,Xag]
     exact Ztp len Y fun i hlt=>by grind
  ·rename_i fs hu
   split at hT
   case isFalse=>cases hT
   rename_i ho
   simp only[Xo]at hT
   obtain⟨Ts,hT,rfl⟩:=hT
   rw[hu]at h
   simp only at h
   split at h
   ·rename_i hl
    simp only[Xo]at h
    obtain⟨ys,hy,rfl⟩:=h
    unfold Zg7 at hby
    rw[hu]at hby
    simp only[DataW.weights,hu]at hwt
    obtain⟨xs,h1,h2,h3⟩:=Zwh (fun t cs x T h h1 h2 h'=>Zqt n fuel t cs x T h h1 h2 h') fs.toList 0 Ts ys hby hwt (by grind) hT hy
    exact⟨xs,by simp only[TyR];exact h1,h2,h3⟩
   ·cases h
  ·cases hT
def ZAJ(R:Nat)(s:Bool)(T:Ty)(x:AVal):Prop:=∃ xs,TyR R T xs/\x=ZcB s xs
theorem ZGC{n:Nat}{t:TypeId}{v:Value}{d:DataW H}{ps:List MemPlace}{T:Ty}{r:Reach}{b0:Nat}(hT:Zd9 P n t=some T)(hby:Zg7 P n t=true)(hwt:∀ m∈d.weights P t,m<=R)(hv:Value.okWide P w r b0 t v)(h:DataW.Trod enc P w 0 spare held t v d ps) :
  ∃ x,ZAJ R (ZeB (P.underlying t)) T x/\VR (Imm.of w) B0 x v/\ZaK x.cells=true:=by
 obtain⟨fuel,h⟩:=h
 obtain⟨xs,h1,h2,h3⟩:=Zqt n fuel t _ _ T hT hby hwt h
 refine⟨ZcB (ZeB (P.underlying t)) xs,⟨xs,h1,rfl⟩,?_⟩
 by_cases hs:ZeB (P.underlying t)=true
 ·have : ∃ cs,v=.agg cs:=by
   unfold Value.okWide at hv
   cases hu:P.underlying t with
   |none=>rw[hu]at hs;simp[ZeB]at hs
   |some dd =>
    rw[hu]at hv hs
    cases dd<;>first |(simp[ZeB]at hs;done) |grind
  obtain⟨cs,rfl⟩:=this
  rw[hs]
  exact⟨by simp only[ZcB,if_true,VR];exact⟨cs,rfl,h2⟩,h3⟩
 ·have hs':ZeB (P.underlying t)=false:=by simpa using hs
  have hl:=ZxB hT hs' h1
  have hlen:=ZaO h2
  rw[hs']
  match xs,hl with
  | [x],_ =>
   simp only[ZcB,Xi,if_false,Xa9]
   have hvc:v.cells=#[v]:=by
    cases n with
    |zero=>simp[Zd9]at hT
    |succ n =>
     simp only[Zd9]at hT
     split at hT
     ·rename_i hu;obtain⟨b,rfl⟩:=Go.WideShapes.okWide_bool hu hv;rfl
     ·rename_i k hu;obtain⟨b,rfl⟩:=Go.WideShapes.okWide_int hu hv;rfl
     ·rename_i hu;obtain⟨b,rfl⟩:=Go.WideShapes.okWide_string hu hv;rfl
     ·rename_i e hu;obtain⟨a,l,c,rfl⟩:=Go.WideShapes.okWide_slice hu hv;rfl
     ·rename_i fs hu;rw[hu]at hs';simp[ZeB]at hs'
     ·cases hT
   rw[hvc]at h2
   simp only[VRs]at h2
   obtain⟨v',vs',e,h2,_⟩:=h2
   simp only[List.cons.injEq]at e
   rw[e.1]
   refine⟨h2,?_⟩
   have hok:=Zwk h3 x (by simp)
   have hx:x.cells=[x]:=by cases x<;>first |rfl |(simp[ZY]at hok;done)
   grind
end
end
section
open Go.RowKit
variable {R:Nat}
theorem ZTg{D:Type}{T:Ty}{s:Bool}{f:D->AVal}{Q:D->Prop}(h:∀ y,TyR R T y->∃ a,Q a/\ZcB s y=f a){xs:List AVal}(hx:TyR R (.slice s T) xs):∃ l:List D,(l.length<=R/\∀ a∈l,Q a)/\xs=[.lst false (l.map f)]:=by
 simp only[TyR]at hx
 obtain⟨ys,rfl,h1,h2⟩:=hx
 have : ∀ ys:List (List AVal),(∀ y∈ys,TyR R T y)->∃ l:List D,(∀ a∈l,Q a)/\ys.map (ZcB s)=l.map f:=by
  intro ys
  induction ys with
  |nil=>intro _;exact⟨[],by simp,rfl⟩
  |cons y ys ih =>
   intro hy
   obtain⟨a,hq,ha⟩:=h y (hy y (by simp))
   obtain⟨l,hql,hl⟩:=ih fun y' h'=>hy y' (by simp[h'])
   exact⟨a::l,by grind,by grind⟩
 obtain⟨l,hq,hl⟩:=this ys h2
 refine⟨l,⟨?_,hq⟩,by rw[hl]⟩
 have:=congrArg Xaz hl
 simp only[XS]at this
 omega
theorem ZuX{y:List AVal}(h:TyR R (.int .u8) y):∃ b,True/\ZcB false y=Zh b:=by
 simp only[TyR]at h
 obtain⟨n,hw,rfl⟩:=h
 have h1:0<=n/\n<=255:=by
  simp only[Lit.wf,Xk,decide_eq_true_eq]at hw
  exact hw
 refine⟨UInt8.ofNat n.toNat,trivial,?_⟩
 simp only[ZcB,Xi,if_false,Xa9,Zh,AVal.int.injEq,true_and]
 rw[UInt8.toNat_ofNat']
 omega
theorem ZIa{xs:List AVal}(h:TyR R (.slice false (.int .u8)) xs):∃ b:Zd,b.length<=R/\xs=[Z4 b]:=by
 obtain⟨b,h1,h2⟩:=ZTg (Q:=fun _=>True) (fun _=>ZuX) h
 exact⟨b,h1.1,h2⟩
def okI(n:Int):Prop:=-9223372036854775808<=n/\n<=9223372036854775807
def ZNX(R:Nat)(p:ZO):Prop:=okI p.id/\okI p.num/\p.text.length<=R/\p.pair.length<=R/\p.data.length<=R
def ZxW(R:Nat)(l:List ZO):Prop:=l.length<=R/\∀ p∈l,ZNX R p
structure ZVq(R:Nat)(p:Zx):Prop where
 topic:p.topic.length<=R
 payload:p.payload.length<=R
 codes:p.codes.length<=R/\∀ n∈p.codes,okI n
 props:ZxW R p.props
 subs:p.subs.length<=R/\∀ s∈p.subs,s.filter.length<=R/\okI s.qos/\okI s.handling/\okI s.id
 filters:p.filters.length<=R/\∀ f∈p.filters,f.length<=R
 client:p.client.length<=R
 wtopic:p.will.topic.length<=R
 wdata:p.will.data.length<=R
 wprops:ZxW R p.will.props
 user:p.user.length<=R
 password:p.password.length<=R
 ints:okI p.type/\okI p.qos/\okI p.id/\okI p.code/\okI p.keep/\okI p.will.qos
end
section
open Go.RowKit
variable {R:Nat}
def ZsU:Ty:=.struct [.int .u8,.slice false (.int .u8)]
theorem ZJa{x:AVal}(h:ZAJ R true ZsU x):∃ f:UInt8×Zd,f.2.length<=R/\x=.agg [Zh f.1,.lst false (f.2.map Zh)]:=by
 obtain⟨y,h,rfl⟩:=h
 unfold ZsU at h
 rw[TyR]at h
 simp only[ZiL]at h
 obtain⟨_,_,rfl,h1,_,_,rfl,h2,rfl⟩:=h
 obtain⟨b,_,h3⟩:=ZuX h1
 obtain⟨l,h4,rfl⟩:=ZIa h2
 rw[TyR]at h1
 obtain⟨n,hw,rfl⟩:=h1
 simp only[ZcB,Xi,if_false,Xa9]at h3
 exact⟨(b,l),h4,by simp only[ZcB,if_true,XJ,Xp,h3];rfl⟩
end
section
open Go.RowKit Go.Shelf Go.Lib
theorem ZBQ{W:World}(h:Lib.Utf8Tabs 1 2 W):∀ b o u,Gl b o=some u->(Imm.of W) b o=some u:=by
 intro b o u hu
 unfold Gl at hu
 unfold Imm.of
 simp only
 split at hu
 ·rename_i e;subst e
  split at hu
  ·rename_i ho
   rw[h.1 o ho,<-hu]
  ·cases hu
 ·split at hu
  ·rename_i e;subst e
   split at hu
   ·rename_i ho
    rw[<-hu]
    obtain⟨h1,h2⟩:=h.2 (o/2) (by omega)
    grind
   ·cases hu
  ·cases hu
section
open Go.RowKit
variable {H:Type}{enc:TypeId×Value->H}{P:Program}{w:World}{spare:Nat->Bool}{held:Bool}
end
end
section
open Go.ChangeShapes Go.WideShapes Go.ChangeAt Go.RowKit Go.Deep
theorem ZDO:ownKnob Tryz.prog.godebug=none:=by kernel_rfl
theorem ZEH:laidOutB Tryz.prog=true:=by kernel_rfl
theorem ZBk{W:World}(hLH:laidMetH Tryz.prog Rows.packetReadsRow.laid W):GlW W:=by
 have hL:laidMet Tryz.prog Rows.packetReadsRow.laid W:=by rw[<-MakeChecks.laidMetH_plain _ _ _ (by kernel_rfl)];exact hLH
 have e1:Rows.laid_unicode_utf8_first=Lib.firstData:=by kernel_rfl
 have e2:(Rows.laid_unicode_utf8_acceptRanges:DataW Unit)=Lib.acceptData:=by kernel_rfl
 have h1:Lib.VarReads Tryz.prog W "unicode/utf8.first" Lib.firstData:=by rw[<-e1];exact Lib.laidMet.reads hL (.tail _ (.tail _ (.head _)))
 have h2:Lib.VarReads Tryz.prog W "unicode/utf8.acceptRanges" Lib.acceptData:=by rw[<-e2];exact Lib.laidMet.reads hL (.head _)
 exact⟨ZBQ (utf8Tabs_of_readsT (U8Types.of196 ZuN) ⟨by kernel_rfl,by kernel_rfl,by kernel_rfl,by kernel_rfl,by kernel_rfl,by kernel_rfl,by kernel_rfl⟩ h1 h2),trivial⟩
set_option maxRecDepth 100000 in
theorem ZDA(H:Type)(enc:TypeId×Value->H)(W:World)(base:Nat)(args:Array Value)(ds gs:List (DataW H))(before:List MemPlace)(vts:List TypeId)
  (hval0:∀ (j:Nat) t v,Tryz.f3.params[j]?=some t->args[j]?=some v->Value.okWide Tryz.prog W .any base t v)
  (hW:DataW.Whole enc Tryz.prog Tryz.f3.params.toList Rows.packetReadsSpec.vars false W args.toList ds gs before) (hL:laidMetH Tryz.prog Rows.packetReadsRow.laid W) (hwt:(DataW.weightsEach Tryz.prog (Tryz.f3.params.toList++vts) (ds++gs)).all (·<=reachBytes)=true) :
  Calls Tryz.prog 3 args W fun e W'=>∃ v,e=.returned v/\Rows.packetReadsSpec.post enc Tryz.prog Tryz.f3 false true false false W args v W':=by
 have hW':=hW
 obtain⟨p,q,hA0,hV,rfl,hfz,hnd⟩:=hW
 have hval:∀ (j:Nat) t v,Tryz.f3.params[j]?=some t->args[j]?=some v->Value.okWide Tryz.prog W .any base t v:=hval0
 have hA:DataW.TrodAll enc Tryz.prog W 0 (fun _=>true) true Tryz.f3.params.toList args.toList ds p:=hA0
 rw[Tryz.params3]at hA hval hwt
 obtain⟨v0,vs0,d0,ds0,p0,q0,hargs,rfl,rfl,h0,r0⟩:=trodAll_cons hA
 obtain⟨rfl,rfl,rfl⟩:=trodAll_nil r0
 obtain rfl:args=#[v0]:=by cases args;simp_all
 obtain⟨rfl,rfl⟩:=trodVars_none hV
 have k0:=h0
 have lt0:∀ x∈p0,x.block<W.heap.size:=by obtain⟨m,hm⟩:=k0;exact DataW.trod_lt m _ _ _ hm
 obtain⟨x0,y0,z0,_⟩:=ZGC (R:=reachBytes) (n:=12) (T:=ZsU) (by kernel_rfl) (by kernel_rfl) (fun m hm=>of_decide_eq_true (Xy.1 hwt m (DataW.weights_mem_each (j:=0) rfl rfl m hm))) (hval 0 24 v0 rfl rfl) h0
 rw[Tryz.underlying24]at y0
 obtain⟨a0,b0,rfl⟩:=ZJa y0
 clear hA0 hval0
 have hq:=ZHP a0.1.toNat ⟨by omega,by have:=a0.1.toNat_lt;omega⟩ a0.2
 refine(ZB6 ZSZ (ZBk hL) (args:=[.agg [Zh a0.1,.lst false (a0.2.map Zh)]]) (by simp only[VRs];exact⟨_,_,rfl,z0,rfl⟩) (hq)).mono fun e W' ⟨he,bel⟩=>?_
 subst he
 exact⟨_,rfl,_,_,_,[],_,[],hW',trodAll_mk1 (shut_bool Tryz.underlying4 _),(trodAll_cons_mk (Below.trod ZEH (by kernel_rfl) (of_decide_eq_true (by kernel_rfl)) k0 bel lt0) trodAll_mk0),rfl,bel.frame _,fun h=>by cases h⟩
noncomputable def Zs1(os:Os):World :=
 let w0:=World.holding Tryz.prog os ⟨#[],#[],[]⟩
 let put (h:Array Obj) (g:Nat) (us:Array Value):Array Obj:=h.modify g fun
  | .cells _ t frozen=>.cells us t frozen
  |o=>o
 let h1:=put w0.heap 1 (Lib.firstTab.map fun z=>Value.int .u8 z).toArray
 let h2:=put h1 2 ((X5 16).flatMap fun i=>[Value.int .u8 (Lib.accLo i),Value.int .u8 (Lib.accHi i)]).toArray
 let h3:=(put h2 0 #[Value.iface 188 (.pointer (some ⟨h2.size,0,none⟩))]).push (.cells #[Value.string ⟨#[98,121,116,101,115,46,66,117,102,102,101,114,58,32,116,111,111,32,108,97,114,103,101]⟩] 204)
 { w0 with heap:=h3 }
theorem ZL4(os:Os):laidMet Tryz.prog Rows.packetReadsRow.laid ((Zs1 os).forCall (fun _ _=>0) ⟨#[],#[.agg #[.int .u8 0,.slice none 0 0]],[]⟩).memory :=
 laidMet_of_run' 8 (by kernel_rfl) (by kernel_rfl)
theorem ZEn(os:Os){H:Type}(enc:TypeId×Value->H):∃ ds places,DataW.whole enc Tryz.prog ((Zs1 os).forCall (fun _ _=>0) ⟨#[],#[.agg #[.int .u8 0,.slice none 0 0]],[]⟩).memory Tryz.f3.params.toList Rows.packetReadsSpec.vars false #[.agg #[.int .u8 0,.slice none 0 0]].toList 8=some (ds,[],places) :=
 ⟨[.agg [.lit (.int .u8 0),.nil]],[],by kernel_rfl⟩
set_option maxRecDepth 100000 in
theorem ZRZ(os:Os)(started:os.Started)(H:Type)(enc:TypeId×Value->H)(F:Stop.Interp) :
  ReturnsInHanded {} Tryz.checked os 3 .any ((OpenSpec.ofChange Rows.packetReadsSpec).preRow enc Tryz.prog Tryz.f3 Rows.packetReadsRow.domain false Rows.packetReadsRow.laid) (((OpenSpec.ofChange Rows.packetReadsSpec).at F).post enc Tryz.prog Tryz.f3 false true false false):=by
 obtain⟨ds,places,hx⟩:=ZEn os enc
 refine returnsInHanded_of_row (C:=Tryz.checked) (s:=(OpenSpec.ofChange Rows.packetReadsSpec)) ZDO started (by kernel_rfl) Tryz.func3
  (witness_row_at (enc:=enc) (C:=Tryz.checked) false (Zs1 os) #[.agg #[.int .u8 0,.slice none 0 0]] rfl (by kernel_rfl) (by kernel_rfl) (by kernel_rfl)
   (OpenSpec.preRow_of_cond 8 hx (by kernel_rfl) (fun k hk=>by cases hk) (by kernel_rfl) (ZL4 os))) ?_
 intro W base args ds gs before hval hW _ hcond hwt hL _ _
 exact ZDA H enc W base args ds gs before _ hval hW hL hwt
theorem ZLY:Rows.PacketReadsSaid :=
 OpenClaim.holds_of_cond 3 Tryz.f3 rfl rfl rfl rfl rfl rfl rfl ⟨rfl,rfl,rfl,rfl,rfl⟩ rfl rfl rfl rfl rfl (by kernel_rfl) Tryz.func3 (by kernel_rfl)
  (of_decide_eq_true (by kernel_rfl)) (by unfold Func.isWrapper;first |(rw[if_pos (by decide +kernel)];kernel_rfl) |(rw[if_neg (by decide +kernel)];exact⟨rfl,rfl⟩))
  (fun os started H enc _ F=>by rw[OpenClaim.pre_eq_preRow];exact ZRZ os started H enc F)
theorem ZDc(f:FuncId)(fn:Func)(hf:Tryz.pinned.checked.prog.funcNamed "tidings/tidingslaw12.PacketReads"=some f)(hfn:Tryz.pinned.checked.prog.funcs[f]?=some fn) :
  true=Tryz.pinned.checked.prog.looks []/\∀ (j:Nat) t,fn.params[j]?=some t->Tryz.pinned.checked.prog.wantsStandIn t=false:=by
 obtain rfl:f=3:=WP ((show Tryz.prog.funcNamed "tidings/tidingslaw12.PacketReads"=some 3 by kernel_rfl).symm.trans hf) |>.symm
 obtain rfl:fn=Tryz.f3:=(WP (Tryz.func3.symm.trans hfn)).symm
 refine⟨by kernel_rfl,fun j t ht=>?_⟩
 rw[Tryz.params3]at ht
 have hm:t=24:=by
  have:=Array.mem_of_getElem? ht
  simp at this
  first |exact this |exact this.symm |omega |(rcases this with h |h |h<;>simp[h]) |(rcases this with h |h |h |h<;>simp[h]) |(rcases this with h |h |h |h |h<;>simp[h]) |(rcases this with h |h |h |h |h |h<;>simp[h]) |(rcases this with h |h |h |h |h |h |h<;>simp[h])
 subst hm
 exact(show Tryz.prog.wantsStandIn 24=false by kernel_rfl)
theorem packetReads_card:Rows.PacketReadsCardSaid :=
 Claim7.holds_tied_plain_at .later [] _ _ _ _ ZLY (fun _ h=>by cases h) (by kernel_rfl) (fun _ h=>by cases h) packetReads_row_tie rfl ⟨rfl,rfl⟩ (by kernel_rfl) rfl ZDc (by kernel_rfl)
#print axioms packetReads_card
end
end Go.Proofs.YtjhabjdfhmbanaaGreatDoor
