/- The card of GroupPlays: for every input the law returns true, and each argument reads afterwards as it read before. No other condition; the tables of unicode/utf8 are tied to the program. -/
import Derived.Test.YtlekmfmkkcpbcaaDoorMq5
import Derived.Test.YtlekmfmkkcpbcaaDoorMq3
import Derived.Test.YtlekmfmkkcpbcaaDoorMq4
import Derived.Test.YtlekmfmkkcpbcaaDoorMq2
import Derived.Lib.LaidU8T
import Derived.Test.YtlekmfmkkcpbcaaDoorRows
import Derived.Deep.Slices
import Derived.Test.YtlekmfmkkcpbcaaDoorCards
import Derived.Test.YtlekmfmkkcpbcaaDoorTie
import Derived.WalkKit
import Derived.ProofKit
import Derived.OpenShut
import Derived.ShutString
import Derived.ChangeOld
import Derived.Below
import Derived.SevenTiedAt
import Derived.LaidByTextLater
import Derived.Lib.LaidIn
import Derived.Deep.DeepHandedRow
import Derived.MakeChecks
set_option linter.defProp false
set_option linter.unusedSimpArgs false
set_option linter.unusedVariables false
open Bool renaming decide_eq_true→Xb,not_eq_true→Xd,false_eq_true→Xq
open List renaming range_succ→Xc,getD_cons_zero→Xm,getD_cons_succ→Xn,contains_nil→Xo,all_cons→Xp,length_cons→Xr,all_nil→Xs,length_nil→Xt,getElem?_eq_some_iff→Xu,nil_append→Xv,append_nil→Xw,lookup_cons→Xy,lookup_nil→XA,flatMap_cons→XD,any_cons→XF,cons_append→XG,any_nil→XH,flatMap_append→XJ,flatMap_nil→XM,range_zero→XP,length_singleton→XQ,zip_cons_cons→XR,mem_cons→XV,getElem?_eq_getElem→XY,mem_map→X0,zip_nil_left→X9,mem_singleton→Wa,nodup_cons→Wg,getElem?_map→Wh,map_nil→Wr,mem_filter→Wz,pairwise_cons→WR,length_pos_iff→W3,contains_iff_mem→Xag,length→Xa8,mem_of_mem_erase→Xbb
open Nat renaming reduceLeDiff→Xe,reduceEqDiff→Xf,reduceAdd→Xh,reduceSub→Xi,reduceBEq→Xj,reduceMul→Xk,reduceLT→Xl,one_mul→Wy,zero_le→W7,le_trans→Xao
open Or renaming inl→XK,inr→XO
open Sum renaming map_inl→XT,map_inr→XU
open Option renaming map→Wt
open Option.some renaming inj→WU
open Int renaming tmod_lt_of_pos→W8,neg_tmod→Xbo
namespace Go.Proofs.YtlekmfmkkcpbcaaDoor
set_option maxHeartbeats 16000000
set_option maxRecDepth 10000
section
theorem ZtV (n s:Tx):∃ g o,(∀ (σ:Za) (sq own:Nat),ZQ E BY σ sq 23 own true [.str s]=some (.tup [.str g,.str (if ZaD s then fil s else []),.bool o],σ,{}))/\(∀ (σ:Za) (sq own:Nat),ZQ E BY σ sq 33 own true [.str (if ZaD s then fil s else []),.str n]=some (.bool (mtT n s),σ,{})):=by
 have h1:=fun σ sq own=>Zvi σ sq own true s
 unfold ZcB at h1
 have h2:=fun σ sq own=>ZDB σ sq own true (if ZaD s then fil s else []) n
 unfold mtT
 cases h:ZaD s with
 | true =>
  rw [h] at h1 h2
  simp only [if_true] at h1 h2 ⊢
  exact ⟨_,_,h1,h2⟩
 | false =>
  rw [h] at h1 h2
  simp only [Xq,if_false] at h1 h2 ⊢
  exact ⟨_,_,h1,h2⟩
theorem Zu1 (P:Tx->Bool) (x:Tx) (r:List Tx):(x::r).filter P=if P x=true then x::r.filter P else r.filter P:=List.filter_cons
theorem Zna (R:List Mb) (n:Tx) (T:List Tx) (fl:Bool) (hT:T.length<=1000000):∀ (r:List Tx) (i:Nat) (a:List Tx),T.drop i=r->a.length<=i->i<=T.length ->
  ZeU 2 [(7,.int .i64 (i:Int)),(6,.sl 2 0 0 a.length),(5,.lst fl (T.map AVal.str)),(1,.str n)] (rk R++[Z5.row 0 1 (a.map AVal.str)])=some (.sl 2 0 0 (a++r.filter (mtT n)).length,rk R++[Z5.row 0 1 ((a++r.filter (mtT n)).map AVal.str)])
 | [],i,a,h,ha,hi=>by
  have h1:=ZbF h
  have hm:(T.map AVal.str).length=T.length:=by simp
  rw [show ([]:List Tx).filter (mtT n)=[] from rfl,Xw]
  unfold ZeU rk
  generalize R.map mbV=S at *
  generalize a.map AVal.str=A at *
  generalize T.map AVal.str=L at *
  simp only [XG,Xv]
  rw [ZY]
  simp -implicitDefEqProofs only [EQA,Zn,Zi,Zm,Zk,Zj,Zl,Zz,ZG,ZC,Zy,ZE,ZF,ZA,ZB,ZD,implies_true,forall_const,Xh,Xi,Xl,Xe,Xf,Xj,Xk,Zv,Zx,unA,Zt,Zu,unG,reduceCtorEq,Zr,decide_eq_true_eq,Xd,Xb,ite_self,↓reduceIte,Zs,Zw,gcT,gcA,Zq,Zd,Zc,Ze,Zh,Zb,Zg,Zf,Zo,Xc,ZgC,Zfe,ZgX,ZgW,Zfc,ZgE,Ze1,Zp,ZI,ZK,ZJ,ZH,ZL,h1,hm,AVal.cells,Zag,Z0,Zah,Z3,XF,XH,Xp,Xs,Xr,Xt,Zaa,Zae,Zab,Zaf,Zac,Xm,Xn,ZU,ZX,ZV,Z1,Z6,Z4,Z9,Z7,ZZ,Z8,Xy,XA,Xp,Xs,Xo]
  simp -implicitDefEqProofs only [EQA,Zan,gcA,Zq,ZP,Xw,Xv,Xc,XP,XJ,XD,XM,Xm,Xn,Zal,Zak,Zay,Zaz,Zax,XT,XU,id_eq,ZR,Zd,Zo,ZT,Ze,Zf,ZN,Xo,Zc,Zh,Zb,Zg,Zn,Zi,Zm,Zk,Zj,Zl,Zz,ZG,ZC,Zy,ZE,ZF,ZA,ZB,ZD,implies_true,forall_const,Xh,Xi,Xl,Xe,Xf,Xj,Xk,Zv,Zx,unA,Zt,Zu,unG,reduceCtorEq,Zr,decide_eq_true_eq,Xd,Xb,ite_self,↓reduceIte,Zs,Zw,gcT,gcA,Zq,Zd,Zc,Ze,Zh,Zb,Zg,Zf,Zo,Xc,or_false]
 | x::r,i,a,h,ha,hi=>by
  obtain ⟨g1,d1,l1⟩:=ZaC h
  have h1:(i:Int) < T.length:=by omega
  have e1:=iad g1 AVal.str (k:=1) rfl
  have e3:=Zbh h1 (by omega)
  have hm:(T.map AVal.str).length=T.length:=by simp
  obtain ⟨g,o,hS,hM⟩:=ZtV n x
  have hv:∀ (σ:Za),viewAs σ [.str x]=some ([.str x],[]):=fun _=>rfl
  have b1:(a.length+1)*16<=140737488355328:=by omega
  have hS1:(a.map AVal.str).length=a.length:=by simp
  rw [Zu1]
  cases hc:mtT n x with
  | false =>
   have ih:=Zna R n T fl hT r (i+1) a d1 (by omega) (by omega)
   rw [hc] at hM
   rw [if_neg (by simp)]
   unfold ZeU rk at *
   generalize R.map mbV=S at *
   generalize (a++r.filter (mtT n)).map AVal.str=Z at *
   generalize a.map AVal.str=A at *
   generalize T.map AVal.str=L at *
   simp only [XG,Xv] at ih ⊢
   rw [ZY]
   simp -implicitDefEqProofs only [EQA,Zn,Zi,Zm,Zk,Zj,Zl,Zz,ZG,ZC,Zy,ZE,ZF,ZA,ZB,ZD,implies_true,forall_const,Xh,Xi,Xl,Xe,Xf,Xj,Xk,Zv,Zx,unA,Zt,Zu,unG,reduceCtorEq,Zr,decide_eq_true_eq,Xd,Xb,ite_self,↓reduceIte,Zs,Zw,gcT,gcA,Zq,Zd,Zc,Ze,Zh,Zb,Zg,Zf,Zo,Xc,ZgC,Zfe,ZgX,ZgW,Zfc,ZgE,Ze1,Zp,ZI,ZK,ZJ,ZH,ZL,h1,e1,e3,hm,hS,hM,AVal.cells,Zag,Z0,Zah,Z3,XF,XH,Xp,Xs,Xr,Xt,Zaa,Zae,Zab,Zaf,Zac,Xm,Xn,ZU,ZX,ZV,Z1,Z6,Z4,Z9,Z7,ZZ,Z8,Xy,XA,Xp,Xs,Xo]
   exact ih
  | true =>
   have ih:=Zna R n T fl hT r (i+1) (a++[x]) d1 (by simp;omega) (by omega)
   rw [hc] at hM
   rw [if_pos rfl]
   have e5:(a++[x]).map AVal.str=a.map AVal.str++[.str x]:=by simp
   have e6:a++x::r.filter (mtT n)=a++[x]++r.filter (mtT n):=by simp
   have e7:(a++[x]).length=a.length+1:=by simp
   rw [e6]
   rw [e5,e7] at ih
   unfold ZeU rk at *
   generalize R.map mbV=S at *
   generalize (a++[x]++r.filter (mtT n)).map AVal.str=Z at *
   generalize a.map AVal.str=A at *
   generalize T.map AVal.str=L at *
   simp only [XG,Xv] at ih ⊢
   rw [ZY]
   simp -implicitDefEqProofs only [EQA,Zn,Zi,Zm,Zk,Zj,Zl,Zz,ZG,ZC,Zy,ZE,ZF,ZA,ZB,ZD,implies_true,forall_const,Xh,Xi,Xl,Xe,Xf,Xj,Xk,Zv,Zx,unA,Zt,Zu,unG,reduceCtorEq,Zr,decide_eq_true_eq,Xd,Xb,ite_self,↓reduceIte,Zs,Zw,gcT,gcA,Zq,Zd,Zc,Ze,Zh,Zb,Zg,Zf,Zo,Xc,ZgC,Zfe,ZgX,ZgW,Zfc,ZgE,Ze1,Zp,ZI,ZK,ZJ,ZH,ZL,h1,e1,e3,hm,hS,hM,hv,b1,hS1,AVal.cells,kOk,ZS,ZaI,XQ,Wy,XR,X9,Zag,Z0,Zah,Z3,XF,XH,Xp,Xs,Xr,Xt,Zaa,Zae,Zab,Zaf,Zac,Xm,Xn,ZU,ZX,ZV,Z1,Z6,Z4,Z9,Z7,ZZ,Z8,Xy,XA,Xp,Xs,Xo]
   exact ih
theorem Zvr (R:List Mb) (n:Tx) (T:List Tx) (fl:Bool) (hT:T.length<=1000000):∀ (r:List Tx) (i:Nat),T.drop i=r->i<=T.length ->
  ZeU 2 [(7,.int .i64 (i:Int)),(6,.lst true []),(5,.lst fl (T.map AVal.str)),(1,.str n)] (rk R)=(if r.filter (mtT n)=[] then some (.lst true [],rk R) else some (.sl 2 0 0 (r.filter (mtT n)).length,rk R++[Z5.row 0 1 ((r.filter (mtT n)).map AVal.str)]))
 | [],i,h,hi=>by
  have h1:=ZbF h
  have hm:(T.map AVal.str).length=T.length:=by simp
  rw [if_pos (show ([]:List Tx).filter (mtT n)=[] from rfl)]
  unfold ZeU rk
  generalize R.map mbV=S at *
  generalize T.map AVal.str=L at *
  rw [ZY]
  simp -implicitDefEqProofs only [EQA,Zn,Zi,Zm,Zk,Zj,Zl,Zz,ZG,ZC,Zy,ZE,ZF,ZA,ZB,ZD,implies_true,forall_const,Xh,Xi,Xl,Xe,Xf,Xj,Xk,Zv,Zx,unA,Zt,Zu,unG,reduceCtorEq,Zr,decide_eq_true_eq,Xd,Xb,ite_self,↓reduceIte,Zs,Zw,gcT,gcA,Zq,Zd,Zc,Ze,Zh,Zb,Zg,Zf,Zo,Xc,ZgC,Zfe,ZgX,ZgW,Zfc,ZgE,Ze1,Zp,ZI,ZK,ZJ,ZH,ZL,h1,hm,AVal.cells,Zag,Z0,Zah,Z3,XF,XH,Xp,Xs,Xr,Xt,Zaa,Zae,Zab,Zaf,Zac,Xm,Xn,ZU,ZX,ZV,Z1,Z6,Z4,Z9,Z7,ZZ,Z8,Xy,XA,Xp,Xs,Xo]
  simp -implicitDefEqProofs only [EQA,Zan,gcA,Zq,ZP,Xw,Xv,Xc,XP,XJ,XD,XM,Xm,Xn,Zal,Zak,Zay,Zaz,Zax,XT,XU,id_eq,ZR,Zd,Zo,ZT,Ze,Zf,ZN,Xo,Zc,Zh,Zb,Zg,Zn,Zi,Zm,Zk,Zj,Zl,Zz,ZG,ZC,Zy,ZE,ZF,ZA,ZB,ZD,implies_true,forall_const,Xh,Xi,Xl,Xe,Xf,Xj,Xk,Zv,Zx,unA,Zt,Zu,unG,reduceCtorEq,Zr,decide_eq_true_eq,Xd,Xb,ite_self,↓reduceIte,Zs,Zw,gcT,gcA,Zq,Zd,Zc,Ze,Zh,Zb,Zg,Zf,Zo,Xc,or_false]
 | x::r,i,h,hi=>by
  obtain ⟨g1,d1,l1⟩:=ZaC h
  have h1:(i:Int) < T.length:=by omega
  have e1:=iad g1 AVal.str (k:=1) rfl
  have e3:=Zbh h1 (by omega)
  have hm:(T.map AVal.str).length=T.length:=by simp
  obtain ⟨g,o,hS,hM⟩:=ZtV n x
  have hv:∀ (σ:Za),viewAs σ [.str x]=some ([.str x],[]):=fun _=>rfl
  have b1:1*16<=140737488355328:=by omega
  rw [Zu1]
  cases hc:mtT n x with
  | false =>
   have ih:=Zvr R n T fl hT r (i+1) d1 (by omega)
   rw [hc] at hM
   rw [if_neg (show ¬(false=true) by simp),<-ih]
   unfold ZeU rk
   generalize R.map mbV=S at *
   generalize T.map AVal.str=L at *
   rw [ZY]
   simp -implicitDefEqProofs only [EQA,Zn,Zi,Zm,Zk,Zj,Zl,Zz,ZG,ZC,Zy,ZE,ZF,ZA,ZB,ZD,implies_true,forall_const,Xh,Xi,Xl,Xe,Xf,Xj,Xk,Zv,Zx,unA,Zt,Zu,unG,reduceCtorEq,Zr,decide_eq_true_eq,Xd,Xb,ite_self,↓reduceIte,Zs,Zw,gcT,gcA,Zq,Zd,Zc,Ze,Zh,Zb,Zg,Zf,Zo,Xc,ZgC,Zfe,ZgX,ZgW,Zfc,ZgE,Ze1,Zp,ZI,ZK,ZJ,ZH,ZL,h1,e1,e3,hm,hS,hM,AVal.cells,Zag,Z0,Zah,Z3,XF,XH,Xp,Xs,Xr,Xt,Zaa,Zae,Zab,Zaf,Zac,Xm,Xn,ZU,ZX,ZV,Z1,Z6,Z4,Z9,Z7,ZZ,Z8,Xy,XA,Xp,Xs,Xo]
  | true =>
   have ih:=Zna R n T fl hT r (i+1) [x] d1 (by simp) (by omega)
   rw [hc] at hM
   rw [if_pos (show true=true from rfl),if_neg (by simp)]
   rw [show x::r.filter (mtT n)=[x]++r.filter (mtT n) from rfl,<-ih,show [x].map AVal.str=[.str x] from rfl]
   unfold ZeU rk
   generalize R.map mbV=S at *
   generalize T.map AVal.str=L at *
   simp only [XG,Xv]
   rw [ZY]
   simp -implicitDefEqProofs only [EQA,Zn,Zi,Zm,Zk,Zj,Zl,Zz,ZG,ZC,Zy,ZE,ZF,ZA,ZB,ZD,implies_true,forall_const,Xh,Xi,Xl,Xe,Xf,Xj,Xk,Zv,Zx,unA,Zt,Zu,unG,reduceCtorEq,Zr,decide_eq_true_eq,Xd,Xb,ite_self,↓reduceIte,Zs,Zw,gcT,gcA,Zq,Zd,Zc,Ze,Zh,Zb,Zg,Zf,Zo,Xc,ZgC,Zfe,ZgX,ZgW,Zfc,ZgE,Ze1,Zp,ZI,ZK,ZJ,ZH,ZL,h1,e1,e3,hm,hS,hM,hv,b1,AVal.cells,kOk,ZS,ZaI,XQ,Wy,XR,X9,Zag,Z0,Zah,Z3,XF,XH,Xp,Xs,Xr,Xt,Zaa,Zae,Zab,Zaf,Zac,Xm,Xn,ZU,ZX,ZV,Z1,Z6,Z4,Z9,Z7,ZZ,Z8,Xy,XA,Xp,Xs,Xo]
theorem ZCm (R:List Mb) (hl:R.length<=500000) (n:Tx):E 17 [.ref 0 0,.str n] (rk R)=(if (Zbs [] R).filter (mtT n)=[] then some (.lst true [],rk R) else some (.sl 2 0 0 ((Zbs [] R).filter (mtT n)).length,rk R++[Z5.row 0 1 (((Zbs [] R).filter (mtT n)).map AVal.str)])):=by
 have hlen:=ZlE R []
 have h:=Zvr R n (Zbs [] R) false (by simp at hlen;omega) (Zbs [] R) 0 rfl (W7 _)
 have hC:=Zu9 R hl [.var [.sl 1 0 0 R.length],.row 0 2 (R.map mbV)] 0 1 rfl rfl 2 0 rfl
 have z0:((0:Nat):Int)=0:=rfl
 rw [z0] at h
 rw [<-h]
 unfold ZeU rk
 generalize R.map mbV=S at *
 generalize (Zbs [] R).map AVal.str=L at *
 rw [ZaJ (by rfl) ZBM]
 simp -implicitDefEqProofs only [EQA,Zn,Zi,Zm,Zk,Zj,Zl,Zz,ZG,ZC,Zy,ZE,ZF,ZA,ZB,ZD,implies_true,forall_const,Xh,Xi,Xl,Xe,Xf,Xj,Xk,Zv,Zx,unA,Zt,Zu,unG,reduceCtorEq,Zr,decide_eq_true_eq,Xd,Xb,ite_self,↓reduceIte,Zs,Zw,gcT,gcA,Zq,Zd,Zc,Ze,Zh,Zb,Zg,Zf,Zo,Xc,ZgC,Zfe,ZgX,ZgW,Zfc,ZgE,Ze1,Zp,ZI,ZK,ZJ,ZH,ZL,hC,ZaN,AVal.cells,Zag,Z0,Zah,Z3,XF,XH,Xp,Xs,Xr,Xt,Zaa,Zae,Zab,Zaf,Zac,Xm,Xn,ZU,ZX,ZV,Z1,Z6,Z4,Z9,Z7,ZZ,Z8,Xy,XA,Xp,Xs,Xo]
theorem ZLS (R:List Mb) (hl:R.length<=500000) (n:Tx):ZfZ 17 [.str n] R (.lst false (((Zbs [] R).filter (mtT n)).map AVal.str)):=by
 refine Zgl (rest:=[.str n]) (rest':=[.str n]) ?_ (by kernel_rfl) rfl rfl (fun _=>rfl)
 rw [ZCm R hl n]
 by_cases hT:(Zbs [] R).filter (mtT n)=[]
 ·rw [if_pos hT,hT];exact ZkD true []
 ·rw [if_neg hT];exact ZsD _
end
section
theorem ZkA {σ:Za} {t n k:Nat} {L:List Tx} {z:Int} (hn:n=L.length) (hz:z=(k:Int)) (hk:k < n) (hs:σ[t]?=some (.row 0 1 (L.map AVal.str))):ZbN σ 1 (.sl t 0 0 n) (.int .i64 z)=some (.eref t 0 k 0,σ,{ rd:=[t] }):=by
 subst hn hz
 simp [ZbN,hs,hk]
section
variable (R:List Mb) (F B ms:List Tx) (f1 f2 f3:Bool) (d:Int) (hms:ms.length<=500000) (hF:F.length<=9223372036854775807) (hB:B.length<=9223372036854775807)
abbrev chT (i:Int) (x14 x13:AVal):Tms:=[(15,.int .i64 i),(14,x14),(13,x13),(12,.lst f1 (ms.map AVal.str)),(4,.lst f2 (B.map AVal.str)),(3,.lst f3 (F.map AVal.str)),(2,.int .i64 d)]
include hms hF hB
theorem ZiY:∀ (r:List Tx) (i:Nat) (A S:List Tx),ms.drop i=r->A≠[]->S≠[]->A.length<=i->S.length<=i->i<=ms.length ->
  Zcx 2 (chT F B ms f1 f2 f3 d (i:Int) (.sl 2 0 0 S.length) (.sl 3 0 0 A.length)) (rk R++[Z5.row 0 1 (S.map AVal.str),Z5.row 0 1 (A.map AVal.str)])=some (chA (S++amF F true (amF B false r)) d,rk R)
 | [],i,A,S,h,hA,hS,hAl,hSl,hi=>by
  have h1:=ZbF h
  have hm:(ms.map AVal.str).length=ms.length:=by simp
  rw [show amF F true (amF B false [])=[] from rfl,Xw]
  have hpos:0 < S.length:=W3.2 hS
  obtain ⟨x,hx⟩:∃ x,S[Zb3 d S.length]?=some x:=⟨_,XY (ZiU d hpos)⟩
  have hc:chA S d=.tup [.str x,.bool true]:=by unfold chA;rw [hx]
  rw [hc]
  have hz:=ZnV d hpos
  have hk:=ZiU d hpos
  have hX:(S.map AVal.str)[Zb3 d S.length]?=some (.str x):=by rw [Wh,hx];rfl
  have w0:((S.length:Int) > 0):=by omega
  have w1:((S.length:Int) == 0)=false:=by simp;omega
  have w2:¬(S.length:Int)=0:=by omega
  have hlow:-(S.length:Int) < d.tmod (S.length:Int):=by
   have h1:=W8 (-d) (b:=(S.length:Int)) (by omega)
   rw [Xbo] at h1
   omega
  by_cases hneg:d.tmod (S.length:Int) < 0
  ·rw [if_pos hneg] at hz
   have w4:IntKind.i64.wrap (d.tmod (S.length:Int)+(S.length:Int))=((Zb3 d S.length:Nat):Int):=by
    rw [hz,Zbp (by omega) (by omega)]
   have el:=fun {σ:Za} hs=>ZkA (σ:=σ) (t:=2) (n:=S.length) (k:=Zb3 d S.length) (L:=S) rfl rfl hk hs
   generalize Zb3 d S.length=k at *
   generalize S.map AVal.str=S1 at *
   generalize A.map AVal.str=A1 at *
   generalize ms.map AVal.str=L at *
   generalize B.map AVal.str=LB at *
   generalize F.map AVal.str=LF at *
   unfold Zcx chT rk
   generalize R.map mbV=SR at *
   simp only [XG,Xv]
   rw [ZY]
   simp -implicitDefEqProofs only [EQA,Zn,Zi,Zm,Zk,Zj,Zl,Zz,ZG,ZC,Zy,ZE,ZF,ZA,ZB,ZD,implies_true,forall_const,Xh,Xi,Xl,Xe,Xf,Xj,Xk,Zv,Zx,unA,Zt,Zu,unG,reduceCtorEq,Zr,decide_eq_true_eq,Xd,Xb,ite_self,↓reduceIte,Zs,Zw,gcT,gcA,Zq,Zd,Zc,Ze,Zh,Zb,Zg,Zf,Zo,Xc,Zc7,ZcM,Zc6,Zdb,ZcJ,Zde,ZcI,Zp,ZI,ZK,ZJ,ZH,ZL,h1,hm,w0,w1,w2,w4,hneg,el,hX,AVal.cells,Zag,Z0,Zah,Z3,XF,XH,Xp,Xs,Xr,Xt,Zaa,Zae,Zab,Zaf,Zac,Xm,Xn,ZU,ZX,ZV,Z1,Z6,Z4,Z9,Z7,ZZ,Z8,Xy,XA,Xp,Xs,Xo]
   simp -implicitDefEqProofs only [EQA,Zan,gcA,Zq,ZP,Xw,Xv,Xc,XP,XJ,XD,XM,Xm,Xn,Zal,Zak,Zay,Zaz,Zax,XT,XU,id_eq,ZR,Zd,Zo,ZT,Ze,Zf,ZN,Xo,Zc,Zh,Zb,Zg,Zn,Zi,Zm,Zk,Zj,Zl,Zz,ZG,ZC,Zy,ZE,ZF,ZA,ZB,ZD,implies_true,forall_const,Xh,Xi,Xl,Xe,Xf,Xj,Xk,Zv,Zx,unA,Zt,Zu,unG,reduceCtorEq,Zr,decide_eq_true_eq,Xd,Xb,ite_self,↓reduceIte,Zs,Zw,gcT,gcA,Zq,Zd,Zc,Ze,Zh,Zb,Zg,Zf,Zo,Xc,or_false]
  ·rw [if_neg hneg] at hz
   have el:=fun {σ:Za} hs=>ZkA (σ:=σ) (t:=2) (n:=S.length) (k:=Zb3 d S.length) (L:=S) rfl hz.symm hk hs
   generalize Zb3 d S.length=k at *
   generalize S.map AVal.str=S1 at *
   generalize A.map AVal.str=A1 at *
   generalize ms.map AVal.str=L at *
   generalize B.map AVal.str=LB at *
   generalize F.map AVal.str=LF at *
   unfold Zcx chT rk
   generalize R.map mbV=SR at *
   simp only [XG,Xv]
   rw [ZY]
   simp -implicitDefEqProofs only [EQA,Zn,Zi,Zm,Zk,Zj,Zl,Zz,ZG,ZC,Zy,ZE,ZF,ZA,ZB,ZD,implies_true,forall_const,Xh,Xi,Xl,Xe,Xf,Xj,Xk,Zv,Zx,unA,Zt,Zu,unG,reduceCtorEq,Zr,decide_eq_true_eq,Xd,Xb,ite_self,↓reduceIte,Zs,Zw,gcT,gcA,Zq,Zd,Zc,Ze,Zh,Zb,Zg,Zf,Zo,Xc,Zc7,ZcM,Zc6,Zdb,ZcJ,Zde,ZcI,Zp,ZI,ZK,ZJ,ZH,ZL,h1,hm,w0,w1,w2,hneg,el,hX,AVal.cells,Zag,Z0,Zah,Z3,XF,XH,Xp,Xs,Xr,Xt,Zaa,Zae,Zab,Zaf,Zac,Xm,Xn,ZU,ZX,ZV,Z1,Z6,Z4,Z9,Z7,ZZ,Z8,Xy,XA,Xp,Xs,Xo]
   simp -implicitDefEqProofs only [EQA,Zan,gcA,Zq,ZP,Xw,Xv,Xc,XP,XJ,XD,XM,Xm,Xn,Zal,Zak,Zay,Zaz,Zax,XT,XU,id_eq,ZR,Zd,Zo,ZT,Ze,Zf,ZN,Xo,Zc,Zh,Zb,Zg,Zn,Zi,Zm,Zk,Zj,Zl,Zz,ZG,ZC,Zy,ZE,ZF,ZA,ZB,ZD,implies_true,forall_const,Xh,Xi,Xl,Xe,Xf,Xj,Xk,Zv,Zx,unA,Zt,Zu,unG,reduceCtorEq,Zr,decide_eq_true_eq,Xd,Xb,ite_self,↓reduceIte,Zs,Zw,gcT,gcA,Zq,Zd,Zc,Ze,Zh,Zb,Zg,Zf,Zo,Xc,or_false]
 | x::r,i,A,S,h,hA,hS,hAl,hSl,hi=>by
  obtain ⟨g1,d1,l1⟩:=ZaC h
  have h1:(i:Int) < ms.length:=by omega
  have e1:=iad g1 AVal.str (k:=1) rfl
  have e3:=Zbh h1 (by omega)
  have hm:(ms.map AVal.str).length=ms.length:=by simp
  have hHB:=fun σ sq own=>Zhh B f2 hB x σ sq own
  have hHF:=fun σ sq own=>Zhh F f3 hF x σ sq own
  have hv:∀ (σ:Za),viewAs σ [.str x]=some ([.str x],[]):=fun _=>rfl
  have b1:(A.length+1)*16<=140737488355328:=by omega
  have b2:(S.length+1)*16<=140737488355328:=by omega
  have hA1:(A.map AVal.str).length=A.length:=by simp
  have hS1:(S.map AVal.str).length=S.length:=by simp
  have e5:(A++[x]).map AVal.str=A.map AVal.str++[.str x]:=by simp
  have e7:(A++[x]).length=A.length+1:=by simp
  have e5':(S++[x]).map AVal.str=S.map AVal.str++[.str x]:=by simp
  have e7':(S++[x]).length=S.length+1:=by simp
  rw [ZfD]
  cases hcB:B.contains x with
  | true =>
   have ih:=ZiY r (i+1) A S d1 hA hS (by omega) (by omega) (by omega)
   rw [hcB] at hHB
   rw [if_neg (by simp)]
   unfold Zcx chT rk at *
   generalize S.map AVal.str=S1 at *
   generalize A.map AVal.str=A1 at *
   generalize ms.map AVal.str=L at *
   generalize B.map AVal.str=LB at *
   generalize F.map AVal.str=LF at *
   generalize R.map mbV=SR at *
   simp only [XG,Xv] at ih ⊢
   rw [ZY]
   simp -implicitDefEqProofs only [EQA,Zn,Zi,Zm,Zk,Zj,Zl,Zz,ZG,ZC,Zy,ZE,ZF,ZA,ZB,ZD,implies_true,forall_const,Xh,Xi,Xl,Xe,Xf,Xj,Xk,Zv,Zx,unA,Zt,Zu,unG,reduceCtorEq,Zr,decide_eq_true_eq,Xd,Xb,ite_self,↓reduceIte,Zs,Zw,gcT,gcA,Zq,Zd,Zc,Ze,Zh,Zb,Zg,Zf,Zo,Xc,Zc7,ZcM,Zc6,Zdb,ZcJ,Zde,ZcI,Zp,ZI,ZK,ZJ,ZH,ZL,h1,e1,e3,hm,hHB,AVal.cells,Zag,Z0,Zah,Z3,XF,XH,Xp,Xs,Xr,Xt,Zaa,Zae,Zab,Zaf,Zac,Xm,Xn,ZU,ZX,ZV,Z1,Z6,Z4,Z9,Z7,ZZ,Z8,Xy,XA,Xp,Xs,Xo]
   exact ih
  | false =>
   rw [hcB] at hHB
   rw [if_pos (by simp),ZfD]
   cases hcF:F.contains x with
   | false =>
    have ih:=ZiY r (i+1) (A++[x]) S d1 (by simp) hS (by simp;omega) (by omega) (by omega)
    rw [hcF] at hHF
    rw [if_neg (by simp)]
    rw [e5,e7] at ih
    unfold Zcx chT rk at *
    generalize S.map AVal.str=S1 at *
    generalize A.map AVal.str=A1 at *
    generalize ms.map AVal.str=L at *
    generalize B.map AVal.str=LB at *
    generalize F.map AVal.str=LF at *
    generalize R.map mbV=SR at *
    simp only [XG,Xv] at ih ⊢
    rw [ZY]
    simp -implicitDefEqProofs only [EQA,Zn,Zi,Zm,Zk,Zj,Zl,Zz,ZG,ZC,Zy,ZE,ZF,ZA,ZB,ZD,implies_true,forall_const,Xh,Xi,Xl,Xe,Xf,Xj,Xk,Zv,Zx,unA,Zt,Zu,unG,reduceCtorEq,Zr,decide_eq_true_eq,Xd,Xb,ite_self,↓reduceIte,Zs,Zw,gcT,gcA,Zq,Zd,Zc,Ze,Zh,Zb,Zg,Zf,Zo,Xc,Zc7,ZcM,Zc6,Zdb,ZcJ,Zde,ZcI,Zp,ZI,ZK,ZJ,ZH,ZL,h1,e1,e3,hm,hHB,hHF,hv,b1,hA1,AVal.cells,kOk,ZS,ZaI,XQ,Wy,XR,X9,Zag,Z0,Zah,Z3,XF,XH,Xp,Xs,Xr,Xt,Zaa,Zae,Zab,Zaf,Zac,Xm,Xn,ZU,ZX,ZV,Z1,Z6,Z4,Z9,Z7,ZZ,Z8,Xy,XA,Xp,Xs,Xo]
    exact ih
   | true =>
    have ih:=ZiY r (i+1) (A++[x]) (S++[x]) d1 (by simp) (by simp) (by simp;omega) (by simp;omega) (by omega)
    rw [hcF] at hHF
    rw [if_pos (by simp)]
    have e6:S++x::amF F true (amF B false r)=S++[x]++amF F true (amF B false r):=by simp
    rw [e6]
    rw [e5,e7,e5',e7'] at ih
    unfold Zcx chT rk at *
    generalize chA (S++[x]++amF F true (amF B false r)) d=Z at *
    generalize S.map AVal.str=S1 at *
    generalize A.map AVal.str=A1 at *
    generalize ms.map AVal.str=L at *
    generalize B.map AVal.str=LB at *
    generalize F.map AVal.str=LF at *
    generalize R.map mbV=SR at *
    simp only [XG,Xv] at ih ⊢
    rw [ZY]
    simp -implicitDefEqProofs only [EQA,Zn,Zi,Zm,Zk,Zj,Zl,Zz,ZG,ZC,Zy,ZE,ZF,ZA,ZB,ZD,implies_true,forall_const,Xh,Xi,Xl,Xe,Xf,Xj,Xk,Zv,Zx,unA,Zt,Zu,unG,reduceCtorEq,Zr,decide_eq_true_eq,Xd,Xb,ite_self,↓reduceIte,Zs,Zw,gcT,gcA,Zq,Zd,Zc,Ze,Zh,Zb,Zg,Zf,Zo,Xc,Zc7,ZcM,Zc6,Zdb,ZcJ,Zde,ZcI,Zp,ZI,ZK,ZJ,ZH,ZL,h1,e1,e3,hm,hHB,hHF,hv,b1,b2,hA1,hS1,AVal.cells,kOk,ZS,ZaI,XQ,Wy,XR,X9,Zag,Z0,Zah,Z3,XF,XH,Xp,Xs,Xr,Xt,Zaa,Zae,Zab,Zaf,Zac,Xm,Xn,ZU,ZX,ZV,Z1,Z6,Z4,Z9,Z7,ZZ,Z8,Xy,XA,Xp,Xs,Xo]
    exact ih
theorem ZpQ:∀ (r:List Tx) (i:Nat) (A:List Tx),ms.drop i=r->A≠[]->A.length<=i->i<=ms.length ->
  Zcx 2 (chT F B ms f1 f2 f3 d (i:Int) (.lst true []) (.sl 2 0 0 A.length)) (rk R++[Z5.row 0 1 (A.map AVal.str)])=some (chA (if amF F true (amF B false r)=[] then A++amF B false r else amF F true (amF B false r)) d,rk R)
 | [],i,A,h,hA,hAl,hi=>by
  have h1:=ZbF h
  have hm:(ms.map AVal.str).length=ms.length:=by simp
  rw [if_pos (show amF F true (amF B false [])=[] from rfl),show amF B false []=[] from rfl,Xw]
  have hpos:0 < A.length:=W3.2 hA
  obtain ⟨x,hx⟩:∃ x,A[Zb3 d A.length]?=some x:=⟨_,XY (ZiU d hpos)⟩
  have hc:chA A d=.tup [.str x,.bool true]:=by unfold chA;rw [hx]
  rw [hc]
  have hz:=ZnV d hpos
  have hk:=ZiU d hpos
  have hX:(A.map AVal.str)[Zb3 d A.length]?=some (.str x):=by rw [Wh,hx];rfl
  have w0:¬(((0:Nat):Int) > 0):=by decide
  have w1:((A.length:Int) == 0)=false:=by simp;omega
  have w2:¬(A.length:Int)=0:=by omega
  have hlow:-(A.length:Int) < d.tmod (A.length:Int):=by
   have h1:=W8 (-d) (b:=(A.length:Int)) (by omega)
   rw [Xbo] at h1
   omega
  by_cases hneg:d.tmod (A.length:Int) < 0
  ·rw [if_pos hneg] at hz
   have w4:IntKind.i64.wrap (d.tmod (A.length:Int)+(A.length:Int))=((Zb3 d A.length:Nat):Int):=by
    rw [hz,Zbp (by omega) (by omega)]
   have el:=fun {σ:Za} hs=>ZkA (σ:=σ) (t:=2) (n:=A.length) (k:=Zb3 d A.length) (L:=A) rfl rfl hk hs
   generalize Zb3 d A.length=k at *
   unfold Zcx chT rk at *
   generalize A.map AVal.str=A1 at *
   generalize ms.map AVal.str=L at *
   generalize B.map AVal.str=LB at *
   generalize F.map AVal.str=LF at *
   generalize R.map mbV=SR at *
   simp only [XG,Xv] at ⊢
   rw [ZY]
   simp -implicitDefEqProofs only [EQA,Zn,Zi,Zm,Zk,Zj,Zl,Zz,ZG,ZC,Zy,ZE,ZF,ZA,ZB,ZD,implies_true,forall_const,Xh,Xi,Xl,Xe,Xf,Xj,Xk,Zv,Zx,unA,Zt,Zu,unG,reduceCtorEq,Zr,decide_eq_true_eq,Xd,Xb,ite_self,↓reduceIte,Zs,Zw,gcT,gcA,Zq,Zd,Zc,Ze,Zh,Zb,Zg,Zf,Zo,Xc,Zc7,ZcM,Zc6,Zdb,ZcJ,Zde,ZcI,Zp,ZI,ZK,ZJ,ZH,ZL,h1,hm,w0,w1,w2,w4,hneg,el,hX,Xt,AVal.cells,Zag,Z0,Zah,Z3,XF,XH,Xp,Xs,Xr,Xt,Zaa,Zae,Zab,Zaf,Zac,Xm,Xn,ZU,ZX,ZV,Z1,Z6,Z4,Z9,Z7,ZZ,Z8,Xy,XA,Xp,Xs,Xo]
   simp -implicitDefEqProofs only [EQA,Zan,gcA,Zq,ZP,Xw,Xv,Xc,XP,XJ,XD,XM,Xm,Xn,Zal,Zak,Zay,Zaz,Zax,XT,XU,id_eq,ZR,Zd,Zo,ZT,Ze,Zf,ZN,Xo,Zc,Zh,Zb,Zg,Zn,Zi,Zm,Zk,Zj,Zl,Zz,ZG,ZC,Zy,ZE,ZF,ZA,ZB,ZD,implies_true,forall_const,Xh,Xi,Xl,Xe,Xf,Xj,Xk,Zv,Zx,unA,Zt,Zu,unG,reduceCtorEq,Zr,decide_eq_true_eq,Xd,Xb,ite_self,↓reduceIte,Zs,Zw,gcT,gcA,Zq,Zd,Zc,Ze,Zh,Zb,Zg,Zf,Zo,Xc,or_false]
  ·rw [if_neg hneg] at hz
   have el:=fun {σ:Za} hs=>ZkA (σ:=σ) (t:=2) (n:=A.length) (k:=Zb3 d A.length) (L:=A) rfl hz.symm hk hs
   generalize Zb3 d A.length=k at *
   unfold Zcx chT rk at *
   generalize A.map AVal.str=A1 at *
   generalize ms.map AVal.str=L at *
   generalize B.map AVal.str=LB at *
   generalize F.map AVal.str=LF at *
   generalize R.map mbV=SR at *
   simp only [XG,Xv] at ⊢
   rw [ZY]
   simp -implicitDefEqProofs only [EQA,Zn,Zi,Zm,Zk,Zj,Zl,Zz,ZG,ZC,Zy,ZE,ZF,ZA,ZB,ZD,implies_true,forall_const,Xh,Xi,Xl,Xe,Xf,Xj,Xk,Zv,Zx,unA,Zt,Zu,unG,reduceCtorEq,Zr,decide_eq_true_eq,Xd,Xb,ite_self,↓reduceIte,Zs,Zw,gcT,gcA,Zq,Zd,Zc,Ze,Zh,Zb,Zg,Zf,Zo,Xc,Zc7,ZcM,Zc6,Zdb,ZcJ,Zde,ZcI,Zp,ZI,ZK,ZJ,ZH,ZL,h1,hm,w0,w1,w2,hneg,el,hX,Xt,AVal.cells,Zag,Z0,Zah,Z3,XF,XH,Xp,Xs,Xr,Xt,Zaa,Zae,Zab,Zaf,Zac,Xm,Xn,ZU,ZX,ZV,Z1,Z6,Z4,Z9,Z7,ZZ,Z8,Xy,XA,Xp,Xs,Xo]
   simp -implicitDefEqProofs only [EQA,Zan,gcA,Zq,ZP,Xw,Xv,Xc,XP,XJ,XD,XM,Xm,Xn,Zal,Zak,Zay,Zaz,Zax,XT,XU,id_eq,ZR,Zd,Zo,ZT,Ze,Zf,ZN,Xo,Zc,Zh,Zb,Zg,Zn,Zi,Zm,Zk,Zj,Zl,Zz,ZG,ZC,Zy,ZE,ZF,ZA,ZB,ZD,implies_true,forall_const,Xh,Xi,Xl,Xe,Xf,Xj,Xk,Zv,Zx,unA,Zt,Zu,unG,reduceCtorEq,Zr,decide_eq_true_eq,Xd,Xb,ite_self,↓reduceIte,Zs,Zw,gcT,gcA,Zq,Zd,Zc,Ze,Zh,Zb,Zg,Zf,Zo,Xc,or_false]
 | x::r,i,A,h,hA,hAl,hi=>by
  obtain ⟨g1,d1,l1⟩:=ZaC h
  have h1:(i:Int) < ms.length:=by omega
  have e1:=iad g1 AVal.str (k:=1) rfl
  have e3:=Zbh h1 (by omega)
  have hm:(ms.map AVal.str).length=ms.length:=by simp
  have hHB:=fun σ sq own=>Zhh B f2 hB x σ sq own
  have hHF:=fun σ sq own=>Zhh F f3 hF x σ sq own
  have hv:∀ (σ:Za),viewAs σ [.str x]=some ([.str x],[]):=fun _=>rfl
  have c1:1*16<=140737488355328:=by omega
  have b1:(A.length+1)*16<=140737488355328:=by omega
  have hA1:(A.map AVal.str).length=A.length:=by simp
  have e5:(A++[x]).map AVal.str=A.map AVal.str++[.str x]:=by simp
  have e7:(A++[x]).length=A.length+1:=by simp
  rw [ZfD]
  cases hcB:B.contains x with
  | true =>
   have ih:=ZpQ r (i+1) A d1 hA (by omega) (by omega)
   rw [hcB] at hHB
   rw [if_neg (show ¬((true == false)=true) by simp)]
   unfold Zcx chT rk at *
   generalize A.map AVal.str=A1 at *
   generalize ms.map AVal.str=L at *
   generalize B.map AVal.str=LB at *
   generalize F.map AVal.str=LF at *
   generalize R.map mbV=SR at *
   simp only [XG,Xv] at ih ⊢
   rw [ZY]
   simp -implicitDefEqProofs only [EQA,Zn,Zi,Zm,Zk,Zj,Zl,Zz,ZG,ZC,Zy,ZE,ZF,ZA,ZB,ZD,implies_true,forall_const,Xh,Xi,Xl,Xe,Xf,Xj,Xk,Zv,Zx,unA,Zt,Zu,unG,reduceCtorEq,Zr,decide_eq_true_eq,Xd,Xb,ite_self,↓reduceIte,Zs,Zw,gcT,gcA,Zq,Zd,Zc,Ze,Zh,Zb,Zg,Zf,Zo,Xc,Zc7,ZcM,Zc6,Zdb,ZcJ,Zde,ZcI,Zp,ZI,ZK,ZJ,ZH,ZL,h1,e1,e3,hm,hHB,AVal.cells,Zag,Z0,Zah,Z3,XF,XH,Xp,Xs,Xr,Xt,Zaa,Zae,Zab,Zaf,Zac,Xm,Xn,ZU,ZX,ZV,Z1,Z6,Z4,Z9,Z7,ZZ,Z8,Xy,XA,Xp,Xs,Xo]
   exact ih
  | false =>
   rw [hcB] at hHB
   rw [if_pos (show (false == false)=true by rfl),ZfD]
   cases hcF:F.contains x with
   | false =>
    have ih:=ZpQ r (i+1) (A++[x]) d1 (by simp) (by simp;omega) (by omega)
    rw [hcF] at hHF
    rw [if_neg (show ¬((false == true)=true) by simp)]
    have e6:A++x::amF B false r=A++[x]++amF B false r:=by simp
    rw [e6]
    rw [e5,e7] at ih
    unfold Zcx chT rk at *
    generalize chA (if amF F true (amF B false r)=[] then A++[x]++amF B false r else amF F true (amF B false r)) d=Z at *
    generalize A.map AVal.str=A1 at *
    generalize ms.map AVal.str=L at *
    generalize B.map AVal.str=LB at *
    generalize F.map AVal.str=LF at *
    generalize R.map mbV=SR at *
    simp only [XG,Xv] at ih ⊢
    rw [ZY]
    simp -implicitDefEqProofs only [EQA,Zn,Zi,Zm,Zk,Zj,Zl,Zz,ZG,ZC,Zy,ZE,ZF,ZA,ZB,ZD,implies_true,forall_const,Xh,Xi,Xl,Xe,Xf,Xj,Xk,Zv,Zx,unA,Zt,Zu,unG,reduceCtorEq,Zr,decide_eq_true_eq,Xd,Xb,ite_self,↓reduceIte,Zs,Zw,gcT,gcA,Zq,Zd,Zc,Ze,Zh,Zb,Zg,Zf,Zo,Xc,Zc7,ZcM,Zc6,Zdb,ZcJ,Zde,ZcI,Zp,ZI,ZK,ZJ,ZH,ZL,h1,e1,e3,hm,hHB,hHF,hv,b1,hA1,kOk,ZS,ZaI,XQ,Wy,XR,X9,AVal.cells,Zag,Z0,Zah,Z3,XF,XH,Xp,Xs,Xr,Xt,Zaa,Zae,Zab,Zaf,Zac,Xm,Xn,ZU,ZX,ZV,Z1,Z6,Z4,Z9,Z7,ZZ,Z8,Xy,XA,Xp,Xs,Xo]
    exact ih
   | true =>
    have ih:=ZiY R F B ms f1 f2 f3 d hms hF hB r (i+1) (A++[x]) [x] d1 (by simp) (by simp) (by simp;omega) (by simp) (by omega)
    rw [hcF] at hHF
    rw [if_pos (show (true == true)=true by rfl),if_neg (by simp)]
    rw [show x::amF F true (amF B false r)=[x]++amF F true (amF B false r) from rfl]
    rw [e5,e7,show ([x]:List Tx).map AVal.str=[.str x] from rfl,XQ] at ih
    unfold Zcx chT rk at *
    generalize chA ([x]++amF F true (amF B false r)) d=Z at *
    generalize A.map AVal.str=A1 at *
    generalize ms.map AVal.str=L at *
    generalize B.map AVal.str=LB at *
    generalize F.map AVal.str=LF at *
    generalize R.map mbV=SR at *
    simp only [XG,Xv] at ih ⊢
    rw [ZY]
    simp -implicitDefEqProofs only [EQA,Zn,Zi,Zm,Zk,Zj,Zl,Zz,ZG,ZC,Zy,ZE,ZF,ZA,ZB,ZD,implies_true,forall_const,Xh,Xi,Xl,Xe,Xf,Xj,Xk,Zv,Zx,unA,Zt,Zu,unG,reduceCtorEq,Zr,decide_eq_true_eq,Xd,Xb,ite_self,↓reduceIte,Zs,Zw,gcT,gcA,Zq,Zd,Zc,Ze,Zh,Zb,Zg,Zf,Zo,Xc,Zc7,ZcM,Zc6,Zdb,ZcJ,Zde,ZcI,Zp,ZI,ZK,ZJ,ZH,ZL,h1,e1,e3,hm,hHB,hHF,hv,b1,c1,hA1,kOk,ZS,ZaI,XQ,Wy,XR,X9,AVal.cells,Zag,Z0,Zah,Z3,XF,XH,Xp,Xs,Xr,Xt,Zaa,Zae,Zab,Zaf,Zac,Xm,Xn,ZU,ZX,ZV,Z1,Z6,Z4,Z9,Z7,ZZ,Z8,Xy,XA,Xp,Xs,Xo]
    exact ih
theorem ZuZ:∀ (r:List Tx) (i:Nat),ms.drop i=r->i<=ms.length ->
  Zcx 2 (chT F B ms f1 f2 f3 d (i:Int) (.lst true []) (.lst true [])) (rk R)=some (chA (if amF F true (amF B false r)=[] then amF B false r else amF F true (amF B false r)) d,rk R)
 | [],i,h,hi=>by
  have h1:=ZbF h
  have hm:(ms.map AVal.str).length=ms.length:=by simp
  rw [if_pos (show amF F true (amF B false [])=[] from rfl),show amF B false []=[] from rfl,show chA [] d=.tup [.str [],.bool false] from rfl]
  have w0:¬(((0:Nat):Int) > 0):=by decide
  have w1:(((0:Nat):Int) == 0)=true:=rfl
  unfold Zcx chT rk at *
  generalize ms.map AVal.str=L at *
  generalize B.map AVal.str=LB at *
  generalize F.map AVal.str=LF at *
  generalize R.map mbV=SR at *
  try simp only [XG,Xv] at ⊢
  rw [ZY]
  simp -implicitDefEqProofs only [EQA,Zn,Zi,Zm,Zk,Zj,Zl,Zz,ZG,ZC,Zy,ZE,ZF,ZA,ZB,ZD,implies_true,forall_const,Xh,Xi,Xl,Xe,Xf,Xj,Xk,Zv,Zx,unA,Zt,Zu,unG,reduceCtorEq,Zr,decide_eq_true_eq,Xd,Xb,ite_self,↓reduceIte,Zs,Zw,gcT,gcA,Zq,Zd,Zc,Ze,Zh,Zb,Zg,Zf,Zo,Xc,Zc7,ZcM,Zc6,Zdb,ZcJ,Zde,ZcI,Zp,ZI,ZK,ZJ,ZH,ZL,h1,hm,w0,w1,Xt,AVal.cells,Zag,Z0,Zah,Z3,XF,XH,Xp,Xs,Xr,Xt,Zaa,Zae,Zab,Zaf,Zac,Xm,Xn,ZU,ZX,ZV,Z1,Z6,Z4,Z9,Z7,ZZ,Z8,Xy,XA,Xp,Xs,Xo]
  simp -implicitDefEqProofs only [EQA,Zan,gcA,Zq,ZP,Xw,Xv,Xc,XP,XJ,XD,XM,Xm,Xn,Zal,Zak,Zay,Zaz,Zax,XT,XU,id_eq,ZR,Zd,Zo,ZT,Ze,Zf,ZN,Xo,Zc,Zh,Zb,Zg,Zn,Zi,Zm,Zk,Zj,Zl,Zz,ZG,ZC,Zy,ZE,ZF,ZA,ZB,ZD,implies_true,forall_const,Xh,Xi,Xl,Xe,Xf,Xj,Xk,Zv,Zx,unA,Zt,Zu,unG,reduceCtorEq,Zr,decide_eq_true_eq,Xd,Xb,ite_self,↓reduceIte,Zs,Zw,gcT,gcA,Zq,Zd,Zc,Ze,Zh,Zb,Zg,Zf,Zo,Xc,or_false]
 | x::r,i,h,hi=>by
  obtain ⟨g1,d1,l1⟩:=ZaC h
  have h1:(i:Int) < ms.length:=by omega
  have e1:=iad g1 AVal.str (k:=1) rfl
  have e3:=Zbh h1 (by omega)
  have hm:(ms.map AVal.str).length=ms.length:=by simp
  have hHB:=fun σ sq own=>Zhh B f2 hB x σ sq own
  have hHF:=fun σ sq own=>Zhh F f3 hF x σ sq own
  have hv:∀ (σ:Za),viewAs σ [.str x]=some ([.str x],[]):=fun _=>rfl
  have c1:1*16<=140737488355328:=by omega
  rw [ZfD]
  cases hcB:B.contains x with
  | true =>
   have ih:=ZuZ r (i+1) d1 (by omega)
   rw [hcB] at hHB
   rw [if_neg (show ¬((true == false)=true) by simp)]
   unfold Zcx chT rk at *
   generalize ms.map AVal.str=L at *
   generalize B.map AVal.str=LB at *
   generalize F.map AVal.str=LF at *
   generalize R.map mbV=SR at *
   try simp only [XG,Xv] at ih ⊢
   rw [ZY]
   simp -implicitDefEqProofs only [EQA,Zn,Zi,Zm,Zk,Zj,Zl,Zz,ZG,ZC,Zy,ZE,ZF,ZA,ZB,ZD,implies_true,forall_const,Xh,Xi,Xl,Xe,Xf,Xj,Xk,Zv,Zx,unA,Zt,Zu,unG,reduceCtorEq,Zr,decide_eq_true_eq,Xd,Xb,ite_self,↓reduceIte,Zs,Zw,gcT,gcA,Zq,Zd,Zc,Ze,Zh,Zb,Zg,Zf,Zo,Xc,Zc7,ZcM,Zc6,Zdb,ZcJ,Zde,ZcI,Zp,ZI,ZK,ZJ,ZH,ZL,h1,e1,e3,hm,hHB,AVal.cells,Zag,Z0,Zah,Z3,XF,XH,Xp,Xs,Xr,Xt,Zaa,Zae,Zab,Zaf,Zac,Xm,Xn,ZU,ZX,ZV,Z1,Z6,Z4,Z9,Z7,ZZ,Z8,Xy,XA,Xp,Xs,Xo]
   exact ih
  | false =>
   rw [hcB] at hHB
   rw [if_pos (show (false == false)=true by rfl),ZfD]
   cases hcF:F.contains x with
   | false =>
    have ih:=ZpQ R F B ms f1 f2 f3 d hms hF hB r (i+1) [x] d1 (by simp) (by simp) (by omega)
    rw [hcF] at hHF
    rw [if_neg (show ¬((false == true)=true) by simp)]
    rw [show x::amF B false r=[x]++amF B false r from rfl]
    rw [show ([x]:List Tx).map AVal.str=[.str x] from rfl,XQ] at ih
    unfold Zcx chT rk at *
    generalize chA (if amF F true (amF B false r)=[] then [x]++amF B false r else amF F true (amF B false r)) d=Z at *
    generalize ms.map AVal.str=L at *
    generalize B.map AVal.str=LB at *
    generalize F.map AVal.str=LF at *
    generalize R.map mbV=SR at *
    try simp only [XG,Xv] at ih ⊢
    rw [ZY]
    simp -implicitDefEqProofs only [EQA,Zn,Zi,Zm,Zk,Zj,Zl,Zz,ZG,ZC,Zy,ZE,ZF,ZA,ZB,ZD,implies_true,forall_const,Xh,Xi,Xl,Xe,Xf,Xj,Xk,Zv,Zx,unA,Zt,Zu,unG,reduceCtorEq,Zr,decide_eq_true_eq,Xd,Xb,ite_self,↓reduceIte,Zs,Zw,gcT,gcA,Zq,Zd,Zc,Ze,Zh,Zb,Zg,Zf,Zo,Xc,Zc7,ZcM,Zc6,Zdb,ZcJ,Zde,ZcI,Zp,ZI,ZK,ZJ,ZH,ZL,h1,e1,e3,hm,hHB,hHF,hv,c1,kOk,ZS,ZaI,XQ,Wy,XR,X9,AVal.cells,Zag,Z0,Zah,Z3,XF,XH,Xp,Xs,Xr,Xt,Zaa,Zae,Zab,Zaf,Zac,Xm,Xn,ZU,ZX,ZV,Z1,Z6,Z4,Z9,Z7,ZZ,Z8,Xy,XA,Xp,Xs,Xo]
    exact ih
   | true =>
    have ih:=ZiY R F B ms f1 f2 f3 d hms hF hB r (i+1) [x] [x] d1 (by simp) (by simp) (by simp) (by simp) (by omega)
    rw [hcF] at hHF
    rw [if_pos (show (true == true)=true by rfl),if_neg (by simp)]
    rw [show x::amF F true (amF B false r)=[x]++amF F true (amF B false r) from rfl]
    rw [show ([x]:List Tx).map AVal.str=[.str x] from rfl,XQ] at ih
    unfold Zcx chT rk at *
    generalize chA ([x]++amF F true (amF B false r)) d=Z at *
    generalize ms.map AVal.str=L at *
    generalize B.map AVal.str=LB at *
    generalize F.map AVal.str=LF at *
    generalize R.map mbV=SR at *
    try simp only [XG,Xv] at ih ⊢
    rw [ZY]
    simp -implicitDefEqProofs only [EQA,Zn,Zi,Zm,Zk,Zj,Zl,Zz,ZG,ZC,Zy,ZE,ZF,ZA,ZB,ZD,implies_true,forall_const,Xh,Xi,Xl,Xe,Xf,Xj,Xk,Zv,Zx,unA,Zt,Zu,unG,reduceCtorEq,Zr,decide_eq_true_eq,Xd,Xb,ite_self,↓reduceIte,Zs,Zw,gcT,gcA,Zq,Zd,Zc,Ze,Zh,Zb,Zg,Zf,Zo,Xc,Zc7,ZcM,Zc6,Zdb,ZcJ,Zde,ZcI,Zp,ZI,ZK,ZJ,ZH,ZL,h1,e1,e3,hm,hHB,hHF,hv,c1,kOk,ZS,ZaI,XQ,Wy,XR,X9,AVal.cells,Zag,Z0,Zah,Z3,XF,XH,Xp,Xs,Xr,Xt,Zaa,Zae,Zab,Zaf,Zac,Xm,Xn,ZU,ZX,ZV,Z1,Z6,Z4,Z9,Z7,ZZ,Z8,Xy,XA,Xp,Xs,Xo]
    exact ih
end
theorem ZEe (R:List Mb) (hl:R.length<=500000) (s:Tx) (d:Int) (F B:List Tx) (hF:F.length<=9223372036854775807) (hB:B.length<=9223372036854775807):E 19 [.ref 0 0,.str s,.int .i64 d,.lst false (F.map AVal.str),.lst false (B.map AVal.str)] (rk R)=some (chA (chL F B (ZW R s)) d,rk R):=by
 have hml:=ZfU R s
 have h:=ZuZ R F B (ZW R s) false false false d (by omega) hF hB (ZW R s) 0 rfl (W7 _)
 have hC:=ZoL R hl s [.var [.sl 1 0 0 R.length],.row 0 2 (R.map mbV)] 0 1 rfl rfl 2 0 rfl
 have z0:((0:Nat):Int)=0:=rfl
 rw [z0] at h
 have hc:(if amF F true (amF B false (ZW R s))=[] then amF B false (ZW R s) else amF F true (amF B false (ZW R s)))=chL F B (ZW R s):=rfl
 rw [hc] at h
 unfold Zcx chT rk at *
 generalize chA (chL F B (ZW R s)) d=Z at *
 generalize R.map mbV=S at *
 generalize (ZW R s).map AVal.str=L at *
 generalize B.map AVal.str=LB at *
 generalize F.map AVal.str=LF at *
 rw [ZaJ (by rfl) ZDe]
 simp -implicitDefEqProofs only [EQA,Zn,Zi,Zm,Zk,Zj,Zl,Zz,ZG,ZC,Zy,ZE,ZF,ZA,ZB,ZD,implies_true,forall_const,Xh,Xi,Xl,Xe,Xf,Xj,Xk,Zv,Zx,unA,Zt,Zu,unG,reduceCtorEq,Zr,decide_eq_true_eq,Xd,Xb,ite_self,↓reduceIte,Zs,Zw,gcT,gcA,Zq,Zd,Zc,Ze,Zh,Zb,Zg,Zf,Zo,Xc,Zc7,ZcM,Zc6,Zdb,ZcJ,Zde,ZcI,Zp,ZI,ZK,ZJ,ZH,ZL,hC,AVal.cells]
 exact h
theorem Zxj (R:List Mb) (hl:R.length<=500000) (s:Tx) (d:Int) (F B:List Tx) (b1 b2:Bool) (hF:F.length<=9223372036854775807) (hB:B.length<=9223372036854775807):ZfZ 19 [.str s,.int .i64 d,.lst b1 (F.map AVal.str),.lst b2 (B.map AVal.str)] R (chA (chL F B (ZW R s)) d):=by
 obtain ⟨x,b,hx⟩:=ZoF (chL F B (ZW R s)) d
 have h:=ZEe R hl s d F B hF hB
 rw [hx] at h ⊢
 exact Zgl (rest:=[.str s,.int .i64 d,.lst b1 (F.map AVal.str),.lst b2 (B.map AVal.str)]) (rest':=[.str s,.int .i64 d,.lst false (F.map AVal.str),.lst false (B.map AVal.str)]) (by rw [h];exact Zmp rfl rfl (fun _=>rfl) (by simp)) (by kernel_rfl) rfl rfl (fun _=>rfl)
end
section
theorem Zuz (s:Tx):Zbo [] s=[s]:=rfl
theorem Zs5 (x:Tx) (r:List Tx) (s:Tx):Zbo (x::r) s=if x < s then x::Zbo r s else if x=s then x::r else s::x::r:=by
 by_cases h:x < s
 ·have hb:below s (x::r)=below s r+1:=by
   show (if x < s then below s r+1 else 0)=_
   rw [if_pos h]
  rw [if_pos h]
  unfold Zbo
  rw [hb,List.getElem?_cons_succ]
  split
  ·rfl
  ·rw [List.take_succ_cons,List.drop_succ_cons,XG]
 ·have hb:below s (x::r)=0:=by
   show (if x < s then below s r+1 else 0)=_
   rw [if_neg h]
  rw [if_neg h]
  unfold Zbo
  rw [hb,List.getElem?_cons_zero,List.take_zero,List.drop_zero,Xv]
  by_cases e:x=s
  ·rw [if_pos e,if_pos (by rw [e])]
  ·rw [if_neg e,if_neg (by simpa using e)]
theorem Zi6 (s y:Tx):∀ l:List Tx,y ∈ Zbo l s↔y=s\/y ∈ l
 | []=>by rw [Zuz];simp
 | x::r=>by
  rw [Zs5]
  split
  ·rw [XV,Zi6 s y r,XV]
   constructor
   ·rintro (h | h | h)
    ·exact XO (XK h)
    ·exact XK h
    ·exact XO (XO h)
   ·rintro (h | h | h)
    ·exact XO (XK h)
    ·exact XK h
    ·exact XO (XO h)
  ·split
   ·rename_i e
    rw [XV,<-e]
    constructor
    ·rintro (h | h)
     ·exact XK h
     ·exact XO (XO h)
    ·rintro (h | h | h)
     ·exact XK h
     ·exact XK h
     ·exact XO h
   ·rw [XV]
theorem ZIR {a b:Tx} (h:a < b):a<=b:=List.le_of_lt h
theorem ZIN {a b:Tx} (h:¬a < b):b<=a:=List.not_lt.1 h
def Rise (l:List Tx):Prop:=l.Pairwise (·<=·)/\l.Nodup
theorem Rise.nil:Rise []:=⟨List.Pairwise.nil,List.nodup_nil⟩
theorem Rise.put {l:List Tx} (h:Rise l) (s:Tx):Rise (Zbo l s):=by
 induction l with
 | nil=>rw [Zuz];exact ⟨by simp,by simp⟩
 | cons x r ih =>
  obtain ⟨h1,h2⟩:=h
  obtain ⟨p1,p2⟩:=WR.1 h1
  obtain ⟨n1,n2⟩:=Wg.1 h2
  rw [Zs5]
  split
  ·rename_i hx
   obtain ⟨i1,i2⟩:=ih ⟨p2,n2⟩
   refine ⟨WR.2 ⟨fun y hy=>?_,i1⟩,Wg.2 ⟨fun hm=>?_,i2⟩⟩
   ·rcases (Zi6 s y r).1 hy with rfl | hy
    ·exact ZIR hx
    ·exact p1 y hy
   ·rcases (Zi6 s x r).1 hm with rfl | hm
    ·exact List.lt_irrefl _ hx
    ·exact n1 hm
  ·rename_i hx
   have hsx:=ZIN hx
   split
   ·exact ⟨h1,h2⟩
   ·rename_i hne
    refine ⟨WR.2 ⟨fun y hy=>?_,h1⟩,Wg.2 ⟨fun hm=>?_,h2⟩⟩
    ·rcases XV.1 hy with rfl | hy
     ·exact hsx
     ·exact List.le_trans hsx (p1 y hy)
    ·rcases XV.1 hm with e | hm
     ·exact hne e.symm
     ·exact hne (List.le_antisymm (p1 s hm) hsx)
theorem Zt7:∀ (R:List Mb) (l:List Tx),Rise l->Rise (Zbs l R)/\∀ y,y ∈ Zbs l R↔y ∈ l\/∃ q ∈ R,q.1=y
 | [],l,h=>⟨h,fun y=>by simp [Zbs]⟩
 | q::R,l,h=>by
  obtain ⟨h1,h2⟩:=Zt7 R (Zbo l q.1) (h.put q.1)
  refine ⟨h1,fun y=>?_⟩
  show y ∈ Zbs (Zbo l q.1) R↔_
  rw [h2 y,Zi6]
  constructor
  ·rintro ((h | h) | ⟨p,hp,h⟩)
   ·exact XO ⟨q,by simp,h.symm⟩
   ·exact XK h
   ·exact XO ⟨p,by simp [hp],h⟩
  ·rintro (h | ⟨p,hp,h⟩)
   ·exact XK (XO h)
   ·rcases XV.1 hp with rfl | hp
    ·exact XK (XK h.symm)
    ·exact XO ⟨p,hp,h⟩
theorem ZlA (c:Tx):∀ (R:List Mb) (l:List Tx),Rise l->Rise (ZaZ c l R)/\∀ y,y ∈ ZaZ c l R↔y ∈ l\/(y,c) ∈ R
 | [],l,h=>⟨h,fun y=>by simp [ZaZ]⟩
 | q::R,l,h=>by
  have hst:ZaZ c l (q::R)=ZaZ c (if (q.2 == c)=true then Zbo l q.1 else l) R:=rfl
  rw [hst]
  by_cases hc:(q.2 == c)=true
  ·rw [if_pos hc]
   obtain ⟨h1,h2⟩:=ZlA c R (Zbo l q.1) (h.put q.1)
   refine ⟨h1,fun y=>?_⟩
   have hq:=eq_of_beq hc
   rw [h2 y,Zi6,XV]
   constructor
   ·rintro ((h | h) | h)
    ·exact XO (XK (by rw [h,<-hq]))
    ·exact XK h
    ·exact XO (XO h)
   ·rintro (h | h | h)
    ·exact XK (XO h)
    ·exact XK (XK (by rw [<-h]))
    ·exact XO h
  ·rw [if_neg hc]
   obtain ⟨h1,h2⟩:=ZlA c R l h
   refine ⟨h1,fun y=>?_⟩
   rw [h2 y,XV]
   constructor
   ·rintro (h | h)
    ·exact XK h
    ·exact XO (XO h)
   ·rintro (h | h | h)
    ·exact XK h
    ·exact absurd (by rw [<-h];simp) hc
    ·exact XO h
theorem Zs1 {d l:List Tx} (hd:d.Nodup) (hl:Rise l) (h:∀ y,y ∈ d↔y ∈ l):Zbm d=l :=
 Zv2 ((List.perm_ext_iff_of_nodup hd hl.2).2 h) hl.1
theorem Inv.shares {M:List Sh} {R:List Mb} (hi:Inv M R) (y:Tx):y ∈ Zai M↔∃ q ∈ R,q.1=y:=by
 constructor
 ·intro h
  obtain ⟨p,hp,rfl⟩:=X0.1 h
  obtain ⟨h1,h2⟩:=hi.mem p hp
  rw [h1] at h2
  obtain ⟨c,hc⟩:=List.exists_mem_of_ne_nil _ h2
  exact ⟨_,ZjJ.1 hc,rfl⟩
 ·rintro ⟨q,hq,rfl⟩
  exact hi.all q hq
theorem ZsG {M:List Sh} {R:List Mb} (hi:Inv M R) (n:Tx):mtL M n=(Zbs [] R).filter (mtT n):=by
 obtain ⟨⟨h1,h2⟩,h3⟩:=Zt7 R [] Rise.nil
 refine Zs1 (hi.nd.filter _) ⟨h1.filter _,h2.filter _⟩ (fun y=>?_)
 rw [Wz,Wz,hi.shares y,h3 y]
 simp
theorem ZAL {M:List Sh} {R:List Mb} (hi:Inv M R) (c:Tx):goL M R c=ZaZ c [] R:=by
 obtain ⟨h1,h3⟩:=ZlA c R [] Rise.nil
 refine Zs1 (hi.nd.filter _) h1 (fun y=>?_)
 rw [Wz,h3 y,Xag]
 constructor
 ·rintro ⟨_,h⟩;exact XO h
 ·rintro (h | h)
  ·cases h
  ·exact ⟨hi.all _ h,h⟩
theorem Zrb {R:List Mb} {c s:Tx} {r:List Tx} (h:ZaZ c [] R=s::r):R.contains (s,c)=true:=by
 obtain ⟨_,h3⟩:=ZlA c R [] Rise.nil
 have : s ∈ ZaZ c [] R:=by rw [h];simp
 rcases (h3 s).1 this with h | h
 ·cases h
 ·exact Xag.2 h
end
section
def ZlN:ZM:=(.seq (.region [oI 6 (.mov (.c (.int .i64 0)))] none [2,1,0]) (.seq (.region [oM 8 2,oM 9 1,oI 10 (.bin .sub (.t 8) (.t 9)),oI 11 (.bin .add (.t 10) (.c (.int .i64 1))),oM 7 11] none [7,1,0]) (.seq (.region [oM 12 0,oM 13 7,oI 14 (.bin .rem (.t 12) (.t 13)),oM 0 14] none [7,1,0]) (.seq (.seq (.region [oM 15 0,oI 16 (.bin .lss (.t 15) (.c (.int .i64 0)))] none [16,7,1,0]) (.cond (.t 16) (.region [oM 17 0,oM 18 7,oI 19 (.bin .add (.t 17) (.t 18)),oM 0 19] none [1,0]) .skip)) (.seq (.region [oM 20 1,oM 21 0,oI 22 (.bin .add (.t 20) (.t 21)),oM 6 22] none [6]) .ret)))))
def ZoD:Zaj:=⟨[(.tmp 6)],ZlN⟩
theorem ZEq:FC 6=some ZoD:=by kernel_rfl
theorem Zr5:ZoD.body=ZlN:=rfl
theorem ZsT:ZoD.res=[(.tmp 6)]:=rfl
end
section
theorem ZyH (n:Int) (m:Nat) (hm:m<=4611686018427387904):∃ k:Nat,k<=m/\E 6 [.int .i64 n,.int .i64 0,.int .i64 (m:Nat)] []=some (.int .i64 (k:Nat),[]):=by
 rw [ZaJ (by rfl) ZEq]
 have w1:IntKind.i64.wrap ((m:Nat) - 0)=((m:Nat):Int):=by rw [Int.sub_zero];exact Zbp (by omega) (by omega)
 have w2:IntKind.i64.wrap (((m:Nat):Int)+1)=((m+1:Nat):Int):=by rw [show ((m:Nat):Int)+1=((m+1:Nat):Int) from by omega];exact Zbp (by omega) (by omega)
 have w3:(((m+1:Nat):Int)=0)=False:=by simp;omega
 have hb:n.tmod ((m+1:Nat):Int) < ((m+1:Nat):Int):=W8 _ (by omega)
 have hl:-((m+1:Nat):Int) < n.tmod ((m+1:Nat):Int):=by
  have h1:=W8 (-n) (b:=((m+1:Nat):Int)) (by omega)
  rw [Xbo] at h1
  omega
 by_cases h:n.tmod ((m+1:Nat):Int) < 0
 ·have w4:IntKind.i64.wrap (n.tmod ((m+1:Nat):Int)+((m+1:Nat):Int))=(((n.tmod ((m+1:Nat):Int)+((m+1:Nat):Int)).toNat:Nat):Int):=by
   rw [Zbp (by omega) (by omega)];omega
  have w5:IntKind.i64.wrap (0+(((n.tmod ((m+1:Nat):Int)+((m+1:Nat):Int)).toNat:Nat):Int))=(((n.tmod ((m+1:Nat):Int)+((m+1:Nat):Int)).toNat:Nat):Int):=by
   rw [Int.zero_add];exact Zbp (by omega) (by omega)
  refine ⟨(n.tmod ((m+1:Nat):Int)+((m+1:Nat):Int)).toNat,by omega,?_⟩
  simp -implicitDefEqProofs only [EQA,Zn,Zi,Zm,Zk,Zj,Zl,Zz,ZG,ZC,Zy,ZE,ZF,ZA,ZB,ZD,implies_true,forall_const,Xh,Xi,Xl,Xe,Xf,Xj,Xk,Zv,Zx,unA,Zt,Zu,unG,reduceCtorEq,Zr,decide_eq_true_eq,Xd,Xb,ite_self,↓reduceIte,Zs,Zw,gcT,gcA,Zq,Zd,Zc,Ze,Zh,Zb,Zg,Zf,Zo,Xc,Zr5,ZlN,ZsT,Zp,ZI,ZK,ZJ,ZH,ZL,w1,w2,w3,h,w4,w5]
 ·have w5:IntKind.i64.wrap (0+n.tmod ((m+1:Nat):Int))=(((n.tmod ((m+1:Nat):Int)).toNat:Nat):Int):=by
   rw [Int.zero_add,Zbp (by omega) (by omega)];omega
  refine ⟨(n.tmod ((m+1:Nat):Int)).toNat,by omega,?_⟩
  simp -implicitDefEqProofs only [EQA,Zn,Zi,Zm,Zk,Zj,Zl,Zz,ZG,ZC,Zy,ZE,ZF,ZA,ZB,ZD,implies_true,forall_const,Xh,Xi,Xl,Xe,Xf,Xj,Xk,Zv,Zx,unA,Zt,Zu,unG,reduceCtorEq,Zr,decide_eq_true_eq,Xd,Xb,ite_self,↓reduceIte,Zs,Zw,gcT,gcA,Zq,Zd,Zc,Ze,Zh,Zb,Zg,Zf,Zo,Xc,Zr5,ZlN,ZsT,Zp,ZI,ZK,ZJ,ZH,ZL,w1,w2,w3,h,w5]
end
section
theorem Zuo (s:Tx) (hs:s.length<=9223372036854775807):ShC s (ZaD s):=by
 have h:=fun σ sq own=>ZHj σ sq own true s hs
 unfold ZcB at h
 cases ho:ZaD s with
 | true=>rw [ho] at h;exact ⟨_,_,h⟩
 | false=>rw [ho] at h;exact ⟨_,_,h⟩
theorem Zr7 (s:Tx):ZlL s (ZaD s):=by
 have h:=fun σ sq own=>Zvi σ sq own true s
 unfold ZcB at h
 cases ho:ZaD s with
 | true=>rw [ho] at h;exact ⟨_,_,h⟩
 | false=>rw [ho] at h;exact ⟨_,_,h⟩
theorem Zym (n:Int):∃ k:Nat,k<=5/\∀ (σ:Za) (sq own:Nat),ZQ EP BY σ sq 6 own true [.int .i64 n,.int .i64 0,.int .i64 5]=some (.int .i64 (k:Nat),σ,{}):=by
 obtain ⟨k,hk,he⟩:=ZyH n 5 (by omega)
 exact ⟨k,hk,fun σ sq own=>ZgJ (ZfF he (by kernel_rfl) rfl rfl rfl (fun _=>rfl) σ sq own)⟩
theorem Zhj (T:List Tx) (x y:Bool) (hl:T.length<=9223372036854775807) (σ:Za) (sq own:Nat):ZQ EP BY σ sq 11 own true [.lst x (T.map AVal.str),.lst y (T.map AVal.str)]=some (.bool true,σ,{}):=by
 have h:=ZgJ (ZFh T T x y hl σ sq own)
 rw [show (T == T)=true by simp] at h
 exact h
def HL (M:List Sh) (R:List Mb):Za:=[.var [.sl 1 0 0 R.length],.row 0 2 (R.map mbV),.var [.map 3],.gmap 1 (GM M)]
def LB (f:Nat) (rest:List AVal) (M:List Sh) (r:AVal) (M':List Sh):Prop:=∀ (σ:Za),σ[2]?=some (.var [.map 3])->σ[3]?=some (.gmap 1 (GM M))->∀ sq:Nat,ZQ EP BY σ sq f 0 true (.ref 2 0::rest)=some (r,σ.set 3 (.gmap 1 (GM M')),{ any:=true,upd:=[(2,[.map 3])] })
theorem ZgP {f:Nat} {rest:List AVal} {M M':List Sh} {r:AVal} (h:ZfQ f rest M r M'):LB f rest M r M':=fun σ ha hg sq=>h σ 2 3 ha hg sq 0 rfl
def LRd (f:Nat) (rest:List AVal) (R:List Mb) (r:AVal):Prop:=∀ (σ:Za),σ[0]?=some (.var [.sl 1 0 0 R.length])->σ[1]?=some (.row 0 2 (R.map mbV))->∀ sq:Nat,ZQ EP BY σ sq f 0 true (.ref 0 0::rest)=some (r,σ,{ any:=true,upd:=[(0,[.sl 1 0 0 R.length])] })
theorem Zi8 {f:Nat} {rest:List AVal} {R:List Mb} {r:AVal} (h:ZfZ f rest R r):LRd f rest R r:=fun σ ha hg sq=>ZgJ (h σ 0 1 ha hg sq 0 rfl)
def LRe (f:Nat) (rest:List AVal) (R:List Mb) (r:AVal):Prop:=∀ (σ:Za),σ[0]?=some (.var [.sl 1 0 0 R.length])->σ[1]?=some (.row 0 2 (R.map mbV))->∀ sq:Nat,freeAt σ sq=true->ZQ EP BY σ sq f 1 true (.ref 0 0::rest)=some (r,σ,{ any:=true,upd:=[(0,[.sl 1 0 0 R.length])] })
theorem Zln {f:Nat} {rest:List AVal} {R:List Mb} {r:AVal} (h:ZfZ f rest R r):LRe f rest R r:=fun σ ha hg sq hf=>ZgJ (h σ 0 1 ha hg sq 1 (by simp [ZaN,hf]))
def Zso:=xwP Zmg ZbP rfl
def Zcd:=xwP ZlV Zbz rfl
def Zsl:=xwP Zli ZbH rfl
def ZGs:=xwP ZjP ZbJ rfl
noncomputable def K31 (tm:Tms) (σ:Za):Option (AVal×Za):=ZaL 0 Zh0 (Zbi FC PRP BY 0 Zli (Wt (Za6 3) (evL FC PRP BY 0 [12,11,4,3] Zmg tm σ)))
theorem Zuu {M:List Sh} {R:List Mb} (hi:Inv M R) (hl:R.length<=500000) (T:List Tx) (hT:T.length<=1000000):∀ (r:List Tx) (i:Nat),T.drop i=r ->
  K31 [(12,.int .i64 (i:Int)),(11,.lst false (T.map AVal.str)),(4,.ref 0 0),(3,.ref 2 0)] (HL M R)=some (.bool true,[])
 | [],i,h=>by
  have h1:=ZbF h
  have hm:(T.map AVal.str).length=T.length:=by simp
  unfold K31 HL
  generalize R.map mbV=S at *
  generalize T.map AVal.str=L at *
  rw [ZY]
  simp -implicitDefEqProofs only [EQA,Zn,Zi,Zm,Zk,Zj,Zl,Zz,ZG,ZC,Zy,ZE,ZF,ZA,ZB,ZD,implies_true,forall_const,Xh,Xi,Xl,Xe,Xf,Xj,Xk,Zv,Zx,unA,Zt,Zu,unG,reduceCtorEq,Zr,decide_eq_true_eq,Xd,Xb,ite_self,↓reduceIte,Zs,Zw,gcT,gcA,Zq,Zd,Zc,Ze,Zh,Zb,Zg,Zf,Zo,Xc,ZbZ,ZbQ,Zb1,Zb5,ZbH,Zb2,ZbP,Zb0,ZbJ,Zb9,Zbz,Zp,ZI,ZK,ZJ,ZH,ZL,Zso,Zsl,h1,hm,Zag,Z0,Zah,Z3,XF,XH,Xp,Xs,Xr,Xt,Zaa,Zae,Zab,Zaf,Zac,Xm,Xn,ZU,ZX,ZV,Z1,Z6,Z4,Z9,Z7,ZZ,Z8,Xy,XA,Xp,Xs,Xo]
 | x::r,i,h=>by
  obtain ⟨g1,d1,l1⟩:=ZaC h
  have ih:=Zuu hi hl T hT r (i+1) d1
  have h1:(i:Int) < T.length:=by omega
  have e1:=iad g1 AVal.str (k:=1) rfl
  have e3:=Zbh h1 (by omega)
  have hm:(T.map AVal.str).length=T.length:=by simp
  have hB:=ZgP (ZvU hi x (by omega))
  have hR:=Zi8 (ZoL R hl x)
  have hml:=ZfU R x
  have hS:=fun a b σ sq own=>Zhj (ZW R x) a b (by omega) σ sq own
  unfold LB at hB
  unfold LRd at hR
  unfold K31 HL at *
  generalize R.map mbV=S at *
  generalize (ZW R x).map AVal.str=Z at *
  generalize T.map AVal.str=L at *
  rw [ZY]
  simp -implicitDefEqProofs only [EQA,Zn,Zi,Zm,Zk,Zj,Zl,Zz,ZG,ZC,Zy,ZE,ZF,ZA,ZB,ZD,implies_true,forall_const,Xh,Xi,Xl,Xe,Xf,Xj,Xk,Zv,Zx,unA,Zt,Zu,unG,reduceCtorEq,Zr,decide_eq_true_eq,Xd,Xb,ite_self,↓reduceIte,Zs,Zw,gcT,gcA,Zq,Zd,Zc,Ze,Zh,Zb,Zg,Zf,Zo,Xc,ZbZ,ZbQ,Zb1,Zb5,ZbH,Zb2,ZbP,Zb0,ZbJ,Zb9,Zbz,Zp,ZI,ZK,ZJ,ZH,ZL,Zso,Zsl,h1,e1,e3,hm,hB,hR,hS,AVal.cells,Zag,Z0,Zah,Z3,XF,XH,Xp,Xs,Xr,Xt,Zaa,Zae,Zab,Zaf,Zac,Xm,Xn,ZU,ZX,ZV,Z1,Z6,Z4,Z9,Z7,ZZ,Z8,Xy,XA,Xp,Xs,Xo]
  simp -implicitDefEqProofs only [EQA,Zal,Zak,Zn,Zi,Zm,Zk,Zj,Zl,Zz,ZG,ZC,Zy,ZE,ZF,ZA,ZB,ZD,implies_true,forall_const,Xh,Xi,Xl,Xe,Xf,Xj,Xk,Zv,Zx,unA,Zt,Zu,unG,reduceCtorEq,Zr,decide_eq_true_eq,Xd,Xb,ite_self,↓reduceIte,Zs,Zw,gcT,gcA,Zq,Zd,Zc,Ze,Zh,Zb,Zg,Zf,Zo,Xc]
  exact ih
end
section
set_option maxHeartbeats 32000000
structure ZbE where
 act:Int
 draw:Int
 share:Tx
 client:Tx
 first:List Tx
 but:List Tx
def ZaB (x:ZbE):AVal:=.agg [.int .i64 x.act,.int .i64 x.draw,.str x.share,.str x.client,.lst false (x.first.map AVal.str),.lst false (x.but.map AVal.str)]
structure ZdC (x:ZbE):Prop where
 share:x.share.length<=9223372036854775807
 first:x.first.length<=9223372036854775807
 but:x.but.length<=9223372036854775807
def BdR (R:List Mb):Prop:=∀ q ∈ R,q.1.length*16<=140737488355328 - 64
theorem BdR.keys {M:List Sh} {R:List Mb} (hi:Inv M R) (h:BdR R):∀ s ∈ Zai M,s.length*16<=140737488355328 - 64:=by
 intro s hs
 obtain ⟨q,hq,rfl⟩:=(hi.shares s).1 hs
 exact h q hq
theorem ZvC {α:Type} [BEq α] [LawfulBEq α]:∀ (js L:List α),js.Nodup->(∀ j ∈ js,j ∈ L)->js.length<=L.length
 | [],L,_,_=>W7 _
 | j::js,L,hn,hs=>by
  obtain ⟨h1,h2⟩:=Wg.1 hn
  have hj:=hs j (by simp)
  have:=ZvC js (L.erase j) h2 (fun k hk=>(List.mem_erase_of_ne (by rintro rfl;exact h1 hk)).2 (hs k (by simp [hk])))
  rw [List.length_erase_of_mem hj] at this
  have:=List.length_pos_of_mem hj
  simp only [Xr];omega
theorem Inv.len {M:List Sh} {R:List Mb} (hi:Inv M R):M.length<=R.length:=by
 have h1:(Zai M).length=M.length:=by simp [Zai]
 have h2:(Zai M).length<=(R.map (·.1)).length:=by
  refine ZvC _ _ hi.nd fun s hs=>?_
  obtain ⟨q,hq,rfl⟩:=(hi.shares s).1 hs
  exact X0.2 ⟨q,hq,rfl⟩
 rw [List.length_map] at h2
 omega
theorem ZI1 {M:List Sh} {R:List Mb} (hi:Inv M R) (hl:R.length<=500000) (i:Int) (S:List AVal):ZaL 0 Zh0 (evC FC PRP BY 0 ZjP [(29,.bool false),(5,.int .i64 i),(4,.ref 0 0),(3,.ref 2 0),(0,.lst false S)] (HL M R))=some (.bool true,[]):=by
 have hlen:=ZlE R []
 have h:=Zuu hi hl (Zbs [] R) (by simp at hlen;omega) (Zbs [] R) 0 rfl
 have hR:=Zi8 (Zu9 R hl)
 unfold LRd at hR
 have z0:((0:Nat):Int)=0:=rfl
 rw [z0] at h
 unfold K31 HL at *
 generalize R.map mbV=Z at *
 generalize (Zbs [] R).map AVal.str=L at *
 simp -implicitDefEqProofs only [EQA,Zn,Zi,Zm,Zk,Zj,Zl,Zz,ZG,ZC,Zy,ZE,ZF,ZA,ZB,ZD,implies_true,forall_const,Xh,Xi,Xl,Xe,Xf,Xj,Xk,Zv,Zx,unA,Zt,Zu,unG,reduceCtorEq,Zr,decide_eq_true_eq,Xd,Xb,ite_self,↓reduceIte,Zs,Zw,gcT,gcA,Zq,Zd,Zc,Ze,Zh,Zb,Zg,Zf,Zo,Xc,ZbZ,ZbQ,Zb1,Zb5,ZbH,Zb2,ZbP,Zb0,ZbJ,Zb9,Zbz,Zp,ZI,ZK,ZJ,ZH,ZL,ZGs,hR,AVal.cells,Zag,Z0,Zah,Z3,XF,XH,Xp,Xs,Xr,Xt,Zaa,Zae,Zab,Zaf,Zac,Xm,Xn,ZU,ZX,ZV,Z1,Z6,Z4,Z9,Z7,ZZ,Z8,Xy,XA,Xp,Xs,Xo]
 simp -implicitDefEqProofs only [EQA,Zal,Zak,Zn,Zi,Zm,Zk,Zj,Zl,Zz,ZG,ZC,Zy,ZE,ZF,ZA,ZB,ZD,implies_true,forall_const,Xh,Xi,Xl,Xe,Xf,Xj,Xk,Zv,Zx,unA,Zt,Zu,unG,reduceCtorEq,Zr,decide_eq_true_eq,Xd,Xb,ite_self,↓reduceIte,Zs,Zw,gcT,gcA,Zq,Zd,Zc,Ze,Zh,Zb,Zg,Zf,Zo,Xc]
 exact h
noncomputable def K6 (tm:Tms) (σ:Za):Option (AVal×Za):=ZaL 0 Zh0 (Zbi FC PRP BY 0 ZjP (Wt (Za6 0) (evL FC PRP BY 0 [5,4,3,0] ZlV tm σ)))
abbrev l6T (i:Nat) (S:List AVal):Tms:=[(5,.int .i64 (i:Int)),(4,.ref 0 0),(3,.ref 2 0),(0,.lst false S)]
theorem ZuO {M:List Sh} {R:List Mb} (hi:Inv M R) (hl:R.length<=500000) (S:List ZbE) (i:Nat) (h:S.length<=i\/120<=i):K6 (l6T i (S.map ZaB)) (HL M R)=some (.bool true,[]):=by
 have hk:=ZI1 hi hl (i:Int) (S.map ZaB)
 have hm:(S.map ZaB).length=S.length:=by simp
 unfold K6 l6T HL at *
 generalize R.map mbV=Z at *
 by_cases h1:(i:Int) < S.length
 ·have h2:¬(i:Int) < 120:=by omega
  generalize S.map ZaB=L at *
  rw [ZY]
  simp -implicitDefEqProofs only [EQA,Zn,Zi,Zm,Zk,Zj,Zl,Zz,ZG,ZC,Zy,ZE,ZF,ZA,ZB,ZD,implies_true,forall_const,Xh,Xi,Xl,Xe,Xf,Xj,Xk,Zv,Zx,unA,Zt,Zu,unG,reduceCtorEq,Zr,decide_eq_true_eq,Xd,Xb,ite_self,↓reduceIte,Zs,Zw,gcT,gcA,Zq,Zd,Zc,Ze,Zh,Zb,Zg,Zf,Zo,Xc,Zcd,Zbz,h1,h2,hm,AVal.cells]
  exact hk
 ·generalize S.map ZaB=L at *
  rw [ZY]
  simp -implicitDefEqProofs only [EQA,Zn,Zi,Zm,Zk,Zj,Zl,Zz,ZG,ZC,Zy,ZE,ZF,ZA,ZB,ZD,implies_true,forall_const,Xh,Xi,Xl,Xe,Xf,Xj,Xk,Zv,Zx,unA,Zt,Zu,unG,reduceCtorEq,Zr,decide_eq_true_eq,Xd,Xb,ite_self,↓reduceIte,Zs,Zw,gcT,gcA,Zq,Zd,Zc,Ze,Zh,Zb,Zg,Zf,Zo,Xc,Zcd,Zbz,h1,hm,AVal.cells]
  exact hk
theorem ZLn {M:List Sh} {R:List Mb} (hi:Inv M R) {S:List ZbE} {i:Nat} {x:ZbE} (hx:S[i]?=some x) (hl:R.length<=i) (h120:i < 120) (hok:ZdC x)
  (hwi:∀ (σ:Za) (sq own:Nat),ZQ EP BY σ sq 6 own true [.int .i64 x.act,.int .i64 0,.int .i64 5]=some (.int .i64 3,σ,{}))
  (hn:K6 (l6T (i+1) (S.map ZaB)) (HL M R)=some (.bool true,[])):K6 (l6T i (S.map ZaB)) (HL M R)=some (.bool true,[]):=by
 have h1:(i:Int) < S.length:=by have:=(Xu.1 hx).1;omega
 have h2:(i:Int) < 120:=by omega
 have e1:=iad hx ZaB (k:=6) rfl
 have e3:=Zbh (i:=i) (n:=120) (by omega) (by omega)
 have hm:(S.map ZaB).length=S.length:=by simp
 have n0:((3:Int) == 0)=false:=by decide
 have n1:((3:Int) == 1)=false:=by decide
 have n2:((3:Int) == 2)=false:=by decide
 have hB:=ZgP (ZvU hi x.share (by omega))
 have hR:=Zi8 (ZoL R (by omega) x.share)
 have hml:=ZfU R x.share
 have hS:=fun a b σ sq own=>Zhj (ZW R x.share) a b (by omega) σ sq own
 unfold LB at hB
 unfold LRd at hR
 unfold K6 l6T HL at *
 generalize R.map mbV=Z at *
 generalize (ZW R x.share).map AVal.str=L2 at *
 generalize S.map ZaB=L at *
 unfold ZaB at e1
 generalize x.first.map AVal.str=LF at *
 generalize x.but.map AVal.str=LB at *
 rw [ZY]
 simp -implicitDefEqProofs only [EQA,Zn,Zi,Zm,Zk,Zj,Zl,Zz,ZG,ZC,Zy,ZE,ZF,ZA,ZB,ZD,implies_true,forall_const,Xh,Xi,Xl,Xe,Xf,Xj,Xk,Zv,Zx,unA,Zt,Zu,unG,reduceCtorEq,Zr,decide_eq_true_eq,Xd,Xb,ite_self,↓reduceIte,Zs,Zw,gcT,gcA,Zq,Zd,Zc,Ze,Zh,Zb,Zg,Zf,Zo,Xc,ZbZ,ZbQ,Zb1,Zb5,ZbH,Zb2,ZbP,Zb0,ZbJ,Zb9,Zbz,Zp,ZI,ZK,ZJ,ZH,ZL,Zcd,h1,h2,e1,e3,hm,hwi,hB,hR,hS,n0,n1,n2,AVal.cells,ZcT,Zar,Zag,Z0,Zah,Z3,XF,XH,Xp,Xs,Xr,Xt,Zaa,Zae,Zab,Zaf,Zac,Xm,Xn,ZU,ZX,ZV,Z1,Z6,Z4,Z9,Z7,ZZ,Z8,Xy,XA,Xp,Xs,Xo]
 rw [Z0 _ _ _ _ _ _ _ (by rfl)]
 try simp -implicitDefEqProofs only [EQA,Zn,Zi,Zm,Zk,Zj,Zl,Zz,ZG,ZC,Zy,ZE,ZF,ZA,ZB,ZD,implies_true,forall_const,Xh,Xi,Xl,Xe,Xf,Xj,Xk,Zv,Zx,unA,Zt,Zu,unG,reduceCtorEq,Zr,decide_eq_true_eq,Xd,Xb,ite_self,↓reduceIte,Zs,Zw,gcT,gcA,Zq,Zd,Zc,Ze,Zh,Zb,Zg,Zf,Zo,Xc,ZbZ,ZbQ,Zb1,Zb5,ZbH,Zb2,ZbP,Zb0,ZbJ,Zb9,Zbz,Zcd,e3,Zal,Zak,AVal.cells,Zag,Z0,Zah,Z3,XF,XH,Xp,Xs,Xr,Xt,Zaa,Zae,Zab,Zaf,Zac,Xm,Xn,ZU,ZX,ZV,Z1,Z6,Z4,Z9,Z7,ZZ,Z8,Xy,XA,Xp,Xs,Xo]
 exact hn
theorem ZBB {M:List Sh} {R:List Mb} (hi:Inv M R) {S:List ZbE} {i:Nat} {x:ZbE} (hx:S[i]?=some x) (hl:R.length<=i) (h120:i < 120) (hok:ZdC x)
  (hwi:∀ (σ:Za) (sq own:Nat),ZQ EP BY σ sq 6 own true [.int .i64 x.act,.int .i64 0,.int .i64 5]=some (.int .i64 4,σ,{})) (hbd:BdR R)
  (hn:K6 (l6T (i+1) (S.map ZaB)) (HL M R)=some (.bool true,[])):K6 (l6T i (S.map ZaB)) (HL M R)=some (.bool true,[]):=by
 have h1:(i:Int) < S.length:=by have:=(Xu.1 hx).1;omega
 have h2:(i:Int) < 120:=by omega
 have e1:=iad hx ZaB (k:=6) rfl
 have e3:=Zbh (i:=i) (n:=120) (by omega) (by omega)
 have hm:(S.map ZaB).length=S.length:=by simp
 have n0:((4:Int) == 0)=false:=by decide
 have n1:((4:Int) == 1)=false:=by decide
 have n2:((4:Int) == 2)=false:=by decide
 have n3:((4:Int) == 3)=false:=by decide
 have hml:=hi.len
 have hB:=ZgP (Zrh hi (by omega) (by omega) x.client (hbd.keys hi))
 rw [ZsG hi] at hB
 have hR:=Zi8 (ZLS R (by omega) x.client)
 have hTl:((Zbs [] R).filter (mtT x.client)).length<=9223372036854775807:=by
  refine Xao (List.length_filter_le _ _) (Xao (ZlE R []) ?_)
  simp;omega
 have hS:=fun a b σ sq own=>Zhj ((Zbs [] R).filter (mtT x.client)) a b hTl σ sq own
 unfold LB at hB
 unfold LRd at hR
 unfold K6 l6T HL at *
 generalize R.map mbV=Z at *
 generalize ((Zbs [] R).filter (mtT x.client)).map AVal.str=L2 at *
 generalize S.map ZaB=L at *
 unfold ZaB at e1
 generalize x.first.map AVal.str=LF at *
 generalize x.but.map AVal.str=LB at *
 rw [ZY]
 simp -implicitDefEqProofs only [EQA,Zn,Zi,Zm,Zk,Zj,Zl,Zz,ZG,ZC,Zy,ZE,ZF,ZA,ZB,ZD,implies_true,forall_const,Xh,Xi,Xl,Xe,Xf,Xj,Xk,Zv,Zx,unA,Zt,Zu,unG,reduceCtorEq,Zr,decide_eq_true_eq,Xd,Xb,ite_self,↓reduceIte,Zs,Zw,gcT,gcA,Zq,Zd,Zc,Ze,Zh,Zb,Zg,Zf,Zo,Xc,ZbZ,ZbQ,Zb1,Zb5,ZbH,Zb2,ZbP,Zb0,ZbJ,Zb9,Zbz,Zp,ZI,ZK,ZJ,ZH,ZL,Zcd,h1,h2,e1,e3,hm,hwi,hB,hR,hS,n0,n1,n2,n3,AVal.cells,ZcT,Zar,Zag,Z0,Zah,Z3,XF,XH,Xp,Xs,Xr,Xt,Zaa,Zae,Zab,Zaf,Zac,Xm,Xn,ZU,ZX,ZV,Z1,Z6,Z4,Z9,Z7,ZZ,Z8,Xy,XA,Xp,Xs,Xo]
 rw [Z0 _ _ _ _ _ _ _ (by rfl)]
 try simp -implicitDefEqProofs only [EQA,Zn,Zi,Zm,Zk,Zj,Zl,Zz,ZG,ZC,Zy,ZE,ZF,ZA,ZB,ZD,implies_true,forall_const,Xh,Xi,Xl,Xe,Xf,Xj,Xk,Zv,Zx,unA,Zt,Zu,unG,reduceCtorEq,Zr,decide_eq_true_eq,Xd,Xb,ite_self,↓reduceIte,Zs,Zw,gcT,gcA,Zq,Zd,Zc,Ze,Zh,Zb,Zg,Zf,Zo,Xc,ZbZ,ZbQ,Zb1,Zb5,ZbH,Zb2,ZbP,Zb0,ZbJ,Zb9,Zbz,Zcd,e3,Zal,Zak,AVal.cells,Zag,Z0,Zah,Z3,XF,XH,Xp,Xs,Xr,Xt,Zaa,Zae,Zab,Zaf,Zac,Xm,Xn,ZU,ZX,ZV,Z1,Z6,Z4,Z9,Z7,ZZ,Z8,Xy,XA,Xp,Xs,Xo]
 exact hn
theorem ZGP {M:List Sh} {R:List Mb} (hi:Inv M R) {S:List ZbE} {i:Nat} {x:ZbE} (hx:S[i]?=some x) (hl:R.length<=i) (h120:i < 120) (hok:ZdC x)
  (hwi:∀ (σ:Za) (sq own:Nat),ZQ EP BY σ sq 6 own true [.int .i64 x.act,.int .i64 0,.int .i64 5]=some (.int .i64 5,σ,{}))
  (hn:K6 (l6T (i+1) (S.map ZaB)) (HL M R)=some (.bool true,[])):K6 (l6T i (S.map ZaB)) (HL M R)=some (.bool true,[]):=by
 have h1:(i:Int) < S.length:=by have:=(Xu.1 hx).1;omega
 have h2:(i:Int) < 120:=by omega
 have e1:=iad hx ZaB (k:=6) rfl
 have e3:=Zbh (i:=i) (n:=120) (by omega) (by omega)
 have hm:(S.map ZaB).length=S.length:=by simp
 have n0:((5:Int) == 0)=false:=by decide
 have n1:((5:Int) == 1)=false:=by decide
 have n2:((5:Int) == 2)=false:=by decide
 have n3:((5:Int) == 3)=false:=by decide
 have n4:((5:Int) == 4)=false:=by decide
 have hB:=ZgP (ZpJ hi x.share x.draw x.first x.but false false (by omega) hok.first hok.but)
 have hR:=Zi8 (Zxj R (by omega) x.share x.draw x.first x.but false false hok.first hok.but)
 obtain ⟨y,b,hy⟩:=ZoF (chL x.first x.but (ZW R x.share)) x.draw
 rw [hy] at hB hR
 have by1:(y == y)=true:=by simp
 have by2:(b == b)=true:=by simp
 unfold LB at hB
 unfold LRd at hR
 unfold K6 l6T HL at *
 generalize R.map mbV=Z at *
 generalize S.map ZaB=L at *
 unfold ZaB at e1
 generalize x.first.map AVal.str=LF at *
 generalize x.but.map AVal.str=LB at *
 rw [ZY]
 simp -implicitDefEqProofs only [EQA,Zn,Zi,Zm,Zk,Zj,Zl,Zz,ZG,ZC,Zy,ZE,ZF,ZA,ZB,ZD,implies_true,forall_const,Xh,Xi,Xl,Xe,Xf,Xj,Xk,Zv,Zx,unA,Zt,Zu,unG,reduceCtorEq,Zr,decide_eq_true_eq,Xd,Xb,ite_self,↓reduceIte,Zs,Zw,gcT,gcA,Zq,Zd,Zc,Ze,Zh,Zb,Zg,Zf,Zo,Xc,ZbZ,ZbQ,Zb1,Zb5,ZbH,Zb2,ZbP,Zb0,ZbJ,Zb9,Zbz,Zp,ZI,ZK,ZJ,ZH,ZL,Zcd,h1,h2,e1,e3,hm,hwi,hB,hR,by1,by2,n0,n1,n2,n3,n4,AVal.cells,ZcT,Zar,Zag,Z0,Zah,Z3,XF,XH,Xp,Xs,Xr,Xt,Zaa,Zae,Zab,Zaf,Zac,Xm,Xn,ZU,ZX,ZV,Z1,Z6,Z4,Z9,Z7,ZZ,Z8,Xy,XA,Xp,Xs,Xo]
 try simp -implicitDefEqProofs only [EQA,Zn,Zi,Zm,Zk,Zj,Zl,Zz,ZG,ZC,Zy,ZE,ZF,ZA,ZB,ZD,implies_true,forall_const,Xh,Xi,Xl,Xe,Xf,Xj,Xk,Zv,Zx,unA,Zt,Zu,unG,reduceCtorEq,Zr,decide_eq_true_eq,Xd,Xb,ite_self,↓reduceIte,Zs,Zw,gcT,gcA,Zq,Zd,Zc,Ze,Zh,Zb,Zg,Zf,Zo,Xc,ZbZ,ZbQ,Zb1,Zb5,ZbH,Zb2,ZbP,Zb0,ZbJ,Zb9,Zbz,Zcd,e3,Zal,Zak,AVal.cells,Zag,Z0,Zah,Z3,XF,XH,Xp,Xs,Xr,Xt,Zaa,Zae,Zab,Zaf,Zac,Xm,Xn,ZU,ZX,ZV,Z1,Z6,Z4,Z9,Z7,ZZ,Z8,Xy,XA,Xp,Xs,Xo]
 exact hn
theorem ZFQ {M:List Sh} {R:List Mb} (hi:Inv M R) {S:List ZbE} {i:Nat} {x:ZbE} (hx:S[i]?=some x) (hl:R.length<=i) (h120:i < 120) (hok:ZdC x)
  (hwi:∀ (σ:Za) (sq own:Nat),ZQ EP BY σ sq 6 own true [.int .i64 x.act,.int .i64 0,.int .i64 5]=some (.int .i64 2,σ,{})) (hT:ZaZ x.client [] R=[]) {M':List Sh} (hC:LB 12 [.str x.client] M (.lst false ((ZaZ x.client [] R).map AVal.str)) M')
  (hn:K6 (l6T (i+1) (S.map ZaB)) (HL M' R)=some (.bool true,[])):K6 (l6T i (S.map ZaB)) (HL M R)=some (.bool true,[]):=by
 have h1:(i:Int) < S.length:=by have:=(Xu.1 hx).1;omega
 have h2:(i:Int) < 120:=by omega
 have e1:=iad hx ZaB (k:=6) rfl
 have e3:=Zbh (i:=i) (n:=120) (by omega) (by omega)
 have hm:(S.map ZaB).length=S.length:=by simp
 have n0:((2:Int) == 0)=false:=by decide
 have n1:((2:Int) == 1)=false:=by decide
 obtain ⟨fb,hq⟩:=ZtH R (by omega) x.client (fun s r h=>Zrb h)
 rw [if_pos hT] at hq
 have hR:=Zln (Zgl (f:=13) (rest:=[.str x.client]) (rest':=[.str x.client]) (R:=R) (r:=.lst false ((ZaZ x.client [] R).map AVal.str)) (by rw [hq];exact ZkD fb _) (by kernel_rfl) rfl rfl (fun _=>rfl))
 have hTl:(ZaZ x.client [] R).length<=9223372036854775807:=by rw [hT];simp
 have hS:=fun a b σ sq own=>Zhj (ZaZ x.client [] R) a b hTl σ sq own
 unfold LB at hC
 unfold LRe at hR
 unfold K6 l6T HL at *
 generalize R.map mbV=Z at *
 generalize (ZaZ x.client [] R).map AVal.str=L2 at *
 generalize S.map ZaB=L at *
 unfold ZaB at e1
 generalize x.first.map AVal.str=LF at *
 generalize x.but.map AVal.str=LB at *
 rw [ZY]
 simp -implicitDefEqProofs only [EQA,Zn,Zi,Zm,Zk,Zj,Zl,Zz,ZG,ZC,Zy,ZE,ZF,ZA,ZB,ZD,implies_true,forall_const,Xh,Xi,Xl,Xe,Xf,Xj,Xk,Zv,Zx,unA,Zt,Zu,unG,reduceCtorEq,Zr,decide_eq_true_eq,Xd,Xb,ite_self,↓reduceIte,Zs,Zw,gcT,gcA,Zq,Zd,Zc,Ze,Zh,Zb,Zg,Zf,Zo,Xc,ZbZ,ZbQ,Zb1,Zb5,ZbH,Zb2,ZbP,Zb0,ZbJ,Zb9,Zbz,Zp,ZI,ZK,ZJ,ZH,ZL,Zcd,h1,h2,e1,e3,hm,hwi,hC,hR,hS,n0,n1,AVal.cells,ZcT,Zar,Zag,Z0,Zah,Z3,XF,XH,Xp,Xs,Xr,Xt,Zaa,Zae,Zab,Zaf,Zac,Xm,Xn,ZU,ZX,ZV,Z1,Z6,Z4,Z9,Z7,ZZ,Z8,Xy,XA,Xp,Xs,Xo]
 rw [Z0 _ _ _ _ _ _ _ (by rfl)]
 try simp -implicitDefEqProofs only [EQA,Zn,Zi,Zm,Zk,Zj,Zl,Zz,ZG,ZC,Zy,ZE,ZF,ZA,ZB,ZD,implies_true,forall_const,Xh,Xi,Xl,Xe,Xf,Xj,Xk,Zv,Zx,unA,Zt,Zu,unG,reduceCtorEq,Zr,decide_eq_true_eq,Xd,Xb,ite_self,↓reduceIte,Zs,Zw,gcT,gcA,Zq,Zd,Zc,Ze,Zh,Zb,Zg,Zf,Zo,Xc,ZbZ,ZbQ,Zb1,Zb5,ZbH,Zb2,ZbP,Zb0,ZbJ,Zb9,Zbz,Zcd,e3,Zal,Zak,AVal.cells,Zag,Z0,Zah,Z3,XF,XH,Xp,Xs,Xr,Xt,Zaa,Zae,Zab,Zaf,Zac,Xm,Xn,ZU,ZX,ZV,Z1,Z6,Z4,Z9,Z7,ZZ,Z8,Xy,XA,Xp,Xs,Xo]
 exact hn
theorem ZAp {M:List Sh} {R:List Mb} (hi:Inv M R) {S:List ZbE} {i:Nat} {x:ZbE} (hx:S[i]?=some x) (hl:R.length<=i) (h120:i < 120) (hok:ZdC x)
  (hwi:∀ (σ:Za) (sq own:Nat),ZQ EP BY σ sq 6 own true [.int .i64 x.act,.int .i64 0,.int .i64 5]=some (.int .i64 2,σ,{})) (hT:ZaZ x.client [] R≠[]) {M':List Sh} (hC:LB 12 [.str x.client] M (.lst false ((ZaZ x.client [] R).map AVal.str)) M')
  (hn:K6 (l6T (i+1) (S.map ZaB)) (HL M' (Zb6 R x.client (ZaZ x.client [] R)))=some (.bool true,[])):K6 (l6T i (S.map ZaB)) (HL M R)=some (.bool true,[]):=by
 have h1:(i:Int) < S.length:=by have:=(Xu.1 hx).1;omega
 have h2:(i:Int) < 120:=by omega
 have e1:=iad hx ZaB (k:=6) rfl
 have e3:=Zbh (i:=i) (n:=120) (by omega) (by omega)
 have hm:(S.map ZaB).length=S.length:=by simp
 have n0:((2:Int) == 0)=false:=by decide
 have n1:((2:Int) == 1)=false:=by decide
 obtain ⟨fb,hq⟩:=ZtH R (by omega) x.client (fun s r h=>Zrb h)
 rw [if_neg hT] at hq
 have ha:ZaG true 2 (E 13 [.ref 0 0,.str x.client] (rk R))=some (.lst false ((ZaZ x.client [] R).map AVal.str),[.var [.sl 2 0 0 (Zb6 R x.client (ZaZ x.client [] R)).length],.row 0 2 (R.map mbV),.row 0 2 ((Zb6 R x.client (ZaZ x.client [] R)).map mbV)]):=by
  rw [hq]
  unfold r1
  generalize (Zb6 R x.client (ZaZ x.client [] R)).map mbV=Z2
  generalize R.map mbV=Z
  generalize (ZaZ x.client [] R).map AVal.str=L2
  rfl
 have hR:=fun (σ:Za) (h0:σ[0]?=some (.var [.sl 1 0 0 R.length])) (h1:σ[1]?=some (.row 0 2 (R.map mbV))) (sq:Nat) (hf:ZaN σ sq 1=true)=>ZgJ (Ztp (a:=0) (b:=1) (rest:=[.str x.client]) (rest':=[.str x.client]) ha (by kernel_rfl) rfl rfl (fun _=>rfl) h0 h1 hf)
 have hTl:(ZaZ x.client [] R).length<=9223372036854775807:=by
  refine Xao (Zqu _ _ _) ?_
  simp;omega
 have hS:=fun a b σ sq own=>Zhj (ZaZ x.client [] R) a b hTl σ sq own
 clear hq ha
 unfold LB at hC
 unfold K6 l6T HL at *
 generalize (Zb6 R x.client (ZaZ x.client [] R)).map mbV=Z2 at *
 generalize R.map mbV=Z at *
 generalize (ZaZ x.client [] R).map AVal.str=L2 at *
 generalize S.map ZaB=L at *
 unfold ZaB at e1
 generalize x.first.map AVal.str=LF at *
 generalize x.but.map AVal.str=LB at *
 rw [ZY]
 simp -implicitDefEqProofs only [EQA,Zn,Zi,Zm,Zk,Zj,Zl,Zz,ZG,ZC,Zy,ZE,ZF,ZA,ZB,ZD,implies_true,forall_const,Xh,Xi,Xl,Xe,Xf,Xj,Xk,Zv,Zx,unA,Zt,Zu,unG,reduceCtorEq,Zr,decide_eq_true_eq,Xd,Xb,ite_self,↓reduceIte,Zs,Zw,gcT,gcA,Zq,Zd,Zc,Ze,Zh,Zb,Zg,Zf,Zo,Xc,ZbZ,ZbQ,Zb1,Zb5,ZbH,Zb2,ZbP,Zb0,ZbJ,Zb9,Zbz,Zp,ZI,ZK,ZJ,ZH,ZL,Zcd,h1,h2,e1,e3,hm,hwi,hC,hR,hS,ZaN,n0,n1,AVal.cells,ZcT,Zar,Zag,Z0,Zah,Z3,XF,XH,Xp,Xs,Xr,Xt,Zaa,Zae,Zab,Zaf,Zac,Xm,Xn,ZU,ZX,ZV,Z1,Z6,Z4,Z9,Z7,ZZ,Z8,Xy,XA,Xp,Xs,Xo]
 rw [Z0 _ _ _ _ _ _ _ (by rfl)]
 try simp -implicitDefEqProofs only [EQA,Zn,Zi,Zm,Zk,Zj,Zl,Zz,ZG,ZC,Zy,ZE,ZF,ZA,ZB,ZD,implies_true,forall_const,Xh,Xi,Xl,Xe,Xf,Xj,Xk,Zv,Zx,unA,Zt,Zu,unG,reduceCtorEq,Zr,decide_eq_true_eq,Xd,Xb,ite_self,↓reduceIte,Zs,Zw,gcT,gcA,Zq,Zd,Zc,Ze,Zh,Zb,Zg,Zf,Zo,Xc,ZbZ,ZbQ,Zb1,Zb5,ZbH,Zb2,ZbP,Zb0,ZbJ,Zb9,Zbz,Zcd,e3,Zal,Zak,AVal.cells,Zag,Z0,Zah,Z3,XF,XH,Xp,Xs,Xr,Xt,Zaa,Zae,Zab,Zaf,Zac,Xm,Xn,ZU,ZX,ZV,Z1,Z6,Z4,Z9,Z7,ZZ,Z8,Xy,XA,Xp,Xs,Xo]
 exact hn
theorem ZBk {M:List Sh} {R:List Mb} (hi:Inv M R) {S:List ZbE} {i:Nat} {x:ZbE} (hx:S[i]?=some x) (hl:R.length<=i) (h120:i < 120) (hok:ZdC x)
  (hwi:∀ (σ:Za) (sq own:Nat),ZQ EP BY σ sq 6 own true [.int .i64 x.act,.int .i64 0,.int .i64 5]=some (.int .i64 1,σ,{})) (hc:R.contains (x.share,x.client)=false) {M':List Sh} (hC:LB 9 [.str x.share,.str x.client] M (.bool false) M')
  (hn:K6 (l6T (i+1) (S.map ZaB)) (HL M' R)=some (.bool true,[])):K6 (l6T i (S.map ZaB)) (HL M R)=some (.bool true,[]):=by
 have h1:(i:Int) < S.length:=by have:=(Xu.1 hx).1;omega
 have h2:(i:Int) < 120:=by omega
 have e1:=iad hx ZaB (k:=6) rfl
 have e3:=Zbh (i:=i) (n:=120) (by omega) (by omega)
 have hm:(S.map ZaB).length=S.length:=by simp
 have n0:((1:Int) == 0)=false:=by decide
 have hR:=Zln (Zq7 (R:=R) (by omega) hc)
 unfold LB at hC
 unfold LRe at hR
 unfold K6 l6T HL at *
 generalize R.map mbV=Z at *
 generalize S.map ZaB=L at *
 unfold ZaB at e1
 generalize x.first.map AVal.str=LF at *
 generalize x.but.map AVal.str=LB at *
 rw [ZY]
 simp -implicitDefEqProofs only [EQA,Zn,Zi,Zm,Zk,Zj,Zl,Zz,ZG,ZC,Zy,ZE,ZF,ZA,ZB,ZD,implies_true,forall_const,Xh,Xi,Xl,Xe,Xf,Xj,Xk,Zv,Zx,unA,Zt,Zu,unG,reduceCtorEq,Zr,decide_eq_true_eq,Xd,Xb,ite_self,↓reduceIte,Zs,Zw,gcT,gcA,Zq,Zd,Zc,Ze,Zh,Zb,Zg,Zf,Zo,Xc,ZbZ,ZbQ,Zb1,Zb5,ZbH,Zb2,ZbP,Zb0,ZbJ,Zb9,Zbz,Zp,ZI,ZK,ZJ,ZH,ZL,Zcd,h1,h2,e1,e3,hm,hwi,hC,hR,n0,AVal.cells,ZcT,Zar,Zag,Z0,Zah,Z3,XF,XH,Xp,Xs,Xr,Xt,Zaa,Zae,Zab,Zaf,Zac,Xm,Xn,ZU,ZX,ZV,Z1,Z6,Z4,Z9,Z7,ZZ,Z8,Xy,XA,Xp,Xs,Xo]
 rw [Z0 _ _ _ _ _ _ _ (by rfl)]
 try simp -implicitDefEqProofs only [EQA,Zn,Zi,Zm,Zk,Zj,Zl,Zz,ZG,ZC,Zy,ZE,ZF,ZA,ZB,ZD,implies_true,forall_const,Xh,Xi,Xl,Xe,Xf,Xj,Xk,Zv,Zx,unA,Zt,Zu,unG,reduceCtorEq,Zr,decide_eq_true_eq,Xd,Xb,ite_self,↓reduceIte,Zs,Zw,gcT,gcA,Zq,Zd,Zc,Ze,Zh,Zb,Zg,Zf,Zo,Xc,ZbZ,ZbQ,Zb1,Zb5,ZbH,Zb2,ZbP,Zb0,ZbJ,Zb9,Zbz,Zcd,e3,Zal,Zak,AVal.cells,Zag,Z0,Zah,Z3,XF,XH,Xp,Xs,Xr,Xt,Zaa,Zae,Zab,Zaf,Zac,Xm,Xn,ZU,ZX,ZV,Z1,Z6,Z4,Z9,Z7,ZZ,Z8,Xy,XA,Xp,Xs,Xo]
 exact hn
theorem ZwQ {M:List Sh} {R:List Mb} (hi:Inv M R) {S:List ZbE} {i:Nat} {x:ZbE} (hx:S[i]?=some x) (hl:R.length<=i) (h120:i < 120) (hok:ZdC x)
  (hwi:∀ (σ:Za) (sq own:Nat),ZQ EP BY σ sq 6 own true [.int .i64 x.act,.int .i64 0,.int .i64 5]=some (.int .i64 1,σ,{})) (hc:R.contains (x.share,x.client)=true) {M':List Sh} (hC:LB 9 [.str x.share,.str x.client] M (.bool true) M')
  (hn:K6 (l6T (i+1) (S.map ZaB)) (HL M' (R.erase (x.share,x.client)))=some (.bool true,[])):K6 (l6T i (S.map ZaB)) (HL M R)=some (.bool true,[]):=by
 have h1:(i:Int) < S.length:=by have:=(Xu.1 hx).1;omega
 have h2:(i:Int) < 120:=by omega
 have e1:=iad hx ZaB (k:=6) rfl
 have e3:=Zbh (i:=i) (n:=120) (by omega) (by omega)
 have hm:(S.map ZaB).length=S.length:=by simp
 have n0:((1:Int) == 0)=false:=by decide
 have hR:=fun (σ:Za) (h0:σ[0]?=some (.var [.sl 1 0 0 R.length])) (h1:σ[1]?=some (.row 0 2 (R.map mbV))) (sq:Nat) (hf:ZaN σ sq 1=true)=>ZgJ (Zqi (R:=R) (by omega) hc h0 h1 hf)
 unfold LB at hC
 unfold K6 l6T HL at *
 generalize (R.erase (x.share,x.client)).map mbV=Z2 at *
 generalize R.map mbV=Z at *
 generalize S.map ZaB=L at *
 unfold ZaB at e1
 generalize x.first.map AVal.str=LF at *
 generalize x.but.map AVal.str=LB at *
 rw [ZY]
 simp -implicitDefEqProofs only [EQA,Zn,Zi,Zm,Zk,Zj,Zl,Zz,ZG,ZC,Zy,ZE,ZF,ZA,ZB,ZD,implies_true,forall_const,Xh,Xi,Xl,Xe,Xf,Xj,Xk,Zv,Zx,unA,Zt,Zu,unG,reduceCtorEq,Zr,decide_eq_true_eq,Xd,Xb,ite_self,↓reduceIte,Zs,Zw,gcT,gcA,Zq,Zd,Zc,Ze,Zh,Zb,Zg,Zf,Zo,Xc,ZbZ,ZbQ,Zb1,Zb5,ZbH,Zb2,ZbP,Zb0,ZbJ,Zb9,Zbz,Zp,ZI,ZK,ZJ,ZH,ZL,Zcd,h1,h2,e1,e3,hm,hwi,hC,hR,ZaN,n0,AVal.cells,ZcT,Zar,Zag,Z0,Zah,Z3,XF,XH,Xp,Xs,Xr,Xt,Zaa,Zae,Zab,Zaf,Zac,Xm,Xn,ZU,ZX,ZV,Z1,Z6,Z4,Z9,Z7,ZZ,Z8,Xy,XA,Xp,Xs,Xo]
 rw [Z0 _ _ _ _ _ _ _ (by rfl)]
 try simp -implicitDefEqProofs only [EQA,Zn,Zi,Zm,Zk,Zj,Zl,Zz,ZG,ZC,Zy,ZE,ZF,ZA,ZB,ZD,implies_true,forall_const,Xh,Xi,Xl,Xe,Xf,Xj,Xk,Zv,Zx,unA,Zt,Zu,unG,reduceCtorEq,Zr,decide_eq_true_eq,Xd,Xb,ite_self,↓reduceIte,Zs,Zw,gcT,gcA,Zq,Zd,Zc,Ze,Zh,Zb,Zg,Zf,Zo,Xc,ZbZ,ZbQ,Zb1,Zb5,ZbH,Zb2,ZbP,Zb0,ZbJ,Zb9,Zbz,Zcd,e3,Zal,Zak,AVal.cells,Zag,Z0,Zah,Z3,XF,XH,Xp,Xs,Xr,Xt,Zaa,Zae,Zab,Zaf,Zac,Xm,Xn,ZU,ZX,ZV,Z1,Z6,Z4,Z9,Z7,ZZ,Z8,Xy,XA,Xp,Xs,Xo]
 exact hn
theorem ZtQ {M:List Sh} {R:List Mb} (hi:Inv M R) {S:List ZbE} {i:Nat} {x:ZbE} (hx:S[i]?=some x) (hl:R.length<=i) (h120:i < 120) (hok:ZdC x)
  (hwi:∀ (σ:Za) (sq own:Nat),ZQ EP BY σ sq 6 own true [.int .i64 x.act,.int .i64 0,.int .i64 5]=some (.int .i64 0,σ,{})) (hR0:LRe 8 [.str x.share,.str x.client] R (.tup [])) {M':List Sh} (hC:LB 7 [.str x.share,.str x.client] M (.tup []) M')
  (hn:K6 (l6T (i+1) (S.map ZaB)) (HL M' R)=some (.bool true,[])):K6 (l6T i (S.map ZaB)) (HL M R)=some (.bool true,[]):=by
 have h1:(i:Int) < S.length:=by have:=(Xu.1 hx).1;omega
 have h2:(i:Int) < 120:=by omega
 have e1:=iad hx ZaB (k:=6) rfl
 have e3:=Zbh (i:=i) (n:=120) (by omega) (by omega)
 have hm:(S.map ZaB).length=S.length:=by simp
 have hR:=hR0
 unfold LB at hC
 unfold LRe at hR
 unfold K6 l6T HL at *
 generalize R.map mbV=Z at *
 generalize S.map ZaB=L at *
 unfold ZaB at e1
 generalize x.first.map AVal.str=LF at *
 generalize x.but.map AVal.str=LB at *
 rw [ZY]
 simp -implicitDefEqProofs only [EQA,Zn,Zi,Zm,Zk,Zj,Zl,Zz,ZG,ZC,Zy,ZE,ZF,ZA,ZB,ZD,implies_true,forall_const,Xh,Xi,Xl,Xe,Xf,Xj,Xk,Zv,Zx,unA,Zt,Zu,unG,reduceCtorEq,Zr,decide_eq_true_eq,Xd,Xb,ite_self,↓reduceIte,Zs,Zw,gcT,gcA,Zq,Zd,Zc,Ze,Zh,Zb,Zg,Zf,Zo,Xc,ZbZ,ZbQ,Zb1,Zb5,ZbH,Zb2,ZbP,Zb0,ZbJ,Zb9,Zbz,Zp,ZI,ZK,ZJ,ZH,ZL,Zcd,h1,h2,e1,e3,hm,hwi,hC,hR,AVal.cells,ZcT,Zar,Zag,Z0,Zah,Z3,XF,XH,Xp,Xs,Xr,Xt,Zaa,Zae,Zab,Zaf,Zac,Xm,Xn,ZU,ZX,ZV,Z1,Z6,Z4,Z9,Z7,ZZ,Z8,Xy,XA,Xp,Xs,Xo]
 try simp -implicitDefEqProofs only [EQA,Zn,Zi,Zm,Zk,Zj,Zl,Zz,ZG,ZC,Zy,ZE,ZF,ZA,ZB,ZD,implies_true,forall_const,Xh,Xi,Xl,Xe,Xf,Xj,Xk,Zv,Zx,unA,Zt,Zu,unG,reduceCtorEq,Zr,decide_eq_true_eq,Xd,Xb,ite_self,↓reduceIte,Zs,Zw,gcT,gcA,Zq,Zd,Zc,Ze,Zh,Zb,Zg,Zf,Zo,Xc,ZbZ,ZbQ,Zb1,Zb5,ZbH,Zb2,ZbP,Zb0,ZbJ,Zb9,Zbz,Zcd,e3,Zal,Zak,AVal.cells,Zag,Z0,Zah,Z3,XF,XH,Xp,Xs,Xr,Xt,Zaa,Zae,Zab,Zaf,Zac,Xm,Xn,ZU,ZX,ZV,Z1,Z6,Z4,Z9,Z7,ZZ,Z8,Xy,XA,Xp,Xs,Xo]
 exact hn
theorem ZAb {M:List Sh} {R:List Mb} (hi:Inv M R) {S:List ZbE} {i:Nat} {x:ZbE} (hx:S[i]?=some x) (hl:R.length<=i) (h120:i < 120) (hok:ZdC x)
  (hwi:∀ (σ:Za) (sq own:Nat),ZQ EP BY σ sq 6 own true [.int .i64 x.act,.int .i64 0,.int .i64 5]=some (.int .i64 0,σ,{})) (ho:ZaD x.share=true) (hc:R.contains (x.share,x.client)=false) {M':List Sh} (hC:LB 7 [.str x.share,.str x.client] M (.tup []) M')
  (hn:K6 (l6T (i+1) (S.map ZaB)) (HL M' (R++[(x.share,x.client)]))=some (.bool true,[])):K6 (l6T i (S.map ZaB)) (HL M R)=some (.bool true,[]):=by
 have h1:(i:Int) < S.length:=by have:=(Xu.1 hx).1;omega
 have h2:(i:Int) < 120:=by omega
 have e1:=iad hx ZaB (k:=6) rfl
 have e3:=Zbh (i:=i) (n:=120) (by omega) (by omega)
 have hm:(S.map ZaB).length=S.length:=by simp
 have hs:=Zr7 x.share
 rw [ho] at hs
 have hq:=ZIJ (R:=R) (s:=x.share) (c:=x.client) (by omega) hs hc
 have hlen:(R++[(x.share,x.client)]).length=R.length+1:=by simp
 have ha:ZaG true 2 (E 8 [.ref 0 0,.str x.share,.str x.client] (rk R))=some (.tup [],[.var [.sl 1 1 0 (R.length+1)],.row 1 2 ((R++[(x.share,x.client)]).map mbV)]):=by
  rw [hq]
  generalize (R++[(x.share,x.client)]).map mbV=Z2
  rfl
 have hR:=fun (σ:Za) (h0:σ[0]?=some (.var [.sl 1 0 0 R.length])) (h1:σ[1]?=some (.row 0 2 (R.map mbV))) (sq:Nat) (hf:ZaN σ sq 1=true)=>ZgJ (ZFb (a:=0) (b:=1) (rest:=[.str x.share,.str x.client]) (rest':=[.str x.share,.str x.client]) ha (by kernel_rfl) rfl rfl (fun _=>rfl) h0 h1 hf)
 clear hq ha
 unfold LB at hC
 unfold K6 l6T HL at *
 rw [hlen] at hn
 generalize (R++[(x.share,x.client)]).map mbV=Z2 at *
 generalize R.map mbV=Z at *
 generalize S.map ZaB=L at *
 unfold ZaB at e1
 generalize x.first.map AVal.str=LF at *
 generalize x.but.map AVal.str=LB at *
 rw [ZY]
 simp -implicitDefEqProofs only [EQA,Zn,Zi,Zm,Zk,Zj,Zl,Zz,ZG,ZC,Zy,ZE,ZF,ZA,ZB,ZD,implies_true,forall_const,Xh,Xi,Xl,Xe,Xf,Xj,Xk,Zv,Zx,unA,Zt,Zu,unG,reduceCtorEq,Zr,decide_eq_true_eq,Xd,Xb,ite_self,↓reduceIte,Zs,Zw,gcT,gcA,Zq,Zd,Zc,Ze,Zh,Zb,Zg,Zf,Zo,Xc,ZbZ,ZbQ,Zb1,Zb5,ZbH,Zb2,ZbP,Zb0,ZbJ,Zb9,Zbz,Zp,ZI,ZK,ZJ,ZH,ZL,Zcd,h1,h2,e1,e3,hm,hwi,hC,hR,ZaN,AVal.cells,ZcT,Zar,Zag,Z0,Zah,Z3,XF,XH,Xp,Xs,Xr,Xt,Zaa,Zae,Zab,Zaf,Zac,Xm,Xn,ZU,ZX,ZV,Z1,Z6,Z4,Z9,Z7,ZZ,Z8,Xy,XA,Xp,Xs,Xo]
 try simp -implicitDefEqProofs only [EQA,Zn,Zi,Zm,Zk,Zj,Zl,Zz,ZG,ZC,Zy,ZE,ZF,ZA,ZB,ZD,implies_true,forall_const,Xh,Xi,Xl,Xe,Xf,Xj,Xk,Zv,Zx,unA,Zt,Zu,unG,reduceCtorEq,Zr,decide_eq_true_eq,Xd,Xb,ite_self,↓reduceIte,Zs,Zw,gcT,gcA,Zq,Zd,Zc,Ze,Zh,Zb,Zg,Zf,Zo,Xc,ZbZ,ZbQ,Zb1,Zb5,ZbH,Zb2,ZbP,Zb0,ZbJ,Zb9,Zbz,Zcd,e3,Zal,Zak,AVal.cells,Zag,Z0,Zah,Z3,XF,XH,Xp,Xs,Xr,Xt,Zaa,Zae,Zab,Zaf,Zac,Xm,Xn,ZU,ZX,ZV,Z1,Z6,Z4,Z9,Z7,ZZ,Z8,Xy,XA,Xp,Xs,Xo]
 exact hn
end
section
theorem Zvu (c:Tx):∀ (T:List Tx) (R:List Mb),∀ q ∈ Zb6 R c T,q ∈ R
 | [],R,q,h=>h
 | s::T,R,q,h=>Xbb (Zvu c T (R.erase (s,c)) q h)
theorem Zuv (S:List ZbE) (hok:∀ x ∈ S,ZdC x):∀ (r:List ZbE) (i:Nat) (M:List Sh) (R:List Mb),S.drop i=r->Inv M R->R.length<=i->i<=120->BdR R->K6 (l6T i (S.map ZaB)) (HL M R)=some (.bool true,[])
 | [],i,M,R,h,hi,hl,h120,hbd=>ZuO hi (by omega) S i (XK (List.drop_eq_nil_iff.1 h))
 | x::r,i,M,R,h,hi,hl,h120,hbd=>by
  obtain ⟨g1,d1,l1⟩:=ZaC h
  by_cases hlt:i < 120
  ·have hx:=hok x (List.mem_of_getElem? g1)
   obtain ⟨k,hk,hwi⟩:=Zym x.act
   have next:∀ (M':List Sh) (R':List Mb),Inv M' R'->R'.length<=i+1->BdR R'->K6 (l6T (i+1) (S.map ZaB)) (HL M' R')=some (.bool true,[]):=fun M' R' hi' hl' hb'=>Zuv S hok r (i+1) M' R' d1 hi' hl' (by omega) hb'
   have hk6:k=0\/k=1\/k=2\/k=3\/k=4\/k=5:=by omega
   rcases hk6 with rfl | rfl | rfl | rfl | rfl | rfl
   ·have hs:=Zuo x.share hx.share
    obtain ⟨M',i1,hC⟩:=ZoY (c:=x.client) hi hs (by omega)
    have hC:=ZgP hC
    have hr:=Zr7 x.share
    cases ho:ZaD x.share with
    | false =>
     rw [ho] at i1 hr
     have hj:Zdf false R x.share x.client=R:=rfl
     rw [hj] at i1
     have hR:=Zln (Zgl (f:=8) (rest:=[.str x.share,.str x.client]) (rest':=[.str x.share,.str x.client]) (R:=R) (r:=.tup []) (by rw [Zyv (by omega) hr];exact Zmp rfl rfl (fun _=>rfl) (by simp)) (by kernel_rfl) rfl rfl (fun _=>rfl))
     exact ZtQ hi g1 hl hlt hx hwi hR hC (next M' R i1 (by omega) hbd)
    | true =>
     rw [ho] at i1 hr
     cases hc:R.contains (x.share,x.client) with
     | true =>
      have hj:Zdf true R x.share x.client=R:=by unfold Zdf;rw [hc];rfl
      rw [hj] at i1
      have hR:=Zln (Zgl (f:=8) (rest:=[.str x.share,.str x.client]) (rest':=[.str x.share,.str x.client]) (R:=R) (r:=.tup []) (by rw [ZBK (by omega) hr hc];exact Zmp rfl rfl (fun _=>rfl) (by simp)) (by kernel_rfl) rfl rfl (fun _=>rfl))
      exact ZtQ hi g1 hl hlt hx hwi hR hC (next M' R i1 (by omega) hbd)
     | false =>
      have hj:Zdf true R x.share x.client=R++[(x.share,x.client)]:=by unfold Zdf;rw [hc];rfl
      rw [hj] at i1
      refine ZAb hi g1 hl hlt hx hwi ho hc hC (next M' _ i1 (by simp;omega) fun q hq=>?_)
      rcases List.mem_append.1 hq with hq | hq
      ·exact hbd q hq
      ·rw [Wa] at hq;subst hq
       have:=ZJa ho
       show x.share.length*16<=_
       omega
   ·obtain ⟨M',i1,hC⟩:=Zut (s:=x.share) (c:=x.client) hi (by omega)
    have hC:=ZgP hC
    cases hc:R.contains (x.share,x.client) with
    | false =>
     rw [hc] at hC
     rw [List.erase_of_not_mem (Zeq.1 hc)] at i1
     exact ZBk hi g1 hl hlt hx hwi hc hC (next M' R i1 (by omega) hbd)
    | true =>
     rw [hc] at hC
     exact ZwQ hi g1 hl hlt hx hwi hc hC (next M' _ i1 (by have:=List.length_erase_le (a:=(x.share,x.client)) (l:=R);omega) fun q hq=>hbd q (Xbb hq))
   ·have hml:=hi.len
    obtain ⟨M',i1,hC⟩:=ZFY hi (by omega) (by omega) x.client
    have hC:=ZgP hC
    rw [ZAL hi] at hC i1
    by_cases hT:ZaZ x.client [] R=[]
    ·have hg:Zb6 R x.client (ZaZ x.client [] R)=R:=by rw [hT];rfl
     rw [hg] at i1
     exact ZFQ hi g1 hl hlt hx hwi hT hC (next M' R i1 (by omega) hbd)
    ·exact ZAp hi g1 hl hlt hx hwi hT hC (next M' _ i1 (by have:=Ztt x.client (ZaZ x.client [] R) R;omega) fun q hq=>hbd q (Zvu _ _ _ q hq))
   ·exact ZLn hi g1 hl hlt hx hwi (next M R hi (by omega) hbd)
   ·exact ZBB hi g1 hl hlt hx hwi hbd (next M R hi (by omega) hbd)
   ·exact ZGP hi g1 hl hlt hx hwi (next M R hi (by omega) hbd)
  ·exact ZuO hi (by omega) S i (XO (by omega))
def shW:Tx:=[36,115,104,97,114,101,47,103,47,97]
theorem ZxD:EP 4 [] []=some (.ref 0 0,bk []):=by
 have h:E 4 [] []=some (.ref 0 0,bk []):=Zcp.2 ⟨20,by kernel_rfl⟩
 exact Ztn _ _ _ _ h
abbrev tx:Tx:=[120]
abbrev ty:Tx:=[121]
abbrev RW:List Mb:=[(shW,tx),(shW,ty)]
theorem ZwR:ZaD shW=true:=by kernel_rfl
theorem ZIb:chA (chL [] [] (ZW RW shW)) 3=.tup [.str ty,.bool true]:=by kernel_rfl
theorem ZHz:chA (chL [ty] [] (ZW RW shW)) 0=.tup [.str ty,.bool true]:=by kernel_rfl
theorem Zxk:(Zbs [] RW).filter (mtT [97])=[shW]:=by kernel_rfl
theorem Zz8:Zdf true [] shW tx=[(shW,tx)]:=by kernel_rfl
theorem ZBv:Zdf true [(shW,tx)] shW ty=RW:=by kernel_rfl
theorem Ztd:ZQ EP BY [.free,.free] 0 4 2 false []=some (.ref 0 0,[.var [.map 1],.gmap 1 []],{ any:=true }):=by
 have h:=ZxD
 unfold ZQ ZcK
 rw [show BY 4=false by kernel_rfl]
 simp only [Xq,if_false,showAs]
 show Zb8 EP [.free,.free] (ZS [.free,.free] []) (Zd (ZS [.free,.free] []) 1000 (ZP []) []) 0 4 2 false [] []=_
 rw [show ZS [.free,.free] []=([.free,.free]:Za) from rfl,show Zd ([.free,.free]:Za) 1000 (ZP []) []=[] from rfl]
 unfold Zb8
 rw [if_pos (by rfl),show ZR (Zc ([.free,.free]:Za) 0 []) []=[] from rfl,show Ze ([.free,.free]:Za) 0 [] (Zc ([.free,.free]:Za) 0 []) [] 0=[] from rfl,h]
 rfl
theorem ZKB:EP 5 [] []=some (.bool true,[]):=by
 have hs:=Zuo shW (by decide)
 rw [ZwR] at hs
 obtain ⟨M1,i1,hJ1⟩:=ZoY (c:=tx) Inv.nil hs (by decide)
 rw [Zz8] at i1
 obtain ⟨M2,i2,hJ2⟩:=ZoY (c:=ty) i1 hs (by decide)
 rw [ZBv] at i2
 have hC1:=fun b1 b2=>ZpJ i2 shW 3 [] [] b1 b2 (by decide) (by decide) (by decide)
 rw [ZIb] at hC1
 have hC2:=fun b1 b2=>ZpJ i2 shW 0 [ty] [] b1 b2 (by decide) (by decide) (by decide)
 rw [ZHz] at hC2
 have hml:=i2.len
 have hMt:=Zrh i2 (by decide) (by simp at hml;omega) [97] (fun s hs=>by
  obtain ⟨q,hq,rfl⟩:=(i2.shares s).1 hs
  rcases XV.1 hq with rfl | hq
  ·decide
  ·rw [Wa] at hq;subst hq;decide)
 rw [ZsG i2,Zxk] at hMt
 have hS:=fun a b σ sq own=>Zhj [shW] a b (by decide) σ sq own
 have hN:=Ztd
 have j1:=fun (σ:Za) (ha:σ[0]?=some (.var [.map 1])) (hg:σ[1]?=some (.gmap 1 (GM []))) sq own hff=>hJ1 σ 0 1 ha hg sq own hff
 have j2:=fun (σ:Za) (ha:σ[0]?=some (.var [.map 1])) (hg:σ[1]?=some (.gmap 1 (GM M1))) sq own hff=>hJ2 σ 0 1 ha hg sq own hff
 have ch1:=fun b1 b2 (σ:Za) (ha:σ[0]?=some (.var [.map 1])) (hg:σ[1]?=some (.gmap 1 (GM M2))) sq=>hC1 b1 b2 σ 0 1 ha hg sq 0 rfl
 have ch2:=fun b1 b2 (σ:Za) (ha:σ[0]?=some (.var [.map 1])) (hg:σ[1]?=some (.gmap 1 (GM M2))) sq=>hC2 b1 b2 σ 0 1 ha hg sq 0 rfl
 have mt:=fun (σ:Za) (ha:σ[0]?=some (.var [.map 1])) (hg:σ[1]?=some (.gmap 1 (GM M2))) sq=>hMt σ 0 1 ha hg sq 0 rfl
 rw [show GM []=[] from rfl] at j1
 simp only [List.map_cons,Wr] at ch1 ch2 mt hS
 unfold shW tx ty at *
 rw [ZjD (by rfl) ZEO]
 have hv:∀ (σ:Za) (s:Tx),viewAs σ [.str s]=some ([.str s],[]):=fun _ _=>rfl
 simp -implicitDefEqProofs only [EQA,Zn,Zi,Zm,Zk,Zj,Zl,Zz,ZG,ZC,Zy,ZE,ZF,ZA,ZB,ZD,implies_true,forall_const,Xh,Xi,Xl,Xe,Xf,Xj,Xk,Zv,Zx,unA,Zt,Zu,unG,reduceCtorEq,Zr,decide_eq_true_eq,Xd,Xb,ite_self,↓reduceIte,Zs,Zw,gcT,gcA,Zq,Zd,Zc,Ze,Zh,Zb,Zg,Zf,Zo,Xc,ZHY,Zqs,ZKb,Zp,ZI,ZK,ZJ,ZH,ZL,hN,j1,j2,ch1,ch2,mt,hS,hv,ZaN,AVal.cells,ZS,XQ,XR,X9,List.set_cons_zero,Zag,Z0,Zah,Z3,XF,XH,Xp,Xs,Xr,Xt,Zaa,Zae,Zab,Zaf,Zac,Xm,Xn,ZU,ZX,ZV,Z1,Z6,Z4,Z9,Z7,ZZ,Z8,Xy,XA,Xp,Xs,Xo]
 try (simp -implicitDefEqProofs only [EQA,Zan,gcA,Zq,ZP,Xw,Xv,Xc,XP,XJ,XD,XM,Xm,Xn,Zal,Zak,Zay,Zaz,Zax,XT,XU,id_eq,ZR,Zd,Zo,ZT,Ze,Zf,ZN,Xo,Zc,Zh,Zb,Zg,Zn,Zi,Zm,Zk,Zj,Zl,Zz,ZG,ZC,Zy,ZE,ZF,ZA,ZB,ZD,implies_true,forall_const,Xh,Xi,Xl,Xe,Xf,Xj,Xk,Zv,Zx,unA,Zt,Zu,unG,reduceCtorEq,Zr,decide_eq_true_eq,Xd,Xb,ite_self,↓reduceIte,Zs,Zw,gcT,gcA,Zq,Zd,Zc,Ze,Zh,Zb,Zg,Zf,Zo,Xc,or_false])
theorem ZKg (σ:Za) (sq own:Nat):ZQ EP BY σ sq 5 own true []=some (.bool true,σ,{}) :=
 ZfF ZKB (by kernel_rfl) rfl rfl rfl (fun _=>rfl) σ sq own
theorem ZyI (S:List ZbE) (hok:∀ x ∈ S,ZdC x):EP 3 [.lst false (S.map ZaB)] []=some (.bool true,[]):=by
 have h:=Zuv S hok S 0 [] [] rfl Inv.nil (Nat.le_refl _) (by decide) (fun q hq=>by simp at hq)
 have z0:((0:Nat):Int)=0:=rfl
 have hW:=ZKg
 have hN:=Ztd
 have hG:GM []=[]:=rfl
 unfold K6 l6T HL at h
 rw [z0,hG] at h
 simp only [Wr,Xt] at h
 generalize S.map ZaB=L at *
 rw [ZjD (by rfl) ZFu]
 simp -implicitDefEqProofs only [EQA,Zn,Zi,Zm,Zk,Zj,Zl,Zz,ZG,ZC,Zy,ZE,ZF,ZA,ZB,ZD,implies_true,forall_const,Xh,Xi,Xl,Xe,Xf,Xj,Xk,Zv,Zx,unA,Zt,Zu,unG,reduceCtorEq,Zr,decide_eq_true_eq,Xd,Xb,ite_self,↓reduceIte,Zs,Zw,gcT,gcA,Zq,Zd,Zc,Ze,Zh,Zb,Zg,Zf,Zo,Xc,ZbZ,ZbQ,Zb1,Zb5,ZbH,Zb2,ZbP,Zb0,ZbJ,Zb9,Zbz,Zp,ZI,ZK,ZJ,ZH,ZL,hN,hW,AVal.cells,ZcT,Zar,Zag,Z0,Zah,Z3,XF,XH,Xp,Xs,Xr,Xt,Zaa,Zae,Zab,Zaf,Zac,Xm,Xn,ZU,ZX,ZV,Z1,Z6,Z4,Z9,Z7,ZZ,Z8,Xy,XA,Xp,Xs,Xo]
 try simp -implicitDefEqProofs only [EQA,Wr,Zn,Zi,Zm,Zk,Zj,Zl,Zz,ZG,ZC,Zy,ZE,ZF,ZA,ZB,ZD,implies_true,forall_const,Xh,Xi,Xl,Xe,Xf,Xj,Xk,Zv,Zx,unA,Zt,Zu,unG,reduceCtorEq,Zr,decide_eq_true_eq,Xd,Xb,ite_self,↓reduceIte,Zs,Zw,gcT,gcA,Zq,Zd,Zc,Ze,Zh,Zb,Zg,Zf,Zo,Xc]
 exact h
end
section
open Go.RowKit Go.Shelf Go.Lib
theorem ZF4 {W:World} (h:Lib.Utf8Tabs 1 2 W):Gl.le (Imm.of W):=by
 intro b o u hu
 unfold Gl at hu
 unfold Imm.of
 split at hu
 ·rename_i e;subst e
  split at hu
  ·rename_i ho
   rw [h.1 o ho,<-hu]
  ·cases hu
 ·split at hu
  ·rename_i e;subst e
   split at hu
   ·rename_i ho
    rw [<-hu]
    obtain ⟨h1,h2⟩:=h.2 (o / 2) (by omega)
    by_cases hp:o % 2=0
    ·rw [if_pos hp,<-h1];congr 2;omega
    ·rw [if_neg hp,<-h2];congr 2;omega
   ·cases hu
  ·cases hu
section
open Go.RowKit
variable {H:Type} {enc:TypeId×Value->H} {P:Program} {w:World} {spare:Nat->Bool} {held:Bool}
end
end
section
open Go.RowKit
def Zov:Ty:=.slice true (.struct [.int .i64,.int .i64,.str,.str,.slice false .str,.slice false .str])
theorem Zs2 {ys:List (List AVal)} (h:∀ y ∈ ys,TyC .str y):∃ l:List (List UInt8),ys.map (Zci false)=l.map AVal.str:=by
 induction ys with
 | nil=>exact ⟨[],rfl⟩
 | cons y ys ih =>
  have hy0:=h y (by simp)
  simp only [TyC] at hy0
  obtain ⟨a,_,ha⟩:=hy0
  obtain ⟨l,hl⟩:=ih fun y' h'=>h y' (by simp [h'])
  exact ⟨a::l,by simp [ha,hl,Zci]⟩
theorem Zx2 {x:AVal} (h:ZuE false Zov x):∃ l:List ZbE,(∀ s ∈ l,ZdC s)/\x=.lst false (l.map ZaB):=by
 obtain ⟨y,h,rfl⟩:=h
 simp only [Zov,TyC] at h
 obtain ⟨ys,rfl,h1,h2⟩:=h
 have : ∀ ys:List (List AVal),(∀ y ∈ ys,ZgY [.int .i64,.int .i64,.str,.str,.slice false .str,.slice false .str] y)->∃ l:List ZbE,(∀ s ∈ l,ZdC s)/\ys.map (Zci true)=l.map ZaB:=by
  intro ys
  induction ys with
  | nil=>intro _;exact ⟨[],by simp,rfl⟩
  | cons y ys ih =>
   intro hy
   have hy0:=hy y (by simp)
   simp only [ZgY] at hy0
   obtain ⟨_,_,rfl,h1,_,_,rfl,h2,_,_,rfl,h3,_,_,rfl,h4,_,_,rfl,h5,_,_,rfl,h6,rfl⟩:=hy0
   simp only [TyC] at h1 h2 h3 h4 h5 h6
   obtain ⟨a,_,rfl⟩:=h1
   obtain ⟨d,_,rfl⟩:=h2
   obtain ⟨s,hs,rfl⟩:=h3
   obtain ⟨c,_,rfl⟩:=h4
   obtain ⟨zf,rfl,f1,f2⟩:=h5
   obtain ⟨zb,rfl,b1,b2⟩:=h6
   obtain ⟨lf,hlf⟩:=Zs2 f2
   obtain ⟨lb,hlb⟩:=Zs2 b2
   have nf:lf.length=zf.length:=by have:=congrArg Xa8 hlf;simpa using this.symm
   have nb:lb.length=zb.length:=by have:=congrArg Xa8 hlb;simpa using this.symm
   obtain ⟨l,hok,hl⟩:=ih fun y' h'=>hy y' (by simp [h'])
   refine ⟨⟨a,d,s,c,lf,lb⟩::l,?_,by simp [hl,Zci,ZaB,hlf,hlb]⟩
   intro z hz
   rcases XV.1 hz with rfl | hz
   ·exact ⟨hs,by show lf.length<=_;omega,by show lb.length<=_;omega⟩
   ·exact hok z hz
 obtain ⟨l,hok,hl⟩:=this ys (fun y hy=>by simpa only [TyC] using h2 y hy)
 exact ⟨l,hok,by simp [Zci,hl]⟩
end
section
open Go.ChangeShapes Go.WideShapes Go.ChangeAt Go.RowKit Go.Deep
theorem ZGZ:ownKnob Tryd.prog.godebug=none:=by kernel_rfl
theorem Zv9:laidOutB Tryd.prog=true:=by kernel_rfl
theorem ZDt {W:World} (hLH:laidMetH Tryd.prog Rows.groupPlaysRow.laid W):Gl.le (Imm.of W):=by
 have hL:laidMet Tryd.prog Rows.groupPlaysRow.laid W:=by rw [<-MakeChecks.laidMetH_plain _ _ _ (by kernel_rfl)];exact hLH
 have e1:Rows.laid_unicode_utf8_first=Lib.firstData:=by kernel_rfl
 have e2:(Rows.laid_unicode_utf8_acceptRanges:DataW Unit)=Lib.acceptData:=by kernel_rfl
 have h1:Lib.VarReads Tryd.prog W "unicode/utf8.first" Lib.firstData:=by rw [<-e1];exact Lib.laidMet.reads hL (.tail _ (.head _))
 have h2:Lib.VarReads Tryd.prog W "unicode/utf8.acceptRanges" Lib.acceptData:=by rw [<-e2];exact Lib.laidMet.reads hL (.head _)
 exact ZF4 (utf8Tabs_of_readsT (U8Types.of196 ZqU) ⟨by kernel_rfl,by kernel_rfl,by kernel_rfl,by kernel_rfl,by kernel_rfl,by kernel_rfl,by kernel_rfl⟩ h1 h2)
set_option maxRecDepth 100000 in
theorem ZGb (H:Type) (enc:TypeId×Value->H) (W:World) (base:Nat) (args:Array Value) (ds gs:List (DataW H)) (before:List MemPlace)
  (hval0:∀ (j:Nat) t v,Tryd.f3.params[j]?=some t->args[j]?=some v->Value.okWide Tryd.prog W .any base t v)
  (hW:DataW.Whole enc Tryd.prog Tryd.f3.params.toList Rows.groupPlaysSpec.vars false W args.toList ds gs before) (hL:laidMetH Tryd.prog Rows.groupPlaysRow.laid W) :
  Calls Tryd.prog 3 args W fun e W'=>∃ v,e=.returned v/\Rows.groupPlaysSpec.post enc Tryd.prog Tryd.f3 false true false false W args v W':=by
 have hW':=hW
 obtain ⟨p,q,hA0,hV,rfl,hfz,hnd⟩:=hW
 have hval:∀ (j:Nat) t v,Tryd.f3.params[j]?=some t->args[j]?=some v->Value.okWide Tryd.prog W .any base t v:=hval0
 have hA:DataW.TrodAll enc Tryd.prog W 0 (fun _=>true) true Tryd.f3.params.toList args.toList ds p:=hA0
 rw [Tryd.params3] at hA hval
 obtain ⟨v0,vs0,d0,ds0,p0,q0,hargs,rfl,rfl,h0,r0⟩:=trodAll_cons hA
 obtain ⟨rfl,rfl,rfl⟩:=trodAll_nil r0
 obtain rfl:args=#[v0]:=by cases args;simp_all
 obtain ⟨rfl,rfl⟩:=trodVars_none hV
 have k0:=h0
 have lt0:∀ x ∈ p0,x.block < W.heap.size:=by obtain ⟨m,hm⟩:=k0;exact DataW.trod_lt m _ _ _ hm
 obtain ⟨x0,y0,z0,_⟩:=ZD0 (n:=12) (T:=Zov) (by kernel_rfl) (hval 0 22 v0 rfl rfl) h0
 rw [Tryd.underlying22] at y0
 obtain ⟨a0,b0,rfl⟩:=Zx2 y0
 clear hA0 hval0
 refine (ZKm ZCq (ZDt hL) (args:=[.lst false (a0.map ZaB)]) (by simp only [VRs];exact ⟨_,_,rfl,z0,rfl⟩) (ZyI a0 b0)).mono fun e W' ⟨he,bel⟩=>?_
 subst he
 exact ⟨_,rfl,_,_,_,[],_,[],hW',trodAll_mk1 (shut_bool Tryd.underlying4 _),(trodAll_cons_mk (Below.trod Zv9 (by kernel_rfl) (of_decide_eq_true (by kernel_rfl)) k0 bel lt0) trodAll_mk0),rfl,bel.frame _,fun h=>by cases h⟩
noncomputable def ZnF (os:Os):World :=
 let w0:=World.holding Tryd.prog os ⟨#[],#[],[]⟩
 let put (h:Array Obj) (g:Nat) (us:Array Value):Array Obj:=h.modify g fun
  | .cells _ t frozen=>.cells us t frozen
  | o=>o
 let h1:=put w0.heap 1 (Lib.firstTab.map fun z=>Value.int .u8 z).toArray
 let h2:=put h1 2 ((List.range 16).flatMap fun i=>[Value.int .u8 (Lib.accLo i),Value.int .u8 (Lib.accHi i)]).toArray
 { w0 with heap:=h2 }
theorem Zye (os:Os):laidMet Tryd.prog Rows.groupPlaysRow.laid ((ZnF os).forCall (fun _ _=>0) ⟨#[],#[.slice none 0 0],[]⟩).memory :=
 laidMet_of_run' 8 (by kernel_rfl) (by kernel_rfl)
theorem ZIH (os:Os) {H:Type} (enc:TypeId×Value->H):∃ ds places,DataW.whole enc Tryd.prog ((ZnF os).forCall (fun _ _=>0) ⟨#[],#[.slice none 0 0],[]⟩).memory Tryd.f3.params.toList Rows.groupPlaysSpec.vars false #[.slice none 0 0].toList 8=some (ds,[],places) :=
 ⟨[.nil],[],by kernel_rfl⟩
set_option maxRecDepth 100000 in
theorem ZE4 (os:Os) (started:os.Started) (H:Type) (enc:TypeId×Value->H) (F:Stop.Interp) :
  ReturnsInHanded {} Tryd.checked os 3 .any ((OpenSpec.ofChange Rows.groupPlaysSpec).preRow enc Tryd.prog Tryd.f3 Rows.groupPlaysRow.domain false Rows.groupPlaysRow.laid) (((OpenSpec.ofChange Rows.groupPlaysSpec).at F).post enc Tryd.prog Tryd.f3 false true false false):=by
 obtain ⟨ds,places,hx⟩:=ZIH os enc
 refine returnsInHanded_of_row (C:=Tryd.checked) (s:=(OpenSpec.ofChange Rows.groupPlaysSpec)) ZGZ started (by kernel_rfl) Tryd.func3
  (witness_row_at (enc:=enc) (C:=Tryd.checked) false (ZnF os) #[.slice none 0 0] rfl (by kernel_rfl) (by kernel_rfl) (by kernel_rfl)
   (OpenSpec.preRow_of_cond 8 hx (by kernel_rfl) (fun k hk=>by cases hk) (by kernel_rfl) (Zye os))) ?_
 intro W base args ds gs before hval hW _ hcond _ hL _ _
 exact ZGb H enc W base args ds gs before hval hW hL
theorem ZDu:Rows.GroupPlaysSaid :=
 OpenClaim.holds_of_cond 3 Tryd.f3 rfl rfl rfl rfl rfl rfl rfl ⟨rfl,rfl,rfl,rfl,rfl⟩ rfl rfl rfl rfl rfl (by kernel_rfl) Tryd.func3 (by kernel_rfl)
  (of_decide_eq_true (by kernel_rfl)) (by unfold Func.isWrapper;first | (rw [if_pos (by decide +kernel)];kernel_rfl) | (rw [if_neg (by decide +kernel)];exact ⟨rfl,rfl⟩))
  (fun os started H enc _ F=>by rw [OpenClaim.pre_eq_preRow];exact ZE4 os started H enc F)
theorem ZCu (f:FuncId) (fn:Func) (hf:Tryd.pinned.checked.prog.funcNamed "tidings/tidingslaw16.GroupPlays"=some f) (hfn:Tryd.pinned.checked.prog.funcs[f]?=some fn) :
  false=Tryd.pinned.checked.prog.looks []/\∀ (j:Nat) t,fn.params[j]?=some t->Tryd.pinned.checked.prog.wantsStandIn t=false:=by
 obtain rfl:f=3:=WU ((show Tryd.prog.funcNamed "tidings/tidingslaw16.GroupPlays"=some 3 by kernel_rfl).symm.trans hf) |>.symm
 obtain rfl:fn=Tryd.f3:=(WU (Tryd.func3.symm.trans hfn)).symm
 refine ⟨by kernel_rfl,fun j t ht=>?_⟩
 rw [Tryd.params3] at ht
 have hm:t=22:=by
  have:=Array.mem_of_getElem? ht
  simp at this
  first | exact this | exact this.symm | omega | (rcases this with h | h | h <;> simp [h]) | (rcases this with h | h | h | h <;> simp [h]) | (rcases this with h | h | h | h | h <;> simp [h]) | (rcases this with h | h | h | h | h | h <;> simp [h]) | (rcases this with h | h | h | h | h | h | h <;> simp [h])
 subst hm
 exact (show Tryd.prog.wantsStandIn 22=false by kernel_rfl)
theorem groupPlays_card:Rows.GroupPlaysCardSaid :=
 Claim7.holds_tied_plain_at .later [] _ _ _ _ ZDu (fun _ h=>by cases h) (by kernel_rfl) (fun _ h=>by cases h) groupPlays_row_tie rfl ⟨rfl,rfl⟩ (by kernel_rfl) rfl ZCu (by kernel_rfl)
#print axioms groupPlays_card
end
end Go.Proofs.YtlekmfmkkcpbcaaDoor
