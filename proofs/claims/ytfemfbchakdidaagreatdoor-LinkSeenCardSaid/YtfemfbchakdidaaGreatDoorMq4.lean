/- packed -/
import Derived.Test.YtfemfbchakdidaaGreatDoorMq3
import Derived.Test.YtfemfbchakdidaaGreatDoorMq2
import Derived.Defers
import Derived.Recover
import Derived.Tactics
import Derived.Test.YtfemfbchakdidaaGreatDoorProg
import Derived.Shelf.Small.Strs
import Derived.Shelf.Strings.Search1
import Derived.Shelf.Strings.Count
import Derived.Shelf.Unicode.ValidAny
import Derived.Lib.TrimAscii
set_option linter.defProp false
set_option linter.unusedSectionVars false
set_option linter.unusedSimpArgs false
set_option linter.unusedVariables false
open Option.some renaming injEq→Xa
open Nat renaming reduceEqDiff→Xb,reduceLT→Xc,reduceAdd→Xe,reduceLeDiff→Xf,reduceBEq→Xg,le_of_ble_eq_true→Xo,le_refl→Xx,zero_add→XE,lt_or_ge→Wx,one_mul→Xah,le_add_right→Xam
open List renaming getD_eq_getElem?_getD→Xh,length_append→Xk,getElem?_eq_some_iff→Xl,getElem?_set_ne→Xm,append_nil→Xp,map_cons→Xt,getD_cons_zero→Xu,lookup_nil→Xw,mem_of_getElem?→XA,nil_append→XD,length_nil→XG,length_cons→XH,getElem?_cons_zero→XI,flatMap_cons→XJ,map_nil→XM,take_of_length_le→XN,getD_cons_succ→XO,all_cons→XP,getElem?_eq_none→XQ,getElem?_cons_succ→XR,mem_cons→XS,length_map→XT,flatMap_nil→XZ,getElem?_set_self→X5,length_drop→X6,range→X9,drop_eq_nil_iff→Wc,all_nil→Wj,length_take→Wl,append_assoc→Wo,isEmpty_cons→Wp,map_append→Wq,flatten_cons→Wz,contains_cons→WA,range_succ→WG,isEmpty_nil→WK,set_cons_zero→WP,set_cons_succ→WQ,length→W3,flatten_nil→W5,length_singleton→XaD
open Bool renaming false_eq_true→Xi,and_eq_true→Xj,and_self→X0,false_and→WN,true_or→W9,and_true→Xaj,and_false→XaS
open Int renaming reduceBEq→Xq,reduceLT→X4,toNat→WB
open Or renaming inl→Xr,inr→Xy
open BitVec renaming ofInt→XB
open Option renaming map→Wa
open Array renaming getD→WW,replicate→WY
open List.range renaming loop→XaL
namespace Go.Proofs.YtfemfbchakdidaaGreatDoor
set_option maxHeartbeats 16000000
set_option maxRecDepth 10000
section
def ZeJ (k:Int):Int:=if k=6\/k=8\/k=10 then 2 else 0
theorem ZMv (k:Int):E 63 [.int .i64 k] []=some (.int .u8 (ZeJ k),[]):=by
 unfold ZeJ
 by_cases h6:k=6
 ·subst h6;rw [Zh (by rfl) Zmn];simp -implicitDefEqProofs only [EQA,Xc,Xb,reduceCtorEq,↓reduceIte,ZlW,ZhZ,ZjQ]
 by_cases h8:k=8
 ·subst h8;rw [Zh (by rfl) Zmn];simp -implicitDefEqProofs only [EQA,Xc,Xb,reduceCtorEq,↓reduceIte,ZlW,ZhZ,ZjQ,Xq]
 by_cases h10:k=10
 ·subst h10;rw [Zh (by rfl) Zmn];simp -implicitDefEqProofs only [EQA,Xc,Xb,reduceCtorEq,↓reduceIte,ZlW,ZhZ,ZjQ,Xq]
 have b6:(k == 6)=false:=by simpa using h6
 have b8:(k == 8)=false:=by simpa using h8
 have b10:(k == 10)=false:=by simpa using h10
 rw [if_neg (by omega),Zh (by rfl) Zmn]
 simp -implicitDefEqProofs only [EQA,Xc,Xb,reduceCtorEq,↓reduceIte,ZlW,ZhZ,ZjQ,b6,b8,b10]
theorem Zkt (k:Int) (σ:Za) (sq own:Nat):Zi E BY σ sq 63 own true [.int .i64 k]=some (.int .u8 (ZeJ k),σ,{}) :=
 ZcU (ZMv k) (by kernel_rfl) (by simp -implicitDefEqProofs only [Zdi,ZbE,eq_self,eq_self]) (by simp -implicitDefEqProofs only [ZI,ZbE,eq_self,eq_self]) rfl (fun _=>rfl) _ _ _ _
def tyI (b:Int):Int:=IntKind.i64.wrap (b.fdiv (2 ^ min (WB 4) IntKind.u8.bits))
def Zbq (a b:Int):Int:=IntKind.u8.wrap (XB IntKind.u8.bits a &&& XB IntKind.u8.bits b).toNat
def qoI (b:Int):Int:=IntKind.i64.wrap (Zbq (b.fdiv (2 ^ min (WB 1) IntKind.u8.bits)) 3)
def ZcJ (P:List AVal) (b:Int):List AVal:=(((P.set 0 (.int .i64 3)).set 1 (.bool (Zbq b 8 != 0))).set 2 (.int .i64 (qoI b))).set 3 (.bool (Zbq b 1 != 0))
section
variable (P:List AVal) (hP:P.length=26) (hN:Zd P=true)
include hP hN
theorem Zkd (L v:AVal):[v]++List.drop 1 (P++[L])=P.set 0 v++[L]:=ZaD P hP 0 1 (by omega) rfl L v
theorem ZDd (b:Int) (l:Zb) (h:tyI b=0):E 87 [.ref 0 0,.int .u8 b] (Zj P l)=some (.pan (Zz 129),Zj (P.set 0 (.int .i64 0)) l):=by
 have a1:=Z9 P hP
 have a3:=Zkd P hP hN
 have a4:=Zhu P hP 0 (by omega)
 have m1:=ZbA
 have z:((0:Int) != 0)=false:=by decide
 unfold tyI at h
 unfold Zj
 rw [Zh (by rfl) ZgU]
 simp -implicitDefEqProofs only [EQA,ZI,Xc,Xf,Xb,ZaB,reduceCtorEq,↓reduceIte,ZgD,ZeT,a1,a3,a4,m1,h,z,X4]
 exact ZY rfl (ZaF (ZQ rfl _ hN) (by rfl))
theorem ZJM (b t:Int) (l:Zb) (h:tyI b=t) (h0:¬t=0) (h3:¬t=3) (hf:¬Zbq b 15=ZeJ t):E 87 [.ref 0 0,.int .u8 b] (Zj P l)=some (.pan (Zz 129),Zj (P.set 0 (.int .i64 t)) l):=by
 have a1:=Z9 P hP
 have a3:=Zkd P hP hN
 have a4:=Zhu P hP 0 (by omega)
 have m0:=Zbb
 have m1:=ZbA
 have e0:(t != 0)=true:=by simpa using h0
 have e3:(t != 3)=true:=by simpa using h3
 have ef:(Zbq b 15 == ZeJ t)=false:=by simpa using hf
 have hC:=Zkt t
 unfold tyI at h
 unfold Zbq at ef
 unfold Zj
 rw [Zh (by rfl) ZgU]
 simp -implicitDefEqProofs only [EQA,ZI,Xc,Xf,Xb,ZaB,reduceCtorEq,↓reduceIte,ZgD,ZeT,a1,a3,a4,m0,m1,h,e0,e3,ef,hC,X4]
 exact ZY rfl (ZaF (ZQ rfl _ hN) (by rfl))
theorem ZKK (b t:Int) (l:Zb) (h:tyI b=t) (h0:¬t=0) (h3:¬t=3) (hf:Zbq b 15=ZeJ t):E 87 [.ref 0 0,.int .u8 b] (Zj P l)=some (.tup [],Zj (P.set 0 (.int .i64 t)) l):=by
 have a1:=Z9 P hP
 have a3:=Zkd P hP hN
 have a4:=Zhu P hP 0 (by omega)
 have m0:=Zbb
 have e0:(t != 0)=true:=by simpa using h0
 have e3:(t != 3)=true:=by simpa using h3
 have ef:(Zbq b 15 == ZeJ t)=true:=by simpa using hf
 have hC:=Zkt t
 unfold tyI at h
 unfold Zbq at ef
 unfold Zj
 rw [Zh (by rfl) ZgU]
 simp -implicitDefEqProofs only [EQA,ZI,Zs,Xc,Xf,Xb,ZaB,reduceCtorEq,↓reduceIte,Zd,ZgD,ZeT,Zns,a1,a3,a4,m0,h,e0,e3,ef,hC,X4]
 exact ZY rfl (ZaF (ZQ rfl _ hN) (by rfl))
theorem ZOu (b:Int) (l:Zb) (h:tyI b=3):E 87 [.ref 0 0,.int .u8 b] (Zj P l)=some (if qoI b < 3 then (if qoI b > 0\/(Zbq b 8 != 0)=false then .tup [] else .pan (Zz 130)) else .pan (Zz 129),Zj (ZcJ P b) l):=by
 have hQ:(ZcJ P b).length=26:=by simp [ZcJ,hP]
 have hQN:Zd (ZcJ P b)=true:=ZQ rfl _ (ZQ rfl _ (ZQ rfl _ (ZQ rfl _ hN)))
 have g1:(ZcJ P b)[1]?=some (.bool (Zbq b 8 != 0)):=by simp [ZcJ,hP]
 have g2:(ZcJ P b)[2]?=some (.int .i64 (qoI b)):=by simp [ZcJ,hP]
 have a1:=Z9 P hP
 have a3:=fun L=>Zkd P hP hN L (.int .i64 3)
 have a4:=Zhu P hP 0 (by omega)
 have hP0:(P.set 0 (.int .i64 3)).length=26:=by simp [hP]
 have b1:=Z9 _ hP0
 have b3:=fun L=>ZaD _ hP0 1 2 (by omega) rfl L (.bool (Zbq b 8 != 0))
 have hP1:((P.set 0 (.int .i64 3)).set 1 (.bool (Zbq b 8 != 0))).length=26:=by simp [hP]
 have c1:=Z9 _ hP1
 have c3:=fun L=>ZaD _ hP1 2 3 (by omega) rfl L (.int .i64 (qoI b))
 have hP2:(((P.set 0 (.int .i64 3)).set 1 (.bool (Zbq b 8 != 0))).set 2 (.int .i64 (qoI b))).length=26:=by simp [hP]
 have d1:=Z9 _ hP2
 have d3:=fun L=>ZaD _ hP2 3 4 (by omega) rfl L (.bool (Zbq b 1 != 0))
 rw [show (((P.set 0 (.int .i64 3)).set 1 (.bool (Zbq b 8 != 0))).set 2 (.int .i64 (qoI b))).set 3 (.bool (Zbq b 1 != 0))=ZcJ P b from rfl] at d3
 generalize ZcJ P b=Q at *
 have k1:=fun L=>(Zac Q hQ 1 (by omega) L).trans g1
 have k2:=fun L=>(Zac Q hQ 2 (by omega) L).trans g2
 have m0:=Zbb
 have m1:=ZbA
 have e0:((3:Int) != 0)=true:=by decide
 have e3:((3:Int) != 3)=false:=by decide
 unfold tyI at h
 unfold Zj
 by_cases hq:qoI b < 3
 ·rw [if_pos hq]
  by_cases hq0:qoI b > 0
  ·rw [if_pos (Xr hq0)]
   unfold qoI Zbq at *
   rw [Zh (by rfl) ZgU]
   simp -implicitDefEqProofs only [EQA,ZI,Zs,Xe,Xc,Xf,Xb,ZaB,ZE,Zaz,reduceCtorEq,↓reduceIte,Zd,ZgD,ZeT,Zns,a1,a3,a4,b1,b3,c1,c3,d1,d3,k2,m0,h,e0,e3,hq,hq0,X4]
   exact ZY rfl (ZaF hQN (by rfl))
  ·cases hd:(Zbq b 8 != 0)
   ·rw [if_pos (Xy rfl)]
    rw [hd] at b3 c1 c3 d1 d3 k1
    unfold qoI Zbq at *
    rw [Zh (by rfl) ZgU]
    simp -implicitDefEqProofs only [EQA,ZI,Zs,Xe,Xc,Xf,Xb,ZaB,unA,ZE,unG,reduceCtorEq,↓reduceIte,Zd,ZgD,ZeT,Zns,a1,a3,a4,b1,b3,c1,c3,d1,d3,k1,k2,m0,h,e0,e3,hq,hq0,hd,X4]
    exact ZY rfl (ZaF hQN (by rfl))
   ·rw [if_neg (by simp [hq0])]
    rw [hd] at b3 c1 c3 d1 d3 k1
    unfold qoI Zbq at *
    rw [Zh (by rfl) ZgU]
    simp -implicitDefEqProofs only [EQA,ZI,Xe,Xc,Xf,Xb,ZaB,unA,ZE,unG,reduceCtorEq,↓reduceIte,ZgD,ZeT,a1,a3,a4,b1,b3,c1,c3,d1,d3,k1,k2,m0,m1,h,e0,e3,hq,hq0,hd,X4]
    exact ZY rfl (ZaF hQN (by rfl))
 ·rw [if_neg hq]
  unfold qoI Zbq at *
  rw [Zh (by rfl) ZgU]
  simp -implicitDefEqProofs only [EQA,ZI,Xe,Xc,Xf,Xb,ZaB,reduceCtorEq,↓reduceIte,ZgD,ZeT,a1,a3,a4,b1,b3,c1,c3,d1,d3,k2,m0,m1,h,e0,e3,hq,X4]
  exact ZY rfl (ZaF hQN (by rfl))
end
end
section
section
variable {σ:Za} {cs xs:List AVal} {g w:Nat}
theorem Zqk {t r:Nat} (hs:σ[t]?=some (.var cs)) (hr:σ[r]?=some (.row g w xs)) (htr:t≠r) (hrf:Zp cs=[r]):Zu σ 1000 [t] []=[t,r]:=by
 have h1:σ.getD t .free=.var cs:=by simp [Xh,hs]
 have h2:σ.getD r .free=.row g w xs:=by simp [Xh,hr]
 have e1:([]:List Nat).contains t=false:=rfl
 have e2:([t]:List Nat).contains r=false:=by simp;exact fun e=>htr e.symm
 rw [show (1000:Nat)=997+1+1+1 from rfl,Zu,e1]
 simp only [Xi,if_false,h1,ZG,hrf,Xp,XD]
 rw [Zu,e2]
 simp only [Xi,if_false,h2,ZG,XD]
 rfl
theorem Zt3 {r:AVal} {σ:Za} (hr:ZM r=true) (hrf:Zp cs=[1]) (hg:g<=1) (hren:∀ ρ:Rho,ρ 1 g=some (1,g)->Zg ρ cs=cs):gcA 2 [r] (.var cs::.row g w xs::σ)=([r],[.var cs,.row g w xs]):=by
 have e1:=(Za7 (Zk (.var cs::.row g w xs::σ) 2 [0,1]) r hr)
 have h1:Zy 2 [r] (.var cs::.row g w xs::σ)=[0,1]:=by
  have : Zp [r]=[]:=by simp only [Zp,e1.2,Xp]
  have hR:X9 2=[0,1]:=rfl
  simp only [Zy,this,XD,hR,XJ,XZ,Xp,Xu,XO,ZG,hrf]
  rfl
 have hng:(if g=0 then 0 else 1)=g:=by split <;> omega
 have hρ:Zk (.var cs::.row g w xs::σ) 2 [0,1] 1 g=some (1,g):=by
  simp only [Zk,ZO,Zo,ZJ,XR,XI]
  simp [hng]
 simp only [gcA,h1,Zg,e1.1,Zr,Xu,XO,ZJ,Zo,ZB,hren _ hρ]
 simp [hng]
theorem ZhO {r:AVal} {σ:Za} (hr:ZM r=true) (hrf:Zp cs=[1]) (hg:g<=1) (hren:∀ ρ:Rho,ρ 1 g=some (1,g)->Zg ρ cs=cs):Z8 2 (.var cs::.row g w xs::σ) r=some (r,[.var cs,.row g w xs]):=by
 simp only [Z8,Zt3 hr hrf hg hren]
end
theorem Zcq:∀ (a b:List AVal),Zp (a++b)=Zp a++Zp b
 | [],b=>by simp [Zp]
 | x::a,b=>by simp [Zp,Zcq a b,Wo]
theorem ZbS (ρ:Rho):∀ (a b:List AVal),Zg ρ (a++b)=Zg ρ a++Zg ρ b
 | [],b=>by simp [Zg]
 | x::a,b=>by simp [Zg,ZbS ρ a b]
theorem ZiJ {v:AVal}:∀ {P:List AVal} {k:Nat},Zd P=true->k < P.length->Zp (P.set k v)=Z3 v
 | [],_,_,h=>by simp at h
 | x::P,0,h,_=>by
  simp only [Zd,Xj] at h
  simp only [WP,Zp,(ZaX (fun _ _=>none) P h.2).2,Xp]
 | x::P,k+1,h,hk=>by
  simp only [Zd,Xj] at h
  simp only [WQ,Zp,(Za7 (fun _ _=>none) x h.1).2,XD]
  exact ZiJ h.2 (by simpa using hk)
theorem Zi6 (ρ:Rho) {v:AVal}:∀ {P:List AVal} {k:Nat},Zd P=true->Zg ρ (P.set k v)=P.set k (Zm ρ v)
 | [],_,_=>by simp [Zg]
 | x::P,0,h=>by
  simp only [Zd,Xj] at h
  simp only [WP,Zg,(ZaX ρ P h.2).1]
 | x::P,k+1,h=>by
  simp only [Zd,Xj] at h
  simp only [WQ,Zg,(Za7 ρ x h.1).1,Zi6 ρ h.2]
theorem ZCs {σ:Za} {t r g w w2 g2:Nat} {cs xs cs2 xs2:List AVal} (hs:σ[t]?=some (.var cs)) (hr:σ[r]?=some (.row g w xs)) (hg2:g2<=1):ZaZ σ [t,r] [.var cs2,.row g2 w2 xs2] 0=true:=by
 have h1:σ.getD t .free=.var cs:=by simp [Xh,hs]
 have h2:σ.getD r .free=.row g w xs:=by simp [Xh,hr]
 simp [ZaZ,okB,Zb4,Zo,hs,hr,hg2]
theorem Zgt {O:ZN} {bf:Nat->Bool} {σ:Za} {t r f own g w g2 w2 sq:Nat} {view:Bool} {rest:List AVal} {cs cs1 cs2 cs3 xs xs2:List AVal} {q q':AVal} (hs:σ[t]?=some (.var cs)) (hr:σ[r]?=some (.row g w xs)) (htr:t≠r) (hrf:Zp cs=[r]) (hb:bf f=false) (hp:rest.all Zai=true)
  (hren:∀ ρ:Rho,ρ r g=some (1,0)->Zg ρ cs=cs1) (hg2:g2<=1) (hff:ZaY σ sq own=true) (hn:ZM q'=true)
  (h:O f (.ref 0 0::rest.map ZL) [.var cs1,.row 0 w xs]=some (q,[.var cs2,.row g2 w2 xs2])) (hv:Z5 view 2 (some (q,[.var cs2,.row g2 w2 xs2]))=some (q',[.var cs2,.row g2 w2 xs2]))
  (hback:∀ ρ:Rho,(∀ j,ρ 1 j=some (r,g+j))->Zg ρ cs2=cs3) :
  Zi O bf σ sq f own view (.ref t 0::rest)=some (q',(σ.set t (.var cs3)).set r (.row (g+g2) w2 xs2),{ any:=true,upd:=[(t,cs3)] }):=by
 have htl:t < σ.length:=by
  rcases Wx t σ.length with h | h
  ·exact h
  ·rw [XQ h] at hs;cases hs
 have h1:σ.getD t .free=.var cs:=by simp [Xh,hs]
 have h2:σ.getD r .free=.row g w xs:=by simp [Xh,hr]
 have hf0:Zn σ []=σ:=rfl
 have hsh:showAs σ (.ref t 0::rest)=some (.ref t 0::rest.map ZL,[]):=by
  rw [showAs,show showA σ (.ref t 0)=some (.ref t 0,[]) from rfl,Zea hp]
  rfl
 have href:Zp (.ref t 0::rest.map ZL)=[t]:=by
  rw [Zp,Zc2 hp];rfl
 have hup:Za4 ((σ.set t (.var cs3)).set r (.row (g+g2) w2 xs2)) [t,r]=[(t,cs3)]:=by
  have e1:((σ.set t (.var cs3)).set r (.row (g+g2) w2 xs2))[t]?=some (.var cs3):=by
   rw [Xm (fun e=>htr e.symm),X5 htl]
  have e2:((σ.set t (.var cs3)).set r (.row (g+g2) w2 xs2))[r]?=some (.row (g+g2) w2 xs2):=by
   rw [X5 (by
    rcases Wx r σ.length with h | h
    ·simpa using h
    ·rw [XQ h] at hr;cases hr)]
  simp only [Za4,e1,e2]
 unfold Zi Zbx
 rw [hb]
 simp only [Xi,if_false,hsh,hf0,href,Zqk hs hr htr hrf]
 unfold Zbl
 have hall:([t,r].all fun t=>okB (σ.getD t .free))=true:=by simp only [XP,Wj,h1,h2,okB,Xaj]
 rw [if_pos hall]
 have hρt:Zk σ 0 [t,r] t 0=some (0,0):=by simp [Zk,ZO,hs,Zo,ZJ]
 have hρr:Zk σ 0 [t,r] r g=some (1,0):=by simp [Zk,ZO,hr,Zo,ZJ,htr]
 have hargs:Zg (Zk σ 0 [t,r]) (.ref t 0::rest.map ZL)=.ref 0 0::rest.map ZL:=by
  rw [Zg,ZcN hp]
  simp only [Zm,hρt]
 have hheap:Zr σ 0 [t,r] (Zk σ 0 [t,r]) [t,r] 0=[.var cs1,.row 0 w xs]:=by
  simp only [Zr,h1,h2,ZJ,Zo,ZB,hren _ hρr]
  simp
 rw [hargs,hheap,h]
 rw [show [t,r].length=2 from rfl,hv]
 have hk:=ZCs (cs2:=cs2) (w2:=w2) (xs2:=xs2) hs hr hg2
 have hb3:Zg (ZaA σ [t,r] sq) cs2=cs3:=hback _ (fun j=>by simp only [ZaA,XR,XI,h2,Zo])
 simp only [Zaw,Wp,Xi,if_false,XH,XG,XE,Xe,Xam,Xx,decide_true,hk,hff,X0,if_true,Za1,ZaH,Xu,XO,Zch,XI,XR,h2,Zo,ZB,(Za7 _ _ hn).1,hb3,hup]
end
section
theorem ZOo {O:ZN} {bf:Nat->Bool} {σ:Za} {sq f own:Nat} {view:Bool} {args vs vs':List AVal} {ids:List Nat} {h0 h:Za} {r0 r:AVal} (hb:bf f=false) (hsh:showAs σ args=some (vs,[])) (hre:Zu σ 1000 (Zp vs) []=ids) (hne:ids.isEmpty=false)
  (hall:(ids.all fun t=>okB (σ.getD t .free))=true) (hvs:Zg (Zk σ 0 ids) vs=vs') (hh:Zr σ 0 ids (Zk σ 0 ids) ids 0=h0) {hh0:Za} (hO:O f vs' h0=some (r0,hh0)) (hv:Z5 view ids.length (some (r0,hh0))=some (r,h))
  (hl1:h.length<=ids.length+own) (hl2:ids.length<=h.length) (hk:ZaZ σ ids h 0=true) (hff:ZaY σ sq own=true) {r':AVal} (hr:Zm (ZaA σ ids sq) r=r') {σ':Za} (hlay:Za1 σ ids sq h 0 σ=σ') {u:List (Nat×List AVal)} (hu:Za4 σ' ids=u) :
  Zi O bf σ sq f own view args=some (r',σ',{ any:=true,upd:=u }):=by
 subst hr hlay hu
 unfold Zi Zbx
 rw [hb]
 simp only [Xi,if_false,hsh,show Zn σ []=σ from rfl,hre]
 unfold Zbl
 rw [if_pos hall,hvs,hh,hO,hv]
 simp only [Zaw,hne,WN,Xi,if_false,hl1,hl2,decide_true,hk,hff,X0,if_true]
end
section
def Zh6:Zf:=(.seq (.region [oI 3 (.box (.t 1)),oI 4 (.mov (.c (.bool false)))] none [3,0]) (.seq (.seq (.region [oM 6 0,oI 7 (.ld (some 2) (.t 3)),oI 8 (.call 17 0 true [(.t 6),(.t 7)])] none [8,3,0]) (.cond (.t 8) (.seq (.region [oI 4 (.mov (.c (.bool false)))] none [4]) .ret) .skip)) (.seq (.region [oM 9 0,oM 10 0,oI 11 (.nilchk (.t 10)),oF 12 0 11,oL 13 12,oI 14 (.ld (some 2) (.t 3)),oI 15 (.bslice false 2 1 (.agg [(.int .i64 0),(.int .i64 0)]) [(0,(.t 14))]),oI 16 (.app 2 16 (.agg [(.int .i64 0),(.int .i64 0)]) (.t 13) (.t 15)),oI 17 (.nilchk (.t 9)),oF 18 0 17,oN (.st 1 (.t 18) (.t 16))] (some [(4,5),(4,6)]) [0]) (.seq (.seq (.region [oM 19 0,oI 20 (.nilchk (.t 19)),oF 21 0 20,oL 22 21,oI 23 (.len (.t 22)),oI 24 (.bin .sub (.t 23) (.c (.int .i64 32))),oM 5 24] none [5,0]) (.seq (.region [oM 25 5,oI 26 (.bin .gtr (.t 25) (.c (.int .i64 0)))] none [26,5,0]) (.cond (.t 26) (.region [oM 27 0,oM 28 0,oI 29 (.nilchk (.t 28)),oF 30 0 29,oL 31 30,oM 32 5,oI 33 (.slice 2 (.t 31) (some (.t 32)) none none),oI 34 (.call 40 1 false [(.t 33)]),oI 35 (.nilchk (.t 27)),oF 36 0 35,oN (.st 1 (.t 36) (.t 34))] none []) .skip))) (.seq (.region [oI 4 (.mov (.c (.bool true)))] none [4]) .ret)))))
def Zqy:ZF:=⟨[(.tmp 4)],Zh6⟩
theorem Zj5:FC 18=some Zqy:=by kernel_rfl
theorem Zmp:Zqy.body=Zh6:=rfl
theorem ZjE:Zqy.res=[(.tmp 4)]:=rfl
def Zk7:Zf:=(.seq (.region [oI 2 (.mov (.c (.lst true [])))] none [0]) (.seq (.region [oM 3 0,oI 4 (.nilchk (.t 3)),oF 5 0 4,oL 6 5,oI 7 (.call 40 0 true [(.t 6)]),oM 2 7] none [2]) .ret))
def ZnS:ZF:=⟨[(.tmp 2)],Zk7⟩
theorem ZtX:FC 20=some ZnS:=by kernel_rfl
theorem Zwl:ZnS.body=Zk7:=rfl
theorem Ztd:ZnS.res=[(.tmp 2)]:=rfl
def ZjL:Zf:=(.seq (.region [oI 3 (.box (.t 1)),oI 4 (.mov (.c (.bool false)))] none [3,0]) (.seq (.region [oM 5 0,oI 6 (.nilchk (.t 5)),oF 7 0 6,oL 8 7,oI 9 (.ld (some 2) (.t 3)),oI 10 (.call 39 0 true [(.t 8),(.t 9)]),oM 4 10] (some [(3,4),(5,5)]) [4]) .ret))
def Zo2:ZF:=⟨[(.tmp 4)],ZjL⟩
theorem Zv0:FC 17=some Zo2:=by kernel_rfl
theorem ZuE:Zo2.body=ZjL:=rfl
theorem Zt1:Zo2.res=[(.tmp 4)]:=rfl
def ZpG:Zf:=(.seq (.region [oM 18 3,oM 2 18] none [2]) .ret)
def ZmN:Zf:=ZpG
def ZK7:=xw ZmN ZpG rfl
def ZgT:Zf:=(.seq (.region [oI 11 (.bin .lss (.t 10) (.t 9))] none [11,10,9,8,3]) (.seq (.cond (.t 11) .skip (.exit 0)) (.seq (.block 1 (.seq (.region [oI 12 (.iaddr 2 (.t 8) (.t 10)),oI 13 (.ld (some 2) (.t 12)),oI 5 (.alloc [(.int .i64 0),(.int .i64 0)]),oN (.st 2 (.t 5) (.t 13))] none [10,9,8,5,3]) (.region [oM 14 3,oI 15 (.ld (some 2) (.t 5)),oI 16 (.call 18 1 true [(.t 14),(.t 15)])] none [10,9,8,3]))) (.region [oI 17 (.bin .add (.t 10) (.c (.int .i64 1))),oM 10 17] none [10,9,8,3]))))
def ZoM:Zf:=ZgT
def Zjn:=xw ZoM ZgT rfl
def Zqs:Zf:=(.seq (.region [oI 2 (.mov (.c .nilp))] none [0]) (.seq (.region [oI 6 (.build [(.lst true [])] []),oI 7 (.box (.t 6)),oM 3 7] none [3,0]) (.seq (.seq (.region [oM 8 0,oI 9 (.len (.t 8)),oI 10 (.mov (.c (.int .i64 0)))] none [10,9,8,3]) (.block 0 (.loop [10,9,8,3] ZoM))) ZmN)))
def ZjT:ZF:=⟨[(.tmp 2)],Zqs⟩
theorem ZFi:FC 16=some ZjT:=by kernel_rfl
theorem Zyd:ZjT.body=Zqs:=rfl
theorem ZPa:ZjT.res=[(.tmp 2)]:=rfl
noncomputable def Zh2 (m:Nat) (tm:Tms) (σ:Za):Option (AVal×Za):=(Zau m ZjT (Zbw FC PR BY m ZmN (Wa (ZaR 0) (evL FC PR BY m [10,9,8,3] ZoM tm σ))))
end
section
def ZhY:Zf:=(.seq (.region [oI 3 (.box (.t 1)),oI 4 (.mov (.c (.bool false)))] none [3,0]) (.seq (.seq (.region [oM 6 0,oI 7 (.ld (some 2) (.t 3)),oI 8 (.call 41 0 true [(.t 6),(.t 7)])] none [8,3,0]) (.cond (.t 8) (.seq (.region [oI 4 (.mov (.c (.bool false)))] none [4]) .ret) .skip)) (.seq (.region [oI 5 (.mov (.c (.lst true [])))] none [5,3,0]) (.seq (.region [oM 9 0,oM 10 5,oM 11 0,oI 12 (.nilchk (.t 11)),oF 13 0 12,oL 14 13,oI 15 (.app 2 16 (.agg [(.int .i64 0),(.int .i64 0)]) (.t 10) (.t 14)),oI 16 (.ld (some 2) (.t 3)),oI 17 (.bslice false 2 1 (.agg [(.int .i64 0),(.int .i64 0)]) [(0,(.t 16))]),oI 18 (.app 2 16 (.agg [(.int .i64 0),(.int .i64 0)]) (.t 15) (.t 17)),oI 19 (.nilchk (.t 9)),oF 20 0 19,oN (.st 1 (.t 20) (.t 18))] (some [(5,7),(6,7),(5,8),(6,8)]) [0]) (.seq (.seq (.region [oM 21 0,oI 22 (.nilchk (.t 21)),oF 23 0 22,oL 24 23,oI 25 (.len (.t 24)),oI 26 (.bin .gtr (.t 25) (.c (.int .i64 32)))] none [26,0]) (.cond (.t 26) (.region [oM 27 0,oM 28 0,oI 29 (.nilchk (.t 28)),oF 30 0 29,oL 31 30,oI 32 (.slice 2 (.t 31) (some (.c (.int .i64 1))) none none),oI 33 (.nilchk (.t 27)),oF 34 0 33,oN (.st 1 (.t 34) (.t 32))] none []) .skip)) (.seq (.region [oI 4 (.mov (.c (.bool true)))] none [4]) .ret))))))
def Zm1:ZF:=⟨[(.tmp 4)],ZhY⟩
theorem ZlU:FC 19=some Zm1:=by kernel_rfl
theorem Zkp:Zm1.body=ZhY:=rfl
theorem ZlS:Zm1.res=[(.tmp 4)]:=rfl
def Zlp:Zf:=(.seq (.region [oI 4 (.mov (.c (.bool false)))] none [4]) .ret)
def ZnZ:Zf:=Zlp
def ZrP:=xw ZnZ Zlp rfl
def ZhP:Zf:=(.seq (.seq (.region [oM 6 5,oM 7 0,oI 8 (.nilchk (.t 7)),oF 9 0 8,oL 10 9,oI 11 (.len (.t 10)),oI 12 (.bin .lss (.t 6) (.t 11))] none [12,5,3,0]) (.cond (.t 12) .skip (.exit 0))) (.seq (.block 1 (.seq (.region [oM 15 0,oI 16 (.nilchk (.t 15)),oF 17 0 16,oL 18 17,oM 19 5,oI 20 (.iaddr 2 (.t 18) (.t 19)),oI 21 (.ld (some 2) (.t 20)),oI 22 (.ld (some 2) (.t 3)),oI 23 (.eqv false [0,0] (.t 21) (.t 22))] (some [(3,7),(5,7),(6,7)]) [23,5,3,0]) (.cond (.t 23) (.seq (.region [oI 4 (.mov (.c (.bool true)))] none [4]) .ret) .skip))) (.region [oM 13 5,oI 14 (.bin .add (.t 13) (.c (.int .i64 1))),oM 5 14] none [5,3,0])))
def Znz:Zf:=ZhP
def Zmr:=xw Znz ZhP rfl
def Zkm:Zf:=(.seq (.region [oI 3 (.box (.t 1)),oI 4 (.mov (.c (.bool false)))] none [3,0]) (.seq (.seq (.region [oI 5 (.mov (.c (.int .i64 0)))] none [5,3,0]) (.block 0 (.loop [5,3,0] Znz))) ZnZ))
def Zlz:ZF:=⟨[(.tmp 4)],Zkm⟩
theorem Zu9:FC 41=some Zlz:=by kernel_rfl
theorem Zs1:Zlz.body=Zkm:=rfl
theorem ZpA:Zlz.res=[(.tmp 4)]:=rfl
noncomputable def ZiF (m:Nat) (tm:Tms) (σ:Za):Option (AVal×Za):=(Zau m Zlz (Zbw FC PR BY m ZnZ (Wa (ZaR 0) (evL FC PR BY m [5,3,0] Znz tm σ))))
def Zia:Zf:=(.seq (.region [oI 2 (.mov (.c (.bool true)))] none [2]) .ret)
def Zrn:Zf:=Zia
def Zjd:Zf:=(.seq (.seq (.region [oM 100 12,oM 101 10,oI 102 (.len (.t 101)),oI 103 (.bin .lss (.t 100) (.t 102))] none [103,12,11,10,4]) (.cond (.t 103) .skip (.exit 2))) (.seq (.block 3 (.seq (.region [oM 106 10,oM 107 12,oI 108 (.iaddr 2 (.t 106) (.t 107)),oF 109 0 108,oL 110 109,oM 111 4,oI 112 (.nilchk (.t 111)),oF 113 0 112,oL 114 113,oM 115 12,oI 116 (.iaddr 2 (.t 114) (.t 115)),oF 117 0 116,oL 118 117,oI 119 (.bin .neq (.t 110) (.t 118)),oM 120 119,⟨(some 121),(.mov (.t 10)),(some (120,false)),[]⟩,⟨(some 122),(.mov (.t 12)),(some (120,false)),[]⟩,⟨(some 123),(.iaddr 2 (.t 121) (.t 122)),(some (120,false)),[]⟩,⟨(some 124),(.faddr 1 (.t 123)),(some (120,false)),[]⟩,⟨(some 125),(.ld none (.t 124)),(some (120,false)),[]⟩,⟨(some 126),(.mov (.t 4)),(some (120,false)),[]⟩,⟨(some 127),(.nilchk (.t 126)),(some (120,false)),[]⟩,⟨(some 128),(.faddr 0 (.t 127)),(some (120,false)),[]⟩,⟨(some 129),(.ld none (.t 128)),(some (120,false)),[]⟩,⟨(some 130),(.mov (.t 12)),(some (120,false)),[]⟩,⟨(some 131),(.iaddr 2 (.t 129) (.t 130)),(some (120,false)),[]⟩,⟨(some 132),(.faddr 1 (.t 131)),(some (120,false)),[]⟩,⟨(some 133),(.ld none (.t 132)),(some (120,false)),[]⟩,⟨(some 134),(.bin .neq (.t 125) (.t 133)),(some (120,false)),[]⟩,oI 135 (.pick (.t 120) (.c (.bool true)) (.t 134)),oM 136 135,⟨(some 137),(.mov (.t 11)),(some (136,false)),[]⟩,⟨(some 138),(.mov (.t 12)),(some (136,false)),[]⟩,⟨(some 139),(.iaddr 2 (.t 137) (.t 138)),(some (136,false)),[]⟩,⟨(some 140),(.ld (some 2) (.t 139)),(some (136,false)),[]⟩,⟨(some 141),(.mov (.t 10)),(some (136,false)),[]⟩,⟨(some 142),(.mov (.t 12)),(some (136,false)),[]⟩,⟨(some 143),(.iaddr 2 (.t 141) (.t 142)),(some (136,false)),[]⟩,⟨(some 144),(.ld (some 2) (.t 143)),(some (136,false)),[]⟩,⟨(some 145),(.eqv true [0,0] (.t 140) (.t 144)),(some (136,false)),[]⟩,oI 146 (.pick (.t 136) (.c (.bool true)) (.t 145))] (some [(2,8),(4,8),(2,10),(4,10),(2,12),(4,12),(17,23),(19,23),(17,25),(19,25),(17,27),(19,27),(33,37),(34,37),(33,38),(34,38)]) [146,12,11,10,4]) (.cond (.t 146) (.seq (.region [oI 2 (.mov (.c (.bool false)))] none [2]) .ret) .skip))) (.region [oM 104 12,oI 105 (.bin .add (.t 104) (.c (.int .i64 1))),oM 12 105] none [12,11,10,4])))
def ZlG:Zf:=Zjd
def Zjy:Zf:=(.seq (.region [oM 75 3,oI 76 (.call 20 0 true [(.t 75)]),oM 10 76] none [10,5,4]) (.seq (.region [oM 77 5,oI 78 (.call 16 2 false [(.t 77)]),oI 79 (.call 20 0 true [(.t 78)]),oM 11 79] none [11,10,4]) (.seq (.seq (.region [oM 80 10,oI 81 (.len (.t 80)),oM 82 4,oI 83 (.nilchk (.t 82)),oF 84 0 83,oL 85 84,oI 86 (.len (.t 85)),oI 87 (.bin .neq (.t 81) (.t 86)),oM 88 87,⟨(some 89),(.mov (.t 10)),(some (88,false)),[]⟩,⟨(some 90),(.len (.t 89)),(some (88,false)),[]⟩,⟨(some 91),(.bin .gtr (.t 90) (.c (.int .i64 32))),(some (88,false)),[]⟩,oI 92 (.pick (.t 88) (.c (.bool true)) (.t 91)),oM 93 92,⟨(some 94),(.mov (.t 11)),(some (93,false)),[]⟩,⟨(some 95),(.len (.t 94)),(some (93,false)),[]⟩,⟨(some 96),(.mov (.t 10)),(some (93,false)),[]⟩,⟨(some 97),(.len (.t 96)),(some (93,false)),[]⟩,⟨(some 98),(.bin .neq (.t 95) (.t 97)),(some (93,false)),[]⟩,oI 99 (.pick (.t 93) (.c (.bool true)) (.t 98))] none [99,11,10,4]) (.cond (.t 99) (.seq (.region [oI 2 (.mov (.c (.bool false)))] none [2]) .ret) .skip)) (.seq (.seq (.region [oI 12 (.mov (.c (.int .i64 0)))] none [12,11,10,4]) (.block 2 (.loop [12,11,10,4] ZlG))) Zrn))))
def ZkR:Zf:=Zjy
def ZeW:Zf:=(.seq (.seq (.region [oM 22 6,oM 23 0,oI 24 (.len (.t 23)),oI 25 (.bin .lss (.t 22) (.t 24)),oM 26 25,⟨(some 27),(.mov (.t 6)),(some (26,true)),[]⟩,⟨(some 28),(.bin .lss (.t 27) (.c (.int .i64 120))),(some (26,true)),[]⟩,oI 29 (.pick (.t 26) (.t 28) (.c (.bool false)))] none [29,6,5,4,3,0]) (.cond (.t 29) .skip (.exit 0))) (.seq (.block 1 (.seq (.region [oM 32 0,oM 33 6,oI 34 (.iaddr 1 (.t 32) (.t 33)),oL 35 34,oI 36 (.bin .and (.t 35) (.c (.int .i64 1))),oI 37 (.bin .add (.c (.int .i64 1)) (.t 36)),oM 38 0,oM 39 6,oI 40 (.iaddr 1 (.t 38) (.t 39)),oL 41 40,oI 42 (.bin .shr (.t 41) (.c (.int .u64 1))),oI 43 (.bin .and (.t 42) (.c (.int .i64 63))),oI 44 (.build [(.int .i64 0),(.int .i64 0)] [(0,1,(.t 37)),(1,1,(.t 43))]),oI 7 (.alloc [(.int .i64 0),(.int .i64 0)]),oN (.st 2 (.t 7) (.t 44))] (some [(2,8),(3,8),(2,9),(3,9),(2,13),(3,13),(8,13),(9,13)]) [7,6,5,4,3,0]) (.seq (.region [oM 45 3,oI 46 (.ld (some 2) (.t 7)),oI 47 (.call 17 0 true [(.t 45),(.t 46)]),oM 8 47] none [8,7,6,5,4,3,0]) (.seq (.region [oM 48 3,oI 49 (.ld (some 2) (.t 7)),oI 50 (.call 18 1 true [(.t 48),(.t 49)]),oM 9 50] none [9,8,7,6,5,4,3,0]) (.seq (.seq (.region [oM 51 9,oM 52 4,oF 53 0 7,oL 54 53,oF 55 1 7,oL 56 55,oI 57 (.build [(.int .i64 0),(.int .i64 0)] [(0,1,(.t 54)),(1,1,(.t 56))]),oI 58 (.call 19 1 true [(.t 52),(.t 57)]),oI 59 (.beq true (.t 51) (.t 58)),oM 60 59,⟨(some 61),(.mov (.t 8)),(some (60,false)),[]⟩,⟨(some 62),(.mov (.t 9)),(some (60,false)),[]⟩,⟨(some 63),(.beq false (.t 61) (.t 62)),(some (60,false)),[]⟩,oI 64 (.pick (.t 60) (.c (.bool true)) (.t 63)),oM 65 64,⟨(some 66),(.mov (.t 3)),(some (65,false)),[]⟩,⟨(some 67),(.ld (some 2) (.t 7)),(some (65,false)),[]⟩,⟨(some 68),(.call 17 0 true [(.t 66),(.t 67)]),(some (65,false)),[]⟩,⟨(some 69),(.un .not (.t 68)),(some (65,false)),[]⟩,oI 70 (.pick (.t 65) (.c (.bool true)) (.t 69))] none [70,7,6,5,4,3,0]) (.cond (.t 70) (.seq (.region [oI 2 (.mov (.c (.bool false)))] none [2]) .ret) .skip)) (.region [oM 71 5,oI 72 (.ld (some 2) (.t 7)),oI 73 (.bslice false 2 1 (.agg [(.int .i64 0),(.int .i64 0)]) [(0,(.t 72))]),oI 74 (.app 2 16 (.agg [(.int .i64 0),(.int .i64 0)]) (.t 71) (.t 73)),oM 5 74] none [6,5,4,3,0])))))) (.region [oM 30 6,oI 31 (.bin .add (.t 30) (.c (.int .i64 1))),oM 6 31] none [6,5,4,3,0])))
def ZcB:Zf:=ZeW
def ZkP:Zf:=(.seq (.region [oI 2 (.mov (.c (.bool false)))] none [0]) (.seq (.region [oI 13 (.call 16 2 false [(.c (.lst true []))]),oM 3 13] none [3,0]) (.seq (.seq (.region [oM 14 3,oI 15 (.peq false (.t 14) (.c .nilp)),oM 16 15,⟨(some 17),(.call 8 0 true []),(some (16,false)),[]⟩,⟨(some 18),(.un .not (.t 17)),(some (16,false)),[]⟩,oI 19 (.pick (.t 16) (.c (.bool true)) (.t 18))] none [19,3,0]) (.cond (.t 19) (.seq (.region [oI 2 (.mov (.c (.bool false)))] none [2]) .ret) .skip)) (.seq (.region [oI 20 (.build [(.lst true [])] []),oI 21 (.box (.t 20)),oM 4 21] none [4,3,0]) (.seq (.region [oI 5 (.mov (.c (.lst true [])))] none [5,4,3,0]) (.seq (.seq (.region [oI 6 (.mov (.c (.int .i64 0)))] none [6,5,4,3,0]) (.block 0 (.loop [6,5,4,3,0] ZcB))) ZkR))))))
def Zqr:ZF:=⟨[(.tmp 2)],ZkP⟩
theorem ZJu:FC 4=some Zqr:=by kernel_rfl
theorem ZuF:Zqr.body=ZkP:=rfl
theorem ZsF:Zqr.res=[(.tmp 2)]:=rfl
end
section
def Ze (m:Int×Int):AVal:=.agg [.int .i64 m.1,.int .i64 m.2]
theorem Zv4 (l:List (Int×Int)):kOk 2 (l.map Ze)=true:=by cases l <;> rfl
theorem ZtW (l:List (Int×Int)) (hl:l.length<=9223372036854775807) (m:Int×Int):∀ (r:List (Int×Int)) (i:Nat),l.drop i=r ->
  ∃ z,Zju 0 [(8,.int .i64 i),(7,.int .i64 l.length),(3,.ref 0 0),(0,.lst false (l.map Ze))] [.var [.int .i64 m.1,.int .i64 m.2]]=some (.int .i64 z,[])/\decide (z>=0)=r.contains m
 | [],i,h=>by
  have h1:=Zcw h
  refine ⟨-1,?_,by simp⟩
  unfold Zju
  rw [ZX]
  simp -implicitDefEqProofs only [EQA,Xc,Xb,reduceCtorEq,↓reduceIte,ZtD,ZAd,ZoT,Znf,Zi2,h1]
 | x::r,i,h=>by
  obtain ⟨z,ih,hz⟩:=ZtW l hl m r (i+1) (Zab h).2.1
  have h1:(i:Int) < l.length:=by have:=(Zab h).2.2;omega
  have e1:=iad (Zab h).1 Ze (k:=2) rfl
  have e3:=Zcn h1 hl
  have hbe:(m == x)=((m.1 == x.1) && (m.2 == x.2)):=rfl
  have e0:(Ze x).cells=[.int .i64 x.1,.int .i64 x.2]:=rfl
  simp only [e0] at e1
  have ka:ZdZ [0,0] [.int .i64 m.1,.int .i64 m.2]=true:=rfl
  generalize l.map Ze=S at *
  cases h2:(m.1 == x.1) <;> cases h3:(m.2 == x.2)
  case true.true =>
   refine ⟨i,?_,by simp only [WA,hbe,h2,h3,X0,W9];simp⟩
   unfold Zju at ih ⊢
   rw [ZX]
   simp -implicitDefEqProofs only [EQA,Xe,Xc,Xf,Xb,Xg,reduceCtorEq,↓reduceIte,ZtD,Znf,Zi2,h1,e1,h2,h3,ka,ZcV,ZcQ]
  all_goals
   refine ⟨z,?_,by rw [hz];simp only [WA,hbe,h2,h3,X0,WN,XaS,Bool.false_or]⟩
   unfold Zju at ih ⊢
   rw [ZX]
   simp -implicitDefEqProofs only [EQA,ZT,Zbk,Xe,Xc,Xf,Xb,Xg,reduceCtorEq,↓reduceIte,gcT,gcA,Zy,Zu,Zk,Zr,ZO,Zo,ZJ,ZB,ZG,Znf,Zi2,h1,e1,e3,h2,h3,ka,ZcV,ZcQ]
   exact ih
theorem ZBH (l:List (Int×Int)) (hl:l.length<=9223372036854775807) (m:Int×Int):∃ z,E 74 [.lst false (l.map Ze),.agg [.int .i64 m.1,.int .i64 m.2]] []=some (.int .i64 z,[])/\decide (z>=0)=l.contains m:=by
 obtain ⟨z,h,hz⟩:=ZtW l hl m l 0 rfl
 refine ⟨z,?_,hz⟩
 have z0:((0:Nat):Int)=0:=rfl
 rw [z0] at h
 unfold Zju at h
 rw [Zh (by rfl) ZKG]
 simp -implicitDefEqProofs only [EQA,ZT,Zbk,Xc,Xb,Xg,reduceCtorEq,↓reduceIte,gcT,gcA,Zy,Zu,Zk,Zr,ZO,Zo,ZJ,ZB,ZG,ZyU,Zo0,AVal.cells]
 exact h
theorem Zvi (l:List (Int×Int)) (hl:l.length<=9223372036854775807) (m:Int×Int):E 39 [.lst false (l.map Ze),.agg [.int .i64 m.1,.int .i64 m.2]] []=some (.bool (l.contains m),[]):=by
 obtain ⟨z,h,hz⟩:=ZBH l hl m
 have hC:∀ (σ:Za) (sq own:Nat),Zi E BY σ sq 74 own true [.lst false (l.map Ze),.agg [.int .i64 m.1,.int .i64 m.2]]=some (.int .i64 z,σ,{}):=fun σ sq own=>ZbJ h (by kernel_rfl) rfl rfl rfl (fun _=>rfl) σ sq own
 rw [Zh (by rfl) ZOn]
 rw [<-hz]
 simp -implicitDefEqProofs only [EQA,Xe,Xc,Xf,Xb,Xg,reduceCtorEq,↓reduceIte,ZJ6,Zpt,ZGu,hC,AVal.cells]
def sL (L:List (Int×Int)):Za:=[.var [.sl 1 0 0 L.length],.row 0 2 (L.map Ze)]
def sN:Za:=[.var [.lst true []]]
theorem ZnH (σ:Za) (t k g:Nat) (FS:List AVal) (n:Nat) (hn:n=FS.length) (hs:σ[t]?=some (.row g k FS)):ZR σ (.sl t g 0 n)=some (FS,[t]):=by
 subst hn
 simp [ZR,hs]
theorem Zvy (m:Int×Int):E 17 [.ref 0 0,.agg [.int .i64 m.1,.int .i64 m.2]] sN=some (.bool false,sN):=by
 have hC:=fun σ sq own=>ZbJ (bf:=BY) (Zvi [] (by decide) m) (by kernel_rfl) (args:=[.lst true [],.agg [.int .i64 m.1,.int .i64 m.2]]) rfl rfl rfl (fun _=>rfl) σ sq own
 rw [show ([]:List (Int×Int)).contains m=false from rfl] at hC
 unfold sN
 rw [Zh (by rfl) Zv0]
 simp -implicitDefEqProofs only [EQA,Zs,ZT,Xe,Xc,Xf,Xb,Xg,reduceCtorEq,↓reduceIte,Zd,Zy,Zu,ZG,ZuE,ZjL,Zt1,hC,AVal.cells]
theorem ZhJ (L:List (Int×Int)) (hl:L.length<=9223372036854775807) (m:Int×Int):E 17 [.ref 0 0,.agg [.int .i64 m.1,.int .i64 m.2]] (sL L)=some (.bool (L.contains m),sL L):=by
 have hq:=Zvi L hl m
 have hC:∀ {σ:Za} (hs:σ[1]?=some (.row 0 2 (L.map Ze))) (sq own:Nat),Zi E BY σ sq 39 own true [.sl 1 0 0 L.length,.agg [.int .i64 m.1,.int .i64 m.2]]=some (.bool (L.contains m),σ,{ rd:=[1] }):=by
  intro σ hs sq own
  refine ZHd (by kernel_rfl) (vs:=[.lst false (L.map Ze),.agg [.int .i64 m.1,.int .i64 m.2]]) ?_ ?_ ?_ hq rfl rfl sq own
  ·have he:=ZnH σ 1 2 0 (L.map Ze) L.length (by simp) hs
   simp only [showAs,showA,Zb8,Zcm,he,Xp]
  ·rfl
  ·rfl
 have ho:=fun (σ:Za)=>ZhO (r:=.bool (L.contains m)) (cs:=[.sl 1 0 0 L.length]) (g:=0) (w:=2) (xs:=L.map Ze) (σ:=σ) rfl rfl (by omega) (fun ρ h=>by simp only [Zg,Zm,h])
 clear hq
 unfold sL
 generalize L.map Ze=S at *
 rw [Zh (by rfl) Zv0]
 simp -implicitDefEqProofs only [EQA,Xe,Xc,Xf,Xb,Xg,reduceCtorEq,↓reduceIte,ZuE,ZjL,Zt1,hC,ho,AVal.cells]
def Zcl (L:List (Int×Int)) (m:Int×Int):List (Int×Int):=if L.contains m then L else if L.length < 32 then L++[m] else (L++[m]).drop 1
theorem Zr2 {L:List (Int×Int)} (h:L.length<=32) (m:Int×Int):(Zcl L m).length<=32:=by
 unfold Zcl
 split
 ·exact h
 ·split <;> simp <;> omega
theorem Zby {O:ZN} {bf:Nat->Bool} {σ:Za} {sq f own:Nat} {view:Bool} {args vs vs':List AVal} {ids:List Nat} {h0 h:Za} {r:AVal} (hb:bf f=false) (hsh:showAs σ args=some (vs,[])) (hre:Zu σ 1000 (Zp vs) []=ids) (hne:ids.isEmpty=false)
  (hall:(ids.all fun t=>okB (σ.getD t .free))=true) (hvs:Zg (Zk σ 0 ids) vs=vs') (hh:Zr σ 0 ids (Zk σ 0 ids) ids 0=h0) (hask:Z5 view ids.length (O f vs' h0)=some (r,h))
  (hl1:h.length<=ids.length+own) (hl2:ids.length<=h.length) (hk:ZaZ σ ids h 0=true) (hff:ZaY σ sq own=true) {r':AVal} (hr:Zm (ZaA σ ids sq) r=r') {σ':Za} (hlay:Za1 σ ids sq h 0 σ=σ') {u:List (Nat×List AVal)} (hu:Za4 σ' ids=u) :
  Zi O bf σ sq f own view args=some (r',σ',{ any:=true,upd:=u }):=by
 cases hO:O f vs' h0 with
 | none =>
  rw [hO] at hask
  unfold Z5 at hask
  split at hask <;> cases hask
 | some p =>
  rw [hO] at hask
  exact ZOo hb hsh hre hne hall hvs hh hO hask hl1 hl2 hk hff hr hlay hu
theorem Zte (m:Int×Int):E 18 [.ref 0 0,.agg [.int .i64 m.1,.int .i64 m.2]] sN=some (.bool true,sL [m]):=by
 have h1:=Zvy m
 unfold sN at h1
 have hC:∀ sq:Nat,Zi E BY [.var [.lst true []],.var [.int .i64 m.1,.int .i64 m.2]] sq 17 0 true [.ref 0 0,.agg [.int .i64 m.1,.int .i64 m.2]]=some (.bool false,[.var [.lst true []],.var [.int .i64 m.1,.int .i64 m.2]],{ any:=true,upd:=[(0,[.lst true []])] }):=fun sq =>
  Zby (vs:=[.ref 0 0,.agg [.int .i64 m.1,.int .i64 m.2]]) (vs':=[.ref 0 0,.agg [.int .i64 m.1,.int .i64 m.2]]) (ids:=[0]) (h0:=[.var [.lst true []]]) (h:=[.var [.lst true []]]) (r:=.bool false) (by kernel_rfl) rfl rfl rfl rfl rfl rfl (by rw [h1];rfl) (Xx _) (Xx _) rfl rfl rfl rfl rfl
 clear h1
 have hv:∀ σ:Za,viewAs σ [.agg [.int .i64 m.1,.int .i64 m.2]]=some ([.agg [.int .i64 m.1,.int .i64 m.2]],[]):=fun _=>rfl
 have hk:kOk 2 [.agg [.int .i64 m.1,.int .i64 m.2]]=true:=rfl
 have b1:1*16<=140737488355328:=by decide
 have hm:[m].map Ze=[.agg [.int .i64 m.1,.int .i64 m.2]]:=rfl
 have w1:¬(IntKind.i64.wrap (((1:Nat):Int) - 32) > 0):=by decide
 have ho:Z8 1 [.var [.sl 2 0 0 1],.var [.int .i64 m.1,.int .i64 m.2],.row 0 2 [.agg [.int .i64 m.1,.int .i64 m.2]]] (.bool true)=some (.bool true,[.var [.sl 1 0 0 1],.row 0 2 [.agg [.int .i64 m.1,.int .i64 m.2]]]):=rfl
 unfold sN sL
 rw [hm,Zh (by rfl) Zj5]
 simp -implicitDefEqProofs only [EQA,Xe,Xc,Xf,Xb,Xg,reduceCtorEq,ZR,↓reduceIte,Zmp,Zh6,ZjE,hC,hv,hk,b1,w1,ho,AVal.cells,Zn,Zay,Xah,ZS,Z0,Z4,Z7,Zak,Zaj,Zah,Zar,Zal,Z6,Xw]
theorem ZmT (L:List (Int×Int)) (hl:L.length<=9223372036854775807) (m:Int×Int) (sq:Nat):Zi E BY [.var [.sl 1 0 0 L.length],.row 0 2 (L.map Ze),.var [.int .i64 m.1,.int .i64 m.2]] sq 17 0 true [.ref 0 0,.agg [.int .i64 m.1,.int .i64 m.2]]=some (.bool (L.contains m),[.var [.sl 1 0 0 L.length],.row 0 2 (L.map Ze),.var [.int .i64 m.1,.int .i64 m.2]],{ any:=true,upd:=[(0,[.sl 1 0 0 L.length])] }):=by
 have h1:=ZhJ L hl m
 unfold sL at h1
 exact Zby (vs:=[.ref 0 0,.agg [.int .i64 m.1,.int .i64 m.2]]) (vs':=[.ref 0 0,.agg [.int .i64 m.1,.int .i64 m.2]]) (ids:=[0,1]) (h0:=[.var [.sl 1 0 0 L.length],.row 0 2 (L.map Ze)]) (h:=[.var [.sl 1 0 0 L.length],.row 0 2 (L.map Ze)]) (r:=.bool (L.contains m)) (by kernel_rfl) rfl rfl rfl rfl rfl rfl (by rw [h1];rfl) (Xx _) (Xx _) rfl rfl rfl rfl rfl
theorem ZrX (L:List (Int×Int)) (hl:L.length<=32) (m:Int×Int) (hm:L.contains m=true):E 18 [.ref 0 0,.agg [.int .i64 m.1,.int .i64 m.2]] (sL L)=some (.bool false,sL L):=by
 have hC:=ZmT L (by omega) m
 rw [hm] at hC
 have ho:=fun (σ:Za)=>ZhO (r:=.bool false) (cs:=[.sl 1 0 0 L.length]) (g:=0) (w:=2) (xs:=L.map Ze) (σ:=σ) rfl rfl (by omega) (fun ρ h=>by simp only [Zg,Zm,h])
 unfold sL
 generalize L.map Ze=S at *
 rw [Zh (by rfl) Zj5]
 simp -implicitDefEqProofs only [EQA,Xe,Xc,Xf,Xb,Xg,reduceCtorEq,↓reduceIte,Zmp,Zh6,ZjE,hC,ho,AVal.cells]
theorem Zr8 (L:List (Int×Int)) (hl:L.length < 32) (m:Int×Int) (hm:L.contains m=false):E 18 [.ref 0 0,.agg [.int .i64 m.1,.int .i64 m.2]] (sL L)=some (.bool true,[.var [.sl 1 1 0 (L.length+1)],.row 1 2 ((L++[m]).map Ze)]):=by
 have hC:=ZmT L (by omega) m
 rw [hm] at hC
 have hv:∀ σ:Za,viewAs σ [.agg [.int .i64 m.1,.int .i64 m.2]]=some ([.agg [.int .i64 m.1,.int .i64 m.2]],[]):=fun _=>rfl
 have hk:kOk 2 [.agg [.int .i64 m.1,.int .i64 m.2]]=true:=rfl
 have b1:(L.length+1)*16<=140737488355328:=by omega
 have hm:(L++[m]).map Ze=L.map Ze++[.agg [.int .i64 m.1,.int .i64 m.2]]:=by simp [Ze]
 have hS:(L.map Ze).length=L.length:=by simp
 have hw:IntKind.i64.wrap (((L.length+1:Nat):Int) - 32)=((L.length+1:Nat):Int) - 32:=wrap_i64 (by omega) (by omega)
 have hg:¬(((L.length+1:Nat):Int) - 32 > 0):=by omega
 have ho:=fun (σ:Za)=>ZhO (r:=.bool true) (cs:=[.sl 1 1 0 (L.length+1)]) (g:=1) (w:=2) (xs:=L.map Ze++[.agg [.int .i64 m.1,.int .i64 m.2]]) (σ:=σ) rfl rfl (by omega) (fun ρ h=>by simp only [Zg,Zm,h])
 unfold sL
 rw [hm]
 generalize L.map Ze=S at *
 generalize L.length=n at *
 rw [Zh (by rfl) Zj5]
 simp -implicitDefEqProofs only [EQA,Xe,Xc,Xf,Xb,Xg,reduceCtorEq,ZR,↓reduceIte,Zmp,Zh6,ZjE,hC,ho,hv,hk,b1,hS,hw,hg,AVal.cells,Zn,Zay,ZS,Z0,Z4,Z7,Zak,Zaj,Zah,Zar,Zal,Z6,Xw]
end
section
theorem Zvd (L:List (Int×Int)) (h:L.length<=1000000):E 40 [.lst false (L.map Ze)] []=some (.sl 0 0 0 L.length,[.row 0 2 (L.map Ze)]):=by
 refine Zco.2 ⟨1,?_⟩
 show Zev 2 16 [.lst false (L.map Ze)] []=_
 have h1:(L.map Ze).length*16<=140737488355328/\kOk 2 (L.map Ze)=true:=⟨by simp;omega,Zv4 L⟩
 simp only [Zev,ZR]
 rw [if_pos h1];simp
theorem ZFy (L:List (Int×Int)):(L.map Ze).all Zbn=true:=by
 rw [List.all_eq_true]
 intro x hx
 obtain ⟨b,_,rfl⟩:=List.mem_map.1 hx
 rfl
theorem ZwS (σ:Za) (sq t g p:Nat) (L:List (Int×Int)) (X:List AVal) (h:L.length<=1000000) (hs:σ[t]?=some (.row g 2 X)) (hp:p+L.length<=X.length) (hX:(X.drop p).take L.length=L.map Ze):Zi E BY σ sq 40 1 false [.sl t g p L.length]=some (.sl sq 0 0 L.length,σ.set sq (.row 0 2 (L.map Ze)),{ rd:=[t] }):=by
 have hsh:showAs σ [.sl t g p L.length]=some ([.lst false (L.map Ze)],[t]):=by
  simp only [showAs,showA,Zb8,ZR,hs,hp,and_self,if_true,hX]
  rfl
 have hb:BY 40=false:=by kernel_rfl
 unfold Zi Zbx
 rw [hb]
 simp only [Xi,if_false,hsh]
 have h0:Zu (Zn σ [t]) 1000 (Zp [.lst false (L.map Ze)]) []=[]:=rfl
 rw [h0]
 unfold Zbl
 simp only [Wj,if_true,Zr,XG,Zg,Zm,Z5,Xi,if_false]
 rw [Zvd L h]
 have hf:=ZFy L
 simp only [Zaw,WK,Wp,XaS,Xi,if_false,if_true,Zhi,hf,decide_true,X0]
theorem ZsU (L:List (Int×Int)) (hl:L.length=32) (m:Int×Int) (hm:L.contains m=false):E 18 [.ref 0 0,.agg [.int .i64 m.1,.int .i64 m.2]] (sL L)=some (.bool true,[.var [.sl 2 0 0 32],.row 1 2 ((L++[m]).map Ze),.row 0 2 (((L++[m]).drop 1).map Ze)]):=by
 have hC:=ZmT L (by omega) m
 rw [hm,hl] at hC
 have hv:∀ σ:Za,viewAs σ [.agg [.int .i64 m.1,.int .i64 m.2]]=some ([.agg [.int .i64 m.1,.int .i64 m.2]],[]):=fun _=>rfl
 have hk:kOk 2 [.agg [.int .i64 m.1,.int .i64 m.2]]=true:=rfl
 have b1:(32+1)*16<=140737488355328:=by decide
 have hm:(L++[m]).map Ze=L.map Ze++[.agg [.int .i64 m.1,.int .i64 m.2]]:=by simp [Ze]
 have hS:(L.map Ze).length=32:=by simp [hl]
 have hD:((L++[m]).drop 1).length=32:=by simp [hl]
 have hDX:((L.map Ze++[AVal.agg [.int .i64 m.1,.int .i64 m.2]]).drop 1).take 32=((L++[m]).drop 1).map Ze:=by
  rw [<-hm,<-List.map_drop,XN (by simp [hl])]
 have hXl:(L.map Ze++[AVal.agg [.int .i64 m.1,.int .i64 m.2]]).length=33:=by simp [hl]
 have hw:IntKind.i64.wrap (((32+1:Nat):Int) - 32)=1:=by decide
 have hg:(1:Int) > 0:=by decide
 have hCl:=fun (σ:Za) (sq:Nat) (hs:σ[1]?=some (.row 1 2 (L.map Ze++[AVal.agg [.int .i64 m.1,.int .i64 m.2]])))=>ZwS σ sq 1 1 1 ((L++[m]).drop 1) _ (by rw [hD];decide) hs (by rw [hD,hXl];decide) (by rw [hD];exact hDX)
 rw [hD] at hCl
 unfold sL
 rw [hm,hl]
 generalize ((L++[m]).drop 1).map Ze=D at *
 generalize L.map Ze=S at *
 clear hm
 have hX1:∀ {σ:Za} (hs:σ[1]?=some (.row 1 2 (S++[AVal.agg [.int .i64 m.1,.int .i64 m.2]]))),Zbv σ 2 (.sl 1 1 0 33) (some (.int .i64 1)) none none=some (.sl 1 1 1 32,σ,{ rd:=[1] }):=by
  intro σ hs
  simp [Zbv,ZR,hs,hXl,Za8,ZcT]
 have ho:∀ b2,Z8 2 [.var [.sl 4 0 0 32],.row 1 2 (S++[AVal.agg [.int .i64 m.1,.int .i64 m.2]]),b2,.free,.row 0 2 D] (.bool true)=some (.bool true,[.var [.sl 2 0 0 32],.row 1 2 (S++[AVal.agg [.int .i64 m.1,.int .i64 m.2]]),.row 0 2 D]):=fun _=>rfl
 rw [Zh (by rfl) Zj5]
 simp -implicitDefEqProofs only [EQA,Xe,Xc,Xf,Xb,Xg,Nat.reduceMul,reduceCtorEq,ZR,↓reduceIte,Zmp,Zh6,ZjE,hC,hv,hk,b1,hS,hw,hg,hCl,hX1,ho,AVal.cells,Zn,Zay,ZS,Z0,Z4,Z7,Zak,Zaj,Zah,Zar,Zal,Z6,Xw]
theorem ZCw (m:Int×Int) (c:List AVal):Zi E BY [.var [.lst true []],.var c,.free] 2 18 1 true [.ref 0 0,.agg [.int .i64 m.1,.int .i64 m.2]]=some (.bool true,[.var [.sl 2 0 0 1],.var c,.row 0 2 [.agg [.int .i64 m.1,.int .i64 m.2]]],{ any:=true,upd:=[(0,[.sl 2 0 0 1])] }):=by
 have h1:=Zte m
 unfold sN sL at h1
 exact Zby (vs:=[.ref 0 0,.agg [.int .i64 m.1,.int .i64 m.2]]) (vs':=[.ref 0 0,.agg [.int .i64 m.1,.int .i64 m.2]]) (ids:=[0]) (h0:=[.var [.lst true []]]) (h:=[.var [.sl 1 0 0 1],.row 0 2 [.agg [.int .i64 m.1,.int .i64 m.2]]]) (r:=.bool true) (by kernel_rfl) rfl rfl rfl rfl rfl rfl (by rw [h1];rfl) (Xx _) (Xo rfl) rfl rfl rfl rfl rfl
theorem ZLA (L:List (Int×Int)) (hl:L.length<=32) (m:Int×Int) (hm:L.contains m=true) (c:List AVal):Zi E BY [.var [.sl 1 0 0 L.length],.row 0 2 (L.map Ze),.var c,.free] 3 18 1 true [.ref 0 0,.agg [.int .i64 m.1,.int .i64 m.2]]=some (.bool false,[.var [.sl 1 0 0 L.length],.row 0 2 (L.map Ze),.var c,.free],{ any:=true,upd:=[(0,[.sl 1 0 0 L.length])] }):=by
 have h1:=ZrX L hl m hm
 unfold sL at h1
 exact Zby (vs:=[.ref 0 0,.agg [.int .i64 m.1,.int .i64 m.2]]) (vs':=[.ref 0 0,.agg [.int .i64 m.1,.int .i64 m.2]]) (ids:=[0,1]) (h0:=[.var [.sl 1 0 0 L.length],.row 0 2 (L.map Ze)]) (h:=[.var [.sl 1 0 0 L.length],.row 0 2 (L.map Ze)]) (r:=.bool false) (by kernel_rfl) rfl rfl rfl rfl rfl rfl (by rw [h1];rfl) (Xo rfl) (Xx _) rfl rfl rfl rfl rfl
theorem ZEk (L:List (Int×Int)) (hl:L.length < 32) (m:Int×Int) (hm:L.contains m=false) (c:List AVal):Zi E BY [.var [.sl 1 0 0 L.length],.row 0 2 (L.map Ze),.var c,.free] 3 18 1 true [.ref 0 0,.agg [.int .i64 m.1,.int .i64 m.2]]=some (.bool true,[.var [.sl 1 1 0 (L.length+1)],.row 1 2 ((L++[m]).map Ze),.var c,.free],{ any:=true,upd:=[(0,[.sl 1 1 0 (L.length+1)])] }):=by
 have h1:=Zr8 L hl m hm
 unfold sL at h1
 exact Zby (vs:=[.ref 0 0,.agg [.int .i64 m.1,.int .i64 m.2]]) (vs':=[.ref 0 0,.agg [.int .i64 m.1,.int .i64 m.2]]) (ids:=[0,1]) (h0:=[.var [.sl 1 0 0 L.length],.row 0 2 (L.map Ze)]) (h:=[.var [.sl 1 1 0 (L.length+1)],.row 1 2 ((L++[m]).map Ze)]) (r:=.bool true) (by kernel_rfl) rfl rfl rfl rfl rfl rfl (by rw [h1];rfl) (Xo rfl) (Xx _) rfl rfl rfl rfl rfl
theorem Zxa (L:List (Int×Int)) (hl:L.length=32) (m:Int×Int) (hm:L.contains m=false) (c:List AVal):Zi E BY [.var [.sl 1 0 0 L.length],.row 0 2 (L.map Ze),.var c,.free] 3 18 1 true [.ref 0 0,.agg [.int .i64 m.1,.int .i64 m.2]]=some (.bool true,[.var [.sl 3 0 0 32],.row 1 2 ((L++[m]).map Ze),.var c,.row 0 2 (((L++[m]).drop 1).map Ze)],{ any:=true,upd:=[(0,[.sl 3 0 0 32])] }):=by
 have h1:=ZsU L hl m hm
 unfold sL at h1
 exact Zby (vs:=[.ref 0 0,.agg [.int .i64 m.1,.int .i64 m.2]]) (vs':=[.ref 0 0,.agg [.int .i64 m.1,.int .i64 m.2]]) (ids:=[0,1]) (h0:=[.var [.sl 1 0 0 L.length],.row 0 2 (L.map Ze)]) (h:=[.var [.sl 2 0 0 32],.row 1 2 ((L++[m]).map Ze),.row 0 2 (((L++[m]).drop 1).map Ze)]) (r:=.bool true) (by kernel_rfl) rfl rfl rfl rfl rfl rfl (by rw [h1];rfl) (Xo rfl) (Xo rfl) rfl rfl rfl rfl rfl
def Zaq (L:List (Int×Int)):List (Int×Int)->List (Int×Int)
 | []=>L
 | m::r=>Zaq (Zcl L m) r
theorem ZsX (A:List (Int×Int)) (hA:A.length<=9223372036854775807):∀ (r L:List (Int×Int)) (i:Nat),A.drop i=r->i<=A.length->L.length<=32 ->
  Zh2 0 [(10,.int .i64 (i:Int)),(9,.int .i64 (A.length:Int)),(8,.lst false (A.map Ze)),(3,.ref 0 0)] (sL L)=some (.ref 0 0,sL (Zaq L r))
 | [],L,i,h,hi,hl=>by
  have h1:=Zcw h
  unfold Zh2 sL Zaq
  generalize A.map Ze=S at *
  rw [ZX]
  simp -implicitDefEqProofs only [EQA,Xe,Xc,Xb,↓reduceIte,ZPa,ZK7,ZpG,Zjn,ZgT,h1]
  rfl
 | m::r,L,i,h,hi,hl=>by
  obtain ⟨g1,d1,l1⟩:=Zab h
  have ih:=ZsX A hA r (Zcl L m) (i+1) d1 (by omega) (Zr2 hl m)
  have h1:(i:Int) < (A.length:Int):=by omega
  have e1:=iad g1 Ze (k:=2) rfl
  have e3:=Zcn h1 hA
  have e0:(Ze m).cells=[.int .i64 m.1,.int .i64 m.2]:=rfl
  simp only [e0] at e1
  rw [Zaq]
  cases hm:L.contains m with
  | true =>
   have hC:=ZLA L hl m hm
   have ha:Zcl L m=L:=by unfold Zcl;rw [if_pos hm]
   rw [ha] at ih ⊢
   unfold Zh2 sL at ih ⊢
   rw [ZX]
   generalize A.map Ze=S at *
   generalize L.map Ze=X at *
   simp -implicitDefEqProofs only [EQA,ZT,Zbk,Xe,Xc,Xf,Xb,Xg,reduceCtorEq,↓reduceIte,gcT,gcA,Zy,Zu,Zk,Zr,ZO,Zo,ZJ,ZB,ZG,Zjn,ZgT,h1,e1,e3,hC,AVal.cells,ZS]
   exact ih
  | false =>
   by_cases h32:L.length < 32
   ·have hC:=ZEk L h32 m hm
    have ha:Zcl L m=L++[m]:=by unfold Zcl;rw [if_neg (by rw [hm];decide),if_pos h32]
    rw [ha] at ih ⊢
    have hln:(L++[m]).length=L.length+1:=by simp
    unfold Zh2 sL at ih ⊢
    rw [hln] at ih
    rw [ZX]
    generalize A.map Ze=S at *
    generalize (L++[m]).map Ze=X2 at *
    generalize L.map Ze=X at *
    simp -implicitDefEqProofs only [EQA,ZT,Zbk,Xe,Xc,Xf,Xb,Xg,reduceCtorEq,↓reduceIte,gcT,gcA,Zy,Zu,Zk,Zr,ZO,Zo,ZJ,ZB,ZG,Zjn,ZgT,h1,e1,e3,hC,AVal.cells,ZS]
    exact ih
   ·have hC:=Zxa L (by omega) m hm
    have ha:Zcl L m=(L++[m]).drop 1:=by unfold Zcl;rw [if_neg (by rw [hm];decide),if_neg h32]
    rw [ha] at ih ⊢
    have hln:((L++[m]).drop 1).length=32:=by simp;omega
    unfold Zh2 sL at ih ⊢
    rw [hln] at ih
    rw [ZX]
    generalize A.map Ze=S at *
    generalize ((L++[m]).drop 1).map Ze=X3 at *
    generalize (L++[m]).map Ze=X2 at *
    generalize L.map Ze=X at *
    simp -implicitDefEqProofs only [EQA,ZT,Zbk,Xe,Xc,Xf,Xb,Xg,reduceCtorEq,↓reduceIte,gcT,gcA,Zy,Zu,Zk,Zr,ZO,Zo,ZJ,ZB,ZG,Zjn,ZgT,h1,e1,e3,hC,AVal.cells,ZS]
    exact ih
theorem Zs8:E 16 [.lst false []] []=some (.ref 0 0,sN):=Zco.2 ⟨20,by kernel_rfl⟩
theorem ZCH (m:Int×Int) (A:List (Int×Int)) (hA:(m::A).length<=9223372036854775807):E 16 [.lst false ((m::A).map Ze)] []=some (.ref 0 0,sL (Zaq [m] A)):=by
 have ih:=ZsX (m::A) hA A [m] 1 rfl (by simp) (by simp)
 have hC:=ZCw m
 have e1:=iad (l:=m::A) (i:=0) (x:=m) rfl Ze (k:=2) rfl
 have e0:(Ze m).cells=[.int .i64 m.1,.int .i64 m.2]:=rfl
 simp only [e0] at e1
 have z0:((0:Nat):Int)=0:=rfl
 rw [z0] at e1
 have h1:(0:Int) < ((m::A).length:Int):=by simp only [XH];omega
 have e3:IntKind.i64.wrap (0+1)=((1:Nat):Int):=by decide
 have hLn:((m::A).map Ze).length=(m::A).length:=by simp
 have hm1:[m].map Ze=[.agg [.int .i64 m.1,.int .i64 m.2]]:=rfl
 unfold Zh2 sL at ih
 rw [hm1,XaD] at ih
 rw [Zh (by rfl) ZFi]
 generalize (m::A).map Ze=S at *
 generalize (m::A).length=n at *
 simp -implicitDefEqProofs only [EQA,ZT,Zbk,Xc,Xb,Xg,reduceCtorEq,↓reduceIte,gcT,gcA,Zy,Zu,Zk,Zr,ZO,Zo,ZJ,ZB,ZG,Zyd,Zqs,hLn,Zam,AVal.cells]
 rw [ZX]
 simp -implicitDefEqProofs only [EQA,ZT,Zbk,Xe,Xc,Xf,Xb,Xg,reduceCtorEq,↓reduceIte,gcT,gcA,Zy,Zu,Zk,Zr,ZO,Zo,ZJ,ZB,ZG,Zjn,ZgT,h1,e1,e3,hC,AVal.cells,ZS]
 exact ih
end
section
def Zc1 (fz:Bool) (S:List AVal):ZK:=if fz then .frow 0 2 S else .row 0 2 S
theorem ZLr (σ:Za) (sq own:Nat) (L:List (Int×Int)) (h:L.length<=1000000) (hs:σ[1]?=some (.row 0 2 (L.map Ze))) :
  Zi E BY σ sq 40 own true [.sl 1 0 0 L.length]=some (.lst false (L.map Ze),Zn σ [1],{ rd:=[1],wr:=[1] }) \/
  Zi E BY σ sq 40 own true [.sl 1 0 0 L.length]=some (.lst false (L.map Ze),σ,{ rd:=[1] }):=by
 have he:=ZnH σ 1 2 0 (L.map Ze) L.length (by simp) hs
 have hsh:showAs σ [.sl 1 0 0 L.length]=some ([.lst false (L.map Ze)],[1]):=by
  simp only [showAs,showA,Zb8,he,Xp]
 have hb:BY 40=false:=by kernel_rfl
 have hq:=Zvd L h
 have hr:Z5 true 0 (some (.sl 0 0 0 L.length,[.row 0 2 (L.map Ze)]))=some (.lst false (L.map Ze),[]):=by
  unfold Z5
  rw [if_pos rfl,Zvr (k:=2) (g:=0) (t:=0) (xs:=L.map Ze) rfl (by simp),XN (by simp)]
 generalize L.map Ze=S at *
 unfold Zi Zbx
 rw [hb]
 simp only [Xi,if_false,hsh]
 rw [show Zp [AVal.lst false S]=[] from rfl]
 have h2:∀ σ,Zu σ 1000 [] []=[]:=fun _=>rfl
 rw [h2]
 unfold Zbl
 rw [if_pos (by rfl)]
 have h3:∀ σ,Zg (Zk σ 0 []) [AVal.lst false S]=[.lst false S]:=fun _=>rfl
 have h4:∀ σ,Zr σ 0 [] (Zk σ 0 []) [] 0=[]:=fun _=>rfl
 rw [h3,h4,hq,XG,hr]
 simp only [Zaw,WK,X0,if_true]
 by_cases h5:Zbs (.lst false S)=true
 ·rw [if_pos h5];exact Xy rfl
 ·rw [if_neg h5]
  by_cases h6:ZcY σ [1] (.lst false S)=true
  ·rw [if_pos h6];exact Xy rfl
  ·rw [if_neg h6];exact Xr rfl
theorem ZHM (L:List (Int×Int)) (h:L.length<=32):∃ fz,E 20 [.ref 0 0] (sL L)=some (.lst false (L.map Ze),[.var [.sl 1 0 0 L.length],Zc1 fz (L.map Ze)]):=by
 have hc:=ZLr (sL L) 2 0 L (by omega) rfl
 unfold sL at hc ⊢
 have hf:Zn [.var [.sl 1 0 0 L.length],.row 0 2 (L.map Ze)] [1]=[.var [.sl 1 0 0 L.length],.frow 0 2 (L.map Ze)]:=rfl
 rw [hf] at hc
 generalize L.map Ze=S at *
 rcases hc with hc | hc
 ·refine ⟨true,?_⟩
  have ho:Z8 2 [.var [.sl 1 0 0 L.length],.frow 0 2 S] (.lst false S)=some (.lst false S,[.var [.sl 1 0 0 L.length],.frow 0 2 S]):=rfl
  rw [Zh (by rfl) ZtX]
  unfold Zc1
  simp -implicitDefEqProofs only [EQA,Xe,Xc,Xb,reduceCtorEq,↓reduceIte,Zwl,Zk7,Ztd,hc,ho]
 ·refine ⟨false,?_⟩
  have ho:Z8 2 [.var [.sl 1 0 0 L.length],.row 0 2 S] (.lst false S)=some (.lst false S,[.var [.sl 1 0 0 L.length],.row 0 2 S]):=rfl
  rw [Zh (by rfl) ZtX]
  unfold Zc1
  simp -implicitDefEqProofs only [EQA,Xe,Xc,Xb,reduceCtorEq,↓reduceIte,Zwl,Zk7,Ztd,hc,ho]
theorem ZxU:E 20 [.ref 0 0] sN=some (.lst false [],sN):=Zco.2 ⟨20,by kernel_rfl⟩
def rX (off n:Nat) (X:List AVal):Za:=[.var [.sl 1 0 off n],.row 0 2 X]
theorem Zsp (X:List AVal) (off:Nat) (L:List (Int×Int)) (hX:X.drop off=L.map Ze) (ho:off<=X.length) (hl:L.length<=9223372036854775807) (m:Int×Int):∀ (r:List (Int×Int)) (i:Nat),L.drop i=r ->
  ZiF 2 [(5,.int .i64 (i:Int)),(3,.ref 2 0),(0,.ref 0 0)] [.var [.sl 1 0 off L.length],.row 0 2 X,.var [.int .i64 m.1,.int .i64 m.2]]=some (.bool (r.contains m),rX off L.length X)
 | [],i,h=>by
  have h1:=Zcw h
  have ho:∀ q,Z8 2 [.var [.sl 1 0 off L.length],.row 0 2 X,q] (.bool false)=some (.bool false,rX off L.length X):=fun _=>rfl
  unfold ZiF
  rw [ZX]
  rw [show ([]:List (Int×Int)).contains m=false from rfl]
  simp -implicitDefEqProofs only [EQA,Xe,Xc,Xb,reduceCtorEq,↓reduceIte,ZpA,ZrP,Zlp,Zmr,ZhP,h1,ho]
 | x::r,i,h=>by
  have ih:=Zsp X off L hX ho hl m r (i+1) (Zab h).2.1
  obtain ⟨g1,d1,l1⟩:=Zab h
  have h1:(i:Int) < L.length:=by omega
  have e3:=Zcn h1 hl
  have hxl:X.length=off+L.length:=by
   have:=congrArg W3 hX
   rw [X6,XT] at this;omega
  have hel:∀ {σ:Za} (hs:σ[1]?=some (.row 0 2 X)),Zca σ 2 (.sl 1 0 off L.length) (.int .i64 (i:Int))=some (.eref 1 0 (off+i) 0,σ,{ rd:=[1] }):=by
   intro σ hs
   have : off+L.length<=X.length:=by omega
   simp [Zca,hs,l1]
  have hXi:X[off+i]?=some (.agg [.int .i64 x.1,.int .i64 x.2]):=by
   have:=congrArg (fun l=>l[i]?) hX
   simp only [List.getElem?_drop,List.getElem?_map,g1] at this
   exact this
  have ho:∀ q,Z8 2 [.var [.sl 1 0 off L.length],.row 0 2 X,q] (.bool true)=some (.bool true,rX off L.length X):=fun _=>rfl
  have hbe:(m == x)=((m.1 == x.1) && (m.2 == x.2)):=rfl
  have hbx:∀ a b:Int,(a == b)=(b == a):=fun a b=>by
   by_cases h:a=b
   ·rw [h]
   ·rw [beq_eq_false_iff_ne.2 h,beq_eq_false_iff_ne.2 (fun e=>h e.symm)]
  have ka:ZdZ [0,0] [.int .i64 x.1,.int .i64 x.2]=true:=rfl
  cases h2:(m.1 == x.1) <;> cases h3:(m.2 == x.2)
  case true.true =>
   have h2':=(hbx x.1 m.1).trans h2
   have h3':=(hbx x.2 m.2).trans h3
   rw [show (x::r).contains m=true by simp only [WA,hbe,h2,h3,X0,W9]]
   unfold ZiF at ih ⊢
   rw [ZX]
   simp -implicitDefEqProofs only [EQA,Xe,Xc,Xf,Xb,Xg,reduceCtorEq,↓reduceIte,ZpA,Zmr,ZhP,h1,hel,hXi,ho,h2',h3',ka,ZcV,ZcQ,AVal.cells]
  all_goals
   have h2':=(hbx x.1 m.1).trans h2
   have h3':=(hbx x.2 m.2).trans h3
   rw [show (x::r).contains m=r.contains m by simp only [WA,hbe,h2,h3,X0,WN,XaS,Bool.false_or]]
   unfold ZiF at ih ⊢
   rw [ZX]
   simp -implicitDefEqProofs only [EQA,ZT,Xe,Xc,Xf,Xb,Xg,reduceCtorEq,↓reduceIte,gcT,gcA,Zy,Zu,Zk,Zr,ZO,Zo,ZJ,ZB,ZG,WG,Zmr,ZhP,h1,e3,hel,hXi,h2',h3',ka,ZcV,ZcQ,AVal.cells]
   exact ih
theorem ZEd (X:List AVal) (off:Nat) (L:List (Int×Int)) (hX:X.drop off=L.map Ze) (ho:off<=X.length) (hl:L.length<=9223372036854775807) (m:Int×Int):E 41 [.ref 0 0,.agg [.int .i64 m.1,.int .i64 m.2]] (rX off L.length X)=some (.bool (L.contains m),rX off L.length X):=by
 have h:=Zsp X off L hX ho hl m L 0 rfl
 have z0:((0:Nat):Int)=0:=rfl
 rw [z0] at h
 unfold ZiF at h
 unfold rX at h ⊢
 rw [Zh (by rfl) Zu9]
 simp -implicitDefEqProofs only [EQA,ZT,Xe,Xc,Xb,Xg,reduceCtorEq,↓reduceIte,gcT,gcA,Zy,Zu,Zk,Zr,ZO,Zo,ZJ,ZB,ZG,WG,Zs1,Zkm,AVal.cells]
 exact h
theorem ZFZ (m:Int×Int):E 41 [.ref 0 0,.agg [.int .i64 m.1,.int .i64 m.2]] sN=some (.bool false,sN):=by
 have h1:¬(0:Int) < ((0:Nat):Int):=by decide
 unfold sN
 rw [Zh (by rfl) Zu9]
 simp -implicitDefEqProofs only [EQA,ZT,Xe,Xc,Xb,Xg,reduceCtorEq,↓reduceIte,gcT,gcA,Zy,Zu,Zk,Zr,ZO,Zo,ZJ,ZB,ZG,WG,Zs1,Zkm,AVal.cells]
 rw [ZX]
 simp -implicitDefEqProofs only [EQA,Zs,ZT,Xe,Xc,Xb,reduceCtorEq,↓reduceIte,Zd,ZpA,ZrP,Zlp,Zmr,ZhP,h1]
theorem Zz7 (m:Int×Int) (sq:Nat):Zi E BY [.var [.lst true []],.var [.int .i64 m.1,.int .i64 m.2]] sq 41 0 true [.ref 0 0,.agg [.int .i64 m.1,.int .i64 m.2]]=some (.bool false,[.var [.lst true []],.var [.int .i64 m.1,.int .i64 m.2]],{ any:=true,upd:=[(0,[.lst true []])] }):=by
 have h1:=ZFZ m
 unfold sN at h1
 exact Zby (vs:=[.ref 0 0,.agg [.int .i64 m.1,.int .i64 m.2]]) (vs':=[.ref 0 0,.agg [.int .i64 m.1,.int .i64 m.2]]) (ids:=[0]) (h0:=[.var [.lst true []]]) (h:=[.var [.lst true []]]) (r:=.bool false) (by kernel_rfl) rfl rfl rfl rfl rfl rfl (by rw [h1];rfl) (Xx _) (Xx _) rfl rfl rfl rfl rfl
theorem Zve (X:List AVal) (off:Nat) (L:List (Int×Int)) (hX:X.drop off=L.map Ze) (ho:off<=X.length) (hl:L.length<=9223372036854775807) (m:Int×Int) (sq:Nat):Zi E BY [.var [.sl 1 0 off L.length],.row 0 2 X,.var [.int .i64 m.1,.int .i64 m.2]] sq 41 0 true [.ref 0 0,.agg [.int .i64 m.1,.int .i64 m.2]]=some (.bool (L.contains m),[.var [.sl 1 0 off L.length],.row 0 2 X,.var [.int .i64 m.1,.int .i64 m.2]],{ any:=true,upd:=[(0,[.sl 1 0 off L.length])] }):=by
 have h1:=ZEd X off L hX ho hl m
 unfold rX at h1
 exact Zby (vs:=[.ref 0 0,.agg [.int .i64 m.1,.int .i64 m.2]]) (vs':=[.ref 0 0,.agg [.int .i64 m.1,.int .i64 m.2]]) (ids:=[0,1]) (h0:=[.var [.sl 1 0 off L.length],.row 0 2 X]) (h:=[.var [.sl 1 0 off L.length],.row 0 2 X]) (r:=.bool (L.contains m)) (by kernel_rfl) rfl rfl rfl rfl rfl rfl (by rw [h1];rfl) (Xx _) (Xx _) rfl rfl rfl rfl rfl
theorem ZNa (m:Int×Int):E 19 [.ref 0 0,.agg [.int .i64 m.1,.int .i64 m.2]] sN=some (.bool true,sL [m]):=by
 have hC:=Zz7 m
 have hv:∀ σ:Za,viewAs σ [.agg [.int .i64 m.1,.int .i64 m.2]]=some ([.agg [.int .i64 m.1,.int .i64 m.2]],[]):=fun _=>rfl
 have hk:kOk 2 [.agg [.int .i64 m.1,.int .i64 m.2]]=true:=rfl
 have hk0:kOk 2 []=true:=rfl
 have b0:0*16<=140737488355328:=by decide
 have b1:(0+1)*16<=140737488355328:=by decide
 have w1:¬(((0+1:Nat):Int) > 32):=by decide
 have hm:[m].map Ze=[.agg [.int .i64 m.1,.int .i64 m.2]]:=rfl
 have ho:∀ a b:ZK,Z8 1 [.var [.sl 2 1 0 1],a,.row 1 2 [.agg [.int .i64 m.1,.int .i64 m.2]],b] (.bool true)=some (.bool true,[.var [.sl 1 0 0 1],.row 0 2 [.agg [.int .i64 m.1,.int .i64 m.2]]]):=fun _ _=>rfl
 unfold sN sL
 rw [hm,Zh (by rfl) ZlU]
 simp -implicitDefEqProofs only [EQA,Xe,Xc,Xf,Xb,Xg,Nat.reduceMul,reduceCtorEq,ZR,↓reduceIte,Zkp,ZhY,ZlS,hC,hv,hk,hk0,b0,b1,w1,ho,AVal.cells,Zn,Zay,Xah,ZS,Z0,Z4,Z7,Zak,Zaj,Zah,Zar,Zal,Z6,Xw]
theorem Zzb (X:List AVal) (off:Nat) (L:List (Int×Int)) (hX:X.drop off=L.map Ze) (ho:off<=X.length) (hl:L.length<=32) (m:Int×Int) (hm:L.contains m=true):E 19 [.ref 0 0,.agg [.int .i64 m.1,.int .i64 m.2]] (rX off L.length X)=some (.bool false,rX off L.length X):=by
 have hC:=Zve X off L hX ho (by omega) m
 rw [hm] at hC
 have ho:∀ a:ZK,Z8 2 [.var [.sl 1 0 off L.length],.row 0 2 X,a] (.bool false)=some (.bool false,[.var [.sl 1 0 off L.length],.row 0 2 X]):=fun _=>rfl
 unfold rX
 rw [Zh (by rfl) ZlU]
 simp -implicitDefEqProofs only [EQA,Xe,Xc,Xf,Xb,Xg,reduceCtorEq,↓reduceIte,Zkp,ZhY,ZlS,hC,ho,AVal.cells]
theorem Zts (X:List AVal) (off:Nat) (L:List (Int×Int)) (hX:X.drop off=L.map Ze) (ho:off<=X.length) (hl:L.length<=32) (m:Int×Int) (hm:L.contains m=false):E 19 [.ref 0 0,.agg [.int .i64 m.1,.int .i64 m.2]] (rX off L.length X)=some (.bool true,if L.length < 32 then [.var [.sl 2 0 0 (L.length+1)],.row 0 2 X,.row 0 2 (L.map Ze++[.agg [.int .i64 m.1,.int .i64 m.2]])] else [.var [.sl 2 0 1 32],.row 0 2 X,.row 0 2 (L.map Ze++[.agg [.int .i64 m.1,.int .i64 m.2]])]):=by
 have hC:=Zve X off L hX ho (by omega) m
 rw [hm] at hC
 have hxl:X.length=off+L.length:=by
  have:=congrArg W3 hX
  rw [X6,XT] at this;omega
 have hv:∀ σ:Za,viewAs σ [.agg [.int .i64 m.1,.int .i64 m.2]]=some ([.agg [.int .i64 m.1,.int .i64 m.2]],[]):=fun _=>rfl
 have hk:kOk 2 [.agg [.int .i64 m.1,.int .i64 m.2]]=true:=rfl
 have hkL:=Zv4 L
 have hS:(L.map Ze).length=L.length:=by simp
 have hel:∀ {σ:Za} (hs:σ[1]?=some (.row 0 2 X)),ZR σ (.sl 1 0 off L.length)=some (L.map Ze,[1]):=by
  intro σ hs
  have : off+L.length<=X.length:=by omega
  simp only [ZR,hs,this,and_self,if_true,hX]
  rw [XN (by simp)]
 have hap:∀ {σ:Za} (hs:σ[1]?=some (.row 0 2 X)) (sq:Nat),Zay σ sq 2 16 (.lst true []) (.sl 1 0 off L.length)=some (.sl sq 0 0 L.length,σ.set sq (.row 0 2 (L.map Ze)),{ rd:=[1] }):=by
  intro σ hs sq
  have b:L.length*16<=140737488355328:=by omega
  simp only [Zay,hel hs,hkL,if_true,hS,b]
 have hap2:∀ {σ:Za} {t:Nat} (hs:σ[t]?=some (.row 0 2 (L.map Ze))) (sq:Nat),Zay σ sq 2 16 (.sl t 0 0 L.length) (.lst true [.agg [.int .i64 m.1,.int .i64 m.2]])=some (.sl t 1 0 (L.length+1),σ.set t (.row 1 2 (L.map Ze++[.agg [.int .i64 m.1,.int .i64 m.2]])),{ rd:=[],wr:=[t] }):=by
  intro σ t hs sq
  have b:(L.length+1)*16<=140737488355328:=by omega
  simp only [Zay,ZR,hk,if_true,hs,XaD,b,and_self,hS]
 have hXl:(L.map Ze++[AVal.agg [.int .i64 m.1,.int .i64 m.2]]).length=L.length+1:=by simp
 unfold rX
 generalize L.map Ze=S at *
 by_cases h32:L.length < 32
 ·rw [if_pos h32]
  have w1:¬(((L.length+1:Nat):Int) > 32):=by omega
  have ho:∀ a b:ZK,Z8 2 [.var [.sl 3 1 0 (L.length+1)],.row 0 2 X,a,.row 1 2 (S++[AVal.agg [.int .i64 m.1,.int .i64 m.2]]),b] (.bool true)=some (.bool true,[.var [.sl 2 0 0 (L.length+1)],.row 0 2 X,.row 0 2 (S++[AVal.agg [.int .i64 m.1,.int .i64 m.2]])]):=fun _ _=>rfl
  generalize L.length=n at *
  rw [Zh (by rfl) ZlU]
  simp -implicitDefEqProofs only [EQA,Xe,Xc,Xf,Xb,Xg,reduceCtorEq,↓reduceIte,Zkp,ZhY,ZlS,hC,hv,hap,hap2,w1,ho,AVal.cells,Zn,ZS,Z0,Z4,Z7,Zak,Zaj,Zah,Zar,Zal,Z6,Xw]
 ·rw [if_neg h32]
  have hn:L.length=32:=by omega
  rw [hn] at hC hap hap2 hXl ⊢
  have w1:(((32+1:Nat):Int) > 32):=by decide
  have hX1:∀ {σ:Za} (hs:σ[3]?=some (.row 1 2 (S++[AVal.agg [.int .i64 m.1,.int .i64 m.2]]))),Zbv σ 2 (.sl 3 1 0 33) (some (.int .i64 1)) none none=some (.sl 3 1 1 32,σ,{ rd:=[3] }):=by
   intro σ hs
   simp [Zbv,ZR,hs,hXl,Za8,ZcT]
  have ho:∀ a b:ZK,Z8 2 [.var [.sl 3 1 1 32],.row 0 2 X,a,.row 1 2 (S++[AVal.agg [.int .i64 m.1,.int .i64 m.2]]),b] (.bool true)=some (.bool true,[.var [.sl 2 0 1 32],.row 0 2 X,.row 0 2 (S++[AVal.agg [.int .i64 m.1,.int .i64 m.2]])]):=fun _ _=>rfl
  rw [Zh (by rfl) ZlU]
  simp -implicitDefEqProofs only [EQA,Xe,Xc,Xf,Xb,Xg,reduceCtorEq,↓reduceIte,Zkp,ZhY,ZlS,hC,hv,hap,hap2,w1,hX1,ho,AVal.cells,Zn,ZS,Z0,Z4,Z7,Zak,Zaj,Zah,Zar,Zal,Z6,Xw]
end
section
section
variable (P:List AVal) (hP:P.length=26) (hF:Zp P=[1]) (hS:∀ ρ:Rho,ρ 1 0=some (1,0)->Zg ρ P=P) (w:Nat) (xs:List AVal)
include hP hF hS
theorem ZgM {r:AVal} (hr:ZM r=true) (f:Bool) (ys:List AVal):Z8 2 [.var (P++[.lst f ys]),.row 0 w xs] r=some (r,[.var (P++[.lst f ys]),.row 0 w xs]) :=
 ZhO hr (by rw [Zcq,hF];rfl) (by omega) (fun ρ h=>by rw [ZbS,hS ρ h];rfl)
theorem ZDA (l:Zb) (n:Nat) (hn:n<=l.length) (hl:l.length<=140737488355328):E 111 [.ref 0 0,.int .i64 (n:Nat)] [.var (P++[.lst false (l.map Zc)]),.row 0 w xs]=some (.int .i64 (Zig (l.take n)),[.var (P++[.lst false ((l.drop n).map Zc)]),.row 0 w xs]):=by
 have h1:(l.length:Int)>=((n:Nat):Int):=by omega
 have s1:=fun σ kk=>Zmm σ 1 l Zc kk (n:Int) (by omega) (by omega)
 have s2:=fun σ kk=>Zfb σ l kk (n:Int) (by omega) (by omega)
 have e2:((n:Int)).toNat=n:=rfl
 rw [e2] at s1 s2
 have ht:(l.take n).length<=9223372036854775807:=by simp;omega
 have hG:=fun σ sq own f=>ZlC σ sq own (l.take n) ht f
 have a1:=Z9 P hP
 have a2:=Zax P hP
 have a3:=ZeF P hP
 have a4:=Zfh P hP
 have m1:=Zbb
 rw [Zh (by rfl) ZkK]
 simp -implicitDefEqProofs only [EQA,ZI,Xe,Xc,Xf,Xb,reduceCtorEq,↓reduceIte,ZlO,ZhU,Zud,h1,s1,s2,hG,a1,a2,a3,a4,m1,Zig]
 exact ZgM P hP hF hS w xs rfl _ _
theorem ZEc (l:Zb) (n:Nat) (hn:l.length < n) (hn':n<=9223372036854775807):E 111 [.ref 0 0,.int .i64 (n:Nat)] [.var (P++[.lst false (l.map Zc)]),.row 0 w xs]=some (.pan (Zz 129),[.var (P++[.lst false (l.map Zc)]),.row 0 w xs]):=by
 have h1:¬(l.length:Int)>=((n:Nat):Int):=by omega
 have a2:=Zax P hP
 have m1:=ZbA
 rw [Zh (by rfl) ZkK]
 simp -implicitDefEqProofs only [EQA,Xe,Xc,Xb,reduceCtorEq,↓reduceIte,ZlO,ZhU,h1,a2,m1]
 exact ZgM P hP hF hS w xs rfl _ _
theorem ZBZ (l:Zb) (hl:l.length<=140737488355328) (h:(Zaf l).2.2=0):E 120 [.ref 0 0] [.var (P++[.lst false (l.map Zc)]),.row 0 w xs]=some (.str (Zaf l).1,[.var (P++[.lst false ((l.drop (Zaf l).2.1).map Zc)]),.row 0 w xs]):=by
 have hG:=fun σ sq own f=>Zg7 σ sq own f l hl
 have hu:=(ZhG l).1
 unfold gtT at hG
 have s2:=fun σ kk=>Zfb σ l kk ((Zaf l).2.1:Int) (by omega) (by omega)
 have e2:(((Zaf l).2.1:Nat):Int).toNat=(Zaf l).2.1:=rfl
 rw [e2] at s2
 rw [h] at hG
 have a1:=Z9 P hP
 have a2:=Zax P hP
 have a3:=ZeF P hP
 have a4:=Zfh P hP
 have m1:=Zbb
 rw [Zh (by rfl) ZmA]
 simp -implicitDefEqProofs only [EQA,ZI,Xe,Xc,Xf,Xb,reduceCtorEq,↓reduceIte,Zl3,Zhl,Zwf,s2,hG,a1,a2,a3,a4,m1]
 exact ZgM P hP hF hS w xs rfl _ _
theorem ZxG (l:Zb) (hl:l.length<=140737488355328) (h:(Zaf l).2.2≠0):E 120 [.ref 0 0] [.var (P++[.lst false (l.map Zc)]),.row 0 w xs]=some (.pan (Zz 129),[.var (P++[.lst false (l.map Zc)]),.row 0 w xs]):=by
 have hG:=fun σ sq own f=>Zg7 σ sq own f l hl
 unfold gtT at hG
 have h0:((Zaf l).2.2 == 0)=false:=by simpa using h
 have h1:=h
 have a2:=Zax P hP
 have m1:=ZbA
 rw [Zh (by rfl) ZmA]
 simp -implicitDefEqProofs only [EQA,Xe,Xc,Xb,reduceCtorEq,↓reduceIte,Zl3,Zhl,hG,a2,h0,m1]
 exact ZgM P hP hF hS w xs rfl _ _
end
theorem Zk1 {q:AVal} {cs xs:List AVal} {g w:Nat} (view:Bool) (hn:ZM q=true) (hv:viewR [.var cs,.row g w xs] q=some (q,[])) (hrf:Zp cs=[1]) (hg:g<=1) (hren:∀ ρ:Rho,ρ 1 g=some (1,g)->Zg ρ cs=cs):Z5 view 2 (some (q,[.var cs,.row g w xs]))=some (q,[.var cs,.row g w xs]):=by
 unfold Z5
 split
 ·have hnp:∀ x,q≠.pan x:=by rintro x rfl;simp [viewR,ZW,ZP] at hv
  rw [show ZbB 2 (some (q,[.var cs,.row g w xs]))=(match viewR [.var cs,.row g w xs] q with
   | some (r',ts)=>match gcA 2 [r'] (Zn [.var cs,.row g w xs] ts) with
    | ([r''],σ')=>some (r'',σ')
    | _=>none
   | none=>none) from by cases q <;> first | rfl | exact absurd rfl (hnp _)]
  rw [hv]
  simp only [show Zn [ZK.var cs,.row g w xs] []=[.var cs,.row g w xs] from rfl,Zt3 hn hrf hg hren]
 ·rfl
theorem Zqv {x:AVal} {σ:Za} (view:Bool):Z5 view 2 (some (.pan x,σ))=some (.pan x,σ):=by
 unfold Z5
 split <;> rfl
def Zl (Q:List AVal) (k r g n:Nat):List AVal:=Q.set k (.sl r g 0 n)
section
variable (Q:List AVal) (hQ:Q.length=26) (hN:Zd Q=true) (k:Nat) (hk:k < 26) (n:Nat)
include hQ hN hk
theorem ZbY (r g:Nat):(Zl Q k r g n).length=26:=by simp [Zl,hQ]
theorem Zcc (r g:Nat):Zp (Zl Q k r g n)=[r]:=by
 unfold Zl
 rw [ZiJ hN (by omega)]
 rfl
theorem ZbG {r g r' g':Nat} (ρ:Rho) (h:ρ r g=some (r',g')):Zg ρ (Zl Q k r g n)=Zl Q k r' g' n:=by
 unfold Zl
 rw [Zi6 ρ hN]
 simp only [Zm,h]
variable (w:Nat) (xs:List AVal) (l:Zb) (hl:l.length<=140737488355328) (σ:Za) (t r g sq:Nat) (htr:t≠r) (hs:σ[t]?=some (.var (Zl Q k r g n++[.lst false (l.map Zc)]))) (hr:σ[r]?=some (.row g w xs))
include hl htr hs hr
theorem Zke {c:Nat} {m a:Int} {l2:Zb} (hm:((c:Nat):Int)=m) (h:ZaM c l=.ok (a,l2)):Zi E BY σ sq 111 0 true [.ref t 0,.int .i64 m]=some (.int .i64 a,(σ.set t (.var (Zl Q k r g n++[.lst false (l2.map Zc)]))).set r (.row g w xs),{ any:=true,upd:=[(t,Zl Q k r g n++[.lst false (l2.map Zc)])] }):=by
 subst hm
 unfold ZaM at h
 split at h
 ·cases h
 ·injection h with h;injection h with h1 h2;subst h1 h2
  have e:=ZDA (Zl Q k 1 0 n) (ZbY Q hQ hN k hk n 1 0) (Zcc Q hQ hN k hk n 1 0) (fun ρ h=>ZbG Q hQ hN k hk n ρ h) w xs l c (by omega) hl
  exact Zgt (g2:=0) (own:=0) (rest:=[.int .i64 (c:Nat)]) hs hr htr (by rw [Zcq,Zcc Q hQ hN k hk n];rfl) (by kernel_rfl) rfl (fun ρ h=>by rw [ZbS,ZbG Q hQ hN k hk n ρ h];rfl) (by omega) rfl rfl e
   (Zk1 true rfl rfl (by rw [Zcq,Zcc Q hQ hN k hk n];rfl) (by omega) (fun ρ h=>by rw [ZbS,ZbG Q hQ hN k hk n ρ h];rfl)) (fun ρ h=>by rw [ZbS,ZbG Q hQ hN k hk n ρ (h 0)];rfl)
theorem Zu0 {c:Nat} {m e:Int} (hm:((c:Nat):Int)=m) (hc:c<=9223372036854775807) (h:ZaM c l=.error e):Zi E BY σ sq 111 0 true [.ref t 0,.int .i64 m]=some (.pan (Zz e),(σ.set t (.var (Zl Q k r g n++[.lst false (l.map Zc)]))).set r (.row g w xs),{ any:=true,upd:=[(t,Zl Q k r g n++[.lst false (l.map Zc)])] }):=by
 subst hm
 unfold ZaM at h
 split at h
 ·injection h with h;subst h
  have e:=ZEc (Zl Q k 1 0 n) (ZbY Q hQ hN k hk n 1 0) (Zcc Q hQ hN k hk n 1 0) (fun ρ h=>ZbG Q hQ hN k hk n ρ h) w xs l c (by omega) hc
  exact Zgt (g2:=0) (own:=0) (rest:=[.int .i64 (c:Nat)]) hs hr htr (by rw [Zcq,Zcc Q hQ hN k hk n];rfl) (by kernel_rfl) rfl (fun ρ h=>by rw [ZbS,ZbG Q hQ hN k hk n ρ h];rfl) (by omega) rfl rfl e
   (Zqv true) (fun ρ h=>by rw [ZbS,ZbG Q hQ hN k hk n ρ (h 0)];rfl)
 ·cases h
theorem ZpK {a l2:Zb} (h:Zav l=.ok (a,l2)):Zi E BY σ sq 120 0 true [.ref t 0]=some (.str a,(σ.set t (.var (Zl Q k r g n++[.lst false (l2.map Zc)]))).set r (.row g w xs),{ any:=true,upd:=[(t,Zl Q k r g n++[.lst false (l2.map Zc)])] }):=by
 unfold Zav at h
 split at h
 ·rename_i h0
  injection h with h;injection h with h1 h2;subst h1 h2
  have e:=ZBZ (Zl Q k 1 0 n) (ZbY Q hQ hN k hk n 1 0) (Zcc Q hQ hN k hk n 1 0) (fun ρ h=>ZbG Q hQ hN k hk n ρ h) w xs l hl h0
  exact Zgt (g2:=0) (own:=0) (rest:=[]) hs hr htr (by rw [Zcq,Zcc Q hQ hN k hk n];rfl) (by kernel_rfl) rfl (fun ρ h=>by rw [ZbS,ZbG Q hQ hN k hk n ρ h];rfl) (by omega) rfl rfl e
   (Zk1 true rfl rfl (by rw [Zcq,Zcc Q hQ hN k hk n];rfl) (by omega) (fun ρ h=>by rw [ZbS,ZbG Q hQ hN k hk n ρ h];rfl)) (fun ρ h=>by rw [ZbS,ZbG Q hQ hN k hk n ρ (h 0)];rfl)
 ·cases h
theorem ZuU {c:Int} (h:Zav l=.error c):Zi E BY σ sq 120 0 true [.ref t 0]=some (.pan (Zz c),(σ.set t (.var (Zl Q k r g n++[.lst false (l.map Zc)]))).set r (.row g w xs),{ any:=true,upd:=[(t,Zl Q k r g n++[.lst false (l.map Zc)])] }):=by
 unfold Zav at h
 split at h
 ·cases h
 ·rename_i h0
  injection h with h;subst h
  have e:=ZxG (Zl Q k 1 0 n) (ZbY Q hQ hN k hk n 1 0) (Zcc Q hQ hN k hk n 1 0) (fun ρ h=>ZbG Q hQ hN k hk n ρ h) w xs l hl h0
  exact Zgt (g2:=0) (own:=0) (rest:=[]) hs hr htr (by rw [Zcq,Zcc Q hQ hN k hk n];rfl) (by kernel_rfl) rfl (fun ρ h=>by rw [ZbS,ZbG Q hQ hN k hk n ρ h];rfl) (by omega) rfl rfl e
   (Zqv true) (fun ρ h=>by rw [ZbS,ZbG Q hQ hN k hk n ρ (h 0)];rfl)
end
section
variable (Q:List AVal) (hQ:Q.length=26) (hN:Zd Q=true) (k:Nat) (hk:k < 26) (n:Nat) (w:Nat) (xs:List AVal) (l:Zb) (hl:l.length<=140737488355328) (kd:Int) (h0:(Zl Q k 1 0 n)[0]?=some (.int .i64 kd))
include hQ hN hk hl h0
theorem ZzX {c:Int} {r:Zb} (h:ZaL kd l=.ok (c,r)):E 112 [.ref 0 0] [.var (Zl Q k 1 0 n++[.lst false (l.map Zc)]),.row 0 w xs]=some (.int .i64 c,[.var (Zl Q k 1 0 n++[.lst false (r.map Zc)]),.row 0 w xs]):=by
 unfold ZaL at h
 split at h
 case h_2=>cases h
 rename_i n' r' h2
 split at h
 case isFalse=>cases h
 rename_i hn
 injection h with h;injection h with h3 h4;subst h3 h4
 have hG:=fun σ sq hs hr=>Zke Q hQ hN k hk n w xs l hl σ 0 1 0 sq (by omega) hs hr (m:=1) rfl h2
 have hL:=ZbY Q hQ hN k hk n 1 0
 have hR:=Zcc Q hQ hN k hk n 1 0
 have hS:∀ ρ:Rho,ρ 1 0=some (1,0)->Zg ρ (Zl Q k 1 0 n)=Zl Q k 1 0 n:=fun ρ h=>ZbG Q hQ hN k hk n ρ h
 generalize Zl Q k 1 0 n=P at *
 have a4:=fun L=>(Zac P hL 0 (by omega) L).trans h0
 have m1:=Zbb
 have hC:=fun σ sq own=>Zi4 kd n' σ sq own
 rw [hn] at hC
 rw [Zh (by rfl) ZfU]
 simp -implicitDefEqProofs only [EQA,Xe,Xc,Xb,reduceCtorEq,↓reduceIte,Zft,Zeg,Ztp,hG,hC,a4,m1]
 exact ZgM P hL hR hS w xs rfl _ _
theorem Zxw {c:Int} (h:ZaL kd l=.error c):∃ r:Zb,E 112 [.ref 0 0] [.var (Zl Q k 1 0 n++[.lst false (l.map Zc)]),.row 0 w xs]=some (.pan (Zz c),[.var (Zl Q k 1 0 n++[.lst false (r.map Zc)]),.row 0 w xs]):=by
 unfold ZaL at h
 have hL:=ZbY Q hQ hN k hk n 1 0
 have hR:=Zcc Q hQ hN k hk n 1 0
 have hS:∀ ρ:Rho,ρ 1 0=some (1,0)->Zg ρ (Zl Q k 1 0 n)=Zl Q k 1 0 n:=fun ρ h=>ZbG Q hQ hN k hk n ρ h
 split at h
 ·rename_i n' r' h2
  split at h
  case isTrue=>cases h
  rename_i hn
  injection h with h;subst h
  have hG:=fun σ sq hs hr=>Zke Q hQ hN k hk n w xs l hl σ 0 1 0 sq (by omega) hs hr (m:=1) rfl h2
  refine ⟨r',?_⟩
  generalize Zl Q k 1 0 n=P at *
  have a4:=fun L=>(Zac P hL 0 (by omega) L).trans h0
  have m1:=ZbA
  have hC:=fun σ sq own=>Zi4 kd n' σ sq own
  rw [Bool.not_eq_true _ |>.mp hn] at hC
  rw [Zh (by rfl) ZfU]
  simp -implicitDefEqProofs only [EQA,Xe,Xc,Xb,reduceCtorEq,↓reduceIte,Zft,Zeg,hG,hC,a4,m1]
  exact ZgM P hL hR hS w xs rfl _ _
 ·rename_i c' h2
  injection h with h;subst h
  have hG:=fun σ sq hs hr=>Zu0 Q hQ hN k hk n w xs l hl σ 0 1 0 sq (by omega) hs hr (m:=1) rfl (by decide) h2
  refine ⟨l,?_⟩
  generalize Zl Q k 1 0 n=P at *
  rw [Zh (by rfl) ZfU]
  simp -implicitDefEqProofs only [EQA,Xe,Xc,reduceCtorEq,↓reduceIte,Zft,Zeg,hG]
  exact ZgM P hL hR hS w xs rfl _ _
variable (σ:Za) (t r g sq:Nat) (htr:t≠r) (hs:σ[t]?=some (.var (Zl Q k r g n++[.lst false (l.map Zc)]))) (hr:σ[r]?=some (.row g w xs))
include htr hs hr
theorem ZAz {c:Int} {l2:Zb} (h:ZaL kd l=.ok (c,l2)):Zi E BY σ sq 112 0 true [.ref t 0]=some (.int .i64 c,(σ.set t (.var (Zl Q k r g n++[.lst false (l2.map Zc)]))).set r (.row g w xs),{ any:=true,upd:=[(t,Zl Q k r g n++[.lst false (l2.map Zc)])] }):=by
 have e:=ZzX Q hQ hN k hk n w xs l hl kd h0 h
 exact Zgt (g2:=0) (own:=0) (rest:=[]) hs hr htr (by rw [Zcq,Zcc Q hQ hN k hk n];rfl) (by kernel_rfl) rfl (fun ρ h=>by rw [ZbS,ZbG Q hQ hN k hk n ρ h];rfl) (by omega) rfl rfl e
  (Zk1 true rfl rfl (by rw [Zcq,Zcc Q hQ hN k hk n];rfl) (by omega) (fun ρ h=>by rw [ZbS,ZbG Q hQ hN k hk n ρ h];rfl)) (fun ρ h=>by rw [ZbS,ZbG Q hQ hN k hk n ρ (h 0)];rfl)
theorem Zyl {c:Int} (h:ZaL kd l=.error c):∃ l2:Zb,Zi E BY σ sq 112 0 true [.ref t 0]=some (.pan (Zz c),(σ.set t (.var (Zl Q k r g n++[.lst false (l2.map Zc)]))).set r (.row g w xs),{ any:=true,upd:=[(t,Zl Q k r g n++[.lst false (l2.map Zc)])] }):=by
 obtain ⟨l2,e⟩:=Zxw Q hQ hN k hk n w xs l hl kd h0 h
 exact ⟨l2,Zgt (g2:=0) (own:=0) (rest:=[]) hs hr htr (by rw [Zcq,Zcc Q hQ hN k hk n];rfl) (by kernel_rfl) rfl (fun ρ h=>by rw [ZbS,ZbG Q hQ hN k hk n ρ h];rfl) (by omega) rfl rfl e
  (Zqv true) (fun ρ h=>by rw [ZbS,ZbG Q hQ hN k hk n ρ (h 0)];rfl)⟩
end
end
section
theorem ZBT (a b:Zv):E 123 [Zq a,Zq b] []=some (.bool (a.id == b.id && a.num == b.num && a.text == b.text && a.pair == b.pair && a.data == b.data),[]):=by
 rw [Zh (by rfl) ZOM]
 simp -implicitDefEqProofs only [EQA,ZI,ZT,ZdD,Zo8,Xe,Xc,Xb,Xg,ZgH,ZE,Zaz,unG,reduceCtorEq,ZR,ite_self,↓reduceIte,ZLz,ZpO,Zx2,ZV,Zq,ZbN]
theorem ZBz (a b:Zv):(a.id == b.id && a.num == b.num && a.text == b.text && a.pair == b.pair && a.data == b.data)=(a == b):=by
 obtain ⟨i,n,t,p,d⟩:=a
 obtain ⟨i',n',t',p',d'⟩:=b
 rw [Bool.eq_iff_iff]
 simp [and_assoc]
theorem ZIw (a:Zv):Zai (Zq a)=true:=by
 simp -implicitDefEqProofs only [eq_self,X0,XP,Wj,Zse,Zvu,ZtB,Ztf,Zq,ZbN,ZV]
theorem ZB4 (a:Zv):ZL (Zq a)=Zq a:=by
 simp -implicitDefEqProofs only [eq_self,Xt,XM,Zu7,Zrv,ZsY,ZtQ,Zq,ZbN,ZV]
theorem ZFb (σ:Za) (sq own:Nat) (view:Bool) (i n:Int) (t p d:Zb) (i' n':Int) (t' p' d':Zb):Zi E BY σ sq 123 own view [.agg [.int .i64 i,.int .i64 n,.str t,.str p,.lst false (d.map Zc)],.agg [.int .i64 i',.int .i64 n',.str t',.str p',.lst false (d'.map Zc)]]=some (.bool (i == i' && n == n' && t == t' && p == p' && d == d'),σ,{}) :=
 ZcU (ZBT ⟨i,n,t,p,d⟩ ⟨i',n',t',p',d'⟩) (by kernel_rfl) (by simp only [XP,ZIw];rfl) (by simp only [Xt,ZB4];rfl) rfl (fun _=>rfl) _ _ _ _
theorem Zsx (a b:List Zv) (h:a.length=b.length) (hl:a.length<=9223372036854775807):∀ (r s:List Zv) (i:Nat),a.drop i=r->b.drop i=s->Zk2 0 [(17,.int .i64 i),(16,.int .i64 a.length),(15,Zbc a),(2,.fn 123 []),(1,Zbc b)] []=some (.bool (r == s),[])
 | [],s,i,ha,hb=>by
  have hs:s=[]:=by
   subst hb;rw [Wc] at ha ⊢;omega
  subst hs
  have h1:=Zcw ha
  unfold Zk2
  rw [ZX]
  simp -implicitDefEqProofs only [EQA,Xc,Xb,↓reduceIte,ZmY,ZKy,Zqw,ZtC,ZjU,Zbc,h1]
 | x::r,[],i,ha,hb=>by
  have:=(Zab ha).2.2;rw [Wc] at hb;omega
 | x::r,y::s,i,ha,hb=>by
  have ih:=Zsx a b h hl r s (i+1) (Zab ha).2.1 (Zab hb).2.1
  have h1:(i:Int) < a.length:=by have:=(Zab ha).2.2;omega
  have e1:=iad (Zab ha).1 Zq (k:=5) rfl
  have e2:=iad (Zab hb).1 Zq (k:=5) rfl
  have e3:=Zcn h1 hl
  unfold Zk2 at ih ⊢
  rw [ZX]
  simp -implicitDefEqProofs only [EQA,ZI,ZT,Xe,Xc,Xf,Xb,Xg,unA,↓reduceIte,gcT,gcA,Zy,Zu,Zr,ZG,ZmY,ZtC,ZjU,ZV,Zbc,Zq,ZbN,h1,e1,e2,e3,ZFb]
  simp only [Zbc] at ih
  rw [ih,ZBz]
  by_cases hx:x=y <;> simp [hx]
theorem ZxR (a b:List Zv) (hl:a.length<=9223372036854775807):E 122 [Zbc a,Zbc b,.fn 123 []] []=some (.bool (a == b),[]):=by
 rw [Zh (by rfl) ZFJ]
 by_cases h:a.length=b.length
 ·have:=Zsx a b h hl a b 0 rfl rfl
  unfold Zk2 at this
  simp only [Zbc] at this
  have e:=Zmo h
  simp -implicitDefEqProofs only [EQA,ZT,Xe,Xc,Xb,reduceCtorEq,↓reduceIte,gcT,gcA,Zy,Zu,Zr,ZG,ZvN,Zlf,Zbc,e]
  exact this
 ·have e:=Zmv h
  simp -implicitDefEqProofs only [EQA,Xe,Xc,Xb,reduceCtorEq,↓reduceIte,ZvN,Zlf,ZmY,Zbc,e,ZlP h]
theorem ZD5 (σ:Za) (sq own:Nat) (view:Bool) (a b:List Zv) (hl:a.length<=9223372036854775807):Zi E BY σ sq 122 own view [.lst false (a.map Zq),.lst false (b.map Zq),.fn 123 []]=some (.bool (a == b),σ,{}) :=
 ZcU (ZxR a b hl) (by kernel_rfl) (by simp -implicitDefEqProofs only [Zdi,Zs3,ZbE,eq_self,Zbc]) (by simp -implicitDefEqProofs only [ZI,ZbE,eq_self,Zbc]) rfl (fun _=>rfl) _ _ _ _
theorem ZEK (a b:List Zv) (hl:a.length<=9223372036854775807):E 92 [Zbc a,Zbc b] []=some (.bool (a == b),[]):=by
 rw [Zh (by rfl) ZCQ]
 simp -implicitDefEqProofs only [EQA,Xc,Xb,reduceCtorEq,↓reduceIte,ZFq,ZmK,ZH1,Zbc,ZD5,hl]
theorem ZmB (σ:Za) (sq own:Nat) (view:Bool) (a b:List Zv) (hl:a.length<=9223372036854775807):Zi E BY σ sq 92 own view [.lst false (a.map Zq),.lst false (b.map Zq)]=some (.bool (a == b),σ,{}) :=
 ZcU (ZEK a b hl) (by kernel_rfl) (by simp -implicitDefEqProofs only [Zdi,ZbE,eq_self,Zbc]) (by simp -implicitDefEqProofs only [ZI,ZbE,eq_self,Zbc]) rfl (fun _=>rfl) _ _ _ _
end
section
theorem ZIX (b:Zb):List.take b.length (b.map Zc)=b.map Zc:=XN (by simp)
def ZU (x:Int):Nat:=(x % 18446744073709551616).toNat
theorem ZnP (x:Int):IntKind.u64.wrap x=((ZU x:Nat):Int):=by rw [IntKind.wrap_u64,ZU];omega
def ZeC (k:Int) (p:Zv):Zb×Zb :=
 if k=1 then (beB (ZU p.num) 1,[]) else if k=2 then (beB (ZU p.num) 2,[]) else if k=3 then (beB (ZU p.num) 4,[])
 else if k=4 then ((ZaI p.num).1,[]) else if k=5 then ((Zas p.text).1,[]) else if k=6 then ((ZbD p.data).1,[])
 else if k=7 then ((Zas p.text).1,(Zas p.pair).1) else ([],[])
def Zc5 (p:Zv):Zb:=(ZaI p.id).1++((ZeC (ZbZ p.id) p).1++(ZeC (ZbZ p.id) p).2)
theorem Zvt:∀ k n:Nat,(ZcF k n).length<=k+1
 | 0,n=>by simp [ZcF]
 | k+1,n=>by
  unfold ZcF
  split
  ·simp
  ·have:=Zvt k (n / 128)
   simp only [XH];omega
theorem ZgC (n:Int):(ZaI n).1.length<=4:=by
 unfold ZaI
 split
 ·simp
 ·exact Zvt 3 _
theorem Zn1 (b:Zb):(ZbD b).1.length<=65537:=by
 unfold ZbD
 split
 ·simp
 ·simp only [Xk,Zbh];omega
theorem Zi8 (b:Zb):(Zas b).1.length<=65537:=by
 unfold Zas
 split
 ·exact Zn1 b
 ·simp
theorem ZA8 (k:Int) (p:Zv):(ZeC k p).1.length<=65537/\(ZeC k p).2.length<=65537:=by
 have h1:=ZgC p.num
 have h2:=Zi8 p.text
 have h3:=Zi8 p.pair
 have h4:=Zn1 p.data
 unfold ZeC
 repeat' split
 all_goals simp only [Zbh,XG]
 all_goals omega
theorem ZtR (p:Zv):(Zc5 p).length<=200000:=by
 have h1:=ZgC p.id
 have h2:=ZA8 (ZbZ p.id) p
 unfold Zc5
 simp only [Xk];omega
theorem Zhq (σ:Za) (sq own:Nat) (f:Bool) (a v w:Zb) (h:a.length+(v.length+w.length)<=140737488355328):Zi E BY σ sq 35 own true [.lst f [.lst false (a.map Zc),.lst false (v.map Zc),.lst false (w.map Zc)]]=some (.lst false ((a++(v++w)).map Zc),σ,{}):=by
 have:=Zhr σ sq own f a [v,w] (by simp) (by simpa using h)
 simpa only [Xt,XM,ZV,Wz,W5,Xp] using this
theorem Zok (p:Zv) (k:Int) (W:Nat) (hk:ZbZ p.id=k) (hW:(k=1/\W=1)\/(k=2/\W=2)\/(k=3/\W=4)):E 139 [Zq p] []=some (.lst false (((ZaI p.id).1++(beB (ZU p.num) W++[])).map Zc),[]):=by
 have hK:=fun σ sq own=>ZiR σ sq own p.id
 have hV:=fun σ sq own=>ZfX σ sq own p.id
 unfold ZeA at hV
 have l0:=ZgC p.id
 have hP:=fun σ sq own=>ZkN σ sq own (ZU p.num) W (by omega) (by omega)
 have hJ:=fun σ sq own f=>Zhq σ sq own f (ZaI p.id).1 (beB (ZU p.num) W) [] (by simp only [Zbh,XG];omega)
 simp only [XM] at hJ
 have hu:=ZnP p.num
 rw [hk] at hK
 generalize beB (ZU p.num) W=B at *
 have z1:((1:Nat):Int)=1:=rfl
 have z2:((2:Nat):Int)=2:=rfl
 have z4:((4:Nat):Int)=4:=rfl
 rcases hW with ⟨rfl,rfl⟩ | ⟨rfl,rfl⟩ | ⟨rfl,rfl⟩
 ·have w1:IntKind.i64.wrap (1 - 1)=0:=rfl
  have w2:IntKind.i64.wrap (1*2 ^ min (WB 0) IntKind.i64.bits)=1:=rfl
  have ng:¬((0:Int) < 0):=by decide
  rw [z1] at hP
  rw [Zh (by rfl) ZfS]
  simp -implicitDefEqProofs only [EQA,Zs,Xc,Xb,Xg,ZaB,↓reduceIte,ZfG,Zet,Zfm,ZV,Zq,ZbN,hK,hV,hP,hJ,hu,w1,w2,ng,viewAs,ZW,ZP,Zn,AVal.cells]
 ·have w1:IntKind.i64.wrap (2 - 1)=1:=rfl
  have w2:IntKind.i64.wrap (1*2 ^ min (WB 1) IntKind.i64.bits)=2:=rfl
  have ng:¬((1:Int) < 0):=by decide
  rw [z2] at hP
  rw [Zh (by rfl) ZfS]
  simp -implicitDefEqProofs only [EQA,Zs,Xc,Xb,Xg,ZaB,↓reduceIte,ZfG,Zet,Zfm,ZV,Zq,ZbN,hK,hV,hP,hJ,hu,w1,w2,ng,Xq,viewAs,ZW,ZP,Zn,AVal.cells]
 ·have w1:IntKind.i64.wrap (3 - 1)=2:=rfl
  have w2:IntKind.i64.wrap (1*2 ^ min (WB 2) IntKind.i64.bits)=4:=rfl
  have ng:¬((2:Int) < 0):=by decide
  rw [z4] at hP
  rw [Zh (by rfl) ZfS]
  simp -implicitDefEqProofs only [EQA,Zs,Xc,Xb,Xg,ZaB,↓reduceIte,ZfG,Zet,Zfm,ZV,Zq,ZbN,hK,hV,hP,hJ,hu,w1,w2,ng,Xq,viewAs,ZW,ZP,Zn,AVal.cells]
theorem ZGY (p:Zv) (ht:p.text.length<=9223372036854775807) (hp:p.pair.length<=9223372036854775807) (hd:p.data.length<=9223372036854775807):E 139 [Zq p] []=some (.lst false ((Zc5 p).map Zc),[]):=by
 have hK:=fun σ sq own=>ZiR σ sq own p.id
 have hV:=fun σ sq own=>ZfX σ sq own p.id
 unfold ZeA at hV
 have l0:=ZgC p.id
 unfold Zc5
 rcases ZvQ p.id with hk | hk | hk | hk | hk | hk | hk | hk
 ·rw [hk] at hK ⊢
  rw [show ZeC 0 p=([],[]) from rfl,Zh (by rfl) ZfS]
  have hJ:=fun σ sq own f=>Zhq σ sq own f (ZaI p.id).1 [] [] (by simp only [XG];omega)
  simp only [XM] at hJ
  simp -implicitDefEqProofs only [EQA,Zs,Xc,Xb,Xg,↓reduceIte,ZfG,Zet,Zfm,ZV,Zq,ZbN,hK,hV,hJ,Xq,viewAs,ZW,ZP,Zn,AVal.cells]
 ·have h:=Zok p 1 1 hk (by simp)
  rw [hk];exact h
 ·have h:=Zok p 2 2 hk (by simp)
  rw [hk];exact h
 ·have h:=Zok p 3 4 hk (by simp)
  rw [hk];exact h
 ·rw [hk] at hK ⊢
  rw [show ZeC 4 p=((ZaI p.num).1,[]) from rfl,Zh (by rfl) ZfS]
  have l1:=ZgC p.num
  have hJ:=fun σ sq own f=>Zhq σ sq own f (ZaI p.id).1 (ZaI p.num).1 [] (by simp only [XG];omega)
  simp only [XM] at hJ
  have hV2:=fun σ sq own=>ZfX σ sq own p.num
  unfold ZeA at hV2
  simp -implicitDefEqProofs only [EQA,Zs,Xc,Xb,Xg,↓reduceIte,ZfG,Zet,Zfm,ZV,Zq,ZbN,hK,hV,hV2,hJ,Xq,viewAs,ZW,ZP,Zn,AVal.cells]
 ·rw [hk] at hK ⊢
  rw [show ZeC 5 p=((Zas p.text).1,[]) from rfl,Zh (by rfl) ZfS]
  have l1:=Zi8 p.text
  have hJ:=fun σ sq own f=>Zhq σ sq own f (ZaI p.id).1 (Zas p.text).1 [] (by simp only [XG];omega)
  simp only [XM] at hJ
  have hV2:=fun σ sq own=>Zip σ sq own p.text ht
  unfold byT at hV2
  simp -implicitDefEqProofs only [EQA,Zs,Xc,Xb,Xg,↓reduceIte,ZfG,Zet,Zfm,ZV,Zq,ZbN,hK,hV,hV2,hJ,Xq,viewAs,ZW,ZP,Zn,AVal.cells]
 ·rw [hk] at hK ⊢
  rw [show ZeC 6 p=((ZbD p.data).1,[]) from rfl,Zh (by rfl) ZfS]
  have l1:=Zn1 p.data
  have hJ:=fun σ sq own f=>Zhq σ sq own f (ZaI p.id).1 (ZbD p.data).1 [] (by simp only [XG];omega)
  simp only [XM] at hJ
  have hV2:=fun σ sq own f=>ZoE σ sq own f p.data hd
  unfold byT at hV2
  simp -implicitDefEqProofs only [EQA,Zs,Xc,Xb,Xg,↓reduceIte,ZfG,Zet,Zfm,ZV,Zq,ZbN,hK,hV,hV2,hJ,Xq,viewAs,ZW,ZP,Zn,AVal.cells]
 ·rw [hk] at hK ⊢
  rw [show ZeC 7 p=((Zas p.text).1,(Zas p.pair).1) from rfl,Zh (by rfl) ZfS]
  have l1:=Zi8 p.text
  have l2:=Zi8 p.pair
  have hJ:=fun σ sq own f=>Zhq σ sq own f (ZaI p.id).1 (Zas p.text).1 (Zas p.pair).1 (by omega)
  have hV2:=fun σ sq own=>Zip σ sq own p.text ht
  have hV3:=fun σ sq own=>Zip σ sq own p.pair hp
  unfold byT at hV2 hV3
  simp -implicitDefEqProofs only [EQA,Zs,Xc,Xb,Xg,↓reduceIte,ZfG,Zet,Zfm,ZV,Zq,ZbN,hK,hV,hV2,hV3,hJ,Xq,viewAs,ZW,ZP,Zn,AVal.cells]
def ZeD (p:Zv):Prop:=p.text.length<=9223372036854775807/\p.pair.length<=9223372036854775807/\p.data.length<=9223372036854775807
theorem Zuk (σ:Za) (sq own:Nat) (p:Zv) (h:ZeD p):Zi E BY σ sq 139 own true [.agg [.int .i64 p.id,.int .i64 p.num,.str p.text,.str p.pair,.lst false (p.data.map Zc)]]=some (.lst false ((Zc5 p).map Zc),σ,{}) :=
 ZbJ (ZGY p h.1 h.2.1 h.2.2) (by kernel_rfl) rfl rfl rfl (fun _=>rfl) _ _ _
def ZgR (w:Int) (l:List Zv) (b:Zb):Zb×Int :=
 if (ZaI b.length).2≠0 then ([],129)
 else if (Zao w ((ZaI b.length).1++b)).2.2≠0\/(Zao w ((ZaI b.length).1++b)).2.1≠((ZaI b.length).1++b).length\/((Zao w ((ZaI b.length).1++b)).1 == l)=false then ([],129)
 else ((ZaI b.length).1++b,0)
def Zbp (w:Int) (l:List Zv):Zb×Int:=ZgR w l (l.map Zc5).flatten
theorem Zsj (σ:Za) (sq own:Nat) (f:Bool) (a v:Zb) (h:a.length+v.length<=140737488355328):Zi E BY σ sq 35 own true [.lst f [.lst false (a.map Zc),.lst false (v.map Zc)]]=some (.lst false ((a++v).map Zc),σ,{}):=by
 have:=Zhr σ sq own f a [v] (by simp) (by simpa using h)
 simpa only [Xt,XM,ZV,Wz,W5,Xp] using this
end
section
theorem Zp9 (w:Int):∀ (n:Nat) (b:Zb) (l:List Zv),(ZdW w n b l).1.length<=l.length+b.length
 | n,[],l=>by rw [Zsv];simp
 | 0,c::r,l=>by simp [ZdW]
 | n+1,c::r,l=>by
  rw [ZrZ]
  split
  ·rename_i h
   have hu:=Ztj h
   have ih:=Zp9 w n ((c::r).drop (ZbU w (c::r) l).2.1) (l++[(ZbU w (c::r) l).1])
   rw [X6,Xk,XaD] at ih
   omega
  ·simp
theorem ZOv (w:Int) (b:Zb):(Zao w b).1.length<=b.length:=by
 unfold Zao
 split
 ·simp
 ·split
  ·have:=Zp9 w (Zag b).1 ((b.take ((Zag b).2.1+(Zag b).1)).drop (Zag b).2.1) []
   simp only [X6,Wl,XG] at this
   simp only
   omega
  ·simp
def okV (k:Int) (p:Zv):Bool :=
 if k=1 then decide (p.num>=0) && decide (p.num < 256) else if k=2 then decide (p.num>=0) && decide (p.num < 65536) else if k=3 then decide (p.num>=0) && decide (p.num < 4294967296)
 else if k=4 then (ZaI p.num).2 == 0 else if k=5 then (Zas p.text).2 == 0 else if k=6 then (ZbD p.data).2 == 0
 else if k=7 then (Zas p.text).2 == 0 && (Zas p.pair).2 == 0 else false
def ZOC (p:Zv):Bool:=!(decide (p.id < 1) || decide (p.id > 127)) && okV (ZbZ p.id) p
end
section
def Zgf (f:Bool) (x:Zb×Int):AVal:=.tup [.lst f (x.1.map Zc),.int .i64 x.2]
theorem ZEM (w:Int) (l:List Zv) (hl:l.length<=9223372036854775807) (b:Zb) (hb:b.length<=140737488355000) (i:Nat) (h1:¬(i:Int) < l.length) :
  ∃ f,Zit 0 [(16,.int .i64 i),(15,.int .i64 l.length),(14,.lst false (l.map Zq)),(6,.sl 0 0 0 b.length),(1,.lst false (l.map Zq)),(0,.int .i64 w)] [.row 0 1 (b.map Zc)]=some (Zgf f (ZgR w l b),[]):=by
 have hV:=fun σ sq own=>ZfX σ sq own (b.length:Int)
 unfold ZeA at hV
 have l0:=ZgC (b.length:Int)
 have hJ:=fun σ sq own f=>Zsj σ sq own f (ZaI b.length).1 b (by omega)
 have hR:=fun σ sq own f=>Zk6 σ sq own f w ((ZaI b.length).1++b) (by simp;omega)
 have hS:=fun σ sq own view (a:List Zv) (ha:a.length<=9223372036854775807)=>ZmB σ sq own view a l ha
 have ht:=ZIX b
 have hlen:((ZaI b.length).1++b).length<=140737488355328:=by simp;omega
 have hrl:=ZOv w ((ZaI b.length).1++b)
 unfold ZgR Zgf
 generalize ZaI b.length=V at *
 obtain ⟨v,e⟩:=V
 simp only at hV hJ hR hlen hrl ⊢
 generalize hc:v++b=c at *
 generalize Zao w c=R at *
 obtain ⟨again,used,code⟩:=R
 simp only at hR hrl ⊢
 have hS2:=fun σ sq own view=>hS σ sq own view again (by omega)
 unfold Zit
 by_cases he:e=0
 ·subst he
  have n0:((0:Int) != 0)=false:=rfl
  rw [if_neg (by simp)]
  by_cases hc0:code=0
  ·subst hc0
   by_cases hu:used=c.length
   ·have n2:((used:Int) != (c.length:Int))=false:=by simp [hu]
    cases hs:(again == l) <;> rw [hs] at hS2
    ·refine ⟨true,?_⟩
     rw [if_pos (by simp),ZX]
     simp -implicitDefEqProofs only [EQA,Zs,Xc,Xb,unA,ZE,unG,reduceCtorEq,ZR,↓reduceIte,Zd,Zhm,ZgW,Zfk,Zfg,Zeo,h1,hV,hJ,hR,hS2,ht,n0,n2,viewAs,ZW,ZP,Zn,Xx,AVal.cells]
    ·refine ⟨false,?_⟩
     rw [if_neg (by simp [hu]),ZX]
     simp -implicitDefEqProofs only [EQA,Zs,Xc,Xb,unA,ZE,unG,reduceCtorEq,ZR,↓reduceIte,Zd,Zhm,ZgW,Zfk,Zfg,Zeo,h1,hV,hJ,hR,hS2,ht,n0,n2,viewAs,ZW,ZP,Zn,Xx,AVal.cells]
   ·have n2:((used:Int) != (c.length:Int))=true:=by simp;omega
    refine ⟨true,?_⟩
    rw [if_pos (by simp [hu]),ZX]
    simp -implicitDefEqProofs only [EQA,Zs,Xc,Xb,ZE,Zaz,unG,reduceCtorEq,ZR,↓reduceIte,Zd,Zhm,ZgW,Zfk,Zfg,Zeo,h1,hV,hJ,hR,ht,n0,n2,viewAs,ZW,ZP,Zn,Xx,AVal.cells]
  ·have n1:(code != 0)=true:=by simpa using hc0
   refine ⟨true,?_⟩
   rw [if_pos (by simp [hc0]),ZX]
   simp -implicitDefEqProofs only [EQA,Zs,Xc,Xb,ZE,Zaz,reduceCtorEq,ZR,↓reduceIte,Zd,Zhm,ZgW,Zfk,Zfg,Zeo,h1,hV,hJ,hR,ht,n0,n1,viewAs,ZW,ZP,Zn,Xx,AVal.cells]
 ·have n1:(e != 0)=true:=by simpa using he
  refine ⟨true,?_⟩
  rw [if_pos he,ZX]
  simp -implicitDefEqProofs only [EQA,Zs,Xc,Xb,reduceCtorEq,↓reduceIte,Zd,Zhm,ZgW,Zfk,Zfg,Zeo,h1,hV,n1]
theorem Zvl (w:Int) (l:List Zv) (hl:l.length<=9223372036854775807) (hx:∀ p ∈ l,ZeD p):∀ (r:List Zv) (i:Nat) (acc:Zb),l.drop i=r->acc.length+r.length*200000<=140737488355000 ->
  ∃ f,Zit 0 [(16,.int .i64 i),(15,.int .i64 l.length),(14,.lst false (l.map Zq)),(6,.sl 0 0 0 acc.length),(1,.lst false (l.map Zq)),(0,.int .i64 w)] [.row 0 1 (acc.map Zc)]=some (Zgf f (ZgR w l (acc++(r.map Zc5).flatten)),[])
 | [],i,acc,h,hn=>by
  simp only [XM,W5,Xp]
  exact ZEM w l hl acc (by simpa using hn) i (Zcw h)
 | p::r,i,acc,h,hn=>by
  have hlp:=ZtR p
  simp only [XH] at hn
  obtain ⟨f,ih⟩:=Zvl w l hl hx r (i+1) (acc++Zc5 p) (Zab h).2.1 (by rw [Xk];omega)
  refine ⟨f,?_⟩
  have h1:(i:Int) < l.length:=by have:=(Zab h).2.2;omega
  have e1:=iad (Zab h).1 Zq (k:=5) rfl
  have e3:=Zcn h1 hl
  have hC:=fun σ sq own=>Zuk σ sq own p (hx p (XA (Zab h).1))
  rw [Wo] at ih
  rw [Xt,Wz]
  generalize Zc5 p=q at *
  have k1:=Zf1 q
  have k2:(acc.length+q.length)*1<=140737488355328:=by omega
  have e4:(acc++q).map Zc=acc.map Zc++q.map Zc:=by simp
  have e5:(acc++q).length=acc.length+q.length:=by simp
  rw [e4,e5] at ih
  unfold Zit at ih ⊢
  rw [ZX]
  simp -implicitDefEqProofs only [EQA,ZT,Zbk,Xe,Xc,Xb,Xg,reduceCtorEq,ZR,↓reduceIte,gcT,gcA,Zy,Zu,Zk,Zr,ZO,Zo,ZJ,ZB,ZG,Zfg,Zeo,ZV,Zq,ZbN,h1,e1,e3,hC,k1,k2,Zay,Xx,AVal.cells]
  exact ih
theorem ZzN (w:Int) (l:List Zv) (hl:l.length<=700000000) (hx:∀ p ∈ l,ZeD p):∃ f,E 105 [.int .i64 w,Zbc l] []=some (Zgf f (Zbp w l),[]):=by
 have z0:((0:Nat):Int)=0:=rfl
 unfold Zbp
 cases l with
 | nil =>
  have hV:=fun σ sq own=>ZfX σ sq own 0
  have hv:ZaI 0=([0],0):=rfl
  unfold ZeA at hV
  rw [hv] at hV
  have hJ:=fun σ sq own f=>Zsj σ sq own f [0] [] (by simp)
  have hR:=fun σ sq own f=>Zk6 σ sq own f w [0] (by simp)
  have hr:Zao w [0]=([],1,0):=rfl
  rw [hr] at hR
  have hS:=fun σ sq own view=>ZmB σ sq own view [] [] (by simp)
  have e:ZgR w [] (([]:List Zv).map Zc5).flatten=([0],0):=by
   unfold ZgR
   simp only [XM,W5,XG,z0,hv,Xp,hr]
   rfl
  rw [e]
  refine ⟨false,?_⟩
  rw [Zh (by rfl) Zuc]
  simp only [XM,Xt,Zc] at hV hJ hR hS
  unfold Zgf
  have b0:Zc 0=.int .u8 0:=rfl
  have u0:(0:UInt8).toNat=0:=rfl
  have n0:((0:Int) != 0)=false:=rfl
  have n1:((1:Int) != 1)=false:=rfl
  rw [u0,z0] at hV hJ hR
  have z1:((1:Nat):Int)=1:=rfl
  rw [z1] at hR
  simp -implicitDefEqProofs only [EQA,ZT,Xc,Xb,reduceCtorEq,↓reduceIte,gcT,gcA,Zy,Zu,Zr,ZG,Zry,ZkW,Zbc]
  rw [ZX]
  simp -implicitDefEqProofs only [EQA,Zs,Xc,Xb,unA,ZE,unG,reduceCtorEq,↓reduceIte,Zd,Zhm,ZgW,Zfk,Zfg,Zeo,z0,z1,hV,hJ,hR,hS,n0,n1,b0,viewAs,ZW,ZP,Zn,AVal.cells,X4]
 | cons p r =>
  have hlp:=ZtR p
  simp only [XH] at hl
  obtain ⟨f,ih⟩:=Zvl w (p::r) (by simp only [XH];omega) hx r 1 (Zc5 p) rfl (by omega)
  refine ⟨f,?_⟩
  have e1:=iad (l:=p::r) (i:=0) rfl Zq (k:=5) rfl
  have h1:(0:Int) < ((p::r).length:Int):=by simp only [XH];omega
  have w1:IntKind.i64.wrap (0+1)=1:=rfl
  have z1:((1:Nat):Int)=1:=rfl
  have hC:=fun σ sq own=>Zuk σ sq own p (hx p (by simp))
  rw [Xt,Wz]
  generalize Zc5 p=q at *
  have k1:=Zf1 q
  have k2:q.length*1<=140737488355328:=by omega
  have e6:(q.map Zc).length=q.length:=by simp
  rw [z0] at e1
  rw [z1] at ih
  generalize (r.map Zc5).flatten=t at *
  generalize hL:p::r=L at *
  rw [Zh (by rfl) Zuc]
  unfold Zit at ih
  simp -implicitDefEqProofs only [EQA,ZT,Xc,Xb,reduceCtorEq,↓reduceIte,gcT,gcA,Zy,Zu,Zr,ZG,Zry,ZkW,Zbc]
  rw [ZX]
  simp -implicitDefEqProofs only [EQA,ZT,Zbk,Xe,Xc,Xb,Xg,reduceCtorEq,ZR,↓reduceIte,gcT,gcA,Zy,Zu,Zk,Zr,ZO,Zo,ZJ,ZB,ZG,Zfg,Zeo,ZV,Zq,ZbN,h1,e1,w1,hC,k1,k2,Zay,Xx,AVal.cells]
  exact ih
theorem Zy2 (σ:Za) (sq own:Nat) (f:Bool) (w:Int) (l:List Zv) (hl:l.length<=700000000) (hx:∀ p ∈ l,ZeD p):Zi E BY σ sq 105 own true [.int .i64 w,.lst f (l.map Zq)]=some (Zgf false (Zbp w l),σ,{}):=by
 obtain ⟨g,h⟩:=ZzN w l hl hx
 exact ZbJ h (by kernel_rfl) rfl rfl rfl (fun _=>rfl) _ _ _
end
section
end
section
end
section
end
section
structure ZsN where
 topic:Zb
 payload:Zb
 qos:Int
 retain:Bool
 sender:Zb
 expires:Int
 props:List Zv
 origin:Int
 number:Int
 hops:Int
 deriving DecidableEq
structure ZN4 where
 note:ZsN
 qos:Int
 retain:Bool
 ids:List Int
 share:Zb
 deriving DecidableEq
end
section
theorem ZEG (w:Int) (b:Zb) (h:(Zao w b).2.2=0):(Zao w b).2.1<=268435460:=by
 have h1:=ZpB b
 have h2:(Zag b).2.1<=5:=by
  have : ∀ (b:Zb) (i n:Nat),i<=4->(gvA i n b).2.1<=5:=by
   intro b
   induction b with
   | nil=>intro i n hi;unfold gvA;split <;> simp
   | cons c r ih =>
    intro i n hi
    unfold gvA
    repeat' split
    all_goals (try simp only)
    all_goals first
     | omega
     | exact ih _ _ (by omega)
  exact this b 0 0 (by omega)
 unfold Zao at h ⊢
 split
 ·rename_i hc;rw [if_pos hc] at h;simp at h
 ·rename_i hc
  rw [if_neg hc] at h
  split
  ·simp only;omega
  ·rename_i h3;rw [if_neg h3] at h;exact absurd h h3
structure ZPd (n:ZsN):Prop where
 topic:n.topic.length<=9223372036854775807
 payload:n.payload.length<=9223372036854775807
 sender:n.sender.length<=9223372036854775807
 props:n.props.length<=700000000
 tx:∀ p ∈ n.props,ZeD p
 dat:∀ p ∈ n.props,p.data.length<=140737488355328
end
section
open Go.RowKit
def Ze3 (m i j:Nat) (rs:List ZcA) (σ:Za):Option (AVal×Za):=match resA [(3,.ref j 0),(2,.ref i 0)] σ rs with
 | some r=>Z8 m σ r
 | none=>none
noncomputable def ZfC (fs:Nat->Option ZF) (prim:Zb5) (bf:Nat->Bool) (tc:Nat) (c2 c3:Zf) (rs:List ZcA) (m:Nat) (tm1:Tms) (σ1:Za) (i j:Nat):Option (AVal×Za) :=
 match evC fs prim bf σ1.length c2 tm1 σ1 with
 | some (.ret,_,σ2)=>Ze3 m i j rs σ2
 | some (.panic (.iface t x),_,σ2)=>if t=tc then match evC fs prim bf σ1.length c3 [(10,x),(1,.ref j 0),(0,.ref i 0)] σ2 with
  | some (.normal,_,σ3)=>Ze3 m i j rs σ3
  | _=>none
  else none
 | _=>none
noncomputable def Zhj (fs:Nat->Option ZF) (prim:Zb5) (bf:Nat->Bool) (tc:Nat) (c1 c2 c3:Zf) (rs:List ZcA) (args:List AVal) (σ:Za):Option (AVal×Za) :=
 match evC fs prim bf σ.length c1 (enterA 0 args []) σ with
 | some (.normal,tm1,σ1)=>match tget tm1 2,tget tm1 3 with
  | .ref i 0,.ref j 0=>if σ.length<=σ1.length/\i < σ1.length/\j < σ1.length then ZfC fs prim bf tc c2 c3 rs σ.length (tput tm1 (some 5) .top) σ1 i j else none
  | _,_=>none
 | _=>none
structure Zlg (P:Program) (f h:FuncId) (ti tc:TypeId) (an1 an2 an3:Ann) (c1 c2 c3:Zf) (rs:List ZcA):Prop where
 ex:∃ (F H:Func) (b1 b2 b3 b4:Code) (i0 j0 j1 j2 j3 bid:Nat) (t1 t2 t3 t4 t5 t6 t7 t8:TypeId) (p1 p2 p3 p4 p5 p6 p7 p8:String) (a1 a2 a3 a4 a5 a6 a7 a8:Array Edge) (at1 at2:Array TypeId) (ims:Array (String×TypeId)) (k:IntKind),
  P.funcs[f]?=some F/\(F.name == "runtime.NumGoroutine")=false/\F.ntmps=20/\Zep P F.results.toList=some rs /\
  F.body=some (.seq b1 (.seq (.region i0 #[⟨some 5,.makeFunc (.func h) #[] #[.tmp 2,.tmp 3],t1,p1,a1,none⟩,⟨none,.defer ⟨.value (.tmp 5),#[],at1⟩,t2,p2,a2,none⟩] false) b2)) /\
  Zcs (Za0 P an1 b1)=c1/\Zcs (Za0 P an2 b2)=c2/\an1.nt=20/\an2.nt=20/\an2.keep=[2,3] /\
  P.funcs[h]?=some H/\(H.name == "runtime.NumGoroutine")=false/\H.ntmps=13/\H.results=#[] /\
  H.body=some (.seq (.region j0 #[⟨some 5,.call ⟨.builtin .recover,#[],at2⟩,t3,p3,a3,none⟩] false) (.block bid (.seq (.region j1 #[⟨some 7,.binOp .eql ti (.tmp 5) (.const .nilIface) ti,t4,p4,a4,none⟩] false)
   (.cond (.tmp 7) (.region j2 #[⟨some 2,.assign (.tmp 5),t5,p5,a5,none⟩] false)
    (.seq (.region j3 #[⟨some 8,.typeAssert (.tmp 5) ti tc true,t6,p6,a6,none⟩,⟨some 9,.extract (.tmp 8) 1,t7,p7,a7,none⟩,⟨some 10,.extract (.tmp 8) 0,t8,p8,a8,none⟩] false)
     (.cond (.tmp 9) b3 b4)))))) /\
  Zcs (Za0 P an3 b3)=c3/\an3.nt=13/\P.underlying ti=some (.interface ims)/\P.underlying tc=some (.int k)
section
variable {P:Program} {O:ZN} {bf:Nat->Bool} {base:Nat->Prop} {w0 w:World} {I0 I:Imm} {β:Bmap} {σ:Za}
theorem ZhA {m:Nat} {I':Imm} {β':Bmap} {i:Nat} {v:Value} (hk:KeptE m β β') (hi:i < m) (h:VR I β (.ref i 0) v):VR I' β' (.ref i 0) v:=by
 simp only [VR] at h ⊢
 obtain ⟨b,k,c,h1,h2⟩:=h
 exact ⟨b,k,c,hk i hi _ h1,h2⟩
theorem ZuG {F:Func} {rs:List ZcA} (hrs:Zep P F.results.toList=some rs) {m i j:Nat} {tmps:Array Value} {I':Imm} {β':Bmap} {σ' σ2:Za} {w':World} {r:AVal} (hI:I.le I') (hk:KeptE m β β') (R:Rel base w0 I0 I' β' σ2 w') (h2:VR I' β' (.ref i 0) (tmps.getD 2 undef)) (h3:VR I' β' (.ref j 0) (tmps.getD 3 undef)) (h:Ze3 m i j rs σ2=some (r,σ')) :
  ∃ v,(results F tmps).run P w'=.ok v w'/\∃ u,Ends r (.returned v) u/\ZbP m base w0 I0 I β r σ' u w':=by
 unfold Ze3 at h
 split at h
 ·rename_i x hx
  have T:TR I' β' [(3,.ref j 0),(2,.ref i 0)] tmps:=by
   intro n
   simp only [tget]
   split
   ·rename_i e;subst e;exact h3
   ·split
    ·rename_i e;subst e;exact h2
    ·simp only [VR]
  obtain ⟨v,q1,q2⟩:=Ztl T R hrs hx
  have hnp:∀ y,x≠.pan y:=by rintro y rfl;simp only [VR] at q2
  obtain ⟨p1,p2⟩:=Zmi (⟨I',β',hI,hk,R,by rw [ZfV hnp];exact q2⟩:ZbP m base w0 I0 I β x σ2 v w') h
  refine ⟨v,q1,v,p2 _ ?_,p1⟩
  cases x <;> first | rfl | exact absurd rfl (hnp _)
 ·cases h
theorem pgs {a:Act} {d:Nat} {u:Value} (h:d < a.tmps.size):(a.put (some d) u).tmps.getD d undef=u:=by
 simp [Act.put,WW,h]
theorem ZhC {m:Sem Value} {u:Value} (h:m.run P w=.ok u w):(do let q <-m;pure (Next.value q):Sem Next).run P w=.ok (.value u) w:=by
 rw [Sem.run_bind,h];rfl
theorem pgn {a:Act} {d j:Nat} {u:Value} (h:d≠j):(a.put (some d) u).tmps.getD j undef=a.tmps.getD j undef:=by
 simp only [Act.put,Array.getD_eq_getD_getElem?]
 rw [Array.getElem?_setIfInBounds_ne h]
theorem ZMJ (hm:P.follows .mixedOrders=true) (hO:ZaE P O) {f h:FuncId} {ti tc:TypeId} {an1 an2 an3:Ann} {c1 c2 c3:Zf} {rs:List ZcA} (D:Zlg P f h ti tc an1 an2 an3 c1 c2 c3 rs) (hb:KLt base w0) (R:Rel base w0 I0 I β σ w)
  {i j m n:Nat} {x:AVal} {v2 v3 v:Value} (h2:VR I β (.ref i 0) v2) (h3:VR I β (.ref j 0) v3) (hv:VR I β x v) {tm':Tms} {σ':Za} (hx:Zaa O bf m n c3 [(10,x),(1,.ref j 0),(0,.ref i 0)] σ=some (.normal,tm',σ')) :
  CallsD P h #[v2,v3] (.panicking [{ v:=.iface tc v,recovered:=false }]) w fun e u' w'=>e=.returned (.tuple #[])/\u'=.panicking [{ v:=.iface tc v,recovered:=true }]/\∃ I' β',I.le I'/\KeptE m β β'/\Rel base w0 I0 I' β' σ' w':=by
 obtain ⟨F,H,b1,b2,b3,b4,i0,j0,j1,j2,j3,bid,t1,t2,t3,t4,t5,t6,t7,t8,p1,p2,p3,p4,p5,p6,p7,p8,a1,a2,a3,a4,a5,a6,a7,a8,at1,at2,ims,k,hF,hname,hnt,hrs,hbody,hc1,hc2,hn1,hn2,hk2,hH,hHname,hHn,hHr,hHb,hc3,hn3,hti,htc⟩:=D.ex
 refine callsD_of_wpS hH hHb fun c₀ cs hu=>?_
 apply wpS_seq
 apply wpS_region
 simp [wpOpsS,go_sem,recoverD,hu,hHn,Exit.thenS]
 refine wpS_of_wp ?_
 generalize hT:(#[v2,v3]++(WY 11 undef).setIfInBounds 3 (Value.iface tc v))=T
 have hs:T.size=13:=by rw [<-hT];simp
 have hT0:T.getD 0 undef=v2:=by rw [<-hT];simp [WW]
 have hT1:T.getD 1 undef=v3:=by rw [<-hT];simp [WW]
 have hT5:T.getD 5 undef=.iface tc v:=by rw [<-hT];simp [WW]
 clear hT
 refine wp_block (wp_seq (wp_region_list (Zec rfl ?_)))
 unfold Oper.wp
 have e1:∀ o:Oper,o.op=.binOp .eql ti (.tmp 5) (.const .nilIface) ti->(execOp ({ tmps:=T,defers:=[] }:Act).eval o).run P w=.ok (.value (.bool false)) w:=by
  intro o ho
  unfold execOp;rw [ho]
  simp only [Act.eval,hT5]
  exact ZhC (Zsz (P:=P) (w:=w) (t1:=tc) (u:=v) hti false (op:=.eql) (.tmp 5) .nilIface rfl)
 rw [e1 _ rfl,Oper.upon_value]
 refine wpList_nil ?_
 simp only [Exit.then]
 refine wp_cond_false (by simp only [Act.eval];exact pgs (by simp [hs])) ?_
 refine wp_seq (wp_region_list (Zec rfl ?_))
 unfold Oper.wp
 generalize hA1:({ tmps:=T,defers:=[] }:Act).put (some 7) (.bool false)=A1
 have hs1:A1.tmps.size=13:=by rw [<-hA1,ZeB];exact hs
 have g1:∀ j,j≠7->A1.tmps.getD j undef=T.getD j undef:=by intro j hj;rw [<-hA1];exact pgn (by omega)
 have hd1:A1.defers=[]:=by rw [<-hA1];rfl
 have e2:∀ o:Oper,o.op=.typeAssert (.tmp 5) ti tc true->(execOp A1.eval o).run P w=.ok (.value (.tuple #[v,.bool true])) w:=by
  intro o ho
  unfold execOp;rw [ho]
  simp only [Act.eval,g1 5 (by omega),hT5]
  refine ZhC ?_
  simp [Instr.typeAssert,underlying,htc]
 rw [e2 _ rfl,Oper.upon_value]
 generalize hA2:A1.put (some 8) (.tuple #[v,.bool true])=A2
 have hs2:A2.tmps.size=13:=by rw [<-hA2,ZeB];exact hs1
 have g2:∀ j,j≠8->A2.tmps.getD j undef=A1.tmps.getD j undef:=by intro j hj;rw [<-hA2];exact pgn (by omega)
 have g28:A2.tmps.getD 8 undef=.tuple #[v,.bool true]:=by rw [<-hA2];exact pgs (by omega)
 have hd2:A2.defers=[]:=by rw [<-hA2];exact hd1
 refine Zec rfl ?_
 unfold Oper.wp
 have e3:∀ o:Oper,o.op=.extract (.tmp 8) 1->(execOp A2.eval o).run P w=.ok (.value (.bool true)) w:=by
  intro o ho
  unfold execOp;rw [ho]
  simp only [Act.eval,g28]
  refine ZhC ?_
  simp [Instr.extract]
 rw [e3 _ rfl,Oper.upon_value]
 generalize hA3:A2.put (some 9) (.bool true)=A3
 have hs3:A3.tmps.size=13:=by rw [<-hA3,ZeB];exact hs2
 have g3:∀ j,j≠9->A3.tmps.getD j undef=A2.tmps.getD j undef:=by intro j hj;rw [<-hA3];exact pgn (by omega)
 have g39:A3.tmps.getD 9 undef=.bool true:=by rw [<-hA3];exact pgs (by omega)
 have hd3:A3.defers=[]:=by rw [<-hA3];exact hd2
 refine Zec rfl ?_
 unfold Oper.wp
 have e4:∀ o:Oper,o.op=.extract (.tmp 8) 0->(execOp A3.eval o).run P w=.ok (.value v) w:=by
  intro o ho
  unfold execOp;rw [ho]
  simp only [Act.eval,g3 8 (by omega),g28]
  refine ZhC ?_
  simp [Instr.extract]
 rw [e4 _ rfl,Oper.upon_value]
 generalize hA4:A3.put (some 10) v=A4
 have hs4:A4.tmps.size=13:=by rw [<-hA4,ZeB];exact hs3
 have g4:∀ j,j≠10->A4.tmps.getD j undef=A3.tmps.getD j undef:=by intro j hj;rw [<-hA4];exact pgn (by omega)
 have g410:A4.tmps.getD 10 undef=v:=by rw [<-hA4];exact pgs (by omega)
 have hd4:A4.defers=[]:=by rw [<-hA4];exact hd3
 refine wpList_nil ?_
 simp only [Exit.then]
 refine wp_cond_true (by simp only [Act.eval];rw [g4 9 (by omega),g39]) ?_
 have hst:StF ZbK m an3.nt base w0 I0 I β [(10,x),(1,.ref j 0),(0,.ref i 0)] σ A4 w:=by
  refine ⟨I,β,Imm.le.refl I,KeptE.refl _ β,fun n=>?_,⟨Ze7.2 hd4,by rw [hs4,hn3];omega⟩,R⟩
  simp only [tget]
  split
  ·rename_i e;subst e;rw [g410];exact hv
  ·split
   ·rename_i e;subst e;rw [g4 1 (by omega),g3 1 (by omega),g2 1 (by omega),g1 1 (by omega),hT1];exact h3
   ·split
    ·rename_i e;subst e;rw [g4 0 (by omega),g3 0 (by omega),g2 0 (by omega),g1 0 (by omega),hT0];exact h2
    ·simp only [VR]
 rw [<-hc3,ZdM] at hx
 refine Zjv (dr:=ZbK) (an:=an3) hO (fun n hn=>by simp [ZbK] at hn) hm hb m n rfl hst hx ?_
 intro a' w' ⟨I',β',k1,k2,k3,k4,k5⟩
 simp only [Exit.inBlock,bodyPostS]
 refine ⟨Ze7.1 k4.1,_,rfl,.tuple #[],?_,rfl,rfl,I',k1,β',k2,k5⟩
 simp [results,hHr]
theorem ZNM {f h:FuncId} {ti tc:TypeId} {an1 an2 an3:Ann} {c1 c2 c3:Zf} {rs:List ZcA} (D:Zlg P f h ti tc an1 an2 an3 c1 c2 c3 rs) {v2 v3:Value} {w:World} :
  CallsD P h #[v2,v3] .returning w fun e u' w'=>e=.returned (.tuple #[])/\u'=.returning/\w'=w:=by
 obtain ⟨F,H,b1,b2,b3,b4,i0,j0,j1,j2,j3,bid,t1,t2,t3,t4,t5,t6,t7,t8,p1,p2,p3,p4,p5,p6,p7,p8,a1,a2,a3,a4,a5,a6,a7,a8,at1,at2,ims,k,hF,hname,hnt,hrs,hbody,hc1,hc2,hn1,hn2,hk2,hH,hHname,hHn,hHr,hHb,hc3,hn3,hti,htc⟩:=D.ex
 refine callsD_of_wpS hH hHb fun c₀ cs hu=>?_
 apply wpS_seq
 apply wpS_region
 simp [wpOpsS,go_sem,recoverD,hu,hHn,Exit.thenS]
 refine wpS_of_wp ?_
 generalize hT:(#[v2,v3]++(WY 11 undef).setIfInBounds 3 Value.nilIface)=T
 have hs:T.size=13:=by rw [<-hT];simp
 have hT5:T.getD 5 undef=.nilIface:=by rw [<-hT];simp [WW]
 clear hT
 refine wp_block (wp_seq (wp_region_list (Zec rfl ?_)))
 unfold Oper.wp
 have e1:∀ o:Oper,o.op=.binOp .eql ti (.tmp 5) (.const .nilIface) ti->(execOp ({ tmps:=T,defers:=[] }:Act).eval o).run P w=.ok (.value (.bool true)) w:=by
  intro o ho
  unfold execOp;rw [ho]
  simp only [Act.eval,hT5]
  exact ZhC (ZvO (P:=P) (w:=w) hti false (op:=.eql) (.tmp 5) .nilIface rfl)
 rw [e1 _ rfl,Oper.upon_value]
 refine wpList_nil ?_
 simp only [Exit.then]
 refine wp_cond_true (by simp only [Act.eval];exact pgs (by simp [hs])) ?_
 refine wp_region_list (Zec rfl ?_)
 unfold Oper.wp
 generalize hA1:({ tmps:=T,defers:=[] }:Act).put (some 7) (.bool true)=A1
 have g1:∀ j,j≠7->A1.tmps.getD j undef=T.getD j undef:=by intro j hj;rw [<-hA1];exact pgn (by omega)
 have hd1:A1.defers=[]:=by rw [<-hA1];rfl
 have e2:∀ o:Oper,o.op=.assign (.tmp 5)->(execOp A1.eval o).run P w=.ok (.value .nilIface) w:=by
  intro o ho
  unfold execOp;rw [ho]
  simp [Act.eval,g1 5 (by omega),hT5]
 rw [e2 _ rfl,Oper.upon_value]
 refine wpList_nil ?_
 simp only [Exit.inBlock,bodyPostS]
 refine ⟨hd1,.returning,?_,.tuple #[],?_,rfl,rfl,trivial⟩
 ·cases c₀;simp_all
 ·simp [results,hHr]
end
section
variable {P:Program} {fs:Nat->Option ZF} {prim:Zb5} {bf:Nat->Bool}
theorem Zw0 (hm:P.follows .mixedOrders=true) (hO:∀ n,ZaE P (Zap fs prim bf n)) {f h:FuncId} {ti tc:TypeId} {an1 an2 an3:Ann} {c1 c2 c3:Zf} {rs:List ZcA} (D:Zlg P f h ti tc an1 an2 an3 c1 c2 c3 rs)
  {args:List AVal} {σ σ':Za} {r:AVal} (hg:Zhj fs prim bf tc c1 c2 c3 rs args σ=some (r,σ')) :
  (∃ fn,P.funcs[f]?=some fn/\fn.body.isSome=true/\(fn.name == "runtime.NumGoroutine")=false) /\
  ∀ base w0 I0 I β w (vs:Array Value),KLt base w0->Rel base w0 I0 I β σ w->VRs I β args vs.toList ->
   Calls P f vs w (fun e w'=>∃ u,Ends r e u/\ZbP σ.length base w0 I0 I β r σ' u w'):=by
 obtain ⟨F,H,b1,b2,b3,b4,i0,j0,j1,j2,j3,bid,t1,t2,t3,t4,t5,t6,t7,t8,p1,p2,p3,p4,p5,p6,p7,p8,a1,a2,a3,a4,a5,a6,a7,a8,at1,at2,ims,k,hF,hname,hnt,hrs,hbody,hc1,hc2,hn1,hn2,hk2,hH,hHname,hHn,hHr,hHb,hc3,hn3,hti,htc⟩:=D.ex
 refine ⟨⟨F,hF,by rw [hbody];rfl,hname⟩,?_⟩
 intro base w0 I0 I β w vs hb R hargs
 unfold Zhj at hg
 split at hg
 case h_2=>cases hg
 rename_i tm1 σ1 hx1
 split at hg
 case h_2=>cases hg
 rename_i i j hi hj
 split at hg
 case isFalse=>cases hg
 rename_i hlen
 obtain ⟨hl0,hli,hlj⟩:=hlen
 obtain ⟨n1,hx1⟩:=Zbm.1 hx1
 rw [<-hc1,ZdM] at hx1
 refine calls_of_wp_defers hF hbody ?_
 have T:=ZnJ hargs (F.ntmps - vs.size)
 have hst:StF ZbK σ.length an1.nt base w0 I0 I β (enterA 0 args []) σ { tmps:=vs++WY (F.ntmps - vs.size) undef,defers:=[] } w:=⟨I,β,Imm.le.refl I,KeptE.refl _ β,T,⟨Ze7.2 rfl,by rw [hn1];simp;omega⟩,R⟩
 refine wp_seq ?_
 refine Zjv (dr:=ZbK) (an:=an1) (hO n1) (fun n hn=>by simp [ZbK] at hn) hm hb σ.length n1 rfl hst hx1 ?_
 rintro A0 w1 ⟨I1,β1,g1,g2,T1,⟨gd,gs⟩,R1⟩
 have gd:=Ze7.1 gd
 rw [hn1] at gs
 simp only [Exit.then]
 refine wp_seq (wp_region_list (Zec rfl ?_))
 unfold Oper.wp
 have e1:∀ o:Oper,o.op=.makeFunc (.func h) #[] #[.tmp 2,.tmp 3]->(execOp A0.eval o).run P w1=.ok (.value (.func (.func h) #[] #[A0.tmps.getD 2 undef,A0.tmps.getD 3 undef])) w1:=by
  intro o ho
  unfold execOp;rw [ho]
  refine ZhC ?_
  simp [Instr.makeFunc,Act.eval]
 rw [e1 _ rfl,Oper.upon_value]
 generalize hv2:A0.tmps.getD 2 undef=v2
 generalize hv3:A0.tmps.getD 3 undef=v3
 have hr2:VR I1 β1 (.ref i 0) v2:=by rw [<-hv2,<-hi];exact T1 2
 have hr3:VR I1 β1 (.ref j 0) v3:=by rw [<-hv3,<-hj];exact T1 3
 generalize hA1:A0.put (some 5) (.func (.func h) #[] #[v2,v3])=A1
 have hs1:A1.tmps.size=A0.tmps.size:=by rw [<-hA1,ZeB]
 have q1:∀ j,j≠5->A1.tmps.getD j undef=A0.tmps.getD j undef:=by intro j hj;rw [<-hA1];exact pgn (by omega)
 have q5:A1.tmps.getD 5 undef=.func (.func h) #[] #[v2,v3]:=by rw [<-hA1];exact pgs (by omega)
 have hd1:A1.defers=[]:=by rw [<-hA1];exact gd
 refine Zec rfl ?_
 unfold Oper.wp
 have e2:∀ o:Oper,o.op=.defer ⟨.value (.tmp 5),#[],at1⟩->(execOp A1.eval o).run P w1=.ok (.defer ⟨.fn (.func h) #[v2,v3],#[]⟩) w1:=by
  intro o ho
  unfold execOp;rw [ho]
  simp [resolve,Act.eval,q5,Deferred.ofValue]
 rw [e2 _ rfl,Oper.upon_defer]
 refine wpList_nil ?_
 simp only [Exit.then]
 generalize hd:(⟨.fn (.func h) #[v2,v3],#[]⟩:Deferred)=d
 have hA2:({ A1 with defers:=d::A1.defers }:Act).put none undef={ A1 with defers:=[d] }:=by rw [hd1];rfl
 rw [hA2]
 let dr:Door:=⟨[d],[2,3],fun n=>if n=2 then v2 else v3⟩
 have hdr:dr.ok { A1 with defers:=[d] }:=by
  refine ⟨rfl,fun j hj=>?_⟩
  simp only [dr,XS,List.not_mem_nil,or_false] at hj
  rcases hj with rfl | rfl
  ·show A1.tmps.getD 2 undef=_;rw [q1 2 (by omega),hv2];rfl
  ·show A1.tmps.getD 3 undef=_;rw [q1 3 (by omega),hv3];rfl
 have T2:TR I1 β1 (tput tm1 (some 5) .top) A1.tmps:=by
  rw [<-hA1]
  exact Zng T1 (by simp only [VR]) (fun n hn=>by injection hn with hn;omega)
 unfold ZfC at hg
 have hst2:StF dr σ1.length an2.nt base w0 I0 I1 β1 (tput tm1 (some 5) .top) σ1 { A1 with defers:=[d] } w1:=⟨I1,β1,Imm.le.refl I1,KeptE.refl _ β1,T2,⟨hdr,by rw [hn2];show 20<=A1.tmps.size;omega⟩,R1⟩
 have lift:∀ {I':Imm} {β':Bmap},I1.le I'->KeptE σ1.length β1 β'->I.le I'/\KeptE σ.length β β':=fun h1 h2=>⟨g1.trans h1,g2.trans (fun t ht bi e=>h2 t (by omega) bi e)⟩
 have hinv:∀ w:World,(invoke (.fn (.func h) #[v2,v3]) #[]).run P w=.ok (.enter h #[v2,v3]) w:=fun w=>by
  unfold invoke
  simpa using ZkI (args:=#[v2,v3]) (w:=w) hH (by rw [hHb];rfl) hHname
 have tm2:∀ {A:Act},dr.ok A->A.tmps.getD 2 undef=v2/\A.tmps.getD 3 undef=v3:=fun hA=>⟨hA.2 2 (by simp [dr]),hA.2 3 (by simp [dr])⟩
 split at hg
 case h_3=>cases hg
 ·rename_i tmx σ2 hx2
  obtain ⟨n2,hx2⟩:=Zbm.1 hx2
  rw [<-hc2,ZdM] at hx2
  refine Zjv (dr:=dr) (an:=an2) (hO n2) (fun n hn=>by rw [hk2];exact hn) hm hb σ1.length n2 rfl hst2 hx2 ?_
  rintro A3 w3 ⟨I3,β3,k1,k2,T3,⟨kd,ks⟩,R3⟩
  show Leaves P F A3.tmps _ A3.defers .returning w3
  rw [kd.1]
  show Leaves P F A3.tmps _ [d] .returning w3
  rw [<-hd]
  refine leaves_cons (f:=h) (args:=#[v2,v3]) (by simp) (hinv w3) ?_
  refine (ZNM D).mono ?_
  rintro e u' w' ⟨rfl,rfl,rfl⟩
  simp only [settle,Leaves]
  obtain ⟨l1,l2⟩:=lift k1 k2
  exact ZuG hrs l1 l2 R3 (by rw [(tm2 kd).1];exact ZhA k2 hli hr2) (by rw [(tm2 kd).2];exact ZhA k2 hlj hr3) hg
 ·rename_i t x tmx σ2 hx2
  split at hg
  case isFalse=>cases hg
  rename_i ht
  subst ht
  split at hg
  case h_2=>cases hg
  rename_i tmy σ3 hx3
  obtain ⟨n2,hx2⟩:=Zbm.1 hx2
  rw [<-hc2,ZdM] at hx2
  obtain ⟨n3,hx3⟩:=Zbm.1 hx3
  refine Zjv (dr:=dr) (an:=an2) (hO n2) (fun n hn=>by rw [hk2];exact hn) hm hb σ1.length n2 rfl hst2 hx2 ?_
  rintro A3 u w3 kd ⟨I3,β3,k1,k2,R3,kv⟩
  simp only [ZaW,VR] at kv
  obtain ⟨v,rfl,kv⟩:=kv
  show Leaves P F A3.tmps _ A3.defers (.panicking [{ v:=.iface t v,recovered:=false }]) w3
  rw [kd.1]
  show Leaves P F A3.tmps _ [d] _ w3
  rw [<-hd]
  refine leaves_cons (f:=h) (args:=#[v2,v3]) (by simp) (hinv w3) ?_
  refine (ZMJ hm (hO n3) D hb R3 (ZhA k2 hli hr2) (ZhA k2 hlj hr3) kv hx3).mono ?_
  rintro e u' w' ⟨rfl,rfl,I4,β4,m1,m2,R4⟩
  simp only [settle,List.dropWhile,Leaves]
  have k3:=k2.trans m2
  obtain ⟨l1,l2⟩:=lift (k1.trans m1) k3
  exact ZuG hrs l1 l2 R4 (by rw [(tm2 kd).1];exact ZhA k3 hli hr2) (by rw [(tm2 kd).2];exact ZhA k3 hlj hr3) hg
end
section
variable {fs:Nat->Option ZF} {p p':Zb5} {bf:Nat->Bool}
theorem Zum (h0:∀ f,p f=none->p' f=none) (h1:∀ f g,p f=some g->p' f=some g\/∀ a σ,g a σ=none):∀ n,OLe (Zap fs p bf n) (Zap fs p' bf n)
 | 0=>by intro f a σ r h;simp only [Zap] at h;cases h
 | n+1=>by
  intro f a σ r h
  rw [Zap] at h ⊢
  split at h
  ·rename_i g hg
   rcases h1 f g hg with h2 | h2
   ·rw [h2];exact h
   ·rw [h2] at h;cases h
  ·rename_i hg
   rw [h0 f hg]
   split at h
   ·cases h
   ·rename_i fn hfn
    exact ZiL (fun q hq=>Zdf (Zum h0 h1 n) (Xx n) hq) h
theorem ZDX (h0:∀ f,p f=none->p' f=none) (h1:∀ f g,p f=some g->p' f=some g\/∀ a σ,g a σ=none):OLe (EV fs p bf) (EV fs p' bf):=by
 intro f a σ r h
 obtain ⟨n,hn⟩:=Zco.1 h
 exact Zco.2 ⟨n,Zum h0 h1 n f a σ r hn⟩
end
end
section
open Go.Shelf
def Zwy:Ren:=⟨fun | 137=>134 | 217=>159 | 266=>177 | n=>n,fun | 9=>9 | 5=>5 | 3=>3 | n=>n,fun | n=>n⟩
theorem ZAh:Go.Proofs.Lays.n137 Tryz.prog Zwy:={ mixed:=by kernel_rfl,f137:=Tryz.func134.trans (congrArg some (by kernel_rfl)),f217:=Tryz.func159.trans (congrArg some (by kernel_rfl)),f266:=Tryz.func177.trans (congrArg some (by kernel_rfl)),t3:=Tryz.underlying3,a3:=Tryz.isAgg3,z3:=Tryz.sizeOf3,v3:=Tryz.zeroValue3,t5:=Tryz.underlying5,a5:=Tryz.isAgg5,z5:=Tryz.sizeOf5,v5:=Tryz.zeroValue5,t9:=Tryz.underlying9,a9:=Tryz.isAgg9,z9:=Tryz.sizeOf9,v9:=Tryz.zeroValue9 }
def ZCv:Ren:=⟨fun | 217=>159 | 266=>177 | n=>n,fun | 9=>9 | 5=>5 | 3=>3 | n=>n,fun | n=>n⟩
theorem ZKv:Go.Proofs.Lays.n217 Tryz.prog ZCv:={ mixed:=by kernel_rfl,f217:=Tryz.func159.trans (congrArg some (by kernel_rfl)),f266:=Tryz.func177.trans (congrArg some (by kernel_rfl)),t3:=Tryz.underlying3,a3:=Tryz.isAgg3,z3:=Tryz.sizeOf3,v3:=Tryz.zeroValue3,t5:=Tryz.underlying5,a5:=Tryz.isAgg5,z5:=Tryz.sizeOf5,v5:=Tryz.zeroValue5,t9:=Tryz.underlying9,a9:=Tryz.isAgg9,z9:=Tryz.sizeOf9,v9:=Tryz.zeroValue9 }
section
open Go.Shelf
def ZAi:Ren:=⟨fun | 138=>131 | 195=>155 | 218=>157 | 143=>132 | 219=>158 | 217=>159 | 225=>137 | 224=>136 | 267=>176 | 266=>177 | 314=>186 | n=>n,fun | 9=>9 | 3=>3 | 4=>4 | 5=>5 | 0=>0 | 46=>66 | 146=>263 | 51=>251 | n=>n,fun | 1=>5 | n=>n⟩
theorem Zw5:Go.Proofs.Lays.n138 Tryz.prog ZAi:={ mixed:=by kernel_rfl,f138:=Tryz.func131.trans (congrArg some (by kernel_rfl)),f143:=Tryz.func132.trans (congrArg some (by kernel_rfl)),f195:=Tryz.func155.trans (congrArg some (by kernel_rfl)),f217:=Tryz.func159.trans (congrArg some (by kernel_rfl)),f218:=Tryz.func157.trans (congrArg some (by kernel_rfl)),f219:=Tryz.func158.trans (congrArg some (by kernel_rfl)),f224:=Tryz.func136.trans (congrArg some (by kernel_rfl)),f225:=Tryz.func137.trans (congrArg some (by kernel_rfl)),f266:=Tryz.func177.trans (congrArg some (by kernel_rfl)),f267:=Tryz.func176.trans (congrArg some (by kernel_rfl)),f314:=Tryz.func186.trans (congrArg some (by kernel_rfl)),t0:=Tryz.underlying0,a0:=Tryz.isAgg0,z0:=Tryz.sizeOf0,v0:=Tryz.zeroValue0,t3:=Tryz.underlying3,a3:=Tryz.isAgg3,z3:=Tryz.sizeOf3,v3:=Tryz.zeroValue3,t4:=Tryz.underlying4,a4:=Tryz.isAgg4,z4:=Tryz.sizeOf4,v4:=Tryz.zeroValue4,t5:=Tryz.underlying5,a5:=Tryz.isAgg5,z5:=Tryz.sizeOf5,v5:=Tryz.zeroValue5,t9:=Tryz.underlying9,a9:=Tryz.isAgg9,z9:=Tryz.sizeOf9,v9:=Tryz.zeroValue9,t46:=Tryz.underlying66,a46:=Tryz.isAgg66,z46:=Tryz.sizeOf66,v46:=Tryz.zeroValue66,t51:=Tryz.underlying251,a51:=Tryz.isAgg251,z51:=Tryz.sizeOf251,v51:=Tryz.zeroValue251,t146:=Tryz.underlying263,a146:=Tryz.isAgg263,z146:=Tryz.sizeOf263,v146:=Tryz.zeroValue263,g1:=by kernel_rfl }
end
end
section
open Go.Shelf
def ZLf:Ren:=⟨fun | 196=>98 | 259=>133 | n=>n,fun | 9=>9 | 4=>4 | 3=>3 | 5=>5 | 12=>12 | 119=>202 | 0=>0 | 46=>66 | 139=>205 | 138=>204 | 53=>181 | n=>n,fun | 3=>0 | 4=>1 | n=>n⟩
theorem Zuj:Go.Proofs.Lays.n196 Tryz.prog ZLf:={ mixed:=by kernel_rfl,f196:=Tryz.func98.trans (congrArg some (by kernel_rfl)),f259:=Tryz.func133.trans (congrArg some (by kernel_rfl)),t0:=Tryz.underlying0,a0:=Tryz.isAgg0,z0:=Tryz.sizeOf0,v0:=Tryz.zeroValue0,t3:=Tryz.underlying3,a3:=Tryz.isAgg3,z3:=Tryz.sizeOf3,v3:=Tryz.zeroValue3,t4:=Tryz.underlying4,a4:=Tryz.isAgg4,z4:=Tryz.sizeOf4,v4:=Tryz.zeroValue4,t5:=Tryz.underlying5,a5:=Tryz.isAgg5,z5:=Tryz.sizeOf5,v5:=Tryz.zeroValue5,t9:=Tryz.underlying9,a9:=Tryz.isAgg9,z9:=Tryz.sizeOf9,v9:=Tryz.zeroValue9,t12:=Tryz.underlying12,a12:=Tryz.isAgg12,z12:=Tryz.sizeOf12,v12:=Tryz.zeroValue12,t46:=Tryz.underlying66,a46:=Tryz.isAgg66,z46:=Tryz.sizeOf66,v46:=Tryz.zeroValue66,t53:=Tryz.underlying181,a53:=Tryz.isAgg181,z53:=Tryz.sizeOf181,v53:=Tryz.zeroValue181,t119:=Tryz.underlying202,a119:=Tryz.isAgg202,z119:=Tryz.sizeOf202,t138:=Tryz.underlying204,a138:=Tryz.isAgg204,z138:=Tryz.sizeOf204,v138:=Tryz.zeroValue204,t139:=Tryz.underlying205,a139:=Tryz.isAgg205,z139:=Tryz.sizeOf205,v139:=Tryz.zeroValue205,g3:=by kernel_rfl,g4:=by kernel_rfl }
end
section
set_option maxRecDepth 100000
theorem Zgm:Tryz.prog.follows .mixedOrders=true:=by kernel_rfl
theorem ZzY:Zii Tryz.prog 22 1 1 (.int .u8 0) 53:=⟨_,_,_,_,_,_,_,_,_,_,_,rfl,rfl,rfl,by kernel_rfl,rfl,rfl,rfl,rfl,rfl,rfl,rfl,rfl,by kernel_rfl,by kernel_rfl,⟨_,_,_,_,rfl⟩,rfl,by decide⟩
theorem ZwB:Zii Tryz.prog 28 5 72 (.agg [.int .i64 0,.int .i64 0,.str [],.str [],.lst true []]) 54:=⟨_,_,_,_,_,_,_,_,_,_,_,rfl,rfl,rfl,by kernel_rfl,rfl,rfl,rfl,rfl,rfl,rfl,rfl,rfl,by kernel_rfl,by kernel_rfl,⟨_,_,_,_,rfl⟩,rfl,by decide⟩
theorem ZNh:Zii Tryz.prog 65 2 16 (.agg [.int .i64 0,.int .i64 0]) 40:=⟨_,_,_,_,_,_,_,_,_,_,_,rfl,rfl,rfl,by kernel_rfl,rfl,rfl,rfl,rfl,rfl,rfl,rfl,rfl,by kernel_rfl,by kernel_rfl,⟨_,_,_,_,rfl⟩,rfl,by decide⟩
theorem ZD0:Zii Tryz.prog 80 11 136 (.agg [.int .i64 0,.str [],.lst true [],.int .i64 0,.bool false,.str [],.int .i64 0,.lst true [],.int .i64 0,.int .i64 0,.int .i64 0]) 50:=⟨_,_,_,_,_,_,_,_,_,_,_,rfl,rfl,rfl,by kernel_rfl,rfl,rfl,rfl,rfl,rfl,rfl,rfl,rfl,by kernel_rfl,by kernel_rfl,⟨_,_,_,_,rfl⟩,rfl,by decide⟩
theorem ZtN {α:Type} {d v:α}:∀ {l:List (Nat×α)} {n:Nat},Zee d l n=v->v=d\/(n,v) ∈ l
 | [],n,h=>Xr h.symm
 | (k,w)::r,n,h=>by
  simp only [Zee] at h
  split at h
  ·rename_i e;subst e h;exact Xy (by simp)
  ·rcases ZtN h with h | h
   ·exact Xr h
   ·exact Xy (by simp [h])
theorem ZsJ:Zkn Tryz.prog PR:=by
 intro f g h args σ r σ' hg
 rcases ZtN h with h | h
 ·cases h
 unfold ZvS at h
 simp only [XS,Prod.mk.injEq,Xa,List.not_mem_nil,or_false] at h
 rcases h with ⟨rfl,rfl⟩ | h
 ·exact Zl6 Zgm ZzY hg
 rcases h with ⟨rfl,rfl⟩ | h
 ·exact Zl6 Zgm ZwB hg
 rcases h with ⟨rfl,rfl⟩ | h
 ·exact Zl6 Zgm ZNh hg
 rcases h with ⟨rfl,rfl⟩ | h
 ·exact Zl6 Zgm ZD0 hg
 rcases h with ⟨rfl,rfl⟩ | h
 ·exact ZtY ⟨Tryz.f134,Tryz.func134,by kernel_rfl,by kernel_rfl⟩ (fun s c w=>Any.strings_IndexByte ZAh s c w) hg
 rcases h with ⟨rfl,rfl⟩ | h
 ·exact ZtY ⟨Tryz.f159,Tryz.func159,by kernel_rfl,by kernel_rfl⟩ (fun s c w=>Any.stringslite_IndexByte ZKv s c w) hg
 rcases h with ⟨rfl,rfl⟩ | h
 ·exact ZM6 ⟨Tryz.f131,Tryz.func131,by kernel_rfl,by kernel_rfl⟩ (fun s c w=>Any.strings_Count_one Zw5 s c w) hg
 rcases h with ⟨rfl,rfl⟩ | h
 ·exact ZHO ⟨Tryz.f98,Tryz.func98,by kernel_rfl,by kernel_rfl⟩ (fun s w hs hT=>Any.utf8_ValidString Zuj s w hs hT) hg
 rcases h with ⟨rfl,rfl⟩ | h
 ·exact Zt0 hg
 rcases h with ⟨rfl,rfl⟩ | h
 ·exact Zt0 hg
 exact absurd h.2 (by simp)
end
section
def ZbR:Nat:=70368744177664
def Zg9 (args:List AVal) (σ:Za):Option (AVal×Za):=match args,σ with
 | [.ref 0 0,.lst _ ys],[.var [.lst true [],.int .i64 0,.int .i8 _]] =>
  if ys.length<=ZbR/\kOk 1 ys=true then some (.tup [.int .i64 ys.length,.nili],[.var [.sl 1 0 0 ys.length,.int .i64 0,.int .i8 0],.row 0 1 ys]) else none
 | [.ref 0 0,.lst _ ys],[.var [.sl 1 g 0 m,.int .i64 0,.int .i8 _],.row g' 1 xs] =>
  if g=g'/\m=xs.length/\xs.length+ys.length<=ZbR/\kOk 1 ys=true then some (.tup [.int .i64 ys.length,.nili],[.var [.sl 1 (g+1) 0 (xs++ys).length,.int .i64 0,.int .i8 0],.row (g+1) 1 (xs++ys)]) else none
 | _,_=>none
end
section
set_option maxRecDepth 100000
def c1R:Zf :=  (.region [⟨(some 1),(.box (.t 0)),none,[]⟩,⟨(some 2),(.alloc [(.int .i64 0),(.bool false),(.int .i64 0),(.bool false),(.int .i64 0),(.str []),(.lst true []),(.int .i64 0),(.lst true []),(.lst true []),(.lst true []),(.lst true []),(.bool false),(.int .i64 0),(.str []),(.bool false),(.str []),(.lst true []),(.int .i64 0),(.bool false),(.lst true []),(.bool false),(.str []),(.bool false),(.lst true []),(.bool false)]),none,[]⟩,⟨(some 3),(.alloc [(.int .i64 0)]),none,[]⟩] none [3,2,1])
def c2R:Zf:=(.seq (.region [⟨(some 6),(.faddr 1 (.t 1)),none,[]⟩,⟨(some 7),(.ld none (.t 6)),none,[]⟩,⟨(some 8),(.build [(.int .i64 0),(.bool false),(.int .i64 0),(.bool false),(.int .i64 0),(.str []),(.lst true []),(.int .i64 0),(.lst true []),(.lst true []),(.lst true []),(.lst true []),(.bool false),(.int .i64 0),(.str []),(.bool false),(.str []),(.lst true []),(.int .i64 0),(.bool false),(.lst true []),(.bool false),(.str []),(.bool false),(.lst true []),(.bool false),(.lst true [])] [(26,1,(.t 7))]),none,[]⟩,⟨(some 9),(.box (.t 8)),none,[]⟩,⟨(some 4),(.mov (.t 9)),none,[]⟩] none [4,3,2,1]) (.seq (.region [⟨(some 10),(.mov (.t 4)),none,[]⟩,⟨(some 11),(.faddr 0 (.t 1)),none,[]⟩,⟨(some 12),(.ld none (.t 11)),none,[]⟩,⟨(some 13),(.call 87 0 true [(.t 10),(.t 12)]),none,[]⟩] none [4,3,2]) (.seq (.region [⟨(some 14),(.mov (.t 4)),none,[]⟩,⟨(some 15),(.call 88 1 true [(.t 14)]),none,[]⟩] none [4,3,2]) (.seq (.region [⟨(some 16),(.mov (.t 4)),none,[]⟩,⟨(some 17),(.nilchk (.t 16)),none,[]⟩,⟨(some 18),(.faddr 0 (.t 17)),none,[]⟩,⟨(some 19),(.ld (some 26) (.t 18)),none,[]⟩,⟨none,(.st 26 (.t 2) (.t 19)),none,[]⟩,⟨none,(.st 1 (.t 3) (.c (.int .i64 0))),none,[]⟩] none [3,2]) .ret))))
def c3R:Zf:=(.seq (.region [⟨(some 3),(.mov (.t 10)),none,[]⟩] none [3,1,0]) (.region [⟨(some 11),(.build [(.int .i64 0),(.bool false),(.int .i64 0),(.bool false),(.int .i64 0),(.str []),(.lst true []),(.int .i64 0),(.lst true []),(.lst true []),(.lst true []),(.lst true []),(.bool false),(.int .i64 0),(.str []),(.bool false),(.str []),(.lst true []),(.int .i64 0),(.bool false),(.lst true []),(.bool false),(.str []),(.bool false),(.lst true []),(.bool false)] []),none,[]⟩,⟨(some 12),(.mov (.t 3)),none,[]⟩,⟨none,(.st 26 (.t 0) (.t 11)),none,[]⟩,⟨none,(.st 1 (.t 1) (.t 12)),none,[]⟩] none []))
def rsR:List ZcA:=[(.cell 2 (some 26)),(.cell 3 none)]
def ZAq:Ann:={ nt:=20,lr:=fun _=>[3,2,1] }
def ZIz:Ann:={ ann 66 with nt:=20,keep:=[2,3],cfg:=fun f=>if f=88 then (1,true) else (0,true) }
def Zy0:Ann:={ ann 86 with nt:=13 }
theorem ZL7:Zlg Tryz.prog 66 86 20 41 ZAq ZIz Zy0 c1R c2R c3R rsR :=
 ⟨_,_,_,_,_,_,_,_,_,_,_,_,_,_,_,_,_,_,_,_,_,_,_,_,_,_,_,_,_,_,_,_,_,_,_,_,_,_,#[],.i64,rfl,by kernel_rfl,rfl,by kernel_rfl,rfl,by kernel_rfl,by kernel_rfl,rfl,rfl,rfl,rfl,by kernel_rfl,rfl,rfl,rfl,by kernel_rfl,rfl,by kernel_rfl,by kernel_rfl⟩
noncomputable def Zei:List AVal->Za->Option (AVal×Za):=Zhj FC PR BY 41 c1R c2R c3R rsR
noncomputable def PR1:Zb5:=fun f=>if f=66 then some Zei else if f=83 then some Zg9 else PR f
noncomputable abbrev E1:ZN:=EV FC PR1 BY
theorem Zxt:OLe E E1:=by
 refine ZDX (fun f hf=>?_) (fun f g hg=>?_)
 ·unfold PR1
  rw [if_neg (by rintro rfl;revert hf;decide),if_neg (by rintro rfl;revert hf;decide)]
  exact hf
 ·by_cases h1:f=66
  ·subst h1
   have : PR 66=some ZgS:=by rfl
   rw [this] at hg;injection hg with hg;subst hg
   exact Xy fun _ _=>rfl
  by_cases h2:f=83
  ·subst h2
   have : PR 83=some ZgS:=by rfl
   rw [this] at hg;injection hg with hg;subst hg
   exact Xy fun _ _=>rfl
  refine Xr ?_
  unfold PR1
  rw [if_neg h1,if_neg h2]
  exact hg
theorem Zbz {f:Nat} {fn:ZF} (hp:PR1 f=none) (hf:FC f=some fn) (args:List AVal) (σ:Za):E1 f args σ=Zau σ.length fn (evC FC PR1 BY σ.length fn.body (enterA 0 args []) σ):=ZrI hp hf args σ
theorem ZgB (args:List AVal) (σ:Za):E1 66 args σ=Zei args σ:=ZsL (by rfl) args σ
theorem Zvb (args:List AVal) (σ:Za):E1 83 args σ=Zg9 args σ:=ZsL (by rfl) args σ
theorem ZOD {args:List AVal} {σ σ':Za} {r:AVal} (hg:Zei args σ=some (r,σ')) :
  (∃ fn,Tryz.prog.funcs[66]?=some fn/\fn.body.isSome=true/\(fn.name == "runtime.NumGoroutine")=false) /\
  ∀ base w0 I0 I β w (vs:Array Value),KLt base w0->Rel base w0 I0 I β σ w->VRs I β args vs.toList ->
   Calls Tryz.prog 66 vs w (fun e w'=>∃ u,Ends r e u/\ZbP σ.length base w0 I0 I β r σ' u w') :=
 Zw0 Zgm (fun n=>by
  have h:Zap FC PR BY n=Zap CF PR BY n:=ZqB CF PR BY n
  rw [h]
  exact ZqH Zgm ZsJ ann BY n) ZL7 hg
end
section
def wn:List AVal:=[.lst true [],.int .i64 0,.int .i8 0]
def wv (r g n:Nat):List AVal:=[.sl r g 0 n,.int .i64 0,.int .i8 0]
def wH (g:Nat) (l:Zb):Za:=[.var (wv 1 g l.length),.row g 1 (l.map Zc)]
theorem ZaK {σ:Za} {sq f own:Nat} {view:Bool} {args:List AVal} {r:AVal×Za×Cls} (h:Zi E BY σ sq f own view args=some r):Zi E1 BY σ sq f own view args=some r:=ZqS Zxt h
theorem Zg0 {O:ZN} {f:Nat} {args args':List AVal} {l l':Zb} {q:AVal} (hq:ZM q=true) (hw:viewR (wH 1 l') q=some (q,[])/\viewR (wH 0 l') q=some (q,[])) (g2:Nat) (hg2:g2<=1) (h:O f (.ref 0 0::args') (wH 0 l)=some (q,wH g2 l')) (hb:BY f=false) (hp:args.all Zai=true) (hn:args.map ZL=args') {σ:Za} {t r g sq own:Nat} (htr:t≠r) (hff:ZaY σ sq own=true) (hs:σ[t]?=some (.var (wv r g l.length))) (hr:σ[r]?=some (.row g 1 (l.map Zc))) :
  Zi O BY σ sq f own true (.ref t 0::args)=some (q,(σ.set t (.var (wv r (g+g2) l'.length))).set r (.row (g+g2) 1 (l'.map Zc)),{ any:=true,upd:=[(t,wv r (g+g2) l'.length)] }):=by
 subst hn
 have hw':viewR [.var (wv 1 g2 l'.length),.row g2 1 (l'.map Zc)] q=some (q,[]):=by
  rcases Wx g2 1 with e | e
  ·obtain rfl:g2=0:=by omega
   exact hw.2
  ·obtain rfl:g2=1:=by omega
   exact hw.1
 exact Zgt (cs1:=wv 1 0 l.length) (cs2:=wv 1 g2 l'.length) hs hr htr rfl hb hp (fun ρ hρ=>by simp only [wv,Zg,Zm,hρ]) hg2 hff hq h (Zk1 true hq hw' rfl hg2 (fun ρ hρ=>by simp only [wv,Zg,Zm,hρ])) (fun ρ hρ=>by simp only [wv,Zg,Zm,hρ])
theorem Zgd {O:ZN} {f:Nat} {args args':List AVal} {l':Zb} {q:AVal} (hq:ZM q=true) (hv:Z5 true 1 (some (q,wH 0 l'))=some (q,wH 0 l')) (h:O f (.ref 0 0::args') [.var wn]=some (q,wH 0 l')) (hb:BY f=false) (hp:args.all Zai=true) (hn:args.map ZL=args') {σ:Za} {t sq:Nat} (hf:σ[sq]?=some .free) (hs:σ[t]?=some (.var wn)) :
  Zi O BY σ sq f 1 true (.ref t 0::args)=some (q,(σ.set t (.var (wv sq 0 l'.length))).set sq (.row 0 1 (l'.map Zc)),{ any:=true,upd:=[(t,wv sq 0 l'.length)] }):=by
 subst hn
 have htl:t < σ.length:=(Xl.1 hs).1
 have hsl:sq < σ.length:=(Xl.1 hf).1
 have hne:sq≠t:=by rintro rfl;rw [hs] at hf;cases hf
 have h1:σ.getD t .free=.var wn:=by simp [Xh,hs]
 have hf0:Zn σ []=σ:=rfl
 have hsh:showAs σ (.ref t 0::args)=some (.ref t 0::args.map ZL,[]):=by
  rw [showAs,show showA σ (.ref t 0)=some (.ref t 0,[]) from rfl,Zea hp]
  rfl
 have href:Zp (.ref t 0::args.map ZL)=[t]:=by
  rw [Zp,Zc2 hp];rfl
 have hre:Zu σ 1000 [t] []=[t]:=by
  have e1:([]:List Nat).contains t=false:=rfl
  rw [show (1000:Nat)=998+1+1 from rfl,Zu,e1]
  simp only [Xi,if_false,h1,ZG]
  rfl
 unfold Zi Zbx
 rw [hb]
 simp only [Xi,if_false,hsh,hf0,href,hre]
 unfold Zbl
 have hall:([t].all fun t=>okB (σ.getD t .free))=true:=by simp only [XP,Wj,h1,okB,Xaj]
 rw [if_pos hall]
 have hρt:Zk σ 0 [t] t 0=some (0,0):=by simp [Zk,ZO,hs,Zo,ZJ]
 have hargs:Zg (Zk σ 0 [t]) (.ref t 0::args.map ZL)=.ref 0 0::args.map ZL:=by
  rw [Zg,ZcN hp]
  simp only [Zm,hρt]
 have hheap:Zr σ 0 [t] (Zk σ 0 [t]) [t] 0=[.var wn]:=by
  simp only [Zr,h1,ZB]
  rfl
 rw [hargs,hheap,h]
 rw [show [t].length=1 from rfl,hv]
 have hk:ZaZ σ [t] (wH 0 l') 0=true:=by simp [wH,ZaZ,okB,Zb4,Zo,hs]
 have hff:ZaY σ sq 1=true:=by simp [ZaY,freeAt,hf]
 have hup:Za4 ((σ.set t (.var (wv sq 0 l'.length))).set sq (.row 0 1 (l'.map Zc))) [t]=[(t,wv sq 0 l'.length)]:=by
  have e1:((σ.set t (.var (wv sq 0 l'.length))).set sq (.row 0 1 (l'.map Zc)))[t]?=some (.var (wv sq 0 l'.length)):=by
   rw [Xm hne,X5 htl]
  simp only [Za4,e1]
 have hlay:Za1 σ [t] sq (wH 0 l') 0 σ=(σ.set t (.var (wv sq 0 l'.length))).set sq (.row 0 1 (l'.map Zc)):=by
  simp [wH,Za1,ZaH,Zch,ZB,Zo,wv,Zg,Zm,ZaA]
 simp only [Zaw,Wp,WN,Xi,if_false,hk,hff,hlay,hup,(Za7 _ _ hq).1]
 rfl
theorem ZvE {O:ZN} {f:Nat} {args args':List AVal} (h:O f (.ref 0 0::args') [.var wn]=some (.tup [],[.var wn])) (hb:BY f=false) (hp:args.all Zai=true) (hn:args.map ZL=args') {σ:Za} {t sq own:Nat} (hff:ZaY σ sq own=true) (hs:σ[t]?=some (.var wn)) :
  Zi O BY σ sq f own true (.ref t 0::args)=some (.tup [],σ,{ any:=true,upd:=[(t,wn)] }):=by
 subst hn
 have htl:t < σ.length:=(Xl.1 hs).1
 have h1:σ.getD t .free=.var wn:=by simp [Xh,hs]
 have hf0:Zn σ []=σ:=rfl
 have hsh:showAs σ (.ref t 0::args)=some (.ref t 0::args.map ZL,[]):=by
  rw [showAs,show showA σ (.ref t 0)=some (.ref t 0,[]) from rfl,Zea hp]
  rfl
 have href:Zp (.ref t 0::args.map ZL)=[t]:=by
  rw [Zp,Zc2 hp];rfl
 have hre:Zu σ 1000 [t] []=[t]:=by
  have e1:([]:List Nat).contains t=false:=rfl
  rw [show (1000:Nat)=998+1+1 from rfl,Zu,e1]
  simp only [Xi,if_false,h1,ZG]
  rfl
 unfold Zi Zbx
 rw [hb]
 simp only [Xi,if_false,hsh,hf0,href,hre]
 unfold Zbl
 have hall:([t].all fun t=>okB (σ.getD t .free))=true:=by simp only [XP,Wj,h1,okB,Xaj]
 rw [if_pos hall]
 have hρt:Zk σ 0 [t] t 0=some (0,0):=by simp [Zk,ZO,hs,Zo,ZJ]
 have hargs:Zg (Zk σ 0 [t]) (.ref t 0::args.map ZL)=.ref 0 0::args.map ZL:=by
  rw [Zg,ZcN hp]
  simp only [Zm,hρt]
 have hheap:Zr σ 0 [t] (Zk σ 0 [t]) [t] 0=[.var wn]:=by
  simp only [Zr,h1,ZB]
  rfl
 rw [hargs,hheap,h]
 have hv:Z5 true 1 (some (.tup [],[.var wn]))=some (.tup [],[.var wn]):=rfl
 rw [show [t].length=1 from rfl,hv]
 have hk:ZaZ σ [t] [.var wn] 0=true:=by simp [ZaZ,okB,Zb4,Zo,hs]
 have hset:σ.set t (.var wn)=σ:=by
  apply List.ext_getElem?
  intro i
  rw [List.getElem?_set]
  by_cases e:t=i
  ·subst e;rw [if_pos rfl,if_pos htl,hs]
  ·simp [e]
 have hup:Za4 σ [t]=[(t,wn)]:=by simp only [Za4,hs]
 have hlay:Za1 σ [t] sq [.var wn] 0 σ=σ:=by
  simp only [Za1,ZaH,ZB,Xu]
  exact hset
 simp only [Zaw,Wp,Xi,if_false,hk,hff,hlay,hup,Zm,Zg,XH,XG,XE,Xam,Xx,decide_true,X0,if_true]
def wT (n:Nat):AVal:=.tup [.int .i64 (n:Nat),.nili]
theorem ZHX (x:Zb) (hx:x.length<=ZbR):E1 83 [.ref 0 0,.lst false (x.map Zc)] [.var wn]=some (wT x.length,wH 0 x):=by
 rw [Zvb]
 simp only [Zg9,wn,XT,hx,Zf1,and_self,if_true]
 rfl
theorem ZwE (l x:Zb) (hx:l.length+x.length<=ZbR):E1 83 [.ref 0 0,.lst false (x.map Zc)] (wH 0 l)=some (wT x.length,wH 1 (l++x)):=by
 rw [Zvb]
 simp only [Zg9,wH,wv,XT,hx,Zf1,and_self,if_true,Wq,Xk]
 rfl
theorem Ztc (x:Zb) (hx:x.length<=ZbR) {σ:Za} {t sq:Nat} (hf:σ[sq]?=some .free) (hs:σ[t]?=some (.var wn)) :
  Zi E1 BY σ sq 83 1 true [.ref t 0,.lst false (x.map Zc)]=some (wT x.length,(σ.set t (.var (wv sq 0 x.length))).set sq (.row 0 1 (x.map Zc)),{ any:=true,upd:=[(t,wv sq 0 x.length)] }) :=
 Zgd (args:=[.lst false (x.map Zc)]) rfl rfl (ZHX x hx) (by kernel_rfl) rfl rfl hf hs
theorem ff1 {σ:Za} {sq:Nat} (hf:σ[sq]?=some .free):ZaY σ sq 1=true:=by simp [ZaY,freeAt,hf]
theorem Zie (l x:Zb) (hx:l.length+x.length<=ZbR) {σ:Za} (t r g:Nat) {sq:Nat} (htr:t≠r) (hf:σ[sq]?=some .free) (hs:σ[t]?=some (.var (wv r g l.length))) (hr:σ[r]?=some (.row g 1 (l.map Zc))) :
  Zi E1 BY σ sq 83 1 true [.ref t 0,.lst false (x.map Zc)]=some (wT x.length,(σ.set t (.var (wv r (g+1) (l++x).length))).set r (.row (g+1) 1 ((l++x).map Zc)),{ any:=true,upd:=[(t,wv r (g+1) (l++x).length)] }) :=
 Zg0 (args:=[.lst false (x.map Zc)]) rfl ⟨rfl,rfl⟩ 1 (by omega) (ZwE l x hx) (by kernel_rfl) rfl rfl htr (ff1 hf) hs hr
theorem Zvz (x:Zb) (σ:Za):Z8 1 (.var (wv 1 0 x.length)::.row 0 1 (x.map Zc)::σ) (.tup [])=some (.tup [],wH 0 x):=rfl
theorem Zgy (l:Zb) (g:Nat) (σ:Za):Z8 2 (.var (wv 1 (g+1) l.length)::.row (g+1) 1 (l.map Zc)::σ) (.tup [])=some (.tup [],wH 1 l):=by
 simp [Z8,gcA,Zy,Zp,Z3,X9,XaL,ZG,wv,Zu,Zk,ZO,Zr,ZJ,Zo,ZB,Zg,Zm,wH]
theorem ZJ3 (n:Int) (W:Nat) (h1:1<=W) (hW:W<=8):E1 80 [.ref 0 0,.int .i64 n,.int .i64 (W:Nat)] [.var wn]=some (.tup [],wH 0 (beB (ZU n) W)):=by
 have hw:=ZnP n
 have hP:=fun σ sq own=>ZaK (ZkN σ sq own (ZU n) W h1 hW)
 have hlen:(beB (ZU n) W).length<=ZbR:=by rw [Zbh];unfold ZbR;omega
 generalize beB (ZU n) W=B at *
 have hC:=fun {σ:Za} {t sq:Nat}=>Ztc B hlen (σ:=σ) (t:=t) (sq:=sq)
 have hO:=fun σ=>Zvz B σ
 rw [Zbz (by rfl) ZvV]
 unfold wn at *
 simp -implicitDefEqProofs only [EQA,Xe,Xc,Xb,Xg,reduceCtorEq,↓reduceIte,Zra,Zku,Zwb,hw,hP,hC,wT,hO,Z0,Z4,Z7,Zak,Zaj,Zah,Zar,Zal,Z6]
theorem ZHz (l:Zb) (n:Int) (W:Nat) (h1:1<=W) (hW:W<=8) (hl:l.length+W<=ZbR):E1 80 [.ref 0 0,.int .i64 n,.int .i64 (W:Nat)] (wH 0 l)=some (.tup [],wH 1 (l++beB (ZU n) W)):=by
 have hw:=ZnP n
 have hP:=fun σ sq own=>ZaK (ZkN σ sq own (ZU n) W h1 hW)
 have hlen:l.length+(beB (ZU n) W).length<=ZbR:=by rw [Zbh];omega
 generalize beB (ZU n) W=B at *
 have hC:=fun {σ:Za} {sq:Nat}=>Zie l B hlen (σ:=σ) 0 1 0 (sq:=sq) (by omega)
 have hO:=fun g σ=>Zgy (l++B) g σ
 rw [Zbz (by rfl) ZvV]
 unfold wH at *
 simp -implicitDefEqProofs only [EQA,Xe,Xc,Xb,Xg,reduceCtorEq,↓reduceIte,Zra,Zku,Zwb,hw,hP,hC,wT,hO,Z0,Z4,Z7,Zak,Zaj,Zah,Zar,Zal,Z6]
end
section
end
section
end
section
structure ZLo where
 fmt:Int
 content:Zb
 corr:Zb
 users:Zb
end
section
end
section
structure ZPp where
 r1:Zb×Zd6
 r2:Zb×Zd6
 r3:Zb×Zd6
 r4:Zb×Zd6
 r5:Zb×Zd6
 r6:Zb×Zd6
 r7:Zb×Zd6
 r8:Zb×Zd6
end
section
theorem ZyI (w:Int) (b:Zb):(Zao w b).1.length<=268435455:=by
 have hlt:=ZpB b
 unfold Zao
 split
 ·simp
 ·split
  ·have:=Zp9 w (Zag b).1 ((b.take ((Zag b).2.1+(Zag b).1)).drop (Zag b).2.1) []
   simp only [X6,Wl,XG] at this
   simp only
   omega
  ·simp
end
section
structure ZPl (it:ZN4):Prop where
 note:ZPd it.note
 ids:it.ids.length<=1000000
 share:it.share.length<=9223372036854775807
end
section
end
section
structure ZA9 where
 topic:Zb
 sender:Zb
 share:Zb
 payload:Zb
 qos:Int
 sub:Int
 retain:Bool
 keep:Bool
 life:Int
 p:ZLo
 ids:List Int
 origin:Int
 number:Int
structure ZPq (m:ZA9):Prop where
 topic:m.topic.length<=9223372036854775807
 sender:m.sender.length<=9223372036854775807
 share:m.share.length<=9223372036854775807
 content:m.p.content.length<=9223372036854775807
 users:m.p.users.length<=9223372036854775807
 ids:m.ids.length<=9223372036854775807
end
section
structure ZPo where
 d:Zb×Zd6
 m:Zb×Zd6
 k:Zb×Zd6
end
section
def ZJx (k:Int) (p:Zv):Prop :=
 if k=1\/k=2\/k=3\/k=4 then p.text=[]/\p.pair=[]/\p.data=[] else if k=5 then p.num=0/\p.pair=[]/\p.data=[]
 else if k=6 then p.num=0/\p.text=[]/\p.pair=[] else p.num=0/\p.data=[]
structure ZPr (w:Int) (acc:List Zv) (p:Zv):Prop where
 good:ZOC p=true
 may:ZgK p.id w=true
 canon:ZJx (ZbZ p.id) p
 fits:Zge p.id p.num=true
 dup:((Zf0 p.id acc).isSome && !Zha p.id w)=false
end
section
theorem ZiD (s:Zb):(ZbD s).1.length<=65537:=by
 unfold ZbD
 split
 ·simp
 ·simp [Zbh];omega
theorem ZcE (s:Zb):(Zas s).1.length<=65537:=by
 unfold Zas
 split
 ·exact ZiD s
 ·simp
theorem Zdb (w:Int) (l:List Zv):(Zbp w l).1.length<=268435460:=by
 unfold Zbp ZgR
 generalize (l.map Zc5).flatten=b
 by_cases h:(ZaI b.length).2≠0
 ·rw [if_pos h];simp
 ·rw [if_neg h]
  split
  ·simp
  ·rename_i h2
   have h0:(Zao w ((ZaI b.length).1++b)).2.2=0:=Classical.byContradiction fun e=>h2 (Xr e)
   have h1:(Zao w ((ZaI b.length).1++b)).2.1=((ZaI b.length).1++b).length:=Classical.byContradiction fun e=>h2 (Xy (Xr e))
   have:=ZEG w _ h0
   rw [h1] at this
   exact this
theorem ZDI (s:Zb) (hs:s.length<=9223372036854775807):E1 82 [.ref 0 0,.str s] [.var wn]=some (.tup [],wH 0 (Zas s).1):=by
 have hP:=fun σ sq own=>ZaK (Zip σ sq own s hs)
 unfold byT at hP
 have hlen:(Zas s).1.length<=ZbR:=by have:=ZcE s;unfold ZbR;omega
 generalize (Zas s).1=B at *
 generalize (Zas s).2=C at *
 have hC:=fun {σ:Za} {t sq:Nat}=>Ztc B hlen (σ:=σ) (t:=t) (sq:=sq)
 have hO:=fun σ=>Zvz B σ
 rw [Zbz (by rfl) Zui]
 unfold wn at *
 simp -implicitDefEqProofs only [EQA,Xe,Xc,Xb,Xg,reduceCtorEq,↓reduceIte,Zrr,ZjM,Zua,hP,hC,wT,hO]
theorem ZxN (l:Zb) (s:Zb) (hs:s.length<=9223372036854775807) (hl:l.length+(Zas s).1.length<=ZbR):E1 82 [.ref 0 0,.str s] (wH 0 l)=some (.tup [],wH 1 (l++(Zas s).1)):=by
 have hP:=fun σ sq own=>ZaK (Zip σ sq own s hs)
 unfold byT at hP
 generalize (Zas s).1=B at *
 generalize (Zas s).2=C at *
 have hC:=fun {σ:Za} {sq:Nat}=>Zie l B hl (σ:=σ) 0 1 0 (sq:=sq) (by omega)
 have hO:=fun g σ=>Zgy (l++B) g σ
 rw [Zbz (by rfl) Zui]
 unfold wH at *
 simp -implicitDefEqProofs only [EQA,Xe,Xc,Xb,Xg,reduceCtorEq,↓reduceIte,Zrr,ZjM,Zua,hP,hC,wT,hO]
theorem ZuV (s:Zb) (hs:s.length<=9223372036854775807) {σ:Za} {t sq:Nat} (hf:σ[sq]?=some .free) (hs0:σ[t]?=some (.var wn)) :
  Zi E1 BY σ sq 82 1 true [.ref t 0,.str s]=some (.tup [],(σ.set t (.var (wv sq 0 (Zas s).1.length))).set sq (.row 0 1 ((Zas s).1.map Zc)),{ any:=true,upd:=[(t,wv sq 0 (Zas s).1.length)] }) :=
 Zgd (args:=[.str s]) rfl rfl (ZDI s hs) (by kernel_rfl) rfl rfl hf hs0
theorem Zir (l:Zb) (s:Zb) (hs:s.length<=9223372036854775807) (hl:l.length+(Zas s).1.length<=ZbR) {σ:Za} (t r g:Nat) {sq:Nat} (htr:t≠r) (hf:σ[sq]?=some .free) (hs0:σ[t]?=some (.var (wv r g l.length))) (hr:σ[r]?=some (.row g 1 (l.map Zc))) :
  Zi E1 BY σ sq 82 1 true [.ref t 0,.str s]=some (.tup [],(σ.set t (.var (wv r (g+1) (l++(Zas s).1).length))).set r (.row (g+1) 1 ((l++(Zas s).1).map Zc)),{ any:=true,upd:=[(t,wv r (g+1) (l++(Zas s).1).length)] }) :=
 Zg0 (args:=[.str s]) rfl ⟨rfl,rfl⟩ 1 (by omega) (ZxN l s hs hl) (by kernel_rfl) rfl rfl htr (ff1 hf) hs0 hr
theorem ZIC (l:Zb) (s:Zb) (hs:s.length<=9223372036854775807) (hl:l.length+(ZbD s).1.length<=ZbR):E1 103 [.ref 0 0,.lst false (s.map Zc)] (wH 0 l)=some (.tup [],wH 1 (l++(ZbD s).1)):=by
 have hP:=fun σ sq own=>ZaK (ZoE σ sq own false s hs)
 unfold byT at hP
 generalize (ZbD s).1=B at *
 generalize (ZbD s).2=C at *
 have hC:=fun {σ:Za} {sq:Nat}=>Zie l B hl (σ:=σ) 0 1 0 (sq:=sq) (by omega)
 have hO:=fun g σ=>Zgy (l++B) g σ
 rw [Zbz (by rfl) ZDc]
 unfold wH at *
 simp -implicitDefEqProofs only [EQA,Xe,Xc,Xb,Xg,reduceCtorEq,↓reduceIte,ZJB,ZqA,ZGc,hP,hC,wT,hO]
theorem ZvA (l:Zb) (s:Zb) (hs:s.length<=9223372036854775807) (hl:l.length+(ZbD s).1.length<=ZbR) {σ:Za} (t r g:Nat) {sq:Nat} (htr:t≠r) (hf:σ[sq]?=some .free) (hs0:σ[t]?=some (.var (wv r g l.length))) (hr:σ[r]?=some (.row g 1 (l.map Zc))) :
  Zi E1 BY σ sq 103 1 true [.ref t 0,.lst false (s.map Zc)]=some (.tup [],(σ.set t (.var (wv r (g+1) (l++(ZbD s).1).length))).set r (.row (g+1) 1 ((l++(ZbD s).1).map Zc)),{ any:=true,upd:=[(t,wv r (g+1) (l++(ZbD s).1).length)] }) :=
 Zg0 (args:=[.lst false (s.map Zc)]) rfl ⟨rfl,rfl⟩ 1 (by omega) (ZIC l s hs hl) (by kernel_rfl) rfl rfl htr (ff1 hf) hs0 hr
theorem ZJf (l:Zb) (w:Int) (ps:List Zv) (hp:ps.length<=700000000) (hx:∀ p ∈ ps,ZeD p) (hl:l.length+(Zbp w ps).1.length<=ZbR):E1 81 [.ref 0 0,.int .i64 w,.lst false (ps.map Zq)] (wH 0 l)=some (.tup [],wH 1 (l++(Zbp w ps).1)):=by
 have hP:=fun σ sq own=>ZaK (Zy2 σ sq own false w ps hp hx)
 unfold Zgf at hP
 generalize (Zbp w ps).1=B at *
 generalize (Zbp w ps).2=C at *
 have hC:=fun {σ:Za} {sq:Nat}=>Zie l B hl (σ:=σ) 0 1 0 (sq:=sq) (by omega)
 have hO:=fun g σ=>Zgy (l++B) g σ
 rw [Zbz (by rfl) ZCx]
 unfold wH at *
 simp -implicitDefEqProofs only [EQA,Xe,Xc,Xb,Xg,reduceCtorEq,↓reduceIte,Zzz,Znm,ZLs,hP,hC,wT,hO]
theorem ZgF (l:Zb) (w:Int) (ps:List Zv) (hp:ps.length<=700000000) (hx:∀ p ∈ ps,ZeD p) (hl:l.length+(Zbp w ps).1.length<=ZbR) {σ:Za} (t r g:Nat) {sq:Nat} (htr:t≠r) (hf:σ[sq]?=some .free) (hs0:σ[t]?=some (.var (wv r g l.length))) (hr:σ[r]?=some (.row g 1 (l.map Zc))) :
  Zi E1 BY σ sq 81 1 true [.ref t 0,.int .i64 w,.lst false (ps.map Zq)]=some (.tup [],(σ.set t (.var (wv r (g+1) (l++(Zbp w ps).1).length))).set r (.row (g+1) 1 ((l++(Zbp w ps).1).map Zc)),{ any:=true,upd:=[(t,wv r (g+1) (l++(Zbp w ps).1).length)] }) :=
 Zg0 (args:=[.int .i64 w,.lst false (ps.map Zq)]) rfl ⟨rfl,rfl⟩ 1 (by omega) (ZJf l w ps hp hx hl) (by kernel_rfl) rfl rfl htr (ff1 hf) hs0 hr
theorem ZkQ (n:Int) (W:Nat) (h1:1<=W) (hW:W<=8) {m:Int} (hm:((W:Nat):Int)=m) {σ:Za} {t sq:Nat} (hf:σ[sq]?=some .free) (hs0:σ[t]?=some (.var wn)) :
  Zi E1 BY σ sq 80 1 true [.ref t 0,.int .i64 n,.int .i64 m]=some (.tup [],(σ.set t (.var (wv sq 0 (beB (ZU n) W).length))).set sq (.row 0 1 ((beB (ZU n) W).map Zc)),{ any:=true,upd:=[(t,wv sq 0 (beB (ZU n) W).length)] }):=by
 subst hm
 exact Zgd (args:=[.int .i64 n,.int .i64 (W:Nat)]) rfl rfl (ZJ3 n W h1 hW) (by kernel_rfl) rfl rfl hf hs0
theorem Zfu (l:Zb) (n:Int) (W:Nat) (h1:1<=W) (hW:W<=8) {m:Int} (hm:((W:Nat):Int)=m) (hl:l.length+W<=ZbR) {σ:Za} (t r g:Nat) {sq:Nat} (htr:t≠r) (hf:σ[sq]?=some .free) (hs0:σ[t]?=some (.var (wv r g l.length))) (hr:σ[r]?=some (.row g 1 (l.map Zc))) :
  Zi E1 BY σ sq 80 1 true [.ref t 0,.int .i64 n,.int .i64 m]=some (.tup [],(σ.set t (.var (wv r (g+1) (l++beB (ZU n) W).length))).set r (.row (g+1) 1 ((l++beB (ZU n) W).map Zc)),{ any:=true,upd:=[(t,wv r (g+1) (l++beB (ZU n) W).length)] }):=by
 subst hm
 exact Zg0 (args:=[.int .i64 n,.int .i64 (W:Nat)]) rfl ⟨rfl,rfl⟩ 1 (by omega) (ZHz l n W h1 hW hl) (by kernel_rfl) rfl rfl htr (ff1 hf) hs0 hr
def Zad (b:Bool) (n:Int):Int:=if b then n else 0
theorem ZI9 (b:Bool) (n:Int):E 65 [.bool b,.int .i64 n] []=some (.int .i64 (Zad b n),[]):=by
 rw [Zh (by rfl) ZDe]
 unfold Zad
 cases b <;> simp -implicitDefEqProofs only [EQA,Xc,Xb,reduceCtorEq,↓reduceIte,Zw7,Zon,ZH9]
theorem Zij (b:Bool) (n:Int) (σ:Za) (sq own:Nat):Zi E1 BY σ sq 65 own true [.bool b,.int .i64 n]=some (.int .i64 (Zad b n),σ,{}) :=
 ZaK (ZbJ (ZI9 b n) (by kernel_rfl) rfl rfl rfl (fun _=>rfl) _ _ _)
end
section
structure Zbr where
 filter:Zb
 qos:Int
 noLocal:Bool
 asPublished:Bool
 handling:Int
 id:Int
 deriving DecidableEq
def Z1 (s:Zbr):AVal:=.agg [.str s.filter,.int .i64 s.qos,.bool s.noLocal,.bool s.asPublished,.int .i64 s.handling,.int .i64 s.id]
structure Zrk where
 topic:Zb
 data:Zb
 qos:Int
 retain:Bool
 props:List Zv
 deriving DecidableEq
structure ZA where
 type:Int
 dup:Bool
 qos:Int
 retain:Bool
 id:Int
 topic:Zb
 payload:Zb
 code:Int
 codes:List Int
 props:List Zv
 subs:List Zbr
 filters:List Zb
 clean:Bool
 keep:Int
 client:Zb
 hasWill:Bool
 will:Zrk
 hasUser:Bool
 user:Zb
 hasPassword:Bool
 password:Zb
 present:Bool
 deriving DecidableEq
def ZaC (p:ZA):AVal:=.agg [.int .i64 p.type,.bool p.dup,.int .i64 p.qos,.bool p.retain,.int .i64 p.id,.str p.topic,.lst false (p.payload.map Zc),.int .i64 p.code,.lst false (p.codes.map (AVal.int .i64)),.lst false (p.props.map Zq),.lst false (p.subs.map Z1),.lst false (p.filters.map AVal.str),.bool p.clean,.int .i64 p.keep,.str p.client,.bool p.hasWill,.str p.will.topic,.lst false (p.will.data.map Zc),.int .i64 p.will.qos,.bool p.will.retain,.lst false (p.will.props.map Zq),.bool p.hasUser,.str p.user,.bool p.hasPassword,.lst false (p.password.map Zc),.bool p.present]
end
section
def ZfW (m:Int):Int:=IntKind.i64.wrap (m.tdiv 16)
def Zbu (l:Zb):RK Zbr:=match Zav l with
 | .error c=>.error c
 | .ok (f,r1)=>match ZaM 1 r1 with
  | .error c=>.error c
  | .ok (o,r2)=>if o < 64 then (if Zw o 3 < 3/\ZfW o < 3 then .ok (⟨f,Zw o 3,Zw o 4 != 0,Zw o 8 != 0,ZfW o,0⟩,r2) else .error 130) else .error 129
theorem Zc0 {cs cs' xs:List AVal} {w j:Nat} {r:AVal} {σ:Za} (hr:ZM r=true) (hj:j≠0) (h0:σ[0]?=some (.var cs)) (h1:σ[j]?=some (.row 0 w xs)) (hrf:Zp cs=[j]) (hren:∀ ρ:Rho,ρ j 0=some (1,0)->Zg ρ cs=cs'):Z8 1 σ r=some (r,[.var cs',.row 0 w xs]):=by
 have d0:σ.getD 0 .free=.var cs:=by simp [Xh,h0]
 have d1:σ.getD j .free=.row 0 w xs:=by simp [Xh,h1]
 have e1:=(Za7 (Zk σ 1 [0,j]) r hr)
 have ej:([0]:List Nat).contains j=false:=by simp;omega
 have hi:Zy 1 [r] σ=[0,j]:=by
  have : Zp [r]=[]:=by simp only [Zp,e1.2,Xp]
  have hR:X9 1=[0]:=rfl
  simp only [Zy,this,XD,hR,XJ,XZ,Xp,d0,ZG,hrf]
  rw [show (1000:Nat)=998+1+1 from rfl,Zu,ej]
  simp only [Xi,if_false,d1,ZG,XD]
  rfl
 have hρ:Zk σ 1 [0,j] j 0=some (1,0):=by
  have : ¬(0:Nat)=j:=fun e=>hj e.symm
  simp [Zk,ZO,Zo,ZJ,h1,this]
 simp only [Z8,gcA,hi,Zg,e1.1,Zr,d0,d1,ZJ,Zo,ZB,hren _ hρ]
 simp
section
variable (P:List AVal) (hP:P.length=26) (hN:Zd P=true) (h10:P[10]?=some (.lst true [])) (l:Zb) (hl:l.length<=140737488355328)
include hP hN h10 hl
theorem ZNs {s:Zbr} {r:Zb} (h:Zbu l=.ok (s,r)):E 118 [.ref 0 0] (Zj P l)=some (.tup [],[.var (Zl P 10 1 0 1++[.lst false (r.map Zc)]),.row 0 6 [Z1 s]]):=by
 unfold Zbu at h
 split at h
 ·cases h
 rename_i f r1 ht
 have l1:=Zds ht
 split at h
 ·cases h
 rename_i o r2 hn
 split at h
 case isFalse=>cases h
 rename_i h64
 split at h
 case isFalse=>cases h
 rename_i hq
 obtain ⟨hq1,hq2⟩:=hq
 injection h with h;injection h with e1 e2;subst e1 e2
 have hT:=fun σ sq hs=>Zd8 P hP hN l hl σ 0 sq hs ht
 have hG:=fun σ sq hs=>ZcC P hP hN r1 (by omega) σ 0 sq hs (m:=1) rfl hn
 have m0:=Zbb
 have a1:=Z9 P hP
 have a3:=fun L v=>ZaD P hP 10 11 (by omega) rfl L v
 have a4:=fun L=>(Zac P hP 10 (by omega) L).trans h10
 have z:¬(16:Int)=0:=by decide
 unfold Zl Z1 Zj
 unfold Zw ZfW at *
 rw [Zh (by rfl) ZdL]
 simp -implicitDefEqProofs only [EQA,Za6,Zs,Xe,Xc,Xf,Xb,Xg,ZE,unG,reduceCtorEq,ZR,↓reduceIte,Zd,ZdF,ZcR,Ztz,hT,hG,m0,a1,a3,a4,z,h64,hq1,hq2,Zam,AVal.cells,Zay,viewAs,ZW,ZP,ZaS,Zn,Xah,Xx,Z0,Z4,Z7,Zak,Zaj,Zah,Zar,Zal,Z6,Xw,kOk]
 refine Zc0 (j:=2) rfl (by omega) rfl rfl ?_ (fun ρ h=>?_)
 ·rw [Zcq,ZiJ hN (by omega)];rfl
 ·rw [ZbS,Zi6 ρ hN]
  simp only [Zm,h]
  rfl
end
theorem ZB2 (ss:List Zbr):kOk 6 (ss.map Z1)=true:=by cases ss <;> rfl
section
variable (P:List AVal) (hP:P.length=26) (hN:Zd P=true) (ss:List Zbr) (hss:ss.length*48+48<=140737488355328) (l:Zb) (hl:l.length<=140737488355328)
include hP hN hss hl
theorem ZHj {s:Zbr} {r:Zb} (h:Zbu l=.ok (s,r)):E 118 [.ref 0 0] [.var (Zl P 10 1 0 ss.length++[.lst false (l.map Zc)]),.row 0 6 (ss.map Z1)]=some (.tup [],[.var (Zl P 10 1 1 (ss.length+1)++[.lst false (r.map Zc)]),.row 1 6 ((ss++[s]).map Z1)]):=by
 unfold Zbu at h
 split at h
 ·cases h
 rename_i f r1 ht
 have l1:=Zds ht
 split at h
 ·cases h
 rename_i o r2 hn
 split at h
 case isFalse=>cases h
 rename_i h64
 split at h
 case isFalse=>cases h
 rename_i hq
 obtain ⟨hq1,hq2⟩:=hq
 injection h with h;injection h with e1 e2;subst e1 e2
 have hT:=fun σ sq hs hr=>ZpK P hP hN 10 (by omega) ss.length 6 (ss.map Z1) l hl σ 0 1 0 sq (by omega) hs hr ht
 have hG:=fun σ sq hs hr=>Zke P hP hN 10 (by omega) ss.length 6 (ss.map Z1) r1 (by omega) σ 0 1 0 sq (by omega) hs hr (m:=1) rfl hn
 have m0:=Zbb
 have hL:=ZbY P hP hN 10 (by omega) ss.length 1 0
 have a1:=Z9 _ hL
 have a3:=fun L v=>ZaD _ hL 10 11 (by omega) rfl L v
 have h10:(Zl P 10 1 0 ss.length)[10]?=some (.sl 1 0 0 ss.length):=by unfold Zl;rw [X5 (by omega)]
 have a4:=fun L=>(Zac _ hL 10 (by omega) L).trans h10
 have hset:(Zl P 10 1 0 ss.length).set 10 (.sl 1 1 0 (ss.length+1))=Zl P 10 1 1 (ss.length+1):=by unfold Zl;rw [List.set_set]
 have z:¬(16:Int)=0:=by decide
 have kk:=ZB2 ss
 have k1:∀ a b c d e f:AVal,kOk 6 [.agg [a,b,c,d,e,f]]=true:=fun _ _ _ _ _ _=>rfl
 have len:(ss.map Z1).length=ss.length:=by simp
 have tk:(ss.map Z1).take ss.length=ss.map Z1:=by rw [<-len,List.take_length]
 have lim:(ss.length+1)*48<=140737488355328:=by omega
 have lim2:48*(ss.length+1)<=140737488355328:=by omega
 unfold Zw ZfW at *
 rw [Zh (by rfl) ZdL]
 simp -implicitDefEqProofs only [EQA,Za6,Xe,Xc,Xf,Xb,Xg,ZE,unG,reduceCtorEq,ZR,↓reduceIte,ZdF,ZcR,Ztz,hT,hG,m0,a1,a3,a4,z,h64,hq1,hq2,Zam,AVal.cells,Zay,viewAs,ZW,ZP,ZaS,Zn,Xx,Z0,Z4,Z7,Zak,Zaj,Zah,Zar,Zal,Z6,Xw,k1,len,lim,hset]
 rw [ZhO (g:=1) rfl (by rw [Zcq,Zcc P hP hN 10 (by omega)];rfl) (by omega) (fun ρ h=>by rw [ZbS,ZbG P hP hN 10 (by omega) _ ρ h];rfl)]
 simp only [Wq,Xt,XM]
 rfl
end
section
variable (P:List AVal) (hP:P.length=26) (hN:Zd P=true) (l:Zb) (hl:l.length<=140737488355328)
include hP hN hl
theorem ZLM {e:Int} (h:Zbu l=.error e):∃ cs,Zd cs=true/\E 118 [.ref 0 0] (Zj P l)=some (.pan (Zz e),[.var cs]):=by
 unfold Zbu at h
 have z:¬(16:Int)=0:=by decide
 unfold Zj
 split at h
 ·rename_i c ht
  injection h with h;subst h
  have hT:=fun σ sq hs=>Zf8 P hP hN l hl σ 0 sq hs ht
  refine ⟨_,Zx P hP hN false (l.map Zc),?_⟩
  rw [Zh (by rfl) ZdL]
  simp -implicitDefEqProofs only [EQA,Xc,↓reduceIte,ZdF,ZcR,hT]
  exact ZY rfl (Zx P hP hN _ _)
 rename_i f r1 ht
 have l1:=Zds ht
 have hT:=fun σ sq hs=>Zd8 P hP hN l hl σ 0 sq hs ht
 split at h
 ·rename_i c hn
  injection h with h;subst h
  have hG:=fun σ sq hs=>Zf4 P hP hN r1 (by omega) σ 0 sq hs (m:=1) rfl (by decide) hn
  refine ⟨_,Zx P hP hN false (r1.map Zc),?_⟩
  rw [Zh (by rfl) ZdL]
  simp -implicitDefEqProofs only [EQA,Za6,Xe,Xc,Xf,Xb,Xg,reduceCtorEq,↓reduceIte,ZdF,ZcR,hT,hG,Zam,AVal.cells]
  exact ZY rfl (Zx P hP hN _ _)
 rename_i o r2 hn
 have hG:=fun σ sq hs=>ZcC P hP hN r1 (by omega) σ 0 sq hs (m:=1) rfl hn
 have m0:=Zbb
 have m1:=ZbA
 refine ⟨_,Zx P hP hN false (r2.map Zc),?_⟩
 split at h
 case isFalse =>
  rename_i h64
  injection h with h;subst h
  rw [Zh (by rfl) ZdL]
  simp -implicitDefEqProofs only [EQA,Za6,Xe,Xc,Xf,Xb,Xg,reduceCtorEq,↓reduceIte,ZdF,ZcR,hT,hG,m1,h64,Zam,AVal.cells]
  exact ZY rfl (Zx P hP hN _ _)
 rename_i h64
 split at h
 ·cases h
 rename_i hq
 injection h with h;subst h
 by_cases hq1:Zw o 3 < 3
 ·have hq2:¬ZfW o < 3:=fun h=>hq ⟨hq1,h⟩
  unfold Zw ZfW at *
  rw [Zh (by rfl) ZdL]
  simp -implicitDefEqProofs only [EQA,Za6,Xe,Xc,Xf,Xb,Xg,ZE,unG,reduceCtorEq,↓reduceIte,ZdF,ZcR,hT,hG,m0,m1,z,h64,hq1,hq2,Zam,AVal.cells]
  exact ZY rfl (Zx P hP hN _ _)
 ·unfold Zw at *
  rw [Zh (by rfl) ZdL]
  simp -implicitDefEqProofs only [EQA,Za6,Xe,Xc,Xf,Xb,Xg,ZE,Zaz,reduceCtorEq,↓reduceIte,ZdF,ZcR,hT,hG,m0,m1,z,h64,hq1,Zam,AVal.cells]
  exact ZY rfl (Zx P hP hN _ _)
variable (ss:List Zbr)
theorem ZCG {e:Int} (h:Zbu l=.error e):∃ r:Zb,E 118 [.ref 0 0] [.var (Zl P 10 1 0 ss.length++[.lst false (l.map Zc)]),.row 0 6 (ss.map Z1)]=some (.pan (Zz e),[.var (Zl P 10 1 0 ss.length++[.lst false (r.map Zc)]),.row 0 6 (ss.map Z1)]):=by
 unfold Zbu at h
 have z:¬(16:Int)=0:=by decide
 have fin:∀ (r:Zb) (σ:Za) (x:AVal),ZM x=true->Z8 2 (.var (Zl P 10 1 0 ss.length++[.lst false (r.map Zc)])::.row 0 6 (ss.map Z1)::σ) x=some (x,[.var (Zl P 10 1 0 ss.length++[.lst false (r.map Zc)]),.row 0 6 (ss.map Z1)]):=fun r σ x hx =>
  ZhO (g:=0) hx (by rw [Zcq,Zcc P hP hN 10 (by omega)];rfl) (by omega) (fun ρ h=>by rw [ZbS,ZbG P hP hN 10 (by omega) _ ρ h];rfl)
 split at h
 ·rename_i c ht
  injection h with h;subst h
  have hT:=fun σ sq hs hr=>ZuU P hP hN 10 (by omega) ss.length 6 (ss.map Z1) l hl σ 0 1 0 sq (by omega) hs hr ht
  refine ⟨l,?_⟩
  rw [Zh (by rfl) ZdL]
  simp -implicitDefEqProofs only [EQA,Xe,Xc,↓reduceIte,ZdF,ZcR,hT]
  exact fin _ _ _ rfl
 rename_i f r1 ht
 have l1:=Zds ht
 have hT:=fun σ sq hs hr=>ZpK P hP hN 10 (by omega) ss.length 6 (ss.map Z1) l hl σ 0 1 0 sq (by omega) hs hr ht
 split at h
 ·rename_i c hn
  injection h with h;subst h
  have hG:=fun σ sq hs hr=>Zu0 P hP hN 10 (by omega) ss.length 6 (ss.map Z1) r1 (by omega) σ 0 1 0 sq (by omega) hs hr (m:=1) rfl (by decide) hn
  refine ⟨r1,?_⟩
  rw [Zh (by rfl) ZdL]
  simp -implicitDefEqProofs only [EQA,Za6,Xe,Xc,Xf,Xb,Xg,reduceCtorEq,↓reduceIte,ZdF,ZcR,hT,hG,Zam,AVal.cells]
  exact fin _ _ _ rfl
 rename_i o r2 hn
 have hG:=fun σ sq hs hr=>Zke P hP hN 10 (by omega) ss.length 6 (ss.map Z1) r1 (by omega) σ 0 1 0 sq (by omega) hs hr (m:=1) rfl hn
 have m0:=Zbb
 have m1:=ZbA
 refine ⟨r2,?_⟩
 split at h
 case isFalse =>
  rename_i h64
  injection h with h;subst h
  rw [Zh (by rfl) ZdL]
  simp -implicitDefEqProofs only [EQA,Za6,Xe,Xc,Xf,Xb,Xg,reduceCtorEq,↓reduceIte,ZdF,ZcR,hT,hG,m1,h64,Zam,AVal.cells]
  exact fin _ _ _ rfl
 rename_i h64
 split at h
 ·cases h
 rename_i hq
 injection h with h;subst h
 by_cases hq1:Zw o 3 < 3
 ·have hq2:¬ZfW o < 3:=fun h=>hq ⟨hq1,h⟩
  unfold Zw ZfW at *
  rw [Zh (by rfl) ZdL]
  simp -implicitDefEqProofs only [EQA,Za6,Xe,Xc,Xf,Xb,Xg,ZE,unG,reduceCtorEq,↓reduceIte,ZdF,ZcR,hT,hG,m0,m1,z,h64,hq1,hq2,Zam,AVal.cells]
  exact fin _ _ _ rfl
 ·unfold Zw at *
  rw [Zh (by rfl) ZdL]
  simp -implicitDefEqProofs only [EQA,Za6,Xe,Xc,Xf,Xb,Xg,ZE,Zaz,reduceCtorEq,↓reduceIte,ZdF,ZcR,hT,hG,m0,m1,z,h64,hq1,Zam,AVal.cells]
  exact fin _ _ _ rfl
end
end
section
def ZC (p:ZA):List AVal:=[.int .i64 p.type,.bool p.dup,.int .i64 p.qos,.bool p.retain,.int .i64 p.id,.str p.topic,.lst false (p.payload.map Zc),.int .i64 p.code,.lst false (p.codes.map (AVal.int .i64)),.lst false (p.props.map Zq),.lst false (p.subs.map Z1),.lst false (p.filters.map AVal.str),.bool p.clean,.int .i64 p.keep,.str p.client,.bool p.hasWill,.str p.will.topic,.lst false (p.will.data.map Zc),.int .i64 p.will.qos,.bool p.will.retain,.lst false (p.will.props.map Zq),.bool p.hasUser,.str p.user,.bool p.hasPassword,.lst false (p.password.map Zc),.bool p.present]
theorem ZbH (p:ZA):ZaC p=.agg (ZC p):=rfl
theorem Zcg (p:ZA):(ZC p).length=26:=rfl
theorem ZeK (p:ZA):Zai (.agg (ZC p))=true:=rfl
theorem Zel (p:ZA):ZL (.agg (ZC p))=.agg (ZC p):=rfl
theorem Zdo (p:ZA):(ZC p).take 26=ZC p:=rfl
theorem Ztm (p:ZA):Zp (ZC p)=[]:=by
 have h:=Ztw (ZeK p)
 rw [Zel] at h
 simpa [Z3] using h
structure OkW (p:ZA):Prop where
 topic:p.topic.length<=9223372036854775807
 payload:p.payload.length<=1099511627776
 codes:p.codes.length<=1048576
 props:p.props.length<=700000000/\∀ q ∈ p.props,ZeD q
 subs:p.subs.length<=1048576/\∀ s ∈ p.subs,s.filter.length<=9223372036854775807
 filters:p.filters.length<=1048576/\∀ f ∈ p.filters,f.length<=9223372036854775807
 client:p.client.length<=9223372036854775807
 wtopic:p.will.topic.length<=9223372036854775807
 wdata:p.will.data.length<=9223372036854775807
 wprops:p.will.props.length<=700000000/\∀ q ∈ p.will.props,ZeD q
 user:p.user.length<=9223372036854775807
 password:p.password.length<=9223372036854775807
def wO:Option Zb->Za
 | none=>[.var wn]
 | some l=>wH 0 l
theorem ZdU {j g:Nat} {l:Zb} {σ:Za} (hj:j≠0) (h0:σ[0]?=some (.var (wv j g l.length))) (h1:σ[j]?=some (.row g 1 (l.map Zc))):Z8 1 σ (.tup [])=some (.tup [],wH 0 l):=by
 have d0:σ.getD 0 .free=.var (wv j g l.length):=by simp [Xh,h0]
 have d1:σ.getD j .free=.row g 1 (l.map Zc):=by simp [Xh,h1]
 have ej:([0]:List Nat).contains j=false:=by simp;omega
 have hrf:Zp (wv j g l.length)=[j]:=rfl
 have hi:Zy 1 [.tup []] σ=[0,j]:=by
  have : Zp [AVal.tup []]=[]:=rfl
  have hR:X9 1=[0]:=rfl
  simp only [Zy,this,XD,hR,XJ,XZ,Xp,d0,ZG,hrf]
  rw [show (1000:Nat)=998+1+1 from rfl,Zu,ej]
  simp only [Xi,if_false,d1,ZG,XD]
  rfl
 have hρ:Zk σ 1 [0,j] j g=some (1,0):=by
  have : ¬(0:Nat)=j:=fun e=>hj e.symm
  simp [Zk,ZO,Zo,ZJ,h1,this]
 have hren:Zg (Zk σ 1 [0,j]) (wv j g l.length)=wv 1 0 l.length:=by simp only [wv,Zg,Zm,hρ]
 have ht:Zg (Zk σ 1 [0,j]) [AVal.tup []]=[.tup []]:=rfl
 simp only [Z8,gcA,hi,ht,Zr,d0,d1,ZJ,Zo,ZB,hren,wH]
 simp
theorem ZAT (σ:Za):Z8 1 (.var wn::σ) (.tup [])=some (.tup [],[.var wn]):=rfl
theorem ZFm (l:Zb) (σ:Za):Z8 2 (.var (wv 1 0 l.length)::.row 0 1 (l.map Zc)::σ) (.tup [])=some (.tup [],wH 0 l):=by
 simp [Z8,gcA,Zy,Zp,Z3,X9,XaL,ZG,wv,Zu,Zk,ZO,Zr,ZJ,Zo,ZB,Zg,Zm,wH]
def ZbX (p:ZA):Zb:=if p.code≠0\/p.props≠[] then beB (ZU p.code) 1++(if p.props≠[] then (Zbp p.type p.props).1 else []) else []
def Zdn (p:ZA):Option Zb:=if p.code≠0\/p.props≠[] then some (ZbX p) else none
theorem Zeb:ZbR=70368744177664:=rfl
section
variable (p:ZA) (h:OkW p)
include h
theorem ZrS:E1 84 [.ref 0 0,ZaC p] [.var wn]=some (.tup [],wO (Zdn p)):=by
 have l2:=Zdb p.type p.props
 have l1:=Zbh 1 (ZU p.code)
 have hN:=fun {σ:Za} {t sq:Nat}=>ZkQ p.code 1 (by omega) (by omega) (m:=1) rfl (σ:=σ) (t:=t) (sq:=sq)
 have hPr:=fun {σ:Za} {sq:Nat}=>ZgF (beB (ZU p.code) 1) p.type p.props h.props.1 h.props.2 (by rw [Zeb];omega) (σ:=σ) 0 2 0 (sq:=sq) (by omega)
 have hO:=fun {j g:Nat} {l:Zb} {σ:Za}=>ZdU (j:=j) (g:=g) (l:=l) (σ:=σ)
 have hl:(p.props.map Zq).length=p.props.length:=by simp
 rw [ZbH]
 have e1:=Zdo p
 have e0:=Zcg p
 have a0:(ZC p)[0]?=some (.int .i64 p.type):=rfl
 have a7:(ZC p)[7]?=some (.int .i64 p.code):=rfl
 have a9:(ZC p)[9]?=some (.lst false (p.props.map Zq)):=rfl
 unfold Zdn ZbX
 generalize ZC p=P at *
 generalize p.type=ty at *
 generalize p.code=c at *
 generalize p.props=ps at *
 rw [Zbz (by rfl) ZvM]
 by_cases hc:c=0
 ·have b1:(c != 0)=false:=by simp [hc]
  cases ps with
  | nil =>
   rw [if_neg (by simp [hc])]
   unfold wn wO at *
   simp -implicitDefEqProofs only [EQA,Zs,ZT,Zwi,Xe,Xc,Xb,Xg,ZE,unG,reduceCtorEq,decide_eq_true_eq,↓reduceIte,Zd,Zfi,Zem,ZfO,AVal.cells,a0,a7,a9,b1]
   exact ZAT []
  | cons q ps =>
   rw [if_pos (by simp)]
   have g0:((((q::ps).map Zq).length:Nat):Int) > 0:=by simp
   rw [if_pos (by simp)]
   generalize (Zbp ty (q::ps)).1=B at *
   generalize (q::ps).map Zq=qs at *
   generalize beB (ZU c) 1=D at *
   unfold wn wO at *
   simp -implicitDefEqProofs only [EQA,Zs,Xe,Xc,Xb,Xg,ZE,unG,reduceCtorEq,↓reduceIte,Zd,Zfi,Zem,ZfO,AVal.cells,a0,a7,a9,b1,g0,hN,hPr]
   exact hO (j:=2) (by decide) rfl rfl
 ·have b1:(c != 0)=true:=by simp [hc]
  rw [if_pos (by simp [hc]),if_pos (by simp [hc])]
  cases ps with
  | nil =>
   rw [if_neg (by simp),Xp]
   generalize beB (ZU c) 1=D at *
   unfold wn wO at *
   simp -implicitDefEqProofs only [EQA,Zs,Xe,Xc,Xb,Xg,ZE,Zaz,reduceCtorEq,decide_eq_true_eq,↓reduceIte,Zd,Zfi,Zem,ZfO,AVal.cells,a0,a7,a9,b1,hN]
   exact hO (j:=2) (by decide) rfl rfl
  | cons q ps =>
   have g0:((((q::ps).map Zq).length:Nat):Int) > 0:=by simp
   rw [if_pos (by simp)]
   generalize (Zbp ty (q::ps)).1=B at *
   generalize (q::ps).map Zq=qs at *
   generalize beB (ZU c) 1=D at *
   unfold wn wO at *
   simp -implicitDefEqProofs only [EQA,Zs,Xe,Xc,Xb,Xg,ZE,Zaz,reduceCtorEq,↓reduceIte,Zd,Zfi,Zem,ZfO,AVal.cells,a0,a7,a9,b1,g0,hN,hPr]
   exact hO (j:=2) (by decide) rfl rfl
theorem Zyr (l:Zb) (hl:l.length<=1000000000):E1 84 [.ref 0 0,ZaC p] (wH 0 l)=some (.tup [],if ZbX p=[] then wH 0 l else wH 1 (l++ZbX p)):=by
 have l2:=Zdb p.type p.props
 have l1:=Zbh 1 (ZU p.code)
 have hN:=fun {σ:Za} {sq:Nat}=>Zfu l p.code 1 (by omega) (by omega) (m:=1) rfl (by rw [Zeb];omega) (σ:=σ) 0 1 0 (sq:=sq) (by omega)
 have hPr:=fun {σ:Za} {sq:Nat}=>ZgF (l++beB (ZU p.code) 1) p.type p.props h.props.1 h.props.2 (by rw [Zeb,Xk];omega) (σ:=σ) 0 1 1 (sq:=sq) (by omega)
 have hl:(p.props.map Zq).length=p.props.length:=by simp
 rw [ZbH]
 have e1:=Zdo p
 have e0:=Zcg p
 have a0:(ZC p)[0]?=some (.int .i64 p.type):=rfl
 have a7:(ZC p)[7]?=some (.int .i64 p.code):=rfl
 have a9:(ZC p)[9]?=some (.lst false (p.props.map Zq)):=rfl
 obtain ⟨R,hR⟩:∃ R,R=ZbX p:=⟨_,rfl⟩
 rw [<-hR]
 unfold ZbX at hR
 generalize ZC p=P at *
 generalize p.type=ty at *
 generalize p.code=c at *
 generalize p.props=ps at *
 rw [Zbz (by rfl) ZvM]
 by_cases hc:c=0
 ·have b1:(c != 0)=false:=by simp [hc]
  cases ps with
  | nil =>
   rw [if_neg (by simp [hc])] at hR
   subst hR
   rw [if_pos rfl]
   unfold wH at *
   simp -implicitDefEqProofs only [EQA,Zwi,Xe,Xc,Xb,Xg,ZE,unG,reduceCtorEq,decide_eq_true_eq,↓reduceIte,Zfi,Zem,ZfO,AVal.cells,a0,a7,a9,b1]
   exact ZFm _ _
  | cons q ps =>
   have g0:((((q::ps).map Zq).length:Nat):Int) > 0:=by simp
   rw [if_pos (by simp),if_pos (by simp)] at hR
   subst hR
   rw [if_neg (by intro e;have:=congrArg W3 e;simp [l1] at this)]
   generalize (Zbp ty (q::ps)).1=B at *
   generalize (q::ps).map Zq=qs at *
   generalize beB (ZU c) 1=D at *
   rw [<-Wo]
   unfold wH at *
   simp -implicitDefEqProofs only [EQA,Xe,Xc,Xb,Xg,ZE,unG,reduceCtorEq,↓reduceIte,Zfi,Zem,ZfO,AVal.cells,a0,a7,a9,b1,g0,hN,hPr]
   exact Zgy _ 1 _
 ·have b1:(c != 0)=true:=by simp [hc]
  rw [if_pos (by simp [hc])] at hR
  cases ps with
  | nil =>
   rw [if_neg (by simp),Xp] at hR
   subst hR
   rw [if_neg (by intro e;have:=congrArg W3 e;simp [l1] at this)]
   generalize beB (ZU c) 1=D at *
   unfold wH at *
   simp -implicitDefEqProofs only [EQA,Xe,Xc,Xb,Xg,ZE,Zaz,reduceCtorEq,decide_eq_true_eq,↓reduceIte,Zfi,Zem,ZfO,AVal.cells,a0,a7,a9,b1,hN]
   exact Zgy _ 0 _
  | cons q ps =>
   have g0:((((q::ps).map Zq).length:Nat):Int) > 0:=by simp
   rw [if_pos (by simp)] at hR
   subst hR
   rw [if_neg (by intro e;have:=congrArg W3 e;simp [l1] at this)]
   generalize (Zbp ty (q::ps)).1=B at *
   generalize (q::ps).map Zq=qs at *
   generalize beB (ZU c) 1=D at *
   rw [<-Wo]
   unfold wH at *
   simp -implicitDefEqProofs only [EQA,Xe,Xc,Xb,Xg,ZE,Zaz,reduceCtorEq,↓reduceIte,Zfi,Zem,ZfO,AVal.cells,a0,a7,a9,b1,g0,hN,hPr]
   exact Zgy _ 1 _
def ZfD (p:ZA):Nat:=if ZbX p=[] then 0 else 1
theorem ZE2 (l:Zb) (hl:l.length<=1000000000) {σ:Za} (t r g:Nat) {sq:Nat} (htr:t≠r) (hf:σ[sq]?=some .free) (hs0:σ[t]?=some (.var (wv r g l.length))) (hr:σ[r]?=some (.row g 1 (l.map Zc))) :
  Zi E1 BY σ sq 84 1 true [.ref t 0,.agg (ZC p)]=some (.tup [],(σ.set t (.var (wv r (g+ZfD p) (l++ZbX p).length))).set r (.row (g+ZfD p) 1 ((l++ZbX p).map Zc)),{ any:=true,upd:=[(t,wv r (g+ZfD p) (l++ZbX p).length)] }):=by
 have hw:=Zyr p h l hl
 have hw':E1 84 [.ref 0 0,ZaC p] (wH 0 l)=some (.tup [],wH (ZfD p) (l++ZbX p)):=by
  rw [hw]
  unfold ZfD
  split
  ·rename_i e;rw [e,Xp]
  ·rfl
 exact Zg0 (args:=[.agg (ZC p)]) rfl ⟨rfl,rfl⟩ (ZfD p) (by unfold ZfD;split <;> omega) hw' (by kernel_rfl) (by rw [XP,ZeK];rfl) (by rw [Xt,Zel];rfl) htr (ff1 hf) hs0 hr
def ZbT (p:ZA):Zb:=beB (ZU p.id) 2++(Zbp p.type p.props).1
theorem ZDB:E1 85 [.ref 0 0,ZaC p] [.var wn]=some (.tup [],wH 0 (ZbT p)):=by
 have l2:=Zdb p.type p.props
 have l1:=Zbh 2 (ZU p.id)
 have hN:=fun {σ:Za} {t sq:Nat}=>ZkQ p.id 2 (by omega) (by omega) (m:=2) rfl (σ:=σ) (t:=t) (sq:=sq)
 have hPr:=fun {σ:Za} {sq:Nat}=>ZgF (beB (ZU p.id) 2) p.type p.props h.props.1 h.props.2 (by rw [Zeb];omega) (σ:=σ) 0 2 0 (sq:=sq) (by omega)
 have hO:=fun {j g:Nat} {l:Zb} {σ:Za}=>ZdU (j:=j) (g:=g) (l:=l) (σ:=σ)
 rw [ZbH]
 have e0:=Zcg p
 have a0:(ZC p)[0]?=some (.int .i64 p.type):=rfl
 have a4:(ZC p)[4]?=some (.int .i64 p.id):=rfl
 have a9:(ZC p)[9]?=some (.lst false (p.props.map Zq)):=rfl
 unfold ZbT
 generalize ZC p=P at *
 generalize p.type=ty at *
 generalize p.id=c at *
 generalize p.props=ps at *
 generalize (Zbp ty ps).1=B at *
 generalize ps.map Zq=qs at *
 generalize beB (ZU c) 2=D at *
 rw [Zbz (by rfl) ZOU]
 unfold wn at *
 simp -implicitDefEqProofs only [EQA,Zs,Xe,Xc,Xb,Xg,reduceCtorEq,↓reduceIte,Zd,ZHZ,ZmG,ZCU,AVal.cells,a0,a4,a9,hN,hPr]
 exact hO (j:=2) (by decide) rfl rfl
theorem Zo3 {σ:Za} {t sq:Nat} (hf:σ[sq]?=some .free) (hs0:σ[t]?=some (.var wn)) :
  Zi E1 BY σ sq 85 1 true [.ref t 0,.agg (ZC p)]=some (.tup [],(σ.set t (.var (wv sq 0 (ZbT p).length))).set sq (.row 0 1 ((ZbT p).map Zc)),{ any:=true,upd:=[(t,wv sq 0 (ZbT p).length)] }) :=
 Zgd (args:=[.agg (ZC p)]) rfl rfl (ZDB p h) (by kernel_rfl) (by rw [XP,ZeK];rfl) (by rw [Xt,Zel];rfl) hf hs0
end
end
section
def ZhN:Zb:=[77,81,84,84]
theorem Zja (q:Int):0<=Zw q 3/\Zw q 3<=3:=by
 have h:∀ x:BitVec 64,(x &&& XB 64 3).toNat<=3:=by
  intro x
  rw [BitVec.toNat_and]
  exact Nat.and_le_right
 have h2:=h (XB 64 q)
 unfold Zw
 have h3:IntKind.i64.bits=64:=rfl
 rw [h3,ZbO (by omega) (by omega)]
 omega
def ZnK (p:ZA):Int:=Zad p.clean 2+Zad p.hasWill 4+Zw p.will.qos 3*8+Zad p.will.retain 32+Zad p.hasPassword 64+Zad p.hasUser 128
theorem ZdP (b:Bool) (n:Int) (h:0<=n):0<=Zad b n/\Zad b n<=n:=by unfold Zad;split <;> omega
theorem Zcz (n:Int) (h0:0<=n) (h1:n < 9223372036854775808):IntKind.i64.wrap n=n:=by
 obtain ⟨m,rfl⟩:∃ m:Nat,n=m:=⟨n.toNat,by omega⟩
 exact ZbO (by omega) (by omega)
def Zkw (p:ZA):Zb:=((((Zas ZhN).1++beB (ZU 5) 1)++beB (ZU (ZnK p)) 1)++beB (ZU p.keep) 2)++(Zbp 1 p.props).1++(Zas p.client).1
def ZkS (p:ZA):Zb:=if p.hasWill then ((Zkw p++(Zbp 16 p.will.props).1)++(Zas p.will.topic).1)++(ZbD p.will.data).1 else Zkw p
def ZlI (p:ZA):Zb:=if p.hasUser then ZkS p++(Zas p.user).1 else ZkS p
def Zer (p:ZA):Zb:=if p.hasPassword then ZlI p++(ZbD p.password).1 else ZlI p
section
variable (p:ZA) (h:OkW p)
include h
theorem Zzw:E1 79 [.ref 0 0,ZaC p] [.var wn]=some (.tup [],wH 0 (Zer p)):=by
 have hq:=Zja p.will.qos
 have m1:=ZdP p.clean 2 (by omega)
 have m2:=ZdP p.hasWill 4 (by omega)
 have m3:=ZdP p.will.retain 32 (by omega)
 have m4:=ZdP p.hasPassword 64 (by omega)
 have m5:=ZdP p.hasUser 128 (by omega)
 have hm:=fun b n σ sq own=>Zij b n σ sq own
 have w1:=Zcz (Zad p.clean 2+Zad p.hasWill 4) (by omega) (by omega)
 have w2:=Zcz (Zw p.will.qos 3*8) (by omega) (by omega)
 have w3:=Zcz (Zad p.clean 2+Zad p.hasWill 4+Zw p.will.qos 3*8) (by omega) (by omega)
 have w4:=Zcz (Zad p.clean 2+Zad p.hasWill 4+Zw p.will.qos 3*8+Zad p.will.retain 32) (by omega) (by omega)
 have w5:=Zcz (Zad p.clean 2+Zad p.hasWill 4+Zw p.will.qos 3*8+Zad p.will.retain 32+Zad p.hasPassword 64) (by omega) (by omega)
 have w6:=Zcz (Zad p.clean 2+Zad p.hasWill 4+Zw p.will.qos 3*8+Zad p.will.retain 32+Zad p.hasPassword 64+Zad p.hasUser 128) (by omega) (by omega)
 have lim:=Zeb
 have t0:=ZcE ZhN
 have t1:=ZcE p.client
 have t2:=ZcE p.will.topic
 have t3:=ZcE p.user
 have d1:=ZiD p.will.data
 have d2:=ZiD p.password
 have y1:=Zdb 1 p.props
 have y2:=Zdb 16 p.will.props
 have f0:=fun {σ:Za} {t sq:Nat}=>ZuV ZhN (by decide) (σ:=σ) (t:=t) (sq:=sq)
 unfold Zer ZlI ZkS Zkw ZnK
 have n1:=Zbh 1 (ZU 5)
 generalize (Zas ZhN).1=l0 at *
 have f1:=fun {σ:Za} {sq:Nat}=>Zfu l0 5 1 (by omega) (by omega) (m:=1) rfl (by omega) (σ:=σ) 0 2 0 (sq:=sq) (by omega)
 generalize beB (ZU 5) 1=D1 at *
 obtain ⟨l1,e1⟩:∃ l1,l0++D1=l1:=⟨_,rfl⟩
 have k1:l1.length=l0.length+D1.length:=by rw [<-e1,Xk]
 simp only [e1] at f1 ⊢
 have n2:=Zbh 1 (ZU (Zad p.clean 2+Zad p.hasWill 4+Zw p.will.qos 3*8+Zad p.will.retain 32+Zad p.hasPassword 64+Zad p.hasUser 128))
 have f2:=fun {σ:Za} {sq:Nat}=>Zfu l1 (Zad p.clean 2+Zad p.hasWill 4+Zw p.will.qos 3*8+Zad p.will.retain 32+Zad p.hasPassword 64+Zad p.hasUser 128) 1 (by omega) (by omega) (m:=1) rfl (by omega) (σ:=σ) 0 2 1 (sq:=sq) (by omega)
 generalize beB (ZU (Zad p.clean 2+Zad p.hasWill 4+Zw p.will.qos 3*8+Zad p.will.retain 32+Zad p.hasPassword 64+Zad p.hasUser 128)) 1=D2 at *
 obtain ⟨l2,e2⟩:∃ l2,l1++D2=l2:=⟨_,rfl⟩
 have k2:l2.length=l1.length+D2.length:=by rw [<-e2,Xk]
 simp only [e2] at f2 ⊢
 have n3:=Zbh 2 (ZU p.keep)
 have f3:=fun {σ:Za} {sq:Nat}=>Zfu l2 p.keep 2 (by omega) (by omega) (m:=2) rfl (by omega) (σ:=σ) 0 2 2 (sq:=sq) (by omega)
 generalize beB (ZU p.keep) 2=D3 at *
 obtain ⟨l3,e3⟩:∃ l3,l2++D3=l3:=⟨_,rfl⟩
 have k3:l3.length=l2.length+D3.length:=by rw [<-e3,Xk]
 simp only [e3] at f3 ⊢
 have f4:=fun {σ:Za} {sq:Nat}=>ZgF l3 1 p.props h.props.1 h.props.2 (by omega) (σ:=σ) 0 2 3 (sq:=sq) (by omega)
 generalize (Zbp 1 p.props).1=D4 at *
 obtain ⟨l4,e4⟩:∃ l4,l3++D4=l4:=⟨_,rfl⟩
 have k4:l4.length=l3.length+D4.length:=by rw [<-e4,Xk]
 simp only [e4] at f4 ⊢
 have f5:=fun {σ:Za} {sq:Nat}=>Zir l4 p.client h.client (by omega) (σ:=σ) 0 2 4 (sq:=sq) (by omega)
 generalize (Zas p.client).1=D5 at *
 obtain ⟨l5,e5⟩:∃ l5,l4++D5=l5:=⟨_,rfl⟩
 have k5:l5.length=l4.length+D5.length:=by rw [<-e5,Xk]
 simp only [e5] at f5 ⊢
 have f6:=fun {σ:Za} {sq:Nat}=>ZgF l5 16 p.will.props h.wprops.1 h.wprops.2 (by omega) (σ:=σ) 0 2 5 (sq:=sq) (by omega)
 generalize (Zbp 16 p.will.props).1=D6 at *
 obtain ⟨l6,e6⟩:∃ l6,l5++D6=l6:=⟨_,rfl⟩
 have k6:l6.length=l5.length+D6.length:=by rw [<-e6,Xk]
 simp only [e6] at f6 ⊢
 have f7:=fun {σ:Za} {sq:Nat}=>Zir l6 p.will.topic h.wtopic (by omega) (σ:=σ) 0 2 6 (sq:=sq) (by omega)
 generalize (Zas p.will.topic).1=D7 at *
 obtain ⟨l7,e7⟩:∃ l7,l6++D7=l7:=⟨_,rfl⟩
 have k7:l7.length=l6.length+D7.length:=by rw [<-e7,Xk]
 simp only [e7] at f7 ⊢
 have f8:=fun {σ:Za} {sq:Nat}=>ZvA l7 p.will.data h.wdata (by omega) (σ:=σ) 0 2 7 (sq:=sq) (by omega)
 generalize (ZbD p.will.data).1=D8 at *
 obtain ⟨l8,e8⟩:∃ l8,l7++D8=l8:=⟨_,rfl⟩
 have k8:l8.length=l7.length+D8.length:=by rw [<-e8,Xk]
 simp only [e8] at f8 ⊢
 have hO:=fun {j g:Nat} {l:Zb} {σ:Za}=>ZdU (j:=j) (g:=g) (l:=l) (σ:=σ)
 rw [ZbH]
 have e0:=Zcg p
 have a9:(ZC p)[9]?=some (.lst false (p.props.map Zq)):=rfl
 have a12:(ZC p)[12]?=some (.bool p.clean):=rfl
 have a13:(ZC p)[13]?=some (.int .i64 p.keep):=rfl
 have a14:(ZC p)[14]?=some (.str p.client):=rfl
 have a15:(ZC p)[15]?=some (.bool p.hasWill):=rfl
 have a16:(ZC p)[16]?=some (.str p.will.topic):=rfl
 have a17:(ZC p)[17]?=some (.lst false (p.will.data.map Zc)):=rfl
 have a18:(ZC p)[18]?=some (.int .i64 p.will.qos):=rfl
 have a19:(ZC p)[19]?=some (.bool p.will.retain):=rfl
 have a20:(ZC p)[20]?=some (.lst false (p.will.props.map Zq)):=rfl
 have a21:(ZC p)[21]?=some (.bool p.hasUser):=rfl
 have a22:(ZC p)[22]?=some (.str p.user):=rfl
 have a23:(ZC p)[23]?=some (.bool p.hasPassword):=rfl
 have a24:(ZC p)[24]?=some (.lst false (p.password.map Zc)):=rfl
 have b5:=h.user
 have b6:=h.password
 clear h
 generalize ZC p=P at *
 generalize p.will.qos=wq at *
 generalize p.will.retain=wr at *
 generalize p.will.topic=wt at *
 generalize p.will.data=wd at *
 generalize p.will.props=wp at *
 generalize p.clean=cl at *
 generalize p.keep=kp at *
 generalize p.client=ci at *
 generalize p.props=ps at *
 generalize p.hasWill=hw at *
 generalize p.hasUser=hu at *
 generalize p.hasPassword=hp at *
 generalize p.user=us at *
 generalize p.password=pw at *
 unfold Zw ZhN at *
 rw [Zbz (by rfl) ZC0]
 have fu:=fun (l:Zb) (g:Nat) (hl:l.length<=1000000000) {σ:Za} {sq:Nat}=>Zir l us b5 (by omega) (σ:=σ) 0 2 g (sq:=sq) (by omega)
 have fp:=fun (l:Zb) (g:Nat) (hl:l.length<=1000000000) {σ:Za} {sq:Nat}=>ZvA l pw b6 (by omega) (σ:=σ) 0 2 g (sq:=sq) (by omega)
 generalize (Zas us).1=Du at *
 generalize (ZbD pw).1=Dp at *
 cases hw <;> cases hu <;> cases hp
 ·simp only [Xi,if_false]
  unfold wn at *
  simp -implicitDefEqProofs only [EQA,Zs,Xe,Xc,Xb,Xg,reduceCtorEq,↓reduceIte,Zd,ZfJ,Zef,Zfz,AVal.cells,a9,a12,a13,a14,a15,a18,a19,a21,a23,hm,w1,w2,w3,w4,w5,w6,f0,f1,f2,f3,f4,f5,Z0,Z4,Z7,Zak,Zaj,Zah,Zar,Zal,Z6,Xw]
  exact hO (j:=2) (by decide) rfl rfl
 ·have g1:=fun {σ:Za} {sq:Nat}=>fp l5 5 (by omega) (σ:=σ) (sq:=sq)
  simp only [Xi,if_false,if_true]
  unfold wn at *
  simp -implicitDefEqProofs only [EQA,Zs,Xe,Xc,Xb,Xg,reduceCtorEq,↓reduceIte,Zd,ZfJ,Zef,Zfz,AVal.cells,a9,a12,a13,a14,a15,a18,a19,a21,a23,a24,hm,w1,w2,w3,w4,w5,w6,f0,f1,f2,f3,f4,f5,g1,Z0,Z4,Z7,Zak,Zaj,Zah,Zar,Zal,Z6,Xw]
  exact hO (j:=2) (by decide) rfl rfl
 ·have g1:=fun {σ:Za} {sq:Nat}=>fu l5 5 (by omega) (σ:=σ) (sq:=sq)
  simp only [Xi,if_false,if_true]
  unfold wn at *
  simp -implicitDefEqProofs only [EQA,Zs,Xe,Xc,Xb,Xg,reduceCtorEq,↓reduceIte,Zd,ZfJ,Zef,Zfz,AVal.cells,a9,a12,a13,a14,a15,a18,a19,a21,a22,a23,hm,w1,w2,w3,w4,w5,w6,f0,f1,f2,f3,f4,f5,g1,Z0,Z4,Z7,Zak,Zaj,Zah,Zar,Zal,Z6,Xw]
  exact hO (j:=2) (by decide) rfl rfl
 ·have g1:=fun {σ:Za} {sq:Nat}=>fu l5 5 (by omega) (σ:=σ) (sq:=sq)
  have g2:=fun {σ:Za} {sq:Nat}=>fp (l5++Du) 6 (by rw [Xk];omega) (σ:=σ) (sq:=sq)
  simp only [Xi,if_false,if_true]
  unfold wn at *
  simp -implicitDefEqProofs only [EQA,Zs,Xe,Xc,Xb,Xg,reduceCtorEq,↓reduceIte,Zd,ZfJ,Zef,Zfz,AVal.cells,a9,a12,a13,a14,a15,a18,a19,a21,a22,a23,a24,hm,w1,w2,w3,w4,w5,w6,f0,f1,f2,f3,f4,f5,g1,g2,Z0,Z4,Z7,Zak,Zaj,Zah,Zar,Zal,Z6,Xw]
  exact hO (j:=2) (by decide) rfl rfl
 ·simp only [Xi,if_false,if_true]
  unfold wn at *
  simp -implicitDefEqProofs only [EQA,Zs,Xe,Xc,Xb,Xg,reduceCtorEq,↓reduceIte,Zd,ZfJ,Zef,Zfz,AVal.cells,a9,a12,a13,a14,a15,a16,a17,a18,a19,a20,a21,a23,hm,w1,w2,w3,w4,w5,w6,f0,f1,f2,f3,f4,f5,f6,f7,f8,Z0,Z4,Z7,Zak,Zaj,Zah,Zar,Zal,Z6,Xw]
  exact hO (j:=2) (by decide) rfl rfl
 ·have g1:=fun {σ:Za} {sq:Nat}=>fp l8 8 (by omega) (σ:=σ) (sq:=sq)
  simp only [Xi,if_false,if_true]
  unfold wn at *
  simp -implicitDefEqProofs only [EQA,Zs,Xe,Xc,Xb,Xg,reduceCtorEq,↓reduceIte,Zd,ZfJ,Zef,Zfz,AVal.cells,a9,a12,a13,a14,a15,a16,a17,a18,a19,a20,a21,a23,a24,hm,w1,w2,w3,w4,w5,w6,f0,f1,f2,f3,f4,f5,f6,f7,f8,g1,Z0,Z4,Z7,Zak,Zaj,Zah,Zar,Zal,Z6,Xw]
  exact hO (j:=2) (by decide) rfl rfl
 ·have g1:=fun {σ:Za} {sq:Nat}=>fu l8 8 (by omega) (σ:=σ) (sq:=sq)
  simp only [Xi,if_false,if_true]
  unfold wn at *
  simp -implicitDefEqProofs only [EQA,Zs,Xe,Xc,Xb,Xg,reduceCtorEq,↓reduceIte,Zd,ZfJ,Zef,Zfz,AVal.cells,a9,a12,a13,a14,a15,a16,a17,a18,a19,a20,a21,a22,a23,hm,w1,w2,w3,w4,w5,w6,f0,f1,f2,f3,f4,f5,f6,f7,f8,g1,Z0,Z4,Z7,Zak,Zaj,Zah,Zar,Zal,Z6,Xw]
  exact hO (j:=2) (by decide) rfl rfl
 ·have g1:=fun {σ:Za} {sq:Nat}=>fu l8 8 (by omega) (σ:=σ) (sq:=sq)
  have g2:=fun {σ:Za} {sq:Nat}=>fp (l8++Du) 9 (by rw [Xk];omega) (σ:=σ) (sq:=sq)
  simp only [if_true]
  unfold wn at *
  simp -implicitDefEqProofs only [EQA,Zs,Xe,Xc,Xb,Xg,reduceCtorEq,↓reduceIte,Zd,ZfJ,Zef,Zfz,AVal.cells,a9,a12,a13,a14,a15,a16,a17,a18,a19,a20,a21,a22,a23,a24,hm,w1,w2,w3,w4,w5,w6,f0,f1,f2,f3,f4,f5,f6,f7,f8,g1,g2,Z0,Z4,Z7,Zak,Zaj,Zah,Zar,Zal,Z6,Xw]
  exact hO (j:=2) (by decide) rfl rfl
theorem ZG0:(Zer p).length<=1000000000:=by
 have t0:=ZcE ZhN
 have t1:=ZcE p.client
 have t2:=ZcE p.will.topic
 have t3:=ZcE p.user
 have d1:=ZiD p.will.data
 have d2:=ZiD p.password
 have y1:=Zdb 1 p.props
 have y2:=Zdb 16 p.will.props
 have n1:=Zbh 1 (ZU 5)
 have n2:=Zbh 1 (ZU (ZnK p))
 have n3:=Zbh 2 (ZU p.keep)
 unfold Zer ZlI ZkS Zkw
 cases p.hasWill <;> cases p.hasUser <;> cases p.hasPassword <;> simp only [Xi,if_false,if_true,Xk] <;> omega
theorem ZFv {σ:Za} {t sq:Nat} (hf:σ[sq]?=some .free) (hs0:σ[t]?=some (.var wn)) :
  Zi E1 BY σ sq 79 1 true [.ref t 0,.agg (ZC p)]=some (.tup [],(σ.set t (.var (wv sq 0 (Zer p).length))).set sq (.row 0 1 ((Zer p).map Zc)),{ any:=true,upd:=[(t,wv sq 0 (Zer p).length)] }) :=
 Zgd (args:=[.agg (ZC p)]) rfl rfl (Zzw p h) (by kernel_rfl) (by rw [XP,ZeK];rfl) (by rw [Xt,Zel];rfl) hf hs0
end
end
section
def Zln (p:ZA):Zb:=if p.qos > 0 then (Zas p.topic).1++beB (ZU p.id) 2 else (Zas p.topic).1
def Zk8 (p:ZA):Zb:=(Zln p++(Zbp 3 p.props).1)++p.payload
def ZlB (p:ZA):Zb:=(beB (ZU (Zad p.present 1)) 1++beB (ZU p.code) 1)++(Zbp 2 p.props).1
def ZfH (s:Zbr):Int:=Zw s.qos 3+Zad s.noLocal 4+Zad s.asPublished 8+Zw s.handling 3*16
def Zqa (s:Zbr):Zb:=(Zas s.filter).1++beB (ZU (ZfH s)) 1
def ZdT (l:List Zbr):Zb:=(l.map Zqa).flatten
def ZdX (l:List Zb):Zb:=(l.map fun f=>(Zas f).1).flatten
def Zd0 (l:List Int):Zb:=(l.map fun c=>beB (ZU c) 1).flatten
theorem ZHK (p:ZA) (h:OkW p) (hk:p.type=3):E1 62 [.ref 0 0,ZaC p] [.var wn]=some (.tup [],wH 0 (Zk8 p)):=by
 have lim:=Zeb
 have t1:=ZcE p.topic
 have y1:=Zdb 3 p.props
 have n1:=Zbh 2 (ZU p.id)
 have f0:=fun {σ:Za} {t sq:Nat}=>ZuV p.topic h.topic (σ:=σ) (t:=t) (sq:=sq)
 have pl:=h.payload
 unfold Zk8 Zln
 generalize (Zas p.topic).1=l0 at *
 have f1:=fun {σ:Za} {sq:Nat}=>Zfu l0 p.id 2 (by omega) (by omega) (m:=2) rfl (by omega) (σ:=σ) 0 2 0 (sq:=sq) (by omega)
 generalize beB (ZU p.id) 2=D1 at *
 have f2:=fun (l:Zb) (g:Nat) (hl:l.length<=1000000000) {σ:Za} {sq:Nat}=>ZgF l 3 p.props h.props.1 h.props.2 (by omega) (σ:=σ) 0 2 g (sq:=sq) (by omega)
 generalize (Zbp 3 p.props).1=D2 at *
 have f3:=fun (l:Zb) (g:Nat) (hl:l.length<=2000000000) {σ:Za} {sq:Nat}=>Zie l p.payload (by omega) (σ:=σ) 0 2 g (sq:=sq) (by omega)
 have hO:=fun {j g:Nat} {l:Zb} {σ:Za}=>ZdU (j:=j) (g:=g) (l:=l) (σ:=σ)
 rw [ZbH]
 have e0:=Zcg p
 have a0:(ZC p)[0]?=some (.int .i64 p.type):=rfl
 have a2:(ZC p)[2]?=some (.int .i64 p.qos):=rfl
 have a4:(ZC p)[4]?=some (.int .i64 p.id):=rfl
 have a5:(ZC p)[5]?=some (.str p.topic):=rfl
 have a6:(ZC p)[6]?=some (.lst false (p.payload.map Zc)):=rfl
 have a9:(ZC p)[9]?=some (.lst false (p.props.map Zq)):=rfl
 rw [hk] at a0
 clear h hk
 generalize ZC p=P at *
 generalize p.qos=q at *
 generalize p.id=c at *
 generalize p.topic=tp at *
 generalize p.payload=pa at *
 generalize p.props=ps at *
 rw [Zbz (by rfl) Zek]
 by_cases hq:q > 0
 ·rw [if_pos hq]
  have k1:(l0++D1).length=l0.length+D1.length:=Xk
  have k2:(l0++D1++D2).length=l0.length+D1.length+D2.length:=by rw [Xk,k1]
  have g2:=fun {σ:Za} {sq:Nat}=>f2 (l0++D1) 1 (by omega) (σ:=σ) (sq:=sq)
  have g3:=fun {σ:Za} {sq:Nat}=>f3 (l0++D1++D2) 2 (by omega) (σ:=σ) (sq:=sq)
  clear k1 k2 f2 f3
  unfold wn wT at *
  simp -implicitDefEqProofs only [EQA,Zs,Xe,Xc,Xb,Xg,reduceCtorEq,↓reduceIte,Zd,ZdY,Zda,Zd2,AVal.cells,a0,a2,a4,a5,a6,a9,Xq,hq,f0,f1,g2,g3,Z0,Z4,Z7,Zak,Zaj,Zah,Zar,Zal,Z6]
  exact hO (j:=2) (by decide) rfl rfl
 ·rw [if_neg hq]
  have k2:(l0++D2).length=l0.length+D2.length:=Xk
  have g2:=fun {σ:Za} {sq:Nat}=>f2 l0 0 (by omega) (σ:=σ) (sq:=sq)
  have g3:=fun {σ:Za} {sq:Nat}=>f3 (l0++D2) 1 (by omega) (σ:=σ) (sq:=sq)
  clear k2 f2 f3
  unfold wn wT at *
  simp -implicitDefEqProofs only [EQA,Zs,Xe,Xc,Xb,Xg,reduceCtorEq,↓reduceIte,Zd,ZdY,Zda,Zd2,AVal.cells,a0,a2,a5,a6,a9,Xq,hq,f0,g2,g3,Z0,Z4,Z7,Zak,Zaj,Zah,Zar,Zal,Z6]
  exact hO (j:=2) (by decide) rfl rfl
theorem ZIo (p:ZA) (h:OkW p) (hk:p.type=1):E1 62 [.ref 0 0,ZaC p] [.var wn]=some (.tup [],wH 0 (Zer p)):=by
 have f0:=fun {σ:Za} {t sq:Nat}=>ZFv p h (σ:=σ) (t:=t) (sq:=sq)
 have hO:=fun {j g:Nat} {l:Zb} {σ:Za}=>ZdU (j:=j) (g:=g) (l:=l) (σ:=σ)
 rw [ZbH]
 generalize Zer p=B at *
 have e0:=Zcg p
 have e1:=Zdo p
 have a0:(ZC p)[0]?=some (.int .i64 p.type):=rfl
 rw [hk] at a0
 generalize ZC p=P at *
 rw [Zbz (by rfl) Zek]
 unfold wn at *
 simp -implicitDefEqProofs only [EQA,Zs,Xe,Xc,Xf,Xb,Xg,reduceCtorEq,↓reduceIte,Zd,ZdY,Zda,Zd2,AVal.cells,a0,e0,e1,f0]
 exact hO (j:=2) (by decide) rfl rfl
theorem ZzL (p:ZA) (h:OkW p) (hk:p.type=2):E1 62 [.ref 0 0,ZaC p] [.var wn]=some (.tup [],wH 0 (ZlB p)):=by
 have lim:=Zeb
 have y1:=Zdb 2 p.props
 have n1:=Zbh 1 (ZU p.code)
 have n0:=Zbh 1 (ZU (Zad p.present 1))
 have hm:=fun b n σ sq own=>Zij b n σ sq own
 have f0:=fun {σ:Za} {t sq:Nat}=>ZkQ (Zad p.present 1) 1 (by omega) (by omega) (m:=1) rfl (σ:=σ) (t:=t) (sq:=sq)
 unfold ZlB
 generalize beB (ZU (Zad p.present 1)) 1=l0 at *
 have f1:=fun {σ:Za} {sq:Nat}=>Zfu l0 p.code 1 (by omega) (by omega) (m:=1) rfl (by omega) (σ:=σ) 0 2 0 (sq:=sq) (by omega)
 generalize beB (ZU p.code) 1=D1 at *
 have k1:(l0++D1).length=l0.length+D1.length:=Xk
 have f2:=fun {σ:Za} {sq:Nat}=>ZgF (l0++D1) 2 p.props h.props.1 h.props.2 (by omega) (σ:=σ) 0 2 1 (sq:=sq) (by omega)
 generalize (Zbp 2 p.props).1=D2 at *
 have hO:=fun {j g:Nat} {l:Zb} {σ:Za}=>ZdU (j:=j) (g:=g) (l:=l) (σ:=σ)
 rw [ZbH]
 have e0:=Zcg p
 have a0:(ZC p)[0]?=some (.int .i64 p.type):=rfl
 have a7:(ZC p)[7]?=some (.int .i64 p.code):=rfl
 have a9:(ZC p)[9]?=some (.lst false (p.props.map Zq)):=rfl
 have a25:(ZC p)[25]?=some (.bool p.present):=rfl
 rw [hk] at a0
 clear h hk k1
 generalize ZC p=P at *
 generalize p.code=c at *
 generalize p.present=b at *
 generalize p.props=ps at *
 rw [Zbz (by rfl) Zek]
 unfold wn at *
 simp -implicitDefEqProofs only [EQA,Zs,Xe,Xc,Xb,Xg,reduceCtorEq,↓reduceIte,Zd,ZdY,Zda,Zd2,AVal.cells,a0,a7,a9,a25,Xq,hm,f0,f1,f2]
 exact hO (j:=2) (by decide) rfl rfl
theorem Zzl (p:ZA) (h:OkW p) (hk:p.type=4\/p.type=5\/p.type=6\/p.type=7):E1 62 [.ref 0 0,ZaC p] [.var wn]=some (.tup [],wH 0 (beB (ZU p.id) 2++ZbX p)):=by
 have n0:=Zbh 2 (ZU p.id)
 have f0:=fun {σ:Za} {t sq:Nat}=>ZkQ p.id 2 (by omega) (by omega) (m:=2) rfl (σ:=σ) (t:=t) (sq:=sq)
 generalize beB (ZU p.id) 2=l0 at *
 have f1:=fun {σ:Za} {sq:Nat}=>ZE2 p h l0 (by omega) (σ:=σ) 0 2 0 (sq:=sq) (by omega)
 have hO:=fun {j g:Nat} {l:Zb} {σ:Za}=>ZdU (j:=j) (g:=g) (l:=l) (σ:=σ)
 rw [ZbH]
 generalize ZbX p=B at *
 generalize ZfD p=g0 at *
 have e0:=Zcg p
 have e1:=Zdo p
 have a0:(ZC p)[0]?=some (.int .i64 p.type):=rfl
 have a4:(ZC p)[4]?=some (.int .i64 p.id):=rfl
 clear h
 generalize ZC p=P at *
 generalize p.id=c at *
 generalize p.type=ty at *
 rw [Zbz (by rfl) Zek]
 unfold wn at *
 rcases hk with rfl | rfl | rfl | rfl
 all_goals
  simp -implicitDefEqProofs only [EQA,Zs,Xe,Xc,Xf,Xb,Xg,reduceCtorEq,↓reduceIte,Zd,ZdY,Zda,Zd2,AVal.cells,a0,a4,e0,e1,Xq,f0,f1]
  exact hO (j:=2) (by decide) rfl rfl
theorem ZDy (p:ZA) (h:OkW p) (hb:Zdn p=none) {σ:Za} {t sq:Nat} (hf:σ[sq]?=some .free) (hs0:σ[t]?=some (.var wn)) :
  Zi E1 BY σ sq 84 1 true [.ref t 0,.agg (ZC p)]=some (.tup [],σ,{ any:=true,upd:=[(t,wn)] }):=by
 have:=ZrS p h
 rw [hb] at this
 exact ZvE (args:=[.agg (ZC p)]) this (by kernel_rfl) (by rw [XP,ZeK];rfl) (by rw [Xt,Zel];rfl) (ff1 hf) hs0
theorem ZNq (p:ZA) (h:OkW p) (hb:Zdn p≠none) {σ:Za} {t sq:Nat} (hf:σ[sq]?=some .free) (hs0:σ[t]?=some (.var wn)) :
  Zi E1 BY σ sq 84 1 true [.ref t 0,.agg (ZC p)]=some (.tup [],(σ.set t (.var (wv sq 0 (ZbX p).length))).set sq (.row 0 1 ((ZbX p).map Zc)),{ any:=true,upd:=[(t,wv sq 0 (ZbX p).length)] }):=by
 have:=ZrS p h
 unfold Zdn at this hb
 by_cases hc:p.code≠0\/p.props≠[]
 ·rw [if_pos hc] at this
  exact Zgd (args:=[.agg (ZC p)]) rfl rfl this (by kernel_rfl) (by rw [XP,ZeK];rfl) (by rw [Xt,Zel];rfl) hf hs0
 ·rw [if_neg hc] at hb;exact absurd rfl hb
theorem ZIi (p:ZA) (h:OkW p) (hk:p.type=14\/p.type=15):E1 62 [.ref 0 0,ZaC p] [.var wn]=some (.tup [],wO (Zdn p)):=by
 have hO:=fun {j g:Nat} {l:Zb} {σ:Za}=>ZdU (j:=j) (g:=g) (l:=l) (σ:=σ)
 have e0:=Zcg p
 have e1:=Zdo p
 have a0:(ZC p)[0]?=some (.int .i64 p.type):=rfl
 by_cases hb:Zdn p=none
 ·have f1:=fun {σ:Za} {t sq:Nat}=>ZDy p h hb (σ:=σ) (t:=t) (sq:=sq)
  rw [hb,ZbH]
  clear h hb
  generalize ZC p=P at *
  generalize p.type=ty at *
  rw [Zbz (by rfl) Zek]
  unfold wO wn at *
  rcases hk with rfl | rfl
  all_goals
   simp -implicitDefEqProofs only [EQA,Zs,ZT,Xe,Xc,Xf,Xb,Xg,reduceCtorEq,↓reduceIte,Zd,ZdY,Zda,Zd2,AVal.cells,a0,e0,e1,Xq,f1]
 ·have f1:=fun {σ:Za} {t sq:Nat}=>ZNq p h hb (σ:=σ) (t:=t) (sq:=sq)
  have hr:Zdn p=some (ZbX p):=by unfold Zdn at hb ⊢;split at hb <;> simp_all
  rw [hr,ZbH]
  clear h hb hr
  generalize ZbX p=B at *
  generalize ZC p=P at *
  generalize p.type=ty at *
  rw [Zbz (by rfl) Zek]
  unfold wO wn at *
  rcases hk with rfl | rfl
  all_goals
   simp -implicitDefEqProofs only [EQA,Zs,Xe,Xc,Xf,Xb,Xg,reduceCtorEq,↓reduceIte,Zd,ZdY,Zda,Zd2,AVal.cells,a0,e0,e1,Xq,f1]
   exact hO (j:=2) (by decide) rfl rfl
theorem ZzM (p:ZA) (hk:p.type < 1\/p.type=12\/p.type=13\/15 < p.type):E1 62 [.ref 0 0,ZaC p] [.var wn]=some (.tup [],[.var wn]):=by
 have e0:=Zcg p
 have a0:(ZC p)[0]?=some (.int .i64 p.type):=rfl
 have b:∀ n:Int,n=1\/n=2\/n=3\/n=4\/n=5\/n=6\/n=7\/n=8\/n=9\/n=10\/n=11\/n=14\/n=15->(p.type == n)=false:=by
  intro n hn
  have : p.type≠n:=by omega
  simpa using this
 have b1:=b 1 (by simp)
 have b2:=b 2 (by simp)
 have b3:=b 3 (by simp)
 have b4:=b 4 (by simp)
 have b5:=b 5 (by simp)
 have b6:=b 6 (by simp)
 have b7:=b 7 (by simp)
 have b8:=b 8 (by simp)
 have b9:=b 9 (by simp)
 have b10:=b 10 (by simp)
 have b11:=b 11 (by simp)
 have b14:=b 14 (by simp)
 have b15:=b 15 (by simp)
 rw [ZbH]
 generalize ZC p=P at *
 generalize p.type=ty at *
 rw [Zbz (by rfl) Zek]
 unfold wn at *
 simp -implicitDefEqProofs only [EQA,Zs,ZT,Xe,Xc,Xb,Xg,reduceCtorEq,↓reduceIte,Zd,ZdY,Zda,Zd2,AVal.cells,a0,b1,b2,b3,b4,b5,b6,b7,b8,b9,b10,b11,b14,b15]
end
section
theorem xw1 (c d:Zf) (h:c=d) (m:Nat) (tm:Tms) (σ:Za):evC FC PR1 BY m c tm σ=evC FC PR1 BY m d tm σ:=by rw [h]
def ZrR:=xw1 ZnM ZkC rfl
def ZsH:=xw1 Zn6 Zl0 rfl
def ZsD:=xw1 ZnA Zmb rfl
noncomputable def Zlk (m:Nat) (tm:Tms) (σ:Za):Option (AVal×Za):=(Zau m Zhz (Wa (ZaR 0) (Wa (ZaR 1) (evL FC PR1 BY m [75,74,73,0] ZnM tm σ))))
noncomputable def Zk3 (m:Nat) (tm:Tms) (σ:Za):Option (AVal×Za):=(Zau m Zhz (Wa (ZaR 0) (Wa (ZaR 3) (evL FC PR1 BY m [110,109,108,0] Zn6 tm σ))))
noncomputable def Zka (m:Nat) (tm:Tms) (σ:Za):Option (AVal×Za):=(Zau m Zhz (Wa (ZaR 0) (Wa (ZaR 5) (evL FC PR1 BY m [127,126,125,0] ZnA tm σ))))
theorem ZhR {a b c d:Nat} {x y z:AVal} (hx:ZM x=true) (hy:ZM y=true) (hz:ZM z=true) (r g:Nat) (hr:r≠0) (l:Zb) (σ:Za) (h0:σ[0]?=some (.var (wv r g l.length))) (h1:σ[r]?=some (.row g 1 (l.map Zc))) :
  gcT 1 [(a,x),(b,y),(c,z),(d,.ref 0 0)] σ=([(a,x),(b,y),(c,z),(d,.ref 0 0)],[.var (wv 1 0 l.length),.row 0 1 (l.map Zc)]):=by
 have d0:σ.getD 0 .free=.var (wv r g l.length):=by simp [Xh,h0]
 have d1:σ.getD r .free=.row g 1 (l.map Zc):=by simp [Xh,h1]
 have ej:([0]:List Nat).contains r=false:=by simp;omega
 have hrf:Zp (wv r g l.length)=[r]:=rfl
 have e1:=fun ρ=>Za7 ρ x hx
 have e2:=fun ρ=>Za7 ρ y hy
 have e3:=fun ρ=>Za7 ρ z hz
 have hv:Zp [x,y,z,.ref 0 0]=[0]:=by
  simp only [Zp,(e1 (fun _ _=>none)).2,(e2 (fun _ _=>none)).2,(e3 (fun _ _=>none)).2];rfl
 have hi:Zy 1 [x,y,z,.ref 0 0] σ=[0,r]:=by
  have hR:X9 1=[0]:=rfl
  have e0:([]:List Nat).contains r=false:=rfl
  simp only [Zy,hv,hR,XJ,XZ,Xp,d0,ZG,hrf]
  rw [show (1000:Nat)=996+1+1+1+1 from rfl]
  simp only [List.cons_append,XD,Zu,ej,d1,ZG,Xp,Xi,if_false]
  have ej0:([0]:List Nat).contains 0=true:=rfl
  have ejr:([0,r]:List Nat).contains r=true:=by simp
  simp []
 have hρ:Zk σ 1 [0,r] r g=some (1,0):=by
  have : ¬(0:Nat)=r:=fun e=>hr e.symm
  simp [Zk,ZO,Zo,ZJ,h1,this]
 have hρ0:Zk σ 1 [0,r] 0 0=some (0,0):=by
  simp [Zk,ZO,Zo,ZJ,h0]
 have hren:Zg (Zk σ 1 [0,r]) (wv r g l.length)=wv 1 0 l.length:=by simp only [wv,Zg,Zm,hρ]
 simp only [gcT,gcA,hi,Xt,XM,Zr,d0,d1,ZJ,Zo,ZB,hren,Zg,(e1 _).1,(e2 _).1,(e3 _).1,Zm,hρ0]
 simp
theorem ZLc (r:List Zb):(ZdX r).length<=r.length*65537:=by
 induction r with
 | nil=>simp [ZdX]
 | cons x r ih =>
  have:=ZcE x
  simp only [ZdX,Xt,Wz,Xk,XH] at ih ⊢
  omega
theorem ZDR (r:List Int):(Zd0 r).length<=r.length:=by
 induction r with
 | nil=>simp [Zd0]
 | cons x r ih =>
  have:=Zbh 1 (ZU x)
  simp only [Zd0,Xt,Wz,Xk,XH] at ih ⊢
  omega
theorem ZIm (r:List Zbr):(ZdT r).length<=r.length*65538:=by
 induction r with
 | nil=>simp [ZdT]
 | cons x r ih =>
  have:=ZcE x.filter
  have:=Zbh 1 (ZU (ZfH x))
  simp only [ZdT,Xt,Wz,Xk,XH,Zqa] at ih ⊢
  omega
theorem Zt8 (fs:List Zb) (hn:fs.length<=1048576) (hx:∀ f ∈ fs,f.length<=9223372036854775807):∀ (r:List Zb) (i:Nat) (l:Zb),fs.drop i=r->l.length+r.length*65537<=1000000000000 ->
  Zk3 1 [(110,.int .i64 i),(109,.int .i64 fs.length),(108,.lst false (fs.map AVal.str)),(0,.ref 0 0)] [.var (wv 1 0 l.length),.row 0 1 (l.map Zc)]=some (.tup [],wH 0 (l++ZdX r))
 | [],i,l,h,hl=>by
  have h1:=Zcw h
  have hO:=fun {j g:Nat} {l:Zb} {σ:Za}=>ZdU (j:=j) (g:=g) (l:=l) (σ:=σ)
  have e:l++ZdX []=l:=by simp [ZdX]
  rw [e]
  unfold Zk3
  rw [ZX]
  simp -implicitDefEqProofs only [EQA,Zs,Xe,Xc,Xb,reduceCtorEq,↓reduceIte,Zd,Zd2,Zl0,ZsH,h1]
  exact hO (j:=1) (by decide) rfl rfl
 | x::r,i,l,h,hl=>by
  have hx0:x.length<=9223372036854775807:=hx x (XA (Zab h).1)
  have t1:=ZcE x
  have lim:=Zeb
  simp only [XH] at hl
  have ih:=Zt8 fs hn hx r (i+1) (l++(Zas x).1) (Zab h).2.1 (by rw [Xk];omega)
  have h1:(i:Int) < fs.length:=by have:=(Zab h).2.2;omega
  have e1:=iad (Zab h).1 AVal.str (k:=1) rfl
  have e3:=Zcn h1 (by omega)
  have f1:=fun {σ:Za} {sq:Nat}=>Zir l x hx0 (by omega) (σ:=σ) 0 1 0 (sq:=sq) (by omega)
  have e:l++ZdX (x::r)=l++(Zas x).1++ZdX r:=by simp [ZdX]
  rw [e]
  generalize (Zas x).1=D at *
  have hG:=fun {a b c d:Nat} {i n:Int} {σ:Za} h0 h1=>ZhR (a:=a) (b:=b) (c:=c) (d:=d) (x:=.int .i64 i) (y:=.int .i64 n) (z:=.lst false (fs.map AVal.str)) rfl rfl rfl 1 1 (by omega) (l++D) σ h0 h1
  unfold Zk3 at ih ⊢
  rw [ZX]
  simp -implicitDefEqProofs only [EQA,ZT,Xe,Xc,Xb,Xg,reduceCtorEq,↓reduceIte,Zl0,ZsH,AVal.cells,h1,e1,e3,f1,hG]
  exact ih
theorem ZvU (fs:List Int) (hn:fs.length<=1048576):∀ (r:List Int) (i:Nat) (l:Zb),fs.drop i=r->l.length+r.length<=1000000000000 ->
  Zka 1 [(127,.int .i64 i),(126,.int .i64 fs.length),(125,.lst false (fs.map (AVal.int .i64))),(0,.ref 0 0)] [.var (wv 1 0 l.length),.row 0 1 (l.map Zc)]=some (.tup [],wH 0 (l++Zd0 r))
 | [],i,l,h,hl=>by
  have h1:=Zcw h
  have hO:=fun {j g:Nat} {l:Zb} {σ:Za}=>ZdU (j:=j) (g:=g) (l:=l) (σ:=σ)
  have e:l++Zd0 []=l:=by simp [Zd0]
  rw [e]
  unfold Zka
  rw [ZX]
  simp -implicitDefEqProofs only [EQA,Zs,Xe,Xc,Xb,reduceCtorEq,↓reduceIte,Zd,Zd2,Zmb,ZsD,h1]
  exact hO (j:=1) (by decide) rfl rfl
 | x::r,i,l,h,hl=>by
  have t1:=Zbh 1 (ZU x)
  have lim:=Zeb
  simp only [XH] at hl
  have ih:=ZvU fs hn r (i+1) (l++beB (ZU x) 1) (Zab h).2.1 (by rw [Xk];omega)
  have h1:(i:Int) < fs.length:=by have:=(Zab h).2.2;omega
  have e1:=iad (Zab h).1 (AVal.int .i64) (k:=1) rfl
  have e3:=Zcn h1 (by omega)
  have f1:=fun {σ:Za} {sq:Nat}=>Zfu l x 1 (by omega) (by omega) (m:=1) rfl (by omega) (σ:=σ) 0 1 0 (sq:=sq) (by omega)
  have e:l++Zd0 (x::r)=l++beB (ZU x) 1++Zd0 r:=by simp [Zd0]
  rw [e]
  generalize beB (ZU x) 1=D at *
  have hG:=fun {a b c d:Nat} {i n:Int} {σ:Za} h0 h1=>ZhR (a:=a) (b:=b) (c:=c) (d:=d) (x:=.int .i64 i) (y:=.int .i64 n) (z:=.lst false (fs.map (AVal.int .i64))) rfl rfl rfl 1 1 (by omega) (l++D) σ h0 h1
  unfold Zka at ih ⊢
  rw [ZX]
  simp -implicitDefEqProofs only [EQA,ZT,Xe,Xc,Xb,Xg,reduceCtorEq,↓reduceIte,Zmb,ZsD,AVal.cells,h1,e1,e3,f1,hG]
  exact ih
theorem Zrs (fs:List Zbr) (hn:fs.length<=1048576) (hx:∀ f ∈ fs,f.filter.length<=9223372036854775807):∀ (r:List Zbr) (i:Nat) (l:Zb),fs.drop i=r->l.length+r.length*65538<=1000000000000 ->
  Zlk 1 [(75,.int .i64 i),(74,.int .i64 fs.length),(73,.lst false (fs.map Z1)),(0,.ref 0 0)] [.var (wv 1 0 l.length),.row 0 1 (l.map Zc)]=some (.tup [],wH 0 (l++ZdT r))
 | [],i,l,h,hl=>by
  have h1:=Zcw h
  have hO:=fun {j g:Nat} {l:Zb} {σ:Za}=>ZdU (j:=j) (g:=g) (l:=l) (σ:=σ)
  have e:l++ZdT []=l:=by simp [ZdT]
  rw [e]
  unfold Zlk
  rw [ZX]
  simp -implicitDefEqProofs only [EQA,Zs,Xe,Xc,Xb,reduceCtorEq,↓reduceIte,Zd,Zd2,ZkC,ZrR,h1]
  exact hO (j:=1) (by decide) rfl rfl
 | x::r,i,l,h,hl=>by
  have hx0:x.filter.length<=9223372036854775807:=hx x (XA (Zab h).1)
  have t1:=ZcE x.filter
  have t2:=Zbh 1 (ZU (ZfH x))
  have lim:=Zeb
  simp only [XH] at hl
  have ih:=Zrs fs hn hx r (i+1) (l++(Zas x.filter).1++beB (ZU (ZfH x)) 1) (Zab h).2.1 (by rw [Xk,Xk];omega)
  have h1:(i:Int) < fs.length:=by have:=(Zab h).2.2;omega
  have e1:=iad (Zab h).1 Z1 (k:=6) rfl
  have e3:=Zcn h1 (by omega)
  have hm:=fun b n σ sq own=>Zij b n σ sq own
  have q1:=Zja x.qos
  have q2:=Zja x.handling
  have m1:=ZdP x.noLocal 4 (by omega)
  have m2:=ZdP x.asPublished 8 (by omega)
  have w1:=Zcz (Zw x.qos 3+Zad x.noLocal 4) (by omega) (by omega)
  have w2:=Zcz (Zw x.qos 3+Zad x.noLocal 4+Zad x.asPublished 8) (by omega) (by omega)
  have w3:=Zcz (Zw x.handling 3*16) (by omega) (by omega)
  have w4:=Zcz (Zw x.qos 3+Zad x.noLocal 4+Zad x.asPublished 8+Zw x.handling 3*16) (by omega) (by omega)
  have f1:=fun {σ:Za} {sq:Nat}=>Zir l x.filter hx0 (by omega) (σ:=σ) 0 1 0 (sq:=sq) (by omega)
  have f2:=fun {σ:Za} {sq:Nat}=>Zfu (l++(Zas x.filter).1) (ZfH x) 1 (by omega) (by omega) (m:=1) rfl (by rw [Xk];omega) (σ:=σ) 0 1 1 (sq:=sq) (by omega)
  have e:l++ZdT (x::r)=l++(Zas x.filter).1++beB (ZU (ZfH x)) 1++ZdT r:=by simp [ZdT,Zqa]
  rw [e]
  generalize (Zas x.filter).1=D at *
  generalize beB (ZU (ZfH x)) 1=D2 at *
  have hG:=fun {a b c d:Nat} {i n:Int} {σ:Za} h0 h1=>ZhR (a:=a) (b:=b) (c:=c) (d:=d) (x:=.int .i64 i) (y:=.int .i64 n) (z:=.lst false (fs.map Z1)) rfl rfl rfl 1 2 (by omega) (l++D++D2) σ h0 h1
  unfold ZfH at f2
  unfold Zlk at ih ⊢
  rw [ZX]
  simp only [Z1,AVal.cells] at e1
  unfold Zw at *
  simp -implicitDefEqProofs only [EQA,ZT,Xe,Xc,Xf,Xb,Xg,reduceCtorEq,↓reduceIte,ZkC,ZrR,AVal.cells,h1,e1,e3,hm,w1,w2,w3,w4,f1,f2,hG,Z0,Z4,Z7,Zak,Zaj,Zah,Zar,Zal,Z6,Xw]
  exact ih
section
variable (p:ZA) (h:OkW p)
include h
theorem Zj9:(ZbT p).length<=300000000:=by
 have:=Zdb p.type p.props
 have:=Zbh 2 (ZU p.id)
 unfold ZbT
 rw [Xk];omega
theorem ZBQ (hk:p.type=8):E1 62 [.ref 0 0,ZaC p] [.var wn]=some (.tup [],wH 0 (ZbT p++ZdT p.subs)):=by
 have hh:=Zj9 p h
 have f0:=fun {σ:Za} {t sq:Nat}=>Zo3 p h (σ:=σ) (t:=t) (sq:=sq)
 have hx:=h.subs
 have hL:=Zrs p.subs hx.1 hx.2 p.subs 0 (ZbT p) rfl (by omega)
 have z:((0:Nat):Int)=0:=rfl
 rw [z] at hL
 unfold Zlk at hL
 have hG:=fun {a b c d:Nat} {i n:Int} {r g:Nat} {σ:Za} hr h0 h1=>ZhR (a:=a) (b:=b) (c:=c) (d:=d) (x:=.int .i64 i) (y:=.int .i64 n) (z:=.lst false (p.subs.map Z1)) rfl rfl rfl r g hr (ZbT p) σ h0 h1
 have hG2:=fun {a b c d:Nat} {i n:Int} {g:Nat} {σ:Za} h0 h1=>hG (a:=a) (b:=b) (c:=c) (d:=d) (i:=i) (n:=n) (r:=2) (g:=g) (σ:=σ) (by omega) h0 h1
 clear hG
 have hn:(p.subs.map Z1).length=p.subs.length:=by simp
 rw [ZbH]
 generalize ZbT p=B at *
 have e0:=Zcg p
 have e1:=Zdo p
 have a0:(ZC p)[0]?=some (.int .i64 p.type):=rfl
 have a10:(ZC p)[10]?=some (.lst false (p.subs.map Z1)):=rfl
 rw [hk] at a0
 clear h hk hx
 generalize ZC p=P at *
 generalize p.subs=ss at *
 rw [Zbz (by rfl) Zek]
 unfold wn at *
 simp -implicitDefEqProofs only [EQA,ZT,Xe,Xc,Xf,Xb,Xg,reduceCtorEq,↓reduceIte,ZdY,Zda,AVal.cells,a0,a10,e0,e1,hn,Xq,f0]
 exact hL
theorem ZJK (hk:p.type=10):E1 62 [.ref 0 0,ZaC p] [.var wn]=some (.tup [],wH 0 (ZbT p++ZdX p.filters)):=by
 have hh:=Zj9 p h
 have f0:=fun {σ:Za} {t sq:Nat}=>Zo3 p h (σ:=σ) (t:=t) (sq:=sq)
 have hx:=h.filters
 have hL:=Zt8 p.filters hx.1 hx.2 p.filters 0 (ZbT p) rfl (by omega)
 have z:((0:Nat):Int)=0:=rfl
 rw [z] at hL
 unfold Zk3 at hL
 have hG2:=fun {a b c d:Nat} {i n:Int} {g:Nat} {σ:Za} h0 h1=>ZhR (a:=a) (b:=b) (c:=c) (d:=d) (x:=.int .i64 i) (y:=.int .i64 n) (z:=.lst false (p.filters.map AVal.str)) rfl rfl rfl 2 g (by omega) (ZbT p) σ h0 h1
 have hn:(p.filters.map AVal.str).length=p.filters.length:=by simp
 rw [ZbH]
 generalize ZbT p=B at *
 have e0:=Zcg p
 have e1:=Zdo p
 have a0:(ZC p)[0]?=some (.int .i64 p.type):=rfl
 have a11:(ZC p)[11]?=some (.lst false (p.filters.map AVal.str)):=rfl
 rw [hk] at a0
 clear h hk hx
 generalize ZC p=P at *
 generalize p.filters=ss at *
 rw [Zbz (by rfl) Zek]
 unfold wn at *
 simp -implicitDefEqProofs only [EQA,ZT,Xe,Xc,Xf,Xb,Xg,reduceCtorEq,↓reduceIte,ZdY,Zda,AVal.cells,a0,a11,e0,e1,hn,Xq,f0]
 exact hL
theorem ZCg (hk:p.type=9\/p.type=11):E1 62 [.ref 0 0,ZaC p] [.var wn]=some (.tup [],wH 0 (ZbT p++Zd0 p.codes)):=by
 have hh:=Zj9 p h
 have f0:=fun {σ:Za} {t sq:Nat}=>Zo3 p h (σ:=σ) (t:=t) (sq:=sq)
 have hx:=h.codes
 have hL:=ZvU p.codes hx p.codes 0 (ZbT p) rfl (by omega)
 have z:((0:Nat):Int)=0:=rfl
 rw [z] at hL
 unfold Zka at hL
 have hG2:=fun {a b c d:Nat} {i n:Int} {g:Nat} {σ:Za} h0 h1=>ZhR (a:=a) (b:=b) (c:=c) (d:=d) (x:=.int .i64 i) (y:=.int .i64 n) (z:=.lst false (p.codes.map (AVal.int .i64))) rfl rfl rfl 2 g (by omega) (ZbT p) σ h0 h1
 have hn:(p.codes.map (AVal.int .i64)).length=p.codes.length:=by simp
 rw [ZbH]
 generalize ZbT p=B at *
 have e0:=Zcg p
 have e1:=Zdo p
 have a0:(ZC p)[0]?=some (.int .i64 p.type):=rfl
 have a8:(ZC p)[8]?=some (.lst false (p.codes.map (AVal.int .i64))):=rfl
 clear h hx
 generalize ZC p=P at *
 generalize p.codes=ss at *
 generalize p.type=ty at *
 rw [Zbz (by rfl) Zek]
 unfold wn at *
 rcases hk with rfl | rfl
 all_goals
  simp -implicitDefEqProofs only [EQA,ZT,Xe,Xc,Xf,Xb,Xg,reduceCtorEq,↓reduceIte,ZdY,Zda,AVal.cells,a0,a8,e0,e1,hn,Xq,f0]
  exact hL
end
end
section
def Zf9:=xw1 ZcB ZeW rfl
theorem ZqY (A:List AVal) (off:Nat) (X:List AVal) (L:List (Int×Int)) (hl:L.length<=32) (m:Int×Int):Zi E BY [.row 0 2 A,.var [.sl 2 0 off L.length],.row 0 2 X,.var [.sl 4 0 0 L.length],.row 0 2 (L.map Ze),.var [.int .i64 m.1,.int .i64 m.2]] 6 17 0 true [.ref 3 0,.agg [.int .i64 m.1,.int .i64 m.2]]=some (.bool (L.contains m),[.row 0 2 A,.var [.sl 2 0 off L.length],.row 0 2 X,.var [.sl 4 0 0 L.length],.row 0 2 (L.map Ze),.var [.int .i64 m.1,.int .i64 m.2]],{ any:=true,upd:=[(3,[.sl 4 0 0 L.length])] }):=by
 have h1:=ZhJ L (by omega) m
 unfold sL at h1
 exact Zby (O:=E) (bf:=BY) (σ:=[.row 0 2 A,.var [.sl 2 0 off L.length],.row 0 2 X,.var [.sl 4 0 0 L.length],.row 0 2 (L.map Ze),.var [.int .i64 m.1,.int .i64 m.2]]) (sq:=6) (own:=0) (f:=17) (view:=true) (args:=[.ref 3 0,.agg [.int .i64 m.1,.int .i64 m.2]]) (vs:=[.ref 3 0,.agg [.int .i64 m.1,.int .i64 m.2]]) (vs':=[.ref 0 0,.agg [.int .i64 m.1,.int .i64 m.2]]) (ids:=[3,4]) (h0:=[.var [.sl 1 0 0 L.length],.row 0 2 (L.map Ze)]) (h:=[.var [.sl 1 0 0 L.length],.row 0 2 (L.map Ze)]) (r:=.bool (L.contains m)) (by kernel_rfl) rfl rfl rfl rfl rfl rfl (by rw [h1];rfl) (Xo rfl) (Xo rfl) rfl rfl rfl rfl rfl
theorem ZGL (A:List AVal) (off:Nat) (X:List AVal) (L:List (Int×Int)) (hl:L.length<=32) (m:Int×Int) (hm:L.contains m=true):Zi E BY [.row 0 2 A,.var [.sl 2 0 off L.length],.row 0 2 X,.var [.sl 4 0 0 L.length],.row 0 2 (L.map Ze),.var [.int .i64 m.1,.int .i64 m.2],.free] 6 18 1 true [.ref 3 0,.agg [.int .i64 m.1,.int .i64 m.2]]=some (.bool false,[.row 0 2 A,.var [.sl 2 0 off L.length],.row 0 2 X,.var [.sl 4 0 0 L.length],.row 0 2 (L.map Ze),.var [.int .i64 m.1,.int .i64 m.2],.free],{ any:=true,upd:=[(3,[.sl 4 0 0 L.length])] }):=by
 have h1:=ZrX L hl m hm
 unfold sL at h1
 exact Zby (O:=E) (bf:=BY) (σ:=[.row 0 2 A,.var [.sl 2 0 off L.length],.row 0 2 X,.var [.sl 4 0 0 L.length],.row 0 2 (L.map Ze),.var [.int .i64 m.1,.int .i64 m.2],.free]) (sq:=6) (own:=1) (f:=18) (view:=true) (args:=[.ref 3 0,.agg [.int .i64 m.1,.int .i64 m.2]]) (vs:=[.ref 3 0,.agg [.int .i64 m.1,.int .i64 m.2]]) (vs':=[.ref 0 0,.agg [.int .i64 m.1,.int .i64 m.2]]) (ids:=[3,4]) (h0:=[.var [.sl 1 0 0 L.length],.row 0 2 (L.map Ze)]) (h:=[.var [.sl 1 0 0 L.length],.row 0 2 (L.map Ze)]) (r:=.bool false) (by kernel_rfl) rfl rfl rfl rfl rfl rfl (by rw [h1];rfl) (Xo rfl) (Xo rfl) rfl rfl rfl rfl rfl
theorem Zxb (A:List AVal) (off:Nat) (X:List AVal) (L:List (Int×Int)) (hl:L.length<=32) (m:Int×Int) (hm:L.contains m=false) (h32:L.length < 32):Zi E BY [.row 0 2 A,.var [.sl 2 0 off L.length],.row 0 2 X,.var [.sl 4 0 0 L.length],.row 0 2 (L.map Ze),.var [.int .i64 m.1,.int .i64 m.2],.free] 6 18 1 true [.ref 3 0,.agg [.int .i64 m.1,.int .i64 m.2]]=some (.bool true,[.row 0 2 A,.var [.sl 2 0 off L.length],.row 0 2 X,.var [.sl 4 1 0 (L.length+1)],.row 1 2 ((L++[m]).map Ze),.var [.int .i64 m.1,.int .i64 m.2],.free],{ any:=true,upd:=[(3,[.sl 4 1 0 (L.length+1)])] }):=by
 have h1:=Zr8 L h32 m hm
 unfold sL at h1
 exact Zby (O:=E) (bf:=BY) (σ:=[.row 0 2 A,.var [.sl 2 0 off L.length],.row 0 2 X,.var [.sl 4 0 0 L.length],.row 0 2 (L.map Ze),.var [.int .i64 m.1,.int .i64 m.2],.free]) (sq:=6) (own:=1) (f:=18) (view:=true) (args:=[.ref 3 0,.agg [.int .i64 m.1,.int .i64 m.2]]) (vs:=[.ref 3 0,.agg [.int .i64 m.1,.int .i64 m.2]]) (vs':=[.ref 0 0,.agg [.int .i64 m.1,.int .i64 m.2]]) (ids:=[3,4]) (h0:=[.var [.sl 1 0 0 L.length],.row 0 2 (L.map Ze)]) (h:=[.var [.sl 1 1 0 (L.length+1)],.row 1 2 ((L++[m]).map Ze)]) (r:=.bool true) (by kernel_rfl) rfl rfl rfl rfl rfl rfl (by rw [h1];rfl) (Xo rfl) (Xo rfl) rfl rfl rfl rfl rfl
theorem ZGA (A:List AVal) (off:Nat) (X:List AVal) (L:List (Int×Int)) (hl:L.length<=32) (m:Int×Int) (hm:L.contains m=false) (h32:L.length=32):Zi E BY [.row 0 2 A,.var [.sl 2 0 off L.length],.row 0 2 X,.var [.sl 4 0 0 L.length],.row 0 2 (L.map Ze),.var [.int .i64 m.1,.int .i64 m.2],.free] 6 18 1 true [.ref 3 0,.agg [.int .i64 m.1,.int .i64 m.2]]=some (.bool true,[.row 0 2 A,.var [.sl 2 0 off L.length],.row 0 2 X,.var [.sl 6 0 0 32],.row 1 2 ((L++[m]).map Ze),.var [.int .i64 m.1,.int .i64 m.2],.row 0 2 (((L++[m]).drop 1).map Ze)],{ any:=true,upd:=[(3,[.sl 6 0 0 32])] }):=by
 have h1:=ZsU L h32 m hm
 unfold sL at h1
 exact Zby (O:=E) (bf:=BY) (σ:=[.row 0 2 A,.var [.sl 2 0 off L.length],.row 0 2 X,.var [.sl 4 0 0 L.length],.row 0 2 (L.map Ze),.var [.int .i64 m.1,.int .i64 m.2],.free]) (sq:=6) (own:=1) (f:=18) (view:=true) (args:=[.ref 3 0,.agg [.int .i64 m.1,.int .i64 m.2]]) (vs:=[.ref 3 0,.agg [.int .i64 m.1,.int .i64 m.2]]) (vs':=[.ref 0 0,.agg [.int .i64 m.1,.int .i64 m.2]]) (ids:=[3,4]) (h0:=[.var [.sl 1 0 0 L.length],.row 0 2 (L.map Ze)]) (h:=[.var [.sl 2 0 0 32],.row 1 2 ((L++[m]).map Ze),.row 0 2 (((L++[m]).drop 1).map Ze)]) (r:=.bool true) (by kernel_rfl) rfl rfl rfl rfl rfl rfl (by rw [h1];rfl) (Xo rfl) (Xo rfl) rfl rfl rfl rfl rfl
theorem ZDZ (A:List AVal) (off:Nat) (X:List AVal) (L:List (Int×Int)) (hl:L.length<=32) (m:Int×Int) (hX:X.drop off=L.map Ze) (ho:off<=X.length) (hm:L.contains m=true):Zi E BY [.row 0 2 A,.var [.sl 2 0 off L.length],.row 0 2 X,.var [.sl 4 0 0 L.length],.row 0 2 (L.map Ze),.var [.int .i64 m.1,.int .i64 m.2],.free,.free] 7 19 1 true [.ref 1 0,.agg [.int .i64 m.1,.int .i64 m.2]]=some (.bool false,[.row 0 2 A,.var [.sl 2 0 off L.length],.row 0 2 X,.var [.sl 4 0 0 L.length],.row 0 2 (L.map Ze),.var [.int .i64 m.1,.int .i64 m.2],.free,.free],{ any:=true,upd:=[(1,[.sl 2 0 off L.length])] }):=by
 have h1:=Zzb X off L hX ho hl m hm
 unfold rX at h1
 exact Zby (O:=E) (bf:=BY) (σ:=[.row 0 2 A,.var [.sl 2 0 off L.length],.row 0 2 X,.var [.sl 4 0 0 L.length],.row 0 2 (L.map Ze),.var [.int .i64 m.1,.int .i64 m.2],.free,.free]) (sq:=7) (own:=1) (f:=19) (view:=true) (args:=[.ref 1 0,.agg [.int .i64 m.1,.int .i64 m.2]]) (vs:=[.ref 1 0,.agg [.int .i64 m.1,.int .i64 m.2]]) (vs':=[.ref 0 0,.agg [.int .i64 m.1,.int .i64 m.2]]) (ids:=[1,2]) (h0:=[.var [.sl 1 0 off L.length],.row 0 2 X]) (h:=[.var [.sl 1 0 off L.length],.row 0 2 X]) (r:=.bool false) (by kernel_rfl) rfl rfl rfl rfl rfl rfl (by rw [h1];rfl) (Xo rfl) (Xo rfl) rfl rfl rfl rfl rfl
theorem ZF2 (A:List AVal) (off:Nat) (X:List AVal) (L:List (Int×Int)) (hl:L.length<=32) (m:Int×Int) (hX:X.drop off=L.map Ze) (ho:off<=X.length) (hm:L.contains m=false) (h32:L.length < 32):Zi E BY [.row 0 2 A,.var [.sl 2 0 off L.length],.row 0 2 X,.var [.sl 4 1 0 (L.length+1)],.row 1 2 ((L++[m]).map Ze),.var [.int .i64 m.1,.int .i64 m.2],.free,.free] 7 19 1 true [.ref 1 0,.agg [.int .i64 m.1,.int .i64 m.2]]=some (.bool true,[.row 0 2 A,.var [.sl 7 0 0 (L.length+1)],.row 0 2 X,.var [.sl 4 1 0 (L.length+1)],.row 1 2 ((L++[m]).map Ze),.var [.int .i64 m.1,.int .i64 m.2],.free,.row 0 2 (L.map Ze++[.agg [.int .i64 m.1,.int .i64 m.2]])],{ any:=true,upd:=[(1,[.sl 7 0 0 (L.length+1)])] }):=by
 have h1:=Zts X off L hX ho hl m hm
 rw [if_pos h32] at h1
 unfold rX at h1
 exact Zby (O:=E) (bf:=BY) (σ:=[.row 0 2 A,.var [.sl 2 0 off L.length],.row 0 2 X,.var [.sl 4 1 0 (L.length+1)],.row 1 2 ((L++[m]).map Ze),.var [.int .i64 m.1,.int .i64 m.2],.free,.free]) (sq:=7) (own:=1) (f:=19) (view:=true) (args:=[.ref 1 0,.agg [.int .i64 m.1,.int .i64 m.2]]) (vs:=[.ref 1 0,.agg [.int .i64 m.1,.int .i64 m.2]]) (vs':=[.ref 0 0,.agg [.int .i64 m.1,.int .i64 m.2]]) (ids:=[1,2]) (h0:=[.var [.sl 1 0 off L.length],.row 0 2 X]) (h:=[.var [.sl 2 0 0 (L.length+1)],.row 0 2 X,.row 0 2 (L.map Ze++[.agg [.int .i64 m.1,.int .i64 m.2]])]) (r:=.bool true) (by kernel_rfl) rfl rfl rfl rfl rfl rfl (by rw [h1];rfl) (Xo rfl) (Xo rfl) rfl rfl rfl rfl rfl
theorem ZBm (A:List AVal) (off:Nat) (X:List AVal) (L:List (Int×Int)) (hl:L.length<=32) (m:Int×Int) (hX:X.drop off=L.map Ze) (ho:off<=X.length) (hm:L.contains m=false) (h32:L.length=32):Zi E BY [.row 0 2 A,.var [.sl 2 0 off L.length],.row 0 2 X,.var [.sl 6 0 0 32],.row 1 2 ((L++[m]).map Ze),.var [.int .i64 m.1,.int .i64 m.2],.row 0 2 (((L++[m]).drop 1).map Ze),.free] 7 19 1 true [.ref 1 0,.agg [.int .i64 m.1,.int .i64 m.2]]=some (.bool true,[.row 0 2 A,.var [.sl 7 0 1 32],.row 0 2 X,.var [.sl 6 0 0 32],.row 1 2 ((L++[m]).map Ze),.var [.int .i64 m.1,.int .i64 m.2],.row 0 2 (((L++[m]).drop 1).map Ze),.row 0 2 (L.map Ze++[.agg [.int .i64 m.1,.int .i64 m.2]])],{ any:=true,upd:=[(1,[.sl 7 0 1 32])] }):=by
 have h1:=Zts X off L hX ho hl m hm
 rw [if_neg (by omega)] at h1
 unfold rX at h1
 exact Zby (O:=E) (bf:=BY) (σ:=[.row 0 2 A,.var [.sl 2 0 off L.length],.row 0 2 X,.var [.sl 6 0 0 32],.row 1 2 ((L++[m]).map Ze),.var [.int .i64 m.1,.int .i64 m.2],.row 0 2 (((L++[m]).drop 1).map Ze),.free]) (sq:=7) (own:=1) (f:=19) (view:=true) (args:=[.ref 1 0,.agg [.int .i64 m.1,.int .i64 m.2]]) (vs:=[.ref 1 0,.agg [.int .i64 m.1,.int .i64 m.2]]) (vs':=[.ref 0 0,.agg [.int .i64 m.1,.int .i64 m.2]]) (ids:=[1,2]) (h0:=[.var [.sl 1 0 off L.length],.row 0 2 X]) (h:=[.var [.sl 2 0 1 32],.row 0 2 X,.row 0 2 (L.map Ze++[.agg [.int .i64 m.1,.int .i64 m.2]])]) (r:=.bool true) (by kernel_rfl) rfl rfl rfl rfl rfl rfl (by rw [h1];rfl) (Xo rfl) (Xo rfl) rfl rfl rfl rfl rfl
theorem ZLm (A:List AVal) (off:Nat) (X:List AVal) (L:List (Int×Int)) (hl:L.length<=32) (m:Int×Int) (hm:L.contains m=true):Zi E BY [.row 0 2 A,.var [.sl 2 0 off L.length],.row 0 2 X,.var [.sl 4 0 0 L.length],.row 0 2 (L.map Ze),.var [.int .i64 m.1,.int .i64 m.2],.free,.free] 8 17 0 true [.ref 3 0,.agg [.int .i64 m.1,.int .i64 m.2]]=some (.bool true,[.row 0 2 A,.var [.sl 2 0 off L.length],.row 0 2 X,.var [.sl 4 0 0 L.length],.row 0 2 (L.map Ze),.var [.int .i64 m.1,.int .i64 m.2],.free,.free],{ any:=true,upd:=[(3,[.sl 4 0 0 L.length])] }):=by
 have h1:=ZhJ L (by omega) m
 rw [hm] at h1
 unfold sL at h1
 exact Zby (O:=E) (bf:=BY) (σ:=[.row 0 2 A,.var [.sl 2 0 off L.length],.row 0 2 X,.var [.sl 4 0 0 L.length],.row 0 2 (L.map Ze),.var [.int .i64 m.1,.int .i64 m.2],.free,.free]) (sq:=8) (own:=0) (f:=17) (view:=true) (args:=[.ref 3 0,.agg [.int .i64 m.1,.int .i64 m.2]]) (vs:=[.ref 3 0,.agg [.int .i64 m.1,.int .i64 m.2]]) (vs':=[.ref 0 0,.agg [.int .i64 m.1,.int .i64 m.2]]) (ids:=[3,4]) (h0:=[.var [.sl 1 0 0 L.length],.row 0 2 (L.map Ze)]) (h:=[.var [.sl 1 0 0 L.length],.row 0 2 (L.map Ze)]) (r:=.bool true) (by kernel_rfl) rfl rfl rfl rfl rfl rfl (by rw [h1];rfl) (Xo rfl) (Xo rfl) rfl rfl rfl rfl rfl
theorem ZDm (A:List AVal) (off:Nat) (X:List AVal) (L:List (Int×Int)) (hl:L.length<=32) (m:Int×Int):Zi E BY [.row 0 2 A,.var [.sl 7 0 0 (L.length+1)],.row 0 2 X,.var [.sl 4 1 0 (L.length+1)],.row 1 2 ((L++[m]).map Ze),.var [.int .i64 m.1,.int .i64 m.2],.free,.row 0 2 (L.map Ze++[.agg [.int .i64 m.1,.int .i64 m.2]])] 8 17 0 true [.ref 3 0,.agg [.int .i64 m.1,.int .i64 m.2]]=some (.bool true,[.row 0 2 A,.var [.sl 7 0 0 (L.length+1)],.row 0 2 X,.var [.sl 4 1 0 (L.length+1)],.row 1 2 ((L++[m]).map Ze),.var [.int .i64 m.1,.int .i64 m.2],.free,.row 0 2 (L.map Ze++[.agg [.int .i64 m.1,.int .i64 m.2]])],{ any:=true,upd:=[(3,[.sl 4 1 0 (L.length+1)])] }):=by
 have h1:=ZhJ (L++[m]) (by simp;omega) m
 rw [show (L++[m]).contains m=true by simp] at h1
 unfold sL at h1
 rw [show (L++[m]).length=L.length+1 by simp] at h1
 exact Zby (O:=E) (bf:=BY) (σ:=[.row 0 2 A,.var [.sl 7 0 0 (L.length+1)],.row 0 2 X,.var [.sl 4 1 0 (L.length+1)],.row 1 2 ((L++[m]).map Ze),.var [.int .i64 m.1,.int .i64 m.2],.free,.row 0 2 (L.map Ze++[.agg [.int .i64 m.1,.int .i64 m.2]])]) (sq:=8) (own:=0) (f:=17) (view:=true) (args:=[.ref 3 0,.agg [.int .i64 m.1,.int .i64 m.2]]) (vs:=[.ref 3 0,.agg [.int .i64 m.1,.int .i64 m.2]]) (vs':=[.ref 0 0,.agg [.int .i64 m.1,.int .i64 m.2]]) (ids:=[3,4]) (h0:=[.var [.sl 1 0 0 (L.length+1)],.row 0 2 ((L++[m]).map Ze)]) (h:=[.var [.sl 1 0 0 (L.length+1)],.row 0 2 ((L++[m]).map Ze)]) (r:=.bool true) (by kernel_rfl) rfl rfl rfl rfl rfl rfl (by rw [h1];rfl) (Xo rfl) (Xo rfl) rfl rfl rfl rfl rfl
theorem ZLZ (A:List AVal) (off:Nat) (X:List AVal) (L:List (Int×Int)) (hl:L.length<=32) (m:Int×Int) (h32:L.length=32):Zi E BY [.row 0 2 A,.var [.sl 7 0 1 32],.row 0 2 X,.var [.sl 6 0 0 32],.row 1 2 ((L++[m]).map Ze),.var [.int .i64 m.1,.int .i64 m.2],.row 0 2 (((L++[m]).drop 1).map Ze),.row 0 2 (L.map Ze++[.agg [.int .i64 m.1,.int .i64 m.2]])] 8 17 0 true [.ref 3 0,.agg [.int .i64 m.1,.int .i64 m.2]]=some (.bool true,[.row 0 2 A,.var [.sl 7 0 1 32],.row 0 2 X,.var [.sl 6 0 0 32],.row 1 2 ((L++[m]).map Ze),.var [.int .i64 m.1,.int .i64 m.2],.row 0 2 (((L++[m]).drop 1).map Ze),.row 0 2 (L.map Ze++[.agg [.int .i64 m.1,.int .i64 m.2]])],{ any:=true,upd:=[(3,[.sl 6 0 0 32])] }):=by
 have h1:=ZhJ ((L++[m]).drop 1) (by simp;omega) m
 rw [show ((L++[m]).drop 1).contains m=true by rw [List.drop_append_of_le_length (by omega)];simp] at h1
 unfold sL at h1
 rw [show ((L++[m]).drop 1).length=32 by simp;omega] at h1
 exact Zby (O:=E) (bf:=BY) (σ:=[.row 0 2 A,.var [.sl 7 0 1 32],.row 0 2 X,.var [.sl 6 0 0 32],.row 1 2 ((L++[m]).map Ze),.var [.int .i64 m.1,.int .i64 m.2],.row 0 2 (((L++[m]).drop 1).map Ze),.row 0 2 (L.map Ze++[.agg [.int .i64 m.1,.int .i64 m.2]])]) (sq:=8) (own:=0) (f:=17) (view:=true) (args:=[.ref 3 0,.agg [.int .i64 m.1,.int .i64 m.2]]) (vs:=[.ref 3 0,.agg [.int .i64 m.1,.int .i64 m.2]]) (vs':=[.ref 0 0,.agg [.int .i64 m.1,.int .i64 m.2]]) (ids:=[3,6]) (h0:=[.var [.sl 1 0 0 32],.row 0 2 (((L++[m]).drop 1).map Ze)]) (h:=[.var [.sl 1 0 0 32],.row 0 2 (((L++[m]).drop 1).map Ze)]) (r:=.bool true) (by kernel_rfl) rfl rfl rfl rfl rfl rfl (by rw [h1];rfl) (Xo rfl) (Xo rfl) rfl rfl rfl rfl rfl
theorem ZJG (m:Int×Int):Zi E BY [.var [.lst true []],.var [.lst true []],.var [.int .i64 m.1,.int .i64 m.2]] 3 17 0 true [.ref 1 0,.agg [.int .i64 m.1,.int .i64 m.2]]=some (.bool false,[.var [.lst true []],.var [.lst true []],.var [.int .i64 m.1,.int .i64 m.2]],{ any:=true,upd:=[(1,[.lst true []])] }):=by
 have h1:=Zvy m
 unfold sN at h1
 exact Zby (O:=E) (bf:=BY) (σ:=[.var [.lst true []],.var [.lst true []],.var [.int .i64 m.1,.int .i64 m.2]]) (sq:=3) (own:=0) (f:=17) (view:=true) (args:=[.ref 1 0,.agg [.int .i64 m.1,.int .i64 m.2]]) (vs:=[.ref 1 0,.agg [.int .i64 m.1,.int .i64 m.2]]) (vs':=[.ref 0 0,.agg [.int .i64 m.1,.int .i64 m.2]]) (ids:=[1]) (h0:=[.var [.lst true []]]) (h:=[.var [.lst true []]]) (r:=.bool false) (by kernel_rfl) rfl rfl rfl rfl rfl rfl (by rw [h1];rfl) (Xo rfl) (Xo rfl) rfl rfl rfl rfl rfl
theorem ZNv (m:Int×Int):Zi E BY [.var [.lst true []],.var [.lst true []],.var [.int .i64 m.1,.int .i64 m.2],.free] 3 18 1 true [.ref 1 0,.agg [.int .i64 m.1,.int .i64 m.2]]=some (.bool true,[.var [.lst true []],.var [.sl 3 0 0 1],.var [.int .i64 m.1,.int .i64 m.2],.row 0 2 [.agg [.int .i64 m.1,.int .i64 m.2]]],{ any:=true,upd:=[(1,[.sl 3 0 0 1])] }):=by
 have h1:=Zte m
 unfold sN sL at h1
 exact Zby (O:=E) (bf:=BY) (σ:=[.var [.lst true []],.var [.lst true []],.var [.int .i64 m.1,.int .i64 m.2],.free]) (sq:=3) (own:=1) (f:=18) (view:=true) (args:=[.ref 1 0,.agg [.int .i64 m.1,.int .i64 m.2]]) (vs:=[.ref 1 0,.agg [.int .i64 m.1,.int .i64 m.2]]) (vs':=[.ref 0 0,.agg [.int .i64 m.1,.int .i64 m.2]]) (ids:=[1]) (h0:=[.var [.lst true []]]) (h:=[.var [.sl 1 0 0 1],.row 0 2 [.agg [.int .i64 m.1,.int .i64 m.2]]]) (r:=.bool true) (by kernel_rfl) rfl rfl rfl rfl rfl rfl (by rw [h1];rfl) (Xo rfl) (Xo rfl) rfl rfl rfl rfl rfl
theorem Zyq (m:Int×Int):Zi E BY [.var [.lst true []],.var [.sl 3 0 0 1],.var [.int .i64 m.1,.int .i64 m.2],.row 0 2 [.agg [.int .i64 m.1,.int .i64 m.2]],.free] 4 19 1 true [.ref 0 0,.agg [.int .i64 m.1,.int .i64 m.2]]=some (.bool true,[.var [.sl 4 0 0 1],.var [.sl 3 0 0 1],.var [.int .i64 m.1,.int .i64 m.2],.row 0 2 [.agg [.int .i64 m.1,.int .i64 m.2]],.row 0 2 [.agg [.int .i64 m.1,.int .i64 m.2]]],{ any:=true,upd:=[(0,[.sl 4 0 0 1])] }):=by
 have h1:=ZNa m
 unfold sN sL at h1
 exact Zby (O:=E) (bf:=BY) (σ:=[.var [.lst true []],.var [.sl 3 0 0 1],.var [.int .i64 m.1,.int .i64 m.2],.row 0 2 [.agg [.int .i64 m.1,.int .i64 m.2]],.free]) (sq:=4) (own:=1) (f:=19) (view:=true) (args:=[.ref 0 0,.agg [.int .i64 m.1,.int .i64 m.2]]) (vs:=[.ref 0 0,.agg [.int .i64 m.1,.int .i64 m.2]]) (vs':=[.ref 0 0,.agg [.int .i64 m.1,.int .i64 m.2]]) (ids:=[0]) (h0:=[.var [.lst true []]]) (h:=[.var [.sl 1 0 0 1],.row 0 2 [.agg [.int .i64 m.1,.int .i64 m.2]]]) (r:=.bool true) (by kernel_rfl) rfl rfl rfl rfl rfl rfl (by rw [h1];rfl) (Xo rfl) (Xo rfl) rfl rfl rfl rfl rfl
theorem ZGo (m:Int×Int):Zi E BY [.var [.sl 4 0 0 1],.var [.sl 3 0 0 1],.var [.int .i64 m.1,.int .i64 m.2],.row 0 2 [.agg [.int .i64 m.1,.int .i64 m.2]],.row 0 2 [.agg [.int .i64 m.1,.int .i64 m.2]]] 5 17 0 true [.ref 1 0,.agg [.int .i64 m.1,.int .i64 m.2]]=some (.bool true,[.var [.sl 4 0 0 1],.var [.sl 3 0 0 1],.var [.int .i64 m.1,.int .i64 m.2],.row 0 2 [.agg [.int .i64 m.1,.int .i64 m.2]],.row 0 2 [.agg [.int .i64 m.1,.int .i64 m.2]]],{ any:=true,upd:=[(1,[.sl 3 0 0 1])] }):=by
 have h1:=ZhJ [m] (by simp) m
 rw [show [m].contains m=true by simp] at h1
 change E 17 [.ref 0 0,.agg [.int .i64 m.1,.int .i64 m.2]] [.var [.sl 1 0 0 1],.row 0 2 [.agg [.int .i64 m.1,.int .i64 m.2]]]=some (.bool true,[.var [.sl 1 0 0 1],.row 0 2 [.agg [.int .i64 m.1,.int .i64 m.2]]]) at h1
 exact Zby (O:=E) (bf:=BY) (σ:=[.var [.sl 4 0 0 1],.var [.sl 3 0 0 1],.var [.int .i64 m.1,.int .i64 m.2],.row 0 2 [.agg [.int .i64 m.1,.int .i64 m.2]],.row 0 2 [.agg [.int .i64 m.1,.int .i64 m.2]]]) (sq:=5) (own:=0) (f:=17) (view:=true) (args:=[.ref 1 0,.agg [.int .i64 m.1,.int .i64 m.2]]) (vs:=[.ref 1 0,.agg [.int .i64 m.1,.int .i64 m.2]]) (vs':=[.ref 0 0,.agg [.int .i64 m.1,.int .i64 m.2]]) (ids:=[1,3]) (h0:=[.var [.sl 1 0 0 1],.row 0 2 [.agg [.int .i64 m.1,.int .i64 m.2]]]) (h:=[.var [.sl 1 0 0 1],.row 0 2 [.agg [.int .i64 m.1,.int .i64 m.2]]]) (r:=.bool true) (by kernel_rfl) rfl rfl rfl rfl rfl rfl (by rw [h1];rfl) (Xo rfl) (Xo rfl) rfl rfl rfl rfl rfl
def mkM (z:Int):Int×Int:=(IntKind.i64.wrap (1+IntKind.i64.wrap (XB IntKind.i64.bits z &&& XB IntKind.i64.bits 1).toNat),IntKind.i64.wrap (XB IntKind.i64.bits (z.fdiv (2 ^ min (WB 1) IntKind.i64.bits)) &&& XB IntKind.i64.bits 63).toNat)
theorem ZON (l:List Int) (i:Nat) (z:Int) (hz:l[i]?=some z) (hi:(i:Int) < 120):evL FC PR1 BY 0 [6,5,4,3,0] ZcB [(6,.int .i64 ((i:Int))),(5,.lst true []),(4,.ref 0 0),(3,.ref 1 0),(0,.lst false (l.map (AVal.int .i64 ·)))] [.var [.lst true []],.var [.lst true []]]=evL FC PR1 BY 0 [6,5,4,3,0] ZcB [(6,.int .i64 (((i+1:Nat):Int))),(5,.sl 0 0 0 1),(4,.ref 1 0),(3,.ref 3 0),(0,.lst false (l.map (AVal.int .i64 ·)))] [.row 0 2 [.agg [.int .i64 (mkM z).1,.int .i64 (mkM z).2]],.var [.sl 2 0 0 1],.row 0 2 [.agg [.int .i64 (mkM z).1,.int .i64 (mkM z).2]],.var [.sl 4 0 0 1],.row 0 2 [.agg [.int .i64 (mkM z).1,.int .i64 (mkM z).2]]]:=by
 have hlt:i < l.length:=(Xl.1 hz).1
 have h0:(i:Int) < (l.length:Int):=by omega
 have hw:IntKind.i64.wrap ((i:Int)+1)=((i+1:Nat):Int):=by rw [ZbO (by omega) (by omega)];rfl
 have ha:=fun σ kk=>iad hz (AVal.int .i64 ·) (k:=1) rfl σ false kk
 have hL:(l.map (AVal.int .i64 ·)).length=l.length:=by simp
 obtain ⟨m,hmk⟩:∃ m,m=mkM z:=⟨_,rfl⟩
 have hm1:IntKind.i64.wrap (1+IntKind.i64.wrap (XB IntKind.i64.bits z &&& XB IntKind.i64.bits 1).toNat)=m.1:=by rw [hmk];rfl
 have hm2:IntKind.i64.wrap (XB IntKind.i64.bits (z.fdiv (2 ^ min (WB 1) IntKind.i64.bits)) &&& XB IntKind.i64.bits 63).toNat=m.2:=by rw [hmk];rfl
 have hv:∀ σ:Za,viewAs σ [.agg [.int .i64 m.1,.int .i64 m.2]]=some ([.agg [.int .i64 m.1,.int .i64 m.2]],[]):=fun _=>rfl
 have hk:kOk 2 [.agg [.int .i64 m.1,.int .i64 m.2]]=true:=rfl
 have h10:¬(1:Int) < 0:=by decide
 have e1:((true == true) != true)=false:=rfl
 have e2:((false == false) != true)=false:=rfl
 have e3:((true == false) != false)=false:=rfl
 have e4:((false == true) != false)=false:=rfl
 have hC1:=ZaK (ZJG m)
 have hC2:=ZaK (ZNv m)
 have hC3:=ZaK (Zyq m)
 have hC4:=ZaK (ZGo m)
 have b1:1*16<=140737488355328:=by decide
 rw [<-hmk]
 clear hmk
 generalize l.map (AVal.int .i64 ·)=LS at *
 rw [ZX]
 simp -implicitDefEqProofs only [EQA,Za6,ZT,Zbk,Xe,Xc,Xf,Xb,Xg,ZaB,unA,ZE,unG,reduceCtorEq,ZR,↓reduceIte,gcT,gcA,Zy,Zu,Zk,Zr,ZO,Zo,ZJ,ZB,ZG,ZeW,Zf9,h10,h0,hi,hw,ha,hL,hm1,hm2,hv,hk,e4,hC1,hC2,hC3,hC4,b1,Zam,ZS,AVal.cells,Zn,Zay,Xah,Z0,Z4,Z7,Zak,Zaj,Zah,Zar,Zal,Z6]
theorem ZE8 (l:List Int) (i:Nat) (z:Int) (hz:l[i]?=some z) (hi:(i:Int) < 120) (A:List AVal) (k:Nat) (hA:A.length=k) (hk16:k<=1000000) (off:Nat) (X:List AVal) (L:List (Int×Int)) (hl:L.length<=32) (hX:X.drop off=L.map Ze) (ho:off<=X.length) (hm:L.contains (mkM z)=true):evL FC PR1 BY 0 [6,5,4,3,0] ZcB [(6,.int .i64 ((i:Int))),(5,.sl 0 0 0 k),(4,.ref 1 0),(3,.ref 3 0),(0,.lst false (l.map (AVal.int .i64 ·)))] [.row 0 2 (A),.var [.sl 2 0 off L.length],.row 0 2 (X),.var [.sl 4 0 0 L.length],.row 0 2 (L.map Ze)]=evL FC PR1 BY 0 [6,5,4,3,0] ZcB [(6,.int .i64 (((i+1:Nat):Int))),(5,.sl 0 0 0 (k+1)),(4,.ref 1 0),(3,.ref 3 0),(0,.lst false (l.map (AVal.int .i64 ·)))] [.row 0 2 (A++[.agg [.int .i64 (mkM z).1,.int .i64 (mkM z).2]]),.var [.sl 2 0 off L.length],.row 0 2 (X),.var [.sl 4 0 0 L.length],.row 0 2 (L.map Ze)]:=by
 have hlt:i < l.length:=(Xl.1 hz).1
 have h0:(i:Int) < (l.length:Int):=by omega
 have hw:IntKind.i64.wrap ((i:Int)+1)=((i+1:Nat):Int):=by rw [ZbO (by omega) (by omega)];rfl
 have ha:=fun σ kk=>iad hz (AVal.int .i64 ·) (k:=1) rfl σ false kk
 have hL:(l.map (AVal.int .i64 ·)).length=l.length:=by simp
 obtain ⟨m,hmk⟩:∃ m,m=mkM z:=⟨_,rfl⟩
 have hm1:IntKind.i64.wrap (1+IntKind.i64.wrap (XB IntKind.i64.bits z &&& XB IntKind.i64.bits 1).toNat)=m.1:=by rw [hmk];rfl
 have hm2:IntKind.i64.wrap (XB IntKind.i64.bits (z.fdiv (2 ^ min (WB 1) IntKind.i64.bits)) &&& XB IntKind.i64.bits 63).toNat=m.2:=by rw [hmk];rfl
 have hv:∀ σ:Za,viewAs σ [.agg [.int .i64 m.1,.int .i64 m.2]]=some ([.agg [.int .i64 m.1,.int .i64 m.2]],[]):=fun _=>rfl
 have hk:kOk 2 [.agg [.int .i64 m.1,.int .i64 m.2]]=true:=rfl
 have h10:¬(1:Int) < 0:=by decide
 have e1:((true == true) != true)=false:=rfl
 have e2:((false == false) != true)=false:=rfl
 have e3:((true == false) != false)=false:=rfl
 have e4:((false == true) != false)=false:=rfl
 rw [<-hmk] at hm
 have hC1:=ZaK (ZqY A off X L hl m)
 rw [hm] at hC1
 have hC2:=ZaK (ZGL A off X L hl m hm)
 have hC3:=ZaK (ZDZ A off X L hl m hX ho hm)
 have hC4:=ZaK (ZLm A off X L hl m hm)
 have b1:(k+1)*16<=140737488355328:=by omega
 rw [<-hmk]
 clear hmk
 generalize l.map (AVal.int .i64 ·)=LS at *
 generalize L.map Ze=S at *
 rw [ZX]
 simp -implicitDefEqProofs only [EQA,Za6,ZT,Zbk,Xe,Xc,Xf,Xb,Xg,ZaB,unA,ZE,unG,reduceCtorEq,ZR,↓reduceIte,gcT,gcA,Zy,Zu,Zk,Zr,ZO,Zo,ZJ,ZB,ZG,ZeW,Zf9,h10,h0,hi,hw,ha,hL,hm1,hm2,hv,hk,e3,hC1,hC2,hC3,hC4,b1,hA,Zam,ZS,AVal.cells,Zn,Zay,Z0,Z4,Z7,Zak,Zaj,Zah,Zar,Zal,Z6]
theorem ZJI (l:List Int) (i:Nat) (z:Int) (hz:l[i]?=some z) (hi:(i:Int) < 120) (A:List AVal) (k:Nat) (hA:A.length=k) (hk16:k<=1000000) (off:Nat) (X:List AVal) (L:List (Int×Int)) (hl:L.length<=32) (hX:X.drop off=L.map Ze) (ho:off<=X.length) (hm:L.contains (mkM z)=false) (h32:L.length < 32):evL FC PR1 BY 0 [6,5,4,3,0] ZcB [(6,.int .i64 ((i:Int))),(5,.sl 0 0 0 k),(4,.ref 1 0),(3,.ref 3 0),(0,.lst false (l.map (AVal.int .i64 ·)))] [.row 0 2 (A),.var [.sl 2 0 off L.length],.row 0 2 (X),.var [.sl 4 0 0 L.length],.row 0 2 (L.map Ze)]=evL FC PR1 BY 0 [6,5,4,3,0] ZcB [(6,.int .i64 (((i+1:Nat):Int))),(5,.sl 0 0 0 (k+1)),(4,.ref 1 0),(3,.ref 3 0),(0,.lst false (l.map (AVal.int .i64 ·)))] [.row 0 2 (A++[.agg [.int .i64 (mkM z).1,.int .i64 (mkM z).2]]),.var [.sl 2 0 0 (L.length+1)],.row 0 2 (L.map Ze++[.agg [.int .i64 (mkM z).1,.int .i64 (mkM z).2]]),.var [.sl 4 0 0 (L.length+1)],.row 0 2 ((L++[mkM z]).map Ze)]:=by
 have hlt:i < l.length:=(Xl.1 hz).1
 have h0:(i:Int) < (l.length:Int):=by omega
 have hw:IntKind.i64.wrap ((i:Int)+1)=((i+1:Nat):Int):=by rw [ZbO (by omega) (by omega)];rfl
 have ha:=fun σ kk=>iad hz (AVal.int .i64 ·) (k:=1) rfl σ false kk
 have hL:(l.map (AVal.int .i64 ·)).length=l.length:=by simp
 obtain ⟨m,hmk⟩:∃ m,m=mkM z:=⟨_,rfl⟩
 have hm1:IntKind.i64.wrap (1+IntKind.i64.wrap (XB IntKind.i64.bits z &&& XB IntKind.i64.bits 1).toNat)=m.1:=by rw [hmk];rfl
 have hm2:IntKind.i64.wrap (XB IntKind.i64.bits (z.fdiv (2 ^ min (WB 1) IntKind.i64.bits)) &&& XB IntKind.i64.bits 63).toNat=m.2:=by rw [hmk];rfl
 have hv:∀ σ:Za,viewAs σ [.agg [.int .i64 m.1,.int .i64 m.2]]=some ([.agg [.int .i64 m.1,.int .i64 m.2]],[]):=fun _=>rfl
 have hk:kOk 2 [.agg [.int .i64 m.1,.int .i64 m.2]]=true:=rfl
 have h10:¬(1:Int) < 0:=by decide
 have e1:((true == true) != true)=false:=rfl
 have e2:((false == false) != true)=false:=rfl
 have e3:((true == false) != false)=false:=rfl
 have e4:((false == true) != false)=false:=rfl
 rw [<-hmk] at hm
 have hC1:=ZaK (ZqY A off X L hl m)
 rw [hm] at hC1
 have hC2:=ZaK (Zxb A off X L hl m hm h32)
 have hC3:=ZaK (ZF2 A off X L hl m hX ho hm h32)
 have hC4:=ZaK (ZDm A off X L hl m)
 have b1:(k+1)*16<=140737488355328:=by omega
 rw [<-hmk]
 clear hmk
 generalize l.map (AVal.int .i64 ·)=LS at *
 generalize (L++[m]).map Ze=S1 at *
 generalize L.map Ze=S at *
 rw [ZX]
 simp -implicitDefEqProofs only [EQA,Za6,ZT,Zbk,Xe,Xc,Xf,Xb,Xg,ZaB,unA,ZE,unG,reduceCtorEq,ZR,↓reduceIte,gcT,gcA,Zy,Zu,Zk,Zr,ZO,Zo,ZJ,ZB,ZG,ZeW,Zf9,h10,h0,hi,hw,ha,hL,hm1,hm2,hv,hk,e4,hC1,hC2,hC3,hC4,b1,hA,Zam,ZS,AVal.cells,Zn,Zay,Z0,Z4,Z7,Zak,Zaj,Zah,Zar,Zal,Z6]
theorem ZzU (l:List Int) (i:Nat) (z:Int) (hz:l[i]?=some z) (hi:(i:Int) < 120) (A:List AVal) (k:Nat) (hA:A.length=k) (hk16:k<=1000000) (off:Nat) (X:List AVal) (L:List (Int×Int)) (hl:L.length<=32) (hX:X.drop off=L.map Ze) (ho:off<=X.length) (hm:L.contains (mkM z)=false) (h32:L.length=32):evL FC PR1 BY 0 [6,5,4,3,0] ZcB [(6,.int .i64 ((i:Int))),(5,.sl 0 0 0 k),(4,.ref 1 0),(3,.ref 3 0),(0,.lst false (l.map (AVal.int .i64 ·)))] [.row 0 2 (A),.var [.sl 2 0 off L.length],.row 0 2 (X),.var [.sl 4 0 0 L.length],.row 0 2 (L.map Ze)]=evL FC PR1 BY 0 [6,5,4,3,0] ZcB [(6,.int .i64 (((i+1:Nat):Int))),(5,.sl 0 0 0 (k+1)),(4,.ref 1 0),(3,.ref 3 0),(0,.lst false (l.map (AVal.int .i64 ·)))] [.row 0 2 (A++[.agg [.int .i64 (mkM z).1,.int .i64 (mkM z).2]]),.var [.sl 2 0 1 32],.row 0 2 (L.map Ze++[.agg [.int .i64 (mkM z).1,.int .i64 (mkM z).2]]),.var [.sl 4 0 0 32],.row 0 2 (((L++[mkM z]).drop 1).map Ze)]:=by
 have hlt:i < l.length:=(Xl.1 hz).1
 have h0:(i:Int) < (l.length:Int):=by omega
 have hw:IntKind.i64.wrap ((i:Int)+1)=((i+1:Nat):Int):=by rw [ZbO (by omega) (by omega)];rfl
 have ha:=fun σ kk=>iad hz (AVal.int .i64 ·) (k:=1) rfl σ false kk
 have hL:(l.map (AVal.int .i64 ·)).length=l.length:=by simp
 obtain ⟨m,hmk⟩:∃ m,m=mkM z:=⟨_,rfl⟩
 have hm1:IntKind.i64.wrap (1+IntKind.i64.wrap (XB IntKind.i64.bits z &&& XB IntKind.i64.bits 1).toNat)=m.1:=by rw [hmk];rfl
 have hm2:IntKind.i64.wrap (XB IntKind.i64.bits (z.fdiv (2 ^ min (WB 1) IntKind.i64.bits)) &&& XB IntKind.i64.bits 63).toNat=m.2:=by rw [hmk];rfl
 have hv:∀ σ:Za,viewAs σ [.agg [.int .i64 m.1,.int .i64 m.2]]=some ([.agg [.int .i64 m.1,.int .i64 m.2]],[]):=fun _=>rfl
 have hk:kOk 2 [.agg [.int .i64 m.1,.int .i64 m.2]]=true:=rfl
 have h10:¬(1:Int) < 0:=by decide
 have e1:((true == true) != true)=false:=rfl
 have e2:((false == false) != true)=false:=rfl
 have e3:((true == false) != false)=false:=rfl
 have e4:((false == true) != false)=false:=rfl
 rw [<-hmk] at hm
 have hC1:=ZaK (ZqY A off X L hl m)
 rw [hm] at hC1
 have hC2:=ZaK (ZGA A off X L hl m hm h32)
 have hC3:=ZaK (ZBm A off X L hl m hX ho hm h32)
 have hC4:=ZaK (ZLZ A off X L hl m h32)
 have b1:(k+1)*16<=140737488355328:=by omega
 rw [<-hmk]
 clear hmk
 generalize l.map (AVal.int .i64 ·)=LS at *
 generalize ((L++[m]).drop 1).map Ze=D at *
 generalize (L++[m]).map Ze=S1 at *
 generalize L.map Ze=S at *
 rw [ZX]
 simp -implicitDefEqProofs only [EQA,Za6,ZT,Zbk,Xe,Xc,Xf,Xb,Xg,ZaB,unA,ZE,unG,reduceCtorEq,ZR,↓reduceIte,gcT,gcA,Zy,Zu,Zk,Zr,ZO,Zo,ZJ,ZB,ZG,ZeW,Zf9,h10,h0,hi,hw,ha,hL,hm1,hm2,hv,hk,e4,hC1,hC2,hC3,hC4,b1,hA,Zam,ZS,AVal.cells,Zn,Zay,Z0,Z4,Z7,Zak,Zaj,Zah,Zar,Zal,Z6]
end
end Go.Proofs.YtfemfbchakdidaaGreatDoor
