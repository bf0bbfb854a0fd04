/- packed -/
import Derived.Test.YtmlkhhidifjjfaaDoorMl3
import Derived.Test.YtmlkhhidifjjfaaDoorMl2
import Derived.Defers
import Derived.Recover
import Derived.Tactics
import Derived.Test.YtmlkhhidifjjfaaDoorProg
import Derived.Shelf.Unicode.ValidAny
import Derived.Lib.TrimAscii
set_option linter.defProp false
set_option linter.unusedSectionVars false
set_option linter.unusedSimpArgs false
set_option linter.unusedVariables false
namespace Go.Proofs.YtmlkhhidifjjfaaDoor
set_option maxHeartbeats 16000000
set_option maxRecDepth 10000
section
section
variable {σ:Za} {cs xs:List AVal} {g w:Nat}
theorem Zrn {t r:Nat} (hs:σ[t]?=some (.var cs)) (hr:σ[r]?=some (.row g w xs)) (htr:t≠r) (hrf:Zp cs=[r]):Zu σ 1000 [t] []=[t,r]:=by
 have h1:σ.getD t .free=.var cs:=by simp [List.getD_eq_getElem?_getD,hs]
 have h2:σ.getD r .free=.row g w xs:=by simp [List.getD_eq_getElem?_getD,hr]
 have e1:([]:List Nat).contains t=false:=rfl
 have e2:([t]:List Nat).contains r=false:=by simp;exact fun e=>htr e.symm
 rw [show (1000:Nat)=997+1+1+1 from rfl,Zu,e1]
 simp only [Bool.false_eq_true,if_false,h1,ZC,hrf,List.append_nil,List.nil_append]
 rw [Zu,e2]
 simp only [Bool.false_eq_true,if_false,h2,ZC,List.nil_append]
 rfl
theorem Zuf {r:AVal} {σ:Za} (hr:ZQ r=true) (hrf:Zp cs=[1]) (hg:g<=1) (hren:∀ ρ:Rho,ρ 1 g=some (1,g)->Zf ρ cs=cs):gcA 2 [r] (.var cs::.row g w xs::σ)=([r],[.var cs,.row g w xs]):=by
 have e1:=(Za7 (Zj (.var cs::.row g w xs::σ) 2 [0,1]) r hr)
 have h1:Zv 2 [r] (.var cs::.row g w xs::σ)=[0,1]:=by
  have : Zp [r]=[]:=by simp only [Zp,e1.2,List.append_nil]
  have hR:List.range 2=[0,1]:=rfl
  simp only [Zv,this,List.nil_append,hR,List.flatMap_cons,List.flatMap_nil,List.append_nil,List.getD_cons_zero,List.getD_cons_succ,ZC,hrf]
  rfl
 have hng:(if g=0 then 0 else 1)=g:=by split <;> omega
 have hρ:Zj (.var cs::.row g w xs::σ) 2 [0,1] 1 g=some (1,g):=by
  simp only [Zj,ZJ,Zl,ZE,List.getElem?_cons_succ,List.getElem?_cons_zero]
  simp [hng]
 simp only [gcA,h1,Zf,e1.1,Zr,List.getD_cons_zero,List.getD_cons_succ,ZE,Zl,Zw,hren _ hρ]
 simp [hng]
theorem ZoZ {r:AVal} {σ:Za} (hr:ZQ r=true) (hrf:Zp cs=[1]) (hg:g<=1) (hren:∀ ρ:Rho,ρ 1 g=some (1,g)->Zf ρ cs=cs):Z6 2 (.var cs::.row g w xs::σ) r=some (r,[.var cs,.row g w xs]):=by
 simp only [Z6,Zuf hr hrf hg hren]
end
theorem ZcC:∀ (a b:List AVal),Zp (a++b)=Zp a++Zp b
 | [],b=>by simp [Zp]
 | x::a,b=>by simp [Zp,ZcC a b,List.append_assoc]
theorem ZbP (ρ:Rho):∀ (a b:List AVal),Zf ρ (a++b)=Zf ρ a++Zf ρ b
 | [],b=>by simp [Zf]
 | x::a,b=>by simp [Zf,ZbP ρ a b]
theorem ZiY {v:AVal}:∀ {P:List AVal} {k:Nat},Zd P=true->k < P.length->Zp (P.set k v)=ZS v
 | [],_,_,h=>by simp at h
 | x::P,0,h,_=>by
  simp only [Zd,Bool.and_eq_true] at h
  simp only [List.set_cons_zero,Zp,(ZaW (fun _ _=>none) P h.2).2,List.append_nil]
 | x::P,k+1,h,hk=>by
  simp only [Zd,Bool.and_eq_true] at h
  simp only [List.set_cons_succ,Zp,(Za7 (fun _ _=>none) x h.1).2,List.nil_append]
  exact ZiY h.2 (by simpa using hk)
theorem Zju (ρ:Rho) {v:AVal}:∀ {P:List AVal} {k:Nat},Zd P=true->Zf ρ (P.set k v)=P.set k (Zm ρ v)
 | [],_,_=>by simp [Zf]
 | x::P,0,h=>by
  simp only [Zd,Bool.and_eq_true] at h
  simp only [List.set_cons_zero,Zf,(ZaW ρ P h.2).1]
 | x::P,k+1,h=>by
  simp only [Zd,Bool.and_eq_true] at h
  simp only [List.set_cons_succ,Zf,(Za7 ρ x h.1).1,Zju ρ h.2]
theorem ZJJ {σ:Za} {t r g w w2 g2:Nat} {cs xs cs2 xs2:List AVal} (hs:σ[t]?=some (.var cs)) (hr:σ[r]?=some (.row g w xs)) (hg2:g2<=1):Za0 σ [t,r] [.var cs2,.row g2 w2 xs2] 0=true:=by
 have h1:σ.getD t .free=.var cs:=by simp [List.getD_eq_getElem?_getD,hs]
 have h2:σ.getD r .free=.row g w xs:=by simp [List.getD_eq_getElem?_getD,hr]
 simp [Za0,okB,Zce,Zl,hs,hr,hg2]
theorem ZgQ {O:ZU} {bf:Nat->Bool} {σ:Za} {t r f own g w g2 w2 sq:Nat} {view:Bool} {rest:List AVal} {cs cs1 cs2 cs3 xs xs2:List AVal} {q q':AVal} (hs:σ[t]?=some (.var cs)) (hr:σ[r]?=some (.row g w xs)) (htr:t≠r) (hrf:Zp cs=[r]) (hb:bf f=false) (hp:rest.all Zak=true)
  (hren:∀ ρ:Rho,ρ r g=some (1,0)->Zf ρ cs=cs1) (hg2:g2<=1) (hff:ZaX σ sq own=true) (hn:ZQ q'=true)
  (h:O f (.ref 0 0::rest.map ZM) [.var cs1,.row 0 w xs]=some (q,[.var cs2,.row g2 w2 xs2])) (hv:Zab view 2 (some (q,[.var cs2,.row g2 w2 xs2]))=some (q',[.var cs2,.row g2 w2 xs2]))
  (hback:∀ ρ:Rho,(∀ j,ρ 1 j=some (r,g+j))->Zf ρ cs2=cs3) :
  Zo O bf σ sq f own view (.ref t 0::rest)=some (q',(σ.set t (.var cs3)).set r (.row (g+g2) w2 xs2),{ any:=true,upd:=[(t,cs3)] }):=by
 have htl:t < σ.length:=by
  rcases Nat.lt_or_ge t σ.length with h | h
  ·exact h
  ·rw [List.getElem?_eq_none h] at hs;cases hs
 have h1:σ.getD t .free=.var cs:=by simp [List.getD_eq_getElem?_getD,hs]
 have h2:σ.getD r .free=.row g w xs:=by simp [List.getD_eq_getElem?_getD,hr]
 have hf0:Zq σ []=σ:=rfl
 have hsh:showAs σ (.ref t 0::rest)=some (.ref t 0::rest.map ZM,[]):=by
  rw [showAs,show showA σ (.ref t 0)=some (.ref t 0,[]) from rfl,Zed hp]
  rfl
 have href:Zp (.ref t 0::rest.map ZM)=[t]:=by
  rw [Zp,Zdu hp];rfl
 have hup:Za1 ((σ.set t (.var cs3)).set r (.row (g+g2) w2 xs2)) [t,r]=[(t,cs3)]:=by
  have e1:((σ.set t (.var cs3)).set r (.row (g+g2) w2 xs2))[t]?=some (.var cs3):=by
   rw [List.getElem?_set_ne (fun e=>htr e.symm),List.getElem?_set_self htl]
  have e2:((σ.set t (.var cs3)).set r (.row (g+g2) w2 xs2))[r]?=some (.row (g+g2) w2 xs2):=by
   rw [List.getElem?_set_self (by
    rcases Nat.lt_or_ge r σ.length with h | h
    ·simpa using h
    ·rw [List.getElem?_eq_none h] at hr;cases hr)]
  simp only [Za1,e1,e2]
 unfold Zo ZbO
 rw [hb]
 simp only [Bool.false_eq_true,if_false,hsh,hf0,href,Zrn hs hr htr hrf]
 unfold Zbz
 have hall:([t,r].all fun t=>okB (σ.getD t .free))=true:=by simp only [List.all_cons,List.all_nil,h1,h2,okB,Bool.and_true]
 rw [if_pos hall]
 have hρt:Zj σ 0 [t,r] t 0=some (0,0):=by simp [Zj,ZJ,hs,Zl,ZE]
 have hρr:Zj σ 0 [t,r] r g=some (1,0):=by simp [Zj,ZJ,hr,Zl,ZE,htr]
 have hargs:Zf (Zj σ 0 [t,r]) (.ref t 0::rest.map ZM)=.ref 0 0::rest.map ZM:=by
  rw [Zf,ZdA hp]
  simp only [Zm,hρt]
 have hheap:Zr σ 0 [t,r] (Zj σ 0 [t,r]) [t,r] 0=[.var cs1,.row 0 w xs]:=by
  simp only [Zr,h1,h2,ZE,Zl,Zw,hren _ hρr]
  simp
 rw [hargs,hheap,h]
 rw [show [t,r].length=2 from rfl,hv]
 have hk:=ZJJ (cs2:=cs2) (w2:=w2) (xs2:=xs2) hs hr hg2
 have hb3:Zf (Zax σ [t,r] sq) cs2=cs3:=hback _ (fun j=>by simp only [Zax,List.getElem?_cons_succ,List.getElem?_cons_zero,h2,Zl])
 simp only [Zav,List.isEmpty_cons,Bool.false_eq_true,if_false,List.length_cons,List.length_nil,Nat.zero_add,Nat.reduceAdd,Nat.le_add_right,Nat.le_refl,decide_true,hk,hff,Bool.and_self,if_true,Za3,ZaF,List.getD_cons_zero,List.getD_cons_succ,Zb1,List.getElem?_cons_zero,List.getElem?_cons_succ,h2,Zl,Zw,(Za7 _ _ hn).1,hb3,hup]
end
section
theorem ZDX (l:List Zn):kOk 5 (l.map Zg)=true:=by cases l <;> rfl
theorem Zxz (l:List Zn) (h:l.length<=700000000):E 137 [.lst false (l.map Zg)] []=some (.sl 0 0 0 (l.map Zg).length,[.row 0 5 (l.map Zg)]):=by
 refine ZcO.2 ⟨1,?_⟩
 show ZeI 5 72 [.lst false (l.map Zg)] []=_
 have h1:(l.map Zg).length*72<=140737488355328/\kOk 5 (l.map Zg)=true:=⟨by simp;omega,ZDX l⟩
 simp only [ZeI,ZY]
 rw [if_pos h1];rfl
def ZeX (n:ZcW) (a b:Nat):List AVal:=[.str n.topic,.sl a 0 0 n.payload.length,.int .i64 n.qos,.bool n.retain,.str n.sender,.int .i64 n.expires,.sl b 0 0 n.props.length,.int .i64 n.origin,.int .i64 n.number,.int .i64 n.hops]
def Zke:List AVal:=[.str [],.lst true [],.int .i64 0,.bool false,.str [],.int .i64 0,.lst true [],.int .i64 0,.int .i64 0,.int .i64 0]
theorem Zvj (n:ZcW) (hl:n.props.length<=700000000) (hd:∀ p ∈ n.props,p.data.length<=140737488355328):∀ (r:List Zn) (i:Nat),n.props.drop i=r ->
  ZkH 0 [(15,.int .i64 i),(14,.int .i64 n.props.length),(2,.ref 0 0),(1,.ref 1 0)] [.var Zke,.var (ZeX n 2 3),.row 0 1 (n.payload.map Zc),.row 0 5 (n.props.map Zg)] =
  some (.agg (ZeX n 0 1),[.row 0 1 (n.payload.map Zc),.row 0 5 (n.props.map Zg)])
 | [],i,h=>by
  have h1:=Zcv h
  generalize n.payload.map Zc=L at *
  generalize n.props.map Zg=R at *
  unfold ZkH ZeX Zke
  rw [Z2]
  simp -implicitDefEqProofs only [EQA,Nat.reduceAdd,Nat.reduceLT,Nat.reduceLeDiff,Nat.reduceEqDiff,↓reduceIte,ZD7,Zy7,Zo8,Zvq,Zmh,oI,oN,h1,ZX,AVal.cells]
  simp [Z6,gcA,Zv,Zu,Zp,ZS,Zj,Zr,ZJ,Zl,ZE,Zf,Zm,Zw,ZC]
 | p::r,i,h=>by
  have ih:=Zvj n hl hd r (i+1) (Z4 h).2.1
  have hp:=hd p (List.mem_of_getElem? (Z4 h).1)
  have hC:=fun σ sq own=>Zki σ sq own p.data hp
  have h1:(i:Int) < n.props.length:=by have:=(Z4 h).2.2;omega
  have h2:i < n.props.length:=(Z4 h).2.2
  have h0:(0:Int)<=(i:Int):=by omega
  have hg:(n.props.map Zg)[i]?=some (.agg [.int .i64 p.id,.int .i64 p.num,.str p.text,.str p.pair,.lst false (p.data.map Zc)]):=by
   rw [List.getElem?_map,(Z4 h).1];rfl
  have hset:(n.props.map Zg).set i (.agg [.int .i64 p.id,.int .i64 p.num,.str p.text,.str p.pair,.lst false (p.data.map Zc)])=n.props.map Zg:=by
   apply List.ext_getElem?
   intro j
   rw [List.getElem?_set]
   by_cases e:i=j
   ·subst e;rw [if_pos rfl,if_pos (by simpa using h2),hg]
   ·simp [e]
  have hw:IntKind.i64.wrap ((i:Int)+1)=((i+1:Nat):Int):=by rw [Za6 (by omega) (by omega)];rfl
  have hn:((i:Nat):Int).toNat=i:=Int.toNat_natCast i
  generalize n.payload.map Zc=L at *
  generalize n.props.map Zg=R at *
  generalize p.data.map Zc=D at *
  unfold ZkH ZeX Zke at *
  rw [Z2]
  simp -implicitDefEqProofs only [EQA,ZV,Za2,Nat.reduceAdd,Nat.reduceLT,Nat.reduceLeDiff,Nat.reduceEqDiff,Nat.reduceBEq,reduceCtorEq,↓reduceIte,gcT,gcA,Zv,Zu,Zj,Zr,ZJ,Zl,ZE,Zw,ZC,Zvq,Zmh,oI,oN,h1,h0,h2,hg,hset,hC,hw,hn,Zdl,ZhE,Zas,ZL,Zq,ZX,AVal.cells,Zac,Zag,Zai,Zao,Zaq,Zal,List.lookup_nil]
  exact ih
end
section
section
variable (P:List AVal) (hP:P.length=26) (hF:Zp P=[1]) (hS:∀ ρ:Rho,ρ 1 0=some (1,0)->Zf ρ P=P) (w:Nat) (xs:List AVal)
include hP hF hS
theorem ZgH {r:AVal} (hr:ZQ r=true) (f:Bool) (ys:List AVal):Z6 2 [.var (P++[.lst f ys]),.row 0 w xs] r=some (r,[.var (P++[.lst f ys]),.row 0 w xs]) :=
 ZoZ hr (by rw [ZcC,hF];rfl) (by omega) (fun ρ h=>by rw [ZbP,hS ρ h];rfl)
theorem Zxc (l:Zb) (n:Nat) (hn:n<=l.length) (hl:l.length<=140737488355328):E 115 [.ref 0 0,.int .i64 (n:Nat)] [.var (P++[.lst false (l.map Zc)]),.row 0 w xs]=some (.int .i64 (Zhl (l.take n)),[.var (P++[.lst false ((l.drop n).map Zc)]),.row 0 w xs]):=by
 have h1:(l.length:Int)>=((n:Nat):Int):=by omega
 have s1:=fun σ kk=>Zje σ 1 l Zc kk (n:Int) (by omega) (by omega)
 have s2:=fun σ kk=>Zfy σ l kk (n:Int) (by omega) (by omega)
 have e2:((n:Int)).toNat=n:=rfl
 rw [e2] at s1 s2
 have ht:(l.take n).length<=9223372036854775807:=by simp;omega
 have hG:=fun σ sq own f=>Zj0 σ sq own (l.take n) ht f
 have a1:=Zaa P hP
 have a2:=Zat P hP
 have a3:=Zfd P hP
 have a4:=Zgf P hP
 have m1:=Zbe
 rw [Zh (by rfl) Zk8]
 simp -implicitDefEqProofs only [EQA,ZK,Nat.reduceAdd,Nat.reduceLT,Nat.reduceLeDiff,Nat.reduceEqDiff,reduceCtorEq,↓reduceIte,Zkn,Zih,ZvY,oI,oN,h1,s1,s2,hG,a1,a2,a3,a4,m1,Zhl]
 exact ZgH P hP hF hS w xs rfl _ _
theorem ZAN (l:Zb) (n:Nat) (hn:l.length < n) (hn':n<=9223372036854775807):E 115 [.ref 0 0,.int .i64 (n:Nat)] [.var (P++[.lst false (l.map Zc)]),.row 0 w xs]=some (.pan (ZB 129),[.var (P++[.lst false (l.map Zc)]),.row 0 w xs]):=by
 have h1:¬(l.length:Int)>=((n:Nat):Int):=by omega
 have a2:=Zat P hP
 have m1:=Zby
 rw [Zh (by rfl) Zk8]
 simp -implicitDefEqProofs only [EQA,Nat.reduceAdd,Nat.reduceLT,Nat.reduceEqDiff,reduceCtorEq,↓reduceIte,Zkn,Zih,oI,oN,h1,a2,m1]
 exact ZgH P hP hF hS w xs rfl _ _
theorem ZDv (l:Zb) (hl:l.length<=140737488355328) (h:(Zaf l).2.2=0):E 124 [.ref 0 0] [.var (P++[.lst false (l.map Zc)]),.row 0 w xs]=some (.str (Zaf l).1,[.var (P++[.lst false ((l.drop (Zaf l).2.1).map Zc)]),.row 0 w xs]):=by
 have hG:=fun σ sq own f=>Zhv σ sq own f l hl
 have hu:=(Zic l).1
 unfold gtT at hG
 have s2:=fun σ kk=>Zfy σ l kk ((Zaf l).2.1:Int) (by omega) (by omega)
 have e2:(((Zaf l).2.1:Nat):Int).toNat=(Zaf l).2.1:=rfl
 rw [e2] at s2
 rw [h] at hG
 have a1:=Zaa P hP
 have a2:=Zat P hP
 have a3:=Zfd P hP
 have a4:=Zgf P hP
 have m1:=Zbe
 rw [Zh (by rfl) Zkl]
 simp -implicitDefEqProofs only [EQA,ZK,Nat.reduceAdd,Nat.reduceLT,Nat.reduceLeDiff,Nat.reduceEqDiff,reduceCtorEq,↓reduceIte,Zll,Zib,ZvO,oI,oN,s2,hG,a1,a2,a3,a4,m1]
 exact ZgH P hP hF hS w xs rfl _ _
theorem ZNC (l:Zb) (hl:l.length<=140737488355328) (h:(Zaf l).2.2≠0):E 124 [.ref 0 0] [.var (P++[.lst false (l.map Zc)]),.row 0 w xs]=some (.pan (ZB 129),[.var (P++[.lst false (l.map Zc)]),.row 0 w xs]):=by
 have hG:=fun σ sq own f=>Zhv σ sq own f l hl
 unfold gtT at hG
 have h0:((Zaf l).2.2 == 0)=false:=by simpa using h
 have h1:=h
 have a2:=Zat P hP
 have m1:=Zby
 rw [Zh (by rfl) Zkl]
 simp -implicitDefEqProofs only [EQA,Nat.reduceAdd,Nat.reduceLT,Nat.reduceEqDiff,reduceCtorEq,↓reduceIte,Zll,Zib,oI,oN,hG,a2,h0,m1]
 exact ZgH P hP hF hS w xs rfl _ _
end
theorem ZmH {q:AVal} {cs xs:List AVal} {g w:Nat} (view:Bool) (hn:ZQ q=true) (hv:viewR [.var cs,.row g w xs] q=some (q,[])) (hrf:Zp cs=[1]) (hg:g<=1) (hren:∀ ρ:Rho,ρ 1 g=some (1,g)->Zf ρ cs=cs):Zab view 2 (some (q,[.var cs,.row g w xs]))=some (q,[.var cs,.row g w xs]):=by
 unfold Zab
 split
 ·have hnp:∀ x,q≠.pan x:=by rintro x rfl;simp [viewR,ZP,ZL] at hv
  rw [show Zbs 2 (some (q,[.var cs,.row g w xs]))=(match viewR [.var cs,.row g w xs] q with
   | some (r',ts)=>match gcA 2 [r'] (Zq [.var cs,.row g w xs] ts) with
    | ([r''],σ')=>some (r'',σ')
    | _=>none
   | none=>none) from by cases q <;> first | rfl | exact absurd rfl (hnp _)]
  rw [hv]
  simp only [show Zq [ZN.var cs,.row g w xs] []=[.var cs,.row g w xs] from rfl,Zuf hn hrf hg hren]
 ·rfl
theorem ZoN {x:AVal} {σ:Za} (view:Bool):Zab view 2 (some (.pan x,σ))=some (.pan x,σ):=by
 unfold Zab
 split <;> rfl
def Zk (Q:List AVal) (k r g n:Nat):List AVal:=Q.set k (.sl r g 0 n)
section
variable (Q:List AVal) (hQ:Q.length=26) (hN:Zd Q=true) (k:Nat) (hk:k < 26) (n:Nat)
include hQ hN hk
theorem Zb0 (r g:Nat):(Zk Q k r g n).length=26:=by simp [Zk,hQ]
theorem Zcj (r g:Nat):Zp (Zk Q k r g n)=[r]:=by
 unfold Zk
 rw [ZiY hN (by omega)]
 rfl
theorem ZbL {r g r' g':Nat} (ρ:Rho) (h:ρ r g=some (r',g')):Zf ρ (Zk Q k r g n)=Zk Q k r' g' n:=by
 unfold Zk
 rw [Zju ρ hN]
 simp only [Zm,h]
variable (w:Nat) (xs:List AVal) (l:Zb) (hl:l.length<=140737488355328) (σ:Za) (t r g sq:Nat) (htr:t≠r) (hs:σ[t]?=some (.var (Zk Q k r g n++[.lst false (l.map Zc)]))) (hr:σ[r]?=some (.row g w xs))
include hl htr hs hr
theorem ZkD {c:Nat} {m a:Int} {l2:Zb} (hm:((c:Nat):Int)=m) (h:ZaG c l=.ok (a,l2)):Zo E BY σ sq 115 0 true [.ref t 0,.int .i64 m]=some (.int .i64 a,(σ.set t (.var (Zk Q k r g n++[.lst false (l2.map Zc)]))).set r (.row g w xs),{ any:=true,upd:=[(t,Zk Q k r g n++[.lst false (l2.map Zc)])] }):=by
 subst hm
 unfold ZaG at h
 split at h
 ·cases h
 ·injection h with h;injection h with h1 h2;subst h1 h2
  have e:=Zxc (Zk Q k 1 0 n) (Zb0 Q hQ hN k hk n 1 0) (Zcj Q hQ hN k hk n 1 0) (fun ρ h=>ZbL Q hQ hN k hk n ρ h) w xs l c (by omega) hl
  exact ZgQ (g2:=0) (own:=0) (rest:=[.int .i64 (c:Nat)]) hs hr htr (by rw [ZcC,Zcj Q hQ hN k hk n];rfl) (by kernel_rfl) rfl (fun ρ h=>by rw [ZbP,ZbL Q hQ hN k hk n ρ h];rfl) (by omega) rfl rfl e
   (ZmH true rfl rfl (by rw [ZcC,Zcj Q hQ hN k hk n];rfl) (by omega) (fun ρ h=>by rw [ZbP,ZbL Q hQ hN k hk n ρ h];rfl)) (fun ρ h=>by rw [ZbP,ZbL Q hQ hN k hk n ρ (h 0)];rfl)
theorem Zwl {c:Nat} {m e:Int} (hm:((c:Nat):Int)=m) (hc:c<=9223372036854775807) (h:ZaG c l=.error e):Zo E BY σ sq 115 0 true [.ref t 0,.int .i64 m]=some (.pan (ZB e),(σ.set t (.var (Zk Q k r g n++[.lst false (l.map Zc)]))).set r (.row g w xs),{ any:=true,upd:=[(t,Zk Q k r g n++[.lst false (l.map Zc)])] }):=by
 subst hm
 unfold ZaG at h
 split at h
 ·injection h with h;subst h
  have e:=ZAN (Zk Q k 1 0 n) (Zb0 Q hQ hN k hk n 1 0) (Zcj Q hQ hN k hk n 1 0) (fun ρ h=>ZbL Q hQ hN k hk n ρ h) w xs l c (by omega) hc
  exact ZgQ (g2:=0) (own:=0) (rest:=[.int .i64 (c:Nat)]) hs hr htr (by rw [ZcC,Zcj Q hQ hN k hk n];rfl) (by kernel_rfl) rfl (fun ρ h=>by rw [ZbP,ZbL Q hQ hN k hk n ρ h];rfl) (by omega) rfl rfl e
   (ZoN true) (fun ρ h=>by rw [ZbP,ZbL Q hQ hN k hk n ρ (h 0)];rfl)
 ·cases h
theorem Zne {a l2:Zb} (h:Zap l=.ok (a,l2)):Zo E BY σ sq 124 0 true [.ref t 0]=some (.str a,(σ.set t (.var (Zk Q k r g n++[.lst false (l2.map Zc)]))).set r (.row g w xs),{ any:=true,upd:=[(t,Zk Q k r g n++[.lst false (l2.map Zc)])] }):=by
 unfold Zap at h
 split at h
 ·rename_i h0
  injection h with h;injection h with h1 h2;subst h1 h2
  have e:=ZDv (Zk Q k 1 0 n) (Zb0 Q hQ hN k hk n 1 0) (Zcj Q hQ hN k hk n 1 0) (fun ρ h=>ZbL Q hQ hN k hk n ρ h) w xs l hl h0
  exact ZgQ (g2:=0) (own:=0) (rest:=[]) hs hr htr (by rw [ZcC,Zcj Q hQ hN k hk n];rfl) (by kernel_rfl) rfl (fun ρ h=>by rw [ZbP,ZbL Q hQ hN k hk n ρ h];rfl) (by omega) rfl rfl e
   (ZmH true rfl rfl (by rw [ZcC,Zcj Q hQ hN k hk n];rfl) (by omega) (fun ρ h=>by rw [ZbP,ZbL Q hQ hN k hk n ρ h];rfl)) (fun ρ h=>by rw [ZbP,ZbL Q hQ hN k hk n ρ (h 0)];rfl)
 ·cases h
theorem Zsz {c:Int} (h:Zap l=.error c):Zo E BY σ sq 124 0 true [.ref t 0]=some (.pan (ZB c),(σ.set t (.var (Zk Q k r g n++[.lst false (l.map Zc)]))).set r (.row g w xs),{ any:=true,upd:=[(t,Zk Q k r g n++[.lst false (l.map Zc)])] }):=by
 unfold Zap at h
 split at h
 ·cases h
 ·rename_i h0
  injection h with h;subst h
  have e:=ZNC (Zk Q k 1 0 n) (Zb0 Q hQ hN k hk n 1 0) (Zcj Q hQ hN k hk n 1 0) (fun ρ h=>ZbL Q hQ hN k hk n ρ h) w xs l hl h0
  exact ZgQ (g2:=0) (own:=0) (rest:=[]) hs hr htr (by rw [ZcC,Zcj Q hQ hN k hk n];rfl) (by kernel_rfl) rfl (fun ρ h=>by rw [ZbP,ZbL Q hQ hN k hk n ρ h];rfl) (by omega) rfl rfl e
   (ZoN true) (fun ρ h=>by rw [ZbP,ZbL Q hQ hN k hk n ρ (h 0)];rfl)
end
section
variable (Q:List AVal) (hQ:Q.length=26) (hN:Zd Q=true) (k:Nat) (hk:k < 26) (n:Nat) (w:Nat) (xs:List AVal) (l:Zb) (hl:l.length<=140737488355328) (kd:Int) (h0:(Zk Q k 1 0 n)[0]?=some (.int .i64 kd))
include hQ hN hk hl h0
theorem ZLl {c:Int} {r:Zb} (h:ZaK kd l=.ok (c,r)):E 116 [.ref 0 0] [.var (Zk Q k 1 0 n++[.lst false (l.map Zc)]),.row 0 w xs]=some (.int .i64 c,[.var (Zk Q k 1 0 n++[.lst false (r.map Zc)]),.row 0 w xs]):=by
 unfold ZaK at h
 split at h
 case h_2=>cases h
 rename_i n' r' h2
 split at h
 case isFalse=>cases h
 rename_i hn
 injection h with h;injection h with h3 h4;subst h3 h4
 have hG:=fun σ sq hs hr=>ZkD Q hQ hN k hk n w xs l hl σ 0 1 0 sq (by omega) hs hr (m:=1) rfl h2
 have hL:=Zb0 Q hQ hN k hk n 1 0
 have hR:=Zcj Q hQ hN k hk n 1 0
 have hS:∀ ρ:Rho,ρ 1 0=some (1,0)->Zf ρ (Zk Q k 1 0 n)=Zk Q k 1 0 n:=fun ρ h=>ZbL Q hQ hN k hk n ρ h
 generalize Zk Q k 1 0 n=P at *
 have a4:=fun L=>(Zad P hL 0 (by omega) L).trans h0
 have m1:=Zbe
 have hC:=fun σ sq own=>ZiL kd n' σ sq own
 rw [hn] at hC
 rw [Zh (by rfl) Zf8]
 simp -implicitDefEqProofs only [EQA,Nat.reduceAdd,Nat.reduceLT,Nat.reduceEqDiff,reduceCtorEq,↓reduceIte,ZfZ,ZeP,ZsB,oI,hG,hC,a4,m1]
 exact ZgH P hL hR hS w xs rfl _ _
theorem ZLh {c:Int} (h:ZaK kd l=.error c):∃ r:Zb,E 116 [.ref 0 0] [.var (Zk Q k 1 0 n++[.lst false (l.map Zc)]),.row 0 w xs]=some (.pan (ZB c),[.var (Zk Q k 1 0 n++[.lst false (r.map Zc)]),.row 0 w xs]):=by
 unfold ZaK at h
 have hL:=Zb0 Q hQ hN k hk n 1 0
 have hR:=Zcj Q hQ hN k hk n 1 0
 have hS:∀ ρ:Rho,ρ 1 0=some (1,0)->Zf ρ (Zk Q k 1 0 n)=Zk Q k 1 0 n:=fun ρ h=>ZbL Q hQ hN k hk n ρ h
 split at h
 ·rename_i n' r' h2
  split at h
  case isTrue=>cases h
  rename_i hn
  injection h with h;subst h
  have hG:=fun σ sq hs hr=>ZkD Q hQ hN k hk n w xs l hl σ 0 1 0 sq (by omega) hs hr (m:=1) rfl h2
  refine ⟨r',?_⟩
  generalize Zk Q k 1 0 n=P at *
  have a4:=fun L=>(Zad P hL 0 (by omega) L).trans h0
  have m1:=Zby
  have hC:=fun σ sq own=>ZiL kd n' σ sq own
  rw [Bool.not_eq_true _ |>.mp hn] at hC
  rw [Zh (by rfl) Zf8]
  simp -implicitDefEqProofs only [EQA,Nat.reduceAdd,Nat.reduceLT,Nat.reduceEqDiff,reduceCtorEq,↓reduceIte,ZfZ,ZeP,oI,hG,hC,a4,m1]
  exact ZgH P hL hR hS w xs rfl _ _
 ·rename_i c' h2
  injection h with h;subst h
  have hG:=fun σ sq hs hr=>Zwl Q hQ hN k hk n w xs l hl σ 0 1 0 sq (by omega) hs hr (m:=1) rfl (by decide) h2
  refine ⟨l,?_⟩
  generalize Zk Q k 1 0 n=P at *
  rw [Zh (by rfl) Zf8]
  simp -implicitDefEqProofs only [EQA,Nat.reduceAdd,Nat.reduceLT,reduceCtorEq,↓reduceIte,ZfZ,ZeP,oI,hG]
  exact ZgH P hL hR hS w xs rfl _ _
variable (σ:Za) (t r g sq:Nat) (htr:t≠r) (hs:σ[t]?=some (.var (Zk Q k r g n++[.lst false (l.map Zc)]))) (hr:σ[r]?=some (.row g w xs))
include htr hs hr
theorem ZFn {c:Int} {l2:Zb} (h:ZaK kd l=.ok (c,l2)):Zo E BY σ sq 116 0 true [.ref t 0]=some (.int .i64 c,(σ.set t (.var (Zk Q k r g n++[.lst false (l2.map Zc)]))).set r (.row g w xs),{ any:=true,upd:=[(t,Zk Q k r g n++[.lst false (l2.map Zc)])] }):=by
 have e:=ZLl Q hQ hN k hk n w xs l hl kd h0 h
 exact ZgQ (g2:=0) (own:=0) (rest:=[]) hs hr htr (by rw [ZcC,Zcj Q hQ hN k hk n];rfl) (by kernel_rfl) rfl (fun ρ h=>by rw [ZbP,ZbL Q hQ hN k hk n ρ h];rfl) (by omega) rfl rfl e
  (ZmH true rfl rfl (by rw [ZcC,Zcj Q hQ hN k hk n];rfl) (by omega) (fun ρ h=>by rw [ZbP,ZbL Q hQ hN k hk n ρ h];rfl)) (fun ρ h=>by rw [ZbP,ZbL Q hQ hN k hk n ρ (h 0)];rfl)
theorem Zx7 {c:Int} (h:ZaK kd l=.error c):∃ l2:Zb,Zo E BY σ sq 116 0 true [.ref t 0]=some (.pan (ZB c),(σ.set t (.var (Zk Q k r g n++[.lst false (l2.map Zc)]))).set r (.row g w xs),{ any:=true,upd:=[(t,Zk Q k r g n++[.lst false (l2.map Zc)])] }):=by
 obtain ⟨l2,e⟩:=ZLh Q hQ hN k hk n w xs l hl kd h0 h
 exact ⟨l2,ZgQ (g2:=0) (own:=0) (rest:=[]) hs hr htr (by rw [ZcC,Zcj Q hQ hN k hk n];rfl) (by kernel_rfl) rfl (fun ρ h=>by rw [ZbP,ZbL Q hQ hN k hk n ρ h];rfl) (by omega) rfl rfl e
  (ZoN true) (fun ρ h=>by rw [ZbP,ZbL Q hQ hN k hk n ρ (h 0)];rfl)⟩
end
end
section
structure Zbv where
 filter:Zb
 qos:Int
 noLocal:Bool
 asPublished:Bool
 handling:Int
 id:Int
 deriving DecidableEq
def Z5 (s:Zbv):AVal:=.agg [.str s.filter,.int .i64 s.qos,.bool s.noLocal,.bool s.asPublished,.int .i64 s.handling,.int .i64 s.id]
structure ZtF where
 topic:Zb
 data:Zb
 qos:Int
 retain:Bool
 props:List Zn
 deriving DecidableEq
structure Zz where
 type:Int
 dup:Bool
 qos:Int
 retain:Bool
 id:Int
 topic:Zb
 payload:Zb
 code:Int
 codes:List Int
 props:List Zn
 subs:List Zbv
 filters:List Zb
 clean:Bool
 keep:Int
 client:Zb
 hasWill:Bool
 will:ZtF
 hasUser:Bool
 user:Zb
 hasPassword:Bool
 password:Zb
 present:Bool
 deriving DecidableEq
def Zar (p:Zz):AVal:=.agg [.int .i64 p.type,.bool p.dup,.int .i64 p.qos,.bool p.retain,.int .i64 p.id,.str p.topic,.lst false (p.payload.map Zc),.int .i64 p.code,.lst false (p.codes.map (AVal.int .i64)),.lst false (p.props.map Zg),.lst false (p.subs.map Z5),.lst false (p.filters.map AVal.str),.bool p.clean,.int .i64 p.keep,.str p.client,.bool p.hasWill,.str p.will.topic,.lst false (p.will.data.map Zc),.int .i64 p.will.qos,.bool p.will.retain,.lst false (p.will.props.map Zg),.bool p.hasUser,.str p.user,.bool p.hasPassword,.lst false (p.password.map Zc),.bool p.present]
end
section
def ZfT (m:Int):Int:=IntKind.i64.wrap (m.tdiv 16)
def Zbw (l:Zb):RK Zbv:=match Zap l with
 | .error c=>.error c
 | .ok (f,r1)=>match ZaG 1 r1 with
  | .error c=>.error c
  | .ok (o,r2)=>if o < 64 then (if Zx o 3 < 3/\ZfT o < 3 then .ok (⟨f,Zx o 3,Zx o 4 != 0,Zx o 8 != 0,ZfT o,0⟩,r2) else .error 130) else .error 129
theorem Zc2 {cs cs' xs:List AVal} {w j:Nat} {r:AVal} {σ:Za} (hr:ZQ r=true) (hj:j≠0) (h0:σ[0]?=some (.var cs)) (h1:σ[j]?=some (.row 0 w xs)) (hrf:Zp cs=[j]) (hren:∀ ρ:Rho,ρ j 0=some (1,0)->Zf ρ cs=cs'):Z6 1 σ r=some (r,[.var cs',.row 0 w xs]):=by
 have d0:σ.getD 0 .free=.var cs:=by simp [List.getD_eq_getElem?_getD,h0]
 have d1:σ.getD j .free=.row 0 w xs:=by simp [List.getD_eq_getElem?_getD,h1]
 have e1:=(Za7 (Zj σ 1 [0,j]) r hr)
 have ej:([0]:List Nat).contains j=false:=by simp;omega
 have hi:Zv 1 [r] σ=[0,j]:=by
  have : Zp [r]=[]:=by simp only [Zp,e1.2,List.append_nil]
  have hR:List.range 1=[0]:=rfl
  simp only [Zv,this,List.nil_append,hR,List.flatMap_cons,List.flatMap_nil,List.append_nil,d0,ZC,hrf]
  rw [show (1000:Nat)=998+1+1 from rfl,Zu,ej]
  simp only [Bool.false_eq_true,if_false,d1,ZC,List.nil_append]
  rfl
 have hρ:Zj σ 1 [0,j] j 0=some (1,0):=by
  have : ¬(0:Nat)=j:=fun e=>hj e.symm
  simp [Zj,ZJ,Zl,ZE,h1,this]
 simp only [Z6,gcA,hi,Zf,e1.1,Zr,d0,d1,ZE,Zl,Zw,hren _ hρ]
 simp
section
variable (P:List AVal) (hP:P.length=26) (hN:Zd P=true) (h10:P[10]?=some (.lst true [])) (l:Zb) (hl:l.length<=140737488355328)
include hP hN h10 hl
theorem Zzr {s:Zbv} {r:Zb} (h:Zbw l=.ok (s,r)):E 122 [.ref 0 0] (Zi P l)=some (.tup [],[.var (Zk P 10 1 0 1++[.lst false (r.map Zc)]),.row 0 6 [Z5 s]]):=by
 unfold Zbw at h
 split at h
 ·cases h
 rename_i f r1 ht
 have l1:=ZdQ ht
 split at h
 ·cases h
 rename_i o r2 hn
 split at h
 case isFalse=>cases h
 rename_i h64
 split at h
 case isFalse=>cases h
 rename_i hq
 obtain ⟨hq1,hq2⟩:=hq
 injection h with h;injection h with e1 e2;subst e1 e2
 have hT:=fun σ sq hs=>Zer P hP hN l hl σ 0 sq hs ht
 have hG:=fun σ sq hs=>ZcZ P hP hN r1 (by omega) σ 0 sq hs (m:=1) rfl hn
 have m0:=Zbe
 have a1:=Zaa P hP
 have a3:=fun L v=>Zaw P hP 10 11 (by omega) rfl L v
 have a4:=fun L=>(Zad P hP 10 (by omega) L).trans h10
 have z:¬(16:Int)=0:=by decide
 unfold Zk Z5 Zi
 unfold Zx ZfT at *
 rw [Zh (by rfl) ZdW]
 simp -implicitDefEqProofs only [EQA,ZaM,Zt,Nat.reduceAdd,Nat.reduceLT,Nat.reduceLeDiff,Nat.reduceEqDiff,Nat.reduceBEq,ZD,unG,reduceCtorEq,ZY,↓reduceIte,Zd,ZdM,Zdc,ZrZ,oI,oN,hT,hG,m0,a1,a3,a4,z,h64,hq1,hq2,Zaj,AVal.cells,Zaz,viewAs,ZP,ZL,Zas,Zq,Nat.one_mul,Nat.le_refl,Zac,Zag,Zai,Zao,Zaq,Zal,List.lookup_nil,kOk]
 refine Zc2 (j:=2) rfl (by omega) rfl rfl ?_ (fun ρ h=>?_)
 ·rw [ZcC,ZiY hN (by omega)];rfl
 ·rw [ZbP,Zju ρ hN]
  simp only [Zm,h]
  rfl
end
theorem ZGm (ss:List Zbv):kOk 6 (ss.map Z5)=true:=by cases ss <;> rfl
section
variable (P:List AVal) (hP:P.length=26) (hN:Zd P=true) (ss:List Zbv) (hss:ss.length*48+48<=140737488355328) (l:Zb) (hl:l.length<=140737488355328)
include hP hN hss hl
theorem Zx1 {s:Zbv} {r:Zb} (h:Zbw l=.ok (s,r)):E 122 [.ref 0 0] [.var (Zk P 10 1 0 ss.length++[.lst false (l.map Zc)]),.row 0 6 (ss.map Z5)]=some (.tup [],[.var (Zk P 10 1 1 (ss.length+1)++[.lst false (r.map Zc)]),.row 1 6 ((ss++[s]).map Z5)]):=by
 unfold Zbw at h
 split at h
 ·cases h
 rename_i f r1 ht
 have l1:=ZdQ ht
 split at h
 ·cases h
 rename_i o r2 hn
 split at h
 case isFalse=>cases h
 rename_i h64
 split at h
 case isFalse=>cases h
 rename_i hq
 obtain ⟨hq1,hq2⟩:=hq
 injection h with h;injection h with e1 e2;subst e1 e2
 have hT:=fun σ sq hs hr=>Zne P hP hN 10 (by omega) ss.length 6 (ss.map Z5) l hl σ 0 1 0 sq (by omega) hs hr ht
 have hG:=fun σ sq hs hr=>ZkD P hP hN 10 (by omega) ss.length 6 (ss.map Z5) r1 (by omega) σ 0 1 0 sq (by omega) hs hr (m:=1) rfl hn
 have m0:=Zbe
 have hL:=Zb0 P hP hN 10 (by omega) ss.length 1 0
 have a1:=Zaa _ hL
 have a3:=fun L v=>Zaw _ hL 10 11 (by omega) rfl L v
 have h10:(Zk P 10 1 0 ss.length)[10]?=some (.sl 1 0 0 ss.length):=by unfold Zk;rw [List.getElem?_set_self (by omega)]
 have a4:=fun L=>(Zad _ hL 10 (by omega) L).trans h10
 have hset:(Zk P 10 1 0 ss.length).set 10 (.sl 1 1 0 (ss.length+1))=Zk P 10 1 1 (ss.length+1):=by unfold Zk;rw [List.set_set]
 have z:¬(16:Int)=0:=by decide
 have kk:=ZGm ss
 have k1:∀ a b c d e f:AVal,kOk 6 [.agg [a,b,c,d,e,f]]=true:=fun _ _ _ _ _ _=>rfl
 have len:(ss.map Z5).length=ss.length:=by simp
 have tk:(ss.map Z5).take ss.length=ss.map Z5:=by rw [<-len,List.take_length]
 have lim:(ss.length+1)*48<=140737488355328:=by omega
 have lim2:48*(ss.length+1)<=140737488355328:=by omega
 unfold Zx ZfT at *
 rw [Zh (by rfl) ZdW]
 simp -implicitDefEqProofs only [EQA,ZaM,Nat.reduceAdd,Nat.reduceLT,Nat.reduceLeDiff,Nat.reduceEqDiff,Nat.reduceBEq,ZD,unG,reduceCtorEq,ZY,↓reduceIte,ZdM,Zdc,ZrZ,oI,oN,hT,hG,m0,a1,a3,a4,z,h64,hq1,hq2,Zaj,AVal.cells,Zaz,viewAs,ZP,ZL,Zas,Zq,Nat.le_refl,Zac,Zag,Zai,Zao,Zaq,Zal,List.lookup_nil,k1,len,lim,hset]
 rw [ZoZ (g:=1) rfl (by rw [ZcC,Zcj P hP hN 10 (by omega)];rfl) (by omega) (fun ρ h=>by rw [ZbP,ZbL P hP hN 10 (by omega) _ ρ h];rfl)]
 simp only [List.map_append,List.map_cons,List.map_nil]
 rfl
end
section
variable (P:List AVal) (hP:P.length=26) (hN:Zd P=true) (l:Zb) (hl:l.length<=140737488355328)
include hP hN hl
theorem ZEm {e:Int} (h:Zbw l=.error e):∃ cs,Zd cs=true/\E 122 [.ref 0 0] (Zi P l)=some (.pan (ZB e),[.var cs]):=by
 unfold Zbw at h
 have z:¬(16:Int)=0:=by decide
 unfold Zi
 split at h
 ·rename_i c ht
  injection h with h;subst h
  have hT:=fun σ sq hs=>Zg0 P hP hN l hl σ 0 sq hs ht
  refine ⟨_,Zy P hP hN false (l.map Zc),?_⟩
  rw [Zh (by rfl) ZdW]
  simp -implicitDefEqProofs only [EQA,Nat.reduceLT,↓reduceIte,ZdM,Zdc,oI,oN,hT]
  exact Z1 rfl (Zy P hP hN _ _)
 rename_i f r1 ht
 have l1:=ZdQ ht
 have hT:=fun σ sq hs=>Zer P hP hN l hl σ 0 sq hs ht
 split at h
 ·rename_i c hn
  injection h with h;subst h
  have hG:=fun σ sq hs=>ZgA P hP hN r1 (by omega) σ 0 sq hs (m:=1) rfl (by decide) hn
  refine ⟨_,Zy P hP hN false (r1.map Zc),?_⟩
  rw [Zh (by rfl) ZdW]
  simp -implicitDefEqProofs only [EQA,ZaM,Nat.reduceAdd,Nat.reduceLT,Nat.reduceLeDiff,Nat.reduceEqDiff,Nat.reduceBEq,reduceCtorEq,↓reduceIte,ZdM,Zdc,oI,oN,hT,hG,Zaj,AVal.cells]
  exact Z1 rfl (Zy P hP hN _ _)
 rename_i o r2 hn
 have hG:=fun σ sq hs=>ZcZ P hP hN r1 (by omega) σ 0 sq hs (m:=1) rfl hn
 have m0:=Zbe
 have m1:=Zby
 refine ⟨_,Zy P hP hN false (r2.map Zc),?_⟩
 split at h
 case isFalse =>
  rename_i h64
  injection h with h;subst h
  rw [Zh (by rfl) ZdW]
  simp -implicitDefEqProofs only [EQA,ZaM,Nat.reduceAdd,Nat.reduceLT,Nat.reduceLeDiff,Nat.reduceEqDiff,Nat.reduceBEq,reduceCtorEq,↓reduceIte,ZdM,Zdc,oI,oN,hT,hG,m1,h64,Zaj,AVal.cells]
  exact Z1 rfl (Zy P hP hN _ _)
 rename_i h64
 split at h
 ·cases h
 rename_i hq
 injection h with h;subst h
 by_cases hq1:Zx o 3 < 3
 ·have hq2:¬ZfT o < 3:=fun h=>hq ⟨hq1,h⟩
  unfold Zx ZfT at *
  rw [Zh (by rfl) ZdW]
  simp -implicitDefEqProofs only [EQA,ZaM,Nat.reduceAdd,Nat.reduceLT,Nat.reduceLeDiff,Nat.reduceEqDiff,Nat.reduceBEq,ZD,unG,reduceCtorEq,↓reduceIte,ZdM,Zdc,oI,oN,hT,hG,m0,m1,z,h64,hq1,hq2,Zaj,AVal.cells]
  exact Z1 rfl (Zy P hP hN _ _)
 ·unfold Zx at *
  rw [Zh (by rfl) ZdW]
  simp -implicitDefEqProofs only [EQA,ZaM,Nat.reduceAdd,Nat.reduceLT,Nat.reduceLeDiff,Nat.reduceEqDiff,Nat.reduceBEq,ZD,Zam,reduceCtorEq,↓reduceIte,ZdM,Zdc,oI,oN,hT,hG,m0,m1,z,h64,hq1,Zaj,AVal.cells]
  exact Z1 rfl (Zy P hP hN _ _)
variable (ss:List Zbv)
theorem ZC5 {e:Int} (h:Zbw l=.error e):∃ r:Zb,E 122 [.ref 0 0] [.var (Zk P 10 1 0 ss.length++[.lst false (l.map Zc)]),.row 0 6 (ss.map Z5)]=some (.pan (ZB e),[.var (Zk P 10 1 0 ss.length++[.lst false (r.map Zc)]),.row 0 6 (ss.map Z5)]):=by
 unfold Zbw at h
 have z:¬(16:Int)=0:=by decide
 have fin:∀ (r:Zb) (σ:Za) (x:AVal),ZQ x=true->Z6 2 (.var (Zk P 10 1 0 ss.length++[.lst false (r.map Zc)])::.row 0 6 (ss.map Z5)::σ) x=some (x,[.var (Zk P 10 1 0 ss.length++[.lst false (r.map Zc)]),.row 0 6 (ss.map Z5)]):=fun r σ x hx =>
  ZoZ (g:=0) hx (by rw [ZcC,Zcj P hP hN 10 (by omega)];rfl) (by omega) (fun ρ h=>by rw [ZbP,ZbL P hP hN 10 (by omega) _ ρ h];rfl)
 split at h
 ·rename_i c ht
  injection h with h;subst h
  have hT:=fun σ sq hs hr=>Zsz P hP hN 10 (by omega) ss.length 6 (ss.map Z5) l hl σ 0 1 0 sq (by omega) hs hr ht
  refine ⟨l,?_⟩
  rw [Zh (by rfl) ZdW]
  simp -implicitDefEqProofs only [EQA,Nat.reduceAdd,Nat.reduceLT,↓reduceIte,ZdM,Zdc,oI,oN,hT]
  exact fin _ _ _ rfl
 rename_i f r1 ht
 have l1:=ZdQ ht
 have hT:=fun σ sq hs hr=>Zne P hP hN 10 (by omega) ss.length 6 (ss.map Z5) l hl σ 0 1 0 sq (by omega) hs hr ht
 split at h
 ·rename_i c hn
  injection h with h;subst h
  have hG:=fun σ sq hs hr=>Zwl P hP hN 10 (by omega) ss.length 6 (ss.map Z5) r1 (by omega) σ 0 1 0 sq (by omega) hs hr (m:=1) rfl (by decide) hn
  refine ⟨r1,?_⟩
  rw [Zh (by rfl) ZdW]
  simp -implicitDefEqProofs only [EQA,ZaM,Nat.reduceAdd,Nat.reduceLT,Nat.reduceLeDiff,Nat.reduceEqDiff,Nat.reduceBEq,reduceCtorEq,↓reduceIte,ZdM,Zdc,oI,oN,hT,hG,Zaj,AVal.cells]
  exact fin _ _ _ rfl
 rename_i o r2 hn
 have hG:=fun σ sq hs hr=>ZkD P hP hN 10 (by omega) ss.length 6 (ss.map Z5) r1 (by omega) σ 0 1 0 sq (by omega) hs hr (m:=1) rfl hn
 have m0:=Zbe
 have m1:=Zby
 refine ⟨r2,?_⟩
 split at h
 case isFalse =>
  rename_i h64
  injection h with h;subst h
  rw [Zh (by rfl) ZdW]
  simp -implicitDefEqProofs only [EQA,ZaM,Nat.reduceAdd,Nat.reduceLT,Nat.reduceLeDiff,Nat.reduceEqDiff,Nat.reduceBEq,reduceCtorEq,↓reduceIte,ZdM,Zdc,oI,oN,hT,hG,m1,h64,Zaj,AVal.cells]
  exact fin _ _ _ rfl
 rename_i h64
 split at h
 ·cases h
 rename_i hq
 injection h with h;subst h
 by_cases hq1:Zx o 3 < 3
 ·have hq2:¬ZfT o < 3:=fun h=>hq ⟨hq1,h⟩
  unfold Zx ZfT at *
  rw [Zh (by rfl) ZdW]
  simp -implicitDefEqProofs only [EQA,ZaM,Nat.reduceAdd,Nat.reduceLT,Nat.reduceLeDiff,Nat.reduceEqDiff,Nat.reduceBEq,ZD,unG,reduceCtorEq,↓reduceIte,ZdM,Zdc,oI,oN,hT,hG,m0,m1,z,h64,hq1,hq2,Zaj,AVal.cells]
  exact fin _ _ _ rfl
 ·unfold Zx at *
  rw [Zh (by rfl) ZdW]
  simp -implicitDefEqProofs only [EQA,ZaM,Nat.reduceAdd,Nat.reduceLT,Nat.reduceLeDiff,Nat.reduceEqDiff,Nat.reduceBEq,ZD,Zam,reduceCtorEq,↓reduceIte,ZdM,Zdc,oI,oN,hT,hG,m0,m1,z,h64,hq1,Zaj,AVal.cells]
  exact fin _ _ _ rfl
end
end
section
section
variable (P:List AVal) (hP:P.length=26) (hN:Zd P=true)
include hP hN
theorem ZIV (k:Int) (hk:P[0]?=some (.int .i64 k)) (l:Zb) (hl:l.length<=140737488355328) {c:Int} (h:ZaK k l=.error c):∃ r:Zb,E 116 [.ref 0 0] [.var (P++[.lst false (l.map Zc)])]=some (.pan (ZB c),[.var (P++[.lst false (r.map Zc)])]):=by
 unfold ZaK at h
 split at h
 ·rename_i n' r' h2
  split at h
  case isTrue=>cases h
  rename_i hn
  injection h with h;subst h
  have hG:=fun σ sq hs=>ZcZ P hP hN l hl σ 0 sq hs (m:=1) rfl h2
  have a4:=fun L=>(Zad P hP 0 (by omega) L).trans hk
  have m1:=Zby
  have hC:=fun σ sq own=>ZiL k n' σ sq own
  rw [Bool.not_eq_true _ |>.mp hn] at hC
  refine ⟨r',?_⟩
  rw [Zh (by rfl) Zf8]
  simp -implicitDefEqProofs only [EQA,Nat.reduceLT,Nat.reduceEqDiff,reduceCtorEq,↓reduceIte,ZfZ,ZeP,oI,hG,hC,a4,m1]
  exact Z1 rfl (ZaA hN (by rfl))
 ·rename_i c' h2
  injection h with h;subst h
  have hG:=fun σ sq hs=>ZgA P hP hN l hl σ 0 sq hs (m:=1) rfl (by decide) h2
  refine ⟨l,?_⟩
  rw [Zh (by rfl) Zf8]
  simp -implicitDefEqProofs only [EQA,Nat.reduceLT,reduceCtorEq,↓reduceIte,ZfZ,ZeP,oI,hG]
  exact Z1 rfl (ZaA hN (by rfl))
end
section
variable (P:List AVal) (hP:P.length=26) (hN:Zd P=true) (l:Zb) (hl:l.length<=140737488355328)
include hP hN hl
theorem ZK7 (h11:P[11]?=some (.lst true [])) {s r:Zb} (h:Zap l=.ok (s,r)):evC FC PR BY 3 ZdE [(1,.ref 2 0),(0,.ref 0 0)] [.var [.ref 1 0],.var (P++[.lst false (l.map Zc)]),.var [.ref 1 0]]=some (.normal,[],[.var [.ref 1 0],.var (Zk P 11 3 0 1++[.lst false (r.map Zc)]),.var [.ref 1 0],.row 0 1 [.str s]]):=by
 have hT:=fun σ sq hs=>Zer P hP hN l hl σ 1 sq hs h
 have a1:=Zaa P hP
 have a3:=fun L v=>Zaw P hP 11 12 (by omega) rfl L v
 have a4:=fun L=>(Zad P hP 11 (by omega) L).trans h11
 unfold Zk
 simp -implicitDefEqProofs only [EQA,Nat.reduceAdd,Nat.reduceLT,Nat.reduceLeDiff,Nat.reduceEqDiff,Nat.reduceBEq,reduceCtorEq,ZY,↓reduceIte,ZdE,oI,oN,hT,a1,a3,a4,AVal.cells,Zaz,viewAs,ZP,ZL,Zq,Nat.one_mul,Zac,Zag,Zai,Zao,Zaq,Zal,Zdo,List.lookup_cons,List.lookup_nil,kOk]
theorem ZAO {c:Int} (h:Zap l=.error c) (h11:P[11]?=some (.lst true [])):evC FC PR BY 3 ZdE [(1,.ref 2 0),(0,.ref 0 0)] [.var [.ref 1 0],.var (P++[.lst false (l.map Zc)]),.var [.ref 1 0]]=some (.panic (ZB c),[],[.var [.ref 1 0],.var (P++[.lst false (l.map Zc)]),.var [.ref 1 0],.free]):=by
 have hT:=fun σ sq hs=>Zg0 P hP hN l hl σ 1 sq hs h
 have a4:=fun L=>(Zad P hP 11 (by omega) L).trans h11
 simp -implicitDefEqProofs only [EQA,Nat.reduceAdd,Nat.reduceSub,Nat.reduceLT,Nat.reduceLeDiff,Nat.reduceEqDiff,Nat.reduceBEq,reduceCtorEq,↓reduceIte,ZdE,oI,oN,hT,a4,ZhS,Zdy,List.any_cons,List.any_nil,Zac,Zag,Zai,Zao,Zaq,Zal,Zdo,List.lookup_cons,List.lookup_nil]
theorem ZBN (h8:P[8]?=some (.lst true [])) (k:Int) (hk:P[0]?=some (.int .i64 k)) {c:Int} {r:Zb} (h:ZaK k l=.ok (c,r)):evC FC PR BY 3 ZdC [(1,.ref 2 0),(0,.ref 0 0)] [.var [.ref 1 0],.var (P++[.lst false (l.map Zc)]),.var [.ref 1 0]]=some (.normal,[],[.var [.ref 1 0],.var (Zk P 8 3 0 1++[.lst false (r.map Zc)]),.var [.ref 1 0],.row 0 1 [.int .i64 c]]):=by
 have hT:=fun σ sq hs=>ZjR P hP hN l hl σ 1 sq hs k hk h
 have a1:=Zaa P hP
 have a3:=fun L v=>Zaw P hP 8 9 (by omega) rfl L v
 have a4:=fun L=>(Zad P hP 8 (by omega) L).trans h8
 unfold Zk
 simp -implicitDefEqProofs only [EQA,Nat.reduceAdd,Nat.reduceLT,Nat.reduceLeDiff,Nat.reduceEqDiff,Nat.reduceBEq,reduceCtorEq,ZY,↓reduceIte,ZdC,oI,oN,hT,a1,a3,a4,AVal.cells,Zaz,viewAs,ZP,ZL,Zq,Nat.one_mul,Zac,Zag,Zai,Zao,Zaq,Zal,Zdo,List.lookup_cons,List.lookup_nil,kOk]
theorem ZNa (h8:P[8]?=some (.lst true [])) (k:Int) (hk:P[0]?=some (.int .i64 k)) {e:Int} (h:ZaK k l=.error e):∃ r:Zb,evC FC PR BY 3 ZdC [(1,.ref 2 0),(0,.ref 0 0)] [.var [.ref 1 0],.var (P++[.lst false (l.map Zc)]),.var [.ref 1 0]]=some (.panic (ZB e),[],[.var [.ref 1 0],.var (P++[.lst false (r.map Zc)]),.var [.ref 1 0],.free]):=by
 obtain ⟨r,he⟩:=ZIV P hP hN k hk l hl h
 have hT:=fun (σ:Za) sq (hs:σ[1]?=some (.var (P++[.lst false (l.map Zc)])))=>ZcA (O:=E) (bf:=BY) (f:=116) (view:=true) (rest:=[]) (by kernel_rfl) rfl (Zy P hP hN _ _) (Zy P hP hN _ _) rfl he hs sq
 have a4:=fun L=>(Zad P hP 8 (by omega) L).trans h8
 refine ⟨r,?_⟩
 simp -implicitDefEqProofs only [EQA,Nat.reduceAdd,Nat.reduceSub,Nat.reduceLT,Nat.reduceLeDiff,Nat.reduceEqDiff,Nat.reduceBEq,reduceCtorEq,↓reduceIte,ZdC,oI,oN,hT,a4,ZhS,Zdy,List.any_cons,List.any_nil,Zac,Zag,Zai,Zao,Zaq,Zal,Zdo,List.lookup_cons,List.lookup_nil]
end
end
section
section
variable (P:List AVal) (hP:P.length=26) (hN:Zd P=true) (l:Zb) (hl:l.length<=140737488355328)
include hP hN hl
theorem ZMz (xs:List AVal) (hx:xs.length*16+16<=140737488355328) (kk:kOk 1 xs=true) {s r:Zb} (h:Zap l=.ok (s,r)):evC FC PR BY 4 ZdE [(1,.ref 3 0),(0,.ref 0 0)] [.var [.ref 1 0],.var (Zk P 11 2 0 xs.length++[.lst false (l.map Zc)]),.row 0 1 xs,.var [.ref 1 0]]=some (.normal,[],[.var [.ref 1 0],.var (Zk P 11 2 1 (xs.length+1)++[.lst false (r.map Zc)]),.row 1 1 (xs++[.str s]),.var [.ref 1 0],.free]):=by
 have hT:=fun σ sq hs hr=>Zne P hP hN 11 (by omega) xs.length 1 xs l hl σ 1 2 0 sq (by omega) hs hr h
 have hL:=Zb0 P hP hN 11 (by omega) xs.length 2 0
 have a1:=Zaa _ hL
 have a3:=fun L v=>Zaw _ hL 11 12 (by omega) rfl L v
 have hc:(Zk P 11 2 0 xs.length)[11]?=some (.sl 2 0 0 xs.length):=by unfold Zk;rw [List.getElem?_set_self (by omega)]
 have a4:=fun L=>(Zad _ hL 11 (by omega) L).trans hc
 have hset:(Zk P 11 2 0 xs.length).set 11 (.sl 2 1 0 (xs.length+1))=Zk P 11 2 1 (xs.length+1):=by unfold Zk;rw [List.set_set]
 have k1:kOk 1 [.str s]=true:=rfl
 have tk:xs.take xs.length=xs:=List.take_length
 have lim:(xs.length+1)*16<=140737488355328:=by omega
 have lim2:16*(xs.length+1)<=140737488355328:=by omega
 simp -implicitDefEqProofs only [EQA,Nat.reduceAdd,Nat.reduceLT,Nat.reduceLeDiff,Nat.reduceEqDiff,Nat.reduceBEq,reduceCtorEq,ZY,↓reduceIte,ZdE,oI,oN,hT,a1,a3,a4,AVal.cells,Zaz,viewAs,ZP,ZL,Zq,Zac,Zag,Zai,Zao,Zaq,Zal,Zdo,List.lookup_cons,List.lookup_nil,k1,lim,hset]
theorem ZLg (xs:List AVal) (hx:xs.length*8+8<=140737488355328) (kk:kOk 1 xs=true) (k:Int) (hk:P[0]?=some (.int .i64 k)) {c:Int} {r:Zb} (h:ZaK k l=.ok (c,r)):evC FC PR BY 4 ZdC [(1,.ref 3 0),(0,.ref 0 0)] [.var [.ref 1 0],.var (Zk P 8 2 0 xs.length++[.lst false (l.map Zc)]),.row 0 1 xs,.var [.ref 1 0]]=some (.normal,[],[.var [.ref 1 0],.var (Zk P 8 2 1 (xs.length+1)++[.lst false (r.map Zc)]),.row 1 1 (xs++[.int .i64 c]),.var [.ref 1 0],.free]):=by
 have hk0:(Zk P 8 1 0 xs.length)[0]?=some (.int .i64 k):=by unfold Zk;rw [List.getElem?_set_ne (by omega)];exact hk
 have hT:=fun σ sq hs hr=>ZFn P hP hN 8 (by omega) xs.length 1 xs l hl k hk0 σ 1 2 0 sq (by omega) hs hr h
 have hL:=Zb0 P hP hN 8 (by omega) xs.length 2 0
 have a1:=Zaa _ hL
 have a3:=fun L v=>Zaw _ hL 8 9 (by omega) rfl L v
 have hc:(Zk P 8 2 0 xs.length)[8]?=some (.sl 2 0 0 xs.length):=by unfold Zk;rw [List.getElem?_set_self (by omega)]
 have a4:=fun L=>(Zad _ hL 8 (by omega) L).trans hc
 have hset:(Zk P 8 2 0 xs.length).set 8 (.sl 2 1 0 (xs.length+1))=Zk P 8 2 1 (xs.length+1):=by unfold Zk;rw [List.set_set]
 have k1:kOk 1 [.int .i64 c]=true:=rfl
 have tk:xs.take xs.length=xs:=List.take_length
 have lim:(xs.length+1)*8<=140737488355328:=by omega
 have lim2:8*(xs.length+1)<=140737488355328:=by omega
 simp -implicitDefEqProofs only [EQA,Nat.reduceAdd,Nat.reduceLT,Nat.reduceLeDiff,Nat.reduceEqDiff,Nat.reduceBEq,reduceCtorEq,ZY,↓reduceIte,ZdC,oI,oN,hT,a1,a3,a4,AVal.cells,Zaz,viewAs,ZP,ZL,Zq,Zac,Zag,Zai,Zao,Zaq,Zal,Zdo,List.lookup_cons,List.lookup_nil,k1,lim,hset]
end
end
section
def Zuh (P:List AVal) (f c:Int) (ps:List Zn):List AVal:=((P.set 25 (.bool (f == 1))).set 7 (.int .i64 c)).set 9 (.lst false (ps.map Zg))
section
variable (P:List AVal) (hP:P.length=26) (hN:Zd P=true) (h0:P[0]?=some (.int .i64 2)) (l:Zb) (hl:l.length<=140737488355328)
include hP hN h0 hl
theorem ZI5 {e:Int} (h:ZaG 1 l=.error e):∃ cs,Zd cs=true/\E 77 [.ref 0 0] (Zi P l)=some (.pan (ZB e),[.var cs]):=by
 have a4:=fun L=>(Zad P hP 0 (by omega) L).trans h0
 have hT:=fun σ sq hs=>ZgA P hP hN l hl σ 0 sq hs (m:=1) rfl (by decide) h
 refine ⟨P++[.lst false (l.map Zc)],Zy P hP hN _ _,?_⟩
 unfold Zi
 rw [Zh (by rfl) Zbf]
 simp -implicitDefEqProofs only [EQA,ZK,Nat.reduceAdd,Nat.reduceLT,Nat.reduceLeDiff,Nat.reduceEqDiff,Nat.reduceBEq,↓reduceIte,Zbg,Zba,oI,oN,a4,hT,Int.reduceBEq]
 exact Z1 rfl (Zy P hP hN _ _)
theorem Zxk {f:Int} {r:Zb} (h:ZaG 1 l=.ok (f,r)) (hf:¬f < 2):∃ cs,Zd cs=true/\E 77 [.ref 0 0] (Zi P l)=some (.pan (ZB 129),[.var cs]):=by
 have a4:=fun L=>(Zad P hP 0 (by omega) L).trans h0
 have hT:=fun σ sq hs=>ZcZ P hP hN l hl σ 0 sq hs (m:=1) rfl h
 have m1:=Zby
 refine ⟨P++[.lst false (r.map Zc)],Zy P hP hN _ _,?_⟩
 unfold Zi
 rw [Zh (by rfl) Zbf]
 simp -implicitDefEqProofs only [EQA,ZK,Nat.reduceAdd,Nat.reduceLT,Nat.reduceLeDiff,Nat.reduceEqDiff,Nat.reduceBEq,↓reduceIte,Zbg,Zba,oI,oN,a4,hT,m1,hf,Int.reduceBEq]
 exact Z1 rfl (Zy P hP hN _ _)
theorem ZCv {f:Int} {r:Zb} (h:ZaG 1 l=.ok (f,r)) (hf:f < 2) {e:Int} (hc:ZaK 2 r=.error e):∃ cs,Zd cs=true/\E 77 [.ref 0 0] (Zi P l)=some (.pan (ZB e),[.var cs]):=by
 have hr:=Zhb h
 have a1:=Zaa P hP
 have a4:=fun L=>(Zad P hP 0 (by omega) L).trans h0
 have hT:=fun σ sq hs=>ZcZ P hP hN l hl σ 0 sq hs (m:=1) rfl h
 have m0:=Zbe
 have a3:=fun L=>Zaw P hP 25 26 (by omega) rfl L (.bool (f == 1))
 have hP1:(P.set 25 (.bool (f == 1))).length=26:=by simp [hP]
 have hN1:Zd (P.set 25 (.bool (f == 1)))=true:=ZT rfl _ hN
 have g0:(P.set 25 (.bool (f == 1)))[0]?=some (.int .i64 2):=by rw [List.getElem?_set_ne (by omega)];exact h0
 generalize P.set 25 (.bool (f == 1))=Q at *
 obtain ⟨cs,hn,he⟩:=ZrI Q hP1 hN1 2 g0 r (by omega) hc
 have hC:=fun (σ:Za) sq (hs:σ[0]?=some (.var (Q++[.lst false (r.map Zc)])))=>ZcA (O:=E) (bf:=BY) (f:=116) (view:=true) (rest:=[]) (by kernel_rfl) rfl (Zy Q hP1 hN1 _ _) hn rfl he hs sq
 refine ⟨cs,hn,?_⟩
 unfold Zi
 rw [Zh (by rfl) Zbf]
 simp -implicitDefEqProofs only [EQA,ZK,Nat.reduceAdd,Nat.reduceSub,Nat.reduceLT,Nat.reduceLeDiff,Nat.reduceEqDiff,Nat.reduceBEq,↓reduceIte,Zbg,Zba,oI,oN,a1,a3,a4,hT,hC,m0,hf,Int.reduceBEq,ZhS,Zdy,List.any_cons,List.any_nil,Zac,Zag,Zai,Zao,Zaq,Zal,Zdo,List.lookup_cons,List.lookup_nil]
 exact Z1 rfl hn
theorem ZHC {f:Int} {r:Zb} (h:ZaG 1 l=.ok (f,r)) (hf:f < 2) {c:Int} {r2:Zb} (hc:ZaK 2 r=.ok (c,r2)) {e:Int} (hp:ZbC 2 r2=.error e):∃ cs,Zd cs=true/\E 77 [.ref 0 0] (Zi P l)=some (.pan (ZB e),[.var cs]):=by
 have hr2:=ZlX hc
 have hr:=Zhb h
 have a1:=Zaa P hP
 have a4:=fun L=>(Zad P hP 0 (by omega) L).trans h0
 have hT:=fun σ sq hs=>ZcZ P hP hN l hl σ 0 sq hs (m:=1) rfl h
 have m0:=Zbe
 have a3:=fun L=>Zaw P hP 25 26 (by omega) rfl L (.bool (f == 1))
 have hP1:(P.set 25 (.bool (f == 1))).length=26:=by simp [hP]
 have hN1:Zd (P.set 25 (.bool (f == 1)))=true:=ZT rfl _ hN
 have g0:(P.set 25 (.bool (f == 1)))[0]?=some (.int .i64 2):=by rw [List.getElem?_set_ne (by omega)];exact h0
 generalize P.set 25 (.bool (f == 1))=Q at *
 have hC:=fun σ sq hs=>ZjR Q hP1 hN1 r (by omega) σ 0 sq hs 2 g0 hc
 have b1:=Zaa _ hP1
 have b3:=fun L=>Zaw _ hP1 7 8 (by omega) rfl L (.int .i64 c)
 have hP2:(Q.set 7 (.int .i64 c)).length=26:=by simp [hP1]
 have hN2:Zd (Q.set 7 (.int .i64 c))=true:=ZT rfl _ hN1
 generalize Q.set 7 (.int .i64 c)=S at *
 have hG:=fun σ sq hs=>ZfK S hP2 hN2 r2 (by omega) σ 0 sq hs hp
 have c1:=Zaa _ hP2
 refine ⟨S++[.lst false (r2.map Zc)],Zy _ hP2 hN2 _ _,?_⟩
 unfold Zi
 rw [Zh (by rfl) Zbf]
 simp -implicitDefEqProofs only [EQA,ZK,Nat.reduceAdd,Nat.reduceSub,Nat.reduceLT,Nat.reduceLeDiff,Nat.reduceEqDiff,Nat.reduceBEq,↓reduceIte,Zbg,Zba,oI,oN,a1,a3,a4,b1,b3,hT,hC,hG,m0,hf,Int.reduceBEq,ZhS,Zdy,List.any_cons,List.any_nil,Zac,Zag,Zai,Zao,Zaq,Zal,Zdo,List.lookup_cons,List.lookup_nil]
 exact Z1 rfl (Zy _ hP2 hN2 _ _)
theorem ZKD {f:Int} {r:Zb} (h:ZaG 1 l=.ok (f,r)) (hf:f < 2) {c:Int} {r2:Zb} (hc:ZaK 2 r=.ok (c,r2)) {ps:List Zn} {r3:Zb} (hp:ZbC 2 r2=.ok (ps,r3)) (hu:(Z0 2 r2).2.1<=r2.length):E 77 [.ref 0 0] (Zi P l)=some (if r3.length=0 then .tup [] else .pan (ZB 129),Zi (Zuh P f c ps) r3):=by
 have hr2:=ZlX hc
 have hr:=Zhb h
 have a1:=Zaa P hP
 have a4:=fun L=>(Zad P hP 0 (by omega) L).trans h0
 have hT:=fun σ sq hs=>ZcZ P hP hN l hl σ 0 sq hs (m:=1) rfl h
 have m0:=Zbe
 have a3:=fun L=>Zaw P hP 25 26 (by omega) rfl L (.bool (f == 1))
 have hP1:(P.set 25 (.bool (f == 1))).length=26:=by simp [hP]
 have hN1:Zd (P.set 25 (.bool (f == 1)))=true:=ZT rfl _ hN
 have g0:(P.set 25 (.bool (f == 1)))[0]?=some (.int .i64 2):=by rw [List.getElem?_set_ne (by omega)];exact h0
 unfold Zuh
 generalize P.set 25 (.bool (f == 1))=Q at *
 have hC:=fun σ sq hs=>ZjR Q hP1 hN1 r (by omega) σ 0 sq hs 2 g0 hc
 have b1:=Zaa _ hP1
 have b3:=fun L=>Zaw _ hP1 7 8 (by omega) rfl L (.int .i64 c)
 have hP2:(Q.set 7 (.int .i64 c)).length=26:=by simp [hP1]
 have hN2:Zd (Q.set 7 (.int .i64 c))=true:=ZT rfl _ hN1
 generalize Q.set 7 (.int .i64 c)=S at *
 have hG:=fun σ sq hs=>Zeg S hP2 hN2 r2 (by omega) σ 0 sq hs hu hp
 have c1:=Zaa _ hP2
 have c3:=fun L=>Zaw _ hP2 9 10 (by omega) rfl L (.lst false (ps.map Zg))
 have hP3:(S.set 9 (.lst false (ps.map Zg))).length=26:=by simp [hP2]
 have hN3:Zd (S.set 9 (.lst false (ps.map Zg)))=true:=ZT (Zb5 _ _) _ hN2
 generalize S.set 9 (.lst false (ps.map Zg))=U at *
 have d2:=Zat _ hP3
 unfold Zi
 by_cases hr3:r3.length=0
 ·have z:=ZeM (l:=r3) (decide_eq_true hr3)
  rw [if_pos hr3]
  rw [Zh (by rfl) Zbf]
  simp -implicitDefEqProofs only [EQA,ZK,Zt,Nat.reduceAdd,Nat.reduceLT,Nat.reduceLeDiff,Nat.reduceEqDiff,Nat.reduceBEq,↓reduceIte,Zd,Zbg,Zba,ZeC,oI,oN,a1,a3,a4,b1,b3,c1,c3,d2,z,hT,hC,hG,m0,hf,Int.reduceBEq,Zac,Zag,Zai,Zao,Zaq,Zal,List.lookup_cons,List.lookup_nil]
  exact Z1 rfl (Zy _ hP3 hN3 _ _)
 ·have z:=ZeM (l:=r3) (decide_eq_false hr3)
  have m1:=Zby
  rw [if_neg hr3]
  rw [Zh (by rfl) Zbf]
  simp -implicitDefEqProofs only [EQA,ZK,Nat.reduceAdd,Nat.reduceLT,Nat.reduceLeDiff,Nat.reduceEqDiff,Nat.reduceBEq,↓reduceIte,Zbg,Zba,oI,oN,a1,a3,a4,b1,b3,c1,c3,d2,z,hT,hC,hG,m0,m1,hf,Int.reduceBEq,Zac,Zag,Zai,Zao,Zaq,Zal,List.lookup_cons,List.lookup_nil]
  exact Z1 rfl (Zy _ hP3 hN3 _ _)
end
end
section
theorem ZM6 {O:ZU} {bf:Nat->Bool} {σ:Za} {t f own:Nat} {rest:List AVal} {cs cs':List AVal} {r r':AVal} (hb:bf f=false) (hp:rest.all Zak=true) (hc:Zd cs=true) (hc':Zd cs'=true) (hn:ZQ r'=true) (hv:viewR [.var cs'] r=some (r',[]))
  (h:O f (.ref 0 0::rest.map ZM) [.var cs]=some (r,[.var cs'])) (hs:σ[t]?=some (.var cs)) (sq:Nat) (hff:ZaX σ sq own=true):Zo O bf σ sq f own true (.ref t 0::rest)=some (r',σ.set t (.var cs'),{ any:=true,upd:=[(t,cs')] }):=by
 have htl:t < σ.length:=by
  rcases Nat.lt_or_ge t σ.length with h | h
  ·exact h
  ·rw [List.getElem?_eq_none h] at hs;cases hs
 have hup:Za1 (σ.set t (.var cs')) [t]=[(t,cs')]:=by
  simp only [Za1,List.getElem?_set,if_pos htl,if_true]
 have hd:σ.getD t .free=.var cs:=by simp [List.getD_eq_getElem?_getD,hs]
 have hf0:Zq σ []=σ:=rfl
 have hsh:showAs σ (.ref t 0::rest)=some (.ref t 0::rest.map ZM,[]):=by
  rw [showAs,show showA σ (.ref t 0)=some (.ref t 0,[]) from rfl,Zed hp]
  rfl
 have href:Zp (.ref t 0::rest.map ZM)=[t]:=by
  rw [Zp,Zdu hp];rfl
 unfold Zo ZbO
 rw [hb]
 simp only [Bool.false_eq_true,if_false,hsh,hf0,href,Zfr hs hc]
 unfold Zbz
 have hall:([t].all fun t=>okB (σ.getD t .free))=true:=by simp [List.all_cons,List.all_nil,hs,okB]
 rw [if_pos hall]
 have hρ:Zj σ 0 [t] t 0=some (0,0):=by simp [Zj,ZJ,hs,Zl,ZE]
 have hheap:Zr σ 0 [t] (Zj σ 0 [t]) [t] 0=[.var cs]:=by
  simp only [Zr,hd,Zw,(ZaW _ cs hc).1]
 have hargs:Zf (Zj σ 0 [t]) (.ref t 0::rest.map ZM)=.ref 0 0::rest.map ZM:=by
  rw [Zf,ZdA hp]
  simp only [Zm,hρ]
 rw [hargs,hheap,h]
 have hask:Zab true [t].length (some (r,[.var cs']))=some (r',[.var cs']):=by
  unfold Zab
  rw [if_pos rfl]
  have hnp:∀ x,r≠.pan x:=by rintro x rfl;simp [viewR,ZP,ZL] at hv
  rw [show Zbs [t].length (some (r,[.var cs']))=(match viewR [.var cs'] r with
   | some (r',ts)=>match gcA [t].length [r'] (Zq [.var cs'] ts) with
    | ([r''],σ')=>some (r'',σ')
    | _=>none
   | none=>none) from by cases r <;> first | rfl | exact absurd rfl (hnp _)]
  rw [hv]
  simp only [List.length_cons,List.length_nil,Nat.zero_add,show Zq [ZN.var cs'] []=[.var cs'] from rfl,Zls hn hc']
 rw [hask]
 have hk:Za0 σ [t] [.var cs'] 0=true:=by
  simp [Za0,okB,hs,Zce,Zl]
 simp only [Zav,List.isEmpty_cons,Bool.false_eq_true,if_false,List.length_cons,List.length_nil,Nat.zero_add,Nat.le_add_right,Nat.le_refl,decide_true,hk,hff,Bool.and_self,if_true,Za3,ZaF,List.getD_cons_zero,Zw,(Za7 _ r' hn).1,(ZaW _ cs' hc').1,hup]
theorem ZCy {O:ZU} {bf:Nat->Bool} {σ:Za} {t f own:Nat} {rest:List AVal} {cs cs':List AVal} {x:AVal} {view:Bool} (hb:bf f=false) (hp:rest.all Zak=true) (hc:Zd cs=true) (hc':Zd cs'=true) (hn:ZQ x=true)
  (h:O f (.ref 0 0::rest.map ZM) [.var cs]=some (.pan x,[.var cs'])) (hs:σ[t]?=some (.var cs)) (sq:Nat) (hff:ZaX σ sq own=true):Zo O bf σ sq f own view (.ref t 0::rest)=some (.pan x,σ.set t (.var cs'),{ any:=true,upd:=[(t,cs')] }):=by
 have htl:t < σ.length:=by
  rcases Nat.lt_or_ge t σ.length with h | h
  ·exact h
  ·rw [List.getElem?_eq_none h] at hs;cases hs
 have hup:Za1 (σ.set t (.var cs')) [t]=[(t,cs')]:=by
  simp only [Za1,List.getElem?_set,if_pos htl,if_true]
 have hd:σ.getD t .free=.var cs:=by simp [List.getD_eq_getElem?_getD,hs]
 have hf0:Zq σ []=σ:=rfl
 have hsh:showAs σ (.ref t 0::rest)=some (.ref t 0::rest.map ZM,[]):=by
  rw [showAs,show showA σ (.ref t 0)=some (.ref t 0,[]) from rfl,Zed hp]
  rfl
 have href:Zp (.ref t 0::rest.map ZM)=[t]:=by
  rw [Zp,Zdu hp];rfl
 unfold Zo ZbO
 rw [hb]
 simp only [Bool.false_eq_true,if_false,hsh,hf0,href,Zfr hs hc]
 unfold Zbz
 have hall:([t].all fun t=>okB (σ.getD t .free))=true:=by simp [List.all_cons,List.all_nil,hs,okB]
 rw [if_pos hall]
 have hρ:Zj σ 0 [t] t 0=some (0,0):=by simp [Zj,ZJ,hs,Zl,ZE]
 have hheap:Zr σ 0 [t] (Zj σ 0 [t]) [t] 0=[.var cs]:=by
  simp only [Zr,hd,Zw,(ZaW _ cs hc).1]
 have hargs:Zf (Zj σ 0 [t]) (.ref t 0::rest.map ZM)=.ref 0 0::rest.map ZM:=by
  rw [Zf,ZdA hp]
  simp only [Zm,hρ]
 rw [hargs,hheap,h]
 have hask:Zab view [t].length (some (.pan x,[.var cs']))=some (.pan x,[.var cs']):=by
  unfold Zab
  split <;> rfl
 rw [hask]
 have hk:Za0 σ [t] [.var cs'] 0=true:=by
  simp [Za0,okB,hs,Zce,Zl]
 have hnp:ZQ (.pan x)=true:=by simpa only [ZQ] using hn
 simp only [Zav,List.isEmpty_cons,Bool.false_eq_true,if_false,List.length_cons,List.length_nil,Nat.zero_add,Nat.le_add_right,Nat.le_refl,decide_true,hk,hff,Bool.and_self,if_true,Za3,ZaF,List.getD_cons_zero,Zw,(Za7 _ _ hnp).1,(ZaW _ cs' hc').1,hup]
theorem Zc4 {O:ZU} {bf:Nat->Bool} {σ:Za} {sq f own:Nat} {view:Bool} {args vs vs':List AVal} {ids:List Nat} {h0 h:Za} {r0 r:AVal} (hb:bf f=false) (hsh:showAs σ args=some (vs,[])) (hre:Zu σ 1000 (Zp vs) []=ids) (hne:ids.isEmpty=false)
  (hall:(ids.all fun t=>okB (σ.getD t .free))=true) (hvs:Zf (Zj σ 0 ids) vs=vs') (hh:Zr σ 0 ids (Zj σ 0 ids) ids 0=h0) {hh0:Za} (hO:O f vs' h0=some (r0,hh0)) (hv:Zab view ids.length (some (r0,hh0))=some (r,h))
  (hl1:h.length<=ids.length+own) (hl2:ids.length<=h.length) (hk:Za0 σ ids h 0=true) (hff:ZaX σ sq own=true) {r':AVal} (hr:Zm (Zax σ ids sq) r=r') {σ':Za} (hlay:Za3 σ ids sq h 0 σ=σ') {u:List (Nat×List AVal)} (hu:Za1 σ' ids=u) :
  Zo O bf σ sq f own view args=some (r',σ',{ any:=true,upd:=u }):=by
 subst hr hlay hu
 unfold Zo ZbO
 rw [hb]
 simp only [Bool.false_eq_true,if_false,hsh,show Zq σ []=σ from rfl,hre]
 unfold Zbz
 rw [if_pos hall,hvs,hh,hO,hv]
 simp only [Zav,hne,Bool.false_and,Bool.false_eq_true,if_false,hl1,hl2,decide_true,hk,hff,Bool.and_self,if_true]
end
section
section
variable (P:List AVal) (hP:P.length=26) (hN:Zd P=true) (l:Zb) (hl:l.length<=140737488355328)
include hP hN hl
theorem ZGI (xs:List AVal) {c:Int} (h:Zap l=.error c):evC FC PR BY 4 ZdE [(1,.ref 3 0),(0,.ref 0 0)] [.var [.ref 1 0],.var (Zk P 11 2 0 xs.length++[.lst false (l.map Zc)]),.row 0 1 xs,.var [.ref 1 0]]=some (.panic (ZB c),[],[.var [.ref 1 0],.var (Zk P 11 2 0 xs.length++[.lst false (l.map Zc)]),.row 0 1 xs,.var [.ref 1 0],.free]):=by
 have hT:=fun σ sq hs hr=>Zsz P hP hN 11 (by omega) xs.length 1 xs l hl σ 1 2 0 sq (by omega) hs hr h
 have hL:=Zb0 P hP hN 11 (by omega) xs.length 2 0
 have hc:(Zk P 11 2 0 xs.length)[11]?=some (.sl 2 0 0 xs.length):=by unfold Zk;rw [List.getElem?_set_self (by omega)]
 have a4:=fun L=>(Zad _ hL 11 (by omega) L).trans hc
 simp -implicitDefEqProofs only [EQA,Nat.reduceAdd,Nat.reduceSub,Nat.reduceLT,Nat.reduceLeDiff,Nat.reduceEqDiff,Nat.reduceBEq,reduceCtorEq,↓reduceIte,ZdE,oI,oN,hT,a4,ZhS,Zdy,List.any_cons,List.any_nil,Zac,Zag,Zai,Zao,Zaq,Zal,Zdo,List.lookup_cons,List.lookup_nil]
theorem ZCg (xs:List AVal) (k:Int) (hk:P[0]?=some (.int .i64 k)) {e:Int} (h:ZaK k l=.error e):∃ r:Zb,evC FC PR BY 4 ZdC [(1,.ref 3 0),(0,.ref 0 0)] [.var [.ref 1 0],.var (Zk P 8 2 0 xs.length++[.lst false (l.map Zc)]),.row 0 1 xs,.var [.ref 1 0]]=some (.panic (ZB e),[],[.var [.ref 1 0],.var (Zk P 8 2 0 xs.length++[.lst false (r.map Zc)]),.row 0 1 xs,.var [.ref 1 0],.free]):=by
 have hk0:(Zk P 8 1 0 xs.length)[0]?=some (.int .i64 k):=by unfold Zk;rw [List.getElem?_set_ne (by omega)];exact hk
 have hT0:=fun (σ:Za) sq (hs:σ[1]?=some (.var (Zk P 8 2 0 xs.length++[.lst false (l.map Zc)]))) (hr:σ[2]?=some (.row 0 1 xs))=>Zx7 P hP hN 8 (by omega) xs.length 1 xs l hl k hk0 σ 1 2 0 sq (by omega) hs hr h
 have hL:=Zb0 P hP hN 8 (by omega) xs.length 2 0
 have hc:(Zk P 8 2 0 xs.length)[8]?=some (.sl 2 0 0 xs.length):=by unfold Zk;rw [List.getElem?_set_self (by omega)]
 have a4:=fun L=>(Zad _ hL 8 (by omega) L).trans hc
 obtain ⟨r,hT⟩:=hT0 [.var [.ref 1 0],.var (Zk P 8 2 0 xs.length++[.lst false (l.map Zc)]),.row 0 1 xs,.var [.ref 1 0],.free] 4 rfl rfl
 refine ⟨r,?_⟩
 simp -implicitDefEqProofs only [EQA,Nat.reduceAdd,Nat.reduceSub,Nat.reduceLT,Nat.reduceLeDiff,Nat.reduceEqDiff,Nat.reduceBEq,reduceCtorEq,↓reduceIte,ZdC,oI,oN,hT,a4,ZhS,Zdy,List.any_cons,List.any_nil,Zac,Zag,Zai,Zao,Zaq,Zal,Zdo,List.lookup_cons,List.lookup_nil]
end
section
variable {cs:List AVal} {r:AVal} {σ:Za}
theorem Zvc (hr:ZQ r=true) (hc:Zd cs=true):Z6 3 (.var [.ref 1 0]::.var cs::.var [.ref 1 0]::σ) r=some (r,[.var [.ref 1 0],.var cs,.var [.ref 1 0]]):=by
 have e1:=fun ρ=>Za7 ρ r hr
 have e2:=fun ρ=>ZaW ρ cs hc
 have hi:Zv 3 [r] (.var [.ref 1 0]::.var cs::.var [.ref 1 0]::σ)=[0,1,2]:=by
  have : Zp [r]=[]:=by simp only [Zp,(e1 (fun _ _=>none)).2,List.append_nil]
  have hR:List.range 3=[0,1,2]:=rfl
  simp only [Zv,this,List.nil_append,hR,List.flatMap_cons,List.flatMap_nil,List.append_nil,List.getD_cons_zero,List.getD_cons_succ,ZC,(e2 (fun _ _=>none)).2]
  rfl
 have hρ:Zj (.var [.ref 1 0]::.var cs::.var [.ref 1 0]::σ) 3 [0,1,2] 1 0=some (1,0):=rfl
 simp only [Z6,gcA,hi,Zf,(e1 _).1,Zr,List.getD_cons_zero,List.getD_cons_succ,Zw,Zm,hρ,(e2 _).1]
theorem Zuc {w:Nat} {xs:List AVal} (hr:ZQ r=true) (hc:Zp cs=[3]) (hren:∀ ρ:Rho,ρ 3 0=some (3,0)->Zf ρ cs=cs):Z6 3 (.var [.ref 1 0]::.var cs::.var [.ref 1 0]::.row 0 w xs::σ) r=some (r,[.var [.ref 1 0],.var cs,.var [.ref 1 0],.row 0 w xs]):=by
 have e1:=fun ρ=>Za7 ρ r hr
 have hi:Zv 3 [r] (.var [.ref 1 0]::.var cs::.var [.ref 1 0]::.row 0 w xs::σ)=[0,1,2,3]:=by
  have : Zp [r]=[]:=by simp only [Zp,(e1 (fun _ _=>none)).2,List.append_nil]
  have hR:List.range 3=[0,1,2]:=rfl
  simp only [Zv,this,List.nil_append,hR,List.flatMap_cons,List.flatMap_nil,List.append_nil,List.getD_cons_zero,List.getD_cons_succ,ZC,hc]
  rfl
 have hρ:Zj (.var [.ref 1 0]::.var cs::.var [.ref 1 0]::.row 0 w xs::σ) 3 [0,1,2,3] 1 0=some (1,0):=rfl
 have hρ3:Zj (.var [.ref 1 0]::.var cs::.var [.ref 1 0]::.row 0 w xs::σ) 3 [0,1,2,3] 3 0=some (3,0):=rfl
 simp only [Z6,gcA,hi,Zf,(e1 _).1,Zr,List.getD_cons_zero,List.getD_cons_succ,ZE,Zl,Zw,Zm,hρ,hren _ hρ3]
 rfl
theorem Zk2 {w g:Nat} {xs:List AVal} (hr:ZQ r=true) (hg:g<=1) (hc:Zp cs=[2]) (hren:∀ ρ:Rho,ρ 2 g=some (2,g)->Zf ρ cs=cs):Z6 4 (.var [.ref 1 0]::.var cs::.row g w xs::.var [.ref 1 0]::σ) r=some (r,[.var [.ref 1 0],.var cs,.row g w xs,.var [.ref 1 0]]):=by
 have e1:=fun ρ=>Za7 ρ r hr
 have hi:Zv 4 [r] (.var [.ref 1 0]::.var cs::.row g w xs::.var [.ref 1 0]::σ)=[0,1,2,3]:=by
  have : Zp [r]=[]:=by simp only [Zp,(e1 (fun _ _=>none)).2,List.append_nil]
  have hR:List.range 4=[0,1,2,3]:=rfl
  simp only [Zv,this,List.nil_append,hR,List.flatMap_cons,List.flatMap_nil,List.append_nil,List.getD_cons_zero,List.getD_cons_succ,ZC,hc]
  rfl
 have hng:(if g=0 then 0 else 1)=g:=by split <;> omega
 have hρ:Zj (.var [.ref 1 0]::.var cs::.row g w xs::.var [.ref 1 0]::σ) 4 [0,1,2,3] 1 0=some (1,0):=rfl
 have hρ3:Zj (.var [.ref 1 0]::.var cs::.row g w xs::.var [.ref 1 0]::σ) 4 [0,1,2,3] 2 g=some (2,g):=by
  simp only [Zj,ZJ,Zl,ZE,List.getElem?_cons_succ,List.getElem?_cons_zero]
  simp [hng]
 simp only [Z6,gcA,hi,Zf,(e1 _).1,Zr,List.getD_cons_zero,List.getD_cons_succ,ZE,Zl,Zw,Zm,hρ,hren _ hρ3]
 simp [hng]
end
section
variable (P:List AVal) (hP:P.length=26) (hN:Zd P=true) (l:Zb) (hl:l.length<=140737488355328)
include hP hN hl
theorem Zhr (k:Nat) (hk:k < 26) (r g n:Nat) (L:Zb):Zp (Zk P k r g n++[.lst false (L.map Zc)])=[r]:=by
 rw [ZcC,Zk,ZiY hN (by omega)];rfl
theorem ZhI (k r g n r' g':Nat) (L:Zb) (ρ:Rho) (h:ρ r g=some (r',g')):Zf ρ (Zk P k r g n++[.lst false (L.map Zc)])=Zk P k r' g' n++[.lst false (L.map Zc)]:=by
 rw [ZbP,Zk,Zju ρ hN,Zk]
 simp only [Zm,h,Zf]
theorem Zz4 (h11:P[11]?=some (.lst true [])) {s r:Zb} (h:Zap l=.ok (s,r)):E 123 [.ref 0 0,.ref 2 0] [.var [.ref 1 0],.var (P++[.lst false (l.map Zc)]),.var [.ref 1 0]]=some (.tup [],[.var [.ref 1 0],.var (Zk P 11 3 0 1++[.lst false (r.map Zc)]),.var [.ref 1 0],.row 0 1 [.str s]]):=by
 rw [Zh (by rfl) ZlQ]
 have:=ZK7 P hP hN l hl h11 h
 have h2:=Zuc (σ:=[]) (w:=1) (xs:=[.str s]) (r:=.tup []) rfl (Zhr P hP hN l hl 11 (by omega) 3 0 1 r) (fun ρ hρ=>ZhI P hP hN l hl 11 3 0 1 3 0 r ρ hρ)
 show Zan 3 _ (evC FC PR BY 3 ZdE [(1,.ref 2 0),(0,.ref 0 0)] _)=_
 rw [this]
 exact h2
theorem ZMQ {c:Int} (h:Zap l=.error c) (h11:P[11]?=some (.lst true [])):E 123 [.ref 0 0,.ref 2 0] [.var [.ref 1 0],.var (P++[.lst false (l.map Zc)]),.var [.ref 1 0]]=some (.pan (ZB c),[.var [.ref 1 0],.var (P++[.lst false (l.map Zc)]),.var [.ref 1 0]]):=by
 rw [Zh (by rfl) ZlQ]
 have:=ZAO P hP hN l hl h h11
 have h2:=Zvc (σ:=[.free]) (r:=.pan (ZB c)) rfl (Zy P hP hN false (l.map Zc))
 show Zan 3 _ (evC FC PR BY 3 ZdE [(1,.ref 2 0),(0,.ref 0 0)] _)=_
 rw [this]
 exact h2
theorem ZIi (h8:P[8]?=some (.lst true [])) (k:Int) (hk:P[0]?=some (.int .i64 k)) {c:Int} {r:Zb} (h:ZaK k l=.ok (c,r)):E 125 [.ref 0 0,.ref 2 0] [.var [.ref 1 0],.var (P++[.lst false (l.map Zc)]),.var [.ref 1 0]]=some (.tup [],[.var [.ref 1 0],.var (Zk P 8 3 0 1++[.lst false (r.map Zc)]),.var [.ref 1 0],.row 0 1 [.int .i64 c]]):=by
 rw [Zh (by rfl) ZmG]
 have:=ZBN P hP hN l hl h8 k hk h
 have h2:=Zuc (σ:=[]) (w:=1) (xs:=[.int .i64 c]) (r:=.tup []) rfl (Zhr P hP hN l hl 8 (by omega) 3 0 1 r) (fun ρ hρ=>ZhI P hP hN l hl 8 3 0 1 3 0 r ρ hρ)
 show Zan 3 _ (evC FC PR BY 3 ZdC [(1,.ref 2 0),(0,.ref 0 0)] _)=_
 rw [this]
 exact h2
theorem ZKK (h8:P[8]?=some (.lst true [])) (k:Int) (hk:P[0]?=some (.int .i64 k)) {e:Int} (h:ZaK k l=.error e):∃ r:Zb,E 125 [.ref 0 0,.ref 2 0] [.var [.ref 1 0],.var (P++[.lst false (l.map Zc)]),.var [.ref 1 0]]=some (.pan (ZB e),[.var [.ref 1 0],.var (P++[.lst false (r.map Zc)]),.var [.ref 1 0]]):=by
 obtain ⟨r,this⟩:=ZNa P hP hN l hl h8 k hk h
 have h2:=Zvc (σ:=[.free]) (r:=.pan (ZB e)) rfl (Zy P hP hN false (r.map Zc))
 refine ⟨r,?_⟩
 rw [Zh (by rfl) ZmG]
 show Zan 3 _ (evC FC PR BY 3 ZdC [(1,.ref 2 0),(0,.ref 0 0)] _)=_
 rw [this]
 exact h2
variable (xs:List AVal)
theorem ZCN (hx:xs.length*16+16<=140737488355328) (kk:kOk 1 xs=true) {s r:Zb} (h:Zap l=.ok (s,r)):E 123 [.ref 0 0,.ref 3 0] [.var [.ref 1 0],.var (Zk P 11 2 0 xs.length++[.lst false (l.map Zc)]),.row 0 1 xs,.var [.ref 1 0]]=some (.tup [],[.var [.ref 1 0],.var (Zk P 11 2 1 (xs.length+1)++[.lst false (r.map Zc)]),.row 1 1 (xs++[.str s]),.var [.ref 1 0]]):=by
 rw [Zh (by rfl) ZlQ]
 have:=ZMz P hP hN l hl xs hx kk h
 have h2:=Zk2 (σ:=[.free]) (w:=1) (g:=1) (xs:=xs++[.str s]) (r:=.tup []) rfl (by omega) (Zhr P hP hN l hl 11 (by omega) 2 1 (xs.length+1) r) (fun ρ hρ=>ZhI P hP hN l hl 11 2 1 (xs.length+1) 2 1 r ρ hρ)
 show Zan 4 _ (evC FC PR BY 4 ZdE [(1,.ref 3 0),(0,.ref 0 0)] _)=_
 rw [this]
 exact h2
theorem ZIJ {c:Int} (h:Zap l=.error c):E 123 [.ref 0 0,.ref 3 0] [.var [.ref 1 0],.var (Zk P 11 2 0 xs.length++[.lst false (l.map Zc)]),.row 0 1 xs,.var [.ref 1 0]]=some (.pan (ZB c),[.var [.ref 1 0],.var (Zk P 11 2 0 xs.length++[.lst false (l.map Zc)]),.row 0 1 xs,.var [.ref 1 0]]):=by
 rw [Zh (by rfl) ZlQ]
 have:=ZGI P hP hN l hl xs h
 have h2:=Zk2 (σ:=[.free]) (w:=1) (g:=0) (xs:=xs) (r:=.pan (ZB c)) rfl (by omega) (Zhr P hP hN l hl 11 (by omega) 2 0 xs.length l) (fun ρ hρ=>ZhI P hP hN l hl 11 2 0 xs.length 2 0 l ρ hρ)
 show Zan 4 _ (evC FC PR BY 4 ZdE [(1,.ref 3 0),(0,.ref 0 0)] _)=_
 rw [this]
 exact h2
theorem ZIh (hx:xs.length*8+8<=140737488355328) (kk:kOk 1 xs=true) (k:Int) (hk:P[0]?=some (.int .i64 k)) {c:Int} {r:Zb} (h:ZaK k l=.ok (c,r)):E 125 [.ref 0 0,.ref 3 0] [.var [.ref 1 0],.var (Zk P 8 2 0 xs.length++[.lst false (l.map Zc)]),.row 0 1 xs,.var [.ref 1 0]]=some (.tup [],[.var [.ref 1 0],.var (Zk P 8 2 1 (xs.length+1)++[.lst false (r.map Zc)]),.row 1 1 (xs++[.int .i64 c]),.var [.ref 1 0]]):=by
 rw [Zh (by rfl) ZmG]
 have:=ZLg P hP hN l hl xs hx kk k hk h
 have h2:=Zk2 (σ:=[.free]) (w:=1) (g:=1) (xs:=xs++[.int .i64 c]) (r:=.tup []) rfl (by omega) (Zhr P hP hN l hl 8 (by omega) 2 1 (xs.length+1) r) (fun ρ hρ=>ZhI P hP hN l hl 8 2 1 (xs.length+1) 2 1 r ρ hρ)
 show Zan 4 _ (evC FC PR BY 4 ZdC [(1,.ref 3 0),(0,.ref 0 0)] _)=_
 rw [this]
 exact h2
theorem ZxV (k:Int) (hk:P[0]?=some (.int .i64 k)) {e:Int} (h:ZaK k l=.error e):∃ r:Zb,E 125 [.ref 0 0,.ref 3 0] [.var [.ref 1 0],.var (Zk P 8 2 0 xs.length++[.lst false (l.map Zc)]),.row 0 1 xs,.var [.ref 1 0]]=some (.pan (ZB e),[.var [.ref 1 0],.var (Zk P 8 2 0 xs.length++[.lst false (r.map Zc)]),.row 0 1 xs,.var [.ref 1 0]]):=by
 obtain ⟨r,this⟩:=ZCg P hP hN l hl xs k hk h
 have h2:=Zk2 (σ:=[.free]) (w:=1) (g:=0) (xs:=xs) (r:=.pan (ZB e)) rfl (by omega) (Zhr P hP hN l hl 8 (by omega) 2 0 xs.length r) (fun ρ hρ=>ZhI P hP hN l hl 8 2 0 xs.length 2 0 r ρ hρ)
 refine ⟨r,?_⟩
 rw [Zh (by rfl) ZmG]
 show Zan 4 _ (evC FC PR BY 4 ZdC [(1,.ref 3 0),(0,.ref 0 0)] _)=_
 rw [this]
 exact h2
end
end
section
def ZaP {α:Type} (one:Zb->RK α):Nat->Zb->Except Int (List α)
 | 0,l=>if l.length=0 then .ok [] else .error 0
 | n+1,l=>if l.length=0 then .ok [] else match one l with
  | .error e=>.error e
  | .ok (a,r)=>match ZaP one n r with
   | .error e=>.error e
   | .ok t=>.ok (a::t)
section
variable {O:ZU} {bf:Nat->Bool} {f:Nat} {cs cs1 cs2 cs3 xs xs2:List AVal} {w w2 g2:Nat} {q:AVal} {σ:Za} {sq:Nat}
theorem Zu0 (h0:σ[0]?=some (.var cs)) (h1:σ[1]?=some (.var [.ref 0 0])) (h2:σ[2]?=some (.var [.ref 0 0])) (hc:Zp cs=[]):Zu σ 1000 [1,2] []=[1,0,2]:=by
 have d0:σ.getD 0 .free=.var cs:=by simp [List.getD_eq_getElem?_getD,h0]
 have d1:σ.getD 1 .free=.var [.ref 0 0]:=by simp [List.getD_eq_getElem?_getD,h1]
 have d2:σ.getD 2 .free=.var [.ref 0 0]:=by simp [List.getD_eq_getElem?_getD,h2]
 rw [show (1000:Nat)=995+1+1+1+1+1 from rfl]
 simp only [Zu,d0,d1,d2,ZC,Zp,ZS,hc,List.contains_cons,List.contains_nil,List.append_nil,List.nil_append,List.cons_append,Bool.or_false,Bool.false_eq_true,if_false]
 simp
theorem Zyu (h0:σ[0]?=some (.var cs)) (h1:σ[1]?=some (.var [.ref 0 0])) (h2:σ[2]?=some (.var [.ref 0 0])) (h3:σ[3]?=some (.row 0 w xs)) (hc:Zp cs=[3]):Zu σ 1000 [1,2] []=[1,0,3,2]:=by
 have d0:σ.getD 0 .free=.var cs:=by simp [List.getD_eq_getElem?_getD,h0]
 have d1:σ.getD 1 .free=.var [.ref 0 0]:=by simp [List.getD_eq_getElem?_getD,h1]
 have d2:σ.getD 2 .free=.var [.ref 0 0]:=by simp [List.getD_eq_getElem?_getD,h2]
 have d3:σ.getD 3 .free=.row 0 w xs:=by simp [List.getD_eq_getElem?_getD,h3]
 rw [show (1000:Nat)=994+1+1+1+1+1+1 from rfl]
 simp only [Zu,d0,d1,d2,d3,ZC,Zp,ZS,hc,List.contains_cons,List.contains_nil,List.append_nil,List.nil_append,List.cons_append,Bool.or_false,Bool.false_eq_true,if_false]
 simp
theorem ZNG (hb:bf f=false) (hc:Zd cs=true) (hq:ZQ q=true) (hback:∀ ρ:Rho,ρ 3 0=some (3,0)->Zf ρ cs2=cs3) (hO:O f [.ref 0 0,.ref 2 0] [.var [.ref 1 0],.var cs,.var [.ref 1 0]]=some (q,[.var [.ref 1 0],.var cs2,.var [.ref 1 0],.row 0 w xs])) :
  Zo O bf [.var cs,.var [.ref 0 0],.var [.ref 0 0],.free,.free,.free,.free] 3 f 4 false [.ref 1 0,.ref 2 0]=some (q,[.var cs3,.var [.ref 0 0],.var [.ref 0 0],.row 0 w xs,.free,.free,.free],{ any:=true,upd:=[(1,[.ref 0 0]),(0,cs3),(2,[.ref 0 0])] }):=by
 have ec:=fun ρ=>ZaW ρ cs hc
 refine Zc4 (ids:=[1,0,2]) (vs:=[.ref 1 0,.ref 2 0]) hb rfl (Zu0 rfl rfl rfl (ec (fun _ _=>none)).2) rfl rfl rfl ?_ hO rfl (by simp) (by simp) rfl rfl (Za7 _ q hq).1 ?_ rfl
 ·show [ZN.var (Zf _ [.ref 0 0]),.var (Zf _ cs),.var (Zf _ [.ref 0 0])]=_
  rw [(ec _).1];rfl
 ·have hb3:=hback (Zax [.var cs,.var [.ref 0 0],.var [.ref 0 0],.free,.free,.free,.free] [1,0,2] 3) rfl
  show [ZN.var (Zf _ cs2),.var (Zf _ [.ref 1 0]),.var (Zf _ [.ref 1 0]),.row 0 w xs,.free,.free,.free]=_
  rw [hb3];rfl
theorem ZOW (hb:bf f=false) (hc:Zd cs=true) (hq:ZQ q=true) (hc2:Zd cs2=true) (hO:O f [.ref 0 0,.ref 2 0] [.var [.ref 1 0],.var cs,.var [.ref 1 0]]=some (q,[.var [.ref 1 0],.var cs2,.var [.ref 1 0]])) :
  Zo O bf [.var cs,.var [.ref 0 0],.var [.ref 0 0],.free,.free,.free,.free] 3 f 4 false [.ref 1 0,.ref 2 0]=some (q,[.var cs2,.var [.ref 0 0],.var [.ref 0 0],.free,.free,.free,.free],{ any:=true,upd:=[(1,[.ref 0 0]),(0,cs2),(2,[.ref 0 0])] }):=by
 have ec:=fun ρ=>ZaW ρ cs hc
 refine Zc4 (ids:=[1,0,2]) (vs:=[.ref 1 0,.ref 2 0]) hb rfl (Zu0 rfl rfl rfl (ec (fun _ _=>none)).2) rfl rfl rfl ?_ hO rfl (by simp) (by simp) rfl rfl (Za7 _ q hq).1 ?_ rfl
 ·show [ZN.var (Zf _ [.ref 0 0]),.var (Zf _ cs),.var (Zf _ [.ref 0 0])]=_
  rw [(ec _).1];rfl
 ·show [ZN.var (Zf _ cs2),.var (Zf _ [.ref 1 0]),.var (Zf _ [.ref 1 0]),.free,.free,.free,.free]=_
  rw [(ZaW _ cs2 hc2).1];rfl
theorem ZuA (hb:bf f=false) (hc:Zp cs=[3]) (hren:∀ ρ:Rho,ρ 3 0=some (2,0)->Zf ρ cs=cs1) (hq:ZQ q=true) (hg2:g2<=1) (hback:∀ ρ:Rho,ρ 2 g2=some (3,g2)->Zf ρ cs2=cs3) (hO:O f [.ref 0 0,.ref 3 0] [.var [.ref 1 0],.var cs1,.row 0 w xs,.var [.ref 1 0]]=some (q,[.var [.ref 1 0],.var cs2,.row g2 w2 xs2,.var [.ref 1 0]])) :
  Zo O bf [.var cs,.var [.ref 0 0],.var [.ref 0 0],.row 0 w xs,.free,.free,.free,.free] 4 f 4 false [.ref 1 0,.ref 2 0]=some (q,[.var cs3,.var [.ref 0 0],.var [.ref 0 0],.row g2 w2 xs2,.free,.free,.free,.free],{ any:=true,upd:=[(1,[.ref 0 0]),(0,cs3),(2,[.ref 0 0])] }):=by
 refine Zc4 (ids:=[1,0,3,2]) (vs:=[.ref 1 0,.ref 2 0]) hb rfl (Zyu rfl rfl rfl rfl hc) rfl rfl rfl ?_ hO rfl (by simp) (by simp) ?_ rfl (Za7 _ q hq).1 ?_ rfl
 ·have h1:=hren (Zj [.var cs,.var [.ref 0 0],.var [.ref 0 0],.row 0 w xs,.free,.free,.free,.free] 0 [1,0,3,2]) rfl
  show [ZN.var (Zf _ [.ref 0 0]),.var (Zf _ cs),.row 0 w xs,.var (Zf _ [.ref 0 0])]=_
  rw [h1];rfl
 ·simp [Za0,okB,Zce,Zl,hg2]
 ·have hb3:=hback (Zax [.var cs,.var [.ref 0 0],.var [.ref 0 0],.row 0 w xs,.free,.free,.free,.free] [1,0,3,2] 4) (by simp [Zax,Zl])
  show [ZN.var (Zf _ cs2),.var (Zf _ [.ref 1 0]),.var (Zf _ [.ref 1 0]),.row (0+g2) w2 xs2,.free,.free,.free,.free]=_
  rw [hb3,Nat.zero_add];rfl
theorem Zu4 {f g:Nat} (hc:Zp cs=[3]) (hg:g<=1) (hren:∀ ρ:Rho,ρ 3 g=some (3,0)->Zf ρ cs=cs1) (τ:Za) :
  gcT 3 [(1,.fn f [.ref 1 0,.ref 2 0]),(0,.ref 0 0)] (.var cs::.var [.ref 0 0]::.var [.ref 0 0]::.row g w xs::τ)=([(1,.fn f [.ref 1 0,.ref 2 0]),(0,.ref 0 0)],[.var cs1,.var [.ref 0 0],.var [.ref 0 0],.row 0 w xs]):=by
 have hi:Zv 3 [.fn f [.ref 1 0,.ref 2 0],.ref 0 0] (.var cs::.var [.ref 0 0]::.var [.ref 0 0]::.row g w xs::τ)=[0,1,2,3]:=by
  have hR:List.range 3=[0,1,2]:=rfl
  simp only [Zv,hR,List.flatMap_cons,List.flatMap_nil,List.append_nil,List.getD_cons_zero,List.getD_cons_succ,ZC,Zp,ZS,hc]
  rfl
 have hρ:Zj (.var cs::.var [.ref 0 0]::.var [.ref 0 0]::.row g w xs::τ) 3 [0,1,2,3] 3 g=some (3,0):=by
  simp [Zj,ZJ,Zl,ZE]
 have hρ0:Zj (.var cs::.var [.ref 0 0]::.var [.ref 0 0]::.row g w xs::τ) 3 [0,1,2,3] 0 0=some (0,0):=rfl
 have hρ1:Zj (.var cs::.var [.ref 0 0]::.var [.ref 0 0]::.row g w xs::τ) 3 [0,1,2,3] 1 0=some (1,0):=rfl
 have hρ2:Zj (.var cs::.var [.ref 0 0]::.var [.ref 0 0]::.row g w xs::τ) 3 [0,1,2,3] 2 0=some (2,0):=rfl
 simp only [gcT,gcA,List.map_cons,List.map_nil,hi,Zr,List.getD_cons_zero,List.getD_cons_succ,ZE,Zl,Zw,Zf,Zm,hρ0,hρ1,hρ2,hren _ hρ]
 simp
theorem Zlo {r:AVal} (hr:ZQ r=true) (hc:Zp cs=[3]) (hren:∀ ρ:Rho,ρ 3 0=some (3,0)->Zf ρ cs=cs) (τ:Za):Z6 3 (.var cs::.var [.ref 0 0]::.var [.ref 0 0]::.row 0 w xs::τ) r=some (r,[.var cs,.var [.ref 0 0],.var [.ref 0 0],.row 0 w xs]):=by
 have e1:=fun ρ=>Za7 ρ r hr
 have hi:Zv 3 [r] (.var cs::.var [.ref 0 0]::.var [.ref 0 0]::.row 0 w xs::τ)=[0,1,2,3]:=by
  have hR:List.range 3=[0,1,2]:=rfl
  simp only [Zv,(e1 (fun _ _=>none)).2,List.nil_append,hR,List.flatMap_cons,List.flatMap_nil,List.append_nil,List.getD_cons_zero,List.getD_cons_succ,ZC,Zp,ZS,hc]
  rfl
 have hρ3:Zj (.var cs::.var [.ref 0 0]::.var [.ref 0 0]::.row 0 w xs::τ) 3 [0,1,2,3] 3 0=some (3,0):=rfl
 have hρ0:Zj (.var cs::.var [.ref 0 0]::.var [.ref 0 0]::.row 0 w xs::τ) 3 [0,1,2,3] 0 0=some (0,0):=rfl
 simp only [Z6,gcA,hi,Zf,(e1 _).1,Zr,List.getD_cons_zero,List.getD_cons_succ,ZE,Zl,Zw,Zm,hρ0,hren _ hρ3]
 rfl
theorem Zly {r:AVal} (hr:ZQ r=true) (hc:Zd cs=true) (τ:Za):Z6 3 (.var cs::.var [.ref 0 0]::.var [.ref 0 0]::τ) r=some (r,[.var cs,.var [.ref 0 0],.var [.ref 0 0]]):=by
 have e1:=fun ρ=>Za7 ρ r hr
 have e2:=fun ρ=>ZaW ρ cs hc
 have hi:Zv 3 [r] (.var cs::.var [.ref 0 0]::.var [.ref 0 0]::τ)=[0,1,2]:=by
  have hR:List.range 3=[0,1,2]:=rfl
  simp only [Zv,(e1 (fun _ _=>none)).2,List.nil_append,hR,List.flatMap_cons,List.flatMap_nil,List.append_nil,List.getD_cons_zero,List.getD_cons_succ,ZC,Zp,ZS,(e2 (fun _ _=>none)).2]
  rfl
 have hρ0:Zj (.var cs::.var [.ref 0 0]::.var [.ref 0 0]::τ) 3 [0,1,2] 0 0=some (0,0):=rfl
 simp only [Z6,gcA,hi,Zf,(e1 _).1,Zr,List.getD_cons_zero,List.getD_cons_succ,Zw,Zm,hρ0,(e2 _).1]
end
section
variable {α:Type} {one:Zb->RK α} {g:α->AVal} {f k:Nat} (P:List AVal) (hP:P.length=26) (hN:Zd P=true) (hk:k < 26) (hf:f < 1000000) (hby:BY f=false)
  (hlen:∀ {l s r},one l=.ok (s,r)->r.length < l.length)
  (hT1:∀ (xs:List α) (l:Zb) (s:α) (r:Zb),l.length<=1099511627776->xs.length<=1099511627776->one l=.ok (s,r)->E f [.ref 0 0,.ref 3 0] [.var [.ref 1 0],.var (Zk P k 2 0 xs.length++[.lst false (l.map Zc)]),.row 0 1 (xs.map g),.var [.ref 1 0]]=some (.tup [],[.var [.ref 1 0],.var (Zk P k 2 1 (xs.length+1)++[.lst false (r.map Zc)]),.row 1 1 ((xs++[s]).map g),.var [.ref 1 0]]))
  (hF1:∀ (xs:List α) (l:Zb) (e:Int),l.length<=1099511627776->one l=.error e->∃ r:Zb,E f [.ref 0 0,.ref 3 0] [.var [.ref 1 0],.var (Zk P k 2 0 xs.length++[.lst false (l.map Zc)]),.row 0 1 (xs.map g),.var [.ref 1 0]]=some (.pan (ZB e),[.var [.ref 1 0],.var (Zk P k 2 0 xs.length++[.lst false (r.map Zc)]),.row 0 1 (xs.map g),.var [.ref 1 0]]))
include hP hN hk
def H3 (P:List AVal) (k n:Nat) (l:Zb) (ys:List AVal):Za:=[.var (Zk P k 3 0 n++[.lst false (l.map Zc)]),.var [.ref 0 0],.var [.ref 0 0],.row 0 1 ys]
theorem Zbu (r g n:Nat) (L:Zb):Zp (Zk P k r g n++[.lst false (L.map Zc)])=[r]:=by
 rw [ZcC,Zk,ZiY hN (by omega)];rfl
theorem ZaQ (r g n r' g':Nat) (L:Zb) (ρ:Rho) (h:ρ r g=some (r',g')):Zf ρ (Zk P k r g n++[.lst false (L.map Zc)])=Zk P k r' g' n++[.lst false (L.map Zc)]:=by
 rw [ZbP,Zk,Zju ρ hN,Zk]
 simp only [Zm,h,Zf]
include hf hby hlen hT1 hF1
theorem ZrN:∀ (n:Nat) (l:Zb) (xs:List α),l.length<=n->n+xs.length<=1099511627776 ->
  (∀ ts,ZaP one n l=.ok ts->Za5 3 [(1,.fn f [.ref 1 0,.ref 2 0]),(0,.ref 0 0)] (H3 P k xs.length l (xs.map g))=some (.tup [],H3 P k (xs++ts).length [] ((xs++ts).map g))) /\
  (∀ e,ZaP one n l=.error e->∃ (xs':List α) (r:Zb),Za5 3 [(1,.fn f [.ref 1 0,.ref 2 0]),(0,.ref 0 0)] (H3 P k xs.length l (xs.map g))=some (.pan (ZB e),H3 P k xs'.length r (xs'.map g))):=by
 intro n
 induction n with
 | zero =>
  intro l xs hl hx
  have l0:l=[]:=List.eq_nil_of_length_eq_zero (by omega)
  subst l0
  refine ⟨fun ts h=>?_,fun e h=>by simp [ZaP] at h⟩
  have : ts=[]:=by simpa [ZaP] using h.symm
  subst this
  rw [List.append_nil]
  have hL:=Zb0 P hP hN k hk xs.length 3 0
  have b2:=Zat _ hL
  have hO:=Zlo (w:=1) (xs:=xs.map g) (r:=.tup []) rfl (Zbu P hP hN hk 3 0 xs.length []) (fun ρ h=>ZaQ P hP hN hk 3 0 xs.length 3 0 [] ρ h)
  unfold H3 Za5
  rw [Z2]
  generalize Zk P k 3 0 xs.length=Q at *
  generalize xs.map g=ys at *
  simp -implicitDefEqProofs only [EQA,Nat.reduceAdd,Nat.reduceLT,Nat.reduceEqDiff,Nat.reduceBEq,reduceCtorEq,decide_eq_true_eq,ite_self,↓reduceIte,ZmL,ZdG,Zc1,oI,b2]
  exact hO _
 | succ n ih =>
  intro l xs hl hx
  have hL:=Zb0 P hP hN k hk xs.length 3 0
  have b2:=Zat _ hL
  by_cases l0:l.length=0
  ·have l0:l=[]:=List.eq_nil_of_length_eq_zero l0
   subst l0
   refine ⟨fun ts h=>?_,fun e h=>by simp [ZaP] at h⟩
   have : ts=[]:=by simpa [ZaP] using h.symm
   subst this
   rw [List.append_nil]
   have hO:=Zlo (w:=1) (xs:=xs.map g) (r:=.tup []) rfl (Zbu P hP hN hk 3 0 xs.length []) (fun ρ h=>ZaQ P hP hN hk 3 0 xs.length 3 0 [] ρ h)
   unfold H3 Za5
   rw [Z2]
   generalize Zk P k 3 0 xs.length=Q at *
   generalize xs.map g=ys at *
   simp -implicitDefEqProofs only [EQA,Nat.reduceAdd,Nat.reduceLT,Nat.reduceEqDiff,Nat.reduceBEq,reduceCtorEq,decide_eq_true_eq,ite_self,↓reduceIte,ZmL,ZdG,Zc1,oI,b2]
   exact hO _
  ·have z1:((l.length:Nat):Int) > 0:=by omega
   have z2:(0:Int) < ((l.length:Nat):Int):=by omega
   cases ho:one l with
   | error e =>
    refine ⟨fun ts h=>by simp [ZaP,l0,ho] at h,fun e' h=>?_⟩
    have : e'=e:=by simpa [ZaP,l0,ho] using h.symm
    subst this
    obtain ⟨r,hE⟩:=hF1 xs l e' (by omega) ho
    have hC:=ZuA (O:=E) (bf:=BY) (cs:=Zk P k 3 0 xs.length++[.lst false (l.map Zc)]) (cs3:=Zk P k 3 0 xs.length++[.lst false (r.map Zc)]) hby (Zbu P hP hN hk 3 0 xs.length l) (fun ρ h=>ZaQ P hP hN hk 3 0 xs.length 2 0 l ρ h) (q:=.pan (ZB e')) rfl (by omega) (fun ρ h=>ZaQ P hP hN hk 2 0 xs.length 3 0 r ρ h) hE
    have hO:=Zlo (w:=1) (xs:=xs.map g) (r:=.pan (ZB e')) rfl (Zbu P hP hN hk 3 0 xs.length r) (fun ρ h=>ZaQ P hP hN hk 3 0 xs.length 3 0 r ρ h)
    refine ⟨xs,r,?_⟩
    unfold H3 Za5
    rw [Z2]
    clear hE hT1 hF1 ih
    generalize Zk P k 3 0 xs.length=Q at *
    generalize xs.map g=ys at *
    generalize ZB e'=ce at *
    simp -implicitDefEqProofs only [EQA,Nat.reduceAdd,Nat.reduceLT,Nat.reduceEqDiff,Nat.reduceBEq,reduceCtorEq,↓reduceIte,ZdG,Zc1,oI,b2,hC,hf,z1]
    exact hO _
   | ok s =>
    obtain ⟨s,r⟩:=s
    have hr:=hlen ho
    have hE:=hT1 xs l s r (by omega) (by omega) ho
    have hC:=ZuA (O:=E) (bf:=BY) (cs:=Zk P k 3 0 xs.length++[.lst false (l.map Zc)]) (cs3:=Zk P k 3 1 (xs.length+1)++[.lst false (r.map Zc)]) hby (Zbu P hP hN hk 3 0 xs.length l) (fun ρ h=>ZaQ P hP hN hk 3 0 xs.length 2 0 l ρ h) (q:=.tup []) rfl (by omega) (fun ρ h=>ZaQ P hP hN hk 2 1 (xs.length+1) 3 1 r ρ h) hE
    have hG:=Zu4 (f:=f) (w:=1) (xs:=(xs++[s]).map g) (g:=1) (Zbu P hP hN hk 3 1 (xs.length+1) r) (by omega) (fun ρ h=>ZaQ P hP hN hk 3 1 (xs.length+1) 3 0 r ρ h)
    have step:Za5 3 [(1,.fn f [.ref 1 0,.ref 2 0]),(0,.ref 0 0)] (H3 P k xs.length l (xs.map g))=Za5 3 [(1,.fn f [.ref 1 0,.ref 2 0]),(0,.ref 0 0)] (H3 P k (xs++[s]).length r ((xs++[s]).map g)):=by
     rw [show (xs++[s]).length=xs.length+1 from by simp]
     unfold H3
     conv=>lhs;unfold Za5
     conv=>rhs;unfold Za5
     conv=>lhs;rw [Z2]
     clear hE hT1 hF1 ih
     generalize Zk P k 3 0 xs.length=Q at *
     generalize Zk P k 3 1 (xs.length+1)=Q2 at *
     generalize Zk P k 3 0 (xs.length+1)=Q3 at *
     generalize xs.map g=ys at *
     generalize (xs++[s]).map g=zs at *
     simp -implicitDefEqProofs only [EQA,ZV,Nat.reduceAdd,Nat.reduceLT,Nat.reduceEqDiff,Nat.reduceBEq,reduceCtorEq,↓reduceIte,ZdG,Zc1,oI,b2,hC,hG,hf,z1]
    obtain ⟨i1,i2⟩:=ih r (xs++[s]) (by omega) (by simp;omega)
    refine ⟨fun ts h=>?_,fun e h=>?_⟩
    ·rw [step]
     simp only [ZaP,l0,ho,if_false] at h
     cases hl2:ZaP one n r with
     | error e=>rw [hl2] at h;cases h
     | ok us =>
      rw [hl2] at h
      injection h with h;subst h
      have:=i1 us hl2
      rw [List.append_assoc,List.singleton_append] at this
      exact this
    ·rw [step]
     simp only [ZaP,l0,ho,if_false] at h
     cases hl2:ZaP one n r with
     | error e2 =>
      rw [hl2] at h
      injection h with h;subst h
      exact i2 e2 hl2
     | ok us=>rw [hl2] at h;cases h
end
end
section
open Go.RowKit
def Zfs (m i j:Nat) (rs:List Zcz) (σ:Za):Option (AVal×Za):=match resA [(3,.ref j 0),(2,.ref i 0)] σ rs with
 | some r=>Z6 m σ r
 | none=>none
noncomputable def Zf4 (fs:Nat->Option ZG) (prim:Zcm) (bf:Nat->Bool) (tc:Nat) (c2 c3:Ze) (rs:List Zcz) (m:Nat) (tm1:Tms) (σ1:Za) (i j:Nat):Option (AVal×Za) :=
 match evC fs prim bf σ1.length c2 tm1 σ1 with
 | some (.ret,_,σ2)=>Zfs m i j rs σ2
 | some (.panic (.iface t x),_,σ2)=>if t=tc then match evC fs prim bf σ1.length c3 [(10,x),(1,.ref j 0),(0,.ref i 0)] σ2 with
  | some (.normal,_,σ3)=>Zfs m i j rs σ3
  | _=>none
  else none
 | _=>none
noncomputable def Ziu (fs:Nat->Option ZG) (prim:Zcm) (bf:Nat->Bool) (tc:Nat) (c1 c2 c3:Ze) (rs:List Zcz) (args:List AVal) (σ:Za):Option (AVal×Za) :=
 match evC fs prim bf σ.length c1 (enterA 0 args []) σ with
 | some (.normal,tm1,σ1)=>match tget tm1 2,tget tm1 3 with
  | .ref i 0,.ref j 0=>if σ.length<=σ1.length/\i < σ1.length/\j < σ1.length then Zf4 fs prim bf tc c2 c3 rs σ.length (tput tm1 (some 5) .top) σ1 i j else none
  | _,_=>none
 | _=>none
structure ZmF (P:Program) (f h:FuncId) (ti tc:TypeId) (an1 an2 an3:Ann) (c1 c2 c3:Ze) (rs:List Zcz):Prop where
 ex:∃ (F H:Func) (b1 b2 b3 b4:Code) (i0 j0 j1 j2 j3 bid:Nat) (t1 t2 t3 t4 t5 t6 t7 t8:TypeId) (p1 p2 p3 p4 p5 p6 p7 p8:String) (a1 a2 a3 a4 a5 a6 a7 a8:Array Edge) (at1 at2:Array TypeId) (ims:Array (String×TypeId)) (k:IntKind),
  P.funcs[f]?=some F/\(F.name == "runtime.NumGoroutine")=false/\F.ntmps=20/\ZeQ P F.results.toList=some rs /\
  F.body=some (.seq b1 (.seq (.region i0 #[⟨some 5,.makeFunc (.func h) #[] #[.tmp 2,.tmp 3],t1,p1,a1,none⟩,⟨none,.defer ⟨.value (.tmp 5),#[],at1⟩,t2,p2,a2,none⟩] false) b2)) /\
  ZcJ (ZaY P an1 b1)=c1/\ZcJ (ZaY P an2 b2)=c2/\an1.nt=20/\an2.nt=20/\an2.keep=[2,3] /\
  P.funcs[h]?=some H/\(H.name == "runtime.NumGoroutine")=false/\H.ntmps=13/\H.results=#[] /\
  H.body=some (.seq (.region j0 #[⟨some 5,.call ⟨.builtin .recover,#[],at2⟩,t3,p3,a3,none⟩] false) (.block bid (.seq (.region j1 #[⟨some 7,.binOp .eql ti (.tmp 5) (.const .nilIface) ti,t4,p4,a4,none⟩] false)
   (.cond (.tmp 7) (.region j2 #[⟨some 2,.assign (.tmp 5),t5,p5,a5,none⟩] false)
    (.seq (.region j3 #[⟨some 8,.typeAssert (.tmp 5) ti tc true,t6,p6,a6,none⟩,⟨some 9,.extract (.tmp 8) 1,t7,p7,a7,none⟩,⟨some 10,.extract (.tmp 8) 0,t8,p8,a8,none⟩] false)
     (.cond (.tmp 9) b3 b4)))))) /\
  ZcJ (ZaY P an3 b3)=c3/\an3.nt=13/\P.underlying ti=some (.interface ims)/\P.underlying tc=some (.int k)
section
variable {P:Program} {O:ZU} {bf:Nat->Bool} {base:Nat->Prop} {w0 w:World} {I0 I:Imm} {β:Bmap} {σ:Za}
theorem Zip {m:Nat} {I':Imm} {β':Bmap} {i:Nat} {v:Value} (hk:KeptE m β β') (hi:i < m) (h:VR I β (.ref i 0) v):VR I' β' (.ref i 0) v:=by
 simp only [VR] at h ⊢
 obtain ⟨b,k,c,h1,h2⟩:=h
 exact ⟨b,k,c,hk i hi _ h1,h2⟩
theorem Zu8 {F:Func} {rs:List Zcz} (hrs:ZeQ P F.results.toList=some rs) {m i j:Nat} {tmps:Array Value} {I':Imm} {β':Bmap} {σ' σ2:Za} {w':World} {r:AVal} (hI:I.le I') (hk:KeptE m β β') (R:Rel base w0 I0 I' β' σ2 w') (h2:VR I' β' (.ref i 0) (tmps.getD 2 undef)) (h3:VR I' β' (.ref j 0) (tmps.getD 3 undef)) (h:Zfs m i j rs σ2=some (r,σ')) :
  ∃ v,(results F tmps).run P w'=.ok v w'/\∃ u,Ends r (.returned v) u/\ZbV m base w0 I0 I β r σ' u w':=by
 unfold Zfs at h
 split at h
 ·rename_i x hx
  have T:TR I' β' [(3,.ref j 0),(2,.ref i 0)] tmps:=by
   intro n
   simp only [tget]
   split
   ·rename_i e;subst e;exact h3
   ·split
    ·rename_i e;subst e;exact h2
    ·simp only [VR]
  obtain ⟨v,q1,q2⟩:=ZrW T R hrs hx
  have hnp:∀ y,x≠.pan y:=by rintro y rfl;simp only [VR] at q2
  obtain ⟨p1,p2⟩:=Zmi (⟨I',β',hI,hk,R,by rw [ZfP hnp];exact q2⟩:ZbV m base w0 I0 I β x σ2 v w') h
  refine ⟨v,q1,v,p2 _ ?_,p1⟩
  cases x <;> first | rfl | exact absurd rfl (hnp _)
 ·cases h
theorem pgs {a:Act} {d:Nat} {u:Value} (h:d < a.tmps.size):(a.put (some d) u).tmps.getD d undef=u:=by
 simp [Act.put,Array.getD,h]
theorem ZhV {m:Sem Value} {u:Value} (h:m.run P w=.ok u w):(do let q <-m;pure (Next.value q):Sem Next).run P w=.ok (.value u) w:=by
 rw [Sem.run_bind,h];rfl
theorem pgn {a:Act} {d j:Nat} {u:Value} (h:d≠j):(a.put (some d) u).tmps.getD j undef=a.tmps.getD j undef:=by
 simp only [Act.put,Array.getD_eq_getD_getElem?]
 rw [Array.getElem?_setIfInBounds_ne h]
theorem ZCM (hm:P.follows .mixedOrders=true) (hO:ZaO P O) {f h:FuncId} {ti tc:TypeId} {an1 an2 an3:Ann} {c1 c2 c3:Ze} {rs:List Zcz} (D:ZmF P f h ti tc an1 an2 an3 c1 c2 c3 rs) (hb:KLt base w0) (R:Rel base w0 I0 I β σ w)
  {i j m n:Nat} {x:AVal} {v2 v3 v:Value} (h2:VR I β (.ref i 0) v2) (h3:VR I β (.ref j 0) v3) (hv:VR I β x v) {tm':Tms} {σ':Za} (hx:Z9 O bf m n c3 [(10,x),(1,.ref j 0),(0,.ref i 0)] σ=some (.normal,tm',σ')) :
  CallsD P h #[v2,v3] (.panicking [{ v:=.iface tc v,recovered:=false }]) w fun e u' w'=>e=.returned (.tuple #[])/\u'=.panicking [{ v:=.iface tc v,recovered:=true }]/\∃ I' β',I.le I'/\KeptE m β β'/\Rel base w0 I0 I' β' σ' w':=by
 obtain ⟨F,H,b1,b2,b3,b4,i0,j0,j1,j2,j3,bid,t1,t2,t3,t4,t5,t6,t7,t8,p1,p2,p3,p4,p5,p6,p7,p8,a1,a2,a3,a4,a5,a6,a7,a8,at1,at2,ims,k,hF,hname,hnt,hrs,hbody,hc1,hc2,hn1,hn2,hk2,hH,hHname,hHn,hHr,hHb,hc3,hn3,hti,htc⟩:=D.ex
 refine callsD_of_wpS hH hHb fun c₀ cs hu=>?_
 apply wpS_seq
 apply wpS_region
 simp [wpOpsS,go_sem,recoverD,hu,hHn,Exit.thenS]
 refine wpS_of_wp ?_
 generalize hT:(#[v2,v3]++(Array.replicate 11 undef).setIfInBounds 3 (Value.iface tc v))=T
 have hs:T.size=13:=by rw [<-hT];simp
 have hT0:T.getD 0 undef=v2:=by rw [<-hT];simp [Array.getD]
 have hT1:T.getD 1 undef=v3:=by rw [<-hT];simp [Array.getD]
 have hT5:T.getD 5 undef=.iface tc v:=by rw [<-hT];simp [Array.getD]
 clear hT
 refine wp_block (wp_seq (wp_region_list (Ze0 rfl ?_)))
 unfold Oper.wp
 have e1:∀ o:Oper,o.op=.binOp .eql ti (.tmp 5) (.const .nilIface) ti->(execOp ({ tmps:=T,defers:=[] }:Act).eval o).run P w=.ok (.value (.bool false)) w:=by
  intro o ho
  unfold execOp;rw [ho]
  simp only [Act.eval,hT5]
  exact ZhV (Zsl (P:=P) (w:=w) (t1:=tc) (u:=v) hti false (op:=.eql) (.tmp 5) .nilIface rfl)
 rw [e1 _ rfl,Oper.upon_value]
 refine wpList_nil ?_
 simp only [Exit.then]
 refine wp_cond_false (by simp only [Act.eval];exact pgs (by simp [hs])) ?_
 refine wp_seq (wp_region_list (Ze0 rfl ?_))
 unfold Oper.wp
 generalize hA1:({ tmps:=T,defers:=[] }:Act).put (some 7) (.bool false)=A1
 have hs1:A1.tmps.size=13:=by rw [<-hA1,Ze2];exact hs
 have g1:∀ j,j≠7->A1.tmps.getD j undef=T.getD j undef:=by intro j hj;rw [<-hA1];exact pgn (by omega)
 have hd1:A1.defers=[]:=by rw [<-hA1];rfl
 have e2:∀ o:Oper,o.op=.typeAssert (.tmp 5) ti tc true->(execOp A1.eval o).run P w=.ok (.value (.tuple #[v,.bool true])) w:=by
  intro o ho
  unfold execOp;rw [ho]
  simp only [Act.eval,g1 5 (by omega),hT5]
  refine ZhV ?_
  simp [Instr.typeAssert,underlying,htc]
 rw [e2 _ rfl,Oper.upon_value]
 generalize hA2:A1.put (some 8) (.tuple #[v,.bool true])=A2
 have hs2:A2.tmps.size=13:=by rw [<-hA2,Ze2];exact hs1
 have g2:∀ j,j≠8->A2.tmps.getD j undef=A1.tmps.getD j undef:=by intro j hj;rw [<-hA2];exact pgn (by omega)
 have g28:A2.tmps.getD 8 undef=.tuple #[v,.bool true]:=by rw [<-hA2];exact pgs (by omega)
 have hd2:A2.defers=[]:=by rw [<-hA2];exact hd1
 refine Ze0 rfl ?_
 unfold Oper.wp
 have e3:∀ o:Oper,o.op=.extract (.tmp 8) 1->(execOp A2.eval o).run P w=.ok (.value (.bool true)) w:=by
  intro o ho
  unfold execOp;rw [ho]
  simp only [Act.eval,g28]
  refine ZhV ?_
  simp [Instr.extract]
 rw [e3 _ rfl,Oper.upon_value]
 generalize hA3:A2.put (some 9) (.bool true)=A3
 have hs3:A3.tmps.size=13:=by rw [<-hA3,Ze2];exact hs2
 have g3:∀ j,j≠9->A3.tmps.getD j undef=A2.tmps.getD j undef:=by intro j hj;rw [<-hA3];exact pgn (by omega)
 have g39:A3.tmps.getD 9 undef=.bool true:=by rw [<-hA3];exact pgs (by omega)
 have hd3:A3.defers=[]:=by rw [<-hA3];exact hd2
 refine Ze0 rfl ?_
 unfold Oper.wp
 have e4:∀ o:Oper,o.op=.extract (.tmp 8) 0->(execOp A3.eval o).run P w=.ok (.value v) w:=by
  intro o ho
  unfold execOp;rw [ho]
  simp only [Act.eval,g3 8 (by omega),g28]
  refine ZhV ?_
  simp [Instr.extract]
 rw [e4 _ rfl,Oper.upon_value]
 generalize hA4:A3.put (some 10) v=A4
 have hs4:A4.tmps.size=13:=by rw [<-hA4,Ze2];exact hs3
 have g4:∀ j,j≠10->A4.tmps.getD j undef=A3.tmps.getD j undef:=by intro j hj;rw [<-hA4];exact pgn (by omega)
 have g410:A4.tmps.getD 10 undef=v:=by rw [<-hA4];exact pgs (by omega)
 have hd4:A4.defers=[]:=by rw [<-hA4];exact hd3
 refine wpList_nil ?_
 simp only [Exit.then]
 refine wp_cond_true (by simp only [Act.eval];rw [g4 9 (by omega),g39]) ?_
 have hst:StF ZbM m an3.nt base w0 I0 I β [(10,x),(1,.ref j 0),(0,.ref i 0)] σ A4 w:=by
  refine ⟨I,β,Imm.le.refl I,KeptE.refl _ β,fun n=>?_,⟨Zfl.2 hd4,by rw [hs4,hn3];omega⟩,R⟩
  simp only [tget]
  split
  ·rename_i e;subst e;rw [g410];exact hv
  ·split
   ·rename_i e;subst e;rw [g4 1 (by omega),g3 1 (by omega),g2 1 (by omega),g1 1 (by omega),hT1];exact h3
   ·split
    ·rename_i e;subst e;rw [g4 0 (by omega),g3 0 (by omega),g2 0 (by omega),g1 0 (by omega),hT0];exact h2
    ·simp only [VR]
 rw [<-hc3,Zd4] at hx
 refine ZiB (dr:=ZbM) (an:=an3) hO (fun n hn=>by simp [ZbM] at hn) hm hb m n rfl hst hx ?_
 intro a' w' ⟨I',β',k1,k2,k3,k4,k5⟩
 simp only [Exit.inBlock,bodyPostS]
 refine ⟨Zfl.1 k4.1,_,rfl,.tuple #[],?_,rfl,rfl,I',k1,β',k2,k5⟩
 simp [results,hHr]
theorem ZNl {f h:FuncId} {ti tc:TypeId} {an1 an2 an3:Ann} {c1 c2 c3:Ze} {rs:List Zcz} (D:ZmF P f h ti tc an1 an2 an3 c1 c2 c3 rs) {v2 v3:Value} {w:World} :
  CallsD P h #[v2,v3] .returning w fun e u' w'=>e=.returned (.tuple #[])/\u'=.returning/\w'=w:=by
 obtain ⟨F,H,b1,b2,b3,b4,i0,j0,j1,j2,j3,bid,t1,t2,t3,t4,t5,t6,t7,t8,p1,p2,p3,p4,p5,p6,p7,p8,a1,a2,a3,a4,a5,a6,a7,a8,at1,at2,ims,k,hF,hname,hnt,hrs,hbody,hc1,hc2,hn1,hn2,hk2,hH,hHname,hHn,hHr,hHb,hc3,hn3,hti,htc⟩:=D.ex
 refine callsD_of_wpS hH hHb fun c₀ cs hu=>?_
 apply wpS_seq
 apply wpS_region
 simp [wpOpsS,go_sem,recoverD,hu,hHn,Exit.thenS]
 refine wpS_of_wp ?_
 generalize hT:(#[v2,v3]++(Array.replicate 11 undef).setIfInBounds 3 Value.nilIface)=T
 have hs:T.size=13:=by rw [<-hT];simp
 have hT5:T.getD 5 undef=.nilIface:=by rw [<-hT];simp [Array.getD]
 clear hT
 refine wp_block (wp_seq (wp_region_list (Ze0 rfl ?_)))
 unfold Oper.wp
 have e1:∀ o:Oper,o.op=.binOp .eql ti (.tmp 5) (.const .nilIface) ti->(execOp ({ tmps:=T,defers:=[] }:Act).eval o).run P w=.ok (.value (.bool true)) w:=by
  intro o ho
  unfold execOp;rw [ho]
  simp only [Act.eval,hT5]
  exact ZhV (Zus (P:=P) (w:=w) hti false (op:=.eql) (.tmp 5) .nilIface rfl)
 rw [e1 _ rfl,Oper.upon_value]
 refine wpList_nil ?_
 simp only [Exit.then]
 refine wp_cond_true (by simp only [Act.eval];exact pgs (by simp [hs])) ?_
 refine wp_region_list (Ze0 rfl ?_)
 unfold Oper.wp
 generalize hA1:({ tmps:=T,defers:=[] }:Act).put (some 7) (.bool true)=A1
 have g1:∀ j,j≠7->A1.tmps.getD j undef=T.getD j undef:=by intro j hj;rw [<-hA1];exact pgn (by omega)
 have hd1:A1.defers=[]:=by rw [<-hA1];rfl
 have e2:∀ o:Oper,o.op=.assign (.tmp 5)->(execOp A1.eval o).run P w=.ok (.value .nilIface) w:=by
  intro o ho
  unfold execOp;rw [ho]
  simp [Act.eval,g1 5 (by omega),hT5]
 rw [e2 _ rfl,Oper.upon_value]
 refine wpList_nil ?_
 simp only [Exit.inBlock,bodyPostS]
 refine ⟨hd1,.returning,?_,.tuple #[],?_,rfl,rfl,trivial⟩
 ·cases c₀;simp_all
 ·simp [results,hHr]
end
section
variable {P:Program} {fs:Nat->Option ZG} {prim:Zcm} {bf:Nat->Bool}
theorem ZBx (hm:P.follows .mixedOrders=true) (hO:∀ n,ZaO P (Zau fs prim bf n)) {f h:FuncId} {ti tc:TypeId} {an1 an2 an3:Ann} {c1 c2 c3:Ze} {rs:List Zcz} (D:ZmF P f h ti tc an1 an2 an3 c1 c2 c3 rs)
  {args:List AVal} {σ σ':Za} {r:AVal} (hg:Ziu fs prim bf tc c1 c2 c3 rs args σ=some (r,σ')) :
  (∃ fn,P.funcs[f]?=some fn/\fn.body.isSome=true/\(fn.name == "runtime.NumGoroutine")=false) /\
  ∀ base w0 I0 I β w (vs:Array Value),KLt base w0->Rel base w0 I0 I β σ w->VRs I β args vs.toList ->
   Calls P f vs w (fun e w'=>∃ u,Ends r e u/\ZbV σ.length base w0 I0 I β r σ' u w'):=by
 obtain ⟨F,H,b1,b2,b3,b4,i0,j0,j1,j2,j3,bid,t1,t2,t3,t4,t5,t6,t7,t8,p1,p2,p3,p4,p5,p6,p7,p8,a1,a2,a3,a4,a5,a6,a7,a8,at1,at2,ims,k,hF,hname,hnt,hrs,hbody,hc1,hc2,hn1,hn2,hk2,hH,hHname,hHn,hHr,hHb,hc3,hn3,hti,htc⟩:=D.ex
 refine ⟨⟨F,hF,by rw [hbody];rfl,hname⟩,?_⟩
 intro base w0 I0 I β w vs hb R hargs
 unfold Ziu at hg
 split at hg
 case h_2=>cases hg
 rename_i tm1 σ1 hx1
 split at hg
 case h_2=>cases hg
 rename_i i j hi hj
 split at hg
 case isFalse=>cases hg
 rename_i hlen
 obtain ⟨hl0,hli,hlj⟩:=hlen
 obtain ⟨n1,hx1⟩:=Zbn.1 hx1
 rw [<-hc1,Zd4] at hx1
 refine calls_of_wp_defers hF hbody ?_
 have T:=ZqI hargs (F.ntmps - vs.size)
 have hst:StF ZbM σ.length an1.nt base w0 I0 I β (enterA 0 args []) σ { tmps:=vs++Array.replicate (F.ntmps - vs.size) undef,defers:=[] } w:=⟨I,β,Imm.le.refl I,KeptE.refl _ β,T,⟨Zfl.2 rfl,by rw [hn1];simp;omega⟩,R⟩
 refine wp_seq ?_
 refine ZiB (dr:=ZbM) (an:=an1) (hO n1) (fun n hn=>by simp [ZbM] at hn) hm hb σ.length n1 rfl hst hx1 ?_
 rintro A0 w1 ⟨I1,β1,g1,g2,T1,⟨gd,gs⟩,R1⟩
 have gd:=Zfl.1 gd
 rw [hn1] at gs
 simp only [Exit.then]
 refine wp_seq (wp_region_list (Ze0 rfl ?_))
 unfold Oper.wp
 have e1:∀ o:Oper,o.op=.makeFunc (.func h) #[] #[.tmp 2,.tmp 3]->(execOp A0.eval o).run P w1=.ok (.value (.func (.func h) #[] #[A0.tmps.getD 2 undef,A0.tmps.getD 3 undef])) w1:=by
  intro o ho
  unfold execOp;rw [ho]
  refine ZhV ?_
  simp [Instr.makeFunc,Act.eval]
 rw [e1 _ rfl,Oper.upon_value]
 generalize hv2:A0.tmps.getD 2 undef=v2
 generalize hv3:A0.tmps.getD 3 undef=v3
 have hr2:VR I1 β1 (.ref i 0) v2:=by rw [<-hv2,<-hi];exact T1 2
 have hr3:VR I1 β1 (.ref j 0) v3:=by rw [<-hv3,<-hj];exact T1 3
 generalize hA1:A0.put (some 5) (.func (.func h) #[] #[v2,v3])=A1
 have hs1:A1.tmps.size=A0.tmps.size:=by rw [<-hA1,Ze2]
 have q1:∀ j,j≠5->A1.tmps.getD j undef=A0.tmps.getD j undef:=by intro j hj;rw [<-hA1];exact pgn (by omega)
 have q5:A1.tmps.getD 5 undef=.func (.func h) #[] #[v2,v3]:=by rw [<-hA1];exact pgs (by omega)
 have hd1:A1.defers=[]:=by rw [<-hA1];exact gd
 refine Ze0 rfl ?_
 unfold Oper.wp
 have e2:∀ o:Oper,o.op=.defer ⟨.value (.tmp 5),#[],at1⟩->(execOp A1.eval o).run P w1=.ok (.defer ⟨.fn (.func h) #[v2,v3],#[]⟩) w1:=by
  intro o ho
  unfold execOp;rw [ho]
  simp [resolve,Act.eval,q5,Deferred.ofValue]
 rw [e2 _ rfl,Oper.upon_defer]
 refine wpList_nil ?_
 simp only [Exit.then]
 generalize hd:(⟨.fn (.func h) #[v2,v3],#[]⟩:Deferred)=d
 have hA2:({ A1 with defers:=d::A1.defers }:Act).put none undef={ A1 with defers:=[d] }:=by rw [hd1];rfl
 rw [hA2]
 let dr:Door:=⟨[d],[2,3],fun n=>if n=2 then v2 else v3⟩
 have hdr:dr.ok { A1 with defers:=[d] }:=by
  refine ⟨rfl,fun j hj=>?_⟩
  simp only [dr,List.mem_cons,List.not_mem_nil,or_false] at hj
  rcases hj with rfl | rfl
  ·show A1.tmps.getD 2 undef=_;rw [q1 2 (by omega),hv2];rfl
  ·show A1.tmps.getD 3 undef=_;rw [q1 3 (by omega),hv3];rfl
 have T2:TR I1 β1 (tput tm1 (some 5) .top) A1.tmps:=by
  rw [<-hA1]
  exact ZoM T1 (by simp only [VR]) (fun n hn=>by injection hn with hn;omega)
 unfold Zf4 at hg
 have hst2:StF dr σ1.length an2.nt base w0 I0 I1 β1 (tput tm1 (some 5) .top) σ1 { A1 with defers:=[d] } w1:=⟨I1,β1,Imm.le.refl I1,KeptE.refl _ β1,T2,⟨hdr,by rw [hn2];show 20<=A1.tmps.size;omega⟩,R1⟩
 have lift:∀ {I':Imm} {β':Bmap},I1.le I'->KeptE σ1.length β1 β'->I.le I'/\KeptE σ.length β β':=fun h1 h2=>⟨g1.trans h1,g2.trans (fun t ht bi e=>h2 t (by omega) bi e)⟩
 have hinv:∀ w:World,(invoke (.fn (.func h) #[v2,v3]) #[]).run P w=.ok (.enter h #[v2,v3]) w:=fun w=>by
  unfold invoke
  simpa using ZmS (args:=#[v2,v3]) (w:=w) hH (by rw [hHb];rfl) hHname
 have tm2:∀ {A:Act},dr.ok A->A.tmps.getD 2 undef=v2/\A.tmps.getD 3 undef=v3:=fun hA=>⟨hA.2 2 (by simp [dr]),hA.2 3 (by simp [dr])⟩
 split at hg
 case h_3=>cases hg
 ·rename_i tmx σ2 hx2
  obtain ⟨n2,hx2⟩:=Zbn.1 hx2
  rw [<-hc2,Zd4] at hx2
  refine ZiB (dr:=dr) (an:=an2) (hO n2) (fun n hn=>by rw [hk2];exact hn) hm hb σ1.length n2 rfl hst2 hx2 ?_
  rintro A3 w3 ⟨I3,β3,k1,k2,T3,⟨kd,ks⟩,R3⟩
  show Leaves P F A3.tmps _ A3.defers .returning w3
  rw [kd.1]
  show Leaves P F A3.tmps _ [d] .returning w3
  rw [<-hd]
  refine leaves_cons (f:=h) (args:=#[v2,v3]) (by simp) (hinv w3) ?_
  refine (ZNl D).mono ?_
  rintro e u' w' ⟨rfl,rfl,rfl⟩
  simp only [settle,Leaves]
  obtain ⟨l1,l2⟩:=lift k1 k2
  exact Zu8 hrs l1 l2 R3 (by rw [(tm2 kd).1];exact Zip k2 hli hr2) (by rw [(tm2 kd).2];exact Zip k2 hlj hr3) hg
 ·rename_i t x tmx σ2 hx2
  split at hg
  case isFalse=>cases hg
  rename_i ht
  subst ht
  split at hg
  case h_2=>cases hg
  rename_i tmy σ3 hx3
  obtain ⟨n2,hx2⟩:=Zbn.1 hx2
  rw [<-hc2,Zd4] at hx2
  obtain ⟨n3,hx3⟩:=Zbn.1 hx3
  refine ZiB (dr:=dr) (an:=an2) (hO n2) (fun n hn=>by rw [hk2];exact hn) hm hb σ1.length n2 rfl hst2 hx2 ?_
  rintro A3 u w3 kd ⟨I3,β3,k1,k2,R3,kv⟩
  simp only [ZaT,VR] at kv
  obtain ⟨v,rfl,kv⟩:=kv
  show Leaves P F A3.tmps _ A3.defers (.panicking [{ v:=.iface t v,recovered:=false }]) w3
  rw [kd.1]
  show Leaves P F A3.tmps _ [d] _ w3
  rw [<-hd]
  refine leaves_cons (f:=h) (args:=#[v2,v3]) (by simp) (hinv w3) ?_
  refine (ZCM hm (hO n3) D hb R3 (Zip k2 hli hr2) (Zip k2 hlj hr3) kv hx3).mono ?_
  rintro e u' w' ⟨rfl,rfl,I4,β4,m1,m2,R4⟩
  simp only [settle,List.dropWhile,Leaves]
  have k3:=k2.trans m2
  obtain ⟨l1,l2⟩:=lift (k1.trans m1) k3
  exact Zu8 hrs l1 l2 R4 (by rw [(tm2 kd).1];exact Zip k3 hli hr2) (by rw [(tm2 kd).2];exact Zip k3 hlj hr3) hg
end
section
variable {fs:Nat->Option ZG} {p p':Zcm} {bf:Nat->Bool}
theorem ZrO (h0:∀ f,p f=none->p' f=none) (h1:∀ f g,p f=some g->p' f=some g\/∀ a σ,g a σ=none):∀ n,OLe (Zau fs p bf n) (Zau fs p' bf n)
 | 0=>by intro f a σ r h;simp only [Zau] at h;cases h
 | n+1=>by
  intro f a σ r h
  rw [Zau] at h ⊢
  split at h
  ·rename_i g hg
   rcases h1 f g hg with h2 | h2
   ·rw [h2];exact h
   ·rw [h2] at h;cases h
  ·rename_i hg
   rw [h0 f hg]
   split at h
   ·cases h
   ·rename_i fn hfn
    exact ZjX (fun q hq=>ZdL (ZrO h0 h1 n) (Nat.le_refl n) hq) h
theorem ZPg (h0:∀ f,p f=none->p' f=none) (h1:∀ f g,p f=some g->p' f=some g\/∀ a σ,g a σ=none):OLe (EV fs p bf) (EV fs p' bf):=by
 intro f a σ r h
 obtain ⟨n,hn⟩:=ZcO.1 h
 exact ZcO.2 ⟨n,ZrO h0 h1 n f a σ r hn⟩
end
end
section
open Go.Shelf
def ZAJ:Ren:=⟨fun | 196=>142 | 259=>157 | n=>n,fun | 9=>9 | 4=>4 | 3=>3 | 5=>5 | 12=>12 | 119=>213 | 0=>0 | 46=>139 | 139=>216 | 138=>215 | 53=>101 | n=>n,fun | 3=>0 | 4=>1 | n=>n⟩
theorem Zs1:Go.Proofs.Lays.n196 Tryd.prog ZAJ:={ mixed:=by kernel_rfl,f196:=Tryd.func142.trans (congrArg some (by kernel_rfl)),f259:=Tryd.func157.trans (congrArg some (by kernel_rfl)),t0:=Tryd.underlying0,a0:=Tryd.isAgg0,z0:=Tryd.sizeOf0,v0:=Tryd.zeroValue0,t3:=Tryd.underlying3,a3:=Tryd.isAgg3,z3:=Tryd.sizeOf3,v3:=Tryd.zeroValue3,t4:=Tryd.underlying4,a4:=Tryd.isAgg4,z4:=Tryd.sizeOf4,v4:=Tryd.zeroValue4,t5:=Tryd.underlying5,a5:=Tryd.isAgg5,z5:=Tryd.sizeOf5,v5:=Tryd.zeroValue5,t9:=Tryd.underlying9,a9:=Tryd.isAgg9,z9:=Tryd.sizeOf9,v9:=Tryd.zeroValue9,t12:=Tryd.underlying12,a12:=Tryd.isAgg12,z12:=Tryd.sizeOf12,v12:=Tryd.zeroValue12,t46:=Tryd.underlying139,a46:=Tryd.isAgg139,z46:=Tryd.sizeOf139,v46:=Tryd.zeroValue139,t53:=Tryd.underlying101,a53:=Tryd.isAgg101,z53:=Tryd.sizeOf101,v53:=Tryd.zeroValue101,t119:=Tryd.underlying213,a119:=Tryd.isAgg213,z119:=Tryd.sizeOf213,t138:=Tryd.underlying215,a138:=Tryd.isAgg215,z138:=Tryd.sizeOf215,v138:=Tryd.zeroValue215,t139:=Tryd.underlying216,a139:=Tryd.isAgg216,z139:=Tryd.sizeOf216,v139:=Tryd.zeroValue216,g3:=by kernel_rfl,g4:=by kernel_rfl }
end
section
set_option maxRecDepth 100000
theorem ZiR:Tryd.prog.follows .mixedOrders=true:=by kernel_rfl
theorem ZNE:Zoo Tryd.prog 22 1 1 (.int .u8 0) 111:=⟨_,_,_,_,_,_,_,_,_,_,_,rfl,rfl,rfl,by kernel_rfl,rfl,rfl,rfl,rfl,rfl,rfl,rfl,rfl,by kernel_rfl,by kernel_rfl,⟨_,_,_,_,rfl⟩,rfl,by decide⟩
theorem ZGf:Zoo Tryd.prog 28 5 72 (.agg [.int .i64 0,.int .i64 0,.str [],.str [],.lst true []]) 137:=⟨_,_,_,_,_,_,_,_,_,_,_,rfl,rfl,rfl,by kernel_rfl,rfl,rfl,rfl,rfl,rfl,rfl,rfl,rfl,by kernel_rfl,by kernel_rfl,⟨_,_,_,_,rfl⟩,rfl,by decide⟩
theorem Zss {α:Type} {d v:α}:∀ {l:List (Nat×α)} {n:Nat},Ze9 d l n=v->v=d\/(n,v) ∈ l
 | [],n,h=>Or.inl h.symm
 | (k,w)::r,n,h=>by
  simp only [Ze9] at h
  split at h
  ·rename_i e;subst e h;exact Or.inr (by simp)
  ·rcases Zss h with h | h
   ·exact Or.inl h
   ·exact Or.inr (by simp [h])
theorem Zwz:Zmf Tryd.prog PR:=by
 intro f g h args σ r σ' hg
 rcases Zss h with h | h
 ·cases h
 unfold Zvu at h
 simp only [List.mem_cons,Prod.mk.injEq,Option.some.injEq,List.not_mem_nil,or_false] at h
 rcases h with ⟨rfl,rfl⟩ | h
 ·exact Zvt ZiR ZNE hg
 rcases h with ⟨rfl,rfl⟩ | h
 ·exact Zvt ZiR ZGf hg
 rcases h with ⟨rfl,rfl⟩ | h
 ·exact ZHq ⟨Tryd.f142,Tryd.func142,by kernel_rfl,by kernel_rfl⟩ (fun s w hs hT=>Any.utf8_ValidString Zs1 s w hs hT) hg
 rcases h with ⟨rfl,rfl⟩ | h
 ·exact ZtH hg
 rcases h with ⟨rfl,rfl⟩ | h
 ·exact ZtH hg
 exact absurd h.2 (by simp)
end
section
def ZbQ:Nat:=70368744177664
def Ziw (args:List AVal) (σ:Za):Option (AVal×Za):=match args,σ with
 | [.ref 0 0,.lst _ ys],[.var [.lst true [],.int .i64 0,.int .i8 _]] =>
  if ys.length<=ZbQ/\kOk 1 ys=true then some (.tup [.int .i64 ys.length,.nili],[.var [.sl 1 0 0 ys.length,.int .i64 0,.int .i8 0],.row 0 1 ys]) else none
 | [.ref 0 0,.lst _ ys],[.var [.sl 1 g 0 m,.int .i64 0,.int .i8 _],.row g' 1 xs] =>
  if g=g'/\m=xs.length/\xs.length+ys.length<=ZbQ/\kOk 1 ys=true then some (.tup [.int .i64 ys.length,.nili],[.var [.sl 1 (g+1) 0 (xs++ys).length,.int .i64 0,.int .i8 0],.row (g+1) 1 (xs++ys)]) else none
 | _,_=>none
end
section
set_option maxRecDepth 100000
def c1R:Ze :=  (.region [⟨(some 1),(.box (.t 0)),none,[]⟩,⟨(some 2),(.alloc [(.int .i64 0),(.bool false),(.int .i64 0),(.bool false),(.int .i64 0),(.str []),(.lst true []),(.int .i64 0),(.lst true []),(.lst true []),(.lst true []),(.lst true []),(.bool false),(.int .i64 0),(.str []),(.bool false),(.str []),(.lst true []),(.int .i64 0),(.bool false),(.lst true []),(.bool false),(.str []),(.bool false),(.lst true []),(.bool false)]),none,[]⟩,⟨(some 3),(.alloc [(.int .i64 0)]),none,[]⟩] none [3,2,1])
def c2R:Ze:=(.seq (.region [⟨(some 6),(.faddr 1 (.t 1)),none,[]⟩,⟨(some 7),(.ld none (.t 6)),none,[]⟩,⟨(some 8),(.build [(.int .i64 0),(.bool false),(.int .i64 0),(.bool false),(.int .i64 0),(.str []),(.lst true []),(.int .i64 0),(.lst true []),(.lst true []),(.lst true []),(.lst true []),(.bool false),(.int .i64 0),(.str []),(.bool false),(.str []),(.lst true []),(.int .i64 0),(.bool false),(.lst true []),(.bool false),(.str []),(.bool false),(.lst true []),(.bool false),(.lst true [])] [(26,1,(.t 7))]),none,[]⟩,⟨(some 9),(.box (.t 8)),none,[]⟩,⟨(some 4),(.mov (.t 9)),none,[]⟩] none [4,3,2,1]) (.seq (.region [⟨(some 10),(.mov (.t 4)),none,[]⟩,⟨(some 11),(.faddr 0 (.t 1)),none,[]⟩,⟨(some 12),(.ld none (.t 11)),none,[]⟩,⟨(some 13),(.call 76 0 true [(.t 10),(.t 12)]),none,[]⟩] none [4,3,2]) (.seq (.region [⟨(some 14),(.mov (.t 4)),none,[]⟩,⟨(some 15),(.call 77 1 true [(.t 14)]),none,[]⟩] none [4,3,2]) (.seq (.region [⟨(some 16),(.mov (.t 4)),none,[]⟩,⟨(some 17),(.nilchk (.t 16)),none,[]⟩,⟨(some 18),(.faddr 0 (.t 17)),none,[]⟩,⟨(some 19),(.ld (some 26) (.t 18)),none,[]⟩,⟨none,(.st 26 (.t 2) (.t 19)),none,[]⟩,⟨none,(.st 1 (.t 3) (.c (.int .i64 0))),none,[]⟩] none [3,2]) .ret))))
def c3R:Ze:=(.seq (.region [⟨(some 3),(.mov (.t 10)),none,[]⟩] none [3,1,0]) (.region [⟨(some 11),(.build [(.int .i64 0),(.bool false),(.int .i64 0),(.bool false),(.int .i64 0),(.str []),(.lst true []),(.int .i64 0),(.lst true []),(.lst true []),(.lst true []),(.lst true []),(.bool false),(.int .i64 0),(.str []),(.bool false),(.str []),(.lst true []),(.int .i64 0),(.bool false),(.lst true []),(.bool false),(.str []),(.bool false),(.lst true []),(.bool false)] []),none,[]⟩,⟨(some 12),(.mov (.t 3)),none,[]⟩,⟨none,(.st 26 (.t 0) (.t 11)),none,[]⟩,⟨none,(.st 1 (.t 1) (.t 12)),none,[]⟩] none []))
def rsR:List Zcz:=[(.cell 2 (some 26)),(.cell 3 none)]
def ZM2:Ann:={ nt:=20,lr:=fun _=>[3,2,1] }
def ZO1:Ann:={ ann 32 with nt:=20,keep:=[2,3],cfg:=fun f=>if f=77 then (1,true) else (0,true) }
def ZMk:Ann:={ ann 75 with nt:=13 }
theorem Zw5:ZmF Tryd.prog 32 75 20 61 ZM2 ZO1 ZMk c1R c2R c3R rsR :=
 ⟨_,_,_,_,_,_,_,_,_,_,_,_,_,_,_,_,_,_,_,_,_,_,_,_,_,_,_,_,_,_,_,_,_,_,_,_,_,_,#[],.i64,rfl,by kernel_rfl,rfl,by kernel_rfl,rfl,by kernel_rfl,by kernel_rfl,rfl,rfl,rfl,rfl,by kernel_rfl,rfl,rfl,rfl,by kernel_rfl,rfl,by kernel_rfl,by kernel_rfl⟩
noncomputable def ZeB:List AVal->Za->Option (AVal×Za):=Ziu FC PR BY 61 c1R c2R c3R rsR
noncomputable def PR1:Zcm:=fun f=>if f=32 then some ZeB else if f=130 then some Ziw else PR f
noncomputable abbrev E1:ZU:=EV FC PR1 BY
theorem Zz7:OLe E E1:=by
 refine ZPg (fun f hf=>?_) (fun f g hg=>?_)
 ·unfold PR1
  rw [if_neg (by rintro rfl;revert hf;decide),if_neg (by rintro rfl;revert hf;decide)]
  exact hf
 ·by_cases h1:f=32
  ·subst h1
   have : PR 32=some ZiH:=by rfl
   rw [this] at hg;injection hg with hg;subst hg
   exact Or.inr fun _ _=>rfl
  by_cases h2:f=130
  ·subst h2
   have : PR 130=some ZiH:=by rfl
   rw [this] at hg;injection hg with hg;subst hg
   exact Or.inr fun _ _=>rfl
  refine Or.inl ?_
  unfold PR1
  rw [if_neg h1,if_neg h2]
  exact hg
theorem Zbr {f:Nat} {fn:ZG} (hp:PR1 f=none) (hf:FC f=some fn) (args:List AVal) (σ:Za):E1 f args σ=Zan σ.length fn (evC FC PR1 BY σ.length fn.body (enterA 0 args []) σ):=ZtT hp hf args σ
theorem ZgX (args:List AVal) (σ:Za):E1 32 args σ=ZeB args σ:=Zsx (by rfl) args σ
theorem Ztp (args:List AVal) (σ:Za):E1 130 args σ=Ziw args σ:=Zsx (by rfl) args σ
theorem ZG7 {args:List AVal} {σ σ':Za} {r:AVal} (hg:ZeB args σ=some (r,σ')) :
  (∃ fn,Tryd.prog.funcs[32]?=some fn/\fn.body.isSome=true/\(fn.name == "runtime.NumGoroutine")=false) /\
  ∀ base w0 I0 I β w (vs:Array Value),KLt base w0->Rel base w0 I0 I β σ w->VRs I β args vs.toList ->
   Calls Tryd.prog 32 vs w (fun e w'=>∃ u,Ends r e u/\ZbV σ.length base w0 I0 I β r σ' u w') :=
 ZBx ZiR (fun n=>by
  have h:Zau FC PR BY n=Zau CF PR BY n:=Zps CF PR BY n
  rw [h]
  exact ZqU ZiR Zwz ann BY n) Zw5 hg
end
section
def P0:List AVal:=[.int .i64 0,.bool false,.int .i64 0,.bool false,.int .i64 0,.str [],.lst true [],.int .i64 0,.lst true [],.lst true [],.lst true [],.lst true [],.bool false,.int .i64 0,.str [],.bool false,.str [],.lst true [],.int .i64 0,.bool false,.lst true [],.bool false,.str [],.bool false,.lst true [],.bool false]
def tmR:Tms:=[(3,.ref 2 0),(2,.ref 1 0),(1,.ref 0 0)]
def σR (b:Int) (l:Zb):Za:=[.var [.int .u8 b,.lst false (l.map Zc)],.var P0,.var [.int .i64 0]]
theorem Zpn (b:Int) (l:Zb):evC FC PR BY 0 c1R (enterA 0 [.agg [.int .u8 b,.lst false (l.map Zc)]] []) []=some (.normal,tmR,σR b l):=by
 unfold tmR σR P0
 simp -implicitDefEqProofs only [EQA,Nat.reduceAdd,Nat.reduceLT,Nat.reduceEqDiff,Nat.reduceBEq,↓reduceIte,c1R,AVal.cells]
theorem ZNX (b:Int) (l:Zb) {P1 Q:List AVal} {L:AVal} (h1:P1.length=26) (n1:Zd P1=true) (hQ:Q.length=26) (nQ:Zd Q=true) (oQ:Q.all ZX=true) (nL:ZQ L=true)
  (hf:E 76 [.ref 0 0,.int .u8 b] (Zi P0 l)=some (.tup [],Zi P1 l)) (hb:E 77 [.ref 0 0] (Zi P1 l)=some (.tup [],[.var (Q++[L])])) :
  evC FC PR BY 3 c2R (tput tmR (some 5) .top) (σR b l)=some (.ret,[(3,.ref 2 0),(2,.ref 1 0)],[.var [.int .u8 b,.lst false (l.map Zc)],.var Q,.var [.int .i64 0],.var (Q++[L]),.free]):=by
 have hF:=fun (σ:Za) sq (hs:σ[3]?=some (.var (P0++[.lst false (l.map Zc)])))=>Zc5 (O:=E) (bf:=BY) (f:=76) (rest:=[.int .u8 b]) (by kernel_rfl) rfl (by rfl) (ZaA n1 (by rfl)) rfl rfl hf hs sq
 have hB:=fun (σ:Za) sq (hf:σ[sq]?=some .free) (hs:σ[3]?=some (.var (P1++[.lst false (l.map Zc)])))=>ZM6 (own:=1) (O:=E) (bf:=BY) (f:=77) (rest:=[]) (by kernel_rfl) rfl (ZaA n1 (by rfl)) (ZaA nQ (by simp [Zd,nL])) rfl rfl hb hs sq (by simp [ZaX,freeAt,hf])
 have b1:=Zaa Q hQ
 have b2:=Zfd Q hQ
 unfold P0 at hF
 simp only [List.cons_append,List.nil_append] at hF
 unfold tmR σR P0
 simp -implicitDefEqProofs only [EQA,ZaM,Nat.reduceAdd,Nat.reduceLT,Nat.reduceLeDiff,Nat.reduceEqDiff,Nat.reduceBEq,↓reduceIte,c2R,AVal.cells,Zaj,hF,hB,b1,b2,hQ,oQ]
theorem Zj1 (b:Int) (l:Zb) {cs:List AVal} {c:Int} (n1:Zd cs=true)
  (hf:E 76 [.ref 0 0,.int .u8 b] (Zi P0 l)=some (.pan (ZB c),[.var cs])) :
  evC FC PR BY 3 c2R (tput tmR (some 5) .top) (σR b l)=some (.panic (ZB c),[],[.var [.int .u8 b,.lst false (l.map Zc)],.var P0,.var [.int .i64 0],.var cs]):=by
 have hF:=fun (σ:Za) sq (hs:σ[3]?=some (.var (P0++[.lst false (l.map Zc)])))=>ZcA (O:=E) (bf:=BY) (f:=76) (view:=true) (rest:=[.int .u8 b]) (by kernel_rfl) rfl (by rfl) n1 rfl hf hs sq
 unfold P0 at hF
 simp only [List.cons_append,List.nil_append] at hF
 unfold tmR σR P0
 simp -implicitDefEqProofs only [EQA,ZaM,Nat.reduceAdd,Nat.reduceLT,Nat.reduceLeDiff,Nat.reduceEqDiff,Nat.reduceBEq,↓reduceIte,c2R,AVal.cells,Zaj,hF]
theorem ZwJ (b:Int) (l:Zb) {P1 cs:List AVal} {c:Int} (h1:P1.length=26) (n1:Zd P1=true) (n2:Zd cs=true)
  (hf:E 76 [.ref 0 0,.int .u8 b] (Zi P0 l)=some (.tup [],Zi P1 l)) (hb:E 77 [.ref 0 0] (Zi P1 l)=some (.pan (ZB c),[.var cs])) :
  evC FC PR BY 3 c2R (tput tmR (some 5) .top) (σR b l)=some (.panic (ZB c),[],[.var [.int .u8 b,.lst false (l.map Zc)],.var P0,.var [.int .i64 0],.var cs,.free]):=by
 have hF:=fun (σ:Za) sq (hs:σ[3]?=some (.var (P0++[.lst false (l.map Zc)])))=>Zc5 (O:=E) (bf:=BY) (f:=76) (rest:=[.int .u8 b]) (by kernel_rfl) rfl (by rfl) (ZaA n1 (by rfl)) rfl rfl hf hs sq
 have hB:=fun (σ:Za) sq (hf:σ[sq]?=some .free) (hs:σ[3]?=some (.var (P1++[.lst false (l.map Zc)])))=>ZCy (own:=1) (O:=E) (bf:=BY) (f:=77) (view:=true) (rest:=[]) (by kernel_rfl) rfl (ZaA n1 (by rfl)) n2 rfl hb hs sq (by simp [ZaX,freeAt,hf])
 unfold P0 at hF
 simp only [List.cons_append,List.nil_append] at hF
 unfold tmR σR P0
 simp -implicitDefEqProofs only [EQA,ZaM,Nat.reduceAdd,Nat.reduceLT,Nat.reduceLeDiff,Nat.reduceEqDiff,Nat.reduceBEq,↓reduceIte,c2R,AVal.cells,Zaj,hF,hB]
theorem Zx8 (b c:Int) (l:Zb) (τ:Za):evC FC PR BY 3 c3R [(10,.int .i64 c),(1,.ref 2 0),(0,.ref 1 0)] (.var [.int .u8 b,.lst false (l.map Zc)]::.var P0::.var [.int .i64 0]::τ)=some (.normal,[],.var [.int .u8 b,.lst false (l.map Zc)]::.var P0::.var [.int .i64 c]::τ):=by
 unfold P0
 simp -implicitDefEqProofs only [EQA,Nat.reduceAdd,Nat.reduceLT,Nat.reduceLeDiff,Nat.reduceEqDiff,reduceCtorEq,↓reduceIte,c3R,AVal.cells,Zaj,ZX]
theorem Zsy (b c:Int) (l:Zb) {Q:List AVal} (τ:Za) (hQ:Q.length=26) (nQ:Zd Q=true):Zfs 0 1 2 rsR (.var [.int .u8 b,.lst false (l.map Zc)]::.var Q::.var [.int .i64 c]::τ)=some (.tup [.agg Q,.int .i64 c],[]):=by
 have h1:resA [(3,.ref 2 0),(2,.ref 1 0)] (.var [.int .u8 b,.lst false (l.map Zc)]::.var Q::.var [.int .i64 c]::τ) rsR=some (.tup [.agg Q,.int .i64 c]):=by
  have h2:Q.take 26=Q:=List.take_of_length_le (by omega)
  simp [resA,resAll,resOne,rsR,tget,ldA,partA,hQ,h2]
 unfold Zfs
 rw [h1]
 generalize (.var [.int .u8 b,.lst false (l.map Zc)]::.var Q::.var [.int .i64 c]::τ:Za)=σ
 have e1:=ZaW (Zj σ 0 []) Q nQ
 have hr:Zp [AVal.tup [.agg Q,.int .i64 c]]=[]:=by simp [Zp,ZS,e1.2]
 have hi:Zv 0 [AVal.tup [.agg Q,.int .i64 c]] σ=[]:=by
  simp only [Zv,hr,List.nil_append,List.range_zero,List.flatMap_nil]
  rfl
 simp [Z6,gcA,hi,Zf,Zm,e1.1,Zr]
theorem Zsa (b:Int) (l:Zb) {P1 Q:List AVal} {L:AVal} (h1:P1.length=26) (n1:Zd P1=true) (hQ:Q.length=26) (nQ:Zd Q=true) (oQ:Q.all ZX=true) (nL:ZQ L=true)
  (hf:E 76 [.ref 0 0,.int .u8 b] (Zi P0 l)=some (.tup [],Zi P1 l)) (hb:E 77 [.ref 0 0] (Zi P1 l)=some (.tup [],[.var (Q++[L])])) :
  ZeB [.agg [.int .u8 b,.lst false (l.map Zc)]] []=some (.tup [.agg Q,.int .i64 0],[]):=by
 unfold ZeB Ziu
 show (match evC FC PR BY 0 c1R (enterA 0 [.agg [.int .u8 b,.lst false (l.map Zc)]] []) [] with | some (.normal,tm1,σ1)=>_ | _=>none)=_
 rw [Zpn]
 show (if (0:Nat)<=(σR b l).length/\1 < (σR b l).length/\2 < (σR b l).length then Zf4 FC PR BY 61 c2R c3R rsR 0 (tput tmR (some 5) .top) (σR b l) 1 2 else none)=_
 rw [if_pos (by simp [σR])]
 unfold Zf4
 rw [show (σR b l).length=3 from rfl,ZNX b l h1 n1 hQ nQ oQ nL hf hb]
 exact Zsy b 0 l _ hQ nQ
theorem Zg6 (b c:Int) (l:Zb) {τ:Za} (h:evC FC PR BY 3 c2R (tput tmR (some 5) .top) (σR b l)=some (.panic (ZB c),[],.var [.int .u8 b,.lst false (l.map Zc)]::.var P0::.var [.int .i64 0]::τ)) :
  ZeB [.agg [.int .u8 b,.lst false (l.map Zc)]] []=some (.tup [.agg P0,.int .i64 c],[]):=by
 unfold ZeB Ziu
 show (match evC FC PR BY 0 c1R (enterA 0 [.agg [.int .u8 b,.lst false (l.map Zc)]] []) [] with | some (.normal,tm1,σ1)=>_ | _=>none)=_
 rw [Zpn]
 show (if (0:Nat)<=(σR b l).length/\1 < (σR b l).length/\2 < (σR b l).length then Zf4 FC PR BY 61 c2R c3R rsR 0 (tput tmR (some 5) .top) (σR b l) 1 2 else none)=_
 rw [if_pos (by simp [σR])]
 unfold Zf4
 rw [show (σR b l).length=3 from rfl,h]
 show (if (61:Nat)=61 then (match evC FC PR BY 3 c3R [(10,.int .i64 c),(1,.ref 2 0),(0,.ref 1 0)] _ with | some (.normal,_,σ3)=>Zfs 0 1 2 rsR σ3 | _=>none) else none)=_
 rw [if_pos rfl,Zx8]
 exact Zsy b c l _ rfl (by rfl)
end
section
theorem Zy4 (b:Zb):List.take b.length (b.map Zc)=b.map Zc:=List.take_of_length_le (by simp)
def ZO (x:Int):Nat:=(x % 18446744073709551616).toNat
theorem Zna (x:Int):IntKind.u64.wrap x=((ZO x:Nat):Int):=by rw [IntKind.wrap_u64,ZO];omega
def Zb2 (k:Int) (p:Zn):Zb×Zb :=
 if k=1 then (beB (ZO p.num) 1,[]) else if k=2 then (beB (ZO p.num) 2,[]) else if k=3 then (beB (ZO p.num) 4,[])
 else if k=4 then ((Z7 p.num).1,[]) else if k=5 then ((ZZ p.text).1,[]) else if k=6 then ((Za4 p.data).1,[])
 else if k=7 then ((ZZ p.text).1,(ZZ p.pair).1) else ([],[])
def ZaE (p:Zn):Zb:=(Z7 p.id).1++((Zb2 (Zbb p.id) p).1++(Zb2 (Zbb p.id) p).2)
theorem Zvi:∀ k n:Nat,(ZbZ k n).length<=k+1
 | 0,n=>by simp [ZbZ]
 | k+1,n=>by
  unfold ZbZ
  split
  ·simp
  ·have:=Zvi k (n / 128)
   simp only [List.length_cons];omega
theorem ZeF (n:Int):(Z7 n).1.length<=4:=by
 unfold Z7
 split
 ·simp
 ·exact Zvi 3 _
theorem Zns (b:Zb):(Za4 b).1.length<=65537:=by
 unfold Za4
 split
 ·simp
 ·simp only [List.length_append,ZaL];omega
theorem ZiS (b:Zb):(ZZ b).1.length<=65537:=by
 unfold ZZ
 split
 ·exact Zns b
 ·simp
theorem ZzM (k:Int) (p:Zn):(Zb2 k p).1.length<=65537/\(Zb2 k p).2.length<=65537:=by
 have h1:=ZeF p.num
 have h2:=ZiS p.text
 have h3:=ZiS p.pair
 have h4:=Zns p.data
 unfold Zb2
 repeat' split
 all_goals simp only [ZaL,List.length_nil]
 all_goals omega
theorem Zwy (p:Zn):(ZaE p).length<=200000:=by
 have h1:=ZeF p.id
 have h2:=ZzM (Zbb p.id) p
 unfold ZaE
 simp only [List.length_append];omega
theorem Ziq (σ:Za) (sq own:Nat) (f:Bool) (a v w:Zb) (h:a.length+(v.length+w.length)<=140737488355328):Zo E BY σ sq 56 own true [.lst f [.lst false (a.map Zc),.lst false (v.map Zc),.lst false (w.map Zc)]]=some (.lst false ((a++(v++w)).map Zc),σ,{}):=by
 have:=Zh8 σ sq own f a [v,w] (by simp) (by simpa using h)
 simpa only [List.map_cons,List.map_nil,ZI,List.flatten_cons,List.flatten_nil,List.append_nil] using this
theorem Zom (p:Zn) (k:Int) (W:Nat) (hk:Zbb p.id=k) (hW:(k=1/\W=1)\/(k=2/\W=2)\/(k=3/\W=4)):E 89 [Zg p] []=some (.lst false (((Z7 p.id).1++(beB (ZO p.num) W++[])).map Zc),[]):=by
 have hK:=fun σ sq own=>Zjy σ sq own p.id
 have hV:=fun σ sq own=>Zf7 σ sq own p.id
 unfold ZeS at hV
 have l0:=ZeF p.id
 have hP:=fun σ sq own=>Zl4 σ sq own (ZO p.num) W (by omega) (by omega)
 have hJ:=fun σ sq own f=>Ziq σ sq own f (Z7 p.id).1 (beB (ZO p.num) W) [] (by simp only [ZaL,List.length_nil];omega)
 simp only [List.map_nil] at hJ
 have hu:=Zna p.num
 rw [hk] at hK
 generalize beB (ZO p.num) W=B at *
 have z1:((1:Nat):Int)=1:=rfl
 have z2:((2:Nat):Int)=2:=rfl
 have z4:((4:Nat):Int)=4:=rfl
 rcases hW with ⟨rfl,rfl⟩ | ⟨rfl,rfl⟩ | ⟨rfl,rfl⟩
 ·have w1:IntKind.i64.wrap (1 - 1)=0:=rfl
  have w2:IntKind.i64.wrap (1*2 ^ min (Int.toNat 0) IntKind.i64.bits)=1:=rfl
  have ng:¬((0:Int) < 0):=by decide
  rw [z1] at hP
  rw [Zh (by rfl) Zf9]
  simp -implicitDefEqProofs only [EQA,Zt,Nat.reduceLT,Nat.reduceEqDiff,Nat.reduceBEq,ZaC,↓reduceIte,Zgv,Ze1,Zgd,oI,ZI,Zg,Zbd,hK,hV,hP,hJ,hu,w1,w2,ng,viewAs,ZP,ZL,Zq,AVal.cells]
 ·have w1:IntKind.i64.wrap (2 - 1)=1:=rfl
  have w2:IntKind.i64.wrap (1*2 ^ min (Int.toNat 1) IntKind.i64.bits)=2:=rfl
  have ng:¬((1:Int) < 0):=by decide
  rw [z2] at hP
  rw [Zh (by rfl) Zf9]
  simp -implicitDefEqProofs only [EQA,Zt,Nat.reduceLT,Nat.reduceEqDiff,Nat.reduceBEq,ZaC,↓reduceIte,Zgv,Ze1,Zgd,oI,ZI,Zg,Zbd,hK,hV,hP,hJ,hu,w1,w2,ng,Int.reduceBEq,viewAs,ZP,ZL,Zq,AVal.cells]
 ·have w1:IntKind.i64.wrap (3 - 1)=2:=rfl
  have w2:IntKind.i64.wrap (1*2 ^ min (Int.toNat 2) IntKind.i64.bits)=4:=rfl
  have ng:¬((2:Int) < 0):=by decide
  rw [z4] at hP
  rw [Zh (by rfl) Zf9]
  simp -implicitDefEqProofs only [EQA,Zt,Nat.reduceLT,Nat.reduceEqDiff,Nat.reduceBEq,ZaC,↓reduceIte,Zgv,Ze1,Zgd,oI,ZI,Zg,Zbd,hK,hV,hP,hJ,hu,w1,w2,ng,Int.reduceBEq,viewAs,ZP,ZL,Zq,AVal.cells]
theorem ZIu (p:Zn) (ht:p.text.length<=9223372036854775807) (hp:p.pair.length<=9223372036854775807) (hd:p.data.length<=9223372036854775807):E 89 [Zg p] []=some (.lst false ((ZaE p).map Zc),[]):=by
 have hK:=fun σ sq own=>Zjy σ sq own p.id
 have hV:=fun σ sq own=>Zf7 σ sq own p.id
 unfold ZeS at hV
 have l0:=ZeF p.id
 unfold ZaE
 rcases ZnH p.id with hk | hk | hk | hk | hk | hk | hk | hk
 ·rw [hk] at hK ⊢
  rw [show Zb2 0 p=([],[]) from rfl,Zh (by rfl) Zf9]
  have hJ:=fun σ sq own f=>Ziq σ sq own f (Z7 p.id).1 [] [] (by simp only [List.length_nil];omega)
  simp only [List.map_nil] at hJ
  simp -implicitDefEqProofs only [EQA,Zt,Nat.reduceLT,Nat.reduceEqDiff,Nat.reduceBEq,↓reduceIte,Zgv,Ze1,Zgd,oI,ZI,Zg,Zbd,hK,hV,hJ,Int.reduceBEq,viewAs,ZP,ZL,Zq,AVal.cells]
 ·have h:=Zom p 1 1 hk (by simp)
  rw [hk];exact h
 ·have h:=Zom p 2 2 hk (by simp)
  rw [hk];exact h
 ·have h:=Zom p 3 4 hk (by simp)
  rw [hk];exact h
 ·rw [hk] at hK ⊢
  rw [show Zb2 4 p=((Z7 p.num).1,[]) from rfl,Zh (by rfl) Zf9]
  have l1:=ZeF p.num
  have hJ:=fun σ sq own f=>Ziq σ sq own f (Z7 p.id).1 (Z7 p.num).1 [] (by simp only [List.length_nil];omega)
  simp only [List.map_nil] at hJ
  have hV2:=fun σ sq own=>Zf7 σ sq own p.num
  unfold ZeS at hV2
  simp -implicitDefEqProofs only [EQA,Zt,Nat.reduceLT,Nat.reduceEqDiff,Nat.reduceBEq,↓reduceIte,Zgv,Ze1,Zgd,oI,ZI,Zg,Zbd,hK,hV,hV2,hJ,Int.reduceBEq,viewAs,ZP,ZL,Zq,AVal.cells]
 ·rw [hk] at hK ⊢
  rw [show Zb2 5 p=((ZZ p.text).1,[]) from rfl,Zh (by rfl) Zf9]
  have l1:=ZiS p.text
  have hJ:=fun σ sq own f=>Ziq σ sq own f (Z7 p.id).1 (ZZ p.text).1 [] (by simp only [List.length_nil];omega)
  simp only [List.map_nil] at hJ
  have hV2:=fun σ sq own=>ZiZ σ sq own p.text ht
  unfold byT at hV2
  simp -implicitDefEqProofs only [EQA,Zt,Nat.reduceLT,Nat.reduceEqDiff,Nat.reduceBEq,↓reduceIte,Zgv,Ze1,Zgd,oI,ZI,Zg,Zbd,hK,hV,hV2,hJ,Int.reduceBEq,viewAs,ZP,ZL,Zq,AVal.cells]
 ·rw [hk] at hK ⊢
  rw [show Zb2 6 p=((Za4 p.data).1,[]) from rfl,Zh (by rfl) Zf9]
  have l1:=Zns p.data
  have hJ:=fun σ sq own f=>Ziq σ sq own f (Z7 p.id).1 (Za4 p.data).1 [] (by simp only [List.length_nil];omega)
  simp only [List.map_nil] at hJ
  have hV2:=fun σ sq own f=>Zqc σ sq own f p.data hd
  unfold byT at hV2
  simp -implicitDefEqProofs only [EQA,Zt,Nat.reduceLT,Nat.reduceEqDiff,Nat.reduceBEq,↓reduceIte,Zgv,Ze1,Zgd,oI,ZI,Zg,Zbd,hK,hV,hV2,hJ,Int.reduceBEq,viewAs,ZP,ZL,Zq,AVal.cells]
 ·rw [hk] at hK ⊢
  rw [show Zb2 7 p=((ZZ p.text).1,(ZZ p.pair).1) from rfl,Zh (by rfl) Zf9]
  have l1:=ZiS p.text
  have l2:=ZiS p.pair
  have hJ:=fun σ sq own f=>Ziq σ sq own f (Z7 p.id).1 (ZZ p.text).1 (ZZ p.pair).1 (by omega)
  have hV2:=fun σ sq own=>ZiZ σ sq own p.text ht
  have hV3:=fun σ sq own=>ZiZ σ sq own p.pair hp
  unfold byT at hV2 hV3
  simp -implicitDefEqProofs only [EQA,Zt,Nat.reduceLT,Nat.reduceEqDiff,Nat.reduceBEq,↓reduceIte,Zgv,Ze1,Zgd,oI,ZI,Zg,Zbd,hK,hV,hV2,hV3,hJ,Int.reduceBEq,viewAs,ZP,ZL,Zq,AVal.cells]
def ZdO (p:Zn):Prop:=p.text.length<=9223372036854775807/\p.pair.length<=9223372036854775807/\p.data.length<=9223372036854775807
theorem ZvN (σ:Za) (sq own:Nat) (p:Zn) (h:ZdO p):Zo E BY σ sq 89 own true [.agg [.int .i64 p.id,.int .i64 p.num,.str p.text,.str p.pair,.lst false (p.data.map Zc)]]=some (.lst false ((ZaE p).map Zc),σ,{}) :=
 ZbK (ZIu p h.1 h.2.1 h.2.2) (by kernel_rfl) rfl rfl rfl (fun _=>rfl) _ _ _
def Zfi (w:Int) (l:List Zn) (b:Zb):Zb×Int :=
 if (Z7 b.length).2≠0 then ([],129)
 else if (Z0 w ((Z7 b.length).1++b)).2.2≠0\/(Z0 w ((Z7 b.length).1++b)).2.1≠((Z7 b.length).1++b).length\/((Z0 w ((Z7 b.length).1++b)).1 == l)=false then ([],129)
 else ((Z7 b.length).1++b,0)
def ZaN (w:Int) (l:List Zn):Zb×Int:=Zfi w l (l.map ZaE).flatten
theorem ZsF (σ:Za) (sq own:Nat) (f:Bool) (a v:Zb) (h:a.length+v.length<=140737488355328):Zo E BY σ sq 56 own true [.lst f [.lst false (a.map Zc),.lst false (v.map Zc)]]=some (.lst false ((a++v).map Zc),σ,{}):=by
 have:=Zh8 σ sq own f a [v] (by simp) (by simpa using h)
 simpa only [List.map_cons,List.map_nil,ZI,List.flatten_cons,List.flatten_nil,List.append_nil] using this
end
section
theorem Zqv (w:Int):∀ (n:Nat) (b:Zb) (l:List Zn),(ZdS w n b l).1.length<=l.length+b.length
 | n,[],l=>by rw [Zry];simp
 | 0,c::r,l=>by simp [ZdS]
 | n+1,c::r,l=>by
  rw [Zm6]
  split
  ·rename_i h
   have hu:=Zup h
   have ih:=Zqv w n ((c::r).drop (ZbH w (c::r) l).2.1) (l++[(ZbH w (c::r) l).1])
   rw [List.length_drop,List.length_append,List.length_singleton] at ih
   omega
  ·simp
theorem ZPG (w:Int) (b:Zb):(Z0 w b).1.length<=b.length:=by
 unfold Z0
 split
 ·simp
 ·split
  ·have:=Zqv w (ZW b).1 ((b.take ((ZW b).2.1+(ZW b).1)).drop (ZW b).2.1) []
   simp only [List.length_drop,List.length_take,List.length_nil] at this
   simp only
   omega
  ·simp
def okV (k:Int) (p:Zn):Bool :=
 if k=1 then decide (p.num>=0) && decide (p.num < 256) else if k=2 then decide (p.num>=0) && decide (p.num < 65536) else if k=3 then decide (p.num>=0) && decide (p.num < 4294967296)
 else if k=4 then (Z7 p.num).2 == 0 else if k=5 then (ZZ p.text).2 == 0 else if k=6 then (Za4 p.data).2 == 0
 else if k=7 then (ZZ p.text).2 == 0 && (ZZ p.pair).2 == 0 else false
def ZeN (p:Zn):Bool:=!(decide (p.id < 1) || decide (p.id > 127)) && okV (Zbb p.id) p
theorem Zr9 {b:Zb} (h:b.length<=65535):(Za4 b).2=0:=by
 unfold Za4
 rw [if_neg (by omega)]
theorem ZwM {n:Nat} (h:n < 268435456):(Z7 (n:Int)).2=0:=by
 unfold Z7
 rw [if_neg (by omega)]
theorem ZB4 {id:Int} (h:Zd6 id):1<=id/\id<=127/\Zbb id≠0:=by
 rcases h with rfl | rfl | rfl | rfl | rfl | rfl | rfl | rfl | rfl | rfl | rfl | rfl | rfl | rfl | rfl | rfl | rfl | rfl | rfl | rfl | rfl | rfl | rfl | rfl | rfl | rfl | rfl
 all_goals decide
def ZfX (p:Zn):Zb:=(Zb2 (Zbb p.id) p).1++(Zb2 (Zbb p.id) p).2
theorem ZMo {p:Zn} (h:¬(p.id < 1\/p.id > 127)):ZaE p=UInt8.ofNat p.id.toNat::ZfX p:=by
 unfold ZaE ZfX
 have e:(Z7 p.id).1=[UInt8.ofNat p.id.toNat]:=by
  unfold Z7
  rw [if_neg (by omega)]
  simp only [ZbZ]
  rw [if_pos (by omega)]
 rw [e];rfl
end
section
def ZgJ (f:Bool) (x:Zb×Int):AVal:=.tup [.lst f (x.1.map Zc),.int .i64 x.2]
theorem ZNR (w:Int) (l:List Zn) (hl:l.length<=9223372036854775807) (b:Zb) (hb:b.length<=140737488355000) (i:Nat) (h1:¬(i:Int) < l.length) :
  ∃ f,Zji 0 [(16,.int .i64 i),(15,.int .i64 l.length),(14,.lst false (l.map Zg)),(6,.sl 0 0 0 b.length),(1,.lst false (l.map Zg)),(0,.int .i64 w)] [.row 0 1 (b.map Zc)]=some (ZgJ f (Zfi w l b),[]):=by
 have hV:=fun σ sq own=>Zf7 σ sq own (b.length:Int)
 unfold ZeS at hV
 have l0:=ZeF (b.length:Int)
 have hJ:=fun σ sq own f=>ZsF σ sq own f (Z7 b.length).1 b (by omega)
 have hR:=fun σ sq own f=>ZlY σ sq own f w ((Z7 b.length).1++b) (by simp;omega)
 have hS:=fun σ sq own view (a:List Zn) (ha:a.length<=9223372036854775807)=>Zkk σ sq own view a l ha
 have ht:=Zy4 b
 have hlen:((Z7 b.length).1++b).length<=140737488355328:=by simp;omega
 have hrl:=ZPG w ((Z7 b.length).1++b)
 unfold Zfi ZgJ
 generalize Z7 b.length=V at *
 obtain ⟨v,e⟩:=V
 simp only at hV hJ hR hlen hrl ⊢
 generalize hc:v++b=c at *
 generalize Z0 w c=R at *
 obtain ⟨again,used,code⟩:=R
 simp only at hR hrl ⊢
 have hS2:=fun σ sq own view=>hS σ sq own view again (by omega)
 unfold Zji
 by_cases he:e=0
 ·subst he
  have n0:((0:Int) != 0)=false:=rfl
  rw [if_neg (by simp)]
  by_cases hc0:code=0
  ·subst hc0
   by_cases hu:used=c.length
   ·have n2:((used:Int) != (c.length:Int))=false:=by simp [hu]
    cases hs:(again == l) <;> rw [hs] at hS2
    ·refine ⟨true,?_⟩
     rw [if_pos (by simp),Z2]
     simp -implicitDefEqProofs only [EQA,Zt,Nat.reduceLT,Nat.reduceEqDiff,unA,ZD,unG,reduceCtorEq,ZY,↓reduceIte,Zd,ZhM,Zil,Zgl,Zgu,Ze3,oI,oN,h1,hV,hJ,hR,hS2,ht,n0,n2,viewAs,ZP,ZL,Zq,Nat.le_refl,AVal.cells]
    ·refine ⟨false,?_⟩
     rw [if_neg (by simp [hu]),Z2]
     simp -implicitDefEqProofs only [EQA,Zt,Nat.reduceLT,Nat.reduceEqDiff,unA,ZD,unG,reduceCtorEq,ZY,↓reduceIte,Zd,ZhM,Zil,Zgl,Zgu,Ze3,oI,oN,h1,hV,hJ,hR,hS2,ht,n0,n2,viewAs,ZP,ZL,Zq,Nat.le_refl,AVal.cells]
   ·have n2:((used:Int) != (c.length:Int))=true:=by simp;omega
    refine ⟨true,?_⟩
    rw [if_pos (by simp [hu]),Z2]
    simp -implicitDefEqProofs only [EQA,Zt,Nat.reduceLT,Nat.reduceEqDiff,ZD,Zam,unG,reduceCtorEq,ZY,↓reduceIte,Zd,ZhM,Zil,Zgl,Zgu,Ze3,oI,oN,h1,hV,hJ,hR,ht,n0,n2,viewAs,ZP,ZL,Zq,Nat.le_refl,AVal.cells]
  ·have n1:(code != 0)=true:=by simpa using hc0
   refine ⟨true,?_⟩
   rw [if_pos (by simp [hc0]),Z2]
   simp -implicitDefEqProofs only [EQA,Zt,Nat.reduceLT,Nat.reduceEqDiff,ZD,Zam,reduceCtorEq,ZY,↓reduceIte,Zd,ZhM,Zil,Zgl,Zgu,Ze3,oI,oN,h1,hV,hJ,hR,ht,n0,n1,viewAs,ZP,ZL,Zq,Nat.le_refl,AVal.cells]
 ·have n1:(e != 0)=true:=by simpa using he
  refine ⟨true,?_⟩
  rw [if_pos he,Z2]
  simp -implicitDefEqProofs only [EQA,Zt,Nat.reduceLT,Nat.reduceEqDiff,reduceCtorEq,↓reduceIte,Zd,ZhM,Zil,Zgl,Zgu,Ze3,oI,oN,h1,hV,n1]
theorem ZvJ (w:Int) (l:List Zn) (hl:l.length<=9223372036854775807) (hx:∀ p ∈ l,ZdO p):∀ (r:List Zn) (i:Nat) (acc:Zb),l.drop i=r->acc.length+r.length*200000<=140737488355000 ->
  ∃ f,Zji 0 [(16,.int .i64 i),(15,.int .i64 l.length),(14,.lst false (l.map Zg)),(6,.sl 0 0 0 acc.length),(1,.lst false (l.map Zg)),(0,.int .i64 w)] [.row 0 1 (acc.map Zc)]=some (ZgJ f (Zfi w l (acc++(r.map ZaE).flatten)),[])
 | [],i,acc,h,hn=>by
  simp only [List.map_nil,List.flatten_nil,List.append_nil]
  exact ZNR w l hl acc (by simpa using hn) i (Zcv h)
 | p::r,i,acc,h,hn=>by
  have hlp:=Zwy p
  simp only [List.length_cons] at hn
  obtain ⟨f,ih⟩:=ZvJ w l hl hx r (i+1) (acc++ZaE p) (Z4 h).2.1 (by rw [List.length_append];omega)
  refine ⟨f,?_⟩
  have h1:(i:Int) < l.length:=by have:=(Z4 h).2.2;omega
  have e1:=iad (Z4 h).1 Zg (k:=5) rfl
  have e3:=ZcL h1 hl
  have hC:=fun σ sq own=>ZvN σ sq own p (hx p (List.mem_of_getElem? (Z4 h).1))
  rw [List.append_assoc] at ih
  rw [List.map_cons,List.flatten_cons]
  generalize ZaE p=q at *
  have k1:=ZfO q
  have k2:(acc.length+q.length)*1<=140737488355328:=by omega
  have e4:(acc++q).map Zc=acc.map Zc++q.map Zc:=by simp
  have e5:(acc++q).length=acc.length+q.length:=by simp
  rw [e4,e5] at ih
  unfold Zji at ih ⊢
  rw [Z2]
  simp -implicitDefEqProofs only [EQA,ZV,Za2,Nat.reduceAdd,Nat.reduceLT,Nat.reduceEqDiff,Nat.reduceBEq,reduceCtorEq,ZY,↓reduceIte,gcT,gcA,Zv,Zu,Zj,Zr,ZJ,Zl,ZE,Zw,ZC,Zgu,Ze3,oI,oN,ZI,Zg,Zbd,h1,e1,e3,hC,k1,k2,Zaz,Nat.le_refl,AVal.cells]
  exact ih
theorem ZMI (w:Int) (l:List Zn) (hl:l.length<=700000000) (hx:∀ p ∈ l,ZdO p):∃ f,E 42 [.int .i64 w,Zbc l] []=some (ZgJ f (ZaN w l),[]):=by
 have z0:((0:Nat):Int)=0:=rfl
 unfold ZaN
 cases l with
 | nil =>
  have hV:=fun σ sq own=>Zf7 σ sq own 0
  have hv:Z7 0=([0],0):=rfl
  unfold ZeS at hV
  rw [hv] at hV
  have hJ:=fun σ sq own f=>ZsF σ sq own f [0] [] (by simp)
  have hR:=fun σ sq own f=>ZlY σ sq own f w [0] (by simp)
  have hr:Z0 w [0]=([],1,0):=rfl
  rw [hr] at hR
  have hS:=fun σ sq own view=>Zkk σ sq own view [] [] (by simp)
  have e:Zfi w [] (([]:List Zn).map ZaE).flatten=([0],0):=by
   unfold Zfi
   simp only [List.map_nil,List.flatten_nil,List.length_nil,z0,hv,List.append_nil,hr]
   rfl
  rw [e]
  refine ⟨false,?_⟩
  rw [Zh (by rfl) Zwg]
  simp only [List.map_nil,List.map_cons,Zc] at hV hJ hR hS
  unfold ZgJ
  have b0:Zc 0=.int .u8 0:=rfl
  have u0:(0:UInt8).toNat=0:=rfl
  have n0:((0:Int) != 0)=false:=rfl
  have n1:((1:Int) != 1)=false:=rfl
  rw [u0,z0] at hV hJ hR
  have z1:((1:Nat):Int)=1:=rfl
  rw [z1] at hR
  simp -implicitDefEqProofs only [EQA,ZV,Nat.reduceLT,Nat.reduceEqDiff,reduceCtorEq,↓reduceIte,gcT,gcA,Zv,Zu,Zr,ZC,ZrV,ZkV,oI,Zbc]
  rw [Z2]
  simp -implicitDefEqProofs only [EQA,Zt,Nat.reduceLT,Nat.reduceEqDiff,unA,ZD,unG,reduceCtorEq,↓reduceIte,Zd,ZhM,Zil,Zgl,Zgu,Ze3,oI,oN,z0,z1,hV,hJ,hR,hS,n0,n1,b0,viewAs,ZP,ZL,Zq,AVal.cells,Int.reduceLT]
 | cons p r =>
  have hlp:=Zwy p
  simp only [List.length_cons] at hl
  obtain ⟨f,ih⟩:=ZvJ w (p::r) (by simp only [List.length_cons];omega) hx r 1 (ZaE p) rfl (by omega)
  refine ⟨f,?_⟩
  have e1:=iad (l:=p::r) (i:=0) rfl Zg (k:=5) rfl
  have h1:(0:Int) < ((p::r).length:Int):=by simp only [List.length_cons];omega
  have w1:IntKind.i64.wrap (0+1)=1:=rfl
  have z1:((1:Nat):Int)=1:=rfl
  have hC:=fun σ sq own=>ZvN σ sq own p (hx p (by simp))
  rw [List.map_cons,List.flatten_cons]
  generalize ZaE p=q at *
  have k1:=ZfO q
  have k2:q.length*1<=140737488355328:=by omega
  have e6:(q.map Zc).length=q.length:=by simp
  rw [z0] at e1
  rw [z1] at ih
  generalize (r.map ZaE).flatten=t at *
  generalize hL:p::r=L at *
  rw [Zh (by rfl) Zwg]
  unfold Zji at ih
  simp -implicitDefEqProofs only [EQA,ZV,Nat.reduceLT,Nat.reduceEqDiff,reduceCtorEq,↓reduceIte,gcT,gcA,Zv,Zu,Zr,ZC,ZrV,ZkV,oI,Zbc]
  rw [Z2]
  simp -implicitDefEqProofs only [EQA,ZV,Za2,Nat.reduceAdd,Nat.reduceLT,Nat.reduceEqDiff,Nat.reduceBEq,reduceCtorEq,ZY,↓reduceIte,gcT,gcA,Zv,Zu,Zj,Zr,ZJ,Zl,ZE,Zw,ZC,Zgu,Ze3,oI,oN,ZI,Zg,Zbd,h1,e1,w1,hC,k1,k2,Zaz,Nat.le_refl,AVal.cells]
  exact ih
theorem ZJ0 (σ:Za) (sq own:Nat) (f:Bool) (w:Int) (l:List Zn) (hl:l.length<=700000000) (hx:∀ p ∈ l,ZdO p):Zo E BY σ sq 42 own true [.int .i64 w,.lst f (l.map Zg)]=some (ZgJ false (ZaN w l),σ,{}):=by
 obtain ⟨g,h⟩:=ZMI w l hl hx
 exact ZbK h (by kernel_rfl) rfl rfl rfl (fun _=>rfl) _ _ _
end
section
def ZsR (ids:List Int) (l:List Zn):List Zn:=l.filter fun p=>ids.contains p.id
def Zo4 (l:List Zn):List Zn:=ZsR [1,3,8,9,38] l
end
section
theorem ZLO (w:Int) (b:Zb) (h:(Z0 w b).2.2=0):(Z0 w b).2.1<=268435460:=by
 have h1:=ZoF b
 have h2:(ZW b).2.1<=5:=by
  have : ∀ (b:Zb) (i n:Nat),i<=4->(gvA i n b).2.1<=5:=by
   intro b
   induction b with
   | nil=>intro i n hi;unfold gvA;split <;> simp
   | cons c r ih =>
    intro i n hi
    unfold gvA
    repeat' split
    all_goals (try simp only)
    all_goals first
     | omega
     | exact ih _ _ (by omega)
  exact this b 0 0 (by omega)
 unfold Z0 at h ⊢
 split
 ·rename_i hc;rw [if_pos hc] at h;simp at h
 ·rename_i hc
  rw [if_neg hc] at h
  split
  ·simp only;omega
  ·rename_i h3;rw [if_neg h3] at h;exact absurd h h3
structure ZGw (n:ZcW):Prop where
 topic:n.topic.length<=9223372036854775807
 payload:n.payload.length<=9223372036854775807
 sender:n.sender.length<=9223372036854775807
 props:n.props.length<=700000000
 tx:∀ p ∈ n.props,ZdO p
 dat:∀ p ∈ n.props,p.data.length<=140737488355328
end
section
def wn:List AVal:=[.lst true [],.int .i64 0,.int .i8 0]
def wv (r g n:Nat):List AVal:=[.sl r g 0 n,.int .i64 0,.int .i8 0]
def wH (g:Nat) (l:Zb):Za:=[.var (wv 1 g l.length),.row g 1 (l.map Zc)]
theorem ZbA {σ:Za} {sq f own:Nat} {view:Bool} {args:List AVal} {r:AVal×Za×Cls} (h:Zo E BY σ sq f own view args=some r):Zo E1 BY σ sq f own view args=some r:=Znk Zz7 h
theorem Zir {O:ZU} {f:Nat} {args args':List AVal} {l l':Zb} {q:AVal} (hq:ZQ q=true) (hw:viewR (wH 1 l') q=some (q,[])/\viewR (wH 0 l') q=some (q,[])) (g2:Nat) (hg2:g2<=1) (h:O f (.ref 0 0::args') (wH 0 l)=some (q,wH g2 l')) (hb:BY f=false) (hp:args.all Zak=true) (hn:args.map ZM=args') {σ:Za} {t r g sq own:Nat} (htr:t≠r) (hff:ZaX σ sq own=true) (hs:σ[t]?=some (.var (wv r g l.length))) (hr:σ[r]?=some (.row g 1 (l.map Zc))) :
  Zo O BY σ sq f own true (.ref t 0::args)=some (q,(σ.set t (.var (wv r (g+g2) l'.length))).set r (.row (g+g2) 1 (l'.map Zc)),{ any:=true,upd:=[(t,wv r (g+g2) l'.length)] }):=by
 subst hn
 have hw':viewR [.var (wv 1 g2 l'.length),.row g2 1 (l'.map Zc)] q=some (q,[]):=by
  rcases Nat.lt_or_ge g2 1 with e | e
  ·obtain rfl:g2=0:=by omega
   exact hw.2
  ·obtain rfl:g2=1:=by omega
   exact hw.1
 exact ZgQ (cs1:=wv 1 0 l.length) (cs2:=wv 1 g2 l'.length) hs hr htr rfl hb hp (fun ρ hρ=>by simp only [wv,Zf,Zm,hρ]) hg2 hff hq h (ZmH true hq hw' rfl hg2 (fun ρ hρ=>by simp only [wv,Zf,Zm,hρ])) (fun ρ hρ=>by simp only [wv,Zf,Zm,hρ])
theorem ZgY {O:ZU} {f:Nat} {args args':List AVal} {l':Zb} {q:AVal} (hq:ZQ q=true) (hv:Zab true 1 (some (q,wH 0 l'))=some (q,wH 0 l')) (h:O f (.ref 0 0::args') [.var wn]=some (q,wH 0 l')) (hb:BY f=false) (hp:args.all Zak=true) (hn:args.map ZM=args') {σ:Za} {t sq:Nat} (hf:σ[sq]?=some .free) (hs:σ[t]?=some (.var wn)) :
  Zo O BY σ sq f 1 true (.ref t 0::args)=some (q,(σ.set t (.var (wv sq 0 l'.length))).set sq (.row 0 1 (l'.map Zc)),{ any:=true,upd:=[(t,wv sq 0 l'.length)] }):=by
 subst hn
 have htl:t < σ.length:=(List.getElem?_eq_some_iff.1 hs).1
 have hsl:sq < σ.length:=(List.getElem?_eq_some_iff.1 hf).1
 have hne:sq≠t:=by rintro rfl;rw [hs] at hf;cases hf
 have h1:σ.getD t .free=.var wn:=by simp [List.getD_eq_getElem?_getD,hs]
 have hf0:Zq σ []=σ:=rfl
 have hsh:showAs σ (.ref t 0::args)=some (.ref t 0::args.map ZM,[]):=by
  rw [showAs,show showA σ (.ref t 0)=some (.ref t 0,[]) from rfl,Zed hp]
  rfl
 have href:Zp (.ref t 0::args.map ZM)=[t]:=by
  rw [Zp,Zdu hp];rfl
 have hre:Zu σ 1000 [t] []=[t]:=by
  have e1:([]:List Nat).contains t=false:=rfl
  rw [show (1000:Nat)=998+1+1 from rfl,Zu,e1]
  simp only [Bool.false_eq_true,if_false,h1,ZC]
  rfl
 unfold Zo ZbO
 rw [hb]
 simp only [Bool.false_eq_true,if_false,hsh,hf0,href,hre]
 unfold Zbz
 have hall:([t].all fun t=>okB (σ.getD t .free))=true:=by simp only [List.all_cons,List.all_nil,h1,okB,Bool.and_true]
 rw [if_pos hall]
 have hρt:Zj σ 0 [t] t 0=some (0,0):=by simp [Zj,ZJ,hs,Zl,ZE]
 have hargs:Zf (Zj σ 0 [t]) (.ref t 0::args.map ZM)=.ref 0 0::args.map ZM:=by
  rw [Zf,ZdA hp]
  simp only [Zm,hρt]
 have hheap:Zr σ 0 [t] (Zj σ 0 [t]) [t] 0=[.var wn]:=by
  simp only [Zr,h1,Zw]
  rfl
 rw [hargs,hheap,h]
 rw [show [t].length=1 from rfl,hv]
 have hk:Za0 σ [t] (wH 0 l') 0=true:=by simp [wH,Za0,okB,Zce,Zl,hs]
 have hff:ZaX σ sq 1=true:=by simp [ZaX,freeAt,hf]
 have hup:Za1 ((σ.set t (.var (wv sq 0 l'.length))).set sq (.row 0 1 (l'.map Zc))) [t]=[(t,wv sq 0 l'.length)]:=by
  have e1:((σ.set t (.var (wv sq 0 l'.length))).set sq (.row 0 1 (l'.map Zc)))[t]?=some (.var (wv sq 0 l'.length)):=by
   rw [List.getElem?_set_ne hne,List.getElem?_set_self htl]
  simp only [Za1,e1]
 have hlay:Za3 σ [t] sq (wH 0 l') 0 σ=(σ.set t (.var (wv sq 0 l'.length))).set sq (.row 0 1 (l'.map Zc)):=by
  simp [wH,Za3,ZaF,Zb1,Zw,Zl,wv,Zf,Zm,Zax]
 simp only [Zav,List.isEmpty_cons,Bool.false_and,Bool.false_eq_true,if_false,hk,hff,hlay,hup,(Za7 _ _ hq).1]
 rfl
theorem ZrS {O:ZU} {f:Nat} {args args':List AVal} (h:O f (.ref 0 0::args') [.var wn]=some (.tup [],[.var wn])) (hb:BY f=false) (hp:args.all Zak=true) (hn:args.map ZM=args') {σ:Za} {t sq own:Nat} (hff:ZaX σ sq own=true) (hs:σ[t]?=some (.var wn)) :
  Zo O BY σ sq f own true (.ref t 0::args)=some (.tup [],σ,{ any:=true,upd:=[(t,wn)] }):=by
 subst hn
 have htl:t < σ.length:=(List.getElem?_eq_some_iff.1 hs).1
 have h1:σ.getD t .free=.var wn:=by simp [List.getD_eq_getElem?_getD,hs]
 have hf0:Zq σ []=σ:=rfl
 have hsh:showAs σ (.ref t 0::args)=some (.ref t 0::args.map ZM,[]):=by
  rw [showAs,show showA σ (.ref t 0)=some (.ref t 0,[]) from rfl,Zed hp]
  rfl
 have href:Zp (.ref t 0::args.map ZM)=[t]:=by
  rw [Zp,Zdu hp];rfl
 have hre:Zu σ 1000 [t] []=[t]:=by
  have e1:([]:List Nat).contains t=false:=rfl
  rw [show (1000:Nat)=998+1+1 from rfl,Zu,e1]
  simp only [Bool.false_eq_true,if_false,h1,ZC]
  rfl
 unfold Zo ZbO
 rw [hb]
 simp only [Bool.false_eq_true,if_false,hsh,hf0,href,hre]
 unfold Zbz
 have hall:([t].all fun t=>okB (σ.getD t .free))=true:=by simp only [List.all_cons,List.all_nil,h1,okB,Bool.and_true]
 rw [if_pos hall]
 have hρt:Zj σ 0 [t] t 0=some (0,0):=by simp [Zj,ZJ,hs,Zl,ZE]
 have hargs:Zf (Zj σ 0 [t]) (.ref t 0::args.map ZM)=.ref 0 0::args.map ZM:=by
  rw [Zf,ZdA hp]
  simp only [Zm,hρt]
 have hheap:Zr σ 0 [t] (Zj σ 0 [t]) [t] 0=[.var wn]:=by
  simp only [Zr,h1,Zw]
  rfl
 rw [hargs,hheap,h]
 have hv:Zab true 1 (some (.tup [],[.var wn]))=some (.tup [],[.var wn]):=rfl
 rw [show [t].length=1 from rfl,hv]
 have hk:Za0 σ [t] [.var wn] 0=true:=by simp [Za0,okB,Zce,Zl,hs]
 have hset:σ.set t (.var wn)=σ:=by
  apply List.ext_getElem?
  intro i
  rw [List.getElem?_set]
  by_cases e:t=i
  ·subst e;rw [if_pos rfl,if_pos htl,hs]
  ·simp [e]
 have hup:Za1 σ [t]=[(t,wn)]:=by simp only [Za1,hs]
 have hlay:Za3 σ [t] sq [.var wn] 0 σ=σ:=by
  simp only [Za3,ZaF,Zw,List.getD_cons_zero]
  exact hset
 simp only [Zav,List.isEmpty_cons,Bool.false_eq_true,if_false,hk,hff,hlay,hup,Zm,Zf,List.length_cons,List.length_nil,Nat.zero_add,Nat.le_add_right,Nat.le_refl,decide_true,Bool.and_self,if_true]
def wT (n:Nat):AVal:=.tup [.int .i64 (n:Nat),.nili]
theorem ZEG (x:Zb) (hx:x.length<=ZbQ):E1 130 [.ref 0 0,.lst false (x.map Zc)] [.var wn]=some (wT x.length,wH 0 x):=by
 rw [Ztp]
 simp only [Ziw,wn,List.length_map,hx,ZfO,and_self,if_true]
 rfl
theorem Zx3 (l x:Zb) (hx:l.length+x.length<=ZbQ):E1 130 [.ref 0 0,.lst false (x.map Zc)] (wH 0 l)=some (wT x.length,wH 1 (l++x)):=by
 rw [Ztp]
 simp only [Ziw,wH,wv,List.length_map,hx,ZfO,and_self,if_true,List.map_append,List.length_append]
 rfl
theorem ZrH (x:Zb) (hx:x.length<=ZbQ) {σ:Za} {t sq:Nat} (hf:σ[sq]?=some .free) (hs:σ[t]?=some (.var wn)) :
  Zo E1 BY σ sq 130 1 true [.ref t 0,.lst false (x.map Zc)]=some (wT x.length,(σ.set t (.var (wv sq 0 x.length))).set sq (.row 0 1 (x.map Zc)),{ any:=true,upd:=[(t,wv sq 0 x.length)] }) :=
 ZgY (args:=[.lst false (x.map Zc)]) rfl rfl (ZEG x hx) (by kernel_rfl) rfl rfl hf hs
theorem ff1 {σ:Za} {sq:Nat} (hf:σ[sq]?=some .free):ZaX σ sq 1=true:=by simp [ZaX,freeAt,hf]
theorem ZjJ (l x:Zb) (hx:l.length+x.length<=ZbQ) {σ:Za} (t r g:Nat) {sq:Nat} (htr:t≠r) (hf:σ[sq]?=some .free) (hs:σ[t]?=some (.var (wv r g l.length))) (hr:σ[r]?=some (.row g 1 (l.map Zc))) :
  Zo E1 BY σ sq 130 1 true [.ref t 0,.lst false (x.map Zc)]=some (wT x.length,(σ.set t (.var (wv r (g+1) (l++x).length))).set r (.row (g+1) 1 ((l++x).map Zc)),{ any:=true,upd:=[(t,wv r (g+1) (l++x).length)] }) :=
 Zir (args:=[.lst false (x.map Zc)]) rfl ⟨rfl,rfl⟩ 1 (by omega) (Zx3 l x hx) (by kernel_rfl) rfl rfl htr (ff1 hf) hs hr
theorem ZtV (x:Zb) (σ:Za):Z6 1 (.var (wv 1 0 x.length)::.row 0 1 (x.map Zc)::σ) (.tup [])=some (.tup [],wH 0 x):=rfl
theorem Zhi (l:Zb) (g:Nat) (σ:Za):Z6 2 (.var (wv 1 (g+1) l.length)::.row (g+1) 1 (l.map Zc)::σ) (.tup [])=some (.tup [],wH 1 l):=by
 simp [Z6,gcA,Zv,Zp,ZS,List.range,List.range.loop,ZC,wv,Zu,Zj,ZJ,Zr,ZE,Zl,Zw,Zf,Zm,wH]
theorem ZF8 (n:Int) (W:Nat) (h1:1<=W) (hW:W<=8):E1 127 [.ref 0 0,.int .i64 n,.int .i64 (W:Nat)] [.var wn]=some (.tup [],wH 0 (beB (ZO n) W)):=by
 have hw:=Zna n
 have hP:=fun σ sq own=>ZbA (Zl4 σ sq own (ZO n) W h1 hW)
 have hlen:(beB (ZO n) W).length<=ZbQ:=by rw [ZaL];unfold ZbQ;omega
 generalize beB (ZO n) W=B at *
 have hC:=fun {σ:Za} {t sq:Nat}=>ZrH B hlen (σ:=σ) (t:=t) (sq:=sq)
 have hO:=fun σ=>ZtV B σ
 rw [Zbr (by rfl) ZsQ]
 unfold wn at *
 simp -implicitDefEqProofs only [EQA,Nat.reduceAdd,Nat.reduceLT,Nat.reduceEqDiff,Nat.reduceBEq,reduceCtorEq,↓reduceIte,Zui,ZlR,Zt5,oI,hw,hP,hC,wT,hO,Zac,Zag,Zai,Zao,Zaq,Zal]
theorem ZKj (l:Zb) (n:Int) (W:Nat) (h1:1<=W) (hW:W<=8) (hl:l.length+W<=ZbQ):E1 127 [.ref 0 0,.int .i64 n,.int .i64 (W:Nat)] (wH 0 l)=some (.tup [],wH 1 (l++beB (ZO n) W)):=by
 have hw:=Zna n
 have hP:=fun σ sq own=>ZbA (Zl4 σ sq own (ZO n) W h1 hW)
 have hlen:l.length+(beB (ZO n) W).length<=ZbQ:=by rw [ZaL];omega
 generalize beB (ZO n) W=B at *
 have hC:=fun {σ:Za} {sq:Nat}=>ZjJ l B hlen (σ:=σ) 0 1 0 (sq:=sq) (by omega)
 have hO:=fun g σ=>Zhi (l++B) g σ
 rw [Zbr (by rfl) ZsQ]
 unfold wH at *
 simp -implicitDefEqProofs only [EQA,Nat.reduceAdd,Nat.reduceLT,Nat.reduceEqDiff,Nat.reduceBEq,reduceCtorEq,↓reduceIte,Zui,ZlR,Zt5,oI,hw,hP,hC,wT,hO,Zac,Zag,Zai,Zao,Zaq,Zal]
end
section
def Ze8:Ze:=(.seq (.seq (.region [oI 68 (.faddr 2 (.t 1)),oI 69 (.ld none (.t 68)),oI 70 (.len (.t 69)),oI 71 (.bin .gtr (.t 70) (.c (.int .i64 0)))] none [71,4,2,1]) (.cond (.t 71) (.region [oI 72 (.faddr 2 (.t 1)),oI 73 (.ld none (.t 72)),oI 74 (.call 46 0 true [(.t 73)]),oI 75 (.bin .add (.c (.str [36,115,104,97,114,101,47,103,47])) (.t 74)),oI 76 (.faddr 13 (.t 4)),oN (.st 1 (.t 76) (.t 75))] none [4,2]) .skip)) (.seq (.region [oI 77 (.ld (some 14) (.t 4)),oN (.st 14 (.t 2) (.t 77))] none [2]) .ret))
def ZpT:Ze:=Ze8
def ZgC:=xw ZpT Ze8 rfl
def ZdR:Ze:=(.seq (.seq (.region [oI 45 (.mov (.t 5)),oI 46 (.faddr 13 (.t 1)),oI 47 (.ld none (.t 46)),oI 48 (.len (.t 47)),oI 49 (.bin .lss (.t 45) (.t 48)),oI 50 (.mov (.t 49)),⟨(some 51),(.mov (.t 5)),(some (50,true)),[]⟩,⟨(some 52),(.bin .lss (.t 51) (.c (.int .i64 4))),(some (50,true)),[]⟩,oI 53 (.pick (.t 50) (.t 52) (.c (.bool false)))] none [53,5,4,2,1]) (.cond (.t 53) .skip (.exit 0))) (.seq (.block 1 (.region [oI 56 (.faddr 12 (.t 4)),oI 57 (.ld none (.t 56)),oI 58 (.faddr 13 (.t 1)),oI 59 (.ld none (.t 58)),oI 60 (.mov (.t 5)),oI 61 (.iaddr 1 (.t 59) (.t 60)),oI 62 (.ld none (.t 61)),oI 63 (.bin .and (.t 62) (.c (.int .i64 16777215))),oI 64 (.bin .add (.c (.int .i64 1)) (.t 63)),oI 65 (.bslice false 1 1 (.int .i64 0) [(0,(.t 64))]),oI 66 (.app 1 8 (.int .i64 0) (.t 57) (.t 65)),oI 67 (.faddr 12 (.t 4)),oN (.st 1 (.t 67) (.t 66))] (some [(1,3),(1,5),(1,6),(1,9)]) [5,4,2,1])) (.region [oI 54 (.mov (.t 5)),oI 55 (.bin .add (.t 54) (.c (.int .i64 1))),oI 5 (.mov (.t 55))] none [5,4,2,1])))
def Zp4:Ze:=ZdR
def ZeU:=xw Zp4 ZdR rfl
def Zk4:Ze:=(.seq (.region [oI 1 (.box (.t 0)),oI 2 (.alloc [(.str []),(.lst true []),(.int .i64 0),(.bool false),(.str []),(.int .i64 0),(.lst true []),(.int .i64 0),(.int .i64 0),(.int .i64 0),(.int .i64 0),(.bool false),(.lst true []),(.str [])])] none [2,1]) (.seq (.region [oI 6 (.faddr 0 (.t 1)),oI 7 (.ld none (.t 6)),oI 8 (.call 46 0 true [(.t 7)]),oI 9 (.bin .add (.c (.str [116])) (.t 8)),oI 10 (.faddr 3 (.t 1)),oI 11 (.ld none (.t 10)),oI 12 (.call 18 0 true [(.t 11),(.c (.int .i64 300))]),oI 13 (.faddr 4 (.t 1)),oI 14 (.ld none (.t 13)),oI 15 (.call 39 0 true [(.t 14),(.c (.int .i64 0)),(.c (.int .i64 2))]),oI 16 (.faddr 6 (.t 1)),oI 17 (.ld none (.t 16)),oI 18 (.faddr 1 (.t 1)),oI 19 (.ld none (.t 18)),oI 20 (.call 46 0 true [(.t 19)]),oI 21 (.faddr 9 (.t 1)),oI 22 (.ld (some 4) (.t 21)),oI 23 (.call 47 0 true [(.t 22)]),oI 24 (.faddr 14 (.t 1)),oI 25 (.ld none (.t 24)),oI 26 (.bin .and (.t 25) (.c (.int .i64 255))),oI 27 (.faddr 15 (.t 1)),oI 28 (.ld none (.t 27)),oI 29 (.bin .and (.t 28) (.c (.int .i64 16777215))),oI 30 (.build [(.str []),(.lst true []),(.int .i64 0),(.bool false),(.str []),(.int .i64 0),(.lst true []),(.int .i64 0),(.int .i64 0),(.int .i64 0)] [(0,1,(.t 9)),(1,1,(.t 12)),(2,1,(.t 15)),(3,1,(.t 17)),(4,1,(.t 20)),(6,1,(.t 23)),(7,1,(.t 26)),(8,1,(.t 29))]),oI 3 (.alloc [(.str []),(.lst true []),(.int .i64 0),(.bool false),(.str []),(.int .i64 0),(.lst true []),(.int .i64 0),(.int .i64 0),(.int .i64 0)]),oN (.st 10 (.t 3) (.t 30))] (some [(1,5),(2,5),(1,8),(2,8),(5,8),(6,8),(1,11),(2,11),(5,11),(6,11),(8,11),(9,11),(1,13),(2,13),(5,13),(6,13),(8,13),(9,13),(11,13),(11,14),(1,16),(2,16),(5,16),(6,16),(8,16),(9,16),(11,16),(13,16),(14,16),(11,17),(1,19),(2,19),(5,19),(6,19),(8,19),(9,19),(11,19),(13,19),(14,19),(16,19),(17,19),(1,22),(2,22),(5,22),(6,22),(8,22),(9,22),(11,22),(13,22),(14,22),(16,22),(17,22),(19,22),(1,25),(2,25),(5,25),(6,25),(8,25),(9,25),(11,25),(13,25),(14,25),(16,25),(17,25),(19,25),(22,25)]) [3,2,1]) (.seq (.seq (.region [oI 31 (.faddr 8 (.t 1)),oI 32 (.ld none (.t 31)),oI 33 (.bin .gtr (.t 32) (.c (.int .i64 0)))] none [33,3,2,1]) (.cond (.t 33) (.region [oI 34 (.faddr 8 (.t 1)),oI 35 (.ld none (.t 34)),oI 36 (.bin .and (.t 35) (.c (.int .i64 65535))),oI 37 (.faddr 5 (.t 3)),oN (.st 1 (.t 37) (.t 36))] none [3,2,1]) .skip)) (.seq (.region [oI 38 (.ld (some 10) (.t 3)),oI 39 (.faddr 5 (.t 1)),oI 40 (.ld none (.t 39)),oI 41 (.call 39 0 true [(.t 40),(.c (.int .i64 0)),(.c (.int .i64 2))]),oI 42 (.faddr 7 (.t 1)),oI 43 (.ld none (.t 42)),oI 44 (.build [(.str []),(.lst true []),(.int .i64 0),(.bool false),(.str []),(.int .i64 0),(.lst true []),(.int .i64 0),(.int .i64 0),(.int .i64 0),(.int .i64 0),(.bool false),(.lst true []),(.str [])] [(0,10,(.t 38)),(10,1,(.t 41)),(11,1,(.t 43))]),oI 4 (.alloc [(.str []),(.lst true []),(.int .i64 0),(.bool false),(.str []),(.int .i64 0),(.lst true []),(.int .i64 0),(.int .i64 0),(.int .i64 0),(.int .i64 0),(.bool false),(.lst true []),(.str [])]),oN (.st 14 (.t 4) (.t 44))] (some [(0,2),(0,3),(0,5),(2,5),(3,5),(0,7),(2,7),(3,7),(5,7)]) [4,2,1]) (.seq (.seq (.region [oI 5 (.mov (.c (.int .i64 0)))] none [5,4,2,1]) (.block 0 (.loop [5,4,2,1] Zp4))) ZpT)))))
def ZkG:ZG:=⟨[(.cell 2 (some 14))],Zk4⟩
theorem ZI9:FC 12=some ZkG:=by kernel_rfl
theorem ZtI:ZkG.body=Zk4:=rfl
theorem ZfV:ZkG.res=[(.cell 2 (some 14))]:=rfl
noncomputable def ZiW (m:Nat) (tm:Tms) (σ:Za):Option (AVal×Za):=(Zan m ZkG (Zbq FC PR BY m ZpT (Option.map (ZaJ 0) (evL FC PR BY m [5,4,2,1] Zp4 tm σ))))
def ZhN:Ze:=(.seq (.region [oI 62 (.mov (.t 3)),oI 2 (.mov (.t 62))] none [2]) .ret)
def Zm9:Ze:=ZhN
def Zl9:=xw Zm9 ZhN rfl
def ZfL:Ze:=(.seq (.seq (.region [oI 37 (.mov (.t 4)),oI 38 (.faddr 3 (.t 1)),oI 39 (.ld none (.t 38)),oI 40 (.len (.t 39)),oI 41 (.bin .lss (.t 37) (.t 40)),oI 42 (.mov (.t 41)),⟨(some 43),(.mov (.t 4)),(some (42,true)),[]⟩,⟨(some 44),(.bin .lss (.t 43) (.c (.int .i64 4))),(some (42,true)),[]⟩,oI 45 (.pick (.t 42) (.t 44) (.c (.bool false)))] none [45,4,3,1]) (.cond (.t 45) .skip (.exit 0))) (.seq (.block 1 (.region [oI 48 (.mov (.t 3)),oI 49 (.faddr 3 (.t 1)),oI 50 (.ld none (.t 49)),oI 51 (.mov (.t 4)),oI 52 (.mov (.t 4)),oI 53 (.bin .add (.t 52) (.c (.int .i64 1))),oI 54 (.slice 1 (.t 50) (some (.t 51)) (some (.t 53)) none),oI 55 (.call 46 0 true [(.t 54)]),oI 56 (.faddr 3 (.t 1)),oI 57 (.ld none (.t 56)),oI 58 (.call 46 0 true [(.t 57)]),oI 59 (.build [(.int .i64 0),(.int .i64 0),(.str []),(.str []),(.lst true [])] [(0,1,(.c (.int .i64 38))),(2,1,(.t 55)),(3,1,(.t 58))]),oI 60 (.bslice false 5 1 (.agg [(.int .i64 0),(.int .i64 0),(.str []),(.str []),(.lst true [])]) [(0,(.t 59))]),oI 61 (.app 5 72 (.agg [(.int .i64 0),(.int .i64 0),(.str []),(.str []),(.lst true [])]) (.t 48) (.t 60)),oI 3 (.mov (.t 61))] (some [(2,9),(6,9),(7,9),(10,10)]) [4,3,1])) (.region [oI 46 (.mov (.t 4)),oI 47 (.bin .add (.t 46) (.c (.int .i64 1))),oI 4 (.mov (.t 47))] none [4,3,1])))
def Zoh:Ze:=ZfL
def Zit:=xw Zoh ZfL rfl
def ZqC:Ze:=(.seq (.region [oI 1 (.box (.t 0)),oI 2 (.mov (.c (.lst true [])))] none [1]) (.seq (.region [oI 3 (.mov (.c (.lst true [])))] none [3,1]) (.seq (.seq (.region [oI 5 (.faddr 0 (.t 1)),oI 6 (.ld none (.t 5)),oI 7 (.bin .geq (.t 6) (.c (.int .i64 0)))] none [7,3,1]) (.cond (.t 7) (.region [oI 8 (.mov (.t 3)),oI 9 (.faddr 0 (.t 1)),oI 10 (.ld none (.t 9)),oI 11 (.bin .and (.t 10) (.c (.int .i64 1))),oI 12 (.build [(.int .i64 0),(.int .i64 0),(.str []),(.str []),(.lst true [])] [(0,1,(.c (.int .i64 1))),(1,1,(.t 11))]),oI 13 (.bslice false 5 1 (.agg [(.int .i64 0),(.int .i64 0),(.str []),(.str []),(.lst true [])]) [(0,(.t 12))]),oI 14 (.app 5 72 (.agg [(.int .i64 0),(.int .i64 0),(.str []),(.str []),(.lst true [])]) (.t 8) (.t 13)),oI 3 (.mov (.t 14))] none [3,1]) .skip)) (.seq (.seq (.region [oI 15 (.faddr 1 (.t 1)),oI 16 (.ld none (.t 15)),oI 17 (.len (.t 16)),oI 18 (.bin .gtr (.t 17) (.c (.int .i64 0)))] none [18,3,1]) (.cond (.t 18) (.region [oI 19 (.mov (.t 3)),oI 20 (.faddr 1 (.t 1)),oI 21 (.ld none (.t 20)),oI 22 (.call 46 0 true [(.t 21)]),oI 23 (.build [(.int .i64 0),(.int .i64 0),(.str []),(.str []),(.lst true [])] [(0,1,(.c (.int .i64 3))),(2,1,(.t 22))]),oI 24 (.bslice false 5 1 (.agg [(.int .i64 0),(.int .i64 0),(.str []),(.str []),(.lst true [])]) [(0,(.t 23))]),oI 25 (.app 5 72 (.agg [(.int .i64 0),(.int .i64 0),(.str []),(.str []),(.lst true [])]) (.t 19) (.t 24)),oI 3 (.mov (.t 25))] none [3,1]) .skip)) (.seq (.seq (.region [oI 26 (.faddr 2 (.t 1)),oI 27 (.ld none (.t 26)),oI 28 (.len (.t 27)),oI 29 (.bin .gtr (.t 28) (.c (.int .i64 0)))] none [29,3,1]) (.cond (.t 29) (.region [oI 30 (.mov (.t 3)),oI 31 (.faddr 2 (.t 1)),oI 32 (.ld none (.t 31)),oI 33 (.call 18 0 true [(.t 32),(.c (.int .i64 30))]),oI 34 (.build [(.int .i64 0),(.int .i64 0),(.str []),(.str []),(.lst true [])] [(0,1,(.c (.int .i64 9))),(4,1,(.t 33))]),oI 35 (.bslice false 5 1 (.agg [(.int .i64 0),(.int .i64 0),(.str []),(.str []),(.lst true [])]) [(0,(.t 34))]),oI 36 (.app 5 72 (.agg [(.int .i64 0),(.int .i64 0),(.str []),(.str []),(.lst true [])]) (.t 30) (.t 35)),oI 3 (.mov (.t 36))] none [3,1]) .skip)) (.seq (.seq (.region [oI 4 (.mov (.c (.int .i64 0)))] none [4,3,1]) (.block 0 (.loop [4,3,1] Zoh))) Zm9))))))
def Zle:ZG:=⟨[(.tmp 2)],ZqC⟩
theorem ZLe:FC 47=some Zle:=by kernel_rfl
theorem ZEO:Zle.body=ZqC:=rfl
theorem Zma:Zle.res=[(.tmp 2)]:=rfl
noncomputable def ZmN (m:Nat) (tm:Tms) (σ:Za):Option (AVal×Za):=(Zan m Zle (Zbq FC PR BY m Zm9 (Option.map (ZaJ 0) (evL FC PR BY m [4,3,1] Zoh tm σ))))
def ZjV:Ze:=(.seq (.block 2 (.seq (.region [oI 72 (.faddr 0 (.t 7)),oI 73 (.faddr 5 (.t 72)),oI 74 (.ld none (.t 73)),oI 75 (.bin .eql (.t 74) (.c (.int .i64 0))),oI 71 (.mov (.t 75))] none [71,12,8,7]) (.cond (.t 71) (.seq (.region [oI 76 (.mov (.t 12)),oI 77 (.bin .eql (.t 76) (.c (.int .i64 (-1)))),oI 78 (.mov (.t 77)),⟨(some 79),(.faddr 0 (.t 7)),(some (78,true)),[]⟩,⟨(some 80),(.ld (some 10) (.t 79)),(some (78,true)),[]⟩,⟨(some 81),(.mov (.t 8)),(some (78,true)),[]⟩,⟨(some 82),(.call 45 0 true [(.t 80),(.t 81)]),(some (78,true)),[]⟩,⟨(some 83),(.un .not (.t 82)),(some (78,true)),[]⟩,oI 84 (.pick (.t 78) (.t 83) (.c (.bool false))),oI 85 (.mov (.t 84)),⟨(some 86),(.call 29 0 true []),(some (85,true)),[]⟩,oI 87 (.pick (.t 85) (.t 86) (.c (.bool false))),oI 6 (.mov (.t 87))] none [6]) .ret) (.seq (.region [oI 89 (.faddr 0 (.t 7)),oI 90 (.ld (some 10) (.t 89)),oI 91 (.mov (.t 8)),oI 92 (.call 45 0 true [(.t 90),(.t 91)]),oI 88 (.mov (.t 92))] none [88,12,8,7]) (.cond (.t 88) (.seq (.region [oI 93 (.mov (.t 12)),oI 94 (.bin .eql (.t 93) (.c (.int .i64 0))),oI 95 (.mov (.t 94)),⟨(some 96),(.mov (.t 8)),(some (95,true)),[]⟩,⟨(some 97),(.faddr 0 (.t 7)),(some (95,true)),[]⟩,⟨(some 98),(.faddr 5 (.t 97)),(some (95,true)),[]⟩,⟨(some 99),(.ld none (.t 98)),(some (95,true)),[]⟩,⟨(some 100),(.bin .geq (.t 96) (.t 99)),(some (95,true)),[]⟩,oI 101 (.pick (.t 95) (.t 100) (.c (.bool false))),oI 102 (.mov (.t 101)),⟨(some 103),(.call 29 0 true []),(some (102,true)),[]⟩,oI 104 (.pick (.t 102) (.t 103) (.c (.bool false))),oI 6 (.mov (.t 104))] none [6]) .ret) .skip))))) (.seq (.region [oI 105 (.mov (.t 12)),oI 106 (.faddr 0 (.t 7)),oI 107 (.faddr 5 (.t 106)),oI 108 (.ld none (.t 107)),oI 109 (.mov (.t 8)),oI 110 (.bin .sub (.t 108) (.t 109)),oI 111 (.bin .eql (.t 105) (.t 110)),oI 112 (.mov (.t 111)),⟨(some 113),(.mov (.t 12)),(some (112,true)),[]⟩,⟨(some 114),(.bin .gtr (.t 113) (.c (.int .i64 0))),(some (112,true)),[]⟩,oI 115 (.pick (.t 112) (.t 114) (.c (.bool false))),oI 116 (.mov (.t 115)),⟨(some 117),(.call 29 0 true []),(some (116,true)),[]⟩,oI 118 (.pick (.t 116) (.t 117) (.c (.bool false))),oI 6 (.mov (.t 118))] none [6]) .ret))
def Zul:Ze:=ZjV
def ZiK:Ze:=(.seq (.seq (.region [oI 51 (.mov (.t 13)),oI 52 (.faddr 9 (.t 9)),oI 53 (.ld none (.t 52)),oI 54 (.len (.t 53)),oI 55 (.bin .lss (.t 51) (.t 54))] none [55,13,12,9,8,7]) (.cond (.t 55) .skip (.exit 0))) (.seq (.block 1 (.seq (.region [oI 58 (.faddr 9 (.t 9)),oI 59 (.ld none (.t 58)),oI 60 (.mov (.t 13)),oI 61 (.iaddr 5 (.t 59) (.t 60)),oI 62 (.faddr 0 (.t 61)),oI 63 (.ld none (.t 62)),oI 64 (.bin .eql (.t 63) (.c (.int .i64 2)))] none [64,13,12,9,8,7]) (.cond (.t 64) (.region [oI 65 (.faddr 9 (.t 9)),oI 66 (.ld none (.t 65)),oI 67 (.mov (.t 13)),oI 68 (.iaddr 5 (.t 66) (.t 67)),oI 69 (.faddr 1 (.t 68)),oI 70 (.ld none (.t 69)),oI 12 (.mov (.t 70))] none [13,12,9,8,7]) .skip))) (.region [oI 56 (.mov (.t 13)),oI 57 (.bin .add (.t 56) (.c (.int .i64 1))),oI 13 (.mov (.t 57))] none [13,12,9,8,7])))
def ZoP:Ze:=ZiK
def ZiT:Ze:=(.seq (.region [oI 3 (.box (.t 0)),oI 6 (.mov (.c (.bool false)))] none [3,2,1]) (.seq (.region [oI 14 (.ld (some 16) (.t 3)),oI 15 (.call 12 0 true [(.t 14)]),oI 7 (.alloc [(.str []),(.lst true []),(.int .i64 0),(.bool false),(.str []),(.int .i64 0),(.lst true []),(.int .i64 0),(.int .i64 0),(.int .i64 0),(.int .i64 0),(.bool false),(.lst true []),(.str [])]),oN (.st 14 (.t 7) (.t 15))] none [7,2,1]) (.seq (.region [oI 16 (.mov (.t 2)),oI 17 (.call 39 0 true [(.t 16),(.c (.int .i64 1)),(.c (.int .i64 65535))]),oI 2 (.mov (.t 17))] none [7,2,1]) (.seq (.region [oI 18 (.mov (.t 1)),oI 19 (.call 39 0 true [(.t 18),(.c (.int .i64 1)),(.c (.int .i64 131072))]),oI 8 (.mov (.t 19))] none [8,7,2]) (.seq (.region [oI 20 (.ld (some 14) (.t 7)),oI 21 (.mov (.t 8)),oI 22 (.mov (.t 2)),oI 23 (.call 44 0 true [(.t 20),(.t 21),(.t 22),(.c (.bool false))]),oI 9 (.alloc [(.int .i64 0),(.bool false),(.int .i64 0),(.bool false),(.int .i64 0),(.str []),(.lst true []),(.int .i64 0),(.lst true []),(.lst true []),(.lst true []),(.lst true []),(.bool false),(.int .i64 0),(.str []),(.bool false),(.str []),(.lst true []),(.int .i64 0),(.bool false),(.lst true []),(.bool false),(.str []),(.bool false),(.lst true []),(.bool false)]),oN (.st 26 (.t 9) (.t 23))] none [9,8,7]) (.seq (.region [oI 25 (.ld (some 26) (.t 9)),oI 26 (.call 40 0 true [(.t 25)]),oI 24 (.mov (.t 26)),oI 27 (.ext (.t 24) 0),oI 28 (.ext (.t 24) 1),oI 10 (.mov (.t 27)),oI 11 (.mov (.t 28))] none [11,10,9,8,7]) (.seq (.seq (.region [oI 29 (.mov (.t 11)),oI 30 (.bin .neq (.t 29) (.c (.int .i64 0))),oI 31 (.mov (.t 30)),⟨(some 32),(.mov (.t 10)),(some (31,false)),[]⟩,⟨(some 33),(.len (.t 32)),(some (31,false)),[]⟩,⟨(some 34),(.bin .eql (.t 33) (.c (.int .i64 0))),(some (31,false)),[]⟩,oI 35 (.pick (.t 31) (.c (.bool true)) (.t 34)),oI 36 (.mov (.t 35)),⟨(some 37),(.faddr 5 (.t 9)),(some (36,false)),[]⟩,⟨(some 38),(.ld none (.t 37)),(some (36,false)),[]⟩,⟨(some 39),(.faddr 0 (.t 7)),(some (36,false)),[]⟩,⟨(some 40),(.faddr 0 (.t 39)),(some (36,false)),[]⟩,⟨(some 41),(.ld none (.t 40)),(some (36,false)),[]⟩,⟨(some 42),(.bin .neq (.t 38) (.t 41)),(some (36,false)),[]⟩,oI 43 (.pick (.t 36) (.c (.bool true)) (.t 42)),oI 44 (.mov (.t 43)),⟨(some 45),(.faddr 2 (.t 9)),(some (44,false)),[]⟩,⟨(some 46),(.ld none (.t 45)),(some (44,false)),[]⟩,⟨(some 47),(.faddr 10 (.t 7)),(some (44,false)),[]⟩,⟨(some 48),(.ld none (.t 47)),(some (44,false)),[]⟩,⟨(some 49),(.bin .neq (.t 46) (.t 48)),(some (44,false)),[]⟩,oI 50 (.pick (.t 44) (.c (.bool true)) (.t 49))] none [50,9,8,7]) (.cond (.t 50) (.seq (.region [oI 6 (.mov (.c (.bool false)))] none [6]) .ret) .skip)) (.seq (.region [oI 12 (.mov (.c (.int .i64 (-1))))] none [12,9,8,7]) (.seq (.seq (.region [oI 13 (.mov (.c (.int .i64 0)))] none [13,12,9,8,7]) (.block 0 (.loop [13,12,9,8,7] ZoP))) Zul)))))))))
def Zrp:ZG:=⟨[(.tmp 6)],ZiT⟩
theorem Zo7:FC 11=some Zrp:=by kernel_rfl
theorem Zqo:Zrp.body=ZiT:=rfl
theorem Zou:Zrp.res=[(.tmp 6)]:=rfl
def ZlZ:Ze:=(.seq (.region [oI 25 (.mov (.t 3)),oI 2 (.mov (.t 25))] none [2]) .ret)
def Zpb:Ze:=ZlZ
def ZrX:=xw Zpb ZlZ rfl
def Zjl:Ze:=(.seq (.seq (.region [oI 5 (.mov (.t 4)),oI 6 (.mov (.t 0)),oI 7 (.len (.t 6)),oI 8 (.bin .lss (.t 5) (.t 7)),oI 9 (.mov (.t 8)),⟨(some 10),(.mov (.t 4)),(some (9,true)),[]⟩,⟨(some 11),(.bin .lss (.t 10) (.c (.int .i64 30))),(some (9,true)),[]⟩,oI 12 (.pick (.t 9) (.t 11) (.c (.bool false)))] none [12,4,3,0]) (.cond (.t 12) .skip (.exit 0))) (.seq (.block 1 (.region [oI 15 (.mov (.t 3)),oI 16 (.mov (.t 0)),oI 17 (.mov (.t 4)),oI 18 (.iaddr 1 (.t 16) (.t 17)),oI 19 (.ld none (.t 18)),oI 20 (.bin .rem (.t 19) (.c (.int .u8 26))),oI 21 (.bin .add (.c (.int .u8 97)) (.t 20)),oI 22 (.bslice false 1 1 (.int .u8 0) [(0,(.t 21))]),oI 23 (.b2s (.t 22)),oI 24 (.bin .add (.t 15) (.t 23)),oI 3 (.mov (.t 24))] none [4,3,0])) (.region [oI 13 (.mov (.t 4)),oI 14 (.bin .add (.t 13) (.c (.int .i64 1))),oI 4 (.mov (.t 14))] none [4,3,0])))
def Zn4:Ze:=Zjl
def Zpl:=xw Zn4 Zjl rfl
def Zoq:Ze:=(.seq (.region [oI 2 (.mov (.c (.str [])))] none [0]) (.seq (.region [oI 3 (.mov (.c (.str [])))] none [3,0]) (.seq (.seq (.region [oI 4 (.mov (.c (.int .i64 0)))] none [4,3,0]) (.block 0 (.loop [4,3,0] Zn4))) Zpb)))
def Zk9:ZG:=⟨[(.tmp 2)],Zoq⟩
theorem ZPd:FC 46=some Zk9:=by kernel_rfl
theorem ZFP:Zk9.body=Zoq:=rfl
theorem ZwL:Zk9.res=[(.tmp 2)]:=rfl
noncomputable def Zkj (m:Nat) (tm:Tms) (σ:Za):Option (AVal×Za):=(Zan m Zk9 (Zbq FC PR BY m Zpb (Option.map (ZaJ 0) (evL FC PR BY m [4,3,0] Zn4 tm σ))))
end
section
theorem ZKO (b:Zb) (n:Int) (h0:0<=n):E 18 [ZI b,.int .i64 n] []=some (ZI (b.take n.toNat),[]):=by
 rw [Zh (by rfl) ZHV]
 by_cases h:n < (b.length:Int)
 ·have hl:n<=(b.length:Int):=by omega
  simp -implicitDefEqProofs only [EQA,Zt,Nat.reduceLT,Nat.reduceEqDiff,reduceCtorEq,↓reduceIte,Zwo,Zk3,ZrE,oI,ZI,h0,h,hl,Zje]
 ·have hl:b.take n.toNat=b:=List.take_of_length_le (by omega)
  simp -implicitDefEqProofs only [EQA,Zt,Nat.reduceLT,Nat.reduceEqDiff,reduceCtorEq,↓reduceIte,Zwo,Zk3,ZrE,oI,ZI,h,hl]
theorem ZvW (σ:Za) (sq own:Nat) (view:Bool) (b:Zb) (n:Int) (h0:0<=n):Zo E BY σ sq 18 own view [.lst false (b.map Zc),.int .i64 n]=some (.lst false ((b.take n.toNat).map Zc),σ,{}) :=
 Zb8 (ZKO b n h0) (by kernel_rfl) (by simp -implicitDefEqProofs only [ZcI,Zbo,eq_self,ZI]) (by simp -implicitDefEqProofs only [ZK,Zbo,eq_self,ZI]) rfl (fun _=>rfl) _ _ _ _
def Zc7 (n lo hi:Int):Int:=lo+(if n.tmod (hi - lo+1) < 0 then n.tmod (hi - lo+1)+(hi - lo+1) else n.tmod (hi - lo+1))
theorem ZFi (n:Int):E 39 [.int .i64 n,.int .i64 0,.int .i64 2] []=some (.int .i64 (Zc7 n 0 2),[]):=by
 have w1:IntKind.i64.wrap (2 - 0)=2:=rfl
 have w2:IntKind.i64.wrap (2+1)=3:=rfl
 have hz:((3:Int)=0)=False:=by simp
 have hb:-3 < n.tmod 3/\n.tmod 3 < 3:=by
  have h1:=Int.tmod_lt_of_pos n (show (0:Int) < 3 by decide)
  have h2:=Int.lt_tmod_of_pos n (show (0:Int) < 3 by decide)
  omega
 unfold Zc7
 rw [show (2:Int) - 0+1=3 from rfl]
 rw [Zh (by rfl) ZrB]
 by_cases h:n.tmod 3 < 0
 ·have w3:IntKind.i64.wrap (n.tmod 3+3)=n.tmod 3+3:=Za6 (by omega) (by omega)
  have w4:IntKind.i64.wrap (0+(n.tmod 3+3))=0+(n.tmod 3+3):=Za6 (by omega) (by omega)
  simp -implicitDefEqProofs only [EQA,Za2,Nat.reduceAdd,Nat.reduceLT,Nat.reduceEqDiff,reduceCtorEq,↓reduceIte,Zl5,Zhu,ZlA,oI,w1,w2,w3,w4,hz,h]
 ·have w4:IntKind.i64.wrap (0+n.tmod 3)=0+n.tmod 3:=Za6 (by omega) (by omega)
  simp -implicitDefEqProofs only [EQA,Za2,Nat.reduceAdd,Nat.reduceLT,Nat.reduceEqDiff,reduceCtorEq,↓reduceIte,Zl5,Zhu,ZlA,oI,w1,w2,w4,hz,h]
theorem ZrP (σ:Za) (sq own:Nat) (view:Bool) (n:Int):Zo E BY σ sq 39 own view [.int .i64 n,.int .i64 0,.int .i64 2]=some (.int .i64 (Zc7 n 0 2),σ,{}) :=
 Zb8 (ZFi n) (by kernel_rfl) rfl rfl rfl (fun _=>rfl) _ _ _ _
theorem Zs5 (n:Int):Zc7 n 0 2=0\/Zc7 n 0 2=1\/Zc7 n 0 2=2:=by
 have h1:=Int.tmod_lt_of_pos n (show (0:Int) < 3 by decide)
 have h2:=Int.lt_tmod_of_pos n (show (0:Int) < 3 by decide)
 unfold Zc7
 rw [show (2:Int) - 0+1=3 from rfl]
 split <;> omega
end
section
def Zd8 (c:UInt8):UInt8:=UInt8.ofNat (97+c.toNat % 26)
def Zb4 (b:Zb):Zb:=(b.take 30).map Zd8
theorem ZKM (c:UInt8):IntKind.u8.wrap (97+(c.toNat:Int).tmod 26)=((Zd8 c).toNat:Int):=by
 have h:(c.toNat:Int).tmod 26=((c.toNat % 26:Nat):Int):=by rw [Int.tmod_eq_emod_of_nonneg (by omega)];omega
 rw [h,IntKind.wrap_u8,Zd8,UInt8.toNat_ofNat']
 omega
theorem ZvU (b:Zb) (hb:b.length<=9223372036854775807):∀ (r:Zb) (i:Nat) (acc:Zb),(b.take 30).drop i=r->acc.length<=i->i<=30 ->
  Zkj 0 [(4,.int .i64 i),(3,.str acc),(0,.lst false (b.map Zc))] []=some (.str (acc++r.map Zd8),[])
 | [],i,acc,h,ha,hi=>by
  rw [List.drop_eq_nil_iff,List.length_take] at h
  unfold Zkj
  rw [Z2]
  by_cases h1:(i:Int) < (b.length:Int)
  ·have h2:¬(i:Int) < 30:=by omega
   simp -implicitDefEqProofs only [EQA,Zt,Nat.reduceLT,Nat.reduceEqDiff,ZD,unG,reduceCtorEq,↓reduceIte,ZwL,ZrX,ZlZ,Zpl,Zjl,oI,h1,h2]
  ·simp -implicitDefEqProofs only [EQA,Zt,Nat.reduceLT,Nat.reduceEqDiff,ZD,Zam,reduceCtorEq,↓reduceIte,ZwL,ZrX,ZlZ,Zpl,Zjl,oI,h1]
 | c::r,i,acc,h,ha,hi=>by
  have hd:=Z4 h
  have hlt:i < min 30 b.length:=by have:=hd.2.2;rwa [List.length_take] at this
  have ih:=ZvU b hb r (i+1) (acc++[Zd8 c]) hd.2.1 (by simp;omega) (by omega)
  have hat:b[i]?=some c:=by
   have:=hd.1
   rw [List.getElem?_take] at this
   rw [if_pos (by omega)] at this
   exact this
  have h1:(i:Int) < (b.length:Int):=by omega
  have h2:(i:Int) < 30:=by omega
  have e1:=iad hat Zc (k:=1) rfl
  have hw:IntKind.i64.wrap ((i:Int)+1)=((i+1:Nat):Int):=by rw [Za6 (by omega) (by omega)];rfl
  have hl:=ZKM c
  have hz:((26:Int)=0)=False:=by simp
  have k1:acc.length+1<=9223372036854775807:=by omega
  have hb2:ZfI [AVal.int .u8 ((Zd8 c).toNat:Int)]=some [Zd8 c]:=by
   have:=ZvK [Zd8 c];exact this
  rw [List.append_assoc,List.singleton_append,<-List.map_cons] at ih
  unfold Zkj at ih ⊢
  rw [Z2]
  simp -implicitDefEqProofs only [EQA,ZV,Nat.reduceLT,Nat.reduceEqDiff,Zcn,ZD,unG,reduceCtorEq,ZY,↓reduceIte,gcT,gcA,Zv,Zu,Zr,ZC,Zpl,Zjl,oI,h1,h2,e1,hw,hl,hz,k1,hb2,Zc,AVal.cells,viewAs,ZP,ZL,Zq]
  exact ih
theorem ZxC (b:Zb) (hb:b.length<=9223372036854775807):E 46 [ZI b] []=some (.str (Zb4 b),[]):=by
 have key:=ZvU b hb (b.take 30) 0 [] rfl (Nat.le_refl _) (by omega)
 have z0:((0:Nat):Int)=0:=rfl
 rw [z0] at key
 unfold Zkj at key
 rw [Zh (by rfl) ZPd]
 simp -implicitDefEqProofs only [EQA,ZV,Nat.reduceLT,Nat.reduceEqDiff,reduceCtorEq,↓reduceIte,gcT,gcA,Zv,Zu,Zr,ZC,ZFP,Zoq,oI,ZI]
 exact key
theorem ZhZ (σ:Za) (sq own:Nat) (f:Bool) (b:Zb) (hb:b.length<=9223372036854775807):Zo E BY σ sq 46 own true [.lst f (b.map Zc)]=some (.str (Zb4 b),σ,{}) :=
 ZbK (ZxC b hb) (by kernel_rfl) rfl rfl rfl (fun _=>rfl) _ _ _
structure Zdw where
 fmt:Int
 content:Zb
 corr:Zb
 users:Zb
def Zjs (x:Int):Int:=IntKind.i64.wrap (((BitVec.ofInt IntKind.i64.bits x &&& BitVec.ofInt IntKind.i64.bits 1).toNat:Nat):Int)
def ZeJ (u:Zb) (c:UInt8):Zn:=⟨38,0,Zb4 [c],Zb4 u,[]⟩
def Zfa (p:Zdw):List Zn :=
 (if p.fmt>=0 then [⟨1,Zjs p.fmt,[],[],[]⟩] else [])++((if p.content.length > 0 then [⟨3,0,Zb4 p.content,[],[]⟩] else [])++(if p.corr.length > 0 then [⟨9,0,[],[],p.corr.take 30⟩] else []))
def Zcr (p:Zdw):List Zn:=Zfa p++(p.users.take 4).map (ZeJ p.users)
def lsT (i:Int):List AVal->Tms
 | []=>[(4,.int .i64 i),(3,.lst true []),(1,.ref 0 0)]
 | x::xs=>[(4,.int .i64 i),(3,.sl 0 0 0 (x::xs).length),(1,.ref 1 0)]
def lsH (b:ZN):List AVal->Za
 | []=>[b]
 | x::xs=>[.row 0 5 (x::xs),b]
def pC (p:Zdw):List AVal:=[.int .i64 p.fmt,.lst false (p.content.map Zc),.lst false (p.corr.map Zc),.lst false (p.users.map Zc)]
theorem ZpC (i:Int) {X:List AVal} (h:0 < X.length):lsT i X=[(4,.int .i64 i),(3,.sl 0 0 0 X.length),(1,.ref 1 0)]:=by
 cases X with
 | nil=>simp at h
 | cons x xs=>rfl
theorem Zq8 (b:ZN) {X:List AVal} (h:0 < X.length):lsH b X=[.row 0 5 X,b]:=by
 cases X with
 | nil=>simp at h
 | cons x xs=>rfl
theorem ZsW (p:Zdw) (hu:p.users.length<=9223372036854775807):∀ (r:Zb) (i:Nat) (acc:List Zn),(p.users.take 4).drop i=r->acc.length<=3+i->i<=4 ->
  ZmN 0 (lsT i (acc.map Zg)) (lsH (.var (pC p)) (acc.map Zg))=some (ZcR ((acc++r.map (ZeJ p.users)).map Zg),ZcY 5 ((acc++r.map (ZeJ p.users)).map Zg))
 | [],i,acc,h,ha,hi=>by
  rw [List.drop_eq_nil_iff,List.length_take] at h
  simp only [List.map_nil,List.append_nil]
  unfold ZmN pC
  rw [Z2]
  cases acc with
  | nil =>
   simp only [List.map_nil,ZeL,ZeZ,lsT,lsH]
   by_cases h1:(i:Int) < (p.users.length:Int)
   ·have h2:¬(i:Int) < 4:=by omega
    simp -implicitDefEqProofs only [EQA,Zt,Nat.reduceLT,Nat.reduceEqDiff,ZD,unG,↓reduceIte,Zma,Zl9,ZhN,Zit,ZfL,oI,h1,h2]
    try (simp [Z6,gcA,Zv,Zu,Zp,ZS,Zj,Zr,ZJ,Zl,ZE,Zf,Zm,Zw,ZC,List.range_succ])
   ·simp -implicitDefEqProofs only [EQA,Zt,Nat.reduceLT,Nat.reduceEqDiff,ZD,Zam,↓reduceIte,Zma,Zl9,ZhN,Zit,ZfL,oI,h1]
    try (simp [Z6,gcA,Zv,Zu,Zp,ZS,Zj,Zr,ZJ,Zl,ZE,Zf,Zm,Zw,ZC,List.range_succ])
  | cons a acc =>
   generalize hX:(a::acc).map Zg=X
   have hXp:0 < X.length:=by rw [<-hX];simp
   rw [ZhR hXp,Zh9 hXp,ZpC _ hXp,Zq8 _ hXp]
   by_cases h1:(i:Int) < (p.users.length:Int)
   ·have h2:¬(i:Int) < 4:=by omega
    simp -implicitDefEqProofs only [EQA,Nat.reduceAdd,Nat.reduceLT,Nat.reduceEqDiff,ZD,unG,↓reduceIte,Zma,Zl9,ZhN,Zit,ZfL,oI,h1,h2]
    try (simp [Z6,gcA,Zv,Zu,Zp,ZS,Zj,Zr,ZJ,Zl,ZE,Zf,Zm,Zw,ZC])
   ·simp -implicitDefEqProofs only [EQA,Nat.reduceAdd,Nat.reduceLT,Nat.reduceEqDiff,ZD,Zam,↓reduceIte,Zma,Zl9,ZhN,Zit,ZfL,oI,h1]
    try (simp [Z6,gcA,Zv,Zu,Zp,ZS,Zj,Zr,ZJ,Zl,ZE,Zf,Zm,Zw,ZC])
 | c::r,i,acc,h,ha,hi=>by
  have hd:=Z4 h
  have hlt:i < min 4 p.users.length:=by have:=hd.2.2;rwa [List.length_take] at this
  have ih:=ZsW p hu r (i+1) (acc++[ZeJ p.users c]) hd.2.1 (by simp;omega) (by omega)
  have hat:p.users[i]?=some c:=by
   have:=hd.1
   rw [List.getElem?_take] at this
   rw [if_pos (by omega)] at this
   exact this
  have hsl:(p.users.take (i+1)).drop i=[c]:=by
   rw [List.drop_take]
   have : i+1 - i=1:=by omega
   rw [this]
   obtain ⟨hl,he⟩:=List.getElem?_eq_some_iff.1 hat
   rw [List.drop_eq_getElem_cons hl,he]
   rfl
  have h1:(i:Int) < (p.users.length:Int):=by omega
  have h2:(i:Int) < 4:=by omega
  have hw:IntKind.i64.wrap ((i:Int)+1)=((i+1:Nat):Int):=by rw [Za6 (by omega) (by omega)];rfl
  have hs:=fun σ k1 k2=>Zob σ p.users k1 k2 (i:Int) ((i+1:Nat):Int) (by omega) (by omega) (by omega)
  have t1:((i:Int)).toNat=i:=rfl
  have t2:(((i+1:Nat):Int)).toNat=i+1:=rfl
  rw [t1,t2,hsl] at hs
  have hP1:=fun σ sq own f=>ZhZ σ sq own f [c] (by simp)
  have hP2:=fun σ sq own f=>ZhZ σ sq own f p.users hu
  simp only [List.map_cons,List.map_nil] at hP1 hs
  rw [List.append_assoc,List.singleton_append,<-List.map_cons] at ih
  generalize hR:acc++(c::r).map (ZeJ p.users)=R at *
  unfold ZeJ at ih
  unfold pC at ih ⊢
  generalize Zb4 [c]=U1 at *
  generalize Zb4 p.users=U2 at *
  unfold ZmN at ih ⊢
  rw [Z2]
  cases acc with
  | nil =>
   simp only [List.nil_append,List.map_nil,List.map_cons,lsT,lsH,Zg,Zbd,ZI,List.length_cons,List.length_nil,Nat.zero_add] at ih ⊢
   have hk:kOk 5 [AVal.agg [.int .i64 38,.int .i64 0,.str U1,.str U2,.lst false []]]=true:=rfl
   simp -implicitDefEqProofs only [EQA,ZaM,ZV,Za2,Nat.reduceAdd,Nat.reduceLT,Nat.reduceLeDiff,Nat.reduceEqDiff,Nat.reduceBEq,ZD,unG,reduceCtorEq,ZY,↓reduceIte,gcT,gcA,Zv,Zu,Zj,Zr,ZJ,Zl,ZE,Zw,ZC,Zit,ZfL,oI,h1,h2,hw,hs,hP1,hP2,hk,Zaj,AVal.cells,Zaz,viewAs,ZP,ZL,Zas,Zq,Nat.one_mul,Nat.reduceLeDiff]
   exact ih
  | cons a acc =>
   rw [List.map_append] at ih
   have hXl:((a::acc).map Zg).length=acc.length+1:=by simp
   simp only [List.length_cons] at ha
   generalize hX:(a::acc).map Zg=X at *
   have hXp:0 < X.length:=by omega
   have hXq:0 < (X++[(⟨38,0,U1,U2,[]⟩:Zn)].map Zg).length:=by rw [List.length_append];omega
   rw [ZpC _ hXq,Zq8 _ hXq] at ih
   rw [ZpC _ hXp,Zq8 _ hXp]
   simp only [List.map_cons,List.map_nil,Zg,Zbd,ZI,List.length_append,List.length_cons,List.length_nil,Nat.zero_add] at ih
   have hk:kOk 5 [AVal.agg [.int .i64 38,.int .i64 0,.str U1,.str U2,.lst false []]]=true:=rfl
   have k2:(X.length+1)*72<=140737488355328:=by omega
   simp -implicitDefEqProofs only [EQA,ZaM,ZV,Za2,Nat.reduceAdd,Nat.reduceLT,Nat.reduceLeDiff,Nat.reduceEqDiff,Nat.reduceBEq,ZD,unG,reduceCtorEq,ZY,↓reduceIte,gcT,gcA,Zv,Zu,Zj,Zr,ZJ,Zl,ZE,Zw,ZC,Zit,ZfL,oI,h1,h2,hw,hs,hP1,hP2,hk,k2,Zaj,AVal.cells,Zac,Zag,Zai,Zao,Zaq,Zal,List.lookup_nil,Zaz,viewAs,ZP,ZL,Zas,Zq]
   exact ih
theorem ZLp (p:Zdw) (h1:p.content.length<=9223372036854775807) (h3:p.users.length<=9223372036854775807):E 47 [.agg (pC p)] []=some (ZcR ((Zcr p).map Zg),ZcY 5 ((Zcr p).map Zg)):=by
 have hlen:(Zfa p).length<=3:=by
  unfold Zfa
  repeat' split
  all_goals simp
 have key:=ZsW p h3 (p.users.take 4) 0 (Zfa p) rfl (by omega) (by omega)
 have hP:=fun σ sq own f=>ZhZ σ sq own f p.content h1
 have hC:=fun σ sq own=>ZvW σ sq own true p.corr 30 (by omega)
 have z0:((0:Nat):Int)=0:=rfl
 have z30:(30:Int).toNat=30:=rfl
 rw [z30] at hC
 rw [z0] at key
 rw [show Zcr p=Zfa p++(p.users.take 4).map (ZeJ p.users) from rfl]
 generalize hR:Zfa p++(p.users.take 4).map (ZeJ p.users)=R at *
 unfold Zfa Zjs at key
 unfold pC at key ⊢
 generalize Zb4 p.content=U1 at *
 generalize p.corr.take 30=U2 at *
 unfold ZmN at key
 have w1:kOk 5 [AVal.agg [.int .i64 1,.int .i64 (IntKind.i64.wrap (((BitVec.ofInt IntKind.i64.bits p.fmt &&& BitVec.ofInt IntKind.i64.bits 1).toNat:Nat):Int)),.str [],.str [],.lst false []]]=true:=rfl
 have w2:kOk 5 [AVal.agg [.int .i64 3,.int .i64 0,.str U1,.str [],.lst false []]]=true:=rfl
 have w3:kOk 5 [AVal.agg [.int .i64 9,.int .i64 0,.str [],.str [],.lst false (U2.map Zc)]]=true:=rfl
 by_cases c1:p.fmt>=0 <;> by_cases c2:(p.content.length:Int) > 0 <;> by_cases c3:(p.corr.length:Int) > 0
 all_goals (have d2:(p.content.length > 0)=((p.content.length:Int) > 0):=by simp)
 all_goals (have d3:(p.corr.length > 0)=((p.corr.length:Int) > 0):=by simp)
 all_goals simp only [c1,d2,c2,d3,c3,if_true,if_false,List.nil_append,List.append_nil,List.cons_append,List.map_cons,List.map_nil,lsT,lsH,Zg,Zbd,ZI,List.length_cons,List.length_nil,Nat.zero_add] at key
 all_goals clear d2 d3
 all_goals rw [Zh (by rfl) ZLe]
 all_goals simp -implicitDefEqProofs only [EQA,ZaM,ZV,Za2,Nat.reduceAdd,Nat.reduceLT,Nat.reduceLeDiff,Nat.reduceEqDiff,Nat.reduceBEq,Nat.reduceMul,reduceCtorEq,ZY,↓reduceIte,gcT,gcA,Zv,Zu,Zj,Zr,ZJ,Zl,ZE,Zw,ZC,ZEO,ZqC,oI,c1,c2,c3,hP,hC,w1,w2,w3,Zaj,AVal.cells,Zaz,viewAs,ZP,ZL,Zas,Zq,Nat.one_mul,Nat.le_refl,Nat.reduceMul,Nat.reduceLeDiff]
 all_goals exact key
theorem ZDn (σ:Za) (sq own:Nat) (p:Zdw) (h1:p.content.length<=9223372036854775807) (h3:p.users.length<=9223372036854775807):Zo E BY σ sq 47 own true [.agg [.int .i64 p.fmt,.lst false (p.content.map Zc),.lst false (p.corr.map Zc),.lst false (p.users.map Zc)]]=some (.lst false ((Zcr p).map Zg),σ,{}) :=
 ZxY (k:=5) (ZLp p h1 h3) (by kernel_rfl) rfl rfl _ _ _
end
section
end
section
structure ZPJ where
 r1:Zb×Zeu
 r2:Zb×Zeu
 r3:Zb×Zeu
 r4:Zb×Zeu
 r5:Zb×Zeu
 r6:Zb×Zeu
 r7:Zb×Zeu
 r8:Zb×Zeu
end
section
theorem ZzP (w:Int) (b:Zb):(Z0 w b).1.length<=268435455:=by
 have hlt:=ZoF b
 unfold Z0
 split
 ·simp
 ·split
  ·have:=Zqv w (ZW b).1 ((b.take ((ZW b).2.1+(ZW b).1)).drop (ZW b).2.1) []
   simp only [List.length_drop,List.length_take,List.length_nil] at this
   simp only
   omega
  ·simp
end
section
structure Zz3 (it:Zfj):Prop where
 note:ZGw it.note
 ids:it.ids.length<=1000000
 share:it.share.length<=9223372036854775807
end
section
def itC (n:ZcW) (q:Int) (rt:Bool) (ids:AVal) (sh:Zb):List AVal:=[.str n.topic,.lst false (n.payload.map Zc),.int .i64 n.qos,.bool n.retain,.str n.sender,.int .i64 n.expires,.lst false (n.props.map Zg),.int .i64 n.origin,.int .i64 n.number,.int .i64 n.hops,.int .i64 q,.bool rt,ids,.str sh]
def itZ:List AVal:=[.str [],.lst true [],.int .i64 0,.bool false,.str [],.int .i64 0,.lst true [],.int .i64 0,.int .i64 0,.int .i64 0,.int .i64 0,.bool false,.lst true [],.str []]
end
section
def ZbF (x k:Int):Int:=IntKind.i64.wrap (((BitVec.ofInt IntKind.i64.bits x &&& BitVec.ofInt IntKind.i64.bits k).toNat:Nat):Int)
structure Zcg where
 topic:Zb
 sender:Zb
 share:Zb
 payload:Zb
 qos:Int
 sub:Int
 retain:Bool
 keep:Bool
 life:Int
 p:Zdw
 ids:List Int
 origin:Int
 number:Int
def mC (m:Zcg):List AVal:=[.lst false (m.topic.map Zc),.lst false (m.sender.map Zc),.lst false (m.share.map Zc),.lst false (m.payload.map Zc),.int .i64 m.qos,.int .i64 m.sub,.bool m.retain,.bool m.keep,.int .i64 m.life,.int .i64 m.p.fmt,.lst false (m.p.content.map Zc),.lst false (m.p.corr.map Zc),.lst false (m.p.users.map Zc),.lst false (m.ids.map (AVal.int .i64)),.int .i64 m.origin,.int .i64 m.number]
structure Zh1 (m:Zcg):Prop where
 topic:m.topic.length<=9223372036854775807
 sender:m.sender.length<=9223372036854775807
 share:m.share.length<=9223372036854775807
 content:m.p.content.length<=9223372036854775807
 users:m.p.users.length<=9223372036854775807
 ids:m.ids.length<=9223372036854775807
def Zd7 (x:Int):Int:=IntKind.i64.wrap (1+ZbF x 16777215)
def Zcp (m:Zcg):ZcW:=⟨116::Zb4 m.topic,m.payload.take 300,Zc7 m.qos 0 2,m.retain,Zb4 m.sender,if m.life > 0 then ZbF m.life 65535 else 0,Zcr m.p,ZbF m.origin 255,ZbF m.number 16777215,0⟩
def ZfG (m:Zcg):Zb:=if (m.share.length:Int) > 0 then [36,115,104,97,114,101,47,103,47]++Zb4 m.share else []
def ZH (m:Zcg):Zfj:=⟨Zcp m,Zc7 m.sub 0 2,m.keep,(m.ids.take 4).map Zd7,ZfG m⟩
def itO (it:Zfj):AVal×Za:=(.agg (itC it.note it.qos it.retain (ZcR (it.ids.map (AVal.int .i64))) it.share),ZcY 1 (it.ids.map (AVal.int .i64)))
def miT (i:Int):List AVal->Tms
 | []=>[(5,.int .i64 i),(4,.ref 0 0),(2,.ref 1 0),(1,.ref 2 0)]
 | _::_=>[(5,.int .i64 i),(4,.ref 0 0),(2,.ref 2 0),(1,.ref 3 0)]
def miH (n:ZcW) (q:Int) (rt:Bool) (z b:ZN):List AVal->Za
 | []=>[.var (itC n q rt (.lst true []) []),z,b]
 | x::xs=>[.var (itC n q rt (.sl 1 0 0 (x::xs).length) []),.row 0 1 (x::xs),z,b]
theorem Zq3 (i:Int) {X:List AVal} (h:0 < X.length):miT i X=[(5,.int .i64 i),(4,.ref 0 0),(2,.ref 2 0),(1,.ref 3 0)]:=by
 cases X with
 | nil=>simp at h
 | cons x xs=>rfl
theorem Zrb (n:ZcW) (q:Int) (rt:Bool) (z b:ZN) {X:List AVal} (h:0 < X.length):miH n q rt z b X=[.var (itC n q rt (.sl 1 0 0 X.length) []),.row 0 1 X,z,b]:=by
 cases X with
 | nil=>simp at h
 | cons x xs=>rfl
theorem Zdq (b:Zb):(Zb4 b).length<=30:=by simp [Zb4];omega
theorem ZED (m:Zcg) (hm:Zh1 m) (n:ZcW) (q:Int) (rt:Bool) (ids:List Int) (i:Int) (h:¬i < (m.ids.length:Int)\/¬i < 4) :
  ZiW 0 (miT i (ids.map (AVal.int .i64))) (miH n q rt (.var itZ) (.var (mC m)) (ids.map (AVal.int .i64)))=some (itO ⟨n,q,rt,ids,ZfG m⟩):=by
 have hP:=fun σ sq own f=>ZhZ σ sq own f m.share hm.share
 have hl:=Zdq m.share
 have k1:9+(Zb4 m.share).length<=9223372036854775807:=by omega
 unfold itO ZfG
 simp only
 have hh:(if i < (m.ids.length:Int) then decide (i < 4) else false)=false:=by
  split
  ·rename_i h1
   have : ¬i < 4:=h.resolve_left (by simpa using h1)
   simp [this]
  ·rfl
 unfold ZiW
 rw [Z2]
 cases hids:ids.map (AVal.int .i64) with
 | nil =>
  rw [ZeL,ZeZ]
  unfold miT miH itC itZ mC
  by_cases c0:i < (m.ids.length:Int)
  ·have c1:¬i < 4:=h.resolve_left (by simpa using c0)
   by_cases c2:(m.share.length:Int) > 0
   ·rw [if_pos c2]
    simp -implicitDefEqProofs only [EQA,Zt,Nat.reduceAdd,Nat.reduceLT,Nat.reduceLeDiff,Nat.reduceEqDiff,Zcn,ZD,unG,↓reduceIte,Zd,ZfV,ZgC,Ze8,ZeU,ZdR,oI,oN,c0,c1,c2,hP,k1,AVal.cells]
    try (simp [Z6,gcA,Zv,Zu,Zp,ZS,Zj,Zr,ZJ,Zl,ZE,Zf,Zm,Zw,ZC,List.range_succ])
   ·rw [if_neg c2]
    simp -implicitDefEqProofs only [EQA,Zt,Nat.reduceAdd,Nat.reduceLT,Nat.reduceLeDiff,Nat.reduceEqDiff,ZD,unG,↓reduceIte,Zd,ZfV,ZgC,Ze8,ZeU,ZdR,oI,oN,c0,c1,c2,AVal.cells]
    try (simp [Z6,gcA,Zv,Zu,Zp,ZS,Zj,Zr,ZJ,Zl,ZE,Zf,Zm,Zw,ZC,List.range_succ])
  ·by_cases c2:(m.share.length:Int) > 0
   ·rw [if_pos c2]
    simp -implicitDefEqProofs only [EQA,Zt,Nat.reduceAdd,Nat.reduceLT,Nat.reduceLeDiff,Nat.reduceEqDiff,Zcn,ZD,Zam,↓reduceIte,Zd,ZfV,ZgC,Ze8,ZeU,ZdR,oI,oN,c0,c2,hP,k1,AVal.cells]
    try (simp [Z6,gcA,Zv,Zu,Zp,ZS,Zj,Zr,ZJ,Zl,ZE,Zf,Zm,Zw,ZC,List.range_succ])
   ·rw [if_neg c2]
    simp -implicitDefEqProofs only [EQA,Zt,Nat.reduceAdd,Nat.reduceLT,Nat.reduceLeDiff,Nat.reduceEqDiff,ZD,Zam,↓reduceIte,Zd,ZfV,ZgC,Ze8,ZeU,ZdR,oI,oN,c0,c2,AVal.cells]
    try (simp [Z6,gcA,Zv,Zu,Zp,ZS,Zj,Zr,ZJ,Zl,ZE,Zf,Zm,Zw,ZC,List.range_succ])
 | cons x xs =>
  have hXp:0 < (x::xs).length:=by simp
  rw [ZhR hXp,Zh9 hXp,Zq3 _ hXp,Zrb _ _ _ _ _ hXp]
  generalize x::xs=X at *
  unfold itC itZ mC
  by_cases c0:i < (m.ids.length:Int)
  ·have c1:¬i < 4:=h.resolve_left (by simpa using c0)
   by_cases c2:(m.share.length:Int) > 0
   ·rw [if_pos c2]
    simp -implicitDefEqProofs only [EQA,Nat.reduceAdd,Nat.reduceLT,Nat.reduceLeDiff,Nat.reduceEqDiff,Zcn,ZD,unG,↓reduceIte,ZfV,ZgC,Ze8,ZeU,ZdR,oI,oN,c0,c1,c2,hP,k1,AVal.cells]
    try (simp [Z6,gcA,Zv,Zu,Zp,ZS,Zj,Zr,ZJ,Zl,ZE,Zf,Zm,Zw,ZC])
   ·rw [if_neg c2]
    simp -implicitDefEqProofs only [EQA,Nat.reduceAdd,Nat.reduceLT,Nat.reduceLeDiff,Nat.reduceEqDiff,ZD,unG,↓reduceIte,ZfV,ZgC,Ze8,ZeU,ZdR,oI,oN,c0,c1,c2,AVal.cells]
    try (simp [Z6,gcA,Zv,Zu,Zp,ZS,Zj,Zr,ZJ,Zl,ZE,Zf,Zm,Zw,ZC])
  ·by_cases c2:(m.share.length:Int) > 0
   ·rw [if_pos c2]
    simp -implicitDefEqProofs only [EQA,Nat.reduceAdd,Nat.reduceLT,Nat.reduceLeDiff,Nat.reduceEqDiff,Zcn,ZD,Zam,↓reduceIte,ZfV,ZgC,Ze8,ZeU,ZdR,oI,oN,c0,c2,hP,k1,AVal.cells]
    try (simp [Z6,gcA,Zv,Zu,Zp,ZS,Zj,Zr,ZJ,Zl,ZE,Zf,Zm,Zw,ZC])
   ·rw [if_neg c2]
    simp -implicitDefEqProofs only [EQA,Nat.reduceAdd,Nat.reduceLT,Nat.reduceLeDiff,Nat.reduceEqDiff,ZD,Zam,↓reduceIte,ZfV,ZgC,Ze8,ZeU,ZdR,oI,oN,c0,c2,AVal.cells]
    try (simp [Z6,gcA,Zv,Zu,Zp,ZS,Zj,Zr,ZJ,Zl,ZE,Zf,Zm,Zw,ZC])
theorem Zto (m:Zcg) (hm:Zh1 m) (n:ZcW) (q:Int) (rt:Bool):∀ (r:List Int) (i:Nat) (ids:List Int),(m.ids.take 4).drop i=r->ids.length<=i->i<=4 ->
  ZiW 0 (miT i (ids.map (AVal.int .i64))) (miH n q rt (.var itZ) (.var (mC m)) (ids.map (AVal.int .i64)))=some (itO ⟨n,q,rt,ids++r.map Zd7,ZfG m⟩)
 | [],i,ids,h,ha,hi=>by
  rw [List.drop_eq_nil_iff,List.length_take] at h
  rw [List.map_nil,List.append_nil]
  exact ZED m hm n q rt ids i (by omega)
 | x::r,i,ids,h,ha,hi=>by
  have hd:=Z4 h
  have hlt:i < min 4 m.ids.length:=by have:=hd.2.2;rwa [List.length_take] at this
  have ih:=Zto m hm n q rt r (i+1) (ids++[Zd7 x]) hd.2.1 (by simp;omega) (by omega)
  have hat:m.ids[i]?=some x:=by
   have:=hd.1
   rw [List.getElem?_take] at this
   rw [if_pos (by omega)] at this
   exact this
  have h1:(i:Int) < (m.ids.length:Int):=by omega
  have h2:(i:Int) < 4:=by omega
  have e1:=iad hat (AVal.int .i64) (k:=1) rfl
  have hw:IntKind.i64.wrap ((i:Int)+1)=((i+1:Nat):Int):=by rw [Za6 (by omega) (by omega)];rfl
  have hk:kOk 1 [AVal.int .i64 (Zd7 x)]=true:=rfl
  rw [List.append_assoc,List.singleton_append,<-List.map_cons] at ih
  generalize hR:itO ⟨n,q,rt,ids++(x::r).map Zd7,ZfG m⟩=R at *
  have hXl:(ids.map (AVal.int .i64)).length=ids.length:=by simp
  rw [List.map_append,List.map_cons,List.map_nil] at ih
  unfold Zd7 ZbF at ih hk
  unfold ZiW at ih ⊢
  rw [Z2]
  cases hids:ids.map (AVal.int .i64) with
  | nil =>
   rw [hids] at ih
   rw [List.nil_append] at ih
   unfold miT miH itC itZ mC at ih ⊢
   simp only [List.length_cons,List.length_nil,Nat.zero_add] at ih
   simp -implicitDefEqProofs only [EQA,ZV,Za2,Nat.reduceAdd,Nat.reduceLT,Nat.reduceLeDiff,Nat.reduceEqDiff,Nat.reduceBEq,ZD,unG,reduceCtorEq,ZY,↓reduceIte,gcT,gcA,Zv,Zu,Zj,Zr,ZJ,Zl,ZE,Zw,ZC,ZeU,ZdR,oI,oN,h1,h2,e1,hw,hk,AVal.cells,Zac,Zag,Zai,Zao,Zaq,Zal,List.lookup_nil,Zaz,viewAs,ZP,ZL,Zq,Nat.one_mul,Nat.reduceLeDiff]
   exact ih
  | cons y ys =>
   rw [hids] at ih hXl
   have hXp:0 < (y::ys).length:=by simp
   rw [Zq3 _ hXp,Zrb _ _ _ _ _ hXp]
   have hXq:∀ z:AVal,0 < (y::ys++[z]).length:=fun z=>by simp
   rw [Zq3 _ (hXq _),Zrb _ _ _ _ _ (hXq _)] at ih
   generalize y::ys=X at *
   have k2:(X.length+1)*8<=140737488355328:=by omega
   unfold itC itZ mC at ih ⊢
   simp only [List.length_append,List.length_cons,List.length_nil,Nat.zero_add] at ih
   simp -implicitDefEqProofs only [EQA,ZV,Za2,Nat.reduceAdd,Nat.reduceLT,Nat.reduceLeDiff,Nat.reduceEqDiff,Nat.reduceBEq,ZD,unG,reduceCtorEq,ZY,↓reduceIte,gcT,gcA,Zv,Zu,Zj,Zr,ZJ,Zl,ZE,Zw,ZC,ZeU,ZdR,oI,oN,h1,h2,e1,hw,hk,k2,AVal.cells,Zac,Zag,Zai,Zao,Zaq,Zal,List.lookup_nil,Zaz,viewAs,ZP,ZL,Zq]
   exact ih
theorem ZyV (m:Zcg) (hm:Zh1 m):E 12 [.agg (mC m)] []=some (itO (ZH m)):=by
 have key:=Zto m hm (Zcp m) (Zc7 m.sub 0 2) m.keep (m.ids.take 4) 0 [] rfl (Nat.le_refl _) (by omega)
 rw [List.nil_append] at key
 rw [show ZH m=⟨Zcp m,Zc7 m.sub 0 2,m.keep,(m.ids.take 4).map Zd7,ZfG m⟩ from rfl]
 generalize hR:itO ⟨Zcp m,Zc7 m.sub 0 2,m.keep,(m.ids.take 4).map Zd7,ZfG m⟩=R at *
 have h1:=fun σ sq own f=>ZhZ σ sq own f m.topic hm.topic
 have h2:=fun σ sq own=>ZvW σ sq own true m.payload 300 (by omega)
 have h3:=fun σ sq own=>ZrP σ sq own true m.qos
 have h4:=fun σ sq own f=>ZhZ σ sq own f m.sender hm.sender
 have h5:=fun σ sq own=>ZDn σ sq own m.p hm.content hm.users
 have h6:=fun σ sq own=>ZrP σ sq own true m.sub
 have z0:((0:Nat):Int)=0:=rfl
 have z300:(300:Int).toNat=300:=rfl
 rw [z300] at h2
 have hl:=Zdq m.topic
 have k1:1+(Zb4 m.topic).length<=9223372036854775807:=by omega
 rw [z0] at key
 simp only [List.map_nil] at key
 unfold miT miH Zcp ZbF at key
 unfold itC itZ mC at key
 unfold mC
 unfold ZiW at key
 generalize Zb4 m.topic=U1 at *
 generalize Zb4 m.sender=U2 at *
 generalize m.payload.take 300=U3 at *
 generalize Zcr m.p=U4 at *
 generalize Zc7 m.qos 0 2=U5 at *
 generalize Zc7 m.sub 0 2=U6 at *
 rw [Zh (by rfl) ZI9]
 by_cases c:m.life > 0
 ·simp only [c,if_true] at key
  simp -implicitDefEqProofs only [EQA,ZaM,ZV,Za2,Nat.reduceAdd,Nat.reduceLT,Nat.reduceLeDiff,Nat.reduceEqDiff,Nat.reduceBEq,Zcn,reduceCtorEq,↓reduceIte,gcT,gcA,Zv,Zu,Zj,Zr,ZJ,Zl,ZE,Zw,ZC,ZtI,Zk4,oI,oN,h1,h2,h3,h4,h5,h6,k1,c,Zaj,AVal.cells,Zac,Zag,Zai,Zao,Zaq,Zal,List.lookup_nil,Nat.le_refl]
  exact key
 ·simp only [c,if_false] at key
  simp -implicitDefEqProofs only [EQA,ZaM,ZV,Za2,Nat.reduceAdd,Nat.reduceLT,Nat.reduceLeDiff,Nat.reduceEqDiff,Nat.reduceBEq,Zcn,reduceCtorEq,↓reduceIte,gcT,gcA,Zv,Zu,Zj,Zr,ZJ,Zl,ZE,Zw,ZC,ZtI,Zk4,oI,oN,h1,h2,h3,h4,h5,h6,k1,c,Zaj,AVal.cells,Zac,Zag,Zai,Zao,Zaq,Zal,List.lookup_nil,Nat.le_refl]
  exact key
end
section
structure ZPI where
 d:Zb×Zeu
 m:Zb×Zeu
 k:Zb×Zeu
end
section
theorem ZDS (x:Nat) (a b:Zb):Zex x (a++b)=Zex (Zex x a) b:=by
 unfold Zex;rw [List.foldl_append]
theorem ZtQ:∀ (w n:Nat),w<=8->n < 256 ^ w->Zex 0 (beB n w)=n
 | 0,n,_,h=>by simp at h;subst h;rfl
 | w+1,n,hw,h=>by
  have h1:n / 256 < 256 ^ w:=by rw [Nat.pow_succ] at h;omega
  have ih:=ZtQ w (n / 256) (by omega) h1
  have h2:256 ^ w<=256 ^ 7:=Nat.pow_le_pow_right (by decide) (by omega)
  rw [beB,ZDS,ih,ZcM,ZeK,UInt8.toNat_ofNat']
  have h3:(256:Nat) ^ 7=72057594037927936:=rfl
  omega
theorem Zph {w n:Nat} (hw:w<=8) (h:n < 256 ^ w):Zct (beB n w)=n:=ZtQ w n hw h
theorem ZxD {w n:Nat} (hw:w<=8) (h:n < 256 ^ w) (h2:n<=9223372036854775807):Zhl (beB n w)=(n:Int):=by
 unfold Zhl
 rw [Zph hw h,Za6 (by omega) (by omega)]
theorem Zte (b rest:Zb) (h:b.length<=65535):ZaB ((Za4 b).1++rest)=(b,2+b.length,0):=by
 have hd:(Za4 b).1=beB b.length 2++b:=by unfold Za4;rw [if_neg (by omega)]
 have hl:=ZaL 2 b.length
 have ht:(beB b.length 2++b++rest).take 2=beB b.length 2:=by
  rw [List.append_assoc];exact List.take_left' hl
 have hdr:(beB b.length 2++b++rest).drop 2=b++rest:=by
  rw [List.append_assoc];exact List.drop_left' hl
 have hu:Zct (beB b.length 2)=b.length:=Zph (by decide) (by omega)
 unfold ZaB
 rw [hd,ht,hu,hdr,if_neg,List.take_left]
 simp only [List.length_append,hl]
 omega
theorem Zj2 (s rest:Zb) (ht:Zcq s=true) (h:s.length<=65535):Zaf ((ZZ s).1++rest)=(s,2+s.length,0):=by
 have e:(ZZ s).1=(Za4 s).1:=by unfold ZZ;rw [if_pos ht]
 have hg:=Zte s rest h
 unfold Zaf
 rw [e,hg]
 simp only [ne_eq,not_true_eq_false,if_false,ht,if_true]
theorem Zkd {b:Zb} (h:b.length<=65535):(Za4 b).1.length=2+b.length:=by
 unfold Za4;rw [if_neg (by omega)];simp [ZaL]
theorem Zi8 {s:Zb} (ht:Zcq s=true) (h:s.length<=65535):(ZZ s).1.length=2+s.length:=by
 unfold ZZ;rw [if_pos ht];exact Zkd h
theorem ZwF:∀ (k n i acc:Nat) (rest:Zb),i+k<=3->n < 128 ^ (k+1)->(0 < i->0 < n)->gvA i acc (ZbZ k n++rest)=(acc+n*128 ^ i,i+(ZbZ k n).length,0)
 | 0,n,i,acc,rest,hi,hn,hp=>by
  have h1:(UInt8.ofNat n).toNat=n:=by rw [UInt8.toNat_ofNat'];omega
  have h2:n % 128=n:=by omega
  unfold ZbZ
  rw [List.singleton_append]
  unfold gvA
  rw [if_neg (by omega),h1,if_pos (by omega),if_neg,h2]
  ·rfl
  ·rintro ⟨a,b⟩
   have:=hp b
   have:=congrArg UInt8.toNat a
   rw [h1] at this
   simp at this;omega
 | k+1,n,i,acc,rest,hi,hn,hp=>by
  unfold ZbZ
  by_cases h:n < 128
  ·have h1:(UInt8.ofNat n).toNat=n:=by rw [UInt8.toNat_ofNat'];omega
   have h2:n % 128=n:=by omega
   rw [if_pos h,List.singleton_append]
   unfold gvA
   rw [if_neg (by omega),h1,if_pos (by omega),if_neg,h2]
   ·rfl
   ·rintro ⟨a,b⟩
    have:=hp b
    have:=congrArg UInt8.toNat a
    rw [h1] at this
    simp at this;omega
  ·have h1:(UInt8.ofNat (n % 128+128)).toNat=n % 128+128:=by rw [UInt8.toNat_ofNat'];omega
   have hd:n / 128 < 128 ^ (k+1):=by rw [Nat.pow_succ] at hn;omega
   have ih:=ZwF k (n / 128) (i+1) (acc+n % 128*128 ^ i) rest (by omega) hd (by omega)
   rw [if_neg h,List.cons_append]
   unfold gvA
   rw [if_neg (by omega),h1,if_neg (by omega)]
   have h3:(n % 128+128) % 128=n % 128:=by omega
   rw [h3,ih,List.length_cons,Nat.pow_succ]
   have h4:n=n / 128*128+n % 128:=by omega
   refine Prod.ext ?_ (Prod.ext ?_ rfl)
   ·simp only
    conv=>rhs;rw [h4]
    rw [Nat.add_mul,Nat.mul_assoc,Nat.mul_comm 128 (128 ^ i)]
    omega
   ·simp only;omega
theorem ZpL (n:Nat) (rest:Zb) (h:n < 268435456):ZW ((Z7 (n:Int)).1++rest)=(n,(Z7 (n:Int)).1.length,0):=by
 have e:(Z7 (n:Int)).1=ZbZ 3 n:=by
  unfold Z7
  rw [if_neg (by omega)]
  rfl
 have:=ZwF 3 n 0 0 rest (by omega) h (by omega)
 rw [e]
 unfold ZW
 rw [this]
 simp
theorem Zvm {x:Int} (h0:0<=x) (h:x < 18446744073709551616):ZO x=x.toNat:=by unfold ZO;omega
theorem Zq2 {s:Zb} (h:(ZZ s).2=0):Zcq s=true/\s.length<=65535:=by
 unfold ZZ at h
 split at h
 ·rename_i ht
  unfold Za4 at h
  split at h
  ·simp at h
  ·exact ⟨ht,by omega⟩
 ·simp at h
theorem ZKv {s:Zb} (h:(Za4 s).2=0):s.length<=65535:=by
 unfold Za4 at h
 split at h
 ·simp at h
 ·omega
def ZfN (k:Int) (p:Zn):Prop :=
 if k=1\/k=2\/k=3\/k=4 then p.text=[]/\p.pair=[]/\p.data=[] else if k=5 then p.num=0/\p.pair=[]/\p.data=[]
 else if k=6 then p.num=0/\p.text=[]/\p.pair=[] else p.num=0/\p.data=[]
theorem Zrh (id num:Int) (W:Nat) (rest:Zb) (hW:W<=4) (h0:0<=num) (h:num.toNat < 256 ^ W):ZeD id W (beB (ZO num) W++rest)=(⟨id,num,[],[],[]⟩,W,true):=by
 have hb:256 ^ W<=256 ^ 4:=Nat.pow_le_pow_right (by decide) hW
 have e4:(256:Nat) ^ 4=4294967296:=rfl
 have hu:ZO num=num.toNat:=Zvm h0 (by omega)
 have hl:=ZaL W (ZO num)
 unfold ZeD
 rw [if_neg (by simp [hl]),List.take_left' hl,Zph (by omega) (by rw [hu];exact h),hu]
 have : ((num.toNat:Nat):Int)=num:=by omega
 rw [this]
theorem ZMA (p:Zn) (rest:Zb) (hok:okV (Zbb p.id) p=true) (hc:ZfN (Zbb p.id) p) (h0:Zbb p.id≠0):ZcB p.id (ZfX p++rest)=(p,(ZfX p).length,true):=by
 obtain ⟨id,num,text,pair,data⟩:=p
 unfold ZcB ZfX
 simp only at hok hc h0 ⊢
 rcases ZnH id with e | e | e | e | e | e | e | e
 ·exact absurd e h0
 all_goals rw [e] at hok hc ⊢
 ·simp only [okV,if_true,Bool.and_eq_true,decide_eq_true_eq] at hok
  obtain ⟨rfl,rfl,rfl⟩:text=[]/\pair=[]/\data=[]:=hc
  have:=Zrh id num 1 rest (by omega) (by omega) (by omega)
  simp only [ZcF,Zb2,if_true,List.append_nil,ZaL]
  exact this
 ·simp only [okV,show ¬((2:Int)=1) by decide,if_false,if_true,Bool.and_eq_true,decide_eq_true_eq] at hok
  obtain ⟨rfl,rfl,rfl⟩:text=[]/\pair=[]/\data=[]:=hc
  have:=Zrh id num 2 rest (by omega) (by omega) (by omega)
  simp only [ZcF,Zb2,show ¬((2:Int)=1) by decide,if_false,if_true,List.append_nil,ZaL]
  exact this
 ·simp only [okV,show ¬((3:Int)=1) by decide,show ¬((3:Int)=2) by decide,if_false,if_true,Bool.and_eq_true,decide_eq_true_eq] at hok
  obtain ⟨rfl,rfl,rfl⟩:text=[]/\pair=[]/\data=[]:=hc
  have:=Zrh id num 4 rest (by omega) (by omega) (by omega)
  simp only [ZcF,Zb2,show ¬((3:Int)=1) by decide,show ¬((3:Int)=2) by decide,if_false,if_true,List.append_nil,ZaL]
  exact this
 ·simp only [okV,show ¬((4:Int)=1) by decide,show ¬((4:Int)=2) by decide,show ¬((4:Int)=3) by decide,if_false,if_true,beq_iff_eq] at hok
  obtain ⟨rfl,rfl,rfl⟩:text=[]/\pair=[]/\data=[]:=hc
  have hr:0<=num/\num<=268435455:=by
   unfold Z7 at hok
   split at hok
   ·simp at hok
   ·omega
  have:=ZpL num.toNat rest (by omega)
  have e1:((num.toNat:Nat):Int)=num:=by omega
  rw [e1] at this
  simp only [ZcF,Zb2,show ¬((4:Int)=1) by decide,show ¬((4:Int)=2) by decide,show ¬((4:Int)=3) by decide,if_false,if_true,List.append_nil,this,e1,beq_self_eq_true]
 ·simp only [okV,show ¬((5:Int)=1) by decide,show ¬((5:Int)=2) by decide,show ¬((5:Int)=3) by decide,show ¬((5:Int)=4) by decide,if_false,if_true,beq_iff_eq] at hok
  obtain ⟨rfl,rfl,rfl⟩:num=0/\pair=[]/\data=[]:=hc
  obtain ⟨t1,t2⟩:=Zq2 hok
  have:=Zj2 text rest t1 t2
  simp only [ZcF,Zb2,show ¬((5:Int)=1) by decide,show ¬((5:Int)=2) by decide,show ¬((5:Int)=3) by decide,show ¬((5:Int)=4) by decide,if_false,if_true,List.append_nil,this,Zi8 t1 t2,beq_self_eq_true]
 ·simp only [okV,show ¬((6:Int)=1) by decide,show ¬((6:Int)=2) by decide,show ¬((6:Int)=3) by decide,show ¬((6:Int)=4) by decide,show ¬((6:Int)=5) by decide,if_false,if_true,beq_iff_eq] at hok
  obtain ⟨rfl,rfl,rfl⟩:num=0/\text=[]/\pair=[]:=hc
  have t2:=ZKv hok
  have:=Zte data rest t2
  simp only [ZcF,Zb2,show ¬((6:Int)=1) by decide,show ¬((6:Int)=2) by decide,show ¬((6:Int)=3) by decide,show ¬((6:Int)=4) by decide,show ¬((6:Int)=5) by decide,if_false,if_true,List.append_nil,this,Zkd t2,beq_self_eq_true]
 ·simp only [okV,show ¬((7:Int)=1) by decide,show ¬((7:Int)=2) by decide,show ¬((7:Int)=3) by decide,show ¬((7:Int)=4) by decide,show ¬((7:Int)=5) by decide,show ¬((7:Int)=6) by decide,if_false,if_true,Bool.and_eq_true,beq_iff_eq] at hok
  obtain ⟨rfl,rfl⟩:num=0/\data=[]:=hc
  obtain ⟨t1,t2⟩:=Zq2 hok.1
  obtain ⟨t3,t4⟩:=Zq2 hok.2
  have g1:=Zj2 text ((ZZ pair).1++rest) t1 t2
  have g2:=Zj2 pair rest t3 t4
  have l1:=Zi8 t1 t2
  have l2:=Zi8 t3 t4
  have hd:((ZZ text).1++((ZZ pair).1++rest)).drop (2+text.length)=(ZZ pair).1++rest:=List.drop_left' l1
  simp only [ZcF,Zb2,show ¬((7:Int)=1) by decide,show ¬((7:Int)=2) by decide,show ¬((7:Int)=3) by decide,show ¬((7:Int)=4) by decide,show ¬((7:Int)=5) by decide,show ¬((7:Int)=6) by decide,if_false,if_true,Zhc,List.append_assoc,g1,hd,g2,beq_self_eq_true,List.length_append,l1,l2]
structure ZfJ (w:Int) (acc:List Zn) (p:Zn):Prop where
 good:ZeN p=true
 may:Zcs p.id w=true
 canon:ZfN (Zbb p.id) p
 fits:Zdi p.id p.num=true
 dup:((Zc9 p.id acc).isSome && !Zgn p.id w)=false
theorem ZFQ {w:Int} {acc:List Zn} {p:Zn} (h:ZfJ w acc p) (rest:Zb):ZbH w (ZaE p++rest) acc=(p,(ZaE p).length,0):=by
 have hT:Zd6 p.id:=by
  refine Decidable.byContradiction fun hT=>?_
  have:=h.may
  rw [ZFZ hT w] at this
  cases this
 obtain ⟨t1,t2,t3⟩:=ZB4 hT
 have hok:okV (Zbb p.id) p=true:=by
  have:=h.good
  unfold ZeN at this
  simp only [Bool.and_eq_true] at this
  exact this.2
 have e:ZaE p=(Z7 p.id).1++ZfX p:=rfl
 have g:=ZpL p.id.toNat (ZfX p++rest) (by omega)
 have ei:((p.id.toNat:Nat):Int)=p.id:=by omega
 rw [ei,<-List.append_assoc,<-e] at g
 have hv:=ZMA p rest hok h.canon t3
 have hd:(ZaE p++rest).drop (Z7 p.id).1.length=ZfX p++rest:=by
  rw [e,List.append_assoc];exact List.drop_left' rfl
 unfold ZbH
 rw [g]
 simp only
 rw [ei,hd,hv,h.may]
 rw [if_neg (by simp)]
 unfold ZkT
 simp only [h.dup,h.fits,Bool.false_eq_true,if_false,if_true,Bool.true_eq_false]
 rw [e,List.length_append]
def ZdP (w:Int):List Zn->List Zn->Prop
 | _,[]=>True
 | acc,p::r=>ZfJ w acc p/\ZdP w (acc++[p]) r
theorem ZNK (p:Zn) (h:¬(p.id < 1\/p.id > 127)):0 < (ZaE p).length:=by rw [ZMo h];simp
theorem ZO0 {p:Zn} (h:ZeN p=true):¬(p.id < 1\/p.id > 127):=by
 unfold ZeN at h
 simp only [Bool.and_eq_true,Bool.not_eq_true',Bool.or_eq_false_iff,decide_eq_false_iff_not] at h
 exact fun hc=>hc.elim h.1.1 h.1.2
theorem Zwj (w:Int):∀ (l acc:List Zn) (n:Nat),ZdP w acc l->(l.map ZaE).flatten.length<=n->ZdS w n (l.map ZaE).flatten acc=(acc++l,0)
 | [],acc,n,_,_=>by simp [Zry]
 | p::r,acc,n,h,hn=>by
  obtain ⟨h1,h2⟩:=h
  have hp:=ZNK p (ZO0 h1.good)
  simp only [List.map_cons,List.flatten_cons,List.length_append] at hn ⊢
  obtain ⟨n,rfl⟩:∃ m,n=m+1:=⟨n - 1,by omega⟩
  have ho:=ZFQ h1 (r.map ZaE).flatten
  obtain ⟨c,t,hct⟩:∃ c t,ZaE p++(r.map ZaE).flatten=c::t:=by
   cases hl:ZaE p with
   | nil=>rw [hl] at hp;simp at hp
   | cons c t=>exact ⟨c,_,rfl⟩
  rw [hct,Zm6,<-hct,ho]
  simp only [if_true,List.drop_left' rfl]
  rw [Zwj w r (acc++[p]) n h2 (by omega)]
  simp
theorem Zzv (w:Int) (l:List Zn) (h:ZdP w [] l) (hb:(l.map ZaE).flatten.length < 268435456):Z0 w ((Z7 ((l.map ZaE).flatten.length:Nat)).1++(l.map ZaE).flatten)=(l,(Z7 ((l.map ZaE).flatten.length:Nat)).1.length+(l.map ZaE).flatten.length,0):=by
 generalize hB:(l.map ZaE).flatten=b at *
 have g:=ZpL b.length b hb
 have hr:=Zwj w l [] b.length h (by rw [hB];exact Nat.le_refl _)
 rw [hB,List.nil_append] at hr
 have hs:(((Z7 (b.length:Nat)).1++b).take ((Z7 (b.length:Nat)).1.length+b.length)).drop (Z7 (b.length:Nat)).1.length=b:=by
  rw [List.take_of_length_le (by simp)]
  exact List.drop_left' rfl
 unfold Z0
 rw [g]
 simp only
 rw [if_neg (by simp;omega),hs,hr]
 simp
theorem ZLM (w:Int) (l:List Zn) (h:ZdP w [] l) (hb:(l.map ZaE).flatten.length < 268435456):ZaN w l=((Z7 ((l.map ZaE).flatten.length:Nat)).1++(l.map ZaE).flatten,0):=by
 have hr:=Zzv w l h hb
 unfold ZaN Zfi
 rw [if_neg (by rw [ZwM hb];simp),hr,if_neg (by simp)]
end
section
theorem Zjx (s:Zb):(Za4 s).1.length<=65537:=by
 unfold Za4
 split
 ·simp
 ·simp [ZaL];omega
theorem ZcN (s:Zb):(ZZ s).1.length<=65537:=by
 unfold ZZ
 split
 ·exact Zjx s
 ·simp
theorem Zdr (w:Int) (l:List Zn):(ZaN w l).1.length<=268435460:=by
 unfold ZaN Zfi
 generalize (l.map ZaE).flatten=b
 by_cases h:(Z7 b.length).2≠0
 ·rw [if_pos h];simp
 ·rw [if_neg h]
  split
  ·simp
  ·rename_i h2
   have h0:(Z0 w ((Z7 b.length).1++b)).2.2=0:=Classical.byContradiction fun e=>h2 (Or.inl e)
   have h1:(Z0 w ((Z7 b.length).1++b)).2.1=((Z7 b.length).1++b).length:=Classical.byContradiction fun e=>h2 (Or.inr (Or.inl e))
   have:=ZLO w _ h0
   rw [h1] at this
   exact this
theorem ZOC (s:Zb) (hs:s.length<=9223372036854775807):E1 129 [.ref 0 0,.str s] [.var wn]=some (.tup [],wH 0 (ZZ s).1):=by
 have hP:=fun σ sq own=>ZbA (ZiZ σ sq own s hs)
 unfold byT at hP
 have hlen:(ZZ s).1.length<=ZbQ:=by have:=ZcN s;unfold ZbQ;omega
 generalize (ZZ s).1=B at *
 generalize (ZZ s).2=C at *
 have hC:=fun {σ:Za} {t sq:Nat}=>ZrH B hlen (σ:=σ) (t:=t) (sq:=sq)
 have hO:=fun σ=>ZtV B σ
 rw [Zbr (by rfl) Zs8]
 unfold wn at *
 simp -implicitDefEqProofs only [EQA,Nat.reduceAdd,Nat.reduceLT,Nat.reduceEqDiff,Nat.reduceBEq,reduceCtorEq,↓reduceIte,Zvy,Zlx,Zt2,oI,hP,hC,wT,hO]
theorem ZCY (l:Zb) (s:Zb) (hs:s.length<=9223372036854775807) (hl:l.length+(ZZ s).1.length<=ZbQ):E1 129 [.ref 0 0,.str s] (wH 0 l)=some (.tup [],wH 1 (l++(ZZ s).1)):=by
 have hP:=fun σ sq own=>ZbA (ZiZ σ sq own s hs)
 unfold byT at hP
 generalize (ZZ s).1=B at *
 generalize (ZZ s).2=C at *
 have hC:=fun {σ:Za} {sq:Nat}=>ZjJ l B hl (σ:=σ) 0 1 0 (sq:=sq) (by omega)
 have hO:=fun g σ=>Zhi (l++B) g σ
 rw [Zbr (by rfl) Zs8]
 unfold wH at *
 simp -implicitDefEqProofs only [EQA,Nat.reduceAdd,Nat.reduceLT,Nat.reduceEqDiff,Nat.reduceBEq,reduceCtorEq,↓reduceIte,Zvy,Zlx,Zt2,oI,hP,hC,wT,hO]
theorem ZuK (s:Zb) (hs:s.length<=9223372036854775807) {σ:Za} {t sq:Nat} (hf:σ[sq]?=some .free) (hs0:σ[t]?=some (.var wn)) :
  Zo E1 BY σ sq 129 1 true [.ref t 0,.str s]=some (.tup [],(σ.set t (.var (wv sq 0 (ZZ s).1.length))).set sq (.row 0 1 ((ZZ s).1.map Zc)),{ any:=true,upd:=[(t,wv sq 0 (ZZ s).1.length)] }) :=
 ZgY (args:=[.str s]) rfl rfl (ZOC s hs) (by kernel_rfl) rfl rfl hf hs0
theorem ZiN (l:Zb) (s:Zb) (hs:s.length<=9223372036854775807) (hl:l.length+(ZZ s).1.length<=ZbQ) {σ:Za} (t r g:Nat) {sq:Nat} (htr:t≠r) (hf:σ[sq]?=some .free) (hs0:σ[t]?=some (.var (wv r g l.length))) (hr:σ[r]?=some (.row g 1 (l.map Zc))) :
  Zo E1 BY σ sq 129 1 true [.ref t 0,.str s]=some (.tup [],(σ.set t (.var (wv r (g+1) (l++(ZZ s).1).length))).set r (.row (g+1) 1 ((l++(ZZ s).1).map Zc)),{ any:=true,upd:=[(t,wv r (g+1) (l++(ZZ s).1).length)] }) :=
 Zir (args:=[.str s]) rfl ⟨rfl,rfl⟩ 1 (by omega) (ZCY l s hs hl) (by kernel_rfl) rfl rfl htr (ff1 hf) hs0 hr
theorem Zxg (l:Zb) (s:Zb) (hs:s.length<=9223372036854775807) (hl:l.length+(Za4 s).1.length<=ZbQ):E1 149 [.ref 0 0,.lst false (s.map Zc)] (wH 0 l)=some (.tup [],wH 1 (l++(Za4 s).1)):=by
 have hP:=fun σ sq own=>ZbA (Zqc σ sq own false s hs)
 unfold byT at hP
 generalize (Za4 s).1=B at *
 generalize (Za4 s).2=C at *
 have hC:=fun {σ:Za} {sq:Nat}=>ZjJ l B hl (σ:=σ) 0 1 0 (sq:=sq) (by omega)
 have hO:=fun g σ=>Zhi (l++B) g σ
 rw [Zbr (by rfl) ZD8]
 unfold wH at *
 simp -implicitDefEqProofs only [EQA,Nat.reduceAdd,Nat.reduceLT,Nat.reduceEqDiff,Nat.reduceBEq,reduceCtorEq,↓reduceIte,ZF6,Zq1,ZL7,oI,hP,hC,wT,hO]
theorem Ztv (l:Zb) (s:Zb) (hs:s.length<=9223372036854775807) (hl:l.length+(Za4 s).1.length<=ZbQ) {σ:Za} (t r g:Nat) {sq:Nat} (htr:t≠r) (hf:σ[sq]?=some .free) (hs0:σ[t]?=some (.var (wv r g l.length))) (hr:σ[r]?=some (.row g 1 (l.map Zc))) :
  Zo E1 BY σ sq 149 1 true [.ref t 0,.lst false (s.map Zc)]=some (.tup [],(σ.set t (.var (wv r (g+1) (l++(Za4 s).1).length))).set r (.row (g+1) 1 ((l++(Za4 s).1).map Zc)),{ any:=true,upd:=[(t,wv r (g+1) (l++(Za4 s).1).length)] }) :=
 Zir (args:=[.lst false (s.map Zc)]) rfl ⟨rfl,rfl⟩ 1 (by omega) (Zxg l s hs hl) (by kernel_rfl) rfl rfl htr (ff1 hf) hs0 hr
theorem ZLH (l:Zb) (w:Int) (ps:List Zn) (hp:ps.length<=700000000) (hx:∀ p ∈ ps,ZdO p) (hl:l.length+(ZaN w ps).1.length<=ZbQ):E1 128 [.ref 0 0,.int .i64 w,.lst false (ps.map Zg)] (wH 0 l)=some (.tup [],wH 1 (l++(ZaN w ps).1)):=by
 have hP:=fun σ sq own=>ZbA (ZJ0 σ sq own false w ps hp hx)
 unfold ZgJ at hP
 generalize (ZaN w ps).1=B at *
 generalize (ZaN w ps).2=C at *
 have hC:=fun {σ:Za} {sq:Nat}=>ZjJ l B hl (σ:=σ) 0 1 0 (sq:=sq) (by omega)
 have hO:=fun g σ=>Zhi (l++B) g σ
 rw [Zbr (by rfl) ZIw]
 unfold wH at *
 simp -implicitDefEqProofs only [EQA,Nat.reduceAdd,Nat.reduceLT,Nat.reduceEqDiff,Nat.reduceBEq,reduceCtorEq,↓reduceIte,ZMO,ZnX,ZNy,oI,hP,hC,wT,hO]
theorem ZgP (l:Zb) (w:Int) (ps:List Zn) (hp:ps.length<=700000000) (hx:∀ p ∈ ps,ZdO p) (hl:l.length+(ZaN w ps).1.length<=ZbQ) {σ:Za} (t r g:Nat) {sq:Nat} (htr:t≠r) (hf:σ[sq]?=some .free) (hs0:σ[t]?=some (.var (wv r g l.length))) (hr:σ[r]?=some (.row g 1 (l.map Zc))) :
  Zo E1 BY σ sq 128 1 true [.ref t 0,.int .i64 w,.lst false (ps.map Zg)]=some (.tup [],(σ.set t (.var (wv r (g+1) (l++(ZaN w ps).1).length))).set r (.row (g+1) 1 ((l++(ZaN w ps).1).map Zc)),{ any:=true,upd:=[(t,wv r (g+1) (l++(ZaN w ps).1).length)] }) :=
 Zir (args:=[.int .i64 w,.lst false (ps.map Zg)]) rfl ⟨rfl,rfl⟩ 1 (by omega) (ZLH l w ps hp hx hl) (by kernel_rfl) rfl rfl htr (ff1 hf) hs0 hr
theorem Zl3 (n:Int) (W:Nat) (h1:1<=W) (hW:W<=8) {m:Int} (hm:((W:Nat):Int)=m) {σ:Za} {t sq:Nat} (hf:σ[sq]?=some .free) (hs0:σ[t]?=some (.var wn)) :
  Zo E1 BY σ sq 127 1 true [.ref t 0,.int .i64 n,.int .i64 m]=some (.tup [],(σ.set t (.var (wv sq 0 (beB (ZO n) W).length))).set sq (.row 0 1 ((beB (ZO n) W).map Zc)),{ any:=true,upd:=[(t,wv sq 0 (beB (ZO n) W).length)] }):=by
 subst hm
 exact ZgY (args:=[.int .i64 n,.int .i64 (W:Nat)]) rfl rfl (ZF8 n W h1 hW) (by kernel_rfl) rfl rfl hf hs0
theorem Zgm (l:Zb) (n:Int) (W:Nat) (h1:1<=W) (hW:W<=8) {m:Int} (hm:((W:Nat):Int)=m) (hl:l.length+W<=ZbQ) {σ:Za} (t r g:Nat) {sq:Nat} (htr:t≠r) (hf:σ[sq]?=some .free) (hs0:σ[t]?=some (.var (wv r g l.length))) (hr:σ[r]?=some (.row g 1 (l.map Zc))) :
  Zo E1 BY σ sq 127 1 true [.ref t 0,.int .i64 n,.int .i64 m]=some (.tup [],(σ.set t (.var (wv r (g+1) (l++beB (ZO n) W).length))).set r (.row (g+1) 1 ((l++beB (ZO n) W).map Zc)),{ any:=true,upd:=[(t,wv r (g+1) (l++beB (ZO n) W).length)] }):=by
 subst hm
 exact Zir (args:=[.int .i64 n,.int .i64 (W:Nat)]) rfl ⟨rfl,rfl⟩ 1 (by omega) (ZKj l n W h1 hW hl) (by kernel_rfl) rfl rfl htr (ff1 hf) hs0 hr
def Z8 (b:Bool) (n:Int):Int:=if b then n else 0
theorem ZMl (b:Bool) (n:Int):E 81 [.bool b,.int .i64 n] []=some (.int .i64 (Z8 b n),[]):=by
 rw [Zh (by rfl) ZIb]
 unfold Z8
 cases b <;> simp -implicitDefEqProofs only [EQA,Nat.reduceLT,Nat.reduceEqDiff,reduceCtorEq,↓reduceIte,ZzS,ZpU,ZLd,oI]
theorem ZjU (b:Bool) (n:Int) (σ:Za) (sq own:Nat):Zo E1 BY σ sq 81 own true [.bool b,.int .i64 n]=some (.int .i64 (Z8 b n),σ,{}) :=
 ZbA (ZbK (ZMl b n) (by kernel_rfl) rfl rfl rfl (fun _=>rfl) _ _ _)
end
section
def ZA (p:Zz):List AVal:=[.int .i64 p.type,.bool p.dup,.int .i64 p.qos,.bool p.retain,.int .i64 p.id,.str p.topic,.lst false (p.payload.map Zc),.int .i64 p.code,.lst false (p.codes.map (AVal.int .i64)),.lst false (p.props.map Zg),.lst false (p.subs.map Z5),.lst false (p.filters.map AVal.str),.bool p.clean,.int .i64 p.keep,.str p.client,.bool p.hasWill,.str p.will.topic,.lst false (p.will.data.map Zc),.int .i64 p.will.qos,.bool p.will.retain,.lst false (p.will.props.map Zg),.bool p.hasUser,.str p.user,.bool p.hasPassword,.lst false (p.password.map Zc),.bool p.present]
theorem ZbD (p:Zz):Zar p=.agg (ZA p):=rfl
theorem Zb9 (p:Zz):(ZA p).length=26:=rfl
theorem Ze7 (p:Zz):Zak (.agg (ZA p))=true:=rfl
theorem ZeG (p:Zz):ZM (.agg (ZA p))=.agg (ZA p):=rfl
theorem Zc3 (p:Zz):(ZA p).take 26=ZA p:=rfl
theorem ZkR (p:Zz):Zp (ZA p)=[]:=by
 have h:=ZvB (Ze7 p)
 rw [ZeG] at h
 simpa [ZS] using h
structure OkW (p:Zz):Prop where
 topic:p.topic.length<=9223372036854775807
 payload:p.payload.length<=1099511627776
 codes:p.codes.length<=1048576
 props:p.props.length<=700000000/\∀ q ∈ p.props,ZdO q
 subs:p.subs.length<=1048576/\∀ s ∈ p.subs,s.filter.length<=9223372036854775807
 filters:p.filters.length<=1048576/\∀ f ∈ p.filters,f.length<=9223372036854775807
 client:p.client.length<=9223372036854775807
 wtopic:p.will.topic.length<=9223372036854775807
 wdata:p.will.data.length<=9223372036854775807
 wprops:p.will.props.length<=700000000/\∀ q ∈ p.will.props,ZdO q
 user:p.user.length<=9223372036854775807
 password:p.password.length<=9223372036854775807
def wO:Option Zb->Za
 | none=>[.var wn]
 | some l=>wH 0 l
theorem Zef {j g:Nat} {l:Zb} {σ:Za} (hj:j≠0) (h0:σ[0]?=some (.var (wv j g l.length))) (h1:σ[j]?=some (.row g 1 (l.map Zc))):Z6 1 σ (.tup [])=some (.tup [],wH 0 l):=by
 have d0:σ.getD 0 .free=.var (wv j g l.length):=by simp [List.getD_eq_getElem?_getD,h0]
 have d1:σ.getD j .free=.row g 1 (l.map Zc):=by simp [List.getD_eq_getElem?_getD,h1]
 have ej:([0]:List Nat).contains j=false:=by simp;omega
 have hrf:Zp (wv j g l.length)=[j]:=rfl
 have hi:Zv 1 [.tup []] σ=[0,j]:=by
  have : Zp [AVal.tup []]=[]:=rfl
  have hR:List.range 1=[0]:=rfl
  simp only [Zv,this,List.nil_append,hR,List.flatMap_cons,List.flatMap_nil,List.append_nil,d0,ZC,hrf]
  rw [show (1000:Nat)=998+1+1 from rfl,Zu,ej]
  simp only [Bool.false_eq_true,if_false,d1,ZC,List.nil_append]
  rfl
 have hρ:Zj σ 1 [0,j] j g=some (1,0):=by
  have : ¬(0:Nat)=j:=fun e=>hj e.symm
  simp [Zj,ZJ,Zl,ZE,h1,this]
 have hren:Zf (Zj σ 1 [0,j]) (wv j g l.length)=wv 1 0 l.length:=by simp only [wv,Zf,Zm,hρ]
 have ht:Zf (Zj σ 1 [0,j]) [AVal.tup []]=[.tup []]:=rfl
 simp only [Z6,gcA,hi,ht,Zr,d0,d1,ZE,Zl,Zw,hren,wH]
 simp
theorem ZB6 (σ:Za):Z6 1 (.var wn::σ) (.tup [])=some (.tup [],[.var wn]):=rfl
theorem ZGp (l:Zb) (σ:Za):Z6 2 (.var (wv 1 0 l.length)::.row 0 1 (l.map Zc)::σ) (.tup [])=some (.tup [],wH 0 l):=by
 simp [Z6,gcA,Zv,Zp,ZS,List.range,List.range.loop,ZC,wv,Zu,Zj,ZJ,Zr,ZE,Zl,Zw,Zf,Zm,wH]
def ZbW (p:Zz):Zb:=if p.code≠0\/p.props≠[] then beB (ZO p.code) 1++(if p.props≠[] then (ZaN p.type p.props).1 else []) else []
def ZdD (p:Zz):Option Zb:=if p.code≠0\/p.props≠[] then some (ZbW p) else none
theorem ZeH:ZbQ=70368744177664:=rfl
section
variable (p:Zz) (h:OkW p)
include h
theorem ZrT:E1 131 [.ref 0 0,Zar p] [.var wn]=some (.tup [],wO (ZdD p)):=by
 have l2:=Zdr p.type p.props
 have l1:=ZaL 1 (ZO p.code)
 have hN:=fun {σ:Za} {t sq:Nat}=>Zl3 p.code 1 (by omega) (by omega) (m:=1) rfl (σ:=σ) (t:=t) (sq:=sq)
 have hPr:=fun {σ:Za} {sq:Nat}=>ZgP (beB (ZO p.code) 1) p.type p.props h.props.1 h.props.2 (by rw [ZeH];omega) (σ:=σ) 0 2 0 (sq:=sq) (by omega)
 have hO:=fun {j g:Nat} {l:Zb} {σ:Za}=>Zef (j:=j) (g:=g) (l:=l) (σ:=σ)
 have hl:(p.props.map Zg).length=p.props.length:=by simp
 rw [ZbD]
 have e1:=Zc3 p
 have e0:=Zb9 p
 have a0:(ZA p)[0]?=some (.int .i64 p.type):=rfl
 have a7:(ZA p)[7]?=some (.int .i64 p.code):=rfl
 have a9:(ZA p)[9]?=some (.lst false (p.props.map Zg)):=rfl
 unfold ZdD ZbW
 generalize ZA p=P at *
 generalize p.type=ty at *
 generalize p.code=c at *
 generalize p.props=ps at *
 rw [Zbr (by rfl) Zta]
 by_cases hc:c=0
 ·have b1:(c != 0)=false:=by simp [hc]
  cases ps with
  | nil =>
   rw [if_neg (by simp [hc])]
   unfold wn wO at *
   simp -implicitDefEqProofs only [EQA,Zt,ZV,Zud,Nat.reduceAdd,Nat.reduceLT,Nat.reduceEqDiff,Nat.reduceBEq,ZD,unG,reduceCtorEq,decide_eq_true_eq,↓reduceIte,Zd,Zgj,Zfb,Zgk,oI,AVal.cells,a0,a7,a9,b1]
   exact ZB6 []
  | cons q ps =>
   rw [if_pos (by simp)]
   have g0:((((q::ps).map Zg).length:Nat):Int) > 0:=by simp
   rw [if_pos (by simp)]
   generalize (ZaN ty (q::ps)).1=B at *
   generalize (q::ps).map Zg=qs at *
   generalize beB (ZO c) 1=D at *
   unfold wn wO at *
   simp -implicitDefEqProofs only [EQA,Zt,Nat.reduceAdd,Nat.reduceLT,Nat.reduceEqDiff,Nat.reduceBEq,ZD,unG,reduceCtorEq,↓reduceIte,Zd,Zgj,Zfb,Zgk,oI,AVal.cells,a0,a7,a9,b1,g0,hN,hPr]
   exact hO (j:=2) (by decide) rfl rfl
 ·have b1:(c != 0)=true:=by simp [hc]
  rw [if_pos (by simp [hc]),if_pos (by simp [hc])]
  cases ps with
  | nil =>
   rw [if_neg (by simp),List.append_nil]
   generalize beB (ZO c) 1=D at *
   unfold wn wO at *
   simp -implicitDefEqProofs only [EQA,Zt,Nat.reduceAdd,Nat.reduceLT,Nat.reduceEqDiff,Nat.reduceBEq,ZD,Zam,reduceCtorEq,decide_eq_true_eq,↓reduceIte,Zd,Zgj,Zfb,Zgk,oI,AVal.cells,a0,a7,a9,b1,hN]
   exact hO (j:=2) (by decide) rfl rfl
  | cons q ps =>
   have g0:((((q::ps).map Zg).length:Nat):Int) > 0:=by simp
   rw [if_pos (by simp)]
   generalize (ZaN ty (q::ps)).1=B at *
   generalize (q::ps).map Zg=qs at *
   generalize beB (ZO c) 1=D at *
   unfold wn wO at *
   simp -implicitDefEqProofs only [EQA,Zt,Nat.reduceAdd,Nat.reduceLT,Nat.reduceEqDiff,Nat.reduceBEq,ZD,Zam,reduceCtorEq,↓reduceIte,Zd,Zgj,Zfb,Zgk,oI,AVal.cells,a0,a7,a9,b1,g0,hN,hPr]
   exact hO (j:=2) (by decide) rfl rfl
theorem ZB2 (l:Zb) (hl:l.length<=1000000000):E1 131 [.ref 0 0,Zar p] (wH 0 l)=some (.tup [],if ZbW p=[] then wH 0 l else wH 1 (l++ZbW p)):=by
 have l2:=Zdr p.type p.props
 have l1:=ZaL 1 (ZO p.code)
 have hN:=fun {σ:Za} {sq:Nat}=>Zgm l p.code 1 (by omega) (by omega) (m:=1) rfl (by rw [ZeH];omega) (σ:=σ) 0 1 0 (sq:=sq) (by omega)
 have hPr:=fun {σ:Za} {sq:Nat}=>ZgP (l++beB (ZO p.code) 1) p.type p.props h.props.1 h.props.2 (by rw [ZeH,List.length_append];omega) (σ:=σ) 0 1 1 (sq:=sq) (by omega)
 have hl:(p.props.map Zg).length=p.props.length:=by simp
 rw [ZbD]
 have e1:=Zc3 p
 have e0:=Zb9 p
 have a0:(ZA p)[0]?=some (.int .i64 p.type):=rfl
 have a7:(ZA p)[7]?=some (.int .i64 p.code):=rfl
 have a9:(ZA p)[9]?=some (.lst false (p.props.map Zg)):=rfl
 obtain ⟨R,hR⟩:∃ R,R=ZbW p:=⟨_,rfl⟩
 rw [<-hR]
 unfold ZbW at hR
 generalize ZA p=P at *
 generalize p.type=ty at *
 generalize p.code=c at *
 generalize p.props=ps at *
 rw [Zbr (by rfl) Zta]
 by_cases hc:c=0
 ·have b1:(c != 0)=false:=by simp [hc]
  cases ps with
  | nil =>
   rw [if_neg (by simp [hc])] at hR
   subst hR
   rw [if_pos rfl]
   unfold wH at *
   simp -implicitDefEqProofs only [EQA,Zud,Nat.reduceAdd,Nat.reduceLT,Nat.reduceEqDiff,Nat.reduceBEq,ZD,unG,reduceCtorEq,decide_eq_true_eq,↓reduceIte,Zgj,Zfb,Zgk,oI,AVal.cells,a0,a7,a9,b1]
   exact ZGp _ _
  | cons q ps =>
   have g0:((((q::ps).map Zg).length:Nat):Int) > 0:=by simp
   rw [if_pos (by simp),if_pos (by simp)] at hR
   subst hR
   rw [if_neg (by intro e;have:=congrArg List.length e;simp [l1] at this)]
   generalize (ZaN ty (q::ps)).1=B at *
   generalize (q::ps).map Zg=qs at *
   generalize beB (ZO c) 1=D at *
   rw [<-List.append_assoc]
   unfold wH at *
   simp -implicitDefEqProofs only [EQA,Nat.reduceAdd,Nat.reduceLT,Nat.reduceEqDiff,Nat.reduceBEq,ZD,unG,reduceCtorEq,↓reduceIte,Zgj,Zfb,Zgk,oI,AVal.cells,a0,a7,a9,b1,g0,hN,hPr]
   exact Zhi _ 1 _
 ·have b1:(c != 0)=true:=by simp [hc]
  rw [if_pos (by simp [hc])] at hR
  cases ps with
  | nil =>
   rw [if_neg (by simp),List.append_nil] at hR
   subst hR
   rw [if_neg (by intro e;have:=congrArg List.length e;simp [l1] at this)]
   generalize beB (ZO c) 1=D at *
   unfold wH at *
   simp -implicitDefEqProofs only [EQA,Nat.reduceAdd,Nat.reduceLT,Nat.reduceEqDiff,Nat.reduceBEq,ZD,Zam,reduceCtorEq,decide_eq_true_eq,↓reduceIte,Zgj,Zfb,Zgk,oI,AVal.cells,a0,a7,a9,b1,hN]
   exact Zhi _ 0 _
  | cons q ps =>
   have g0:((((q::ps).map Zg).length:Nat):Int) > 0:=by simp
   rw [if_pos (by simp)] at hR
   subst hR
   rw [if_neg (by intro e;have:=congrArg List.length e;simp [l1] at this)]
   generalize (ZaN ty (q::ps)).1=B at *
   generalize (q::ps).map Zg=qs at *
   generalize beB (ZO c) 1=D at *
   rw [<-List.append_assoc]
   unfold wH at *
   simp -implicitDefEqProofs only [EQA,Nat.reduceAdd,Nat.reduceLT,Nat.reduceEqDiff,Nat.reduceBEq,ZD,Zam,reduceCtorEq,↓reduceIte,Zgj,Zfb,Zgk,oI,AVal.cells,a0,a7,a9,b1,g0,hN,hPr]
   exact Zhi _ 1 _
def Zgr (p:Zz):Nat:=if ZbW p=[] then 0 else 1
theorem Zyv (l:Zb) (hl:l.length<=1000000000) {σ:Za} (t r g:Nat) {sq:Nat} (htr:t≠r) (hf:σ[sq]?=some .free) (hs0:σ[t]?=some (.var (wv r g l.length))) (hr:σ[r]?=some (.row g 1 (l.map Zc))) :
  Zo E1 BY σ sq 131 1 true [.ref t 0,.agg (ZA p)]=some (.tup [],(σ.set t (.var (wv r (g+Zgr p) (l++ZbW p).length))).set r (.row (g+Zgr p) 1 ((l++ZbW p).map Zc)),{ any:=true,upd:=[(t,wv r (g+Zgr p) (l++ZbW p).length)] }):=by
 have hw:=ZB2 p h l hl
 have hw':E1 131 [.ref 0 0,Zar p] (wH 0 l)=some (.tup [],wH (Zgr p) (l++ZbW p)):=by
  rw [hw]
  unfold Zgr
  split
  ·rename_i e;rw [e,List.append_nil]
  ·rfl
 exact Zir (args:=[.agg (ZA p)]) rfl ⟨rfl,rfl⟩ (Zgr p) (by unfold Zgr;split <;> omega) hw' (by kernel_rfl) (by rw [List.all_cons,Ze7];rfl) (by rw [List.map_cons,ZeG];rfl) htr (ff1 hf) hs0 hr
def ZbT (p:Zz):Zb:=beB (ZO p.id) 2++(ZaN p.type p.props).1
theorem ZC4:E1 132 [.ref 0 0,Zar p] [.var wn]=some (.tup [],wH 0 (ZbT p)):=by
 have l2:=Zdr p.type p.props
 have l1:=ZaL 2 (ZO p.id)
 have hN:=fun {σ:Za} {t sq:Nat}=>Zl3 p.id 2 (by omega) (by omega) (m:=2) rfl (σ:=σ) (t:=t) (sq:=sq)
 have hPr:=fun {σ:Za} {sq:Nat}=>ZgP (beB (ZO p.id) 2) p.type p.props h.props.1 h.props.2 (by rw [ZeH];omega) (σ:=σ) 0 2 0 (sq:=sq) (by omega)
 have hO:=fun {j g:Nat} {l:Zb} {σ:Za}=>Zef (j:=j) (g:=g) (l:=l) (σ:=σ)
 rw [ZbD]
 have e0:=Zb9 p
 have a0:(ZA p)[0]?=some (.int .i64 p.type):=rfl
 have a4:(ZA p)[4]?=some (.int .i64 p.id):=rfl
 have a9:(ZA p)[9]?=some (.lst false (p.props.map Zg)):=rfl
 unfold ZbT
 generalize ZA p=P at *
 generalize p.type=ty at *
 generalize p.id=c at *
 generalize p.props=ps at *
 generalize (ZaN ty ps).1=B at *
 generalize ps.map Zg=qs at *
 generalize beB (ZO c) 2=D at *
 rw [Zbr (by rfl) ZBp]
 unfold wn at *
 simp -implicitDefEqProofs only [EQA,Zt,Nat.reduceAdd,Nat.reduceLT,Nat.reduceEqDiff,Nat.reduceBEq,reduceCtorEq,↓reduceIte,Zd,ZBS,ZqD,ZPi,oI,AVal.cells,a0,a4,a9,hN,hPr]
 exact hO (j:=2) (by decide) rfl rfl
theorem Zo6 {σ:Za} {t sq:Nat} (hf:σ[sq]?=some .free) (hs0:σ[t]?=some (.var wn)) :
  Zo E1 BY σ sq 132 1 true [.ref t 0,.agg (ZA p)]=some (.tup [],(σ.set t (.var (wv sq 0 (ZbT p).length))).set sq (.row 0 1 ((ZbT p).map Zc)),{ any:=true,upd:=[(t,wv sq 0 (ZbT p).length)] }) :=
 ZgY (args:=[.agg (ZA p)]) rfl rfl (ZC4 p h) (by kernel_rfl) (by rw [List.all_cons,Ze7];rfl) (by rw [List.map_cons,ZeG];rfl) hf hs0
end
end
section
theorem ZdU (w:Int) (b:Zb):(Z0 w b).2.1<=b.length:=by
 unfold Z0
 split
 ·simp
 ·rename_i h
  split
  ·simp only
   have : ¬(((ZW b).1:Int) > (b.length:Int) - ((ZW b).2.1:Nat)):=fun e=>h (Or.inr e)
   omega
  ·simp
def ZaH:Zz:=⟨0,false,0,false,0,[],[],0,[],[],[],[],false,0,[],false,⟨[],[],0,false,[]⟩,false,[],false,[],false⟩
theorem Zld (σ:Za):Zas σ P0=some (ZA ZaH,[]):=rfl
theorem ZjH (q:Zz) (ρ:Rho):Zf ρ (ZA q)=ZA q:=by
 have h:=ZuI (ρ:=ρ) (Ze7 q)
 rw [ZeG,Zm] at h
 injection h
theorem ZCh {Q:List AVal} {q:Zz} (c:Int) (h:∀ σ,Zas σ Q=some (ZA q,[])):Zbs 0 (some (.tup [.agg Q,.int .i64 c],[]))=some (.tup [Zar q,.int .i64 c],[]):=by
 have h1:viewR [] (.tup [.agg Q,.int .i64 c])=some (.tup [Zar q,.int .i64 c],[]):=by
  rw [viewR,viewAs,ZP,h]
  rfl
 unfold Zbs
 simp only [h1]
 have e1:=ZkR q
 have e2:=ZjH q
 have hi:Zv 0 [AVal.tup [Zar q,.int .i64 c]] []=[]:=by
  have : Zp [AVal.tup [Zar q,.int .i64 c]]=[]:=by simp [Zp,ZS,ZbD,e1]
  simp only [Zv,this,List.nil_append,List.range_zero,List.flatMap_nil]
  rfl
 simp only [Zq,gcA,hi,Zf,Zm,Zr]
 rw [ZbD,Zm,e2]
def ZhX (b:Int) (l:Zb):Zz×Int :=
 if qoI b < 3 then (if qoI b > 0\/(Zbm b 8 != 0)=false then (match Zdk (qoI b) l with
  | .error e=>(ZaH,e)
  | .ok (tp,n,ps,pay)=>({ ZaH with type:=3,dup:=(Zbm b 8 != 0),qos:=qoI b,retain:=(Zbm b 1 != 0),id:=n,topic:=tp,props:=ps,payload:=pay },0))
  else (ZaH,130)) else (ZaH,129)
theorem ZA9 (b:Int) (h3:tyI b=3) (l:Zb) (hl:l.length<=140737488355328):∃ Q,E1 32 [.agg [.int .u8 b,.lst false (l.map Zc)]] []=some (.tup [.agg Q,.int .i64 (ZhX b l).2],[])/\∀ σ,Zas σ Q=some (ZA (ZhX b l).1,[]):=by
 have hf:=ZLr P0 rfl (by rfl) b l h3
 have hQ:(ZcS P0 b).length=26:=rfl
 have hN:Zd (ZcS P0 b)=true:=by rfl
 unfold ZhX
 by_cases hq:qoI b < 3
 ·rw [if_pos hq] at hf ⊢
  by_cases hd:qoI b > 0\/(Zbm b 8 != 0)=false
  ·rw [if_pos hd] at hf ⊢
   cases hp:Zdk (qoI b) l with
   | error e =>
    obtain ⟨cs,hn,hb⟩:=ZzJ (ZcS P0 b) hQ hN (qoI b) rfl rfl l hl hp
    refine ⟨P0,?_,Zld⟩
    rw [ZgX]
    exact Zg6 b e l (ZwJ b l hQ hN hn hf hb)
   | ok s =>
    obtain ⟨tp,n,ps,pay⟩:=s
    have hb:=ZOJ (ZcS P0 b) hQ hN (qoI b) rfl rfl rfl (fun r _=>ZdU 3 r) l hl hp
    refine ⟨((((ZcS P0 b).set 5 (.str tp)).set 4 (.int .i64 n)).set 9 (.lst false (ps.map Zg))).set 6 (.lst false (pay.map Zc)),?_,fun σ=>rfl⟩
    rw [ZgX]
    exact Zsa b l hQ hN rfl (by rfl) rfl rfl hf hb
  ·rw [if_neg hd] at hf ⊢
   refine ⟨P0,?_,Zld⟩
   rw [ZgX]
   exact Zg6 b 130 l (Zj1 b l (Zy _ hQ hN _ _) hf)
 ·rw [if_neg hq] at hf ⊢
  refine ⟨P0,?_,Zld⟩
  rw [ZgX]
  exact Zg6 b 129 l (Zj1 b l (Zy _ hQ hN _ _) hf)
end
section
def ZdX (k:Int) (l:Zb):Except Int (Int×List Zn×Zb):=match idK l with
 | .error c=>.error c
 | .ok (n,r1)=>match ZbC k r1 with
  | .error c=>.error c
  | .ok (ps,r2)=>if r2.length=0 then .error 130 else .ok (n,ps,r2)
def ZbY (P:List AVal) (n:Int) (ps:List Zn):List AVal:=(P.set 4 (.int .i64 n)).set 9 (.lst false (ps.map Zg))
structure QOk (k:Int) (Q:List AVal):Prop where
 len:Q.length=26
 nor:Zd Q=true
 ty:Q[0]?=some (.int .i64 k)
 c8:Q[8]?=some (.lst true [])
 c10:Q[10]?=some (.lst true [])
 c11:Q[11]?=some (.lst true [])
theorem ZdT {k:Int} {P:List AVal} (h:QOk k P) (n:Int) (ps:List Zn):QOk k (ZbY P n ps):=by
 unfold ZbY
 refine ⟨by simp [h.len],ZT (Zb5 _ _) _ (ZT rfl _ h.nor),?_,?_,?_,?_⟩
 ·rw [List.getElem?_set_ne (by omega),List.getElem?_set_ne (by omega)];exact h.ty
 ·rw [List.getElem?_set_ne (by omega),List.getElem?_set_ne (by omega)];exact h.c8
 ·rw [List.getElem?_set_ne (by omega),List.getElem?_set_ne (by omega)];exact h.c10
 ·rw [List.getElem?_set_ne (by omega),List.getElem?_set_ne (by omega)];exact h.c11
theorem ZDe {f:Nat} {cs:List AVal} (hc:Zd cs=true) (τ:Za) :
  gcT 3 [(1,.fn f [.ref 1 0,.ref 2 0]),(0,.ref 0 0)] (.var cs::.var [.ref 0 0]::.var [.ref 0 0]::τ)=([(1,.fn f [.ref 1 0,.ref 2 0]),(0,.ref 0 0)],[.var cs,.var [.ref 0 0],.var [.ref 0 0]]):=by
 have e2:=fun ρ=>ZaW ρ cs hc
 have hi:Zv 3 [.fn f [.ref 1 0,.ref 2 0],.ref 0 0] (.var cs::.var [.ref 0 0]::.var [.ref 0 0]::τ)=[0,1,2]:=by
  have hR:List.range 3=[0,1,2]:=rfl
  simp only [Zv,hR,List.flatMap_cons,List.flatMap_nil,List.append_nil,List.getD_cons_zero,List.getD_cons_succ,ZC,Zp,ZS,(e2 (fun _ _=>none)).2]
  rfl
 have hρ0:Zj (.var cs::.var [.ref 0 0]::.var [.ref 0 0]::τ) 3 [0,1,2] 0 0=some (0,0):=rfl
 have hρ1:Zj (.var cs::.var [.ref 0 0]::.var [.ref 0 0]::τ) 3 [0,1,2] 1 0=some (1,0):=rfl
 have hρ2:Zj (.var cs::.var [.ref 0 0]::.var [.ref 0 0]::τ) 3 [0,1,2] 2 0=some (2,0):=rfl
 simp only [gcT,gcA,List.map_cons,List.map_nil,hi,Zr,List.getD_cons_zero,List.getD_cons_succ,Zw,Zf,Zm,hρ0,hρ1,hρ2,(e2 _).1]
 rfl
theorem ZNV {f:Nat} {cs:List AVal} (hc:Zd cs=true) (τ:Za) :
  gcT 1 [(1,.fn f [.ref 0 0]),(0,.ref 0 0)] (.var cs::τ)=([(1,.fn f [.ref 0 0]),(0,.ref 0 0)],[.var cs]):=by
 have e2:=fun ρ=>ZaW ρ cs hc
 have hi:Zv 1 [.fn f [.ref 0 0],.ref 0 0] (.var cs::τ)=[0]:=by
  have hR:List.range 1=[0]:=rfl
  simp only [Zv,hR,List.flatMap_cons,List.flatMap_nil,List.append_nil,List.getD_cons_zero,ZC,Zp,ZS,(e2 (fun _ _=>none)).2]
  rfl
 have hρ0:Zj (.var cs::τ) 1 [0] 0 0=some (0,0):=rfl
 simp only [gcT,gcA,List.map_cons,List.map_nil,hi,Zr,List.getD_cons_zero,Zw,Zf,Zm,hρ0,(e2 _).1]
 rfl
section
variable (k:Int) (f:Nat) (P:List AVal) (h:QOk k P) (l:Zb) (hl:l.length<=140737488355328)
include h hl
theorem Zr6 {n:Int} {ps:List Zn} {r:Zb} (hk:ZdX k l=.ok (n,ps,r)):E 121 [.ref 0 0,.fn f [.ref 1 0,.ref 2 0]] [.var (P++[.lst false (l.map Zc)]),.var [.ref 0 0],.var [.ref 0 0]]=Za5 3 [(1,.fn f [.ref 1 0,.ref 2 0]),(0,.ref 0 0)] [.var (ZbY P n ps++[.lst false (r.map Zc)]),.var [.ref 0 0],.var [.ref 0 0]]:=by
 obtain ⟨hP,hN,h0,-,-,-⟩:=h
 unfold ZdX at hk
 split at hk
 ·cases hk
 rename_i n' r1 hi
 have l1:=Zfo hi
 split at hk
 ·cases hk
 rename_i ps' r2 hp
 split at hk
 ·cases hk
 rename_i hne
 injection hk with hk;injection hk with e1 hk;injection hk with e2 e3;subst e1 e2 e3
 have hI:=fun σ sq hs=>Zgh P hP hN l hl σ 0 sq hs hi
 have hP4:(P.set 4 (.int .i64 n')).length=26:=by simp [hP]
 have hN4:Zd (P.set 4 (.int .i64 n'))=true:=ZT rfl 4 hN
 have h04:(P.set 4 (.int .i64 n'))[0]?=some (.int .i64 k):=by rw [List.getElem?_set_ne (by omega)];exact h0
 unfold ZbY
 generalize P.set 4 (.int .i64 n')=R at *
 have hG:=fun σ sq hs=>Zeg R hP4 hN4 r1 (by omega) σ 0 sq hs (ZdU k r1) hp
 have c1:=Zaa R hP4
 have c2:=Zat R hP4
 have c4:=fun L=>(Zad R hP4 0 (by omega) L).trans h04
 have c3:=fun L=>Zaw R hP4 9 10 (by omega) rfl L (.lst false (ps'.map Zg))
 have hP9:(R.set 9 (.lst false (ps'.map Zg))).length=26:=by simp [hP4]
 have hN9:Zd (R.set 9 (.lst false (ps'.map Zg)))=true:=ZT (Zb5 _ _) 9 hN4
 generalize R.set 9 (.lst false (ps'.map Zg))=S at *
 have d2:=Zat S hP9
 have m1:=Zbe
 have z:((r2.length:Nat):Int) > 0:=by omega
 have z2:(0:Int) < ((r2.length:Nat):Int):=by omega
 have gC:=fun τ=>ZDe (f:=f) (Zy S hP9 hN9 false (r2.map Zc)) τ
 unfold Za5
 rw [Zh (by rfl) ZfM]
 simp -implicitDefEqProofs only [EQA,ZK,ZV,Nat.reduceAdd,Nat.reduceLT,Nat.reduceLeDiff,Nat.reduceEqDiff,reduceCtorEq,↓reduceIte,Zf0,ZeT,oI,oN,c1,c3,c4,hI,hG,d2,m1,z,gC]
theorem ZIj {e:Int} (hk:ZdX k l=.error e):∃ cs,Zd cs=true/\E 121 [.ref 0 0,.fn f [.ref 1 0,.ref 2 0]] [.var (P++[.lst false (l.map Zc)]),.var [.ref 0 0],.var [.ref 0 0]]=some (.pan (ZB e),[.var (cs),.var [.ref 0 0],.var [.ref 0 0]]):=by
 obtain ⟨hP,hN,h0,-,-,-⟩:=h
 unfold ZdX at hk
 split at hk
 ·rename_i c hi
  injection hk with hk;subst hk
  obtain ⟨cs,hn,he⟩:=Zmx P hP hN l hl hi
  have hI:=fun (σ:Za) sq (hs:σ[0]?=some (.var (P++[.lst false (l.map Zc)])))=>ZcA (O:=E) (bf:=BY) (f:=119) (view:=true) (rest:=[]) (by kernel_rfl) rfl (Zy P hP hN _ _) hn rfl he hs sq
  refine ⟨cs,hn,?_⟩
  rw [Zh (by rfl) ZfM]
  simp -implicitDefEqProofs only [EQA,Nat.reduceAdd,Nat.reduceLT,reduceCtorEq,↓reduceIte,Zf0,ZeT,oI,oN,hI]
  exact Zly rfl hn _
 rename_i n' r1 hi
 have l1:=Zfo hi
 have hI:=fun σ sq hs=>Zgh P hP hN l hl σ 0 sq hs hi
 have hP4:(P.set 4 (.int .i64 n')).length=26:=by simp [hP]
 have hN4:Zd (P.set 4 (.int .i64 n'))=true:=ZT rfl 4 hN
 have h04:(P.set 4 (.int .i64 n'))[0]?=some (.int .i64 k):=by rw [List.getElem?_set_ne (by omega)];exact h0
 generalize P.set 4 (.int .i64 n')=R at *
 have c1:=Zaa R hP4
 have c2:=Zat R hP4
 have c4:=fun L=>(Zad R hP4 0 (by omega) L).trans h04
 split at hk
 ·rename_i c hp
  injection hk with hk;subst hk
  have hG:=fun σ sq hs=>ZfK R hP4 hN4 r1 (by omega) σ 0 sq hs hp
  refine ⟨_,Zy R hP4 hN4 false (r1.map Zc),?_⟩
  rw [Zh (by rfl) ZfM]
  simp -implicitDefEqProofs only [EQA,Nat.reduceAdd,Nat.reduceLT,Nat.reduceEqDiff,reduceCtorEq,↓reduceIte,Zf0,ZeT,oI,oN,c4,hI,hG]
  exact Zly rfl (Zy R hP4 hN4 _ _) _
 rename_i ps' r2 hp
 split at hk
 case isFalse=>cases hk
 rename_i hne
 injection hk with hk;subst hk
 have hG:=fun σ sq hs=>Zeg R hP4 hN4 r1 (by omega) σ 0 sq hs (ZdU k r1) hp
 have c3:=fun L=>Zaw R hP4 9 10 (by omega) rfl L (.lst false (ps'.map Zg))
 have hP9:(R.set 9 (.lst false (ps'.map Zg))).length=26:=by simp [hP4]
 have hN9:Zd (R.set 9 (.lst false (ps'.map Zg)))=true:=ZT (Zb5 _ _) 9 hN4
 generalize R.set 9 (.lst false (ps'.map Zg))=S at *
 have d2:=Zat S hP9
 have m1:=Zby
 have z:¬((r2.length:Nat):Int) > 0:=by omega
 have z2:¬(0:Int) < ((r2.length:Nat):Int):=by omega
 refine ⟨_,Zy S hP9 hN9 false (r2.map Zc),?_⟩
 rw [Zh (by rfl) ZfM]
 simp -implicitDefEqProofs only [EQA,ZK,Nat.reduceAdd,Nat.reduceLT,Nat.reduceLeDiff,Nat.reduceEqDiff,reduceCtorEq,↓reduceIte,Zf0,ZeT,oI,oN,c1,c3,c4,hI,hG,d2,m1,z]
 exact Zly rfl (Zy S hP9 hN9 _ _) _
theorem Zsg {n:Int} {ps:List Zn} {r:Zb} (hk:ZdX k l=.ok (n,ps,r)):E 121 [.ref 0 0,.fn f [.ref 0 0]] [.var (P++[.lst false (l.map Zc)])]=Za5 1 [(1,.fn f [.ref 0 0]),(0,.ref 0 0)] [.var (ZbY P n ps++[.lst false (r.map Zc)])]:=by
 obtain ⟨hP,hN,h0,-,-,-⟩:=h
 unfold ZdX at hk
 split at hk
 ·cases hk
 rename_i n' r1 hi
 have l1:=Zfo hi
 split at hk
 ·cases hk
 rename_i ps' r2 hp
 split at hk
 ·cases hk
 rename_i hne
 injection hk with hk;injection hk with e1 hk;injection hk with e2 e3;subst e1 e2 e3
 have hI:=fun σ sq hs=>Zgh P hP hN l hl σ 0 sq hs hi
 have hP4:(P.set 4 (.int .i64 n')).length=26:=by simp [hP]
 have hN4:Zd (P.set 4 (.int .i64 n'))=true:=ZT rfl 4 hN
 have h04:(P.set 4 (.int .i64 n'))[0]?=some (.int .i64 k):=by rw [List.getElem?_set_ne (by omega)];exact h0
 unfold ZbY
 generalize P.set 4 (.int .i64 n')=R at *
 have hG:=fun σ sq hs=>Zeg R hP4 hN4 r1 (by omega) σ 0 sq hs (ZdU k r1) hp
 have c1:=Zaa R hP4
 have c2:=Zat R hP4
 have c4:=fun L=>(Zad R hP4 0 (by omega) L).trans h04
 have c3:=fun L=>Zaw R hP4 9 10 (by omega) rfl L (.lst false (ps'.map Zg))
 have hP9:(R.set 9 (.lst false (ps'.map Zg))).length=26:=by simp [hP4]
 have hN9:Zd (R.set 9 (.lst false (ps'.map Zg)))=true:=ZT (Zb5 _ _) 9 hN4
 generalize R.set 9 (.lst false (ps'.map Zg))=S at *
 have d2:=Zat S hP9
 have m1:=Zbe
 have z:((r2.length:Nat):Int) > 0:=by omega
 have z2:(0:Int) < ((r2.length:Nat):Int):=by omega
 have gC:=fun τ=>ZNV (f:=f) (Zy S hP9 hN9 false (r2.map Zc)) τ
 unfold Za5
 rw [Zh (by rfl) ZfM]
 simp -implicitDefEqProofs only [EQA,ZK,ZV,Nat.reduceAdd,Nat.reduceLT,Nat.reduceLeDiff,Nat.reduceEqDiff,reduceCtorEq,↓reduceIte,Zf0,ZeT,oI,oN,c1,c3,c4,hI,hG,d2,m1,z,gC]
theorem ZCE {e:Int} (hk:ZdX k l=.error e):∃ cs,Zd cs=true/\E 121 [.ref 0 0,.fn f [.ref 0 0]] [.var (P++[.lst false (l.map Zc)])]=some (.pan (ZB e),[.var (cs)]):=by
 obtain ⟨hP,hN,h0,-,-,-⟩:=h
 unfold ZdX at hk
 split at hk
 ·rename_i c hi
  injection hk with hk;subst hk
  obtain ⟨cs,hn,he⟩:=Zmx P hP hN l hl hi
  have hI:=fun (σ:Za) sq (hs:σ[0]?=some (.var (P++[.lst false (l.map Zc)])))=>ZcA (O:=E) (bf:=BY) (f:=119) (view:=true) (rest:=[]) (by kernel_rfl) rfl (Zy P hP hN _ _) hn rfl he hs sq
  refine ⟨cs,hn,?_⟩
  rw [Zh (by rfl) ZfM]
  simp -implicitDefEqProofs only [EQA,Nat.reduceLT,reduceCtorEq,↓reduceIte,Zf0,ZeT,oI,oN,hI]
  exact Z1 rfl hn
 rename_i n' r1 hi
 have l1:=Zfo hi
 have hI:=fun σ sq hs=>Zgh P hP hN l hl σ 0 sq hs hi
 have hP4:(P.set 4 (.int .i64 n')).length=26:=by simp [hP]
 have hN4:Zd (P.set 4 (.int .i64 n'))=true:=ZT rfl 4 hN
 have h04:(P.set 4 (.int .i64 n'))[0]?=some (.int .i64 k):=by rw [List.getElem?_set_ne (by omega)];exact h0
 generalize P.set 4 (.int .i64 n')=R at *
 have c1:=Zaa R hP4
 have c2:=Zat R hP4
 have c4:=fun L=>(Zad R hP4 0 (by omega) L).trans h04
 split at hk
 ·rename_i c hp
  injection hk with hk;subst hk
  have hG:=fun σ sq hs=>ZfK R hP4 hN4 r1 (by omega) σ 0 sq hs hp
  refine ⟨_,Zy R hP4 hN4 false (r1.map Zc),?_⟩
  rw [Zh (by rfl) ZfM]
  simp -implicitDefEqProofs only [EQA,Nat.reduceLT,Nat.reduceEqDiff,reduceCtorEq,↓reduceIte,Zf0,ZeT,oI,oN,c4,hI,hG]
  exact Z1 rfl (Zy R hP4 hN4 _ _)
 rename_i ps' r2 hp
 split at hk
 case isFalse=>cases hk
 rename_i hne
 injection hk with hk;subst hk
 have hG:=fun σ sq hs=>Zeg R hP4 hN4 r1 (by omega) σ 0 sq hs (ZdU k r1) hp
 have c3:=fun L=>Zaw R hP4 9 10 (by omega) rfl L (.lst false (ps'.map Zg))
 have hP9:(R.set 9 (.lst false (ps'.map Zg))).length=26:=by simp [hP4]
 have hN9:Zd (R.set 9 (.lst false (ps'.map Zg)))=true:=ZT (Zb5 _ _) 9 hN4
 generalize R.set 9 (.lst false (ps'.map Zg))=S at *
 have d2:=Zat S hP9
 have m1:=Zby
 have z:¬((r2.length:Nat):Int) > 0:=by omega
 have z2:¬(0:Int) < ((r2.length:Nat):Int):=by omega
 refine ⟨_,Zy S hP9 hN9 false (r2.map Zc),?_⟩
 rw [Zh (by rfl) ZfM]
 simp -implicitDefEqProofs only [EQA,ZK,Nat.reduceAdd,Nat.reduceLT,Nat.reduceLeDiff,Nat.reduceEqDiff,reduceCtorEq,↓reduceIte,Zf0,ZeT,oI,oN,c1,c3,c4,hI,hG,d2,m1,z]
 exact Z1 rfl (Zy S hP9 hN9 _ _)
end
end
end Go.Proofs.YtmlkhhidifjjfaaDoor
