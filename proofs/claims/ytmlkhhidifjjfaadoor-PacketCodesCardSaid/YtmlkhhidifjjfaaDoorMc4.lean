/- packed -/
import Derived.Test.YtmlkhhidifjjfaaDoorMc3
import Derived.Test.YtmlkhhidifjjfaaDoorMc2
import Derived.Defers
import Derived.Recover
import Derived.Tactics
import Derived.Test.YtmlkhhidifjjfaaDoorProg
import Derived.Shelf.Unicode.ValidAny
import Derived.Lib.TrimAscii
set_option linter.defProp false
set_option linter.unusedSectionVars false
set_option linter.unusedSimpArgs false
set_option linter.unusedVariables false
namespace Go.Proofs.YtmlkhhidifjjfaaDoor
set_option maxHeartbeats 8000000
set_option maxRecDepth 10000
def Zf0 (m:Int):Int:=IntKind.i64.wrap (m.tdiv 16)
def Zbn (l:Zb):RK Zbv:=match Zan l with
 | .error c=>.error c
 | .ok (f,r1)=>match Zaz 1 r1 with
  | .error c=>.error c
  | .ok (o,r2)=>if o < 64 then (if Zv o 3 < 3∧Zf0 o < 3 then .ok (⟨f,Zv o 3,Zv o 4 != 0,Zv o 8 != 0,Zf0 o,0⟩,r2) else .error 130) else .error 129
theorem Zc0 {cs cs' xs:List AVal} {w j:Nat} {r:AVal} {σ:Za} (hr:ZK r=true) (hj:j≠0) (h0:σ[0]?=some (.var cs)) (h1:σ[j]?=some (.row 0 w xs)) (hrf:Zr cs=[j]) (hren:∀ ρ:Rho,ρ j 0=some (1,0)→Ze ρ cs=cs'):Zal 1 σ r=some (r,[.var cs',.row 0 w xs]):=by
 have d0:σ.getD 0 .free=.var cs:=by simp [List.getD_eq_getElem?_getD,h0]
 have d1:σ.getD j .free=.row 0 w xs:=by simp [List.getD_eq_getElem?_getD,h1]
 have e1:=(Za4 (Zl σ 1 [0,j]) r hr)
 have ej:([0]:List Nat).contains j=false:=by simp;omega
 have hi:ZE 1 [r] σ=[0,j]:=by
  have : Zr [r]=[]:=by simp only [Zr,e1.2,List.append_nil]
  have hR:List.range 1=[0]:=rfl
  simp only [ZE,this,List.nil_append,hR,List.flatMap_cons,List.flatMap_nil,List.append_nil,d0,ZQ,hrf]
  rw [show (1000:Nat)=998+1+1 from rfl,ZA,ej]
  simp only [Bool.false_eq_true,if_false,d1,ZQ,List.nil_append]
  rfl
 have hρ:Zl σ 1 [0,j] j 0=some (1,0):=by
  have : ¬(0:Nat)=j:=fun e=>hj e.symm
  simp [Zl,Z1,Zp,ZU,h1,this]
 simp only [Zal,gcA,hi,Ze,e1.1,Zx,d0,d1,ZU,Zp,ZJ,hren _ hρ]
 simp
section
variable (P:List AVal) (hP:P.length=26) (hN:Zd P=true) (h10:P[10]?=some (.lst true [])) (l:Zb) (hl:l.length≤140737488355328)
include hP hN h10 hl
theorem ZGD {s:Zbv} {r:Zb} (h:Zbn l=.ok (s,r)):E 122 [.ref 0 0] (Zg P l)=some (.tup [],[.var (Zi P 10 1 0 1++[.lst false (r.map Zc)]),.row 0 6 [ZY s]]):=by
 unfold Zbn at h
 split at h
 ·cases h
 rename_i f r1 ht
 have l1:=ZdH ht
 split at h
 ·cases h
 rename_i o r2 hn
 split at h
 case isFalse=>cases h
 rename_i h64
 split at h
 case isFalse=>cases h
 rename_i hq
 obtain ⟨hq1,hq2⟩:=hq
 injection h with h;injection h with e1 e2;subst e1 e2
 have hT:=fun σ site hs=>Zd1 P hP hN l hl σ 0 site hs ht
 have hG:=fun σ site hs=>ZcO P hP hN r1 (by omega) σ 0 site hs (m:=1) rfl hn
 have m0:=Za9
 have a1:=Z2 P hP
 have a3:=fun L v=>Zat P hP 10 11 (by omega) rfl L v
 have a4:=fun L=>(Z5 P hP 10 (by omega) L).trans h10
 have z:¬(16:Int)=0:=by decide
 unfold Zi ZY Zg
 unfold Zv Zf0 at *
 rw [Zh (by rfl) Zdy]
 simp -implicitDefEqProofs only [EQA,Zag,Zs,Nat.reduceAdd,Nat.reduceLT,Nat.reduceLeDiff,Nat.reduceEqDiff,Nat.reduceBEq,Zz,unG,ne_eq,Option.some.injEq,reduceCtorEq,decide_true,decide_false,Z6,↓reduceIte,Zd,List.contains_cons,Zdw,ZcU,Zqp,oI,oN,hT,hG,m0,a1,a3,a4,z,h64,hq1,hq2,ZV,AVal.cells,Zbk,viewAs,ZN,ZL,ZaM,Zn,List.foldl_cons,List.foldl_nil,Nat.one_mul,Nat.le_refl,Zaj,Zak,Zav,Zar,Zay,Zam,List.lookup_nil,kOk]
 refine Zc0 (j:=2) rfl (by omega) rfl rfl ?_ (fun ρ h=>?_)
 ·rw [Zcu,Zh4 hN (by omega)];rfl
 ·rw [ZbS,Zic ρ hN]
  simp only [Zk,h]
  rfl
end
theorem ZCQ (ss:List Zbv):kOk 6 (ss.map ZY)=true:=by cases ss <;> rfl
section
variable (P:List AVal) (hP:P.length=26) (hN:Zd P=true) (ss:List Zbv) (hss:ss.length*48+48≤140737488355328) (l:Zb) (hl:l.length≤140737488355328)
include hP hN hss hl
theorem ZDp {s:Zbv} {r:Zb} (h:Zbn l=.ok (s,r)):E 122 [.ref 0 0] [.var (Zi P 10 1 0 ss.length++[.lst false (l.map Zc)]),.row 0 6 (ss.map ZY)]=some (.tup [],[.var (Zi P 10 1 1 (ss.length+1)++[.lst false (r.map Zc)]),.row 1 6 ((ss++[s]).map ZY)]):=by
 unfold Zbn at h
 split at h
 ·cases h
 rename_i f r1 ht
 have l1:=ZdH ht
 split at h
 ·cases h
 rename_i o r2 hn
 split at h
 case isFalse=>cases h
 rename_i h64
 split at h
 case isFalse=>cases h
 rename_i hq
 obtain ⟨hq1,hq2⟩:=hq
 injection h with h;injection h with e1 e2;subst e1 e2
 have hT:=fun σ site hs hr=>Znl P hP hN 10 (by omega) ss.length 6 (ss.map ZY) l hl σ 0 1 0 site (by omega) hs hr ht
 have hG:=fun σ site hs hr=>Zj7 P hP hN 10 (by omega) ss.length 6 (ss.map ZY) r1 (by omega) σ 0 1 0 site (by omega) hs hr (m:=1) rfl hn
 have m0:=Za9
 have hL:=Zb6 P hP hN 10 (by omega) ss.length 1 0
 have a1:=Z2 _ hL
 have a3:=fun L v=>Zat _ hL 10 11 (by omega) rfl L v
 have h10:(Zi P 10 1 0 ss.length)[10]?=some (.sl 1 0 0 ss.length):=by unfold Zi;rw [List.getElem?_set_self (by omega)]
 have a4:=fun L=>(Z5 _ hL 10 (by omega) L).trans h10
 have hset:(Zi P 10 1 0 ss.length).set 10 (.sl 1 1 0 (ss.length+1))=Zi P 10 1 1 (ss.length+1):=by unfold Zi;rw [List.set_set]
 have z:¬(16:Int)=0:=by decide
 have kk:=ZCQ ss
 have k1:∀ a b c d e f:AVal,kOk 6 [.agg [a,b,c,d,e,f]]=true:=fun _ _ _ _ _ _=>rfl
 have len:(ss.map ZY).length=ss.length:=by simp
 have tk:(ss.map ZY).take ss.length=ss.map ZY:=by rw [←len,List.take_length]
 have lim:(ss.length+1)*48≤140737488355328:=by omega
 have lim2:48*(ss.length+1)≤140737488355328:=by omega
 unfold Zv Zf0 at *
 rw [Zh (by rfl) Zdy]
 simp -implicitDefEqProofs only [EQA,Zag,Nat.reduceAdd,Nat.reduceLT,Nat.reduceLeDiff,Nat.reduceEqDiff,Nat.reduceBEq,Zz,unG,ne_eq,Option.some.injEq,reduceCtorEq,decide_true,decide_false,Z6,↓reduceIte,List.contains_cons,Zdw,ZcU,Zqp,oI,oN,hT,hG,m0,a1,a3,a4,z,h64,hq1,hq2,ZV,AVal.cells,Zbk,viewAs,ZN,ZL,ZaM,Zn,List.foldl_cons,List.foldl_nil,Nat.le_refl,Zaj,Zak,Zav,Zar,Zay,Zam,List.lookup_nil,k1,len,lim,hset]
 rw [Zpv (g:=1) rfl (by rw [Zcu,Zci P hP hN 10 (by omega)];rfl) (by omega) (fun ρ h=>by rw [ZbS,ZbJ P hP hN 10 (by omega) _ ρ h];rfl)]
 simp only [List.map_append,List.map_cons,List.map_nil]
 rfl
end
section
variable (P:List AVal) (hP:P.length=26) (hN:Zd P=true) (l:Zb) (hl:l.length≤140737488355328)
include hP hN hl
theorem ZEE {e:Int} (h:Zbn l=.error e):∃ cs,Zd cs=true∧E 122 [.ref 0 0] (Zg P l)=some (.pan (Zy e),[.var cs]):=by
 unfold Zbn at h
 have z:¬(16:Int)=0:=by decide
 unfold Zg
 split at h
 ·rename_i c ht
  injection h with h;subst h
  have hT:=fun σ site hs=>Zgy P hP hN l hl σ 0 site hs ht
  refine ⟨_,Zw P hP hN false (l.map Zc),?_⟩
  rw [Zh (by rfl) Zdy]
  simp -implicitDefEqProofs only [EQA,Nat.reduceLT,↓reduceIte,Zdw,ZcU,oI,oN,hT]
  exact ZX rfl (Zw P hP hN _ _)
 rename_i f r1 ht
 have l1:=ZdH ht
 have hT:=fun σ site hs=>Zd1 P hP hN l hl σ 0 site hs ht
 split at h
 ·rename_i c hn
  injection h with h;subst h
  have hG:=fun σ site hs=>Zfk P hP hN r1 (by omega) σ 0 site hs (m:=1) rfl (by decide) hn
  refine ⟨_,Zw P hP hN false (r1.map Zc),?_⟩
  rw [Zh (by rfl) Zdy]
  simp -implicitDefEqProofs only [EQA,Zag,Nat.reduceAdd,Nat.reduceLT,Nat.reduceLeDiff,Nat.reduceEqDiff,Nat.reduceBEq,reduceCtorEq,↓reduceIte,Zdw,ZcU,oI,oN,hT,hG,ZV,AVal.cells]
  exact ZX rfl (Zw P hP hN _ _)
 rename_i o r2 hn
 have hG:=fun σ site hs=>ZcO P hP hN r1 (by omega) σ 0 site hs (m:=1) rfl hn
 have m0:=Za9
 have m1:=ZbA
 refine ⟨_,Zw P hP hN false (r2.map Zc),?_⟩
 split at h
 case isFalse =>
  rename_i h64
  injection h with h;subst h
  rw [Zh (by rfl) Zdy]
  simp -implicitDefEqProofs only [EQA,Zag,Nat.reduceAdd,Nat.reduceLT,Nat.reduceLeDiff,Nat.reduceEqDiff,Nat.reduceBEq,reduceCtorEq,decide_false,↓reduceIte,Zdw,ZcU,oI,oN,hT,hG,m1,h64,ZV,AVal.cells]
  exact ZX rfl (Zw P hP hN _ _)
 rename_i h64
 split at h
 ·cases h
 rename_i hq
 injection h with h;subst h
 by_cases hq1:Zv o 3 < 3
 ·have hq2:¬Zf0 o < 3:=fun h=>hq ⟨hq1,h⟩
  unfold Zv Zf0 at *
  rw [Zh (by rfl) Zdy]
  simp -implicitDefEqProofs only [EQA,Zag,Nat.reduceAdd,Nat.reduceLT,Nat.reduceLeDiff,Nat.reduceEqDiff,Nat.reduceBEq,Zz,unG,ne_eq,Option.some.injEq,reduceCtorEq,decide_true,decide_false,↓reduceIte,Zdw,ZcU,oI,oN,hT,hG,m0,m1,z,h64,hq1,hq2,ZV,AVal.cells]
  exact ZX rfl (Zw P hP hN _ _)
 ·unfold Zv at *
  rw [Zh (by rfl) Zdy]
  simp -implicitDefEqProofs only [EQA,Zag,Nat.reduceAdd,Nat.reduceLT,Nat.reduceLeDiff,Nat.reduceEqDiff,Nat.reduceBEq,Zz,Zau,ne_eq,Option.some.injEq,reduceCtorEq,decide_true,decide_false,↓reduceIte,Zdw,ZcU,oI,oN,hT,hG,m0,m1,z,h64,hq1,ZV,AVal.cells]
  exact ZX rfl (Zw P hP hN _ _)
variable (ss:List Zbv)
theorem ZC8 {e:Int} (h:Zbn l=.error e):∃ r:Zb,E 122 [.ref 0 0] [.var (Zi P 10 1 0 ss.length++[.lst false (l.map Zc)]),.row 0 6 (ss.map ZY)]=some (.pan (Zy e),[.var (Zi P 10 1 0 ss.length++[.lst false (r.map Zc)]),.row 0 6 (ss.map ZY)]):=by
 unfold Zbn at h
 have z:¬(16:Int)=0:=by decide
 have fin:∀ (r:Zb) (σ:Za) (x:AVal),ZK x=true→Zal 2 (.var (Zi P 10 1 0 ss.length++[.lst false (r.map Zc)])::.row 0 6 (ss.map ZY)::σ) x=some (x,[.var (Zi P 10 1 0 ss.length++[.lst false (r.map Zc)]),.row 0 6 (ss.map ZY)]):=fun r σ x hx =>
  Zpv (g:=0) hx (by rw [Zcu,Zci P hP hN 10 (by omega)];rfl) (by omega) (fun ρ h=>by rw [ZbS,ZbJ P hP hN 10 (by omega) _ ρ h];rfl)
 split at h
 ·rename_i c ht
  injection h with h;subst h
  have hT:=fun σ site hs hr=>Zp9 P hP hN 10 (by omega) ss.length 6 (ss.map ZY) l hl σ 0 1 0 site (by omega) hs hr ht
  refine ⟨l,?_⟩
  rw [Zh (by rfl) Zdy]
  simp -implicitDefEqProofs only [EQA,Nat.reduceAdd,Nat.reduceLT,↓reduceIte,Zdw,ZcU,oI,oN,hT]
  exact fin _ _ _ rfl
 rename_i f r1 ht
 have l1:=ZdH ht
 have hT:=fun σ site hs hr=>Znl P hP hN 10 (by omega) ss.length 6 (ss.map ZY) l hl σ 0 1 0 site (by omega) hs hr ht
 split at h
 ·rename_i c hn
  injection h with h;subst h
  have hG:=fun σ site hs hr=>Zty P hP hN 10 (by omega) ss.length 6 (ss.map ZY) r1 (by omega) σ 0 1 0 site (by omega) hs hr (m:=1) rfl (by decide) hn
  refine ⟨r1,?_⟩
  rw [Zh (by rfl) Zdy]
  simp -implicitDefEqProofs only [EQA,Zag,Nat.reduceAdd,Nat.reduceLT,Nat.reduceLeDiff,Nat.reduceEqDiff,Nat.reduceBEq,reduceCtorEq,↓reduceIte,Zdw,ZcU,oI,oN,hT,hG,ZV,AVal.cells]
  exact fin _ _ _ rfl
 rename_i o r2 hn
 have hG:=fun σ site hs hr=>Zj7 P hP hN 10 (by omega) ss.length 6 (ss.map ZY) r1 (by omega) σ 0 1 0 site (by omega) hs hr (m:=1) rfl hn
 have m0:=Za9
 have m1:=ZbA
 refine ⟨r2,?_⟩
 split at h
 case isFalse =>
  rename_i h64
  injection h with h;subst h
  rw [Zh (by rfl) Zdy]
  simp -implicitDefEqProofs only [EQA,Zag,Nat.reduceAdd,Nat.reduceLT,Nat.reduceLeDiff,Nat.reduceEqDiff,Nat.reduceBEq,reduceCtorEq,decide_false,↓reduceIte,Zdw,ZcU,oI,oN,hT,hG,m1,h64,ZV,AVal.cells]
  exact fin _ _ _ rfl
 rename_i h64
 split at h
 ·cases h
 rename_i hq
 injection h with h;subst h
 by_cases hq1:Zv o 3 < 3
 ·have hq2:¬Zf0 o < 3:=fun h=>hq ⟨hq1,h⟩
  unfold Zv Zf0 at *
  rw [Zh (by rfl) Zdy]
  simp -implicitDefEqProofs only [EQA,Zag,Nat.reduceAdd,Nat.reduceLT,Nat.reduceLeDiff,Nat.reduceEqDiff,Nat.reduceBEq,Zz,unG,ne_eq,Option.some.injEq,reduceCtorEq,decide_true,decide_false,↓reduceIte,Zdw,ZcU,oI,oN,hT,hG,m0,m1,z,h64,hq1,hq2,ZV,AVal.cells]
  exact fin _ _ _ rfl
 ·unfold Zv at *
  rw [Zh (by rfl) Zdy]
  simp -implicitDefEqProofs only [EQA,Zag,Nat.reduceAdd,Nat.reduceLT,Nat.reduceLeDiff,Nat.reduceEqDiff,Nat.reduceBEq,Zz,Zau,ne_eq,Option.some.injEq,reduceCtorEq,decide_true,decide_false,↓reduceIte,Zdw,ZcU,oI,oN,hT,hG,m0,m1,z,h64,hq1,ZV,AVal.cells]
  exact fin _ _ _ rfl
end
end Go.Proofs.YtmlkhhidifjjfaaDoor
namespace Go.Proofs.YtmlkhhidifjjfaaDoor
set_option maxHeartbeats 8000000
set_option maxRecDepth 10000
section
variable (P:List AVal) (hP:P.length=26) (hN:Zd P=true)
include hP hN
theorem ZCG (k:Int) (hk:P[0]?=some (.int .i64 k)) (l:Zb) (hl:l.length≤140737488355328) {c:Int} (h:Zas k l=.error c):∃ r:Zb,E 116 [.ref 0 0] [.var (P++[.lst false (l.map Zc)])]=some (.pan (Zy c),[.var (P++[.lst false (r.map Zc)])]):=by
 unfold Zas at h
 split at h
 ·rename_i n' r' h2
  split at h
  case isTrue=>cases h
  rename_i hn
  injection h with h;subst h
  have hG:=fun σ site hs=>ZcO P hP hN l hl σ 0 site hs (m:=1) rfl h2
  have a4:=fun L=>(Z5 P hP 0 (by omega) L).trans hk
  have m1:=ZbA
  have hC:=fun σ site own=>Zhb k n' σ site own
  rw [Bool.not_eq_true _ |>.mp hn] at hC
  refine ⟨r',?_⟩
  rw [Zh (by rfl) ZfD]
  simp -implicitDefEqProofs only [EQA,Nat.reduceLT,Nat.reduceEqDiff,reduceCtorEq,↓reduceIte,ZfC,ZeK,oI,hG,hC,a4,m1]
  exact ZX rfl (ZaC hN (by rfl))
 ·rename_i c' h2
  injection h with h;subst h
  have hG:=fun σ site hs=>Zfk P hP hN l hl σ 0 site hs (m:=1) rfl (by decide) h2
  refine ⟨l,?_⟩
  rw [Zh (by rfl) ZfD]
  simp -implicitDefEqProofs only [EQA,Nat.reduceLT,reduceCtorEq,↓reduceIte,ZfC,ZeK,oI,hG]
  exact ZX rfl (ZaC hN (by rfl))
end
section
variable (P:List AVal) (hP:P.length=26) (hN:Zd P=true) (l:Zb) (hl:l.length≤140737488355328)
include hP hN hl
theorem Zvk (h11:P[11]?=some (.lst true [])) {s r:Zb} (h:Zan l=.ok (s,r)):evC FC PR BY 3 Zdb [(1,.ref 2 0),(0,.ref 0 0)] [.var [.ref 1 0],.var (P++[.lst false (l.map Zc)]),.var [.ref 1 0]]=some (.normal,[],[.var [.ref 1 0],.var (Zi P 11 3 0 1++[.lst false (r.map Zc)]),.var [.ref 1 0],.row 0 1 [.str s]]):=by
 have hT:=fun σ site hs=>Zd1 P hP hN l hl σ 1 site hs h
 have a1:=Z2 P hP
 have a3:=fun L v=>Zat P hP 11 12 (by omega) rfl L v
 have a4:=fun L=>(Z5 P hP 11 (by omega) L).trans h11
 unfold Zi
 simp -implicitDefEqProofs only [EQA,Nat.reduceAdd,Nat.reduceLT,Nat.reduceLeDiff,Nat.reduceEqDiff,Nat.reduceBEq,reduceCtorEq,decide_true,Z6,↓reduceIte,List.contains_cons,Zdb,oI,oN,hT,a1,a3,a4,AVal.cells,Zbk,viewAs,ZN,ZL,Zn,List.foldl_cons,List.foldl_nil,Nat.one_mul,Zaj,Zak,Zav,Zar,Zay,Zam,Zc9,List.lookup_cons,List.lookup_nil,kOk]
theorem ZMh {c:Int} (h:Zan l=.error c) (h11:P[11]?=some (.lst true [])):evC FC PR BY 3 Zdb [(1,.ref 2 0),(0,.ref 0 0)] [.var [.ref 1 0],.var (P++[.lst false (l.map Zc)]),.var [.ref 1 0]]=some (.panic (Zy c),[],[.var [.ref 1 0],.var (P++[.lst false (l.map Zc)]),.var [.ref 1 0],.free]):=by
 have hT:=fun σ site hs=>Zgy P hP hN l hl σ 1 site hs h
 have a4:=fun L=>(Z5 P hP 11 (by omega) L).trans h11
 simp -implicitDefEqProofs only [EQA,Nat.reduceAdd,Nat.reduceSub,Nat.reduceLT,Nat.reduceLeDiff,Nat.reduceEqDiff,Nat.reduceBEq,reduceCtorEq,decide_true,decide_false,↓reduceIte,List.contains_cons,Zdb,oI,oN,hT,a4,Zhv,Zdj,List.any_cons,List.any_nil,Zaj,Zak,Zav,Zar,Zay,Zam,Zc9,List.lookup_cons,List.lookup_nil]
theorem ZDf (h8:P[8]?=some (.lst true [])) (k:Int) (hk:P[0]?=some (.int .i64 k)) {c:Int} {r:Zb} (h:Zas k l=.ok (c,r)):evC FC PR BY 3 Zdg [(1,.ref 2 0),(0,.ref 0 0)] [.var [.ref 1 0],.var (P++[.lst false (l.map Zc)]),.var [.ref 1 0]]=some (.normal,[],[.var [.ref 1 0],.var (Zi P 8 3 0 1++[.lst false (r.map Zc)]),.var [.ref 1 0],.row 0 1 [.int .i64 c]]):=by
 have hT:=fun σ site hs=>Zi9 P hP hN l hl σ 1 site hs k hk h
 have a1:=Z2 P hP
 have a3:=fun L v=>Zat P hP 8 9 (by omega) rfl L v
 have a4:=fun L=>(Z5 P hP 8 (by omega) L).trans h8
 unfold Zi
 simp -implicitDefEqProofs only [EQA,Nat.reduceAdd,Nat.reduceLT,Nat.reduceLeDiff,Nat.reduceEqDiff,Nat.reduceBEq,reduceCtorEq,decide_true,Z6,↓reduceIte,List.contains_cons,Zdg,oI,oN,hT,a1,a3,a4,AVal.cells,Zbk,viewAs,ZN,ZL,Zn,List.foldl_cons,List.foldl_nil,Nat.one_mul,Zaj,Zak,Zav,Zar,Zay,Zam,Zc9,List.lookup_cons,List.lookup_nil,kOk]
theorem ZIW (h8:P[8]?=some (.lst true [])) (k:Int) (hk:P[0]?=some (.int .i64 k)) {e:Int} (h:Zas k l=.error e):∃ r:Zb,evC FC PR BY 3 Zdg [(1,.ref 2 0),(0,.ref 0 0)] [.var [.ref 1 0],.var (P++[.lst false (l.map Zc)]),.var [.ref 1 0]]=some (.panic (Zy e),[],[.var [.ref 1 0],.var (P++[.lst false (r.map Zc)]),.var [.ref 1 0],.free]):=by
 obtain ⟨r,he⟩:=ZCG P hP hN k hk l hl h
 have hT:=fun (σ:Za) site (hs:σ[1]?=some (.var (P++[.lst false (l.map Zc)])))=>Zct (O:=E) (byref:=BY) (f:=116) (view:=true) (rest:=[]) (by kernel_rfl) rfl (Zw P hP hN _ _) (Zw P hP hN _ _) rfl he hs site
 have a4:=fun L=>(Z5 P hP 8 (by omega) L).trans h8
 refine ⟨r,?_⟩
 simp -implicitDefEqProofs only [EQA,Nat.reduceAdd,Nat.reduceSub,Nat.reduceLT,Nat.reduceLeDiff,Nat.reduceEqDiff,Nat.reduceBEq,reduceCtorEq,decide_true,decide_false,↓reduceIte,List.contains_cons,Zdg,oI,oN,hT,a4,Zhv,Zdj,List.any_cons,List.any_nil,Zaj,Zak,Zav,Zar,Zay,Zam,Zc9,List.lookup_cons,List.lookup_nil]
end
end Go.Proofs.YtmlkhhidifjjfaaDoor
namespace Go.Proofs.YtmlkhhidifjjfaaDoor
set_option maxHeartbeats 8000000
set_option maxRecDepth 10000
section
variable (P:List AVal) (hP:P.length=26) (hN:Zd P=true) (l:Zb) (hl:l.length≤140737488355328)
include hP hN hl
theorem ZvP (xs:List AVal) (hx:xs.length*16+16≤140737488355328) (kk:kOk 1 xs=true) {s r:Zb} (h:Zan l=.ok (s,r)):evC FC PR BY 4 Zdb [(1,.ref 3 0),(0,.ref 0 0)] [.var [.ref 1 0],.var (Zi P 11 2 0 xs.length++[.lst false (l.map Zc)]),.row 0 1 xs,.var [.ref 1 0]]=some (.normal,[],[.var [.ref 1 0],.var (Zi P 11 2 1 (xs.length+1)++[.lst false (r.map Zc)]),.row 1 1 (xs++[.str s]),.var [.ref 1 0],.free]):=by
 have hT:=fun σ site hs hr=>Znl P hP hN 11 (by omega) xs.length 1 xs l hl σ 1 2 0 site (by omega) hs hr h
 have hL:=Zb6 P hP hN 11 (by omega) xs.length 2 0
 have a1:=Z2 _ hL
 have a3:=fun L v=>Zat _ hL 11 12 (by omega) rfl L v
 have hc:(Zi P 11 2 0 xs.length)[11]?=some (.sl 2 0 0 xs.length):=by unfold Zi;rw [List.getElem?_set_self (by omega)]
 have a4:=fun L=>(Z5 _ hL 11 (by omega) L).trans hc
 have hset:(Zi P 11 2 0 xs.length).set 11 (.sl 2 1 0 (xs.length+1))=Zi P 11 2 1 (xs.length+1):=by unfold Zi;rw [List.set_set]
 have k1:kOk 1 [.str s]=true:=rfl
 have tk:xs.take xs.length=xs:=List.take_length
 have lim:(xs.length+1)*16≤140737488355328:=by omega
 have lim2:16*(xs.length+1)≤140737488355328:=by omega
 simp -implicitDefEqProofs only [EQA,Nat.reduceAdd,Nat.reduceLT,Nat.reduceLeDiff,Nat.reduceEqDiff,Nat.reduceBEq,reduceCtorEq,decide_true,Z6,↓reduceIte,List.contains_cons,Zdb,oI,oN,hT,a1,a3,a4,AVal.cells,Zbk,viewAs,ZN,ZL,Zn,List.foldl_cons,List.foldl_nil,Zaj,Zak,Zav,Zar,Zay,Zam,Zc9,List.lookup_cons,List.lookup_nil,k1,lim,hset]
theorem ZCA (xs:List AVal) (hx:xs.length*8+8≤140737488355328) (kk:kOk 1 xs=true) (k:Int) (hk:P[0]?=some (.int .i64 k)) {c:Int} {r:Zb} (h:Zas k l=.ok (c,r)):evC FC PR BY 4 Zdg [(1,.ref 3 0),(0,.ref 0 0)] [.var [.ref 1 0],.var (Zi P 8 2 0 xs.length++[.lst false (l.map Zc)]),.row 0 1 xs,.var [.ref 1 0]]=some (.normal,[],[.var [.ref 1 0],.var (Zi P 8 2 1 (xs.length+1)++[.lst false (r.map Zc)]),.row 1 1 (xs++[.int .i64 c]),.var [.ref 1 0],.free]):=by
 have hk0:(Zi P 8 1 0 xs.length)[0]?=some (.int .i64 k):=by unfold Zi;rw [List.getElem?_set_ne (by omega)];exact hk
 have hT:=fun σ site hs hr=>Zzs P hP hN 8 (by omega) xs.length 1 xs l hl k hk0 σ 1 2 0 site (by omega) hs hr h
 have hL:=Zb6 P hP hN 8 (by omega) xs.length 2 0
 have a1:=Z2 _ hL
 have a3:=fun L v=>Zat _ hL 8 9 (by omega) rfl L v
 have hc:(Zi P 8 2 0 xs.length)[8]?=some (.sl 2 0 0 xs.length):=by unfold Zi;rw [List.getElem?_set_self (by omega)]
 have a4:=fun L=>(Z5 _ hL 8 (by omega) L).trans hc
 have hset:(Zi P 8 2 0 xs.length).set 8 (.sl 2 1 0 (xs.length+1))=Zi P 8 2 1 (xs.length+1):=by unfold Zi;rw [List.set_set]
 have k1:kOk 1 [.int .i64 c]=true:=rfl
 have tk:xs.take xs.length=xs:=List.take_length
 have lim:(xs.length+1)*8≤140737488355328:=by omega
 have lim2:8*(xs.length+1)≤140737488355328:=by omega
 simp -implicitDefEqProofs only [EQA,Nat.reduceAdd,Nat.reduceLT,Nat.reduceLeDiff,Nat.reduceEqDiff,Nat.reduceBEq,reduceCtorEq,decide_true,Z6,↓reduceIte,List.contains_cons,Zdg,oI,oN,hT,a1,a3,a4,AVal.cells,Zbk,viewAs,ZN,ZL,Zn,List.foldl_cons,List.foldl_nil,Zaj,Zak,Zav,Zar,Zay,Zam,Zc9,List.lookup_cons,List.lookup_nil,k1,lim,hset]
end
end Go.Proofs.YtmlkhhidifjjfaaDoor
namespace Go.Proofs.YtmlkhhidifjjfaaDoor
set_option maxHeartbeats 8000000
set_option maxRecDepth 10000
def Zrk (P:List AVal) (f c:Int) (ps:List Zu):List AVal:=((P.set 25 (.bool (f == 1))).set 7 (.int .i64 c)).set 9 (.lst false (ps.map Zo))
section
variable (P:List AVal) (hP:P.length=26) (hN:Zd P=true) (h0:P[0]?=some (.int .i64 2)) (l:Zb) (hl:l.length≤140737488355328)
include hP hN h0 hl
theorem Zwr {e:Int} (h:Zaz 1 l=.error e):∃ cs,Zd cs=true∧E 77 [.ref 0 0] (Zg P l)=some (.pan (Zy e),[.var cs]):=by
 have a4:=fun L=>(Z5 P hP 0 (by omega) L).trans h0
 have hT:=fun σ site hs=>Zfk P hP hN l hl σ 0 site hs (m:=1) rfl (by decide) h
 refine ⟨P++[.lst false (l.map Zc)],Zw P hP hN _ _,?_⟩
 unfold Zg
 rw [Zh (by rfl) Zbb]
 simp -implicitDefEqProofs only [EQA,ZG,Nat.reduceAdd,Nat.reduceLT,Nat.reduceLeDiff,Nat.reduceEqDiff,Nat.reduceBEq,↓reduceIte,Zbe,Za8,oI,oN,a4,hT,Int.reduceBEq]
 exact ZX rfl (Zw P hP hN _ _)
theorem ZMo {f:Int} {r:Zb} (h:Zaz 1 l=.ok (f,r)) (hf:¬f < 2):∃ cs,Zd cs=true∧E 77 [.ref 0 0] (Zg P l)=some (.pan (Zy 129),[.var cs]):=by
 have a4:=fun L=>(Z5 P hP 0 (by omega) L).trans h0
 have hT:=fun σ site hs=>ZcO P hP hN l hl σ 0 site hs (m:=1) rfl h
 have m1:=ZbA
 refine ⟨P++[.lst false (r.map Zc)],Zw P hP hN _ _,?_⟩
 unfold Zg
 rw [Zh (by rfl) Zbb]
 simp -implicitDefEqProofs only [EQA,ZG,Nat.reduceAdd,Nat.reduceLT,Nat.reduceLeDiff,Nat.reduceEqDiff,Nat.reduceBEq,decide_false,↓reduceIte,Zbe,Za8,oI,oN,a4,hT,m1,hf,Int.reduceBEq]
 exact ZX rfl (Zw P hP hN _ _)
theorem ZKt {f:Int} {r:Zb} (h:Zaz 1 l=.ok (f,r)) (hf:f < 2) {e:Int} (hc:Zas 2 r=.error e):∃ cs,Zd cs=true∧E 77 [.ref 0 0] (Zg P l)=some (.pan (Zy e),[.var cs]):=by
 have hr:=Zgr h
 have a1:=Z2 P hP
 have a4:=fun L=>(Z5 P hP 0 (by omega) L).trans h0
 have hT:=fun σ site hs=>ZcO P hP hN l hl σ 0 site hs (m:=1) rfl h
 have m0:=Za9
 have a3:=fun L=>Zat P hP 25 26 (by omega) rfl L (.bool (f == 1))
 have hP1:(P.set 25 (.bool (f == 1))).length=26:=by simp [hP]
 have hN1:Zd (P.set 25 (.bool (f == 1)))=true:=ZP rfl _ hN
 have g0:(P.set 25 (.bool (f == 1)))[0]?=some (.int .i64 2):=by rw [List.getElem?_set_ne (by omega)];exact h0
 generalize P.set 25 (.bool (f == 1))=Q at *
 obtain ⟨cs,hn,he⟩:=Zua Q hP1 hN1 2 g0 r (by omega) hc
 have hC:=fun (σ:Za) site (hs:σ[0]?=some (.var (Q++[.lst false (r.map Zc)])))=>Zct (O:=E) (byref:=BY) (f:=116) (view:=true) (rest:=[]) (by kernel_rfl) rfl (Zw Q hP1 hN1 _ _) hn rfl he hs site
 refine ⟨cs,hn,?_⟩
 unfold Zg
 rw [Zh (by rfl) Zbb]
 simp -implicitDefEqProofs only [EQA,ZG,Nat.reduceAdd,Nat.reduceSub,Nat.reduceLT,Nat.reduceLeDiff,Nat.reduceEqDiff,Nat.reduceBEq,decide_true,decide_false,↓reduceIte,List.contains_cons,Zbe,Za8,oI,oN,a1,a3,a4,hT,hC,m0,hf,Int.reduceBEq,Zhv,Zdj,List.any_cons,List.any_nil,Zaj,Zak,Zav,Zar,Zay,Zam,Zc9,List.lookup_cons,List.lookup_nil]
 exact ZX rfl hn
theorem ZDC {f:Int} {r:Zb} (h:Zaz 1 l=.ok (f,r)) (hf:f < 2) {c:Int} {r2:Zb} (hc:Zas 2 r=.ok (c,r2)) {e:Int} (hp:Zbs 2 r2=.error e):∃ cs,Zd cs=true∧E 77 [.ref 0 0] (Zg P l)=some (.pan (Zy e),[.var cs]):=by
 have hr2:=ZjK hc
 have hr:=Zgr h
 have a1:=Z2 P hP
 have a4:=fun L=>(Z5 P hP 0 (by omega) L).trans h0
 have hT:=fun σ site hs=>ZcO P hP hN l hl σ 0 site hs (m:=1) rfl h
 have m0:=Za9
 have a3:=fun L=>Zat P hP 25 26 (by omega) rfl L (.bool (f == 1))
 have hP1:(P.set 25 (.bool (f == 1))).length=26:=by simp [hP]
 have hN1:Zd (P.set 25 (.bool (f == 1)))=true:=ZP rfl _ hN
 have g0:(P.set 25 (.bool (f == 1)))[0]?=some (.int .i64 2):=by rw [List.getElem?_set_ne (by omega)];exact h0
 generalize P.set 25 (.bool (f == 1))=Q at *
 have hC:=fun σ site hs=>Zi9 Q hP1 hN1 r (by omega) σ 0 site hs 2 g0 hc
 have b1:=Z2 _ hP1
 have b3:=fun L=>Zat _ hP1 7 8 (by omega) rfl L (.int .i64 c)
 have hP2:(Q.set 7 (.int .i64 c)).length=26:=by simp [hP1]
 have hN2:Zd (Q.set 7 (.int .i64 c))=true:=ZP rfl _ hN1
 generalize Q.set 7 (.int .i64 c)=S at *
 have hG:=fun σ site hs=>Zfl S hP2 hN2 r2 (by omega) σ 0 site hs hp
 have c1:=Z2 _ hP2
 refine ⟨S++[.lst false (r2.map Zc)],Zw _ hP2 hN2 _ _,?_⟩
 unfold Zg
 rw [Zh (by rfl) Zbb]
 simp -implicitDefEqProofs only [EQA,ZG,Nat.reduceAdd,Nat.reduceSub,Nat.reduceLT,Nat.reduceLeDiff,Nat.reduceEqDiff,Nat.reduceBEq,decide_true,decide_false,↓reduceIte,List.contains_cons,Zbe,Za8,oI,oN,a1,a3,a4,b1,b3,hT,hC,hG,m0,hf,Int.reduceBEq,Zhv,Zdj,List.any_cons,List.any_nil,Zaj,Zak,Zav,Zar,Zay,Zam,Zc9,List.lookup_cons,List.lookup_nil]
 exact ZX rfl (Zw _ hP2 hN2 _ _)
theorem Zwn {f:Int} {r:Zb} (h:Zaz 1 l=.ok (f,r)) (hf:f < 2) {c:Int} {r2:Zb} (hc:Zas 2 r=.ok (c,r2)) {ps:List Zu} {r3:Zb} (hp:Zbs 2 r2=.ok (ps,r3)) (hu:(Z0 2 r2).2.1≤r2.length):E 77 [.ref 0 0] (Zg P l)=some (if r3.length=0 then .tup [] else .pan (Zy 129),Zg (Zrk P f c ps) r3):=by
 have hr2:=ZjK hc
 have hr:=Zgr h
 have a1:=Z2 P hP
 have a4:=fun L=>(Z5 P hP 0 (by omega) L).trans h0
 have hT:=fun σ site hs=>ZcO P hP hN l hl σ 0 site hs (m:=1) rfl h
 have m0:=Za9
 have a3:=fun L=>Zat P hP 25 26 (by omega) rfl L (.bool (f == 1))
 have hP1:(P.set 25 (.bool (f == 1))).length=26:=by simp [hP]
 have hN1:Zd (P.set 25 (.bool (f == 1)))=true:=ZP rfl _ hN
 have g0:(P.set 25 (.bool (f == 1)))[0]?=some (.int .i64 2):=by rw [List.getElem?_set_ne (by omega)];exact h0
 unfold Zrk
 generalize P.set 25 (.bool (f == 1))=Q at *
 have hC:=fun σ site hs=>Zi9 Q hP1 hN1 r (by omega) σ 0 site hs 2 g0 hc
 have b1:=Z2 _ hP1
 have b3:=fun L=>Zat _ hP1 7 8 (by omega) rfl L (.int .i64 c)
 have hP2:(Q.set 7 (.int .i64 c)).length=26:=by simp [hP1]
 have hN2:Zd (Q.set 7 (.int .i64 c))=true:=ZP rfl _ hN1
 generalize Q.set 7 (.int .i64 c)=S at *
 have hG:=fun σ site hs=>ZdY S hP2 hN2 r2 (by omega) σ 0 site hs hu hp
 have c1:=Z2 _ hP2
 have c3:=fun L=>Zat _ hP2 9 10 (by omega) rfl L (.lst false (ps.map Zo))
 have hP3:(S.set 9 (.lst false (ps.map Zo))).length=26:=by simp [hP2]
 have hN3:Zd (S.set 9 (.lst false (ps.map Zo)))=true:=ZP (Zb9 _ _) _ hN2
 generalize S.set 9 (.lst false (ps.map Zo))=U at *
 have d2:=Zao _ hP3
 unfold Zg
 by_cases hr3:r3.length=0
 ·have z:=ZeE (l:=r3) (decide_eq_true hr3)
  rw [if_pos hr3]
  rw [Zh (by rfl) Zbb]
  simp -implicitDefEqProofs only [EQA,ZG,Zs,Nat.reduceAdd,Nat.reduceLT,Nat.reduceLeDiff,Nat.reduceEqDiff,Nat.reduceBEq,decide_true,↓reduceIte,Zd,List.contains_cons,Zbe,Za8,Zek,oI,oN,a1,a3,a4,b1,b3,c1,c3,d2,z,hT,hC,hG,m0,hf,Int.reduceBEq,Zaj,Zak,Zav,Zar,Zay,Zam,List.lookup_cons,List.lookup_nil]
  exact ZX rfl (Zw _ hP3 hN3 _ _)
 ·have z:=ZeE (l:=r3) (decide_eq_false hr3)
  have m1:=ZbA
  rw [if_neg hr3]
  rw [Zh (by rfl) Zbb]
  simp -implicitDefEqProofs only [EQA,ZG,Nat.reduceAdd,Nat.reduceLT,Nat.reduceLeDiff,Nat.reduceEqDiff,Nat.reduceBEq,decide_true,↓reduceIte,List.contains_cons,Zbe,Za8,oI,oN,a1,a3,a4,b1,b3,c1,c3,d2,z,hT,hC,hG,m0,m1,hf,Int.reduceBEq,Zaj,Zak,Zav,Zar,Zay,Zam,List.lookup_cons,List.lookup_nil]
  exact ZX rfl (Zw _ hP3 hN3 _ _)
end
end Go.Proofs.YtmlkhhidifjjfaaDoor
namespace Go.Proofs.YtmlkhhidifjjfaaDoor
set_option maxHeartbeats 4000000
theorem ZD7 {O:ZR} {byref:Nat→Bool} {σ:Za} {t f own:Nat} {rest:List AVal} {cs cs':List AVal} {r r':AVal} (hb:byref f=false) (hp:rest.all Z4=true) (hc:Zd cs=true) (hc':Zd cs'=true) (hn:ZK r'=true) (hv:viewR [.var cs'] r=some (r',[]))
  (h:O f (.ref 0 0::rest.map ZH) [.var cs]=some (r,[.var cs'])) (hs:σ[t]?=some (.var cs)) (site:Nat) (hff:Za1 σ site own=true):Zj O byref σ site f own true (.ref t 0::rest)=some (r',σ.set t (.var cs'),{ any:=true,upd:=[(t,cs')] }):=by
 have htl:t < σ.length:=by
  rcases Nat.lt_or_ge t σ.length with h | h
  ·exact h
  ·rw [List.getElem?_eq_none h] at hs;cases hs
 have hup:Za7 (σ.set t (.var cs')) [t]=[(t,cs')]:=by
  simp only [Za7,List.getElem?_set,if_pos htl,if_true]
 have hd:σ.getD t .free=.var cs:=by simp [List.getD_eq_getElem?_getD,hs]
 have hf0:Zn σ []=σ:=rfl
 have hsh:showAs σ (.ref t 0::rest)=some (.ref t 0::rest.map ZH,[]):=by
  rw [showAs,show showA σ (.ref t 0)=some (.ref t 0,[]) from rfl,Zd8 hp]
  rfl
 have href:Zr (.ref t 0::rest.map ZH)=[t]:=by
  rw [Zr,Zdn hp];rfl
 unfold Zj ZbU
 rw [hb]
 simp only [Bool.false_eq_true,if_false,hsh,hf0,href,Zfa hs hc]
 unfold ZbC
 have hall:([t].all fun t=>okB (σ.getD t .free))=true:=by simp [List.all_cons,List.all_nil,hs,okB]
 rw [if_pos hall]
 have hρ:Zl σ 0 [t] t 0=some (0,0):=by simp [Zl,Z1,hs,Zp,ZU]
 have hheap:Zx σ 0 [t] (Zl σ 0 [t]) [t] 0=[.var cs]:=by
  simp only [Zx,hd,ZJ,(ZaT _ cs hc).1]
 have hargs:Ze (Zl σ 0 [t]) (.ref t 0::rest.map ZH)=.ref 0 0::rest.map ZH:=by
  rw [Ze,Zde hp]
  simp only [Zk,hρ]
 rw [hargs,hheap,h]
 have hask:Zae true [t].length (some (r,[.var cs']))=some (r',[.var cs']):=by
  unfold Zae
  rw [if_pos rfl]
  have hnp:∀ x,r≠.pan x:=by rintro x rfl;simp [viewR,ZN,ZL] at hv
  rw [show ZbI [t].length (some (r,[.var cs']))=(match viewR [.var cs'] r with
   | some (r',ts)=>match gcA [t].length [r'] (Zn [.var cs'] ts) with
    | ([r''],σ')=>some (r'',σ')
    | _=>none
   | none=>none) from by cases r <;> first | rfl | exact absurd rfl (hnp _)]
  rw [hv]
  simp only [List.length_cons,List.length_nil,Nat.zero_add,show Zn [ZM.var cs'] []=[.var cs'] from rfl,Zkx hn hc']
 rw [hask]
 have hk:ZaZ σ [t] [.var cs'] 0=true:=by
  simp [ZaZ,okB,hs,Zce,Zp]
 simp only [ZaG,List.isEmpty_cons,Bool.false_eq_true,if_false,List.length_cons,List.length_nil,Nat.zero_add,Nat.le_add_right,Nat.le_refl,decide_true,hk,hff,Bool.and_self,if_true,Za5,ZaK,List.getD_cons_zero,ZJ,(Za4 _ r' hn).1,(ZaT _ cs' hc').1,hup]
theorem ZFc {O:ZR} {byref:Nat→Bool} {σ:Za} {t f own:Nat} {rest:List AVal} {cs cs':List AVal} {x:AVal} {view:Bool} (hb:byref f=false) (hp:rest.all Z4=true) (hc:Zd cs=true) (hc':Zd cs'=true) (hn:ZK x=true)
  (h:O f (.ref 0 0::rest.map ZH) [.var cs]=some (.pan x,[.var cs'])) (hs:σ[t]?=some (.var cs)) (site:Nat) (hff:Za1 σ site own=true):Zj O byref σ site f own view (.ref t 0::rest)=some (.pan x,σ.set t (.var cs'),{ any:=true,upd:=[(t,cs')] }):=by
 have htl:t < σ.length:=by
  rcases Nat.lt_or_ge t σ.length with h | h
  ·exact h
  ·rw [List.getElem?_eq_none h] at hs;cases hs
 have hup:Za7 (σ.set t (.var cs')) [t]=[(t,cs')]:=by
  simp only [Za7,List.getElem?_set,if_pos htl,if_true]
 have hd:σ.getD t .free=.var cs:=by simp [List.getD_eq_getElem?_getD,hs]
 have hf0:Zn σ []=σ:=rfl
 have hsh:showAs σ (.ref t 0::rest)=some (.ref t 0::rest.map ZH,[]):=by
  rw [showAs,show showA σ (.ref t 0)=some (.ref t 0,[]) from rfl,Zd8 hp]
  rfl
 have href:Zr (.ref t 0::rest.map ZH)=[t]:=by
  rw [Zr,Zdn hp];rfl
 unfold Zj ZbU
 rw [hb]
 simp only [Bool.false_eq_true,if_false,hsh,hf0,href,Zfa hs hc]
 unfold ZbC
 have hall:([t].all fun t=>okB (σ.getD t .free))=true:=by simp [List.all_cons,List.all_nil,hs,okB]
 rw [if_pos hall]
 have hρ:Zl σ 0 [t] t 0=some (0,0):=by simp [Zl,Z1,hs,Zp,ZU]
 have hheap:Zx σ 0 [t] (Zl σ 0 [t]) [t] 0=[.var cs]:=by
  simp only [Zx,hd,ZJ,(ZaT _ cs hc).1]
 have hargs:Ze (Zl σ 0 [t]) (.ref t 0::rest.map ZH)=.ref 0 0::rest.map ZH:=by
  rw [Ze,Zde hp]
  simp only [Zk,hρ]
 rw [hargs,hheap,h]
 have hask:Zae view [t].length (some (.pan x,[.var cs']))=some (.pan x,[.var cs']):=by
  unfold Zae
  split <;> rfl
 rw [hask]
 have hk:ZaZ σ [t] [.var cs'] 0=true:=by
  simp [ZaZ,okB,hs,Zce,Zp]
 have hnp:ZK (.pan x)=true:=by simpa only [ZK] using hn
 simp only [ZaG,List.isEmpty_cons,Bool.false_eq_true,if_false,List.length_cons,List.length_nil,Nat.zero_add,Nat.le_add_right,Nat.le_refl,decide_true,hk,hff,Bool.and_self,if_true,Za5,ZaK,List.getD_cons_zero,ZJ,(Za4 _ _ hnp).1,(ZaT _ cs' hc').1,hup]
theorem ZcS {O:ZR} {byref:Nat→Bool} {σ:Za} {site f own:Nat} {view:Bool} {args vs vs':List AVal} {ids:List Nat} {h0 h:Za} {r0 r:AVal} (hb:byref f=false) (hsh:showAs σ args=some (vs,[])) (hre:ZA σ 1000 (Zr vs) []=ids) (hne:ids.isEmpty=false)
  (hall:(ids.all fun t=>okB (σ.getD t .free))=true) (hvs:Ze (Zl σ 0 ids) vs=vs') (hh:Zx σ 0 ids (Zl σ 0 ids) ids 0=h0) {hh0:Za} (hO:O f vs' h0=some (r0,hh0)) (hv:Zae view ids.length (some (r0,hh0))=some (r,h))
  (hl1:h.length≤ids.length+own) (hl2:ids.length≤h.length) (hk:ZaZ σ ids h 0=true) (hff:Za1 σ site own=true) {r':AVal} (hr:Zk (ZaB σ ids site) r=r') {σ':Za} (hlay:Za5 σ ids site h 0 σ=σ') {u:List (Nat×List AVal)} (hu:Za7 σ' ids=u) :
  Zj O byref σ site f own view args=some (r',σ',{ any:=true,upd:=u }):=by
 subst hr hlay hu
 unfold Zj ZbU
 rw [hb]
 simp only [Bool.false_eq_true,if_false,hsh,show Zn σ []=σ from rfl,hre]
 unfold ZbC
 rw [if_pos hall,hvs,hh,hO,hv]
 simp only [ZaG,hne,Bool.false_and,Bool.false_eq_true,if_false,hl1,hl2,decide_true,hk,hff,Bool.and_self,if_true]
end Go.Proofs.YtmlkhhidifjjfaaDoor
namespace Go.Proofs.YtmlkhhidifjjfaaDoor
set_option maxHeartbeats 8000000
set_option maxRecDepth 10000
section
variable (P:List AVal) (hP:P.length=26) (hN:Zd P=true) (l:Zb) (hl:l.length≤140737488355328)
include hP hN hl
theorem ZAP (xs:List AVal) {c:Int} (h:Zan l=.error c):evC FC PR BY 4 Zdb [(1,.ref 3 0),(0,.ref 0 0)] [.var [.ref 1 0],.var (Zi P 11 2 0 xs.length++[.lst false (l.map Zc)]),.row 0 1 xs,.var [.ref 1 0]]=some (.panic (Zy c),[],[.var [.ref 1 0],.var (Zi P 11 2 0 xs.length++[.lst false (l.map Zc)]),.row 0 1 xs,.var [.ref 1 0],.free]):=by
 have hT:=fun σ site hs hr=>Zp9 P hP hN 11 (by omega) xs.length 1 xs l hl σ 1 2 0 site (by omega) hs hr h
 have hL:=Zb6 P hP hN 11 (by omega) xs.length 2 0
 have hc:(Zi P 11 2 0 xs.length)[11]?=some (.sl 2 0 0 xs.length):=by unfold Zi;rw [List.getElem?_set_self (by omega)]
 have a4:=fun L=>(Z5 _ hL 11 (by omega) L).trans hc
 simp -implicitDefEqProofs only [EQA,Nat.reduceAdd,Nat.reduceSub,Nat.reduceLT,Nat.reduceLeDiff,Nat.reduceEqDiff,Nat.reduceBEq,reduceCtorEq,decide_true,decide_false,↓reduceIte,List.contains_cons,Zdb,oI,oN,hT,a4,Zhv,Zdj,List.any_cons,List.any_nil,Zaj,Zak,Zav,Zar,Zay,Zam,Zc9,List.lookup_cons,List.lookup_nil]
theorem Zza (xs:List AVal) (k:Int) (hk:P[0]?=some (.int .i64 k)) {e:Int} (h:Zas k l=.error e):∃ r:Zb,evC FC PR BY 4 Zdg [(1,.ref 3 0),(0,.ref 0 0)] [.var [.ref 1 0],.var (Zi P 8 2 0 xs.length++[.lst false (l.map Zc)]),.row 0 1 xs,.var [.ref 1 0]]=some (.panic (Zy e),[],[.var [.ref 1 0],.var (Zi P 8 2 0 xs.length++[.lst false (r.map Zc)]),.row 0 1 xs,.var [.ref 1 0],.free]):=by
 have hk0:(Zi P 8 1 0 xs.length)[0]?=some (.int .i64 k):=by unfold Zi;rw [List.getElem?_set_ne (by omega)];exact hk
 have hT0:=fun (σ:Za) site (hs:σ[1]?=some (.var (Zi P 8 2 0 xs.length++[.lst false (l.map Zc)]))) (hr:σ[2]?=some (.row 0 1 xs))=>ZJn P hP hN 8 (by omega) xs.length 1 xs l hl k hk0 σ 1 2 0 site (by omega) hs hr h
 have hL:=Zb6 P hP hN 8 (by omega) xs.length 2 0
 have hc:(Zi P 8 2 0 xs.length)[8]?=some (.sl 2 0 0 xs.length):=by unfold Zi;rw [List.getElem?_set_self (by omega)]
 have a4:=fun L=>(Z5 _ hL 8 (by omega) L).trans hc
 obtain ⟨r,hT⟩:=hT0 [.var [.ref 1 0],.var (Zi P 8 2 0 xs.length++[.lst false (l.map Zc)]),.row 0 1 xs,.var [.ref 1 0],.free] 4 rfl rfl
 refine ⟨r,?_⟩
 simp -implicitDefEqProofs only [EQA,Nat.reduceAdd,Nat.reduceSub,Nat.reduceLT,Nat.reduceLeDiff,Nat.reduceEqDiff,Nat.reduceBEq,reduceCtorEq,decide_true,decide_false,↓reduceIte,List.contains_cons,Zdg,oI,oN,hT,a4,Zhv,Zdj,List.any_cons,List.any_nil,Zaj,Zak,Zav,Zar,Zay,Zam,Zc9,List.lookup_cons,List.lookup_nil]
end
section
variable {cs:List AVal} {r:AVal} {σ:Za}
theorem ZsE (hr:ZK r=true) (hc:Zd cs=true):Zal 3 (.var [.ref 1 0]::.var cs::.var [.ref 1 0]::σ) r=some (r,[.var [.ref 1 0],.var cs,.var [.ref 1 0]]):=by
 have e1:=fun ρ=>Za4 ρ r hr
 have e2:=fun ρ=>ZaT ρ cs hc
 have hi:ZE 3 [r] (.var [.ref 1 0]::.var cs::.var [.ref 1 0]::σ)=[0,1,2]:=by
  have : Zr [r]=[]:=by simp only [Zr,(e1 (fun _ _=>none)).2,List.append_nil]
  have hR:List.range 3=[0,1,2]:=rfl
  simp only [ZE,this,List.nil_append,hR,List.flatMap_cons,List.flatMap_nil,List.append_nil,List.getD_cons_zero,List.getD_cons_succ,ZQ,(e2 (fun _ _=>none)).2]
  rfl
 have hρ:Zl (.var [.ref 1 0]::.var cs::.var [.ref 1 0]::σ) 3 [0,1,2] 1 0=some (1,0):=rfl
 simp only [Zal,gcA,hi,Ze,(e1 _).1,Zx,List.getD_cons_zero,List.getD_cons_succ,ZJ,Zk,hρ,(e2 _).1]
theorem ZuG {w:Nat} {xs:List AVal} (hr:ZK r=true) (hc:Zr cs=[3]) (hren:∀ ρ:Rho,ρ 3 0=some (3,0)→Ze ρ cs=cs):Zal 3 (.var [.ref 1 0]::.var cs::.var [.ref 1 0]::.row 0 w xs::σ) r=some (r,[.var [.ref 1 0],.var cs,.var [.ref 1 0],.row 0 w xs]):=by
 have e1:=fun ρ=>Za4 ρ r hr
 have hi:ZE 3 [r] (.var [.ref 1 0]::.var cs::.var [.ref 1 0]::.row 0 w xs::σ)=[0,1,2,3]:=by
  have : Zr [r]=[]:=by simp only [Zr,(e1 (fun _ _=>none)).2,List.append_nil]
  have hR:List.range 3=[0,1,2]:=rfl
  simp only [ZE,this,List.nil_append,hR,List.flatMap_cons,List.flatMap_nil,List.append_nil,List.getD_cons_zero,List.getD_cons_succ,ZQ,hc]
  rfl
 have hρ:Zl (.var [.ref 1 0]::.var cs::.var [.ref 1 0]::.row 0 w xs::σ) 3 [0,1,2,3] 1 0=some (1,0):=rfl
 have hρ3:Zl (.var [.ref 1 0]::.var cs::.var [.ref 1 0]::.row 0 w xs::σ) 3 [0,1,2,3] 3 0=some (3,0):=rfl
 simp only [Zal,gcA,hi,Ze,(e1 _).1,Zx,List.getD_cons_zero,List.getD_cons_succ,ZU,Zp,ZJ,Zk,hρ,hren _ hρ3]
 rfl
theorem Zkd {w g:Nat} {xs:List AVal} (hr:ZK r=true) (hg:g≤1) (hc:Zr cs=[2]) (hren:∀ ρ:Rho,ρ 2 g=some (2,g)→Ze ρ cs=cs):Zal 4 (.var [.ref 1 0]::.var cs::.row g w xs::.var [.ref 1 0]::σ) r=some (r,[.var [.ref 1 0],.var cs,.row g w xs,.var [.ref 1 0]]):=by
 have e1:=fun ρ=>Za4 ρ r hr
 have hi:ZE 4 [r] (.var [.ref 1 0]::.var cs::.row g w xs::.var [.ref 1 0]::σ)=[0,1,2,3]:=by
  have : Zr [r]=[]:=by simp only [Zr,(e1 (fun _ _=>none)).2,List.append_nil]
  have hR:List.range 4=[0,1,2,3]:=rfl
  simp only [ZE,this,List.nil_append,hR,List.flatMap_cons,List.flatMap_nil,List.append_nil,List.getD_cons_zero,List.getD_cons_succ,ZQ,hc]
  rfl
 have hng:(if g=0 then 0 else 1)=g:=by split <;> omega
 have hρ:Zl (.var [.ref 1 0]::.var cs::.row g w xs::.var [.ref 1 0]::σ) 4 [0,1,2,3] 1 0=some (1,0):=rfl
 have hρ3:Zl (.var [.ref 1 0]::.var cs::.row g w xs::.var [.ref 1 0]::σ) 4 [0,1,2,3] 2 g=some (2,g):=by
  simp only [Zl,Z1,Zp,ZU,List.getElem?_cons_succ,List.getElem?_cons_zero]
  simp [hng]
 simp only [Zal,gcA,hi,Ze,(e1 _).1,Zx,List.getD_cons_zero,List.getD_cons_succ,ZU,Zp,ZJ,Zk,hρ,hren _ hρ3]
 simp [hng]
end
section
variable (P:List AVal) (hP:P.length=26) (hN:Zd P=true) (l:Zb) (hl:l.length≤140737488355328)
include hP hN hl
theorem ZhD (k:Nat) (hk:k < 26) (r g n:Nat) (L:Zb):Zr (Zi P k r g n++[.lst false (L.map Zc)])=[r]:=by
 rw [Zcu,Zi,Zh4 hN (by omega)];rfl
theorem Zg7 (k r g n r' g':Nat) (L:Zb) (ρ:Rho) (h:ρ r g=some (r',g')):Ze ρ (Zi P k r g n++[.lst false (L.map Zc)])=Zi P k r' g' n++[.lst false (L.map Zc)]:=by
 rw [ZbS,Zi,Zic ρ hN,Zi]
 simp only [Zk,h,Ze]
theorem ZyU (h11:P[11]?=some (.lst true [])) {s r:Zb} (h:Zan l=.ok (s,r)):E 123 [.ref 0 0,.ref 2 0] [.var [.ref 1 0],.var (P++[.lst false (l.map Zc)]),.var [.ref 1 0]]=some (.tup [],[.var [.ref 1 0],.var (Zi P 11 3 0 1++[.lst false (r.map Zc)]),.var [.ref 1 0],.row 0 1 [.str s]]):=by
 rw [Zh (by rfl) Zk4]
 have:=Zvk P hP hN l hl h11 h
 have h2:=ZuG (σ:=[]) (w:=1) (xs:=[.str s]) (r:=.tup []) rfl (ZhD P hP hN l hl 11 (by omega) 3 0 1 r) (fun ρ hρ=>Zg7 P hP hN l hl 11 3 0 1 3 0 r ρ hρ)
 show Zap 3 _ (evC FC PR BY 3 Zdb [(1,.ref 2 0),(0,.ref 0 0)] _)=_
 rw [this]
 exact h2
theorem Zwo {c:Int} (h:Zan l=.error c) (h11:P[11]?=some (.lst true [])):E 123 [.ref 0 0,.ref 2 0] [.var [.ref 1 0],.var (P++[.lst false (l.map Zc)]),.var [.ref 1 0]]=some (.pan (Zy c),[.var [.ref 1 0],.var (P++[.lst false (l.map Zc)]),.var [.ref 1 0]]):=by
 rw [Zh (by rfl) Zk4]
 have:=ZMh P hP hN l hl h h11
 have h2:=ZsE (σ:=[.free]) (r:=.pan (Zy c)) rfl (Zw P hP hN false (l.map Zc))
 show Zap 3 _ (evC FC PR BY 3 Zdb [(1,.ref 2 0),(0,.ref 0 0)] _)=_
 rw [this]
 exact h2
theorem ZM5 (h8:P[8]?=some (.lst true [])) (k:Int) (hk:P[0]?=some (.int .i64 k)) {c:Int} {r:Zb} (h:Zas k l=.ok (c,r)):E 125 [.ref 0 0,.ref 2 0] [.var [.ref 1 0],.var (P++[.lst false (l.map Zc)]),.var [.ref 1 0]]=some (.tup [],[.var [.ref 1 0],.var (Zi P 8 3 0 1++[.lst false (r.map Zc)]),.var [.ref 1 0],.row 0 1 [.int .i64 c]]):=by
 rw [Zh (by rfl) Zkj]
 have:=ZDf P hP hN l hl h8 k hk h
 have h2:=ZuG (σ:=[]) (w:=1) (xs:=[.int .i64 c]) (r:=.tup []) rfl (ZhD P hP hN l hl 8 (by omega) 3 0 1 r) (fun ρ hρ=>Zg7 P hP hN l hl 8 3 0 1 3 0 r ρ hρ)
 show Zap 3 _ (evC FC PR BY 3 Zdg [(1,.ref 2 0),(0,.ref 0 0)] _)=_
 rw [this]
 exact h2
theorem Zzv (h8:P[8]?=some (.lst true [])) (k:Int) (hk:P[0]?=some (.int .i64 k)) {e:Int} (h:Zas k l=.error e):∃ r:Zb,E 125 [.ref 0 0,.ref 2 0] [.var [.ref 1 0],.var (P++[.lst false (l.map Zc)]),.var [.ref 1 0]]=some (.pan (Zy e),[.var [.ref 1 0],.var (P++[.lst false (r.map Zc)]),.var [.ref 1 0]]):=by
 obtain ⟨r,this⟩:=ZIW P hP hN l hl h8 k hk h
 have h2:=ZsE (σ:=[.free]) (r:=.pan (Zy e)) rfl (Zw P hP hN false (r.map Zc))
 refine ⟨r,?_⟩
 rw [Zh (by rfl) Zkj]
 show Zap 3 _ (evC FC PR BY 3 Zdg [(1,.ref 2 0),(0,.ref 0 0)] _)=_
 rw [this]
 exact h2
variable (xs:List AVal)
theorem ZGk (hx:xs.length*16+16≤140737488355328) (kk:kOk 1 xs=true) {s r:Zb} (h:Zan l=.ok (s,r)):E 123 [.ref 0 0,.ref 3 0] [.var [.ref 1 0],.var (Zi P 11 2 0 xs.length++[.lst false (l.map Zc)]),.row 0 1 xs,.var [.ref 1 0]]=some (.tup [],[.var [.ref 1 0],.var (Zi P 11 2 1 (xs.length+1)++[.lst false (r.map Zc)]),.row 1 1 (xs++[.str s]),.var [.ref 1 0]]):=by
 rw [Zh (by rfl) Zk4]
 have:=ZvP P hP hN l hl xs hx kk h
 have h2:=Zkd (σ:=[.free]) (w:=1) (g:=1) (xs:=xs++[.str s]) (r:=.tup []) rfl (by omega) (ZhD P hP hN l hl 11 (by omega) 2 1 (xs.length+1) r) (fun ρ hρ=>Zg7 P hP hN l hl 11 2 1 (xs.length+1) 2 1 r ρ hρ)
 show Zap 4 _ (evC FC PR BY 4 Zdb [(1,.ref 3 0),(0,.ref 0 0)] _)=_
 rw [this]
 exact h2
theorem ZFi {c:Int} (h:Zan l=.error c):E 123 [.ref 0 0,.ref 3 0] [.var [.ref 1 0],.var (Zi P 11 2 0 xs.length++[.lst false (l.map Zc)]),.row 0 1 xs,.var [.ref 1 0]]=some (.pan (Zy c),[.var [.ref 1 0],.var (Zi P 11 2 0 xs.length++[.lst false (l.map Zc)]),.row 0 1 xs,.var [.ref 1 0]]):=by
 rw [Zh (by rfl) Zk4]
 have:=ZAP P hP hN l hl xs h
 have h2:=Zkd (σ:=[.free]) (w:=1) (g:=0) (xs:=xs) (r:=.pan (Zy c)) rfl (by omega) (ZhD P hP hN l hl 11 (by omega) 2 0 xs.length l) (fun ρ hρ=>Zg7 P hP hN l hl 11 2 0 xs.length 2 0 l ρ hρ)
 show Zap 4 _ (evC FC PR BY 4 Zdb [(1,.ref 3 0),(0,.ref 0 0)] _)=_
 rw [this]
 exact h2
theorem ZEp (hx:xs.length*8+8≤140737488355328) (kk:kOk 1 xs=true) (k:Int) (hk:P[0]?=some (.int .i64 k)) {c:Int} {r:Zb} (h:Zas k l=.ok (c,r)):E 125 [.ref 0 0,.ref 3 0] [.var [.ref 1 0],.var (Zi P 8 2 0 xs.length++[.lst false (l.map Zc)]),.row 0 1 xs,.var [.ref 1 0]]=some (.tup [],[.var [.ref 1 0],.var (Zi P 8 2 1 (xs.length+1)++[.lst false (r.map Zc)]),.row 1 1 (xs++[.int .i64 c]),.var [.ref 1 0]]):=by
 rw [Zh (by rfl) Zkj]
 have:=ZCA P hP hN l hl xs hx kk k hk h
 have h2:=Zkd (σ:=[.free]) (w:=1) (g:=1) (xs:=xs++[.int .i64 c]) (r:=.tup []) rfl (by omega) (ZhD P hP hN l hl 8 (by omega) 2 1 (xs.length+1) r) (fun ρ hρ=>Zg7 P hP hN l hl 8 2 1 (xs.length+1) 2 1 r ρ hρ)
 show Zap 4 _ (evC FC PR BY 4 Zdg [(1,.ref 3 0),(0,.ref 0 0)] _)=_
 rw [this]
 exact h2
theorem ZC0 (k:Int) (hk:P[0]?=some (.int .i64 k)) {e:Int} (h:Zas k l=.error e):∃ r:Zb,E 125 [.ref 0 0,.ref 3 0] [.var [.ref 1 0],.var (Zi P 8 2 0 xs.length++[.lst false (l.map Zc)]),.row 0 1 xs,.var [.ref 1 0]]=some (.pan (Zy e),[.var [.ref 1 0],.var (Zi P 8 2 0 xs.length++[.lst false (r.map Zc)]),.row 0 1 xs,.var [.ref 1 0]]):=by
 obtain ⟨r,this⟩:=Zza P hP hN l hl xs k hk h
 have h2:=Zkd (σ:=[.free]) (w:=1) (g:=0) (xs:=xs) (r:=.pan (Zy e)) rfl (by omega) (ZhD P hP hN l hl 8 (by omega) 2 0 xs.length r) (fun ρ hρ=>Zg7 P hP hN l hl 8 2 0 xs.length 2 0 r ρ hρ)
 refine ⟨r,?_⟩
 rw [Zh (by rfl) Zkj]
 show Zap 4 _ (evC FC PR BY 4 Zdg [(1,.ref 3 0),(0,.ref 0 0)] _)=_
 rw [this]
 exact h2
end
end Go.Proofs.YtmlkhhidifjjfaaDoor
namespace Go.Proofs.YtmlkhhidifjjfaaDoor
set_option maxHeartbeats 8000000
set_option maxRecDepth 10000
def ZaD {α:Type} (one:Zb→RK α):Nat→Zb→Except Int (List α)
 | 0,l=>if l.length=0 then .ok [] else .error 0
 | n+1,l=>if l.length=0 then .ok [] else match one l with
  | .error e=>.error e
  | .ok (a,r)=>match ZaD one n r with
   | .error e=>.error e
   | .ok t=>.ok (a::t)
section
variable {O:ZR} {byref:Nat→Bool} {f:Nat} {cs cs1 cs2 cs3 xs xs2:List AVal} {w w2 g2:Nat} {q:AVal} {σ:Za} {site:Nat}
theorem Ztn (h0:σ[0]?=some (.var cs)) (h1:σ[1]?=some (.var [.ref 0 0])) (h2:σ[2]?=some (.var [.ref 0 0])) (hc:Zr cs=[]):ZA σ 1000 [1,2] []=[1,0,2]:=by
 have d0:σ.getD 0 .free=.var cs:=by simp [List.getD_eq_getElem?_getD,h0]
 have d1:σ.getD 1 .free=.var [.ref 0 0]:=by simp [List.getD_eq_getElem?_getD,h1]
 have d2:σ.getD 2 .free=.var [.ref 0 0]:=by simp [List.getD_eq_getElem?_getD,h2]
 rw [show (1000:Nat)=995+1+1+1+1+1 from rfl]
 simp only [ZA,d0,d1,d2,ZQ,Zr,ZZ,hc,List.contains_cons,List.contains_nil,List.append_nil,List.nil_append,List.cons_append,Bool.or_false,Bool.false_eq_true,if_false]
 simp
theorem ZE1 (h0:σ[0]?=some (.var cs)) (h1:σ[1]?=some (.var [.ref 0 0])) (h2:σ[2]?=some (.var [.ref 0 0])) (h3:σ[3]?=some (.row 0 w xs)) (hc:Zr cs=[3]):ZA σ 1000 [1,2] []=[1,0,3,2]:=by
 have d0:σ.getD 0 .free=.var cs:=by simp [List.getD_eq_getElem?_getD,h0]
 have d1:σ.getD 1 .free=.var [.ref 0 0]:=by simp [List.getD_eq_getElem?_getD,h1]
 have d2:σ.getD 2 .free=.var [.ref 0 0]:=by simp [List.getD_eq_getElem?_getD,h2]
 have d3:σ.getD 3 .free=.row 0 w xs:=by simp [List.getD_eq_getElem?_getD,h3]
 rw [show (1000:Nat)=994+1+1+1+1+1+1 from rfl]
 simp only [ZA,d0,d1,d2,d3,ZQ,Zr,ZZ,hc,List.contains_cons,List.contains_nil,List.append_nil,List.nil_append,List.cons_append,Bool.or_false,Bool.false_eq_true,if_false]
 simp
theorem ZDM (hb:byref f=false) (hc:Zd cs=true) (hq:ZK q=true) (hback:∀ ρ:Rho,ρ 3 0=some (3,0)→Ze ρ cs2=cs3) (hO:O f [.ref 0 0,.ref 2 0] [.var [.ref 1 0],.var cs,.var [.ref 1 0]]=some (q,[.var [.ref 1 0],.var cs2,.var [.ref 1 0],.row 0 w xs])) :
  Zj O byref [.var cs,.var [.ref 0 0],.var [.ref 0 0],.free,.free,.free,.free] 3 f 4 false [.ref 1 0,.ref 2 0]=some (q,[.var cs3,.var [.ref 0 0],.var [.ref 0 0],.row 0 w xs,.free,.free,.free],{ any:=true,upd:=[(1,[.ref 0 0]),(0,cs3),(2,[.ref 0 0])] }):=by
 have ec:=fun ρ=>ZaT ρ cs hc
 refine ZcS (ids:=[1,0,2]) (vs:=[.ref 1 0,.ref 2 0]) hb rfl (Ztn rfl rfl rfl (ec (fun _ _=>none)).2) rfl rfl rfl ?_ hO rfl (by simp) (by simp) rfl rfl (Za4 _ q hq).1 ?_ rfl
 ·show [ZM.var (Ze _ [.ref 0 0]),.var (Ze _ cs),.var (Ze _ [.ref 0 0])]=_
  rw [(ec _).1];rfl
 ·have hb3:=hback (ZaB [.var cs,.var [.ref 0 0],.var [.ref 0 0],.free,.free,.free,.free] [1,0,2] 3) rfl
  show [ZM.var (Ze _ cs2),.var (Ze _ [.ref 1 0]),.var (Ze _ [.ref 1 0]),.row 0 w xs,.free,.free,.free]=_
  rw [hb3];rfl
theorem ZI5 (hb:byref f=false) (hc:Zd cs=true) (hq:ZK q=true) (hc2:Zd cs2=true) (hO:O f [.ref 0 0,.ref 2 0] [.var [.ref 1 0],.var cs,.var [.ref 1 0]]=some (q,[.var [.ref 1 0],.var cs2,.var [.ref 1 0]])) :
  Zj O byref [.var cs,.var [.ref 0 0],.var [.ref 0 0],.free,.free,.free,.free] 3 f 4 false [.ref 1 0,.ref 2 0]=some (q,[.var cs2,.var [.ref 0 0],.var [.ref 0 0],.free,.free,.free,.free],{ any:=true,upd:=[(1,[.ref 0 0]),(0,cs2),(2,[.ref 0 0])] }):=by
 have ec:=fun ρ=>ZaT ρ cs hc
 refine ZcS (ids:=[1,0,2]) (vs:=[.ref 1 0,.ref 2 0]) hb rfl (Ztn rfl rfl rfl (ec (fun _ _=>none)).2) rfl rfl rfl ?_ hO rfl (by simp) (by simp) rfl rfl (Za4 _ q hq).1 ?_ rfl
 ·show [ZM.var (Ze _ [.ref 0 0]),.var (Ze _ cs),.var (Ze _ [.ref 0 0])]=_
  rw [(ec _).1];rfl
 ·show [ZM.var (Ze _ cs2),.var (Ze _ [.ref 1 0]),.var (Ze _ [.ref 1 0]),.free,.free,.free,.free]=_
  rw [(ZaT _ cs2 hc2).1];rfl
theorem Ztg (hb:byref f=false) (hc:Zr cs=[3]) (hren:∀ ρ:Rho,ρ 3 0=some (2,0)→Ze ρ cs=cs1) (hq:ZK q=true) (hg2:g2≤1) (hback:∀ ρ:Rho,ρ 2 g2=some (3,g2)→Ze ρ cs2=cs3) (hO:O f [.ref 0 0,.ref 3 0] [.var [.ref 1 0],.var cs1,.row 0 w xs,.var [.ref 1 0]]=some (q,[.var [.ref 1 0],.var cs2,.row g2 w2 xs2,.var [.ref 1 0]])) :
  Zj O byref [.var cs,.var [.ref 0 0],.var [.ref 0 0],.row 0 w xs,.free,.free,.free,.free] 4 f 4 false [.ref 1 0,.ref 2 0]=some (q,[.var cs3,.var [.ref 0 0],.var [.ref 0 0],.row g2 w2 xs2,.free,.free,.free,.free],{ any:=true,upd:=[(1,[.ref 0 0]),(0,cs3),(2,[.ref 0 0])] }):=by
 refine ZcS (ids:=[1,0,3,2]) (vs:=[.ref 1 0,.ref 2 0]) hb rfl (ZE1 rfl rfl rfl rfl hc) rfl rfl rfl ?_ hO rfl (by simp) (by simp) ?_ rfl (Za4 _ q hq).1 ?_ rfl
 ·have h1:=hren (Zl [.var cs,.var [.ref 0 0],.var [.ref 0 0],.row 0 w xs,.free,.free,.free,.free] 0 [1,0,3,2]) rfl
  show [ZM.var (Ze _ [.ref 0 0]),.var (Ze _ cs),.row 0 w xs,.var (Ze _ [.ref 0 0])]=_
  rw [h1];rfl
 ·simp [ZaZ,okB,Zce,Zp,hg2]
 ·have hb3:=hback (ZaB [.var cs,.var [.ref 0 0],.var [.ref 0 0],.row 0 w xs,.free,.free,.free,.free] [1,0,3,2] 4) (by simp [ZaB,Zp])
  show [ZM.var (Ze _ cs2),.var (Ze _ [.ref 1 0]),.var (Ze _ [.ref 1 0]),.row (0+g2) w2 xs2,.free,.free,.free,.free]=_
  rw [hb3,Nat.zero_add];rfl
theorem Zuu {f g:Nat} (hc:Zr cs=[3]) (hg:g≤1) (hren:∀ ρ:Rho,ρ 3 g=some (3,0)→Ze ρ cs=cs1) (τ:Za) :
  gcT 3 [(1,.fn f [.ref 1 0,.ref 2 0]),(0,.ref 0 0)] (.var cs::.var [.ref 0 0]::.var [.ref 0 0]::.row g w xs::τ)=([(1,.fn f [.ref 1 0,.ref 2 0]),(0,.ref 0 0)],[.var cs1,.var [.ref 0 0],.var [.ref 0 0],.row 0 w xs]):=by
 have hi:ZE 3 [.fn f [.ref 1 0,.ref 2 0],.ref 0 0] (.var cs::.var [.ref 0 0]::.var [.ref 0 0]::.row g w xs::τ)=[0,1,2,3]:=by
  have hR:List.range 3=[0,1,2]:=rfl
  simp only [ZE,hR,List.flatMap_cons,List.flatMap_nil,List.append_nil,List.getD_cons_zero,List.getD_cons_succ,ZQ,Zr,ZZ,hc]
  rfl
 have hρ:Zl (.var cs::.var [.ref 0 0]::.var [.ref 0 0]::.row g w xs::τ) 3 [0,1,2,3] 3 g=some (3,0):=by
  simp [Zl,Z1,Zp,ZU]
 have hρ0:Zl (.var cs::.var [.ref 0 0]::.var [.ref 0 0]::.row g w xs::τ) 3 [0,1,2,3] 0 0=some (0,0):=rfl
 have hρ1:Zl (.var cs::.var [.ref 0 0]::.var [.ref 0 0]::.row g w xs::τ) 3 [0,1,2,3] 1 0=some (1,0):=rfl
 have hρ2:Zl (.var cs::.var [.ref 0 0]::.var [.ref 0 0]::.row g w xs::τ) 3 [0,1,2,3] 2 0=some (2,0):=rfl
 simp only [gcT,gcA,List.map_cons,List.map_nil,hi,Zx,List.getD_cons_zero,List.getD_cons_succ,ZU,Zp,ZJ,Ze,Zk,hρ0,hρ1,hρ2,hren _ hρ]
 simp
theorem ZkJ {r:AVal} (hr:ZK r=true) (hc:Zr cs=[3]) (hren:∀ ρ:Rho,ρ 3 0=some (3,0)→Ze ρ cs=cs) (τ:Za):Zal 3 (.var cs::.var [.ref 0 0]::.var [.ref 0 0]::.row 0 w xs::τ) r=some (r,[.var cs,.var [.ref 0 0],.var [.ref 0 0],.row 0 w xs]):=by
 have e1:=fun ρ=>Za4 ρ r hr
 have hi:ZE 3 [r] (.var cs::.var [.ref 0 0]::.var [.ref 0 0]::.row 0 w xs::τ)=[0,1,2,3]:=by
  have hR:List.range 3=[0,1,2]:=rfl
  simp only [ZE,(e1 (fun _ _=>none)).2,List.nil_append,hR,List.flatMap_cons,List.flatMap_nil,List.append_nil,List.getD_cons_zero,List.getD_cons_succ,ZQ,Zr,ZZ,hc]
  rfl
 have hρ3:Zl (.var cs::.var [.ref 0 0]::.var [.ref 0 0]::.row 0 w xs::τ) 3 [0,1,2,3] 3 0=some (3,0):=rfl
 have hρ0:Zl (.var cs::.var [.ref 0 0]::.var [.ref 0 0]::.row 0 w xs::τ) 3 [0,1,2,3] 0 0=some (0,0):=rfl
 simp only [Zal,gcA,hi,Ze,(e1 _).1,Zx,List.getD_cons_zero,List.getD_cons_succ,ZU,Zp,ZJ,Zk,hρ0,hren _ hρ3]
 rfl
theorem Zjv {r:AVal} (hr:ZK r=true) (hc:Zd cs=true) (τ:Za):Zal 3 (.var cs::.var [.ref 0 0]::.var [.ref 0 0]::τ) r=some (r,[.var cs,.var [.ref 0 0],.var [.ref 0 0]]):=by
 have e1:=fun ρ=>Za4 ρ r hr
 have e2:=fun ρ=>ZaT ρ cs hc
 have hi:ZE 3 [r] (.var cs::.var [.ref 0 0]::.var [.ref 0 0]::τ)=[0,1,2]:=by
  have hR:List.range 3=[0,1,2]:=rfl
  simp only [ZE,(e1 (fun _ _=>none)).2,List.nil_append,hR,List.flatMap_cons,List.flatMap_nil,List.append_nil,List.getD_cons_zero,List.getD_cons_succ,ZQ,Zr,ZZ,(e2 (fun _ _=>none)).2]
  rfl
 have hρ0:Zl (.var cs::.var [.ref 0 0]::.var [.ref 0 0]::τ) 3 [0,1,2] 0 0=some (0,0):=rfl
 simp only [Zal,gcA,hi,Ze,(e1 _).1,Zx,List.getD_cons_zero,List.getD_cons_succ,ZJ,Zk,hρ0,(e2 _).1]
end
section
variable {α:Type} {one:Zb→RK α} {g:α→AVal} {f k:Nat} (P:List AVal) (hP:P.length=26) (hN:Zd P=true) (hk:k < 26) (hf:f < 1000000) (hby:BY f=false)
  (hlen:∀ {l s r},one l=.ok (s,r)→r.length < l.length)
  (hT1:∀ (xs:List α) (l:Zb) (s:α) (r:Zb),l.length≤1099511627776→xs.length≤1099511627776→one l=.ok (s,r)→E f [.ref 0 0,.ref 3 0] [.var [.ref 1 0],.var (Zi P k 2 0 xs.length++[.lst false (l.map Zc)]),.row 0 1 (xs.map g),.var [.ref 1 0]]=some (.tup [],[.var [.ref 1 0],.var (Zi P k 2 1 (xs.length+1)++[.lst false (r.map Zc)]),.row 1 1 ((xs++[s]).map g),.var [.ref 1 0]]))
  (hF1:∀ (xs:List α) (l:Zb) (e:Int),l.length≤1099511627776→one l=.error e→∃ r:Zb,E f [.ref 0 0,.ref 3 0] [.var [.ref 1 0],.var (Zi P k 2 0 xs.length++[.lst false (l.map Zc)]),.row 0 1 (xs.map g),.var [.ref 1 0]]=some (.pan (Zy e),[.var [.ref 1 0],.var (Zi P k 2 0 xs.length++[.lst false (r.map Zc)]),.row 0 1 (xs.map g),.var [.ref 1 0]]))
include hP hN hk
def H3 (P:List AVal) (k n:Nat) (l:Zb) (ys:List AVal):Za:=[.var (Zi P k 3 0 n++[.lst false (l.map Zc)]),.var [.ref 0 0],.var [.ref 0 0],.row 0 1 ys]
theorem Zbx (r g n:Nat) (L:Zb):Zr (Zi P k r g n++[.lst false (L.map Zc)])=[r]:=by
 rw [Zcu,Zi,Zh4 hN (by omega)];rfl
theorem ZaQ (r g n r' g':Nat) (L:Zb) (ρ:Rho) (h:ρ r g=some (r',g')):Ze ρ (Zi P k r g n++[.lst false (L.map Zc)])=Zi P k r' g' n++[.lst false (L.map Zc)]:=by
 rw [ZbS,Zi,Zic ρ hN,Zi]
 simp only [Zk,h,Ze]
include hf hby hlen hT1 hF1
theorem Zt9:∀ (n:Nat) (l:Zb) (xs:List α),l.length≤n→n+xs.length≤1099511627776 →
  (∀ ts,ZaD one n l=.ok ts→ZaY 3 [(1,.fn f [.ref 1 0,.ref 2 0]),(0,.ref 0 0)] (H3 P k xs.length l (xs.map g))=some (.tup [],H3 P k (xs++ts).length [] ((xs++ts).map g))) ∧
  (∀ e,ZaD one n l=.error e→∃ (xs':List α) (r:Zb),ZaY 3 [(1,.fn f [.ref 1 0,.ref 2 0]),(0,.ref 0 0)] (H3 P k xs.length l (xs.map g))=some (.pan (Zy e),H3 P k xs'.length r (xs'.map g))):=by
 intro n
 induction n with
 | zero =>
  intro l xs hl hx
  have l0:l=[]:=List.eq_nil_of_length_eq_zero (by omega)
  subst l0
  refine ⟨fun ts h=>?_,fun e h=>by simp [ZaD] at h⟩
  have : ts=[]:=by simpa [ZaD] using h.symm
  subst this
  rw [List.append_nil]
  have hL:=Zb6 P hP hN k hk xs.length 3 0
  have b2:=Zao _ hL
  have hO:=ZkJ (w:=1) (xs:=xs.map g) (r:=.tup []) rfl (Zbx P hP hN hk 3 0 xs.length []) (fun ρ h=>ZaQ P hP hN hk 3 0 xs.length 3 0 [] ρ h)
  unfold H3 ZaY
  rw [Zad]
  generalize Zi P k 3 0 xs.length=Q at *
  generalize xs.map g=ys at *
  simp -implicitDefEqProofs only [EQA,Nat.reduceAdd,Nat.reduceLT,Nat.reduceEqDiff,Nat.reduceBEq,reduceCtorEq,decide_eq_true_eq,ite_self,↓reduceIte,Zku,Zdr,ZcT,oI,b2]
  exact hO _
 | succ n ih =>
  intro l xs hl hx
  have hL:=Zb6 P hP hN k hk xs.length 3 0
  have b2:=Zao _ hL
  by_cases l0:l.length=0
  ·have l0:l=[]:=List.eq_nil_of_length_eq_zero l0
   subst l0
   refine ⟨fun ts h=>?_,fun e h=>by simp [ZaD] at h⟩
   have : ts=[]:=by simpa [ZaD] using h.symm
   subst this
   rw [List.append_nil]
   have hO:=ZkJ (w:=1) (xs:=xs.map g) (r:=.tup []) rfl (Zbx P hP hN hk 3 0 xs.length []) (fun ρ h=>ZaQ P hP hN hk 3 0 xs.length 3 0 [] ρ h)
   unfold H3 ZaY
   rw [Zad]
   generalize Zi P k 3 0 xs.length=Q at *
   generalize xs.map g=ys at *
   simp -implicitDefEqProofs only [EQA,Nat.reduceAdd,Nat.reduceLT,Nat.reduceEqDiff,Nat.reduceBEq,reduceCtorEq,decide_eq_true_eq,ite_self,↓reduceIte,Zku,Zdr,ZcT,oI,b2]
   exact hO _
  ·have z1:((l.length:Nat):Int) > 0:=by omega
   have z2:(0:Int) < ((l.length:Nat):Int):=by omega
   cases ho:one l with
   | error e =>
    refine ⟨fun ts h=>by simp [ZaD,l0,ho] at h,fun e' h=>?_⟩
    have : e'=e:=by simpa [ZaD,l0,ho] using h.symm
    subst this
    obtain ⟨r,hE⟩:=hF1 xs l e' (by omega) ho
    have hC:=Ztg (O:=E) (byref:=BY) (cs:=Zi P k 3 0 xs.length++[.lst false (l.map Zc)]) (cs3:=Zi P k 3 0 xs.length++[.lst false (r.map Zc)]) hby (Zbx P hP hN hk 3 0 xs.length l) (fun ρ h=>ZaQ P hP hN hk 3 0 xs.length 2 0 l ρ h) (q:=.pan (Zy e')) rfl (by omega) (fun ρ h=>ZaQ P hP hN hk 2 0 xs.length 3 0 r ρ h) hE
    have hO:=ZkJ (w:=1) (xs:=xs.map g) (r:=.pan (Zy e')) rfl (Zbx P hP hN hk 3 0 xs.length r) (fun ρ h=>ZaQ P hP hN hk 3 0 xs.length 3 0 r ρ h)
    refine ⟨xs,r,?_⟩
    unfold H3 ZaY
    rw [Zad]
    clear hE hT1 hF1 ih
    generalize Zi P k 3 0 xs.length=Q at *
    generalize xs.map g=ys at *
    generalize Zy e'=ce at *
    simp -implicitDefEqProofs only [EQA,Nat.reduceAdd,Nat.reduceLT,Nat.reduceEqDiff,Nat.reduceBEq,reduceCtorEq,decide_true,↓reduceIte,Zdr,ZcT,oI,b2,hC,hf,z1]
    exact hO _
   | ok s =>
    obtain ⟨s,r⟩:=s
    have hr:=hlen ho
    have hE:=hT1 xs l s r (by omega) (by omega) ho
    have hC:=Ztg (O:=E) (byref:=BY) (cs:=Zi P k 3 0 xs.length++[.lst false (l.map Zc)]) (cs3:=Zi P k 3 1 (xs.length+1)++[.lst false (r.map Zc)]) hby (Zbx P hP hN hk 3 0 xs.length l) (fun ρ h=>ZaQ P hP hN hk 3 0 xs.length 2 0 l ρ h) (q:=.tup []) rfl (by omega) (fun ρ h=>ZaQ P hP hN hk 2 1 (xs.length+1) 3 1 r ρ h) hE
    have hG:=Zuu (f:=f) (w:=1) (xs:=(xs++[s]).map g) (g:=1) (Zbx P hP hN hk 3 1 (xs.length+1) r) (by omega) (fun ρ h=>ZaQ P hP hN hk 3 1 (xs.length+1) 3 0 r ρ h)
    have step:ZaY 3 [(1,.fn f [.ref 1 0,.ref 2 0]),(0,.ref 0 0)] (H3 P k xs.length l (xs.map g))=ZaY 3 [(1,.fn f [.ref 1 0,.ref 2 0]),(0,.ref 0 0)] (H3 P k (xs++[s]).length r ((xs++[s]).map g)):=by
     rw [show (xs++[s]).length=xs.length+1 from by simp]
     unfold H3
     conv=>lhs;unfold ZaY
     conv=>rhs;unfold ZaY
     conv=>lhs;rw [Zad]
     clear hE hT1 hF1 ih
     generalize Zi P k 3 0 xs.length=Q at *
     generalize Zi P k 3 1 (xs.length+1)=Q2 at *
     generalize Zi P k 3 0 (xs.length+1)=Q3 at *
     generalize xs.map g=ys at *
     generalize (xs++[s]).map g=zs at *
     simp -implicitDefEqProofs only [EQA,Zac,Nat.reduceAdd,Nat.reduceLT,Nat.reduceEqDiff,Nat.reduceBEq,reduceCtorEq,decide_true,↓reduceIte,Zdr,ZcT,oI,b2,hC,hG,hf,z1]
    obtain ⟨i1,i2⟩:=ih r (xs++[s]) (by omega) (by simp;omega)
    refine ⟨fun ts h=>?_,fun e h=>?_⟩
    ·rw [step]
     simp only [ZaD,l0,ho,if_false] at h
     cases hl2:ZaD one n r with
     | error e=>rw [hl2] at h;cases h
     | ok us =>
      rw [hl2] at h
      injection h with h;subst h
      have:=i1 us hl2
      rw [List.append_assoc,List.singleton_append] at this
      exact this
    ·rw [step]
     simp only [ZaD,l0,ho,if_false] at h
     cases hl2:ZaD one n r with
     | error e2 =>
      rw [hl2] at h
      injection h with h;subst h
      exact i2 e2 hl2
     | ok us=>rw [hl2] at h;cases h
end
end Go.Proofs.YtmlkhhidifjjfaaDoor
namespace Go.Proofs.YtmlkhhidifjjfaaDoor
open Go.RowKit
def Ze6 (m i j:Nat) (rs:List Zcx) (σ:Za):Option (AVal×Za):=match resA [(3,.ref j 0),(2,.ref i 0)] σ rs with
 | some r=>Zal m σ r
 | none=>none
noncomputable def Zft (fs:Nat→Option ZI) (prim:Zco) (byref:Nat→Bool) (tc:Nat) (c2 c3:Zf) (rs:List Zcx) (m:Nat) (tm1:Tms) (σ1:Za) (i j:Nat):Option (AVal×Za) :=
 match evC fs prim byref σ1.length c2 tm1 σ1 with
 | some (.ret,_,σ2)=>Ze6 m i j rs σ2
 | some (.panic (.iface t x),_,σ2)=>if t=tc then match evC fs prim byref σ1.length c3 [(10,x),(1,.ref j 0),(0,.ref i 0)] σ2 with
  | some (.normal,_,σ3)=>Ze6 m i j rs σ3
  | _=>none
  else none
 | _=>none
noncomputable def Zhs (fs:Nat→Option ZI) (prim:Zco) (byref:Nat→Bool) (tc:Nat) (c1 c2 c3:Zf) (rs:List Zcx) (args:List AVal) (σ:Za):Option (AVal×Za) :=
 match evC fs prim byref σ.length c1 (enterA 0 args []) σ with
 | some (.normal,tm1,σ1)=>match tget tm1 2,tget tm1 3 with
  | .ref i 0,.ref j 0=>if σ.length≤σ1.length∧i < σ1.length∧j < σ1.length then Zft fs prim byref tc c2 c3 rs σ.length (tput tm1 (some 5) .top) σ1 i j else none
  | _,_=>none
 | _=>none
structure Zk8 (P:Program) (f h:FuncId) (ti tc:TypeId) (an1 an2 an3:Ann) (c1 c2 c3:Zf) (rs:List Zcx):Prop where
 ex:∃ (F H:Func) (b1 b2 b3 b4:Code) (i0 j0 j1 j2 j3 bid:Nat) (t1 t2 t3 t4 t5 t6 t7 t8:TypeId) (p1 p2 p3 p4 p5 p6 p7 p8:String) (a1 a2 a3 a4 a5 a6 a7 a8:Array Edge) (at1 at2:Array TypeId) (ims:Array (String×TypeId)) (k:IntKind),
  P.funcs[f]?=some F∧(F.name == "runtime.NumGoroutine")=false∧F.ntmps=20∧Zem P F.results.toList=some rs ∧
  F.body=some (.seq b1 (.seq (.region i0 #[⟨some 5,.makeFunc (.func h) #[] #[.tmp 2,.tmp 3],t1,p1,a1,none⟩,⟨none,.defer ⟨.value (.tmp 5),#[],at1⟩,t2,p2,a2,none⟩] false) b2)) ∧
  ZcA (ZaU P an1 b1)=c1∧ZcA (ZaU P an2 b2)=c2∧an1.nt=20∧an2.nt=20∧an2.keep=[2,3] ∧
  P.funcs[h]?=some H∧(H.name == "runtime.NumGoroutine")=false∧H.ntmps=13∧H.results=#[] ∧
  H.body=some (.seq (.region j0 #[⟨some 5,.call ⟨.builtin .recover,#[],at2⟩,t3,p3,a3,none⟩] false) (.block bid (.seq (.region j1 #[⟨some 7,.binOp .eql ti (.tmp 5) (.const .nilIface) ti,t4,p4,a4,none⟩] false)
   (.cond (.tmp 7) (.region j2 #[⟨some 2,.assign (.tmp 5),t5,p5,a5,none⟩] false)
    (.seq (.region j3 #[⟨some 8,.typeAssert (.tmp 5) ti tc true,t6,p6,a6,none⟩,⟨some 9,.extract (.tmp 8) 1,t7,p7,a7,none⟩,⟨some 10,.extract (.tmp 8) 0,t8,p8,a8,none⟩] false)
     (.cond (.tmp 9) b3 b4)))))) ∧
  ZcA (ZaU P an3 b3)=c3∧an3.nt=13∧P.underlying ti=some (.interface ims)∧P.underlying tc=some (.int k)
section
variable {P:Program} {O:ZR} {byref:Nat→Bool} {base:Nat→Prop} {w0 w:World} {I0 I:Imm} {β:Bmap} {σ:Za}
theorem ZhW {m:Nat} {I':Imm} {β':Bmap} {i:Nat} {v:Value} (hk:KeptE m β β') (hi:i < m) (h:VR I β (.ref i 0) v):VR I' β' (.ref i 0) v:=by
 simp only [VR] at h ⊢
 obtain ⟨b,k,c,h1,h2⟩:=h
 exact ⟨b,k,c,hk i hi _ h1,h2⟩
theorem ZuY {F:Func} {rs:List Zcx} (hrs:Zem P F.results.toList=some rs) {m i j:Nat} {tmps:Array Value} {I':Imm} {β':Bmap} {σ' σ2:Za} {w':World} {r:AVal} (hI:I.le I') (hk:KeptE m β β') (R:Rel base w0 I0 I' β' σ2 w') (h2:VR I' β' (.ref i 0) (tmps.getD 2 undef)) (h3:VR I' β' (.ref j 0) (tmps.getD 3 undef)) (h:Ze6 m i j rs σ2=some (r,σ')) :
  ∃ v,(results F tmps).run P w'=.ok v w'∧∃ u,Ends r (.returned v) u∧Zb5 m base w0 I0 I β r σ' u w':=by
 unfold Ze6 at h
 split at h
 ·rename_i x hx
  have T:TR I' β' [(3,.ref j 0),(2,.ref i 0)] tmps:=by
   intro n
   simp only [tget]
   split
   ·rename_i e;subst e;exact h3
   ·split
    ·rename_i e;subst e;exact h2
    ·simp only [VR]
  obtain ⟨v,q1,q2⟩:=Zrh T R hrs hx
  have hnp:∀ y,x≠.pan y:=by rintro y rfl;simp only [VR] at q2
  obtain ⟨p1,p2⟩:=ZlR (⟨I',β',hI,hk,R,by rw [ZfH hnp];exact q2⟩:Zb5 m base w0 I0 I β x σ2 v w') h
  refine ⟨v,q1,v,p2 _ ?_,p1⟩
  cases x <;> first | rfl | exact absurd rfl (hnp _)
 ·cases h
theorem pgs {a:Act} {d:Nat} {u:Value} (h:d < a.tmps.size):(a.put (some d) u).tmps.getD d undef=u:=by
 simp [Act.put,Array.getD,h]
theorem Zg8 {m:Sem Value} {u:Value} (h:m.run P w=.ok u w):(do let q ←m;pure (Next.value q):Sem Next).run P w=.ok (.value u) w:=by
 rw [Sem.run_bind,h];rfl
theorem pgn {a:Act} {d j:Nat} {u:Value} (h:d≠j):(a.put (some d) u).tmps.getD j undef=a.tmps.getD j undef:=by
 simp only [Act.put,Array.getD_eq_getD_getElem?]
 rw [Array.getElem?_setIfInBounds_ne h]
theorem Zyp (hm:P.follows .mixedOrders=true) (hO:ZaN P O) {f h:FuncId} {ti tc:TypeId} {an1 an2 an3:Ann} {c1 c2 c3:Zf} {rs:List Zcx} (D:Zk8 P f h ti tc an1 an2 an3 c1 c2 c3 rs) (hb:KLt base w0) (R:Rel base w0 I0 I β σ w)
  {i j m n:Nat} {x:AVal} {v2 v3 v:Value} (h2:VR I β (.ref i 0) v2) (h3:VR I β (.ref j 0) v3) (hv:VR I β x v) {tm':Tms} {σ':Za} (hx:Z3 O byref m n c3 [(10,x),(1,.ref j 0),(0,.ref i 0)] σ=some (.normal,tm',σ')) :
  CallsD P h #[v2,v3] (.panicking [{ v:=.iface tc v,recovered:=false }]) w fun e u' w'=>e=.returned (.tuple #[])∧u'=.panicking [{ v:=.iface tc v,recovered:=true }]∧∃ I' β',I.le I'∧KeptE m β β'∧Rel base w0 I0 I' β' σ' w':=by
 obtain ⟨F,H,b1,b2,b3,b4,i0,j0,j1,j2,j3,bid,t1,t2,t3,t4,t5,t6,t7,t8,p1,p2,p3,p4,p5,p6,p7,p8,a1,a2,a3,a4,a5,a6,a7,a8,at1,at2,ims,k,hF,hname,hnt,hrs,hbody,hc1,hc2,hn1,hn2,hk2,hH,hHname,hHn,hHr,hHb,hc3,hn3,hti,htc⟩:=D.ex
 refine callsD_of_wpS hH hHb fun c₀ cs hu=>?_
 apply wpS_seq
 apply wpS_region
 simp [wpOpsS,go_sem,recoverD,hu,hHn,Exit.thenS]
 refine wpS_of_wp ?_
 generalize hT:(#[v2,v3]++(Array.replicate 11 undef).setIfInBounds 3 (Value.iface tc v))=T
 have hs:T.size=13:=by rw [←hT];simp
 have hT0:T.getD 0 undef=v2:=by rw [←hT];simp [Array.getD]
 have hT1:T.getD 1 undef=v3:=by rw [←hT];simp [Array.getD]
 have hT5:T.getD 5 undef=.iface tc v:=by rw [←hT];simp [Array.getD]
 clear hT
 refine wp_block (wp_seq (wp_region_list (ZeF rfl ?_)))
 unfold Oper.wp
 have e1:∀ o:Oper,o.op=.binOp .eql ti (.tmp 5) (.const .nilIface) ti→(execOp ({ tmps:=T,defers:=[] }:Act).eval o).run P w=.ok (.value (.bool false)) w:=by
  intro o ho
  unfold execOp;rw [ho]
  simp only [Act.eval,hT5]
  exact Zg8 (Zqz (P:=P) (w:=w) (t1:=tc) (u:=v) hti false (op:=.eql) (.tmp 5) .nilIface rfl)
 rw [e1 _ rfl,Oper.upon_value]
 refine wpList_nil ?_
 simp only [Exit.then]
 refine wp_cond_false (by simp only [Act.eval];exact pgs (by simp [hs])) ?_
 refine wp_seq (wp_region_list (ZeF rfl ?_))
 unfold Oper.wp
 generalize hA1:({ tmps:=T,defers:=[] }:Act).put (some 7) (.bool false)=A1
 have hs1:A1.tmps.size=13:=by rw [←hA1,Zew];exact hs
 have g1:∀ j,j≠7→A1.tmps.getD j undef=T.getD j undef:=by intro j hj;rw [←hA1];exact pgn (by omega)
 have hd1:A1.defers=[]:=by rw [←hA1];rfl
 have e2:∀ o:Oper,o.op=.typeAssert (.tmp 5) ti tc true→(execOp A1.eval o).run P w=.ok (.value (.tuple #[v,.bool true])) w:=by
  intro o ho
  unfold execOp;rw [ho]
  simp only [Act.eval,g1 5 (by omega),hT5]
  refine Zg8 ?_
  simp [Instr.typeAssert,underlying,htc]
 rw [e2 _ rfl,Oper.upon_value]
 generalize hA2:A1.put (some 8) (.tuple #[v,.bool true])=A2
 have hs2:A2.tmps.size=13:=by rw [←hA2,Zew];exact hs1
 have g2:∀ j,j≠8→A2.tmps.getD j undef=A1.tmps.getD j undef:=by intro j hj;rw [←hA2];exact pgn (by omega)
 have g28:A2.tmps.getD 8 undef=.tuple #[v,.bool true]:=by rw [←hA2];exact pgs (by omega)
 have hd2:A2.defers=[]:=by rw [←hA2];exact hd1
 refine ZeF rfl ?_
 unfold Oper.wp
 have e3:∀ o:Oper,o.op=.extract (.tmp 8) 1→(execOp A2.eval o).run P w=.ok (.value (.bool true)) w:=by
  intro o ho
  unfold execOp;rw [ho]
  simp only [Act.eval,g28]
  refine Zg8 ?_
  simp [Instr.extract]
 rw [e3 _ rfl,Oper.upon_value]
 generalize hA3:A2.put (some 9) (.bool true)=A3
 have hs3:A3.tmps.size=13:=by rw [←hA3,Zew];exact hs2
 have g3:∀ j,j≠9→A3.tmps.getD j undef=A2.tmps.getD j undef:=by intro j hj;rw [←hA3];exact pgn (by omega)
 have g39:A3.tmps.getD 9 undef=.bool true:=by rw [←hA3];exact pgs (by omega)
 have hd3:A3.defers=[]:=by rw [←hA3];exact hd2
 refine ZeF rfl ?_
 unfold Oper.wp
 have e4:∀ o:Oper,o.op=.extract (.tmp 8) 0→(execOp A3.eval o).run P w=.ok (.value v) w:=by
  intro o ho
  unfold execOp;rw [ho]
  simp only [Act.eval,g3 8 (by omega),g28]
  refine Zg8 ?_
  simp [Instr.extract]
 rw [e4 _ rfl,Oper.upon_value]
 generalize hA4:A3.put (some 10) v=A4
 have hs4:A4.tmps.size=13:=by rw [←hA4,Zew];exact hs3
 have g4:∀ j,j≠10→A4.tmps.getD j undef=A3.tmps.getD j undef:=by intro j hj;rw [←hA4];exact pgn (by omega)
 have g410:A4.tmps.getD 10 undef=v:=by rw [←hA4];exact pgs (by omega)
 have hd4:A4.defers=[]:=by rw [←hA4];exact hd3
 refine wpList_nil ?_
 simp only [Exit.then]
 refine wp_cond_true (by simp only [Act.eval];rw [g4 9 (by omega),g39]) ?_
 have hst:StF ZbR m an3.nt base w0 I0 I β [(10,x),(1,.ref j 0),(0,.ref i 0)] σ A4 w:=by
  refine ⟨I,β,Imm.le.refl I,KeptE.refl _ β,fun n=>?_,⟨ZeW.2 hd4,by rw [hs4,hn3];omega⟩,R⟩
  simp only [tget]
  split
  ·rename_i e;subst e;rw [g410];exact hv
  ·split
   ·rename_i e;subst e;rw [g4 1 (by omega),g3 1 (by omega),g2 1 (by omega),g1 1 (by omega),hT1];exact h3
   ·split
    ·rename_i e;subst e;rw [g4 0 (by omega),g3 0 (by omega),g2 0 (by omega),g1 0 (by omega),hT0];exact h2
    ·simp only [VR]
 rw [←hc3,ZdX] at hx
 refine Zi4 (dr:=ZbR) (an:=an3) hO (fun n hn=>by simp [ZbR] at hn) hm hb m n rfl hst hx ?_
 intro a' w' ⟨I',β',k1,k2,k3,k4,k5⟩
 simp only [Exit.inBlock,bodyPostS]
 refine ⟨ZeW.1 k4.1,_,rfl,.tuple #[],?_,rfl,rfl,I',k1,β',k2,k5⟩
 simp [results,hHr]
theorem ZyD {f h:FuncId} {ti tc:TypeId} {an1 an2 an3:Ann} {c1 c2 c3:Zf} {rs:List Zcx} (D:Zk8 P f h ti tc an1 an2 an3 c1 c2 c3 rs) {v2 v3:Value} {w:World} :
  CallsD P h #[v2,v3] .returning w fun e u' w'=>e=.returned (.tuple #[])∧u'=.returning∧w'=w:=by
 obtain ⟨F,H,b1,b2,b3,b4,i0,j0,j1,j2,j3,bid,t1,t2,t3,t4,t5,t6,t7,t8,p1,p2,p3,p4,p5,p6,p7,p8,a1,a2,a3,a4,a5,a6,a7,a8,at1,at2,ims,k,hF,hname,hnt,hrs,hbody,hc1,hc2,hn1,hn2,hk2,hH,hHname,hHn,hHr,hHb,hc3,hn3,hti,htc⟩:=D.ex
 refine callsD_of_wpS hH hHb fun c₀ cs hu=>?_
 apply wpS_seq
 apply wpS_region
 simp [wpOpsS,go_sem,recoverD,hu,hHn,Exit.thenS]
 refine wpS_of_wp ?_
 generalize hT:(#[v2,v3]++(Array.replicate 11 undef).setIfInBounds 3 Value.nilIface)=T
 have hs:T.size=13:=by rw [←hT];simp
 have hT5:T.getD 5 undef=.nilIface:=by rw [←hT];simp [Array.getD]
 clear hT
 refine wp_block (wp_seq (wp_region_list (ZeF rfl ?_)))
 unfold Oper.wp
 have e1:∀ o:Oper,o.op=.binOp .eql ti (.tmp 5) (.const .nilIface) ti→(execOp ({ tmps:=T,defers:=[] }:Act).eval o).run P w=.ok (.value (.bool true)) w:=by
  intro o ho
  unfold execOp;rw [ho]
  simp only [Act.eval,hT5]
  exact Zg8 (ZuD (P:=P) (w:=w) hti false (op:=.eql) (.tmp 5) .nilIface rfl)
 rw [e1 _ rfl,Oper.upon_value]
 refine wpList_nil ?_
 simp only [Exit.then]
 refine wp_cond_true (by simp only [Act.eval];exact pgs (by simp [hs])) ?_
 refine wp_region_list (ZeF rfl ?_)
 unfold Oper.wp
 generalize hA1:({ tmps:=T,defers:=[] }:Act).put (some 7) (.bool true)=A1
 have g1:∀ j,j≠7→A1.tmps.getD j undef=T.getD j undef:=by intro j hj;rw [←hA1];exact pgn (by omega)
 have hd1:A1.defers=[]:=by rw [←hA1];rfl
 have e2:∀ o:Oper,o.op=.assign (.tmp 5)→(execOp A1.eval o).run P w=.ok (.value .nilIface) w:=by
  intro o ho
  unfold execOp;rw [ho]
  simp [Act.eval,g1 5 (by omega),hT5]
 rw [e2 _ rfl,Oper.upon_value]
 refine wpList_nil ?_
 simp only [Exit.inBlock,bodyPostS]
 refine ⟨hd1,.returning,?_,.tuple #[],?_,rfl,rfl,trivial⟩
 ·cases c₀;simp_all
 ·simp [results,hHr]
end
section
variable {P:Program} {fs:Nat→Option ZI} {prim:Zco} {byref:Nat→Bool}
theorem ZLh (hm:P.follows .mixedOrders=true) (hO:∀ n,ZaN P (Zaq fs prim byref n)) {f h:FuncId} {ti tc:TypeId} {an1 an2 an3:Ann} {c1 c2 c3:Zf} {rs:List Zcx} (D:Zk8 P f h ti tc an1 an2 an3 c1 c2 c3 rs)
  {args:List AVal} {σ σ':Za} {r:AVal} (hg:Zhs fs prim byref tc c1 c2 c3 rs args σ=some (r,σ')) :
  (∃ fn,P.funcs[f]?=some fn∧fn.body.isSome=true∧(fn.name == "runtime.NumGoroutine")=false) ∧
  ∀ base w0 I0 I β w (vs:Array Value),KLt base w0→Rel base w0 I0 I β σ w→VRs I β args vs.toList →
   Calls P f vs w (fun e w'=>∃ u,Ends r e u∧Zb5 σ.length base w0 I0 I β r σ' u w'):=by
 obtain ⟨F,H,b1,b2,b3,b4,i0,j0,j1,j2,j3,bid,t1,t2,t3,t4,t5,t6,t7,t8,p1,p2,p3,p4,p5,p6,p7,p8,a1,a2,a3,a4,a5,a6,a7,a8,at1,at2,ims,k,hF,hname,hnt,hrs,hbody,hc1,hc2,hn1,hn2,hk2,hH,hHname,hHn,hHr,hHb,hc3,hn3,hti,htc⟩:=D.ex
 refine ⟨⟨F,hF,by rw [hbody];rfl,hname⟩,?_⟩
 intro base w0 I0 I β w vs hb R hargs
 unfold Zhs at hg
 split at hg
 case h_2=>cases hg
 rename_i tm1 σ1 hx1
 split at hg
 case h_2=>cases hg
 rename_i i j hi hj
 split at hg
 case isFalse=>cases hg
 rename_i hlen
 obtain ⟨hl0,hli,hlj⟩:=hlen
 obtain ⟨n1,hx1⟩:=Zbm.1 hx1
 rw [←hc1,ZdX] at hx1
 refine calls_of_wp_defers hF hbody ?_
 have T:=Zoo hargs (F.ntmps - vs.size)
 have hst:StF ZbR σ.length an1.nt base w0 I0 I β (enterA 0 args []) σ { tmps:=vs++Array.replicate (F.ntmps - vs.size) undef,defers:=[] } w:=⟨I,β,Imm.le.refl I,KeptE.refl _ β,T,⟨ZeW.2 rfl,by rw [hn1];simp;omega⟩,R⟩
 refine wp_seq ?_
 refine Zi4 (dr:=ZbR) (an:=an1) (hO n1) (fun n hn=>by simp [ZbR] at hn) hm hb σ.length n1 rfl hst hx1 ?_
 rintro A0 w1 ⟨I1,β1,g1,g2,T1,⟨gd,gs⟩,R1⟩
 have gd:=ZeW.1 gd
 rw [hn1] at gs
 simp only [Exit.then]
 refine wp_seq (wp_region_list (ZeF rfl ?_))
 unfold Oper.wp
 have e1:∀ o:Oper,o.op=.makeFunc (.func h) #[] #[.tmp 2,.tmp 3]→(execOp A0.eval o).run P w1=.ok (.value (.func (.func h) #[] #[A0.tmps.getD 2 undef,A0.tmps.getD 3 undef])) w1:=by
  intro o ho
  unfold execOp;rw [ho]
  refine Zg8 ?_
  simp [Instr.makeFunc,Act.eval]
 rw [e1 _ rfl,Oper.upon_value]
 generalize hv2:A0.tmps.getD 2 undef=v2
 generalize hv3:A0.tmps.getD 3 undef=v3
 have hr2:VR I1 β1 (.ref i 0) v2:=by rw [←hv2,←hi];exact T1 2
 have hr3:VR I1 β1 (.ref j 0) v3:=by rw [←hv3,←hj];exact T1 3
 generalize hA1:A0.put (some 5) (.func (.func h) #[] #[v2,v3])=A1
 have hs1:A1.tmps.size=A0.tmps.size:=by rw [←hA1,Zew]
 have q1:∀ j,j≠5→A1.tmps.getD j undef=A0.tmps.getD j undef:=by intro j hj;rw [←hA1];exact pgn (by omega)
 have q5:A1.tmps.getD 5 undef=.func (.func h) #[] #[v2,v3]:=by rw [←hA1];exact pgs (by omega)
 have hd1:A1.defers=[]:=by rw [←hA1];exact gd
 refine ZeF rfl ?_
 unfold Oper.wp
 have e2:∀ o:Oper,o.op=.defer ⟨.value (.tmp 5),#[],at1⟩→(execOp A1.eval o).run P w1=.ok (.defer ⟨.fn (.func h) #[v2,v3],#[]⟩) w1:=by
  intro o ho
  unfold execOp;rw [ho]
  simp [resolve,Act.eval,q5,Deferred.ofValue]
 rw [e2 _ rfl,Oper.upon_defer]
 refine wpList_nil ?_
 simp only [Exit.then]
 generalize hd:(⟨.fn (.func h) #[v2,v3],#[]⟩:Deferred)=d
 have hA2:({ A1 with defers:=d::A1.defers }:Act).put none undef={ A1 with defers:=[d] }:=by rw [hd1];rfl
 rw [hA2]
 let dr:Door:=⟨[d],[2,3],fun n=>if n=2 then v2 else v3⟩
 have hdr:dr.ok { A1 with defers:=[d] }:=by
  refine ⟨rfl,fun j hj=>?_⟩
  simp only [dr,List.mem_cons,List.not_mem_nil,or_false] at hj
  rcases hj with rfl | rfl
  ·show A1.tmps.getD 2 undef=_;rw [q1 2 (by omega),hv2];rfl
  ·show A1.tmps.getD 3 undef=_;rw [q1 3 (by omega),hv3];rfl
 have T2:TR I1 β1 (tput tm1 (some 5) .top) A1.tmps:=by
  rw [←hA1]
  exact Zoz T1 (by simp only [VR]) (fun n hn=>by injection hn with hn;omega)
 unfold Zft at hg
 have hst2:StF dr σ1.length an2.nt base w0 I0 I1 β1 (tput tm1 (some 5) .top) σ1 { A1 with defers:=[d] } w1:=⟨I1,β1,Imm.le.refl I1,KeptE.refl _ β1,T2,⟨hdr,by rw [hn2];show 20≤A1.tmps.size;omega⟩,R1⟩
 have lift:∀ {I':Imm} {β':Bmap},I1.le I'→KeptE σ1.length β1 β'→I.le I'∧KeptE σ.length β β':=fun h1 h2=>⟨g1.trans h1,g2.trans (fun t ht bi e=>h2 t (by omega) bi e)⟩
 have hinv:∀ w:World,(invoke (.fn (.func h) #[v2,v3]) #[]).run P w=.ok (.enter h #[v2,v3]) w:=fun w=>by
  unfold invoke
  simpa using Zkl (args:=#[v2,v3]) (w:=w) hH (by rw [hHb];rfl) hHname
 have tm2:∀ {A:Act},dr.ok A→A.tmps.getD 2 undef=v2∧A.tmps.getD 3 undef=v3:=fun hA=>⟨hA.2 2 (by simp [dr]),hA.2 3 (by simp [dr])⟩
 split at hg
 case h_3=>cases hg
 ·rename_i tmx σ2 hx2
  obtain ⟨n2,hx2⟩:=Zbm.1 hx2
  rw [←hc2,ZdX] at hx2
  refine Zi4 (dr:=dr) (an:=an2) (hO n2) (fun n hn=>by rw [hk2];exact hn) hm hb σ1.length n2 rfl hst2 hx2 ?_
  rintro A3 w3 ⟨I3,β3,k1,k2,T3,⟨kd,ks⟩,R3⟩
  show Leaves P F A3.tmps _ A3.defers .returning w3
  rw [kd.1]
  show Leaves P F A3.tmps _ [d] .returning w3
  rw [←hd]
  refine leaves_cons (f:=h) (args:=#[v2,v3]) (by simp) (hinv w3) ?_
  refine (ZyD D).mono ?_
  rintro e u' w' ⟨rfl,rfl,rfl⟩
  simp only [settle,Leaves]
  obtain ⟨l1,l2⟩:=lift k1 k2
  exact ZuY hrs l1 l2 R3 (by rw [(tm2 kd).1];exact ZhW k2 hli hr2) (by rw [(tm2 kd).2];exact ZhW k2 hlj hr3) hg
 ·rename_i t x tmx σ2 hx2
  split at hg
  case isFalse=>cases hg
  rename_i ht
  subst ht
  split at hg
  case h_2=>cases hg
  rename_i tmy σ3 hx3
  obtain ⟨n2,hx2⟩:=Zbm.1 hx2
  rw [←hc2,ZdX] at hx2
  obtain ⟨n3,hx3⟩:=Zbm.1 hx3
  refine Zi4 (dr:=dr) (an:=an2) (hO n2) (fun n hn=>by rw [hk2];exact hn) hm hb σ1.length n2 rfl hst2 hx2 ?_
  rintro A3 u w3 kd ⟨I3,β3,k1,k2,R3,kv⟩
  simp only [ZaS,VR] at kv
  obtain ⟨v,rfl,kv⟩:=kv
  show Leaves P F A3.tmps _ A3.defers (.panicking [{ v:=.iface t v,recovered:=false }]) w3
  rw [kd.1]
  show Leaves P F A3.tmps _ [d] _ w3
  rw [←hd]
  refine leaves_cons (f:=h) (args:=#[v2,v3]) (by simp) (hinv w3) ?_
  refine (Zyp hm (hO n3) D hb R3 (ZhW k2 hli hr2) (ZhW k2 hlj hr3) kv hx3).mono ?_
  rintro e u' w' ⟨rfl,rfl,I4,β4,m1,m2,R4⟩
  simp only [settle,List.dropWhile,Leaves]
  have k3:=k2.trans m2
  obtain ⟨l1,l2⟩:=lift (k1.trans m1) k3
  exact ZuY hrs l1 l2 R4 (by rw [(tm2 kd).1];exact ZhW k3 hli hr2) (by rw [(tm2 kd).2];exact ZhW k3 hlj hr3) hg
end
section
variable {fs:Nat→Option ZI} {p p':Zco} {byref:Nat→Bool}
theorem ZtC (h0:∀ f,p f=none→p' f=none) (h1:∀ f g,p f=some g→p' f=some g∨∀ a σ,g a σ=none):∀ n,OLe (Zaq fs p byref n) (Zaq fs p' byref n)
 | 0=>by intro f a σ r h;simp only [Zaq] at h;cases h
 | n+1=>by
  intro f a σ r h
  rw [Zaq] at h ⊢
  split at h
  ·rename_i g hg
   rcases h1 f g hg with h2 | h2
   ·rw [h2];exact h
   ·rw [h2] at h;cases h
  ·rename_i hg
   rw [h0 f hg]
   split at h
   ·cases h
   ·rename_i fn hfn
    exact Zlg (fun q hq=>Zdv (ZtC h0 h1 n) (Nat.le_refl n) hq) h
theorem ZGG (h0:∀ f,p f=none→p' f=none) (h1:∀ f g,p f=some g→p' f=some g∨∀ a σ,g a σ=none):OLe (EV fs p byref) (EV fs p' byref):=by
 intro f a σ r h
 obtain ⟨n,hn⟩:=ZdF.1 h
 exact ZdF.2 ⟨n,ZtC h0 h1 n f a σ r hn⟩
end
end Go.Proofs.YtmlkhhidifjjfaaDoor
namespace Go.Proofs.YtmlkhhidifjjfaaDoor
open Go.Shelf
def ZCd:Ren:=⟨fun | 196=>142 | 259=>157 | n=>n,fun | 9=>9 | 4=>4 | 3=>3 | 5=>5 | 12=>12 | 119=>213 | 0=>0 | 46=>139 | 139=>216 | 138=>215 | 53=>101 | n=>n,fun | 3=>0 | 4=>1 | n=>n⟩
theorem Zst:Go.Proofs.Lays.n196 Tryd.prog ZCd:={ mixed:=by kernel_rfl,f196:=Tryd.func142.trans (congrArg some (by kernel_rfl)),f259:=Tryd.func157.trans (congrArg some (by kernel_rfl)),t0:=Tryd.underlying0,a0:=Tryd.isAgg0,z0:=Tryd.sizeOf0,v0:=Tryd.zeroValue0,t3:=Tryd.underlying3,a3:=Tryd.isAgg3,z3:=Tryd.sizeOf3,v3:=Tryd.zeroValue3,t4:=Tryd.underlying4,a4:=Tryd.isAgg4,z4:=Tryd.sizeOf4,v4:=Tryd.zeroValue4,t5:=Tryd.underlying5,a5:=Tryd.isAgg5,z5:=Tryd.sizeOf5,v5:=Tryd.zeroValue5,t9:=Tryd.underlying9,a9:=Tryd.isAgg9,z9:=Tryd.sizeOf9,v9:=Tryd.zeroValue9,t12:=Tryd.underlying12,a12:=Tryd.isAgg12,z12:=Tryd.sizeOf12,v12:=Tryd.zeroValue12,t46:=Tryd.underlying139,a46:=Tryd.isAgg139,z46:=Tryd.sizeOf139,v46:=Tryd.zeroValue139,t53:=Tryd.underlying101,a53:=Tryd.isAgg101,z53:=Tryd.sizeOf101,v53:=Tryd.zeroValue101,t119:=Tryd.underlying213,a119:=Tryd.isAgg213,z119:=Tryd.sizeOf213,t138:=Tryd.underlying215,a138:=Tryd.isAgg215,z138:=Tryd.sizeOf215,v138:=Tryd.zeroValue215,t139:=Tryd.underlying216,a139:=Tryd.isAgg216,z139:=Tryd.sizeOf216,v139:=Tryd.zeroValue216,g3:=by kernel_rfl,g4:=by kernel_rfl }
end Go.Proofs.YtmlkhhidifjjfaaDoor
namespace Go.Proofs.YtmlkhhidifjjfaaDoor
set_option maxRecDepth 100000
set_option maxHeartbeats 2000000
theorem Ziz:Tryd.prog.follows .mixedOrders=true:=by kernel_rfl
theorem ZAM:Zpu Tryd.prog 22 1 1 (.int .u8 0) 111:=⟨_,_,_,_,_,_,_,_,_,_,_,rfl,rfl,rfl,by kernel_rfl,rfl,rfl,rfl,rfl,rfl,rfl,rfl,rfl,by kernel_rfl,by kernel_rfl,⟨_,_,_,_,rfl⟩,rfl,by decide⟩
theorem ZJT:Zpu Tryd.prog 28 5 72 (.agg [.int .i64 0,.int .i64 0,.str [],.str [],.lst true []]) 137:=⟨_,_,_,_,_,_,_,_,_,_,_,rfl,rfl,rfl,by kernel_rfl,rfl,rfl,rfl,rfl,rfl,rfl,rfl,rfl,by kernel_rfl,by kernel_rfl,⟨_,_,_,_,rfl⟩,rfl,by decide⟩
theorem ZsO {α:Type} {d v:α}:∀ {l:List (Nat×α)} {n:Nat},ZeH d l n=v→v=d∨(n,v) ∈ l
 | [],n,h=>Or.inl h.symm
 | (k,w)::r,n,h=>by
  simp only [ZeH] at h
  split at h
  ·rename_i e;subst e h;exact Or.inr (by simp)
  ·rcases ZsO h with h | h
   ·exact Or.inl h
   ·exact Or.inr (by simp [h])
theorem Zuh:Zk7 Tryd.prog PR:=by
 intro f g h args σ r σ' hg
 rcases ZsO h with h | h
 ·cases h
 unfold Zuf at h
 simp only [List.mem_cons,Prod.mk.injEq,Option.some.injEq,List.not_mem_nil,or_false] at h
 rcases h with ⟨rfl,rfl⟩ | h
 ·exact ZrA Ziz ZAM hg
 rcases h with ⟨rfl,rfl⟩ | h
 ·exact ZrA Ziz ZJT hg
 rcases h with ⟨rfl,rfl⟩ | h
 ·exact ZwP ⟨Tryd.f142,Tryd.func142,by kernel_rfl,by kernel_rfl⟩ (fun s w hs hT=>Any.utf8_ValidString Zst s w hs hT) hg
 rcases h with ⟨rfl,rfl⟩ | h
 ·exact ZqB hg
 rcases h with ⟨rfl,rfl⟩ | h
 ·exact ZqB hg
 exact absurd h.2 (by simp)
end Go.Proofs.YtmlkhhidifjjfaaDoor
namespace Go.Proofs.YtmlkhhidifjjfaaDoor
def ZbW:Nat:=70368744177664
def Zhn (args:List AVal) (σ:Za):Option (AVal×Za):=match args,σ with
 | [.ref 0 0,.lst _ ys],[.var [.lst true [],.int .i64 0,.int .i8 _]] =>
  if ys.length≤ZbW∧kOk 1 ys=true then some (.tup [.int .i64 ys.length,.nili],[.var [.sl 1 0 0 ys.length,.int .i64 0,.int .i8 0],.row 0 1 ys]) else none
 | [.ref 0 0,.lst _ ys],[.var [.sl 1 g 0 m,.int .i64 0,.int .i8 _],.row g' 1 xs] =>
  if g=g'∧m=xs.length∧xs.length+ys.length≤ZbW∧kOk 1 ys=true then some (.tup [.int .i64 ys.length,.nili],[.var [.sl 1 (g+1) 0 (xs++ys).length,.int .i64 0,.int .i8 0],.row (g+1) 1 (xs++ys)]) else none
 | _,_=>none
end Go.Proofs.YtmlkhhidifjjfaaDoor
namespace Go.Proofs.YtmlkhhidifjjfaaDoor
set_option maxRecDepth 100000
set_option maxHeartbeats 4000000
def c1R:Zf :=  (.region [⟨(some 1),(.box (.t 0)),none,[]⟩,⟨(some 2),(.alloc [(.int .i64 0),(.bool false),(.int .i64 0),(.bool false),(.int .i64 0),(.str []),(.lst true []),(.int .i64 0),(.lst true []),(.lst true []),(.lst true []),(.lst true []),(.bool false),(.int .i64 0),(.str []),(.bool false),(.str []),(.lst true []),(.int .i64 0),(.bool false),(.lst true []),(.bool false),(.str []),(.bool false),(.lst true []),(.bool false)]),none,[]⟩,⟨(some 3),(.alloc [(.int .i64 0)]),none,[]⟩] none [3,2,1])
def c2R:Zf:=(.seq (.region [⟨(some 6),(.faddr 1 (.t 1)),none,[]⟩,⟨(some 7),(.ld none (.t 6)),none,[]⟩,⟨(some 8),(.build [(.int .i64 0),(.bool false),(.int .i64 0),(.bool false),(.int .i64 0),(.str []),(.lst true []),(.int .i64 0),(.lst true []),(.lst true []),(.lst true []),(.lst true []),(.bool false),(.int .i64 0),(.str []),(.bool false),(.str []),(.lst true []),(.int .i64 0),(.bool false),(.lst true []),(.bool false),(.str []),(.bool false),(.lst true []),(.bool false),(.lst true [])] [(26,1,(.t 7))]),none,[]⟩,⟨(some 9),(.box (.t 8)),none,[]⟩,⟨(some 4),(.mov (.t 9)),none,[]⟩] none [4,3,2,1]) (.seq (.region [⟨(some 10),(.mov (.t 4)),none,[]⟩,⟨(some 11),(.faddr 0 (.t 1)),none,[]⟩,⟨(some 12),(.ld none (.t 11)),none,[]⟩,⟨(some 13),(.call 76 0 true [(.t 10),(.t 12)]),none,[]⟩] none [4,3,2]) (.seq (.region [⟨(some 14),(.mov (.t 4)),none,[]⟩,⟨(some 15),(.call 77 1 true [(.t 14)]),none,[]⟩] none [4,3,2]) (.seq (.region [⟨(some 16),(.mov (.t 4)),none,[]⟩,⟨(some 17),(.nilchk (.t 16)),none,[]⟩,⟨(some 18),(.faddr 0 (.t 17)),none,[]⟩,⟨(some 19),(.ld (some 26) (.t 18)),none,[]⟩,⟨none,(.st 26 (.t 2) (.t 19)),none,[]⟩,⟨none,(.st 1 (.t 3) (.c (.int .i64 0))),none,[]⟩] none [3,2]) .ret))))
def c3R:Zf:=(.seq (.region [⟨(some 3),(.mov (.t 10)),none,[]⟩] none [3,1,0]) (.region [⟨(some 11),(.build [(.int .i64 0),(.bool false),(.int .i64 0),(.bool false),(.int .i64 0),(.str []),(.lst true []),(.int .i64 0),(.lst true []),(.lst true []),(.lst true []),(.lst true []),(.bool false),(.int .i64 0),(.str []),(.bool false),(.str []),(.lst true []),(.int .i64 0),(.bool false),(.lst true []),(.bool false),(.str []),(.bool false),(.lst true []),(.bool false)] []),none,[]⟩,⟨(some 12),(.mov (.t 3)),none,[]⟩,⟨none,(.st 26 (.t 0) (.t 11)),none,[]⟩,⟨none,(.st 1 (.t 1) (.t 12)),none,[]⟩] none []))
def rsR:List Zcx:=[(.cell 2 (some 26)),(.cell 3 none)]
def ZzP:Ann:={ nt:=20,lr:=fun _=>[3,2,1] }
def Zyc:Ann:={ ann 32 with nt:=20,keep:=[2,3],cfg:=fun f=>if f=77 then (1,true) else (0,true) }
def ZDF:Ann:={ ann 75 with nt:=13 }
theorem ZIq:Zk8 Tryd.prog 32 75 20 61 ZzP Zyc ZDF c1R c2R c3R rsR :=
 ⟨_,_,_,_,_,_,_,_,_,_,_,_,_,_,_,_,_,_,_,_,_,_,_,_,_,_,_,_,_,_,_,_,_,_,_,_,_,_,#[],.i64,rfl,by kernel_rfl,rfl,by kernel_rfl,rfl,by kernel_rfl,by kernel_rfl,rfl,rfl,rfl,rfl,by kernel_rfl,rfl,rfl,rfl,by kernel_rfl,rfl,by kernel_rfl,by kernel_rfl⟩
noncomputable def Zeu:List AVal→Za→Option (AVal×Za):=Zhs FC PR BY 61 c1R c2R c3R rsR
noncomputable def PR1:Zco:=fun f=>if f=32 then some Zeu else if f=130 then some Zhn else PR f
noncomputable abbrev E1:ZR:=EV FC PR1 BY
theorem Zx3:OLe E E1:=by
 refine ZGG (fun f hf=>?_) (fun f g hg=>?_)
 ·unfold PR1
  rw [if_neg (by rintro rfl;revert hf;decide),if_neg (by rintro rfl;revert hf;decide)]
  exact hf
 ·by_cases h1:f=32
  ·subst h1
   have : PR 32=some ZiA:=by rfl
   rw [this] at hg;injection hg with hg;subst hg
   exact Or.inr fun _ _=>rfl
  by_cases h2:f=130
  ·subst h2
   have : PR 130=some ZiA:=by rfl
   rw [this] at hg;injection hg with hg;subst hg
   exact Or.inr fun _ _=>rfl
  refine Or.inl ?_
  unfold PR1
  rw [if_neg h1,if_neg h2]
  exact hg
theorem Zbp {f:Nat} {fn:ZI} (hp:PR1 f=none) (hf:FC f=some fn) (args:List AVal) (σ:Za):E1 f args σ=Zap σ.length fn (evC FC PR1 BY σ.length fn.body (enterA 0 args []) σ):=Zr4 hp hf args σ
theorem Zf1 (args:List AVal) (σ:Za):E1 32 args σ=Zeu args σ:=ZuC (by rfl) args σ
theorem Zuq (args:List AVal) (σ:Za):E1 130 args σ=Zhn args σ:=ZuC (by rfl) args σ
theorem ZJx {args:List AVal} {σ σ':Za} {r:AVal} (hg:Zeu args σ=some (r,σ')) :
  (∃ fn,Tryd.prog.funcs[32]?=some fn∧fn.body.isSome=true∧(fn.name == "runtime.NumGoroutine")=false) ∧
  ∀ base w0 I0 I β w (vs:Array Value),KLt base w0→Rel base w0 I0 I β σ w→VRs I β args vs.toList →
   Calls Tryd.prog 32 vs w (fun e w'=>∃ u,Ends r e u∧Zb5 σ.length base w0 I0 I β r σ' u w') :=
 ZLh Ziz (fun n=>by
  have h:Zaq FC PR BY n=Zaq CF PR BY n:=ZnM CF PR BY n
  rw [h]
  exact ZmF Ziz Zuh ann BY n) ZIq hg
end Go.Proofs.YtmlkhhidifjjfaaDoor
namespace Go.Proofs.YtmlkhhidifjjfaaDoor
set_option maxHeartbeats 8000000
set_option maxRecDepth 10000
def P0:List AVal:=[.int .i64 0,.bool false,.int .i64 0,.bool false,.int .i64 0,.str [],.lst true [],.int .i64 0,.lst true [],.lst true [],.lst true [],.lst true [],.bool false,.int .i64 0,.str [],.bool false,.str [],.lst true [],.int .i64 0,.bool false,.lst true [],.bool false,.str [],.bool false,.lst true [],.bool false]
def tmR:Tms:=[(3,.ref 2 0),(2,.ref 1 0),(1,.ref 0 0)]
def σR (b:Int) (l:Zb):Za:=[.var [.int .u8 b,.lst false (l.map Zc)],.var P0,.var [.int .i64 0]]
theorem Zp3 (b:Int) (l:Zb):evC FC PR BY 0 c1R (enterA 0 [.agg [.int .u8 b,.lst false (l.map Zc)]] []) []=some (.normal,tmR,σR b l):=by
 unfold tmR σR P0
 simp -implicitDefEqProofs only [EQA,Nat.reduceAdd,Nat.reduceLT,Nat.reduceEqDiff,Nat.reduceBEq,↓reduceIte,c1R,AVal.cells]
theorem ZCD (b:Int) (l:Zb) {P1 Q:List AVal} {L:AVal} (h1:P1.length=26) (n1:Zd P1=true) (hQ:Q.length=26) (nQ:Zd Q=true) (oQ:Q.all ZD=true) (nL:ZK L=true)
  (hf:E 76 [.ref 0 0,.int .u8 b] (Zg P0 l)=some (.tup [],Zg P1 l)) (hb:E 77 [.ref 0 0] (Zg P1 l)=some (.tup [],[.var (Q++[L])])) :
  evC FC PR BY 3 c2R (tput tmR (some 5) .top) (σR b l)=some (.ret,[(3,.ref 2 0),(2,.ref 1 0)],[.var [.int .u8 b,.lst false (l.map Zc)],.var Q,.var [.int .i64 0],.var (Q++[L]),.free]):=by
 have hF:=fun (σ:Za) site (hs:σ[3]?=some (.var (P0++[.lst false (l.map Zc)])))=>Zc4 (O:=E) (byref:=BY) (f:=76) (rest:=[.int .u8 b]) (by kernel_rfl) rfl (by rfl) (ZaC n1 (by rfl)) rfl rfl hf hs site
 have hB:=fun (σ:Za) site (hf:σ[site]?=some .free) (hs:σ[3]?=some (.var (P1++[.lst false (l.map Zc)])))=>ZD7 (own:=1) (O:=E) (byref:=BY) (f:=77) (rest:=[]) (by kernel_rfl) rfl (ZaC n1 (by rfl)) (ZaC nQ (by simp [Zd,nL])) rfl rfl hb hs site (by simp [Za1,freeAt,hf])
 have b1:=Z2 Q hQ
 have b2:=Zep Q hQ
 unfold P0 at hF
 simp only [List.cons_append,List.nil_append] at hF
 unfold tmR σR P0
 simp -implicitDefEqProofs only [EQA,Zag,Nat.reduceAdd,Nat.reduceLT,Nat.reduceLeDiff,Nat.reduceEqDiff,Nat.reduceBEq,↓reduceIte,c2R,AVal.cells,ZV,hF,hB,b1,b2,hQ,oQ]
theorem Zli (b:Int) (l:Zb) {cs:List AVal} {c:Int} (n1:Zd cs=true)
  (hf:E 76 [.ref 0 0,.int .u8 b] (Zg P0 l)=some (.pan (Zy c),[.var cs])) :
  evC FC PR BY 3 c2R (tput tmR (some 5) .top) (σR b l)=some (.panic (Zy c),[],[.var [.int .u8 b,.lst false (l.map Zc)],.var P0,.var [.int .i64 0],.var cs]):=by
 have hF:=fun (σ:Za) site (hs:σ[3]?=some (.var (P0++[.lst false (l.map Zc)])))=>Zct (O:=E) (byref:=BY) (f:=76) (view:=true) (rest:=[.int .u8 b]) (by kernel_rfl) rfl (by rfl) n1 rfl hf hs site
 unfold P0 at hF
 simp only [List.cons_append,List.nil_append] at hF
 unfold tmR σR P0
 simp -implicitDefEqProofs only [EQA,Zag,Nat.reduceAdd,Nat.reduceLT,Nat.reduceLeDiff,Nat.reduceEqDiff,Nat.reduceBEq,↓reduceIte,c2R,AVal.cells,ZV,hF]
theorem Zs8 (b:Int) (l:Zb) {P1 cs:List AVal} {c:Int} (h1:P1.length=26) (n1:Zd P1=true) (n2:Zd cs=true)
  (hf:E 76 [.ref 0 0,.int .u8 b] (Zg P0 l)=some (.tup [],Zg P1 l)) (hb:E 77 [.ref 0 0] (Zg P1 l)=some (.pan (Zy c),[.var cs])) :
  evC FC PR BY 3 c2R (tput tmR (some 5) .top) (σR b l)=some (.panic (Zy c),[],[.var [.int .u8 b,.lst false (l.map Zc)],.var P0,.var [.int .i64 0],.var cs,.free]):=by
 have hF:=fun (σ:Za) site (hs:σ[3]?=some (.var (P0++[.lst false (l.map Zc)])))=>Zc4 (O:=E) (byref:=BY) (f:=76) (rest:=[.int .u8 b]) (by kernel_rfl) rfl (by rfl) (ZaC n1 (by rfl)) rfl rfl hf hs site
 have hB:=fun (σ:Za) site (hf:σ[site]?=some .free) (hs:σ[3]?=some (.var (P1++[.lst false (l.map Zc)])))=>ZFc (own:=1) (O:=E) (byref:=BY) (f:=77) (view:=true) (rest:=[]) (by kernel_rfl) rfl (ZaC n1 (by rfl)) n2 rfl hb hs site (by simp [Za1,freeAt,hf])
 unfold P0 at hF
 simp only [List.cons_append,List.nil_append] at hF
 unfold tmR σR P0
 simp -implicitDefEqProofs only [EQA,Zag,Nat.reduceAdd,Nat.reduceLT,Nat.reduceLeDiff,Nat.reduceEqDiff,Nat.reduceBEq,↓reduceIte,c2R,AVal.cells,ZV,hF,hB]
theorem ZwQ (b c:Int) (l:Zb) (τ:Za):evC FC PR BY 3 c3R [(10,.int .i64 c),(1,.ref 2 0),(0,.ref 1 0)] (.var [.int .u8 b,.lst false (l.map Zc)]::.var P0::.var [.int .i64 0]::τ)=some (.normal,[],.var [.int .u8 b,.lst false (l.map Zc)]::.var P0::.var [.int .i64 c]::τ):=by
 unfold P0
 simp -implicitDefEqProofs only [EQA,Nat.reduceAdd,Nat.reduceLT,Nat.reduceLeDiff,Nat.reduceEqDiff,reduceCtorEq,↓reduceIte,c3R,AVal.cells,ZV,ZD]
theorem ZqW (b c:Int) (l:Zb) {Q:List AVal} (τ:Za) (hQ:Q.length=26) (nQ:Zd Q=true):Ze6 0 1 2 rsR (.var [.int .u8 b,.lst false (l.map Zc)]::.var Q::.var [.int .i64 c]::τ)=some (.tup [.agg Q,.int .i64 c],[]):=by
 have h1:resA [(3,.ref 2 0),(2,.ref 1 0)] (.var [.int .u8 b,.lst false (l.map Zc)]::.var Q::.var [.int .i64 c]::τ) rsR=some (.tup [.agg Q,.int .i64 c]):=by
  have h2:Q.take 26=Q:=List.take_of_length_le (by omega)
  simp [resA,resAll,resOne,rsR,tget,ldA,partA,hQ,h2]
 unfold Ze6
 rw [h1]
 generalize (.var [.int .u8 b,.lst false (l.map Zc)]::.var Q::.var [.int .i64 c]::τ:Za)=σ
 have e1:=ZaT (Zl σ 0 []) Q nQ
 have hr:Zr [AVal.tup [.agg Q,.int .i64 c]]=[]:=by simp [Zr,ZZ,e1.2]
 have hi:ZE 0 [AVal.tup [.agg Q,.int .i64 c]] σ=[]:=by
  simp only [ZE,hr,List.nil_append,List.range_zero,List.flatMap_nil]
  rfl
 simp [Zal,gcA,hi,Ze,Zk,e1.1,Zx]
theorem Zn4 (b:Int) (l:Zb) {P1 Q:List AVal} {L:AVal} (h1:P1.length=26) (n1:Zd P1=true) (hQ:Q.length=26) (nQ:Zd Q=true) (oQ:Q.all ZD=true) (nL:ZK L=true)
  (hf:E 76 [.ref 0 0,.int .u8 b] (Zg P0 l)=some (.tup [],Zg P1 l)) (hb:E 77 [.ref 0 0] (Zg P1 l)=some (.tup [],[.var (Q++[L])])) :
  Zeu [.agg [.int .u8 b,.lst false (l.map Zc)]] []=some (.tup [.agg Q,.int .i64 0],[]):=by
 unfold Zeu Zhs
 show (match evC FC PR BY 0 c1R (enterA 0 [.agg [.int .u8 b,.lst false (l.map Zc)]] []) [] with | some (.normal,tm1,σ1)=>_ | _=>none)=_
 rw [Zp3]
 show (if (0:Nat)≤(σR b l).length∧1 < (σR b l).length∧2 < (σR b l).length then Zft FC PR BY 61 c2R c3R rsR 0 (tput tmR (some 5) .top) (σR b l) 1 2 else none)=_
 rw [if_pos (by simp [σR])]
 unfold Zft
 rw [show (σR b l).length=3 from rfl,ZCD b l h1 n1 hQ nQ oQ nL hf hb]
 exact ZqW b 0 l _ hQ nQ
theorem Zgq (b c:Int) (l:Zb) {τ:Za} (h:evC FC PR BY 3 c2R (tput tmR (some 5) .top) (σR b l)=some (.panic (Zy c),[],.var [.int .u8 b,.lst false (l.map Zc)]::.var P0::.var [.int .i64 0]::τ)) :
  Zeu [.agg [.int .u8 b,.lst false (l.map Zc)]] []=some (.tup [.agg P0,.int .i64 c],[]):=by
 unfold Zeu Zhs
 show (match evC FC PR BY 0 c1R (enterA 0 [.agg [.int .u8 b,.lst false (l.map Zc)]] []) [] with | some (.normal,tm1,σ1)=>_ | _=>none)=_
 rw [Zp3]
 show (if (0:Nat)≤(σR b l).length∧1 < (σR b l).length∧2 < (σR b l).length then Zft FC PR BY 61 c2R c3R rsR 0 (tput tmR (some 5) .top) (σR b l) 1 2 else none)=_
 rw [if_pos (by simp [σR])]
 unfold Zft
 rw [show (σR b l).length=3 from rfl,h]
 show (if (61:Nat)=61 then (match evC FC PR BY 3 c3R [(10,.int .i64 c),(1,.ref 2 0),(0,.ref 1 0)] _ with | some (.normal,_,σ3)=>Ze6 0 1 2 rsR σ3 | _=>none) else none)=_
 rw [if_pos rfl,ZwQ]
 exact ZqW b c l _ rfl (by rfl)
end Go.Proofs.YtmlkhhidifjjfaaDoor
namespace Go.Proofs.YtmlkhhidifjjfaaDoor
set_option maxHeartbeats 2000000
set_option maxRecDepth 10000
theorem ZIg (a b:Zu):E 92 [Zo a,Zo b] []=some (.bool (a.id == b.id && a.num == b.num && a.text == b.text && a.pair == b.pair && a.data == b.data),[]):=by
 rw [Zh (by rfl) ZIZ]
 simp -implicitDefEqProofs only [EQA,ZG,Zac,Zds,Zma,Nat.reduceAdd,Nat.reduceLT,Nat.reduceEqDiff,Nat.reduceBEq,Zfh,Zz,Zau,unG,ne_eq,Option.some.injEq,reduceCtorEq,decide_false,Z6,ite_self,↓reduceIte,ZCf,Zl2,ZKD,oI,ZO,Zo,ZbO]
theorem ZIl (a b:Zu):(a.id == b.id && a.num == b.num && a.text == b.text && a.pair == b.pair && a.data == b.data)=(a == b):=by
 obtain ⟨i,n,t,p,d⟩:=a
 obtain ⟨i',n',t',p',d'⟩:=b
 rw [Bool.eq_iff_iff]
 simp [and_assoc]
theorem ZAa (a:Zu):Z4 (Zo a)=true:=by
 simp -implicitDefEqProofs only [eq_self,Bool.and_self,List.all_cons,List.all_nil,ZrD,Zu6,Zp8,ZsQ,Zo,ZbO,ZO]
theorem Zwy (a:Zu):ZH (Zo a)=Zo a:=by
 simp -implicitDefEqProofs only [eq_self,List.map_cons,List.map_nil,Zt0,Ztp,ZrV,Zq0,Zo,ZbO,ZO]
theorem ZGi (σ:Za) (site own:Nat) (view:Bool) (i n:Int) (t p d:Zb) (i' n':Int) (t' p' d':Zb):Zj E BY σ site 92 own view [.agg [.int .i64 i,.int .i64 n,.str t,.str p,.lst false (d.map Zc)],.agg [.int .i64 i',.int .i64 n',.str t',.str p',.lst false (d'.map Zc)]]=some (.bool (i == i' && n == n' && t == t' && p == p' && d == d'),σ,{}) :=
 Zcp (ZIg ⟨i,n,t,p,d⟩ ⟨i',n',t',p',d'⟩) (by kernel_rfl) (by simp only [List.all_cons,ZAa];rfl) (by simp only [List.map_cons,Zwy];rfl) rfl (fun _=>rfl) _ _ _ _
theorem Zsr (a b:List Zu) (h:a.length=b.length) (hl:a.length≤9223372036854775807):∀ (r s:List Zu) (i:Nat),a.drop i=r→b.drop i=s→ZkB 0 [(17,.int .i64 i),(16,.int .i64 a.length),(15,Zba a),(2,.fn 92 []),(1,Zba b)] []=some (.bool (r == s),[])
 | [],s,i,ha,hb=>by
  have hs:s=[]:=by
   subst hb;rw [List.drop_eq_nil_iff] at ha ⊢;omega
  subst hs
  have h1:=Zdm ha
  unfold ZkB
  rw [Zad]
  simp -implicitDefEqProofs only [EQA,Nat.reduceLT,Nat.reduceEqDiff,decide_false,↓reduceIte,ZnW,ZH3,ZlW,Zrz,Zkg,oI,oN,Zba,h1]
 | x::r,[],i,ha,hb=>by
  have:=(Zaf ha).2.2;rw [List.drop_eq_nil_iff] at hb;omega
 | x::r,y::s,i,ha,hb=>by
  have ih:=Zsr a b h hl r s (i+1) (Zaf ha).2.1 (Zaf hb).2.1
  have h1:(i:Int) < a.length:=by have:=(Zaf ha).2.2;omega
  have e1:=iad (Zaf ha).1 Zo (k:=5) rfl
  have e2:=iad (Zaf hb).1 Zo (k:=5) rfl
  have e3:=Zc7 h1 hl
  unfold ZkB at ih ⊢
  rw [Zad]
  simp -implicitDefEqProofs only [EQA,ZG,Zac,Nat.reduceAdd,Nat.reduceLT,Nat.reduceLeDiff,Nat.reduceEqDiff,Nat.reduceBEq,unA,decide_true,↓reduceIte,gcT,gcA,ZE,ZA,Zx,ZQ,ZnW,Zrz,Zkg,oI,oN,ZO,Zba,Zo,ZbO,h1,e1,e2,e3,ZGi]
  simp only [Zba] at ih
  rw [ih,ZIl]
  by_cases hx:x=y <;> simp [hx]
theorem Zxh (a b:List Zu) (hl:a.length≤9223372036854775807):E 91 [Zba a,Zba b,.fn 92 []] []=some (.bool (a == b),[]):=by
 rw [Zh (by rfl) ZCL]
 by_cases h:a.length=b.length
 ·have:=Zsr a b h hl a b 0 rfl rfl
  unfold ZkB at this
  simp only [Zba] at this
  have e:=Zlq h
  simp -implicitDefEqProofs only [EQA,Zac,Nat.reduceAdd,Nat.reduceLT,Nat.reduceEqDiff,reduceCtorEq,↓reduceIte,gcT,gcA,ZE,ZA,Zx,ZQ,Zqm,Zlt,oI,Zba,e]
  exact this
 ·have e:=Zjs h
  simp -implicitDefEqProofs only [EQA,Nat.reduceAdd,Nat.reduceLT,Nat.reduceEqDiff,reduceCtorEq,↓reduceIte,Zqm,Zlt,ZnW,oI,Zba,e,ZjJ h]
theorem ZD8 (σ:Za) (site own:Nat) (view:Bool) (a b:List Zu) (hl:a.length≤9223372036854775807):Zj E BY σ site 91 own view [.lst false (a.map Zo),.lst false (b.map Zo),.fn 92 []]=some (.bool (a == b),σ,{}) :=
 Zcp (Zxh a b hl) (by kernel_rfl) (by simp -implicitDefEqProofs only [ZcZ,Zri,Zby,eq_self,Zba]) (by simp -implicitDefEqProofs only [ZG,Zby,eq_self,Zba]) rfl (fun _=>rfl) _ _ _ _
theorem Zv0 (a b:List Zu) (hl:a.length≤9223372036854775807):E 43 [Zba a,Zba b] []=some (.bool (a == b),[]):=by
 rw [Zh (by rfl) ZFd]
 simp -implicitDefEqProofs only [EQA,Nat.reduceLT,Nat.reduceEqDiff,reduceCtorEq,↓reduceIte,ZHe,Zpx,ZMu,oI,Zba,ZD8,hl]
theorem ZkM (σ:Za) (site own:Nat) (view:Bool) (a b:List Zu) (hl:a.length≤9223372036854775807):Zj E BY σ site 43 own view [.lst false (a.map Zo),.lst false (b.map Zo)]=some (.bool (a == b),σ,{}) :=
 Zcp (Zv0 a b hl) (by kernel_rfl) (by simp -implicitDefEqProofs only [ZcZ,Zby,eq_self,Zba]) (by simp -implicitDefEqProofs only [ZG,Zby,eq_self,Zba]) rfl (fun _=>rfl) _ _ _ _
end Go.Proofs.YtmlkhhidifjjfaaDoor
namespace Go.Proofs.YtmlkhhidifjjfaaDoor
set_option maxHeartbeats 8000000
set_option maxRecDepth 10000
theorem Zvj (b:Zb):List.take b.length (b.map Zc)=b.map Zc:=List.take_of_length_le (by simp)
def ZC (x:Int):Nat:=(x % 18446744073709551616).toNat
theorem ZnN (x:Int):IntKind.u64.wrap x=((ZC x:Nat):Int):=by rw [IntKind.wrap_u64,ZC];omega
def ZeL (k:Int) (p:Zu):Zb×Zb :=
 if k=1 then (beB (ZC p.num) 1,[]) else if k=2 then (beB (ZC p.num) 2,[]) else if k=3 then (beB (ZC p.num) 4,[])
 else if k=4 then ((Zai p.num).1,[]) else if k=5 then ((Zah p.text).1,[]) else if k=6 then ((ZbF p.data).1,[])
 else if k=7 then ((Zah p.text).1,(Zah p.pair).1) else ([],[])
def ZcP (p:Zu):Zb:=(Zai p.id).1++((ZeL (Zb1 p.id) p).1++(ZeL (Zb1 p.id) p).2)
theorem Zti:∀ k n:Nat,(Zcm k n).length≤k+1
 | 0,n=>by simp [Zcm]
 | k+1,n=>by
  unfold Zcm
  split
  ·simp
  ·have:=Zti k (n / 128)
   simp only [List.length_cons];omega
theorem Zgi (n:Int):(Zai n).1.length≤4:=by
 unfold Zai
 split
 ·simp
 ·exact Zti 3 _
theorem Zo6 (b:Zb):(ZbF b).1.length≤65537:=by
 unfold ZbF
 split
 ·simp
 ·simp only [List.length_append,ZaJ];omega
theorem ZiO (b:Zb):(Zah b).1.length≤65537:=by
 unfold Zah
 split
 ·exact Zo6 b
 ·simp
theorem Zvm (k:Int) (p:Zu):(ZeL k p).1.length≤65537∧(ZeL k p).2.length≤65537:=by
 have h1:=Zgi p.num
 have h2:=ZiO p.text
 have h3:=ZiO p.pair
 have h4:=Zo6 p.data
 unfold ZeL
 repeat' split
 all_goals simp only [ZaJ,List.length_nil]
 all_goals omega
theorem ZrK (p:Zu):(ZcP p).length≤200000:=by
 have h1:=Zgi p.id
 have h2:=Zvm (Zb1 p.id) p
 unfold ZcP
 simp only [List.length_append];omega
theorem ZhM (σ:Za) (site own:Nat) (f:Bool) (a v w:Zb) (h:a.length+(v.length+w.length)≤140737488355328):Zj E BY σ site 56 own true [.lst f [.lst false (a.map Zc),.lst false (v.map Zc),.lst false (w.map Zc)]]=some (.lst false ((a++(v++w)).map Zc),σ,{}):=by
 have:=ZhL σ site own f a [v,w] (by simp) (by simpa using h)
 simpa only [List.map_cons,List.map_nil,ZO,List.flatten_cons,List.flatten_nil,List.append_nil] using this
theorem Zo1 (p:Zu) (k:Int) (W:Nat) (hk:Zb1 p.id=k) (hW:(k=1∧W=1)∨(k=2∧W=2)∨(k=3∧W=4)):E 89 [Zo p] []=some (.lst false (((Zai p.id).1++(beB (ZC p.num) W++[])).map Zc),[]):=by
 have hK:=fun σ site own=>ZiK σ site own p.id
 have hV:=fun σ site own=>Zf3 σ site own p.id
 unfold ZeJ at hV
 have l0:=Zgi p.id
 have hP:=fun σ site own=>Zj8 σ site own (ZC p.num) W (by omega) (by omega)
 have hJ:=fun σ site own f=>ZhM σ site own f (Zai p.id).1 (beB (ZC p.num) W) [] (by simp only [ZaJ,List.length_nil];omega)
 simp only [List.map_nil] at hJ
 have hu:=ZnN p.num
 rw [hk] at hK
 generalize beB (ZC p.num) W=B at *
 have z1:((1:Nat):Int)=1:=rfl
 have z2:((2:Nat):Int)=2:=rfl
 have z4:((4:Nat):Int)=4:=rfl
 rcases hW with ⟨rfl,rfl⟩ | ⟨rfl,rfl⟩ | ⟨rfl,rfl⟩
 ·have w1:IntKind.i64.wrap (1 - 1)=0:=rfl
  have w2:IntKind.i64.wrap (1*2 ^ min (Int.toNat 0) IntKind.i64.bits)=1:=rfl
  have ng:¬((0:Int) < 0):=by decide
  rw [z1] at hP
  rw [Zh (by rfl) Zge]
  simp -implicitDefEqProofs only [EQA,Zs,Nat.reduceLT,Nat.reduceEqDiff,Nat.reduceBEq,ZaA,decide_true,↓reduceIte,Zgc,Zey,Zfx,oI,ZO,Zo,ZbO,hK,hV,hP,hJ,hu,w1,w2,ng,viewAs,ZN,ZL,Zn,List.foldl_cons,List.foldl_nil,AVal.cells]
 ·have w1:IntKind.i64.wrap (2 - 1)=1:=rfl
  have w2:IntKind.i64.wrap (1*2 ^ min (Int.toNat 1) IntKind.i64.bits)=2:=rfl
  have ng:¬((1:Int) < 0):=by decide
  rw [z2] at hP
  rw [Zh (by rfl) Zge]
  simp -implicitDefEqProofs only [EQA,Zs,Nat.reduceLT,Nat.reduceEqDiff,Nat.reduceBEq,ZaA,decide_true,↓reduceIte,Zgc,Zey,Zfx,oI,ZO,Zo,ZbO,hK,hV,hP,hJ,hu,w1,w2,ng,Int.reduceBEq,viewAs,ZN,ZL,Zn,List.foldl_cons,List.foldl_nil,AVal.cells]
 ·have w1:IntKind.i64.wrap (3 - 1)=2:=rfl
  have w2:IntKind.i64.wrap (1*2 ^ min (Int.toNat 2) IntKind.i64.bits)=4:=rfl
  have ng:¬((2:Int) < 0):=by decide
  rw [z4] at hP
  rw [Zh (by rfl) Zge]
  simp -implicitDefEqProofs only [EQA,Zs,Nat.reduceLT,Nat.reduceEqDiff,Nat.reduceBEq,ZaA,decide_true,↓reduceIte,Zgc,Zey,Zfx,oI,ZO,Zo,ZbO,hK,hV,hP,hJ,hu,w1,w2,ng,Int.reduceBEq,viewAs,ZN,ZL,Zn,List.foldl_cons,List.foldl_nil,AVal.cells]
theorem ZEg (p:Zu) (ht:p.text.length≤9223372036854775807) (hp:p.pair.length≤9223372036854775807) (hd:p.data.length≤9223372036854775807):E 89 [Zo p] []=some (.lst false ((ZcP p).map Zc),[]):=by
 have hK:=fun σ site own=>ZiK σ site own p.id
 have hV:=fun σ site own=>Zf3 σ site own p.id
 unfold ZeJ at hV
 have l0:=Zgi p.id
 unfold ZcP
 rcases ZuK p.id with hk | hk | hk | hk | hk | hk | hk | hk
 ·rw [hk] at hK ⊢
  rw [show ZeL 0 p=([],[]) from rfl,Zh (by rfl) Zge]
  have hJ:=fun σ site own f=>ZhM σ site own f (Zai p.id).1 [] [] (by simp only [List.length_nil];omega)
  simp only [List.map_nil] at hJ
  simp -implicitDefEqProofs only [EQA,Zs,Nat.reduceLT,Nat.reduceEqDiff,Nat.reduceBEq,decide_true,↓reduceIte,Zgc,Zey,Zfx,oI,ZO,Zo,ZbO,hK,hV,hJ,Int.reduceBEq,viewAs,ZN,ZL,Zn,List.foldl_cons,List.foldl_nil,AVal.cells]
 ·have h:=Zo1 p 1 1 hk (by simp)
  rw [hk];exact h
 ·have h:=Zo1 p 2 2 hk (by simp)
  rw [hk];exact h
 ·have h:=Zo1 p 3 4 hk (by simp)
  rw [hk];exact h
 ·rw [hk] at hK ⊢
  rw [show ZeL 4 p=((Zai p.num).1,[]) from rfl,Zh (by rfl) Zge]
  have l1:=Zgi p.num
  have hJ:=fun σ site own f=>ZhM σ site own f (Zai p.id).1 (Zai p.num).1 [] (by simp only [List.length_nil];omega)
  simp only [List.map_nil] at hJ
  have hV2:=fun σ site own=>Zf3 σ site own p.num
  unfold ZeJ at hV2
  simp -implicitDefEqProofs only [EQA,Zs,Nat.reduceLT,Nat.reduceEqDiff,Nat.reduceBEq,decide_true,↓reduceIte,Zgc,Zey,Zfx,oI,ZO,Zo,ZbO,hK,hV,hV2,hJ,Int.reduceBEq,viewAs,ZN,ZL,Zn,List.foldl_cons,List.foldl_nil,AVal.cells]
 ·rw [hk] at hK ⊢
  rw [show ZeL 5 p=((Zah p.text).1,[]) from rfl,Zh (by rfl) Zge]
  have l1:=ZiO p.text
  have hJ:=fun σ site own f=>ZhM σ site own f (Zai p.id).1 (Zah p.text).1 [] (by simp only [List.length_nil];omega)
  simp only [List.map_nil] at hJ
  have hV2:=fun σ site own=>Zim σ site own p.text ht
  unfold byT at hV2
  simp -implicitDefEqProofs only [EQA,Zs,Nat.reduceLT,Nat.reduceEqDiff,Nat.reduceBEq,decide_true,↓reduceIte,Zgc,Zey,Zfx,oI,ZO,Zo,ZbO,hK,hV,hV2,hJ,Int.reduceBEq,viewAs,ZN,ZL,Zn,List.foldl_cons,List.foldl_nil,AVal.cells]
 ·rw [hk] at hK ⊢
  rw [show ZeL 6 p=((ZbF p.data).1,[]) from rfl,Zh (by rfl) Zge]
  have l1:=Zo6 p.data
  have hJ:=fun σ site own f=>ZhM σ site own f (Zai p.id).1 (ZbF p.data).1 [] (by simp only [List.length_nil];omega)
  simp only [List.map_nil] at hJ
  have hV2:=fun σ site own f=>ZoH σ site own f p.data hd
  unfold byT at hV2
  simp -implicitDefEqProofs only [EQA,Zs,Nat.reduceLT,Nat.reduceEqDiff,Nat.reduceBEq,decide_true,↓reduceIte,Zgc,Zey,Zfx,oI,ZO,Zo,ZbO,hK,hV,hV2,hJ,Int.reduceBEq,viewAs,ZN,ZL,Zn,List.foldl_cons,List.foldl_nil,AVal.cells]
 ·rw [hk] at hK ⊢
  rw [show ZeL 7 p=((Zah p.text).1,(Zah p.pair).1) from rfl,Zh (by rfl) Zge]
  have l1:=ZiO p.text
  have l2:=ZiO p.pair
  have hJ:=fun σ site own f=>ZhM σ site own f (Zai p.id).1 (Zah p.text).1 (Zah p.pair).1 (by omega)
  have hV2:=fun σ site own=>Zim σ site own p.text ht
  have hV3:=fun σ site own=>Zim σ site own p.pair hp
  unfold byT at hV2 hV3
  simp -implicitDefEqProofs only [EQA,Zs,Nat.reduceLT,Nat.reduceEqDiff,Nat.reduceBEq,decide_true,↓reduceIte,Zgc,Zey,Zfx,oI,ZO,Zo,ZbO,hK,hV,hV2,hV3,hJ,Int.reduceBEq,viewAs,ZN,ZL,Zn,List.foldl_cons,List.foldl_nil,AVal.cells]
def ZeS (p:Zu):Prop:=p.text.length≤9223372036854775807∧p.pair.length≤9223372036854775807∧p.data.length≤9223372036854775807
theorem ZsI (σ:Za) (site own:Nat) (p:Zu) (h:ZeS p):Zj E BY σ site 89 own true [.agg [.int .i64 p.id,.int .i64 p.num,.str p.text,.str p.pair,.lst false (p.data.map Zc)]]=some (.lst false ((ZcP p).map Zc),σ,{}) :=
 Zbr (ZEg p h.1 h.2.1 h.2.2) (by kernel_rfl) rfl rfl rfl (fun _=>rfl) _ _ _
def ZfP (w:Int) (l:List Zu) (b:Zb):Zb×Int :=
 if (Zai b.length).2≠0 then ([],129)
 else if (Z0 w ((Zai b.length).1++b)).2.2≠0∨(Z0 w ((Zai b.length).1++b)).2.1≠((Zai b.length).1++b).length∨((Z0 w ((Zai b.length).1++b)).1 == l)=false then ([],129)
 else ((Zai b.length).1++b,0)
def ZaF (w:Int) (l:List Zu):Zb×Int:=ZfP w l (l.map ZcP).flatten
theorem ZuF (σ:Za) (site own:Nat) (f:Bool) (a v:Zb) (h:a.length+v.length≤140737488355328):Zj E BY σ site 56 own true [.lst f [.lst false (a.map Zc),.lst false (v.map Zc)]]=some (.lst false ((a++v).map Zc),σ,{}):=by
 have:=ZhL σ site own f a [v] (by simp) (by simpa using h)
 simpa only [List.map_cons,List.map_nil,ZO,List.flatten_cons,List.flatten_nil,List.append_nil] using this
end Go.Proofs.YtmlkhhidifjjfaaDoor
namespace Go.Proofs.YtmlkhhidifjjfaaDoor
set_option maxHeartbeats 8000000
set_option maxRecDepth 10000
theorem Zny (w:Int):∀ (n:Nat) (b:Zb) (l:List Zu),(ZdZ w n b l).1.length≤l.length+b.length
 | n,[],l=>by rw [ZqY];simp
 | 0,c::r,l=>by simp [ZdZ]
 | n+1,c::r,l=>by
  rw [ZrP]
  split
  ·rename_i h
   have hu:=ZsF h
   have ih:=Zny w n ((c::r).drop (ZbT w (c::r) l).2.1) (l++[(ZbT w (c::r) l).1])
   rw [List.length_drop,List.length_append,List.length_singleton] at ih
   omega
  ·simp
theorem ZJE (w:Int) (b:Zb):(Z0 w b).1.length≤b.length:=by
 unfold Z0
 split
 ·simp
 ·split
  ·have:=Zny w (ZT b).1 ((b.take ((ZT b).2.1+(ZT b).1)).drop (ZT b).2.1) []
   simp only [List.length_drop,List.length_take,List.length_nil] at this
   simp only
   omega
  ·simp
def okV (k:Int) (p:Zu):Bool :=
 if k=1 then decide (p.num≥0) && decide (p.num < 256) else if k=2 then decide (p.num≥0) && decide (p.num < 65536) else if k=3 then decide (p.num≥0) && decide (p.num < 4294967296)
 else if k=4 then (Zai p.num).2 == 0 else if k=5 then (Zah p.text).2 == 0 else if k=6 then (ZbF p.data).2 == 0
 else if k=7 then (Zah p.text).2 == 0 && (Zah p.pair).2 == 0 else false
def ZJf (p:Zu):Bool:=!(decide (p.id < 1) || decide (p.id > 127)) && okV (Zb1 p.id) p
end Go.Proofs.YtmlkhhidifjjfaaDoor
namespace Go.Proofs.YtmlkhhidifjjfaaDoor
set_option maxHeartbeats 8000000
set_option maxRecDepth 10000
def ZgO (f:Bool) (x:Zb×Int):AVal:=.tup [.lst f (x.1.map Zc),.int .i64 x.2]
theorem ZvJ (w:Int) (l:List Zu) (hl:l.length≤9223372036854775807) (b:Zb) (hb:b.length≤140737488355000) (i:Nat) (h1:¬(i:Int) < l.length) :
  ∃ f,ZiX 0 [(16,.int .i64 i),(15,.int .i64 l.length),(14,.lst false (l.map Zo)),(6,.sl 0 0 0 b.length),(1,.lst false (l.map Zo)),(0,.int .i64 w)] [.row 0 1 (b.map Zc)]=some (ZgO f (ZfP w l b),[]):=by
 have hV:=fun σ site own=>Zf3 σ site own (b.length:Int)
 unfold ZeJ at hV
 have l0:=Zgi (b.length:Int)
 have hJ:=fun σ site own f=>ZuF σ site own f (Zai b.length).1 b (by omega)
 have hR:=fun σ site own f=>ZkL σ site own f w ((Zai b.length).1++b) (by simp;omega)
 have hS:=fun σ site own view (a:List Zu) (ha:a.length≤9223372036854775807)=>ZkM σ site own view a l ha
 have ht:=Zvj b
 have hlen:((Zai b.length).1++b).length≤140737488355328:=by simp;omega
 have hrl:=ZJE w ((Zai b.length).1++b)
 unfold ZfP ZgO
 generalize Zai b.length=V at *
 obtain ⟨v,e⟩:=V
 simp only at hV hJ hR hlen hrl ⊢
 generalize hc:v++b=c at *
 generalize Z0 w c=R at *
 obtain ⟨again,used,code⟩:=R
 simp only at hR hrl ⊢
 have hS2:=fun σ site own view=>hS σ site own view again (by omega)
 unfold ZiX
 by_cases he:e=0
 ·subst he
  have n0:((0:Int) != 0)=false:=rfl
  rw [if_neg (by simp)]
  by_cases hc0:code=0
  ·subst hc0
   by_cases hu:used=c.length
   ·have n2:((used:Int) != (c.length:Int))=false:=by simp [hu]
    cases hs:(again == l) <;> rw [hs] at hS2
    ·refine ⟨true,?_⟩
     rw [if_pos (by simp),Zad]
     simp -implicitDefEqProofs only [EQA,Zs,Nat.reduceLT,Nat.reduceEqDiff,unA,Zz,unG,ne_eq,Option.some.injEq,reduceCtorEq,decide_true,decide_false,Z6,↓reduceIte,Zd,ZhQ,ZhC,ZfM,Zfw,Zes,oI,oN,h1,hV,hJ,hR,hS2,ht,n0,n2,viewAs,ZN,ZL,Zn,List.foldl_cons,List.foldl_nil,Nat.le_refl,AVal.cells]
    ·refine ⟨false,?_⟩
     rw [if_neg (by simp [hu]),Zad]
     simp -implicitDefEqProofs only [EQA,Zs,Nat.reduceLT,Nat.reduceEqDiff,unA,Zz,unG,ne_eq,Option.some.injEq,reduceCtorEq,decide_true,decide_false,Z6,↓reduceIte,Zd,ZhQ,ZhC,ZfM,Zfw,Zes,oI,oN,h1,hV,hJ,hR,hS2,ht,n0,n2,viewAs,ZN,ZL,Zn,List.foldl_cons,List.foldl_nil,Nat.le_refl,AVal.cells]
   ·have n2:((used:Int) != (c.length:Int))=true:=by simp;omega
    refine ⟨true,?_⟩
    rw [if_pos (by simp [hu]),Zad]
    simp -implicitDefEqProofs only [EQA,Zs,Nat.reduceLT,Nat.reduceEqDiff,Zz,Zau,unG,ne_eq,Option.some.injEq,reduceCtorEq,decide_true,decide_false,Z6,↓reduceIte,Zd,ZhQ,ZhC,ZfM,Zfw,Zes,oI,oN,h1,hV,hJ,hR,ht,n0,n2,viewAs,ZN,ZL,Zn,List.foldl_cons,List.foldl_nil,Nat.le_refl,AVal.cells]
  ·have n1:(code != 0)=true:=by simpa using hc0
   refine ⟨true,?_⟩
   rw [if_pos (by simp [hc0]),Zad]
   simp -implicitDefEqProofs only [EQA,Zs,Nat.reduceLT,Nat.reduceEqDiff,Zz,Zau,ne_eq,Option.some.injEq,reduceCtorEq,decide_true,decide_false,Z6,↓reduceIte,Zd,ZhQ,ZhC,ZfM,Zfw,Zes,oI,oN,h1,hV,hJ,hR,ht,n0,n1,viewAs,ZN,ZL,Zn,List.foldl_cons,List.foldl_nil,Nat.le_refl,AVal.cells]
 ·have n1:(e != 0)=true:=by simpa using he
  refine ⟨true,?_⟩
  rw [if_pos he,Zad]
  simp -implicitDefEqProofs only [EQA,Zs,Nat.reduceLT,Nat.reduceEqDiff,reduceCtorEq,decide_false,↓reduceIte,Zd,ZhQ,ZhC,ZfM,Zfw,Zes,oI,oN,h1,hV,n1]
theorem Zqh (w:Int) (l:List Zu) (hl:l.length≤9223372036854775807) (hx:∀ p ∈ l,ZeS p):∀ (r:List Zu) (i:Nat) (acc:Zb),l.drop i=r→acc.length+r.length*200000≤140737488355000 →
  ∃ f,ZiX 0 [(16,.int .i64 i),(15,.int .i64 l.length),(14,.lst false (l.map Zo)),(6,.sl 0 0 0 acc.length),(1,.lst false (l.map Zo)),(0,.int .i64 w)] [.row 0 1 (acc.map Zc)]=some (ZgO f (ZfP w l (acc++(r.map ZcP).flatten)),[])
 | [],i,acc,h,hn=>by
  simp only [List.map_nil,List.flatten_nil,List.append_nil]
  exact ZvJ w l hl acc (by simpa using hn) i (Zdm h)
 | p::r,i,acc,h,hn=>by
  have hlp:=ZrK p
  simp only [List.length_cons] at hn
  obtain ⟨f,ih⟩:=Zqh w l hl hx r (i+1) (acc++ZcP p) (Zaf h).2.1 (by rw [List.length_append];omega)
  refine ⟨f,?_⟩
  have h1:(i:Int) < l.length:=by have:=(Zaf h).2.2;omega
  have e1:=iad (Zaf h).1 Zo (k:=5) rfl
  have e3:=Zc7 h1 hl
  have hC:=fun σ site own=>ZsI σ site own p (hx p (List.mem_of_getElem? (Zaf h).1))
  rw [List.append_assoc] at ih
  rw [List.map_cons,List.flatten_cons]
  generalize ZcP p=q at *
  have k1:=Zfm q
  have k2:(acc.length+q.length)*1≤140737488355328:=by omega
  have e4:(acc++q).map Zc=acc.map Zc++q.map Zc:=by simp
  have e5:(acc++q).length=acc.length+q.length:=by simp
  rw [e4,e5] at ih
  unfold ZiX at ih ⊢
  rw [Zad]
  simp -implicitDefEqProofs only [EQA,Zac,ZaL,Nat.reduceAdd,Nat.reduceLT,Nat.reduceEqDiff,Nat.reduceBEq,ne_eq,reduceCtorEq,decide_true,Z6,↓reduceIte,gcT,gcA,ZE,ZA,Zl,Zx,Z1,Zp,ZU,ZJ,ZQ,Zfw,Zes,oI,oN,ZO,Zo,ZbO,h1,e1,e3,hC,k1,k2,Zbk,Nat.le_refl,AVal.cells]
  exact ih
theorem ZF1 (w:Int) (l:List Zu) (hl:l.length≤700000000) (hx:∀ p ∈ l,ZeS p):∃ f,E 42 [.int .i64 w,Zba l] []=some (ZgO f (ZaF w l),[]):=by
 have z0:((0:Nat):Int)=0:=rfl
 unfold ZaF
 cases l with
 | nil =>
  have hV:=fun σ site own=>Zf3 σ site own 0
  have hv:Zai 0=([0],0):=rfl
  unfold ZeJ at hV
  rw [hv] at hV
  have hJ:=fun σ site own f=>ZuF σ site own f [0] [] (by simp)
  have hR:=fun σ site own f=>ZkL σ site own f w [0] (by simp)
  have hr:Z0 w [0]=([],1,0):=rfl
  rw [hr] at hR
  have hS:=fun σ site own view=>ZkM σ site own view [] [] (by simp)
  have e:ZfP w [] (([]:List Zu).map ZcP).flatten=([0],0):=by
   unfold ZfP
   simp only [List.map_nil,List.flatten_nil,List.length_nil,z0,hv,List.append_nil,hr]
   rfl
  rw [e]
  refine ⟨false,?_⟩
  rw [Zh (by rfl) Zrd]
  simp only [List.map_nil,List.map_cons,Zc] at hV hJ hR hS
  unfold ZgO
  have b0:Zc 0=.int .u8 0:=rfl
  have u0:(0:UInt8).toNat=0:=rfl
  have n0:((0:Int) != 0)=false:=rfl
  have n1:((1:Int) != 1)=false:=rfl
  rw [u0,z0] at hV hJ hR
  have z1:((1:Nat):Int)=1:=rfl
  rw [z1] at hR
  simp -implicitDefEqProofs only [EQA,Zac,Nat.reduceLT,Nat.reduceEqDiff,reduceCtorEq,↓reduceIte,gcT,gcA,ZE,ZA,Zx,ZQ,Zqy,ZkY,oI,Zba]
  rw [Zad]
  simp -implicitDefEqProofs only [EQA,Zs,Nat.reduceLT,Nat.reduceEqDiff,unA,Zz,unG,ne_eq,Option.some.injEq,reduceCtorEq,decide_true,decide_false,↓reduceIte,Zd,ZhQ,ZhC,ZfM,Zfw,Zes,oI,oN,z0,z1,hV,hJ,hR,hS,n0,n1,b0,viewAs,ZN,ZL,Zn,List.foldl_cons,List.foldl_nil,AVal.cells,Int.reduceLT]
 | cons p r =>
  have hlp:=ZrK p
  simp only [List.length_cons] at hl
  obtain ⟨f,ih⟩:=Zqh w (p::r) (by simp only [List.length_cons];omega) hx r 1 (ZcP p) rfl (by omega)
  refine ⟨f,?_⟩
  have e1:=iad (l:=p::r) (i:=0) rfl Zo (k:=5) rfl
  have h1:(0:Int) < ((p::r).length:Int):=by simp only [List.length_cons];omega
  have w1:IntKind.i64.wrap (0+1)=1:=rfl
  have z1:((1:Nat):Int)=1:=rfl
  have hC:=fun σ site own=>ZsI σ site own p (hx p (by simp))
  rw [List.map_cons,List.flatten_cons]
  generalize ZcP p=q at *
  have k1:=Zfm q
  have k2:q.length*1≤140737488355328:=by omega
  have e6:(q.map Zc).length=q.length:=by simp
  rw [z0] at e1
  rw [z1] at ih
  generalize (r.map ZcP).flatten=t at *
  generalize hL:p::r=L at *
  rw [Zh (by rfl) Zrd]
  unfold ZiX at ih
  simp -implicitDefEqProofs only [EQA,Zac,Nat.reduceLT,Nat.reduceEqDiff,reduceCtorEq,↓reduceIte,gcT,gcA,ZE,ZA,Zx,ZQ,Zqy,ZkY,oI,Zba]
  rw [Zad]
  simp -implicitDefEqProofs only [EQA,Zac,ZaL,Nat.reduceAdd,Nat.reduceLT,Nat.reduceEqDiff,Nat.reduceBEq,ne_eq,reduceCtorEq,decide_true,Z6,↓reduceIte,gcT,gcA,ZE,ZA,Zl,Zx,Z1,Zp,ZU,ZJ,ZQ,Zfw,Zes,oI,oN,ZO,Zo,ZbO,h1,e1,w1,hC,k1,k2,Zbk,Nat.le_refl,AVal.cells]
  exact ih
theorem ZMV (σ:Za) (site own:Nat) (f:Bool) (w:Int) (l:List Zu) (hl:l.length≤700000000) (hx:∀ p ∈ l,ZeS p):Zj E BY σ site 42 own true [.int .i64 w,.lst f (l.map Zo)]=some (ZgO false (ZaF w l),σ,{}):=by
 obtain ⟨g,h⟩:=ZF1 w l hl hx
 exact Zbr h (by kernel_rfl) rfl rfl rfl (fun _=>rfl) _ _ _
end Go.Proofs.YtmlkhhidifjjfaaDoor
namespace Go.Proofs.YtmlkhhidifjjfaaDoor
set_option maxHeartbeats 4000000
set_option maxRecDepth 10000
end Go.Proofs.YtmlkhhidifjjfaaDoor
namespace Go.Proofs.YtmlkhhidifjjfaaDoor
def Zm9:Zf:=(.seq (.region [oI 4 (.mov (.c (.bool false)))] none [1,0]) (.seq (.region [oI 5 (.mov (.t 0)),oI 6 (.b2s (.t 5)),oI 7 (.mov (.t 1)),oI 8 (.b2s (.t 7)),oI 9 (.bin .eql (.t 6) (.t 8)),oI 4 (.mov (.t 9))] none [4]) .ret))
def ZpU:ZI:=⟨[(.tmp 4)],Zm9⟩
theorem ZAc:FC 15=some ZpU:=by kernel_rfl
theorem ZEP:ZpU.body=Zm9:=rfl
theorem ZFo:ZpU.res=[(.tmp 4)]:=rfl
def ZlO:Zf:=(.seq (.region [oI 6 (.mov (.c (.int .i64 0)))] none [2,1,0]) (.seq (.region [oI 8 (.mov (.t 2)),oI 9 (.mov (.t 1)),oI 10 (.bin .sub (.t 8) (.t 9)),oI 11 (.bin .add (.t 10) (.c (.int .i64 1))),oI 7 (.mov (.t 11))] none [7,1,0]) (.seq (.region [oI 12 (.mov (.t 0)),oI 13 (.mov (.t 7)),oI 14 (.bin .rem (.t 12) (.t 13)),oI 0 (.mov (.t 14))] none [7,1,0]) (.seq (.seq (.region [oI 15 (.mov (.t 0)),oI 16 (.bin .lss (.t 15) (.c (.int .i64 0)))] none [16,7,1,0]) (.cond (.t 16) (.region [oI 17 (.mov (.t 0)),oI 18 (.mov (.t 7)),oI 19 (.bin .add (.t 17) (.t 18)),oI 0 (.mov (.t 19))] none [1,0]) .skip)) (.seq (.region [oI 20 (.mov (.t 1)),oI 21 (.mov (.t 0)),oI 22 (.bin .add (.t 20) (.t 21)),oI 6 (.mov (.t 22))] none [6]) .ret)))))
def ZmZ:ZI:=⟨[(.tmp 6)],ZlO⟩
theorem ZBG:FC 39=some ZmZ:=by kernel_rfl
theorem Zsb:ZmZ.body=ZlO:=rfl
theorem ZuU:ZmZ.res=[(.tmp 6)]:=rfl
end Go.Proofs.YtmlkhhidifjjfaaDoor
namespace Go.Proofs.YtmlkhhidifjjfaaDoor
set_option maxHeartbeats 2000000
set_option maxRecDepth 10000
end Go.Proofs.YtmlkhhidifjjfaaDoor
namespace Go.Proofs.YtmlkhhidifjjfaaDoor
set_option maxHeartbeats 4000000
set_option maxRecDepth 10000
structure Zr2 where
 topic:Zb
 payload:Zb
 qos:Int
 retain:Bool
 sender:Zb
 expires:Int
 props:List Zu
 origin:Int
 number:Int
 hops:Int
 deriving DecidableEq
structure ZIB where
 note:Zr2
 qos:Int
 retain:Bool
 ids:List Int
 share:Zb
 deriving DecidableEq
end Go.Proofs.YtmlkhhidifjjfaaDoor
namespace Go.Proofs.YtmlkhhidifjjfaaDoor
set_option maxHeartbeats 8000000
set_option maxRecDepth 10000
theorem ZM2 (w:Int) (b:Zb) (h:(Z0 w b).2.2=0):(Z0 w b).2.1≤268435460:=by
 have h1:=ZoT b
 have h2:(ZT b).2.1≤5:=by
  have : ∀ (b:Zb) (i n:Nat),i≤4→(gvA i n b).2.1≤5:=by
   intro b
   induction b with
   | nil=>intro i n hi;unfold gvA;split <;> simp
   | cons c r ih =>
    intro i n hi
    unfold gvA
    repeat' split
    all_goals (try simp only)
    all_goals first
     | omega
     | exact ih _ _ (by omega)
  exact this b 0 0 (by omega)
 unfold Z0 at h ⊢
 split
 ·rename_i hc;rw [if_pos hc] at h;simp at h
 ·rename_i hc
  rw [if_neg hc] at h
  split
  ·simp only;omega
  ·rename_i h3;rw [if_neg h3] at h;exact absurd h h3
structure ZJd (n:Zr2):Prop where
 topic:n.topic.length≤9223372036854775807
 payload:n.payload.length≤9223372036854775807
 sender:n.sender.length≤9223372036854775807
 props:n.props.length≤700000000
 tx:∀ p ∈ n.props,ZeS p
 dat:∀ p ∈ n.props,p.data.length≤140737488355328
end Go.Proofs.YtmlkhhidifjjfaaDoor
namespace Go.Proofs.YtmlkhhidifjjfaaDoor
set_option maxHeartbeats 8000000
set_option maxRecDepth 10000
def wn:List AVal:=[.lst true [],.int .i64 0,.int .i8 0]
def wv (r g n:Nat):List AVal:=[.sl r g 0 n,.int .i64 0,.int .i8 0]
def wH (g:Nat) (l:Zb):Za:=[.var (wv 1 g l.length),.row g 1 (l.map Zc)]
theorem ZbD {σ:Za} {site f own:Nat} {view:Bool} {args:List AVal} {r:AVal×Za×Cls} (h:Zj E BY σ site f own view args=some r):Zj E1 BY σ site f own view args=some r:=Zpy Zx3 h
theorem Zho {O:ZR} {f:Nat} {args args':List AVal} {l l':Zb} {q:AVal} (hq:ZK q=true) (hw:viewR (wH 1 l') q=some (q,[])∧viewR (wH 0 l') q=some (q,[])) (g2:Nat) (hg2:g2≤1) (h:O f (.ref 0 0::args') (wH 0 l)=some (q,wH g2 l')) (hb:BY f=false) (hp:args.all Z4=true) (hn:args.map ZH=args') {σ:Za} {t r g site own:Nat} (htr:t≠r) (hff:Za1 σ site own=true) (hs:σ[t]?=some (.var (wv r g l.length))) (hr:σ[r]?=some (.row g 1 (l.map Zc))) :
  Zj O BY σ site f own true (.ref t 0::args)=some (q,(σ.set t (.var (wv r (g+g2) l'.length))).set r (.row (g+g2) 1 (l'.map Zc)),{ any:=true,upd:=[(t,wv r (g+g2) l'.length)] }):=by
 subst hn
 have hw':viewR [.var (wv 1 g2 l'.length),.row g2 1 (l'.map Zc)] q=some (q,[]):=by
  rcases Nat.lt_or_ge g2 1 with e | e
  ·obtain rfl:g2=0:=by omega
   exact hw.2
  ·obtain rfl:g2=1:=by omega
   exact hw.1
 exact ZgH (cs1:=wv 1 0 l.length) (cs2:=wv 1 g2 l'.length) hs hr htr rfl hb hp (fun ρ hρ=>by simp only [wv,Ze,Zk,hρ]) hg2 hff hq h (Zlv true hq hw' rfl hg2 (fun ρ hρ=>by simp only [wv,Ze,Zk,hρ])) (fun ρ hρ=>by simp only [wv,Ze,Zk,hρ])
theorem Zgs {O:ZR} {f:Nat} {args args':List AVal} {l':Zb} {q:AVal} (hq:ZK q=true) (hv:Zae true 1 (some (q,wH 0 l'))=some (q,wH 0 l')) (h:O f (.ref 0 0::args') [.var wn]=some (q,wH 0 l')) (hb:BY f=false) (hp:args.all Z4=true) (hn:args.map ZH=args') {σ:Za} {t site:Nat} (hf:σ[site]?=some .free) (hs:σ[t]?=some (.var wn)) :
  Zj O BY σ site f 1 true (.ref t 0::args)=some (q,(σ.set t (.var (wv site 0 l'.length))).set site (.row 0 1 (l'.map Zc)),{ any:=true,upd:=[(t,wv site 0 l'.length)] }):=by
 subst hn
 have htl:t < σ.length:=(List.getElem?_eq_some_iff.1 hs).1
 have hsl:site < σ.length:=(List.getElem?_eq_some_iff.1 hf).1
 have hne:site≠t:=by rintro rfl;rw [hs] at hf;cases hf
 have h1:σ.getD t .free=.var wn:=by simp [List.getD_eq_getElem?_getD,hs]
 have hf0:Zn σ []=σ:=rfl
 have hsh:showAs σ (.ref t 0::args)=some (.ref t 0::args.map ZH,[]):=by
  rw [showAs,show showA σ (.ref t 0)=some (.ref t 0,[]) from rfl,Zd8 hp]
  rfl
 have href:Zr (.ref t 0::args.map ZH)=[t]:=by
  rw [Zr,Zdn hp];rfl
 have hre:ZA σ 1000 [t] []=[t]:=by
  have e1:([]:List Nat).contains t=false:=rfl
  rw [show (1000:Nat)=998+1+1 from rfl,ZA,e1]
  simp only [Bool.false_eq_true,if_false,h1,ZQ]
  rfl
 unfold Zj ZbU
 rw [hb]
 simp only [Bool.false_eq_true,if_false,hsh,hf0,href,hre]
 unfold ZbC
 have hall:([t].all fun t=>okB (σ.getD t .free))=true:=by simp only [List.all_cons,List.all_nil,h1,okB,Bool.and_true]
 rw [if_pos hall]
 have hρt:Zl σ 0 [t] t 0=some (0,0):=by simp [Zl,Z1,hs,Zp,ZU]
 have hargs:Ze (Zl σ 0 [t]) (.ref t 0::args.map ZH)=.ref 0 0::args.map ZH:=by
  rw [Ze,Zde hp]
  simp only [Zk,hρt]
 have hheap:Zx σ 0 [t] (Zl σ 0 [t]) [t] 0=[.var wn]:=by
  simp only [Zx,h1,ZJ]
  rfl
 rw [hargs,hheap,h]
 rw [show [t].length=1 from rfl,hv]
 have hk:ZaZ σ [t] (wH 0 l') 0=true:=by simp [wH,ZaZ,okB,Zce,Zp,hs]
 have hff:Za1 σ site 1=true:=by simp [Za1,freeAt,hf]
 have hup:Za7 ((σ.set t (.var (wv site 0 l'.length))).set site (.row 0 1 (l'.map Zc))) [t]=[(t,wv site 0 l'.length)]:=by
  have e1:((σ.set t (.var (wv site 0 l'.length))).set site (.row 0 1 (l'.map Zc)))[t]?=some (.var (wv site 0 l'.length)):=by
   rw [List.getElem?_set_ne hne,List.getElem?_set_self htl]
  simp only [Za7,e1]
 have hlay:Za5 σ [t] site (wH 0 l') 0 σ=(σ.set t (.var (wv site 0 l'.length))).set site (.row 0 1 (l'.map Zc)):=by
  simp [wH,Za5,ZaK,Zcl,ZJ,Zp,wv,Ze,Zk,ZaB]
 simp only [ZaG,List.isEmpty_cons,Bool.false_and,Bool.false_eq_true,if_false,hk,hff,hlay,hup,(Za4 _ _ hq).1]
 rfl
theorem ZrJ {O:ZR} {f:Nat} {args args':List AVal} (h:O f (.ref 0 0::args') [.var wn]=some (.tup [],[.var wn])) (hb:BY f=false) (hp:args.all Z4=true) (hn:args.map ZH=args') {σ:Za} {t site own:Nat} (hff:Za1 σ site own=true) (hs:σ[t]?=some (.var wn)) :
  Zj O BY σ site f own true (.ref t 0::args)=some (.tup [],σ,{ any:=true,upd:=[(t,wn)] }):=by
 subst hn
 have htl:t < σ.length:=(List.getElem?_eq_some_iff.1 hs).1
 have h1:σ.getD t .free=.var wn:=by simp [List.getD_eq_getElem?_getD,hs]
 have hf0:Zn σ []=σ:=rfl
 have hsh:showAs σ (.ref t 0::args)=some (.ref t 0::args.map ZH,[]):=by
  rw [showAs,show showA σ (.ref t 0)=some (.ref t 0,[]) from rfl,Zd8 hp]
  rfl
 have href:Zr (.ref t 0::args.map ZH)=[t]:=by
  rw [Zr,Zdn hp];rfl
 have hre:ZA σ 1000 [t] []=[t]:=by
  have e1:([]:List Nat).contains t=false:=rfl
  rw [show (1000:Nat)=998+1+1 from rfl,ZA,e1]
  simp only [Bool.false_eq_true,if_false,h1,ZQ]
  rfl
 unfold Zj ZbU
 rw [hb]
 simp only [Bool.false_eq_true,if_false,hsh,hf0,href,hre]
 unfold ZbC
 have hall:([t].all fun t=>okB (σ.getD t .free))=true:=by simp only [List.all_cons,List.all_nil,h1,okB,Bool.and_true]
 rw [if_pos hall]
 have hρt:Zl σ 0 [t] t 0=some (0,0):=by simp [Zl,Z1,hs,Zp,ZU]
 have hargs:Ze (Zl σ 0 [t]) (.ref t 0::args.map ZH)=.ref 0 0::args.map ZH:=by
  rw [Ze,Zde hp]
  simp only [Zk,hρt]
 have hheap:Zx σ 0 [t] (Zl σ 0 [t]) [t] 0=[.var wn]:=by
  simp only [Zx,h1,ZJ]
  rfl
 rw [hargs,hheap,h]
 have hv:Zae true 1 (some (.tup [],[.var wn]))=some (.tup [],[.var wn]):=rfl
 rw [show [t].length=1 from rfl,hv]
 have hk:ZaZ σ [t] [.var wn] 0=true:=by simp [ZaZ,okB,Zce,Zp,hs]
 have hset:σ.set t (.var wn)=σ:=by
  apply List.ext_getElem?
  intro i
  rw [List.getElem?_set]
  by_cases e:t=i
  ·subst e;rw [if_pos rfl,if_pos htl,hs]
  ·simp [e]
 have hup:Za7 σ [t]=[(t,wn)]:=by simp only [Za7,hs]
 have hlay:Za5 σ [t] site [.var wn] 0 σ=σ:=by
  simp only [Za5,ZaK,ZJ,List.getD_cons_zero]
  exact hset
 simp only [ZaG,List.isEmpty_cons,Bool.false_eq_true,if_false,hk,hff,hlay,hup,Zk,Ze,List.length_cons,List.length_nil,Nat.zero_add,Nat.le_add_right,Nat.le_refl,decide_true,Bool.and_self,if_true]
def wT (n:Nat):AVal:=.tup [.int .i64 (n:Nat),.nili]
theorem ZxY (x:Zb) (hx:x.length≤ZbW):E1 130 [.ref 0 0,.lst false (x.map Zc)] [.var wn]=some (wT x.length,wH 0 x):=by
 rw [Zuq]
 simp only [Zhn,wn,List.length_map,hx,Zfm,and_self,if_true]
 rfl
theorem ZM7 (l x:Zb) (hx:l.length+x.length≤ZbW):E1 130 [.ref 0 0,.lst false (x.map Zc)] (wH 0 l)=some (wT x.length,wH 1 (l++x)):=by
 rw [Zuq]
 simp only [Zhn,wH,wv,List.length_map,hx,Zfm,and_self,if_true,List.map_append,List.length_append]
 rfl
theorem Zsf (x:Zb) (hx:x.length≤ZbW) {σ:Za} {t site:Nat} (hf:σ[site]?=some .free) (hs:σ[t]?=some (.var wn)) :
  Zj E1 BY σ site 130 1 true [.ref t 0,.lst false (x.map Zc)]=some (wT x.length,(σ.set t (.var (wv site 0 x.length))).set site (.row 0 1 (x.map Zc)),{ any:=true,upd:=[(t,wv site 0 x.length)] }) :=
 Zgs (args:=[.lst false (x.map Zc)]) rfl rfl (ZxY x hx) (by kernel_rfl) rfl rfl hf hs
theorem ff1 {σ:Za} {site:Nat} (hf:σ[site]?=some .free):Za1 σ site 1=true:=by simp [Za1,freeAt,hf]
theorem Zi7 (l x:Zb) (hx:l.length+x.length≤ZbW) {σ:Za} (t r g:Nat) {site:Nat} (htr:t≠r) (hf:σ[site]?=some .free) (hs:σ[t]?=some (.var (wv r g l.length))) (hr:σ[r]?=some (.row g 1 (l.map Zc))) :
  Zj E1 BY σ site 130 1 true [.ref t 0,.lst false (x.map Zc)]=some (wT x.length,(σ.set t (.var (wv r (g+1) (l++x).length))).set r (.row (g+1) 1 ((l++x).map Zc)),{ any:=true,upd:=[(t,wv r (g+1) (l++x).length)] }) :=
 Zho (args:=[.lst false (x.map Zc)]) rfl ⟨rfl,rfl⟩ 1 (by omega) (ZM7 l x hx) (by kernel_rfl) rfl rfl htr (ff1 hf) hs hr
theorem ZtN (x:Zb) (σ:Za):Zal 1 (.var (wv 1 0 x.length)::.row 0 1 (x.map Zc)::σ) (.tup [])=some (.tup [],wH 0 x):=rfl
theorem ZgI (l:Zb) (g:Nat) (σ:Za):Zal 2 (.var (wv 1 (g+1) l.length)::.row (g+1) 1 (l.map Zc)::σ) (.tup [])=some (.tup [],wH 1 l):=by
 simp [Zal,gcA,ZE,Zr,ZZ,List.range,List.range.loop,ZQ,wv,ZA,Zl,Z1,Zx,ZU,Zp,ZJ,Ze,Zk,wH]
theorem ZGc (n:Int) (W:Nat) (h1:1≤W) (hW:W≤8):E1 127 [.ref 0 0,.int .i64 n,.int .i64 (W:Nat)] [.var wn]=some (.tup [],wH 0 (beB (ZC n) W)):=by
 have hw:=ZnN n
 have hP:=fun σ site own=>ZbD (Zj8 σ site own (ZC n) W h1 hW)
 have hlen:(beB (ZC n) W).length≤ZbW:=by rw [ZaJ];unfold ZbW;omega
 generalize beB (ZC n) W=B at *
 have hC:=fun {σ:Za} {t site:Nat}=>Zsf B hlen (σ:=σ) (t:=t) (site:=site)
 have hO:=fun σ=>ZtN B σ
 rw [Zbp (by rfl) Zr7]
 unfold wn at *
 simp -implicitDefEqProofs only [EQA,Nat.reduceAdd,Nat.reduceLT,Nat.reduceEqDiff,Nat.reduceBEq,reduceCtorEq,↓reduceIte,Zrj,Zkk,Zsx,oI,hw,hP,hC,wT,hO,Zaj,Zak,Zav,Zar,Zay,Zam]
theorem ZwS (l:Zb) (n:Int) (W:Nat) (h1:1≤W) (hW:W≤8) (hl:l.length+W≤ZbW):E1 127 [.ref 0 0,.int .i64 n,.int .i64 (W:Nat)] (wH 0 l)=some (.tup [],wH 1 (l++beB (ZC n) W)):=by
 have hw:=ZnN n
 have hP:=fun σ site own=>ZbD (Zj8 σ site own (ZC n) W h1 hW)
 have hlen:l.length+(beB (ZC n) W).length≤ZbW:=by rw [ZaJ];omega
 generalize beB (ZC n) W=B at *
 have hC:=fun {σ:Za} {site:Nat}=>Zi7 l B hlen (σ:=σ) 0 1 0 (site:=site) (by omega)
 have hO:=fun g σ=>ZgI (l++B) g σ
 rw [Zbp (by rfl) Zr7]
 unfold wH at *
 simp -implicitDefEqProofs only [EQA,Nat.reduceAdd,Nat.reduceLT,Nat.reduceEqDiff,Nat.reduceBEq,reduceCtorEq,↓reduceIte,Zrj,Zkk,Zsx,oI,hw,hP,hC,wT,hO,Zaj,Zak,Zav,Zar,Zay,Zam]
end Go.Proofs.YtmlkhhidifjjfaaDoor
namespace Go.Proofs.YtmlkhhidifjjfaaDoor
end Go.Proofs.YtmlkhhidifjjfaaDoor
namespace Go.Proofs.YtmlkhhidifjjfaaDoor
set_option maxHeartbeats 4000000
set_option maxRecDepth 10000
end Go.Proofs.YtmlkhhidifjjfaaDoor
namespace Go.Proofs.YtmlkhhidifjjfaaDoor
set_option maxHeartbeats 16000000
set_option maxRecDepth 10000
structure ZJU where
 fmt:Int
 content:Zb
 corr:Zb
 users:Zb
end Go.Proofs.YtmlkhhidifjjfaaDoor
namespace Go.Proofs.YtmlkhhidifjjfaaDoor
set_option maxHeartbeats 4000000
set_option maxRecDepth 10000
end Go.Proofs.YtmlkhhidifjjfaaDoor
namespace Go.Proofs.YtmlkhhidifjjfaaDoor
set_option maxHeartbeats 16000000
set_option maxRecDepth 10000
structure ZNo where
 r1:Zb×Zd5
 r2:Zb×Zd5
 r3:Zb×Zd5
 r4:Zb×Zd5
 r5:Zb×Zd5
 r6:Zb×Zd5
 r7:Zb×Zd5
 r8:Zb×Zd5
end Go.Proofs.YtmlkhhidifjjfaaDoor
namespace Go.Proofs.YtmlkhhidifjjfaaDoor
set_option maxHeartbeats 16000000
set_option maxRecDepth 10000
theorem ZB3 (w:Int) (b:Zb):(Z0 w b).1.length≤268435455:=by
 have hlt:=ZoT b
 unfold Z0
 split
 ·simp
 ·split
  ·have:=Zny w (ZT b).1 ((b.take ((ZT b).2.1+(ZT b).1)).drop (ZT b).2.1) []
   simp only [List.length_drop,List.length_take,List.length_nil] at this
   simp only
   omega
  ·simp
end Go.Proofs.YtmlkhhidifjjfaaDoor
namespace Go.Proofs.YtmlkhhidifjjfaaDoor
set_option maxHeartbeats 16000000
set_option maxRecDepth 10000
structure ZNs (it:ZIB):Prop where
 note:ZJd it.note
 ids:it.ids.length≤1000000
 share:it.share.length≤9223372036854775807
end Go.Proofs.YtmlkhhidifjjfaaDoor
namespace Go.Proofs.YtmlkhhidifjjfaaDoor
set_option maxHeartbeats 16000000
set_option maxRecDepth 10000
end Go.Proofs.YtmlkhhidifjjfaaDoor
namespace Go.Proofs.YtmlkhhidifjjfaaDoor
set_option maxHeartbeats 16000000
set_option maxRecDepth 10000
structure ZFf where
 topic:Zb
 sender:Zb
 share:Zb
 payload:Zb
 qos:Int
 sub:Int
 retain:Bool
 keep:Bool
 life:Int
 p:ZJU
 ids:List Int
 origin:Int
 number:Int
structure ZNu (m:ZFf):Prop where
 topic:m.topic.length≤9223372036854775807
 sender:m.sender.length≤9223372036854775807
 share:m.share.length≤9223372036854775807
 content:m.p.content.length≤9223372036854775807
 users:m.p.users.length≤9223372036854775807
 ids:m.ids.length≤9223372036854775807
end Go.Proofs.YtmlkhhidifjjfaaDoor
namespace Go.Proofs.YtmlkhhidifjjfaaDoor
set_option maxHeartbeats 16000000
set_option maxRecDepth 10000
structure ZNr where
 d:Zb×Zd5
 m:Zb×Zd5
 k:Zb×Zd5
end Go.Proofs.YtmlkhhidifjjfaaDoor
namespace Go.Proofs.YtmlkhhidifjjfaaDoor
set_option maxHeartbeats 8000000
set_option maxRecDepth 10000
theorem ZvY (x:Nat) (a b:Zb):ZeB x (a++b)=ZeB (ZeB x a) b:=by
 unfold ZeB;rw [List.foldl_append]
theorem ZtF:∀ (w n:Nat),w≤8→n < 256 ^ w→ZeB 0 (beB n w)=n
 | 0,n,_,h=>by simp at h;subst h;rfl
 | w+1,n,hw,h=>by
  have h1:n / 256 < 256 ^ w:=by rw [Nat.pow_succ] at h;omega
  have ih:=ZtF w (n / 256) (by omega) h1
  have h2:256 ^ w≤256 ^ 7:=Nat.pow_le_pow_right (by decide) (by omega)
  rw [beB,ZvY,ih,ZcD,ZeM,UInt8.toNat_ofNat']
  have h3:(256:Nat) ^ 7=72057594037927936:=rfl
  omega
theorem ZGn {w n:Nat} (hw:w≤8) (h:n < 256 ^ w):Zcw (beB n w)=n:=ZtF w n hw h
theorem ZDy {w n:Nat} (hw:w≤8) (h:n < 256 ^ w) (h2:n≤9223372036854775807):ZgF (beB n w)=(n:Int):=by
 unfold ZgF
 rw [ZGn hw h,Zb3 (by omega) (by omega)]
theorem Zx9:∀ k n:Nat,0 < (Zcm k n).length
 | 0,n=>by simp [Zcm]
 | k+1,n=>by unfold Zcm;split <;> simp
theorem ZHi {x:Int} (h0:0≤x) (h:x < 18446744073709551616):ZC x=x.toNat:=by unfold ZC;omega
def ZM1 (k:Int) (p:Zu):Prop :=
 if k=1∨k=2∨k=3∨k=4 then p.text=[]∧p.pair=[]∧p.data=[] else if k=5 then p.num=0∧p.pair=[]∧p.data=[]
 else if k=6 then p.num=0∧p.text=[]∧p.pair=[] else p.num=0∧p.data=[]
structure ZNt (w:Int) (acc:List Zu) (p:Zu):Prop where
 good:ZJf p=true
 may:ZgU p.id w=true
 canon:ZM1 (Zb1 p.id) p
 fits:Zgh p.id p.num=true
 dup:((ZfL p.id acc).isSome && !Zg9 p.id w)=false
end Go.Proofs.YtmlkhhidifjjfaaDoor
namespace Go.Proofs.YtmlkhhidifjjfaaDoor
set_option maxHeartbeats 8000000
set_option maxRecDepth 10000
theorem Zi3 (s:Zb):(ZbF s).1.length≤65537:=by
 unfold ZbF
 split
 ·simp
 ·simp [ZaJ];omega
theorem ZcM (s:Zb):(Zah s).1.length≤65537:=by
 unfold Zah
 split
 ·exact Zi3 s
 ·simp
theorem Zdi (w:Int) (l:List Zu):(ZaF w l).1.length≤268435460:=by
 unfold ZaF ZfP
 generalize (l.map ZcP).flatten=b
 by_cases h:(Zai b.length).2≠0
 ·rw [if_pos h];simp
 ·rw [if_neg h]
  split
  ·simp
  ·rename_i h2
   have h0:(Z0 w ((Zai b.length).1++b)).2.2=0:=Classical.byContradiction fun e=>h2 (Or.inl e)
   have h1:(Z0 w ((Zai b.length).1++b)).2.1=((Zai b.length).1++b).length:=Classical.byContradiction fun e=>h2 (Or.inr (Or.inl e))
   have:=ZM2 w _ h0
   rw [h1] at this
   exact this
theorem ZEl (s:Zb) (hs:s.length≤9223372036854775807):E1 129 [.ref 0 0,.str s] [.var wn]=some (.tup [],wH 0 (Zah s).1):=by
 have hP:=fun σ site own=>ZbD (Zim σ site own s hs)
 unfold byT at hP
 have hlen:(Zah s).1.length≤ZbW:=by have:=ZcM s;unfold ZbW;omega
 generalize (Zah s).1=B at *
 generalize (Zah s).2=C at *
 have hC:=fun {σ:Za} {t site:Nat}=>Zsf B hlen (σ:=σ) (t:=t) (site:=site)
 have hO:=fun σ=>ZtN B σ
 rw [Zbp (by rfl) ZtL]
 unfold wn at *
 simp -implicitDefEqProofs only [EQA,Nat.reduceAdd,Nat.reduceLT,Nat.reduceEqDiff,Nat.reduceBEq,reduceCtorEq,↓reduceIte,Zrt,ZlM,Zqc,oI,hP,hC,wT,hO]
theorem ZHE (l:Zb) (s:Zb) (hs:s.length≤9223372036854775807) (hl:l.length+(Zah s).1.length≤ZbW):E1 129 [.ref 0 0,.str s] (wH 0 l)=some (.tup [],wH 1 (l++(Zah s).1)):=by
 have hP:=fun σ site own=>ZbD (Zim σ site own s hs)
 unfold byT at hP
 generalize (Zah s).1=B at *
 generalize (Zah s).2=C at *
 have hC:=fun {σ:Za} {site:Nat}=>Zi7 l B hl (σ:=σ) 0 1 0 (site:=site) (by omega)
 have hO:=fun g σ=>ZgI (l++B) g σ
 rw [Zbp (by rfl) ZtL]
 unfold wH at *
 simp -implicitDefEqProofs only [EQA,Nat.reduceAdd,Nat.reduceLT,Nat.reduceEqDiff,Nat.reduceBEq,reduceCtorEq,↓reduceIte,Zrt,ZlM,Zqc,oI,hP,hC,wT,hO]
theorem Zt7 (s:Zb) (hs:s.length≤9223372036854775807) {σ:Za} {t site:Nat} (hf:σ[site]?=some .free) (hs0:σ[t]?=some (.var wn)) :
  Zj E1 BY σ site 129 1 true [.ref t 0,.str s]=some (.tup [],(σ.set t (.var (wv site 0 (Zah s).1.length))).set site (.row 0 1 ((Zah s).1.map Zc)),{ any:=true,upd:=[(t,wv site 0 (Zah s).1.length)] }) :=
 Zgs (args:=[.str s]) rfl rfl (ZEl s hs) (by kernel_rfl) rfl rfl hf hs0
theorem ZiQ (l:Zb) (s:Zb) (hs:s.length≤9223372036854775807) (hl:l.length+(Zah s).1.length≤ZbW) {σ:Za} (t r g:Nat) {site:Nat} (htr:t≠r) (hf:σ[site]?=some .free) (hs0:σ[t]?=some (.var (wv r g l.length))) (hr:σ[r]?=some (.row g 1 (l.map Zc))) :
  Zj E1 BY σ site 129 1 true [.ref t 0,.str s]=some (.tup [],(σ.set t (.var (wv r (g+1) (l++(Zah s).1).length))).set r (.row (g+1) 1 ((l++(Zah s).1).map Zc)),{ any:=true,upd:=[(t,wv r (g+1) (l++(Zah s).1).length)] }) :=
 Zho (args:=[.str s]) rfl ⟨rfl,rfl⟩ 1 (by omega) (ZHE l s hs hl) (by kernel_rfl) rfl rfl htr (ff1 hf) hs0 hr
theorem ZEC (l:Zb) (s:Zb) (hs:s.length≤9223372036854775807) (hl:l.length+(ZbF s).1.length≤ZbW):E1 149 [.ref 0 0,.lst false (s.map Zc)] (wH 0 l)=some (.tup [],wH 1 (l++(ZbF s).1)):=by
 have hP:=fun σ site own=>ZbD (ZoH σ site own false s hs)
 unfold byT at hP
 generalize (ZbF s).1=B at *
 generalize (ZbF s).2=C at *
 have hC:=fun {σ:Za} {site:Nat}=>Zi7 l B hl (σ:=σ) 0 1 0 (site:=site) (by omega)
 have hO:=fun g σ=>ZgI (l++B) g σ
 rw [Zbp (by rfl) ZBt]
 unfold wH at *
 simp -implicitDefEqProofs only [EQA,Nat.reduceAdd,Nat.reduceLT,Nat.reduceEqDiff,Nat.reduceBEq,reduceCtorEq,↓reduceIte,ZyR,Zp2,ZGZ,oI,hP,hC,wT,hO]
theorem ZuT (l:Zb) (s:Zb) (hs:s.length≤9223372036854775807) (hl:l.length+(ZbF s).1.length≤ZbW) {σ:Za} (t r g:Nat) {site:Nat} (htr:t≠r) (hf:σ[site]?=some .free) (hs0:σ[t]?=some (.var (wv r g l.length))) (hr:σ[r]?=some (.row g 1 (l.map Zc))) :
  Zj E1 BY σ site 149 1 true [.ref t 0,.lst false (s.map Zc)]=some (.tup [],(σ.set t (.var (wv r (g+1) (l++(ZbF s).1).length))).set r (.row (g+1) 1 ((l++(ZbF s).1).map Zc)),{ any:=true,upd:=[(t,wv r (g+1) (l++(ZbF s).1).length)] }) :=
 Zho (args:=[.lst false (s.map Zc)]) rfl ⟨rfl,rfl⟩ 1 (by omega) (ZEC l s hs hl) (by kernel_rfl) rfl rfl htr (ff1 hf) hs0 hr
theorem ZvH (l:Zb) (w:Int) (ps:List Zu) (hp:ps.length≤700000000) (hx:∀ p ∈ ps,ZeS p) (hl:l.length+(ZaF w ps).1.length≤ZbW):E1 128 [.ref 0 0,.int .i64 w,.lst false (ps.map Zo)] (wH 0 l)=some (.tup [],wH 1 (l++(ZaF w ps).1)):=by
 have hP:=fun σ site own=>ZbD (ZMV σ site own false w ps hp hx)
 unfold ZgO at hP
 generalize (ZaF w ps).1=B at *
 generalize (ZaF w ps).2=C at *
 have hC:=fun {σ:Za} {site:Nat}=>Zi7 l B hl (σ:=σ) 0 1 0 (site:=site) (by omega)
 have hO:=fun g σ=>ZgI (l++B) g σ
 rw [Zbp (by rfl) Zv8]
 unfold wH at *
 simp -implicitDefEqProofs only [EQA,Nat.reduceAdd,Nat.reduceLT,Nat.reduceEqDiff,Nat.reduceBEq,reduceCtorEq,↓reduceIte,ZG5,Znk,ZwW,oI,hP,hC,wT,hO]
theorem Zgu (l:Zb) (w:Int) (ps:List Zu) (hp:ps.length≤700000000) (hx:∀ p ∈ ps,ZeS p) (hl:l.length+(ZaF w ps).1.length≤ZbW) {σ:Za} (t r g:Nat) {site:Nat} (htr:t≠r) (hf:σ[site]?=some .free) (hs0:σ[t]?=some (.var (wv r g l.length))) (hr:σ[r]?=some (.row g 1 (l.map Zc))) :
  Zj E1 BY σ site 128 1 true [.ref t 0,.int .i64 w,.lst false (ps.map Zo)]=some (.tup [],(σ.set t (.var (wv r (g+1) (l++(ZaF w ps).1).length))).set r (.row (g+1) 1 ((l++(ZaF w ps).1).map Zc)),{ any:=true,upd:=[(t,wv r (g+1) (l++(ZaF w ps).1).length)] }) :=
 Zho (args:=[.int .i64 w,.lst false (ps.map Zo)]) rfl ⟨rfl,rfl⟩ 1 (by omega) (ZvH l w ps hp hx hl) (by kernel_rfl) rfl rfl htr (ff1 hf) hs0 hr
theorem Zlz (n:Int) (W:Nat) (h1:1≤W) (hW:W≤8) {m:Int} (hm:((W:Nat):Int)=m) {σ:Za} {t site:Nat} (hf:σ[site]?=some .free) (hs0:σ[t]?=some (.var wn)) :
  Zj E1 BY σ site 127 1 true [.ref t 0,.int .i64 n,.int .i64 m]=some (.tup [],(σ.set t (.var (wv site 0 (beB (ZC n) W).length))).set site (.row 0 1 ((beB (ZC n) W).map Zc)),{ any:=true,upd:=[(t,wv site 0 (beB (ZC n) W).length)] }):=by
 subst hm
 exact Zgs (args:=[.int .i64 n,.int .i64 (W:Nat)]) rfl rfl (ZGc n W h1 hW) (by kernel_rfl) rfl rfl hf hs0
theorem ZfV (l:Zb) (n:Int) (W:Nat) (h1:1≤W) (hW:W≤8) {m:Int} (hm:((W:Nat):Int)=m) (hl:l.length+W≤ZbW) {σ:Za} (t r g:Nat) {site:Nat} (htr:t≠r) (hf:σ[site]?=some .free) (hs0:σ[t]?=some (.var (wv r g l.length))) (hr:σ[r]?=some (.row g 1 (l.map Zc))) :
  Zj E1 BY σ site 127 1 true [.ref t 0,.int .i64 n,.int .i64 m]=some (.tup [],(σ.set t (.var (wv r (g+1) (l++beB (ZC n) W).length))).set r (.row (g+1) 1 ((l++beB (ZC n) W).map Zc)),{ any:=true,upd:=[(t,wv r (g+1) (l++beB (ZC n) W).length)] }):=by
 subst hm
 exact Zho (args:=[.int .i64 n,.int .i64 (W:Nat)]) rfl ⟨rfl,rfl⟩ 1 (by omega) (ZwS l n W h1 hW hl) (by kernel_rfl) rfl rfl htr (ff1 hf) hs0 hr
def Z8 (b:Bool) (n:Int):Int:=if b then n else 0
theorem Zzf (b:Bool) (n:Int):E 81 [.bool b,.int .i64 n] []=some (.int .i64 (Z8 b n),[]):=by
 rw [Zh (by rfl) ZxN]
 unfold Z8
 cases b <;> simp -implicitDefEqProofs only [EQA,Nat.reduceLT,Nat.reduceEqDiff,reduceCtorEq,↓reduceIte,ZCF,Zpb,ZLy,oI]
theorem Zi2 (b:Bool) (n:Int) (σ:Za) (site own:Nat):Zj E1 BY σ site 81 own true [.bool b,.int .i64 n]=some (.int .i64 (Z8 b n),σ,{}) :=
 ZbD (Zbr (Zzf b n) (by kernel_rfl) rfl rfl rfl (fun _=>rfl) _ _ _)
end Go.Proofs.YtmlkhhidifjjfaaDoor
namespace Go.Proofs.YtmlkhhidifjjfaaDoor
set_option maxHeartbeats 8000000
set_option maxRecDepth 10000
def Zt (p:Zq):List AVal:=[.int .i64 p.type,.bool p.dup,.int .i64 p.qos,.bool p.retain,.int .i64 p.id,.str p.topic,.lst false (p.payload.map Zc),.int .i64 p.code,.lst false (p.codes.map (AVal.int .i64)),.lst false (p.props.map Zo),.lst false (p.subs.map ZY),.lst false (p.filters.map AVal.str),.bool p.clean,.int .i64 p.keep,.str p.client,.bool p.hasWill,.str p.will.topic,.lst false (p.will.data.map Zc),.int .i64 p.will.qos,.bool p.will.retain,.lst false (p.will.props.map Zo),.bool p.hasUser,.str p.user,.bool p.hasPassword,.lst false (p.password.map Zc),.bool p.present]
theorem ZbB (p:Zq):Z7 p=.agg (Zt p):=rfl
theorem Zbt (p:Zq):(Zt p).length=26:=rfl
theorem Zdu (p:Zq):Z4 (.agg (Zt p))=true:=rfl
theorem ZdG (p:Zq):ZH (.agg (Zt p))=.agg (Zt p):=rfl
theorem ZbP (p:Zq):(Zt p).take 26=Zt p:=rfl
theorem ZuX (p:Zq):Zr (Zt p)=[]:=by
 have h:=Zp7 (Zdu p)
 rw [ZdG] at h
 simpa [ZZ] using h
structure OkW (p:Zq):Prop where
 topic:p.topic.length≤9223372036854775807
 payload:p.payload.length≤1099511627776
 codes:p.codes.length≤1048576
 props:p.props.length≤700000000∧∀ q ∈ p.props,ZeS q
 subs:p.subs.length≤1048576∧∀ s ∈ p.subs,s.filter.length≤9223372036854775807
 filters:p.filters.length≤1048576∧∀ f ∈ p.filters,f.length≤9223372036854775807
 client:p.client.length≤9223372036854775807
 wtopic:p.will.topic.length≤9223372036854775807
 wdata:p.will.data.length≤9223372036854775807
 wprops:p.will.props.length≤700000000∧∀ q ∈ p.will.props,ZeS q
 user:p.user.length≤9223372036854775807
 password:p.password.length≤9223372036854775807
def wO:Option Zb→Za
 | none=>[.var wn]
 | some l=>wH 0 l
theorem ZdR {j g:Nat} {l:Zb} {σ:Za} (hj:j≠0) (h0:σ[0]?=some (.var (wv j g l.length))) (h1:σ[j]?=some (.row g 1 (l.map Zc))):Zal 1 σ (.tup [])=some (.tup [],wH 0 l):=by
 have d0:σ.getD 0 .free=.var (wv j g l.length):=by simp [List.getD_eq_getElem?_getD,h0]
 have d1:σ.getD j .free=.row g 1 (l.map Zc):=by simp [List.getD_eq_getElem?_getD,h1]
 have ej:([0]:List Nat).contains j=false:=by simp;omega
 have hrf:Zr (wv j g l.length)=[j]:=rfl
 have hi:ZE 1 [.tup []] σ=[0,j]:=by
  have : Zr [AVal.tup []]=[]:=rfl
  have hR:List.range 1=[0]:=rfl
  simp only [ZE,this,List.nil_append,hR,List.flatMap_cons,List.flatMap_nil,List.append_nil,d0,ZQ,hrf]
  rw [show (1000:Nat)=998+1+1 from rfl,ZA,ej]
  simp only [Bool.false_eq_true,if_false,d1,ZQ,List.nil_append]
  rfl
 have hρ:Zl σ 1 [0,j] j g=some (1,0):=by
  have : ¬(0:Nat)=j:=fun e=>hj e.symm
  simp [Zl,Z1,Zp,ZU,h1,this]
 have hren:Ze (Zl σ 1 [0,j]) (wv j g l.length)=wv 1 0 l.length:=by simp only [wv,Ze,Zk,hρ]
 have ht:Ze (Zl σ 1 [0,j]) [AVal.tup []]=[.tup []]:=rfl
 simp only [Zal,gcA,hi,ht,Zx,d0,d1,ZU,Zp,ZJ,hren,wH]
 simp
theorem ZD1 (σ:Za):Zal 1 (.var wn::σ) (.tup [])=some (.tup [],[.var wn]):=rfl
theorem ZGN (l:Zb) (σ:Za):Zal 2 (.var (wv 1 0 l.length)::.row 0 1 (l.map Zc)::σ) (.tup [])=some (.tup [],wH 0 l):=by
 simp [Zal,gcA,ZE,Zr,ZZ,List.range,List.range.loop,ZQ,wv,ZA,Zl,Z1,Zx,ZU,Zp,ZJ,Ze,Zk,wH]
def Za2 (p:Zq):Zb:=if p.code≠0∨p.props≠[] then beB (ZC p.code) 1++(if p.props≠[] then (ZaF p.type p.props).1 else []) else []
def ZcK (p:Zq):Option Zb:=if p.code≠0∨p.props≠[] then some (Za2 p) else none
theorem ZeI:ZbW=70368744177664:=rfl
section
variable (p:Zq) (h:OkW p)
include h
theorem Zuc:E1 131 [.ref 0 0,Z7 p] [.var wn]=some (.tup [],wO (ZcK p)):=by
 have l2:=Zdi p.type p.props
 have l1:=ZaJ 1 (ZC p.code)
 have hN:=fun {σ:Za} {t site:Nat}=>Zlz p.code 1 (by omega) (by omega) (m:=1) rfl (σ:=σ) (t:=t) (site:=site)
 have hPr:=fun {σ:Za} {site:Nat}=>Zgu (beB (ZC p.code) 1) p.type p.props h.props.1 h.props.2 (by rw [ZeI];omega) (σ:=σ) 0 2 0 (site:=site) (by omega)
 have hO:=fun {j g:Nat} {l:Zb} {σ:Za}=>ZdR (j:=j) (g:=g) (l:=l) (σ:=σ)
 have hl:(p.props.map Zo).length=p.props.length:=by simp
 rw [ZbB]
 have e1:=ZbP p
 have e0:=Zbt p
 have a0:(Zt p)[0]?=some (.int .i64 p.type):=rfl
 have a7:(Zt p)[7]?=some (.int .i64 p.code):=rfl
 have a9:(Zt p)[9]?=some (.lst false (p.props.map Zo)):=rfl
 unfold ZcK Za2
 generalize Zt p=P at *
 generalize p.type=ty at *
 generalize p.code=c at *
 generalize p.props=ps at *
 rw [Zbp (by rfl) ZuB]
 by_cases hc:c=0
 ·have b1:(c != 0)=false:=by simp [hc]
  cases ps with
  | nil =>
   rw [if_neg (by simp [hc])]
   unfold wn wO at *
   simp -implicitDefEqProofs only [EQA,Zs,Zac,ZqE,Nat.reduceAdd,Nat.reduceLT,Nat.reduceEqDiff,Nat.reduceBEq,Zz,unG,ne_eq,Option.some.injEq,reduceCtorEq,decide_false,decide_eq_true_eq,↓reduceIte,Zd,Zf9,Zeo,ZfU,oI,AVal.cells,a0,a7,a9,b1]
   exact ZD1 []
  | cons q ps =>
   rw [if_pos (by simp)]
   have g0:((((q::ps).map Zo).length:Nat):Int) > 0:=by simp
   rw [if_pos (by simp)]
   generalize (ZaF ty (q::ps)).1=B at *
   generalize (q::ps).map Zo=qs at *
   generalize beB (ZC c) 1=D at *
   unfold wn wO at *
   simp -implicitDefEqProofs only [EQA,Zs,Nat.reduceAdd,Nat.reduceLT,Nat.reduceEqDiff,Nat.reduceBEq,Zz,unG,ne_eq,Option.some.injEq,reduceCtorEq,decide_true,decide_false,↓reduceIte,Zd,Zf9,Zeo,ZfU,oI,AVal.cells,a0,a7,a9,b1,g0,hN,hPr]
   exact hO (j:=2) (by decide) rfl rfl
 ·have b1:(c != 0)=true:=by simp [hc]
  rw [if_pos (by simp [hc]),if_pos (by simp [hc])]
  cases ps with
  | nil =>
   rw [if_neg (by simp),List.append_nil]
   generalize beB (ZC c) 1=D at *
   unfold wn wO at *
   simp -implicitDefEqProofs only [EQA,Zs,Nat.reduceAdd,Nat.reduceLT,Nat.reduceEqDiff,Nat.reduceBEq,Zz,Zau,ne_eq,Option.some.injEq,reduceCtorEq,decide_false,decide_eq_true_eq,↓reduceIte,Zd,Zf9,Zeo,ZfU,oI,AVal.cells,a0,a7,a9,b1,hN]
   exact hO (j:=2) (by decide) rfl rfl
  | cons q ps =>
   have g0:((((q::ps).map Zo).length:Nat):Int) > 0:=by simp
   rw [if_pos (by simp)]
   generalize (ZaF ty (q::ps)).1=B at *
   generalize (q::ps).map Zo=qs at *
   generalize beB (ZC c) 1=D at *
   unfold wn wO at *
   simp -implicitDefEqProofs only [EQA,Zs,Nat.reduceAdd,Nat.reduceLT,Nat.reduceEqDiff,Nat.reduceBEq,Zz,Zau,ne_eq,Option.some.injEq,reduceCtorEq,decide_true,decide_false,↓reduceIte,Zd,Zf9,Zeo,ZfU,oI,AVal.cells,a0,a7,a9,b1,g0,hN,hPr]
   exact hO (j:=2) (by decide) rfl rfl
theorem ZJC (l:Zb) (hl:l.length≤1000000000):E1 131 [.ref 0 0,Z7 p] (wH 0 l)=some (.tup [],if Za2 p=[] then wH 0 l else wH 1 (l++Za2 p)):=by
 have l2:=Zdi p.type p.props
 have l1:=ZaJ 1 (ZC p.code)
 have hN:=fun {σ:Za} {site:Nat}=>ZfV l p.code 1 (by omega) (by omega) (m:=1) rfl (by rw [ZeI];omega) (σ:=σ) 0 1 0 (site:=site) (by omega)
 have hPr:=fun {σ:Za} {site:Nat}=>Zgu (l++beB (ZC p.code) 1) p.type p.props h.props.1 h.props.2 (by rw [ZeI,List.length_append];omega) (σ:=σ) 0 1 1 (site:=site) (by omega)
 have hl:(p.props.map Zo).length=p.props.length:=by simp
 rw [ZbB]
 have e1:=ZbP p
 have e0:=Zbt p
 have a0:(Zt p)[0]?=some (.int .i64 p.type):=rfl
 have a7:(Zt p)[7]?=some (.int .i64 p.code):=rfl
 have a9:(Zt p)[9]?=some (.lst false (p.props.map Zo)):=rfl
 obtain ⟨R,hR⟩:∃ R,R=Za2 p:=⟨_,rfl⟩
 rw [←hR]
 unfold Za2 at hR
 generalize Zt p=P at *
 generalize p.type=ty at *
 generalize p.code=c at *
 generalize p.props=ps at *
 rw [Zbp (by rfl) ZuB]
 by_cases hc:c=0
 ·have b1:(c != 0)=false:=by simp [hc]
  cases ps with
  | nil =>
   rw [if_neg (by simp [hc])] at hR
   subst hR
   rw [if_pos rfl]
   unfold wH at *
   simp -implicitDefEqProofs only [EQA,ZqE,Nat.reduceAdd,Nat.reduceLT,Nat.reduceEqDiff,Nat.reduceBEq,Zz,unG,ne_eq,Option.some.injEq,reduceCtorEq,decide_false,decide_eq_true_eq,↓reduceIte,Zf9,Zeo,ZfU,oI,AVal.cells,a0,a7,a9,b1]
   exact ZGN _ _
  | cons q ps =>
   have g0:((((q::ps).map Zo).length:Nat):Int) > 0:=by simp
   rw [if_pos (by simp),if_pos (by simp)] at hR
   subst hR
   rw [if_neg (by intro e;have:=congrArg List.length e;simp [l1] at this)]
   generalize (ZaF ty (q::ps)).1=B at *
   generalize (q::ps).map Zo=qs at *
   generalize beB (ZC c) 1=D at *
   rw [←List.append_assoc]
   unfold wH at *
   simp -implicitDefEqProofs only [EQA,Nat.reduceAdd,Nat.reduceLT,Nat.reduceEqDiff,Nat.reduceBEq,Zz,unG,ne_eq,Option.some.injEq,reduceCtorEq,decide_true,decide_false,↓reduceIte,Zf9,Zeo,ZfU,oI,AVal.cells,a0,a7,a9,b1,g0,hN,hPr]
   exact ZgI _ 1 _
 ·have b1:(c != 0)=true:=by simp [hc]
  rw [if_pos (by simp [hc])] at hR
  cases ps with
  | nil =>
   rw [if_neg (by simp),List.append_nil] at hR
   subst hR
   rw [if_neg (by intro e;have:=congrArg List.length e;simp [l1] at this)]
   generalize beB (ZC c) 1=D at *
   unfold wH at *
   simp -implicitDefEqProofs only [EQA,Nat.reduceAdd,Nat.reduceLT,Nat.reduceEqDiff,Nat.reduceBEq,Zz,Zau,ne_eq,Option.some.injEq,reduceCtorEq,decide_false,decide_eq_true_eq,↓reduceIte,Zf9,Zeo,ZfU,oI,AVal.cells,a0,a7,a9,b1,hN]
   exact ZgI _ 0 _
  | cons q ps =>
   have g0:((((q::ps).map Zo).length:Nat):Int) > 0:=by simp
   rw [if_pos (by simp)] at hR
   subst hR
   rw [if_neg (by intro e;have:=congrArg List.length e;simp [l1] at this)]
   generalize (ZaF ty (q::ps)).1=B at *
   generalize (q::ps).map Zo=qs at *
   generalize beB (ZC c) 1=D at *
   rw [←List.append_assoc]
   unfold wH at *
   simp -implicitDefEqProofs only [EQA,Nat.reduceAdd,Nat.reduceLT,Nat.reduceEqDiff,Nat.reduceBEq,Zz,Zau,ne_eq,Option.some.injEq,reduceCtorEq,decide_true,decide_false,↓reduceIte,Zf9,Zeo,ZfU,oI,AVal.cells,a0,a7,a9,b1,g0,hN,hPr]
   exact ZgI _ 1 _
def ZfT (p:Zq):Nat:=if Za2 p=[] then 0 else 1
theorem ZKw (l:Zb) (hl:l.length≤1000000000) {σ:Za} (t r g:Nat) {site:Nat} (htr:t≠r) (hf:σ[site]?=some .free) (hs0:σ[t]?=some (.var (wv r g l.length))) (hr:σ[r]?=some (.row g 1 (l.map Zc))) :
  Zj E1 BY σ site 131 1 true [.ref t 0,.agg (Zt p)]=some (.tup [],(σ.set t (.var (wv r (g+ZfT p) (l++Za2 p).length))).set r (.row (g+ZfT p) 1 ((l++Za2 p).map Zc)),{ any:=true,upd:=[(t,wv r (g+ZfT p) (l++Za2 p).length)] }):=by
 have hw:=ZJC p h l hl
 have hw':E1 131 [.ref 0 0,Z7 p] (wH 0 l)=some (.tup [],wH (ZfT p) (l++Za2 p)):=by
  rw [hw]
  unfold ZfT
  split
  ·rename_i e;rw [e,List.append_nil]
  ·rfl
 exact Zho (args:=[.agg (Zt p)]) rfl ⟨rfl,rfl⟩ (ZfT p) (by unfold ZfT;split <;> omega) hw' (by kernel_rfl) (by rw [List.all_cons,Zdu];rfl) (by rw [List.map_cons,ZdG];rfl) htr (ff1 hf) hs0 hr
def Zb0 (p:Zq):Zb:=beB (ZC p.id) 2++(ZaF p.type p.props).1
theorem Zw4:E1 132 [.ref 0 0,Z7 p] [.var wn]=some (.tup [],wH 0 (Zb0 p)):=by
 have l2:=Zdi p.type p.props
 have l1:=ZaJ 2 (ZC p.id)
 have hN:=fun {σ:Za} {t site:Nat}=>Zlz p.id 2 (by omega) (by omega) (m:=2) rfl (σ:=σ) (t:=t) (site:=site)
 have hPr:=fun {σ:Za} {site:Nat}=>Zgu (beB (ZC p.id) 2) p.type p.props h.props.1 h.props.2 (by rw [ZeI];omega) (σ:=σ) 0 2 0 (site:=site) (by omega)
 have hO:=fun {j g:Nat} {l:Zb} {σ:Za}=>ZdR (j:=j) (g:=g) (l:=l) (σ:=σ)
 rw [ZbB]
 have e0:=Zbt p
 have a0:(Zt p)[0]?=some (.int .i64 p.type):=rfl
 have a4:(Zt p)[4]?=some (.int .i64 p.id):=rfl
 have a9:(Zt p)[9]?=some (.lst false (p.props.map Zo)):=rfl
 unfold Zb0
 generalize Zt p=P at *
 generalize p.type=ty at *
 generalize p.id=c at *
 generalize p.props=ps at *
 generalize (ZaF ty ps).1=B at *
 generalize ps.map Zo=qs at *
 generalize beB (ZC c) 2=D at *
 rw [Zbp (by rfl) ZGU]
 unfold wn at *
 simp -implicitDefEqProofs only [EQA,Zs,Nat.reduceAdd,Nat.reduceLT,Nat.reduceEqDiff,Nat.reduceBEq,reduceCtorEq,↓reduceIte,Zd,Zyt,Zmw,Zzb,oI,AVal.cells,a0,a4,a9,hN,hPr]
 exact hO (j:=2) (by decide) rfl rfl
theorem Zpg {σ:Za} {t site:Nat} (hf:σ[site]?=some .free) (hs0:σ[t]?=some (.var wn)) :
  Zj E1 BY σ site 132 1 true [.ref t 0,.agg (Zt p)]=some (.tup [],(σ.set t (.var (wv site 0 (Zb0 p).length))).set site (.row 0 1 ((Zb0 p).map Zc)),{ any:=true,upd:=[(t,wv site 0 (Zb0 p).length)] }) :=
 Zgs (args:=[.agg (Zt p)]) rfl rfl (Zw4 p h) (by kernel_rfl) (by rw [List.all_cons,Zdu];rfl) (by rw [List.map_cons,ZdG];rfl) hf hs0
end
end Go.Proofs.YtmlkhhidifjjfaaDoor
namespace Go.Proofs.YtmlkhhidifjjfaaDoor
set_option maxHeartbeats 8000000
set_option maxRecDepth 10000
theorem Zdc (w:Int) (b:Zb):(Z0 w b).2.1≤b.length:=by
 unfold Z0
 split
 ·simp
 ·rename_i h
  split
  ·simp only
   have : ¬(((ZT b).1:Int) > (b.length:Int) - ((ZT b).2.1:Nat)):=fun e=>h (Or.inr e)
   omega
  ·simp
def ZF:Zq:=⟨0,false,0,false,0,[],[],0,[],[],[],[],false,0,[],false,⟨[],[],0,false,[]⟩,false,[],false,[],false⟩
theorem ZjH (σ:Za):ZaM σ P0=some (Zt ZF,[]):=rfl
theorem ZjQ (q:Zq) (ρ:Rho):Ze ρ (Zt q)=Zt q:=by
 have h:=ZtT (ρ:=ρ) (Zdu q)
 rw [ZdG,Zk] at h
 injection h
theorem ZtW {Q:List AVal} {q:Zq} (c:Int) (h:∀ σ,ZaM σ Q=some (Zt q,[])):ZbI 0 (some (.tup [.agg Q,.int .i64 c],[]))=some (.tup [Z7 q,.int .i64 c],[]):=by
 have h1:viewR [] (.tup [.agg Q,.int .i64 c])=some (.tup [Z7 q,.int .i64 c],[]):=by
  rw [viewR,viewAs,ZN,h]
  rfl
 unfold ZbI
 simp only [h1]
 have e1:=ZuX q
 have e2:=ZjQ q
 have hi:ZE 0 [AVal.tup [Z7 q,.int .i64 c]] []=[]:=by
  have : Zr [AVal.tup [Z7 q,.int .i64 c]]=[]:=by simp [Zr,ZZ,ZbB,e1]
  simp only [ZE,this,List.nil_append,List.range_zero,List.flatMap_nil]
  rfl
 simp only [Zn,gcA,hi,Ze,Zk,Zx]
 rw [ZbB,Zk,e2]
theorem Zuy {b c:Int} {l:Zb} {Q:List AVal} {q:Zq} (h:E1 32 [.agg [.int .u8 b,.lst false (l.map Zc)]] []=some (.tup [.agg Q,.int .i64 c],[])) (hv:∀ σ,ZaM σ Q=some (Zt q,[])) (f:Bool) (σ:Za) (site own:Nat) :
  Zj E1 BY σ site 32 own true [.agg [.int .u8 b,.lst f (l.map Zc)]]=some (.tup [Z7 q,.int .i64 c],σ,{}):=by
 refine Zbr h (by kernel_rfl) rfl rfl (ZtW c hv) (fun site=>?_) σ site own
 simp only [Zk,Ze,ZbB,ZjQ]
def Zfu (b:Int) (l:Zb):Zq×Int :=
 if qoI b < 3 then (if qoI b > 0∨(Zbf b 8 != 0)=false then (match Zej (qoI b) l with
  | .error e=>(ZF,e)
  | .ok (tp,n,ps,pay)=>({ ZF with type:=3,dup:=(Zbf b 8 != 0),qos:=qoI b,retain:=(Zbf b 1 != 0),id:=n,topic:=tp,props:=ps,payload:=pay },0))
  else (ZF,130)) else (ZF,129)
theorem ZuQ (b:Int) (h3:tyI b=3) (l:Zb) (hl:l.length≤140737488355328):∃ Q,E1 32 [.agg [.int .u8 b,.lst false (l.map Zc)]] []=some (.tup [.agg Q,.int .i64 (Zfu b l).2],[])∧∀ σ,ZaM σ Q=some (Zt (Zfu b l).1,[]):=by
 have hf:=ZLC P0 rfl (by rfl) b l h3
 have hQ:(ZcQ P0 b).length=26:=rfl
 have hN:Zd (ZcQ P0 b)=true:=by rfl
 unfold Zfu
 by_cases hq:qoI b < 3
 ·rw [if_pos hq] at hf ⊢
  by_cases hd:qoI b > 0∨(Zbf b 8 != 0)=false
  ·rw [if_pos hd] at hf ⊢
   cases hp:Zej (qoI b) l with
   | error e =>
    obtain ⟨cs,hn,hb⟩:=ZAJ (ZcQ P0 b) hQ hN (qoI b) rfl rfl l hl hp
    refine ⟨P0,?_,ZjH⟩
    rw [Zf1]
    exact Zgq b e l (Zs8 b l hQ hN hn hf hb)
   | ok s =>
    obtain ⟨tp,n,ps,pay⟩:=s
    have hb:=ZwJ (ZcQ P0 b) hQ hN (qoI b) rfl rfl rfl (fun r _=>Zdc 3 r) l hl hp
    refine ⟨((((ZcQ P0 b).set 5 (.str tp)).set 4 (.int .i64 n)).set 9 (.lst false (ps.map Zo))).set 6 (.lst false (pay.map Zc)),?_,fun σ=>rfl⟩
    rw [Zf1]
    exact Zn4 b l hQ hN rfl (by rfl) rfl rfl hf hb
  ·rw [if_neg hd] at hf ⊢
   refine ⟨P0,?_,ZjH⟩
   rw [Zf1]
   exact Zgq b 130 l (Zli b l (Zw _ hQ hN _ _) hf)
 ·rw [if_neg hq] at hf ⊢
  refine ⟨P0,?_,ZjH⟩
  rw [Zf1]
  exact Zgq b 129 l (Zli b l (Zw _ hQ hN _ _) hf)
theorem ZD5 (b:Int) (h3:tyI b=3) (l:Zb) (hl:l.length≤140737488355328) (f:Bool) (σ:Za) (site own:Nat) :
  Zj E1 BY σ site 32 own true [.agg [.int .u8 b,.lst f (l.map Zc)]]=some (.tup [Z7 (Zfu b l).1,.int .i64 (Zfu b l).2],σ,{}):=by
 obtain ⟨Q,h,hv⟩:=ZuQ b h3 l hl
 exact Zuy h hv f σ site own
end Go.Proofs.YtmlkhhidifjjfaaDoor
namespace Go.Proofs.YtmlkhhidifjjfaaDoor
set_option maxHeartbeats 8000000
set_option maxRecDepth 10000
def ZcN (k:Int) (l:Zb):Except Int (Int×List Zu×Zb):=match idK l with
 | .error c=>.error c
 | .ok (n,r1)=>match Zbs k r1 with
  | .error c=>.error c
  | .ok (ps,r2)=>if r2.length=0 then .error 130 else .ok (n,ps,r2)
def Zb2 (P:List AVal) (n:Int) (ps:List Zu):List AVal:=(P.set 4 (.int .i64 n)).set 9 (.lst false (ps.map Zo))
structure QOk (k:Int) (Q:List AVal):Prop where
 len:Q.length=26
 nor:Zd Q=true
 ty:Q[0]?=some (.int .i64 k)
 c8:Q[8]?=some (.lst true [])
 c10:Q[10]?=some (.lst true [])
 c11:Q[11]?=some (.lst true [])
theorem Zdx {k:Int} {P:List AVal} (h:QOk k P) (n:Int) (ps:List Zu):QOk k (Zb2 P n ps):=by
 unfold Zb2
 refine ⟨by simp [h.len],ZP (Zb9 _ _) _ (ZP rfl _ h.nor),?_,?_,?_,?_⟩
 ·rw [List.getElem?_set_ne (by omega),List.getElem?_set_ne (by omega)];exact h.ty
 ·rw [List.getElem?_set_ne (by omega),List.getElem?_set_ne (by omega)];exact h.c8
 ·rw [List.getElem?_set_ne (by omega),List.getElem?_set_ne (by omega)];exact h.c10
 ·rw [List.getElem?_set_ne (by omega),List.getElem?_set_ne (by omega)];exact h.c11
theorem ZDU {f:Nat} {cs:List AVal} (hc:Zd cs=true) (τ:Za) :
  gcT 3 [(1,.fn f [.ref 1 0,.ref 2 0]),(0,.ref 0 0)] (.var cs::.var [.ref 0 0]::.var [.ref 0 0]::τ)=([(1,.fn f [.ref 1 0,.ref 2 0]),(0,.ref 0 0)],[.var cs,.var [.ref 0 0],.var [.ref 0 0]]):=by
 have e2:=fun ρ=>ZaT ρ cs hc
 have hi:ZE 3 [.fn f [.ref 1 0,.ref 2 0],.ref 0 0] (.var cs::.var [.ref 0 0]::.var [.ref 0 0]::τ)=[0,1,2]:=by
  have hR:List.range 3=[0,1,2]:=rfl
  simp only [ZE,hR,List.flatMap_cons,List.flatMap_nil,List.append_nil,List.getD_cons_zero,List.getD_cons_succ,ZQ,Zr,ZZ,(e2 (fun _ _=>none)).2]
  rfl
 have hρ0:Zl (.var cs::.var [.ref 0 0]::.var [.ref 0 0]::τ) 3 [0,1,2] 0 0=some (0,0):=rfl
 have hρ1:Zl (.var cs::.var [.ref 0 0]::.var [.ref 0 0]::τ) 3 [0,1,2] 1 0=some (1,0):=rfl
 have hρ2:Zl (.var cs::.var [.ref 0 0]::.var [.ref 0 0]::τ) 3 [0,1,2] 2 0=some (2,0):=rfl
 simp only [gcT,gcA,List.map_cons,List.map_nil,hi,Zx,List.getD_cons_zero,List.getD_cons_succ,ZJ,Ze,Zk,hρ0,hρ1,hρ2,(e2 _).1]
 rfl
theorem ZL0 {f:Nat} {cs:List AVal} (hc:Zd cs=true) (τ:Za) :
  gcT 1 [(1,.fn f [.ref 0 0]),(0,.ref 0 0)] (.var cs::τ)=([(1,.fn f [.ref 0 0]),(0,.ref 0 0)],[.var cs]):=by
 have e2:=fun ρ=>ZaT ρ cs hc
 have hi:ZE 1 [.fn f [.ref 0 0],.ref 0 0] (.var cs::τ)=[0]:=by
  have hR:List.range 1=[0]:=rfl
  simp only [ZE,hR,List.flatMap_cons,List.flatMap_nil,List.append_nil,List.getD_cons_zero,ZQ,Zr,ZZ,(e2 (fun _ _=>none)).2]
  rfl
 have hρ0:Zl (.var cs::τ) 1 [0] 0 0=some (0,0):=rfl
 simp only [gcT,gcA,List.map_cons,List.map_nil,hi,Zx,List.getD_cons_zero,ZJ,Ze,Zk,hρ0,(e2 _).1]
 rfl
section
variable (k:Int) (f:Nat) (P:List AVal) (h:QOk k P) (l:Zb) (hl:l.length≤140737488355328)
include h hl
theorem ZtP {n:Int} {ps:List Zu} {r:Zb} (hk:ZcN k l=.ok (n,ps,r)):E 121 [.ref 0 0,.fn f [.ref 1 0,.ref 2 0]] [.var (P++[.lst false (l.map Zc)]),.var [.ref 0 0],.var [.ref 0 0]]=ZaY 3 [(1,.fn f [.ref 1 0,.ref 2 0]),(0,.ref 0 0)] [.var (Zb2 P n ps++[.lst false (r.map Zc)]),.var [.ref 0 0],.var [.ref 0 0]]:=by
 obtain ⟨hP,hN,h0,-,-,-⟩:=h
 unfold ZcN at hk
 split at hk
 ·cases hk
 rename_i n' r1 hi
 have l1:=Ze7 hi
 split at hk
 ·cases hk
 rename_i ps' r2 hp
 split at hk
 ·cases hk
 rename_i hne
 injection hk with hk;injection hk with e1 hk;injection hk with e2 e3;subst e1 e2 e3
 have hI:=fun σ site hs=>Zfn P hP hN l hl σ 0 site hs hi
 have hP4:(P.set 4 (.int .i64 n')).length=26:=by simp [hP]
 have hN4:Zd (P.set 4 (.int .i64 n'))=true:=ZP rfl 4 hN
 have h04:(P.set 4 (.int .i64 n'))[0]?=some (.int .i64 k):=by rw [List.getElem?_set_ne (by omega)];exact h0
 unfold Zb2
 generalize P.set 4 (.int .i64 n')=R at *
 have hG:=fun σ site hs=>ZdY R hP4 hN4 r1 (by omega) σ 0 site hs (Zdc k r1) hp
 have c1:=Z2 R hP4
 have c2:=Zao R hP4
 have c4:=fun L=>(Z5 R hP4 0 (by omega) L).trans h04
 have c3:=fun L=>Zat R hP4 9 10 (by omega) rfl L (.lst false (ps'.map Zo))
 have hP9:(R.set 9 (.lst false (ps'.map Zo))).length=26:=by simp [hP4]
 have hN9:Zd (R.set 9 (.lst false (ps'.map Zo)))=true:=ZP (Zb9 _ _) 9 hN4
 generalize R.set 9 (.lst false (ps'.map Zo))=S at *
 have d2:=Zao S hP9
 have m1:=Za9
 have z:((r2.length:Nat):Int) > 0:=by omega
 have z2:(0:Int) < ((r2.length:Nat):Int):=by omega
 have gC:=fun τ=>ZDU (f:=f) (Zw S hP9 hN9 false (r2.map Zc)) τ
 unfold ZaY
 rw [Zh (by rfl) ZfW]
 simp -implicitDefEqProofs only [EQA,ZG,Zac,Nat.reduceAdd,Nat.reduceLT,Nat.reduceLeDiff,Nat.reduceEqDiff,reduceCtorEq,decide_true,↓reduceIte,ZfS,Zen,oI,oN,c1,c3,c4,hI,hG,d2,m1,z,gC]
theorem ZJi {e:Int} (hk:ZcN k l=.error e):∃ cs,Zd cs=true∧E 121 [.ref 0 0,.fn f [.ref 1 0,.ref 2 0]] [.var (P++[.lst false (l.map Zc)]),.var [.ref 0 0],.var [.ref 0 0]]=some (.pan (Zy e),[.var (cs),.var [.ref 0 0],.var [.ref 0 0]]):=by
 obtain ⟨hP,hN,h0,-,-,-⟩:=h
 unfold ZcN at hk
 split at hk
 ·rename_i c hi
  injection hk with hk;subst hk
  obtain ⟨cs,hn,he⟩:=Zjm P hP hN l hl hi
  have hI:=fun (σ:Za) site (hs:σ[0]?=some (.var (P++[.lst false (l.map Zc)])))=>Zct (O:=E) (byref:=BY) (f:=119) (view:=true) (rest:=[]) (by kernel_rfl) rfl (Zw P hP hN _ _) hn rfl he hs site
  refine ⟨cs,hn,?_⟩
  rw [Zh (by rfl) ZfW]
  simp -implicitDefEqProofs only [EQA,Nat.reduceAdd,Nat.reduceLT,reduceCtorEq,↓reduceIte,ZfS,Zen,oI,oN,hI]
  exact Zjv rfl hn _
 rename_i n' r1 hi
 have l1:=Ze7 hi
 have hI:=fun σ site hs=>Zfn P hP hN l hl σ 0 site hs hi
 have hP4:(P.set 4 (.int .i64 n')).length=26:=by simp [hP]
 have hN4:Zd (P.set 4 (.int .i64 n'))=true:=ZP rfl 4 hN
 have h04:(P.set 4 (.int .i64 n'))[0]?=some (.int .i64 k):=by rw [List.getElem?_set_ne (by omega)];exact h0
 generalize P.set 4 (.int .i64 n')=R at *
 have c1:=Z2 R hP4
 have c2:=Zao R hP4
 have c4:=fun L=>(Z5 R hP4 0 (by omega) L).trans h04
 split at hk
 ·rename_i c hp
  injection hk with hk;subst hk
  have hG:=fun σ site hs=>Zfl R hP4 hN4 r1 (by omega) σ 0 site hs hp
  refine ⟨_,Zw R hP4 hN4 false (r1.map Zc),?_⟩
  rw [Zh (by rfl) ZfW]
  simp -implicitDefEqProofs only [EQA,Nat.reduceAdd,Nat.reduceLT,Nat.reduceEqDiff,reduceCtorEq,↓reduceIte,ZfS,Zen,oI,oN,c4,hI,hG]
  exact Zjv rfl (Zw R hP4 hN4 _ _) _
 rename_i ps' r2 hp
 split at hk
 case isFalse=>cases hk
 rename_i hne
 injection hk with hk;subst hk
 have hG:=fun σ site hs=>ZdY R hP4 hN4 r1 (by omega) σ 0 site hs (Zdc k r1) hp
 have c3:=fun L=>Zat R hP4 9 10 (by omega) rfl L (.lst false (ps'.map Zo))
 have hP9:(R.set 9 (.lst false (ps'.map Zo))).length=26:=by simp [hP4]
 have hN9:Zd (R.set 9 (.lst false (ps'.map Zo)))=true:=ZP (Zb9 _ _) 9 hN4
 generalize R.set 9 (.lst false (ps'.map Zo))=S at *
 have d2:=Zao S hP9
 have m1:=ZbA
 have z:¬((r2.length:Nat):Int) > 0:=by omega
 have z2:¬(0:Int) < ((r2.length:Nat):Int):=by omega
 refine ⟨_,Zw S hP9 hN9 false (r2.map Zc),?_⟩
 rw [Zh (by rfl) ZfW]
 simp -implicitDefEqProofs only [EQA,ZG,Nat.reduceAdd,Nat.reduceLT,Nat.reduceLeDiff,Nat.reduceEqDiff,reduceCtorEq,decide_false,↓reduceIte,ZfS,Zen,oI,oN,c1,c3,c4,hI,hG,d2,m1,z]
 exact Zjv rfl (Zw S hP9 hN9 _ _) _
theorem Zta {n:Int} {ps:List Zu} {r:Zb} (hk:ZcN k l=.ok (n,ps,r)):E 121 [.ref 0 0,.fn f [.ref 0 0]] [.var (P++[.lst false (l.map Zc)])]=ZaY 1 [(1,.fn f [.ref 0 0]),(0,.ref 0 0)] [.var (Zb2 P n ps++[.lst false (r.map Zc)])]:=by
 obtain ⟨hP,hN,h0,-,-,-⟩:=h
 unfold ZcN at hk
 split at hk
 ·cases hk
 rename_i n' r1 hi
 have l1:=Ze7 hi
 split at hk
 ·cases hk
 rename_i ps' r2 hp
 split at hk
 ·cases hk
 rename_i hne
 injection hk with hk;injection hk with e1 hk;injection hk with e2 e3;subst e1 e2 e3
 have hI:=fun σ site hs=>Zfn P hP hN l hl σ 0 site hs hi
 have hP4:(P.set 4 (.int .i64 n')).length=26:=by simp [hP]
 have hN4:Zd (P.set 4 (.int .i64 n'))=true:=ZP rfl 4 hN
 have h04:(P.set 4 (.int .i64 n'))[0]?=some (.int .i64 k):=by rw [List.getElem?_set_ne (by omega)];exact h0
 unfold Zb2
 generalize P.set 4 (.int .i64 n')=R at *
 have hG:=fun σ site hs=>ZdY R hP4 hN4 r1 (by omega) σ 0 site hs (Zdc k r1) hp
 have c1:=Z2 R hP4
 have c2:=Zao R hP4
 have c4:=fun L=>(Z5 R hP4 0 (by omega) L).trans h04
 have c3:=fun L=>Zat R hP4 9 10 (by omega) rfl L (.lst false (ps'.map Zo))
 have hP9:(R.set 9 (.lst false (ps'.map Zo))).length=26:=by simp [hP4]
 have hN9:Zd (R.set 9 (.lst false (ps'.map Zo)))=true:=ZP (Zb9 _ _) 9 hN4
 generalize R.set 9 (.lst false (ps'.map Zo))=S at *
 have d2:=Zao S hP9
 have m1:=Za9
 have z:((r2.length:Nat):Int) > 0:=by omega
 have z2:(0:Int) < ((r2.length:Nat):Int):=by omega
 have gC:=fun τ=>ZL0 (f:=f) (Zw S hP9 hN9 false (r2.map Zc)) τ
 unfold ZaY
 rw [Zh (by rfl) ZfW]
 simp -implicitDefEqProofs only [EQA,ZG,Zac,Nat.reduceAdd,Nat.reduceLT,Nat.reduceLeDiff,Nat.reduceEqDiff,reduceCtorEq,decide_true,↓reduceIte,ZfS,Zen,oI,oN,c1,c3,c4,hI,hG,d2,m1,z,gC]
theorem ZKG {e:Int} (hk:ZcN k l=.error e):∃ cs,Zd cs=true∧E 121 [.ref 0 0,.fn f [.ref 0 0]] [.var (P++[.lst false (l.map Zc)])]=some (.pan (Zy e),[.var (cs)]):=by
 obtain ⟨hP,hN,h0,-,-,-⟩:=h
 unfold ZcN at hk
 split at hk
 ·rename_i c hi
  injection hk with hk;subst hk
  obtain ⟨cs,hn,he⟩:=Zjm P hP hN l hl hi
  have hI:=fun (σ:Za) site (hs:σ[0]?=some (.var (P++[.lst false (l.map Zc)])))=>Zct (O:=E) (byref:=BY) (f:=119) (view:=true) (rest:=[]) (by kernel_rfl) rfl (Zw P hP hN _ _) hn rfl he hs site
  refine ⟨cs,hn,?_⟩
  rw [Zh (by rfl) ZfW]
  simp -implicitDefEqProofs only [EQA,Nat.reduceLT,reduceCtorEq,↓reduceIte,ZfS,Zen,oI,oN,hI]
  exact ZX rfl hn
 rename_i n' r1 hi
 have l1:=Ze7 hi
 have hI:=fun σ site hs=>Zfn P hP hN l hl σ 0 site hs hi
 have hP4:(P.set 4 (.int .i64 n')).length=26:=by simp [hP]
 have hN4:Zd (P.set 4 (.int .i64 n'))=true:=ZP rfl 4 hN
 have h04:(P.set 4 (.int .i64 n'))[0]?=some (.int .i64 k):=by rw [List.getElem?_set_ne (by omega)];exact h0
 generalize P.set 4 (.int .i64 n')=R at *
 have c1:=Z2 R hP4
 have c2:=Zao R hP4
 have c4:=fun L=>(Z5 R hP4 0 (by omega) L).trans h04
 split at hk
 ·rename_i c hp
  injection hk with hk;subst hk
  have hG:=fun σ site hs=>Zfl R hP4 hN4 r1 (by omega) σ 0 site hs hp
  refine ⟨_,Zw R hP4 hN4 false (r1.map Zc),?_⟩
  rw [Zh (by rfl) ZfW]
  simp -implicitDefEqProofs only [EQA,Nat.reduceLT,Nat.reduceEqDiff,reduceCtorEq,↓reduceIte,ZfS,Zen,oI,oN,c4,hI,hG]
  exact ZX rfl (Zw R hP4 hN4 _ _)
 rename_i ps' r2 hp
 split at hk
 case isFalse=>cases hk
 rename_i hne
 injection hk with hk;subst hk
 have hG:=fun σ site hs=>ZdY R hP4 hN4 r1 (by omega) σ 0 site hs (Zdc k r1) hp
 have c3:=fun L=>Zat R hP4 9 10 (by omega) rfl L (.lst false (ps'.map Zo))
 have hP9:(R.set 9 (.lst false (ps'.map Zo))).length=26:=by simp [hP4]
 have hN9:Zd (R.set 9 (.lst false (ps'.map Zo)))=true:=ZP (Zb9 _ _) 9 hN4
 generalize R.set 9 (.lst false (ps'.map Zo))=S at *
 have d2:=Zao S hP9
 have m1:=ZbA
 have z:¬((r2.length:Nat):Int) > 0:=by omega
 have z2:¬(0:Int) < ((r2.length:Nat):Int):=by omega
 refine ⟨_,Zw S hP9 hN9 false (r2.map Zc),?_⟩
 rw [Zh (by rfl) ZfW]
 simp -implicitDefEqProofs only [EQA,ZG,Nat.reduceAdd,Nat.reduceLT,Nat.reduceLeDiff,Nat.reduceEqDiff,reduceCtorEq,decide_false,↓reduceIte,ZfS,Zen,oI,oN,c1,c3,c4,hI,hG,d2,m1,z]
 exact ZX rfl (Zw S hP9 hN9 _ _)
end
end Go.Proofs.YtmlkhhidifjjfaaDoor
namespace Go.Proofs.YtmlkhhidifjjfaaDoor
set_option maxHeartbeats 8000000
set_option maxRecDepth 10000
theorem Zva {n:Nat} {l r:Zb} {a:Int} (hn:0 < n) (h:Zaz n l=.ok (a,r)):r.length < l.length:=by
 unfold Zaz at h
 split at h
 ·cases h
 ·injection h with h;injection h with _ h;subst h;rw [List.length_drop];omega
theorem Zkr {l r a:Zb} (h:Zan l=.ok (a,r)):r.length < l.length:=by
 unfold Zan at h
 split at h
 ·rename_i h0
  injection h with h;injection h with _ h;subst h
  rw [List.length_drop]
  unfold Zab at h0 ⊢
  split at h0
  ·rename_i h1;exact absurd h0 h1
  ·rename_i h1
   rw [if_neg h1]
   split at h0
   ·rename_i h2
    rw [if_pos h2]
    unfold ZaI at h0 ⊢
    split at h0
    ·cases h0
    ·rename_i h3
     rw [if_neg h3]
     simp only
     omega
   ·cases h0
 ·cases h
theorem ZiD {k:Int} {l r:Zb} {a:Int} (h:Zas k l=.ok (a,r)):r.length < l.length:=by
 unfold Zas at h
 split at h
 ·rename_i h1
  split at h
  ·injection h with h;injection h with _ h;subst h;exact Zva (by omega) h1
  ·cases h
 ·cases h
theorem ZgZ {l r:Zb} {a:Zbv} (h:Zbn l=.ok (a,r)):r.length < l.length:=by
 unfold Zbn at h
 split at h
 ·cases h
 rename_i f r1 ht
 have l1:=Zkr ht
 split at h
 ·cases h
 rename_i o r2 hn
 have l2:=Zva (by omega) hn
 split at h
 case isFalse=>cases h
 split at h
 case isFalse=>cases h
 injection h with h;injection h with _ h;subst h
 omega
section
variable {O:ZR} {byref:Nat→Bool} {f:Nat} {cs cs1 cs2 cs3 xs xs2:List AVal} {w w2:Nat} {q:AVal}
theorem Zxm (hb:byref f=false) (hc:Zd cs=true) (hq:ZK q=true) (hback:∀ ρ:Rho,ρ 1 0=some (1,0)→Ze ρ cs2=cs2) (hO:O f [.ref 0 0] [.var cs]=some (q,[.var cs2,.row 0 w xs])) :
  Zj O byref [.var cs,.free,.free,.free,.free] 1 f 4 false [.ref 0 0]=some (q,[.var cs2,.row 0 w xs,.free,.free,.free],{ any:=true,upd:=[(0,cs2)] }):=by
 have ec:=fun ρ=>ZaT ρ cs hc
 refine ZcS (ids:=[0]) (vs:=[.ref 0 0]) hb rfl (Zfa rfl hc) rfl rfl rfl ?_ hO rfl (by simp) (by simp) rfl rfl (Za4 _ q hq).1 ?_ rfl
 ·show [ZM.var (Ze _ cs)]=_
  rw [(ec _).1]
 ·have hb3:=hback (ZaB [.var cs,.free,.free,.free,.free] [0] 1) rfl
  show [ZM.var (Ze _ cs2),.row 0 w xs,.free,.free,.free]=_
  rw [hb3]
theorem ZJH (hb:byref f=false) (hc:Zd cs=true) (hq:ZK q=true) (hc2:Zd cs2=true) (hO:O f [.ref 0 0] [.var cs]=some (q,[.var cs2])) :
  Zj O byref [.var cs,.free,.free,.free,.free] 1 f 4 false [.ref 0 0]=some (q,[.var cs2,.free,.free,.free,.free],{ any:=true,upd:=[(0,cs2)] }):=by
 have ec:=fun ρ=>ZaT ρ cs hc
 refine ZcS (ids:=[0]) (vs:=[.ref 0 0]) hb rfl (Zfa rfl hc) rfl rfl rfl ?_ hO rfl (by simp) (by simp) rfl rfl (Za4 _ q hq).1 ?_ rfl
 ·show [ZM.var (Ze _ cs)]=_
  rw [(ec _).1]
 ·show [ZM.var (Ze _ cs2),.free,.free,.free,.free]=_
  rw [(ZaT _ cs2 hc2).1]
theorem ZrS {g2:Nat} (hb:byref f=false) (hc:Zr cs=[1]) (hren:∀ ρ:Rho,ρ 1 0=some (1,0)→Ze ρ cs=cs) (hq:ZK q=true) (hg2:g2≤1) (hback:∀ ρ:Rho,ρ 1 g2=some (1,g2)→Ze ρ cs2=cs2) (hO:O f [.ref 0 0] [.var cs,.row 0 w xs]=some (q,[.var cs2,.row g2 w2 xs2])) :
  Zj O byref [.var cs,.row 0 w xs,.free,.free,.free,.free] 2 f 4 false [.ref 0 0]=some (q,[.var cs2,.row g2 w2 xs2,.free,.free,.free,.free],{ any:=true,upd:=[(0,cs2)] }):=by
 refine ZcS (ids:=[0,1]) (vs:=[.ref 0 0]) hb rfl (Zpc (g:=0) (w:=w) (xs:=xs) rfl rfl (by omega) hc) rfl rfl rfl ?_ hO rfl (by simp) (by simp) ?_ rfl (Za4 _ q hq).1 ?_ rfl
 ·have h1:=hren (Zl [.var cs,.row 0 w xs,.free,.free,.free,.free] 0 [0,1]) rfl
  show [ZM.var (Ze _ cs),.row 0 w xs]=_
  rw [h1]
 ·simp [ZaZ,okB,Zce,Zp,hg2]
 ·have hb3:=hback (ZaB [.var cs,.row 0 w xs,.free,.free,.free,.free] [0,1] 2) (by simp [ZaB,Zp])
  show [ZM.var (Ze _ cs2),.row (0+g2) w2 xs2,.free,.free,.free,.free]=_
  rw [hb3,Nat.zero_add]
theorem Ztm {f g:Nat} (hc:Zr cs=[1]) (hg:g≤1) (hren:∀ ρ:Rho,ρ 1 g=some (1,0)→Ze ρ cs=cs1) (τ:Za) :
  gcT 1 [(1,.fn f [.ref 0 0]),(0,.ref 0 0)] (.var cs::.row g w xs::τ)=([(1,.fn f [.ref 0 0]),(0,.ref 0 0)],[.var cs1,.row 0 w xs]):=by
 have hi:ZE 1 [.fn f [.ref 0 0],.ref 0 0] (.var cs::.row g w xs::τ)=[0,1]:=by
  have hR:List.range 1=[0]:=rfl
  simp only [ZE,hR,List.flatMap_cons,List.flatMap_nil,List.append_nil,List.getD_cons_zero,ZQ,Zr,ZZ,hc]
  rfl
 have hρ:Zl (.var cs::.row g w xs::τ) 1 [0,1] 1 g=some (1,0):=by
  simp [Zl,Z1,Zp,ZU]
 have hρ0:Zl (.var cs::.row g w xs::τ) 1 [0,1] 0 0=some (0,0):=rfl
 simp only [gcT,gcA,List.map_cons,List.map_nil,hi,Zx,List.getD_cons_zero,List.getD_cons_succ,ZU,Zp,ZJ,Ze,Zk,hρ0,hren _ hρ]
 simp
end
section
variable (Q:List AVal) (hQ:Q.length=26) (hN:Zd Q=true) (h10:Q[10]?=some (.lst true []))
include hQ hN
def H1 (Q:List AVal) (n:Nat) (l:Zb) (ys:List AVal):Za:=[.var (Zi Q 10 1 0 n++[.lst false (l.map Zc)]),.row 0 6 ys]
def tmS:Tms:=[(1,.fn 1000122 [.ref 0 0]),(0,.ref 0 0)]
theorem Zqw:∀ (n:Nat) (l:Zb) (xs:List Zbv),l.length≤n→n+xs.length≤1099511627776 →
  (∀ ts,ZaD Zbn n l=.ok ts→ZaY 1 tmS (H1 Q xs.length l (xs.map ZY))=some (.tup [],H1 Q (xs++ts).length [] ((xs++ts).map ZY))) ∧
  (∀ e,ZaD Zbn n l=.error e→∃ (xs':List Zbv) (r:Zb),ZaY 1 tmS (H1 Q xs.length l (xs.map ZY))=some (.pan (Zy e),H1 Q xs'.length r (xs'.map ZY))):=by
 have hk:(10:Nat) < 26:=by omega
 intro n
 induction n with
 | zero =>
  intro l xs hl hx
  have l0:l=[]:=List.eq_nil_of_length_eq_zero (by omega)
  subst l0
  refine ⟨fun ts h=>?_,fun e h=>by simp [ZaD] at h⟩
  have : ts=[]:=by simpa [ZaD] using h.symm
  subst this
  rw [List.append_nil]
  have hL:=Zb6 Q hQ hN 10 hk xs.length 1 0
  have b2:=Zao _ hL
  have hO:=fun τ=>Zc0 (j:=1) (w:=6) (xs:=xs.map ZY) (r:=.tup []) (σ:=.var (Zi Q 10 1 0 xs.length++[.lst false []])::.row 0 6 (xs.map ZY)::τ) rfl (by omega) rfl rfl (Zbx Q hQ hN hk 1 0 xs.length []) (fun ρ h=>ZaQ Q hQ hN hk 1 0 xs.length 1 0 [] ρ h)
  unfold H1 tmS ZaY
  rw [Zad]
  generalize Zi Q 10 1 0 xs.length=R at *
  generalize xs.map ZY=ys at *
  simp -implicitDefEqProofs only [EQA,Zs,Nat.reduceAdd,Nat.reduceSub,Nat.reduceLT,Nat.reduceEqDiff,Nat.reduceBEq,reduceCtorEq,decide_eq_true_eq,↓reduceIte,Zd,Zku,Zdr,ZcT,oI,b2]
  exact hO _
 | succ n ih =>
  intro l xs hl hx
  have hL:=Zb6 Q hQ hN 10 hk xs.length 1 0
  have b2:=Zao _ hL
  by_cases l0:l.length=0
  ·have l0:l=[]:=List.eq_nil_of_length_eq_zero l0
   subst l0
   refine ⟨fun ts h=>?_,fun e h=>by simp [ZaD] at h⟩
   have : ts=[]:=by simpa [ZaD] using h.symm
   subst this
   rw [List.append_nil]
   have hO:=fun τ=>Zc0 (j:=1) (w:=6) (xs:=xs.map ZY) (r:=.tup []) (σ:=.var (Zi Q 10 1 0 xs.length++[.lst false []])::.row 0 6 (xs.map ZY)::τ) rfl (by omega) rfl rfl (Zbx Q hQ hN hk 1 0 xs.length []) (fun ρ h=>ZaQ Q hQ hN hk 1 0 xs.length 1 0 [] ρ h)
   unfold H1 tmS ZaY
   rw [Zad]
   generalize Zi Q 10 1 0 xs.length=R at *
   generalize xs.map ZY=ys at *
   simp -implicitDefEqProofs only [EQA,Zs,Nat.reduceAdd,Nat.reduceSub,Nat.reduceLT,Nat.reduceEqDiff,Nat.reduceBEq,reduceCtorEq,decide_eq_true_eq,↓reduceIte,Zd,Zku,Zdr,ZcT,oI,b2]
   exact hO _
  ·have z1:((l.length:Nat):Int) > 0:=by omega
   have z2:(0:Int) < ((l.length:Nat):Int):=by omega
   cases ho:Zbn l with
   | error e =>
    refine ⟨fun ts h=>by simp [ZaD,l0,ho] at h,fun e' h=>?_⟩
    have : e'=e:=by simpa [ZaD,l0,ho] using h.symm
    subst this
    obtain ⟨r,hE⟩:=ZC8 Q hQ hN l (by omega) xs ho
    have hC:=ZrS (O:=E) (byref:=BY) (f:=122) (g2:=0) (by kernel_rfl) (Zbx Q hQ hN hk 1 0 xs.length l) (fun ρ h=>ZaQ Q hQ hN hk 1 0 xs.length 1 0 l ρ h) (q:=.pan (Zy e')) rfl (by omega) (fun ρ h=>ZaQ Q hQ hN hk 1 0 xs.length 1 0 r ρ h) hE
    have hO:=fun τ=>Zc0 (j:=1) (w:=6) (xs:=xs.map ZY) (r:=.pan (Zy e')) (σ:=.var (Zi Q 10 1 0 xs.length++[.lst false (r.map Zc)])::.row 0 6 (xs.map ZY)::τ) rfl (by omega) rfl rfl (Zbx Q hQ hN hk 1 0 xs.length r) (fun ρ h=>ZaQ Q hQ hN hk 1 0 xs.length 1 0 r ρ h)
    refine ⟨xs,r,?_⟩
    unfold H1 tmS ZaY
    rw [Zad]
    clear hE ih
    generalize Zi Q 10 1 0 xs.length=R at *
    generalize xs.map ZY=ys at *
    generalize Zy e'=ce at *
    simp -implicitDefEqProofs only [EQA,Nat.reduceAdd,Nat.reduceSub,Nat.reduceLT,Nat.reduceEqDiff,Nat.reduceBEq,reduceCtorEq,decide_true,↓reduceIte,Zdr,ZcT,oI,b2,hC,z1]
    exact hO _
   | ok s =>
    obtain ⟨s,r⟩:=s
    have hr:=ZgZ ho
    have hE:=ZDp Q hQ hN xs (by omega) l (by omega) ho
    have hC:=ZrS (O:=E) (byref:=BY) (f:=122) (g2:=1) (by kernel_rfl) (Zbx Q hQ hN hk 1 0 xs.length l) (fun ρ h=>ZaQ Q hQ hN hk 1 0 xs.length 1 0 l ρ h) (q:=.tup []) rfl (by omega) (fun ρ h=>ZaQ Q hQ hN hk 1 1 (xs.length+1) 1 1 r ρ h) hE
    have hG:=Ztm (f:=1000122) (w:=6) (xs:=(xs++[s]).map ZY) (g:=1) (Zbx Q hQ hN hk 1 1 (xs.length+1) r) (by omega) (fun ρ h=>ZaQ Q hQ hN hk 1 1 (xs.length+1) 1 0 r ρ h)
    have step:ZaY 1 tmS (H1 Q xs.length l (xs.map ZY))=ZaY 1 tmS (H1 Q (xs++[s]).length r ((xs++[s]).map ZY)):=by
     rw [show (xs++[s]).length=xs.length+1 from by simp]
     unfold H1 tmS
     conv=>lhs;unfold ZaY
     conv=>rhs;unfold ZaY
     conv=>lhs;rw [Zad]
     clear hE ih
     generalize Zi Q 10 1 0 xs.length=R at *
     generalize Zi Q 10 1 1 (xs.length+1)=R2 at *
     generalize Zi Q 10 1 0 (xs.length+1)=R3 at *
     generalize xs.map ZY=ys at *
     generalize (xs++[s]).map ZY=zs at *
     simp -implicitDefEqProofs only [EQA,Zac,Nat.reduceAdd,Nat.reduceSub,Nat.reduceLT,Nat.reduceEqDiff,Nat.reduceBEq,reduceCtorEq,decide_true,↓reduceIte,Zdr,ZcT,oI,b2,hC,hG,z1]
    obtain ⟨i1,i2⟩:=ih r (xs++[s]) (by omega) (by simp;omega)
    refine ⟨fun ts h=>?_,fun e h=>?_⟩
    ·rw [step]
     simp only [ZaD,l0,ho,if_false] at h
     cases hl2:ZaD Zbn n r with
     | error e=>rw [hl2] at h;cases h
     | ok us =>
      rw [hl2] at h
      injection h with h;subst h
      have:=i1 us hl2
      rw [List.append_assoc,List.singleton_append] at this
      exact this
    ·rw [step]
     simp only [ZaD,l0,ho,if_false] at h
     cases hl2:ZaD Zbn n r with
     | error e2 =>
      rw [hl2] at h
      injection h with h;subst h
      exact i2 e2 hl2
     | ok us=>rw [hl2] at h;cases h
end
def Zbq {α:Type} (one:Zb→RK α) (k:Int) (l:Zb):Except Int (Int×List Zu×List α):=match ZcN k l with
 | .error e=>.error e
 | .ok (n,ps,r)=>match ZaD one r.length r with
  | .error e=>.error e
  | .ok ts=>.ok (n,ps,ts)
theorem Zi6 {k:Int} {l:Zb} {n:Int} {ps:List Zu} {r:Zb} (h:ZcN k l=.ok (n,ps,r)):r.length≤l.length∧r.length≠0:=by
 unfold ZcN at h
 split at h
 ·cases h
 rename_i n' r1 hi
 have l1:=Ze7 hi
 split at h
 ·cases h
 rename_i ps' r2 hp
 have l2:=ZgN hp
 split at h
 ·cases h
 rename_i hne
 injection h with h;injection h with e1 h;injection h with e2 e3;subst e1 e2 e3
 exact ⟨by omega,hne⟩
theorem ZlV {α:Type} {one:Zb→RK α} {n:Nat} {l:Zb} (h:l.length=n+1) {s:α} {r:Zb} (ho:one l=.ok (s,r)) (hlen:∀ {l s r},one l=.ok (s,r)→r.length < l.length):ZaD one l.length l=match ZaD one n r with
  | .error e=>.error e
  | .ok t=>.ok (s::t):=by
 rw [h]
 simp only [ZaD,h,Nat.add_eq_zero_iff,Nat.succ_ne_self,and_false,if_false,ho]
 all_goals rfl
section
variable {α:Type} {one:Zb→RK α} {g:α→AVal} {f kk:Nat} {k:Int} (hk:kk < 26) (hf:f < 1000000) (hby:BY f=false)
  (hlen:∀ {l s r},one l=.ok (s,r)→r.length < l.length)
  (hT0:∀ Q,QOk k Q→∀ (l:Zb) (s:α) (r:Zb),l.length≤1099511627776→one l=.ok (s,r)→E f [.ref 0 0,.ref 2 0] [.var [.ref 1 0],.var (Q++[.lst false (l.map Zc)]),.var [.ref 1 0]]=some (.tup [],[.var [.ref 1 0],.var (Zi Q kk 3 0 1++[.lst false (r.map Zc)]),.var [.ref 1 0],.row 0 1 [g s]]))
  (hF0:∀ Q,QOk k Q→∀ (l:Zb) (e:Int),l.length≤1099511627776→one l=.error e→∃ r:Zb,E f [.ref 0 0,.ref 2 0] [.var [.ref 1 0],.var (Q++[.lst false (l.map Zc)]),.var [.ref 1 0]]=some (.pan (Zy e),[.var [.ref 1 0],.var (Q++[.lst false (r.map Zc)]),.var [.ref 1 0]]))
  (hT1:∀ Q,QOk k Q→∀ (xs:List α) (l:Zb) (s:α) (r:Zb),l.length≤1099511627776→xs.length≤1099511627776→one l=.ok (s,r)→E f [.ref 0 0,.ref 3 0] [.var [.ref 1 0],.var (Zi Q kk 2 0 xs.length++[.lst false (l.map Zc)]),.row 0 1 (xs.map g),.var [.ref 1 0]]=some (.tup [],[.var [.ref 1 0],.var (Zi Q kk 2 1 (xs.length+1)++[.lst false (r.map Zc)]),.row 1 1 ((xs++[s]).map g),.var [.ref 1 0]]))
  (hF1:∀ Q,QOk k Q→∀ (xs:List α) (l:Zb) (e:Int),l.length≤1099511627776→one l=.error e→∃ r:Zb,E f [.ref 0 0,.ref 3 0] [.var [.ref 1 0],.var (Zi Q kk 2 0 xs.length++[.lst false (l.map Zc)]),.row 0 1 (xs.map g),.var [.ref 1 0]]=some (.pan (Zy e),[.var [.ref 1 0],.var (Zi Q kk 2 0 xs.length++[.lst false (r.map Zc)]),.row 0 1 (xs.map g),.var [.ref 1 0]]))
include hk hf hby hT0
theorem ZrY {Q:List AVal} (hQ:QOk k Q) {l r:Zb} {s:α} (hl:l.length≤1099511627776) (hl0:l.length≠0) (ho:one l=.ok (s,r)) :
  ZaY 3 [(1,.fn f [.ref 1 0,.ref 2 0]),(0,.ref 0 0)] [.var (Q++[.lst false (l.map Zc)]),.var [.ref 0 0],.var [.ref 0 0]]=ZaY 3 [(1,.fn f [.ref 1 0,.ref 2 0]),(0,.ref 0 0)] (H3 Q kk 1 r [g s]):=by
 have hE:=hT0 Q hQ l s r hl ho
 obtain ⟨hL,hN,-,-,-,-⟩:=hQ
 have z1:((l.length:Nat):Int) > 0:=by omega
 have z2:(0:Int) < ((l.length:Nat):Int):=by omega
 have b2:=Zao _ hL
 have hC:=ZDM (O:=E) (byref:=BY) (cs:=Q++[.lst false (l.map Zc)]) (cs3:=Zi Q kk 3 0 1++[.lst false (r.map Zc)]) hby (Zw Q hL hN false (l.map Zc)) (q:=.tup []) rfl (fun ρ h=>ZaQ Q hL hN hk 3 0 1 3 0 r ρ h) hE
 have hG:=Zuu (f:=f) (w:=1) (xs:=[g s]) (g:=0) (Zbx Q hL hN hk 3 0 1 r) (by omega) (fun ρ h=>ZaQ Q hL hN hk 3 0 1 3 0 r ρ h)
 unfold H3
 conv=>lhs;unfold ZaY
 conv=>rhs;unfold ZaY
 conv=>lhs;rw [Zad]
 clear hE hT0
 generalize Zi Q kk 3 0 1=Q2 at *
 simp -implicitDefEqProofs only [EQA,Zac,Nat.reduceAdd,Nat.reduceLT,Nat.reduceEqDiff,Nat.reduceBEq,reduceCtorEq,decide_true,↓reduceIte,Zdr,ZcT,oI,b2,hC,hG,hf,z1]
omit hT0
include hF0
theorem ZCH {Q:List AVal} (hQ:QOk k Q) {l:Zb} {e:Int} (hl:l.length≤1099511627776) (hl0:l.length≠0) (ho:one l=.error e) :
  ∃ r:Zb,ZaY 3 [(1,.fn f [.ref 1 0,.ref 2 0]),(0,.ref 0 0)] [.var (Q++[.lst false (l.map Zc)]),.var [.ref 0 0],.var [.ref 0 0]]=some (.pan (Zy e),[.var (Q++[.lst false (r.map Zc)]),.var [.ref 0 0],.var [.ref 0 0]]):=by
 obtain ⟨r,hE⟩:=hF0 Q hQ l e hl ho
 obtain ⟨hL,hN,-,-,-,-⟩:=hQ
 have z1:((l.length:Nat):Int) > 0:=by omega
 have z2:(0:Int) < ((l.length:Nat):Int):=by omega
 have b2:=Zao _ hL
 have hC:=ZI5 (O:=E) (byref:=BY) (cs:=Q++[.lst false (l.map Zc)]) (cs2:=Q++[.lst false (r.map Zc)]) hby (Zw Q hL hN false (l.map Zc)) (q:=.pan (Zy e)) rfl (Zw Q hL hN false (r.map Zc)) hE
 have hO:=fun τ=>Zjv (r:=.pan (Zy e)) rfl (Zw Q hL hN false (r.map Zc)) τ
 refine ⟨r,?_⟩
 unfold ZaY
 rw [Zad]
 clear hE hF0
 generalize Zy e=ce at *
 simp -implicitDefEqProofs only [EQA,Nat.reduceAdd,Nat.reduceLT,Nat.reduceEqDiff,Nat.reduceBEq,reduceCtorEq,decide_true,↓reduceIte,Zdr,ZcT,oI,b2,hC,hf,z1]
 exact hO _
include hT0 hT1 hF1 hlen
theorem ZmR {P:List AVal} (hP:QOk k P) {l:Zb} (hl:l.length≤1099511627775) {n:Int} {ps:List Zu} {ts:List α} (h:Zbq one k l=.ok (n,ps,ts)) :
  E 121 [.ref 0 0,.fn f [.ref 1 0,.ref 2 0]] [.var (P++[.lst false (l.map Zc)]),.var [.ref 0 0],.var [.ref 0 0]]=some (.tup [],H3 (Zb2 P n ps) kk ts.length [] (ts.map g)):=by
 unfold Zbq at h
 split at h
 ·cases h
 rename_i n' ps' r hm
 obtain ⟨l1,l2⟩:=Zi6 hm
 split at h
 ·cases h
 rename_i us hu
 injection h with h;injection h with e1 h;injection h with e2 e3;subst e1 e2 e3
 rw [ZtP k f P hP l (by omega) hm]
 have hQ:=Zdx hP n' ps'
 generalize Zb2 P n' ps'=Q at *
 obtain ⟨j,hj⟩:∃ j,r.length=j+1:=⟨r.length - 1,by omega⟩
 cases ho:one r with
 | error e =>
  rw [hj] at hu
  simp only [ZaD,hj,Nat.add_eq_zero_iff,Nat.succ_ne_self,and_false,if_false,ho] at hu
  cases hu
 | ok sr =>
  obtain ⟨s,r'⟩:=sr
  have hr:=hlen ho
  rw [ZlV hj ho hlen] at hu
  cases hl2:ZaD one j r' with
  | error e=>rw [hl2] at hu;cases hu
  | ok vs =>
   rw [hl2] at hu
   injection hu with hu;subst hu
   rw [ZrY hk hf hby hT0 hQ (by omega) l2 ho]
   exact (Zt9 (g:=g) Q hQ.len hQ.nor hk hf hby hlen (hT1 Q hQ) (hF1 Q hQ) j r' [s] (by omega) (by simp;omega)).1 vs hl2
theorem ZpQ {P:List AVal} (hP:QOk k P) {l:Zb} (hl:l.length≤1099511627775) {e:Int} (h:Zbq one k l=.error e) :
  (∃ cs,Zd cs=true∧E 121 [.ref 0 0,.fn f [.ref 1 0,.ref 2 0]] [.var (P++[.lst false (l.map Zc)]),.var [.ref 0 0],.var [.ref 0 0]]=some (.pan (Zy e),[.var cs,.var [.ref 0 0],.var [.ref 0 0]])) ∨
  (∃ (Q:List AVal) (xs:List α) (r:Zb),Q.length=26∧Zd Q=true∧E 121 [.ref 0 0,.fn f [.ref 1 0,.ref 2 0]] [.var (P++[.lst false (l.map Zc)]),.var [.ref 0 0],.var [.ref 0 0]]=some (.pan (Zy e),H3 Q kk xs.length r (xs.map g))):=by
 unfold Zbq at h
 split at h
 ·rename_i c hm
  injection h with h;subst h
  exact Or.inl (ZJi k f P hP l (by omega) hm)
 rename_i n' ps' r hm
 obtain ⟨l1,l2⟩:=Zi6 hm
 rw [ZtP k f P hP l (by omega) hm]
 have hQ:=Zdx hP n' ps'
 generalize Zb2 P n' ps'=Q at *
 obtain ⟨j,hj⟩:∃ j,r.length=j+1:=⟨r.length - 1,by omega⟩
 split at h
 case h_2=>cases h
 rename_i c hu
 injection h with h;subst h
 cases ho:one r with
 | error e =>
  have : e=c:=by
   rw [hj] at hu
   simp only [ZaD,hj,Nat.add_eq_zero_iff,Nat.succ_ne_self,and_false,if_false,ho] at hu
   injection hu
  subst this
  obtain ⟨r',hr'⟩:=ZCH hk hf hby hF0 hQ (by omega) l2 ho
  exact Or.inl ⟨_,Zw Q hQ.len hQ.nor false (r'.map Zc),hr'⟩
 | ok sr =>
  obtain ⟨s,r'⟩:=sr
  have hr:=hlen ho
  rw [ZlV hj ho hlen] at hu
  cases hl2:ZaD one j r' with
  | ok vs=>rw [hl2] at hu;cases hu
  | error e2 =>
   rw [hl2] at hu
   injection hu with hu;subst hu
   rw [ZrY hk hf hby hT0 hQ (by omega) l2 ho]
   obtain ⟨xs',r2,hx⟩:=(Zt9 (g:=g) Q hQ.len hQ.nor hk hf hby hlen (hT1 Q hQ) (hF1 Q hQ) j r' [s] (by omega) (by simp;omega)).2 e2 hl2
   exact Or.inr ⟨Q,xs',r2,hQ.len,hQ.nor,hx⟩
end
section
theorem Zql {Q:List AVal} (hQ:QOk 8 Q) {l r:Zb} {s:Zbv} (hl:l.length≤1099511627776) (hl0:l.length≠0) (ho:Zbn l=.ok (s,r)) :
  ZaY 1 tmS [.var (Q++[.lst false (l.map Zc)])]=ZaY 1 tmS (H1 Q 1 r [ZY s]):=by
 obtain ⟨hL,hN,-,-,h10,-⟩:=hQ
 have hk:(10:Nat) < 26:=by omega
 have hE:=ZGD Q hL hN h10 l (by omega) ho
 unfold Zg at hE
 have z1:((l.length:Nat):Int) > 0:=by omega
 have z2:(0:Int) < ((l.length:Nat):Int):=by omega
 have b2:=Zao _ hL
 have hC:=Zxm (O:=E) (byref:=BY) (f:=122) (cs:=Q++[.lst false (l.map Zc)]) (by kernel_rfl) (Zw Q hL hN false (l.map Zc)) (q:=.tup []) rfl (fun ρ h=>ZaQ Q hL hN hk 1 0 1 1 0 r ρ h) hE
 have hG:=Ztm (f:=1000122) (w:=6) (xs:=[ZY s]) (g:=0) (Zbx Q hL hN hk 1 0 1 r) (by omega) (fun ρ h=>ZaQ Q hL hN hk 1 0 1 1 0 r ρ h)
 unfold H1 tmS
 conv=>lhs;unfold ZaY
 conv=>rhs;unfold ZaY
 conv=>lhs;rw [Zad]
 clear hE
 generalize Zi Q 10 1 0 1=Q2 at *
 generalize ZY s=sv at *
 simp -implicitDefEqProofs only [EQA,Zac,Nat.reduceAdd,Nat.reduceSub,Nat.reduceLT,Nat.reduceEqDiff,Nat.reduceBEq,reduceCtorEq,decide_true,↓reduceIte,Zdr,ZcT,oI,b2,hC,hG,z1]
theorem ZBV {Q:List AVal} (hQ:QOk 8 Q) {l:Zb} {e:Int} (hl:l.length≤1099511627776) (hl0:l.length≠0) (ho:Zbn l=.error e) :
  ∃ cs,Zd cs=true∧ZaY 1 tmS [.var (Q++[.lst false (l.map Zc)])]=some (.pan (Zy e),[.var cs]):=by
 obtain ⟨hL,hN,-,-,h10,-⟩:=hQ
 obtain ⟨cs,hc,hE⟩:=ZEE Q hL hN l (by omega) ho
 unfold Zg at hE
 have z1:((l.length:Nat):Int) > 0:=by omega
 have z2:(0:Int) < ((l.length:Nat):Int):=by omega
 have b2:=Zao _ hL
 have hC:=ZJH (O:=E) (byref:=BY) (f:=122) (cs:=Q++[.lst false (l.map Zc)]) (by kernel_rfl) (Zw Q hL hN false (l.map Zc)) (q:=.pan (Zy e)) rfl hc hE
 have hO:=fun τ=>ZX (r:=.pan (Zy e)) (σ:=τ) rfl hc
 refine ⟨cs,hc,?_⟩
 unfold ZaY tmS
 rw [Zad]
 clear hE
 generalize Zy e=ce at *
 simp -implicitDefEqProofs only [EQA,Nat.reduceAdd,Nat.reduceSub,Nat.reduceLT,Nat.reduceEqDiff,Nat.reduceBEq,reduceCtorEq,decide_true,↓reduceIte,Zdr,ZcT,oI,b2,hC,z1]
 exact hO _
theorem ZzC {P:List AVal} (hP:QOk 8 P) {l:Zb} (hl:l.length≤1099511627775) {n:Int} {ps:List Zu} {ts:List Zbv} (h:Zbq Zbn 8 l=.ok (n,ps,ts)) :
  E 121 [.ref 0 0,.fn 1000122 [.ref 0 0]] [.var (P++[.lst false (l.map Zc)])]=some (.tup [],H1 (Zb2 P n ps) ts.length [] (ts.map ZY)):=by
 unfold Zbq at h
 split at h
 ·cases h
 rename_i n' ps' r hm
 obtain ⟨l1,l2⟩:=Zi6 hm
 split at h
 ·cases h
 rename_i us hu
 injection h with h;injection h with e1 h;injection h with e2 e3;subst e1 e2 e3
 rw [Zta 8 1000122 P hP l (by omega) hm]
 have hQ:=Zdx hP n' ps'
 generalize Zb2 P n' ps'=Q at *
 obtain ⟨j,hj⟩:∃ j,r.length=j+1:=⟨r.length - 1,by omega⟩
 cases ho:Zbn r with
 | error e =>
  rw [hj] at hu
  simp only [ZaD,hj,Nat.add_eq_zero_iff,Nat.succ_ne_self,and_false,if_false,ho] at hu
  cases hu
 | ok sr =>
  obtain ⟨s,r'⟩:=sr
  have hr:=ZgZ ho
  rw [ZlV hj ho ZgZ] at hu
  cases hl2:ZaD Zbn j r' with
  | error e=>rw [hl2] at hu;cases hu
  | ok vs =>
   rw [hl2] at hu
   injection hu with hu;subst hu
   show ZaY 1 tmS _=_
   rw [Zql hQ (by omega) l2 ho]
   exact (Zqw Q hQ.len hQ.nor j r' [s] (by omega) (by simp;omega)).1 vs hl2
theorem Zv1 {P:List AVal} (hP:QOk 8 P) {l:Zb} (hl:l.length≤1099511627775) {e:Int} (h:Zbq Zbn 8 l=.error e) :
  (∃ cs,Zd cs=true∧E 121 [.ref 0 0,.fn 1000122 [.ref 0 0]] [.var (P++[.lst false (l.map Zc)])]=some (.pan (Zy e),[.var cs])) ∨
  (∃ (Q:List AVal) (xs:List Zbv) (r:Zb),Q.length=26∧Zd Q=true∧E 121 [.ref 0 0,.fn 1000122 [.ref 0 0]] [.var (P++[.lst false (l.map Zc)])]=some (.pan (Zy e),H1 Q xs.length r (xs.map ZY))):=by
 unfold Zbq at h
 split at h
 ·rename_i c hm
  injection h with h;subst h
  exact Or.inl (ZKG 8 1000122 P hP l (by omega) hm)
 rename_i n' ps' r hm
 obtain ⟨l1,l2⟩:=Zi6 hm
 rw [Zta 8 1000122 P hP l (by omega) hm]
 have hQ:=Zdx hP n' ps'
 generalize Zb2 P n' ps'=Q at *
 obtain ⟨j,hj⟩:∃ j,r.length=j+1:=⟨r.length - 1,by omega⟩
 split at h
 case h_2=>cases h
 rename_i c hu
 injection h with h;subst h
 show (∃ cs,Zd cs=true∧ZaY 1 tmS _=_)∨(∃ (Q:List AVal) (xs:List Zbv) (r:Zb),Q.length=26∧Zd Q=true∧ZaY 1 tmS _=_)
 cases ho:Zbn r with
 | error e =>
  have : e=c:=by
   rw [hj] at hu
   simp only [ZaD,hj,Nat.add_eq_zero_iff,Nat.succ_ne_self,and_false,if_false,ho] at hu
   injection hu
  subst this
  exact Or.inl (ZBV hQ (by omega) l2 ho)
 | ok sr =>
  obtain ⟨s,r'⟩:=sr
  have hr:=ZgZ ho
  rw [ZlV hj ho ZgZ] at hu
  cases hl2:ZaD Zbn j r' with
  | ok vs=>rw [hl2] at hu;cases hu
  | error e2 =>
   rw [hl2] at hu
   injection hu with hu;subst hu
   rw [Zql hQ (by omega) l2 ho]
   obtain ⟨xs',r2,hx⟩:=(Zqw Q hQ.len hQ.nor j r' [s] (by omega) (by simp;omega)).2 e2 hl2
   exact Or.inr ⟨Q,xs',r2,hQ.len,hQ.nor,hx⟩
end
end Go.Proofs.YtmlkhhidifjjfaaDoor
namespace Go.Proofs.YtmlkhhidifjjfaaDoor
set_option maxHeartbeats 8000000
set_option maxRecDepth 10000
section
variable {O:ZR} {byref:Nat→Bool} {fm f w:Nat} {cs cs2 cs3 ys:List AVal} {x:AVal} {σ:Za}
theorem Zl7 (h0:σ[0]?=some (.var cs)) (h1:σ[1]?=some (.var [.ref 0 0])) (h2:σ[2]?=some (.var [.ref 0 0])) (hc:Zr cs=[]):ZA σ 1000 [0,2,1] []=[0,2,1]:=by
 have d0:σ.getD 0 .free=.var cs:=by simp [List.getD_eq_getElem?_getD,h0]
 have d1:σ.getD 1 .free=.var [.ref 0 0]:=by simp [List.getD_eq_getElem?_getD,h1]
 have d2:σ.getD 2 .free=.var [.ref 0 0]:=by simp [List.getD_eq_getElem?_getD,h2]
 rw [show (1000:Nat)=994+1+1+1+1+1+1 from rfl]
 simp only [ZA,d0,d1,d2,ZQ,Zr,ZZ,hc,List.contains_cons,List.contains_nil,List.append_nil,List.nil_append,List.cons_append,Bool.or_false,Bool.false_eq_true,if_false]
 simp
theorem ZnF (h0:σ[0]?=some (.var cs)) (hc:Zr cs=[]):ZA σ 1000 [0,0] []=[0]:=by
 have d0:σ.getD 0 .free=.var cs:=by simp [List.getD_eq_getElem?_getD,h0]
 rw [show (1000:Nat)=996+1+1+1+1 from rfl]
 simp only [ZA,d0,ZQ,hc,List.contains_cons,List.contains_nil,List.append_nil,List.nil_append,List.cons_append,Bool.or_false,Bool.false_eq_true,if_false]
 simp
def hB (cs:List AVal) (b:ZM):Za:=[.var cs,.var [.ref 0 0],.var [.ref 0 0],b]
theorem Zos (hb:byref fm=false) (hc:Zd cs=true) (hrf:Zr cs2=[3]) (hren:∀ ρ:Rho,ρ 3 0=some (3,0)→Ze ρ cs2=cs2)
  (hO:O fm [.ref 0 0,.fn f [.ref 1 0,.ref 2 0]] [.var cs,.var [.ref 0 0],.var [.ref 0 0]]=some (.tup [],[.var cs2,.var [.ref 0 0],.var [.ref 0 0],.row 0 w ys])) :
  Zj O byref (hB cs .free) 3 fm 1 true [.ref 0 0,.fn f [.ref 2 0,.ref 1 0]]=some (.tup [],hB cs2 (.row 0 w ys),{ any:=true,upd:=[(0,cs2),(2,[.ref 0 0]),(1,[.ref 0 0])] }):=by
 have hv:Zae true 3 (some (.tup [],[.var cs2,.var [.ref 0 0],.var [.ref 0 0],.row 0 w ys]))=some (.tup [],[.var cs2,.var [.ref 0 0],.var [.ref 0 0],.row 0 w ys]):=ZkJ (r:=.tup []) rfl hrf hren []
 have ec:=fun ρ=>ZaT ρ cs hc
 unfold hB
 refine ZcS (ids:=[0,2,1]) (vs:=[.ref 0 0,.fn f [.ref 2 0,.ref 1 0]]) hb rfl (Zl7 rfl rfl rfl (ec (fun _ _=>none)).2) rfl rfl rfl ?_ hO hv (by simp) (by simp) rfl rfl rfl ?_ rfl
 ·show [ZM.var (Ze _ cs),.var (Ze _ [.ref 0 0]),.var (Ze _ [.ref 0 0])]=_
  rw [(ec _).1];rfl
 ·have hb3:=hren (ZaB [.var cs,.var [.ref 0 0],.var [.ref 0 0],.free] [0,2,1] 3) rfl
  show [ZM.var (Ze _ cs2),.var (Ze _ [.ref 0 0]),.var (Ze _ [.ref 0 0]),.row 0 w ys]=_
  rw [hb3];rfl
theorem ZmW (hb:byref fm=false) (hc:Zd cs=true) (hc2:Zd cs2=true) (hx:ZK x=true)
  (hO:O fm [.ref 0 0,.fn f [.ref 1 0,.ref 2 0]] [.var cs,.var [.ref 0 0],.var [.ref 0 0]]=some (.pan x,[.var cs2,.var [.ref 0 0],.var [.ref 0 0]])) :
  Zj O byref (hB cs .free) 3 fm 1 true [.ref 0 0,.fn f [.ref 2 0,.ref 1 0]]=some (.pan x,hB cs2 .free,{ any:=true,upd:=[(0,cs2),(2,[.ref 0 0]),(1,[.ref 0 0])] }):=by
 have ec:=fun ρ=>ZaT ρ cs hc
 have hnp:ZK (.pan x)=true:=by simpa only [ZK] using hx
 unfold hB
 refine ZcS (ids:=[0,2,1]) (vs:=[.ref 0 0,.fn f [.ref 2 0,.ref 1 0]]) hb rfl (Zl7 rfl rfl rfl (ec (fun _ _=>none)).2) rfl rfl rfl ?_ hO rfl (by simp) (by simp) rfl rfl (Za4 _ _ hnp).1 ?_ rfl
 ·show [ZM.var (Ze _ cs),.var (Ze _ [.ref 0 0]),.var (Ze _ [.ref 0 0])]=_
  rw [(ec _).1];rfl
 ·show [ZM.var (Ze _ cs2),.var (Ze _ [.ref 0 0]),.var (Ze _ [.ref 0 0]),.free]=_
  rw [(ZaT _ cs2 hc2).1];rfl
theorem ZpF (hb:byref fm=false) (hc:Zd cs=true) (hren:∀ ρ:Rho,ρ 3 0=some (3,0)→Ze ρ cs2=cs2) (hx:ZK x=true)
  (hO:O fm [.ref 0 0,.fn f [.ref 1 0,.ref 2 0]] [.var cs,.var [.ref 0 0],.var [.ref 0 0]]=some (.pan x,[.var cs2,.var [.ref 0 0],.var [.ref 0 0],.row 0 w ys])) :
  Zj O byref (hB cs .free) 3 fm 1 true [.ref 0 0,.fn f [.ref 2 0,.ref 1 0]]=some (.pan x,hB cs2 (.row 0 w ys),{ any:=true,upd:=[(0,cs2),(2,[.ref 0 0]),(1,[.ref 0 0])] }):=by
 have ec:=fun ρ=>ZaT ρ cs hc
 have hnp:ZK (.pan x)=true:=by simpa only [ZK] using hx
 unfold hB
 refine ZcS (ids:=[0,2,1]) (vs:=[.ref 0 0,.fn f [.ref 2 0,.ref 1 0]]) hb rfl (Zl7 rfl rfl rfl (ec (fun _ _=>none)).2) rfl rfl rfl ?_ hO rfl (by simp) (by simp) rfl rfl (Za4 _ _ hnp).1 ?_ rfl
 ·show [ZM.var (Ze _ cs),.var (Ze _ [.ref 0 0]),.var (Ze _ [.ref 0 0])]=_
  rw [(ec _).1];rfl
 ·have hb3:=hren (ZaB [.var cs,.var [.ref 0 0],.var [.ref 0 0],.free] [0,2,1] 3) rfl
  show [ZM.var (Ze _ cs2),.var (Ze _ [.ref 0 0]),.var (Ze _ [.ref 0 0]),.row 0 w ys]=_
  rw [hb3];rfl
theorem ZCT (hb:byref fm=false) (hc:Zd cs=true) (hrf:Zr cs2=[1]) (hren:∀ ρ:Rho,ρ 1 0=some (1,0)→Ze ρ cs2=cs2) (hback:∀ ρ:Rho,ρ 1 0=some (3,0)→Ze ρ cs2=cs3)
  (hO:O fm [.ref 0 0,.fn f [.ref 0 0]] [.var cs]=some (.tup [],[.var cs2,.row 0 w ys])) :
  Zj O byref (hB cs .free) 3 fm 1 true [.ref 0 0,.fn f [.ref 0 0]]=some (.tup [],hB cs3 (.row 0 w ys),{ any:=true,upd:=[(0,cs3)] }):=by
 have hv:Zae true 1 (some (.tup [],[.var cs2,.row 0 w ys]))=some (.tup [],[.var cs2,.row 0 w ys]):=Zc0 (j:=1) (σ:=[.var cs2,.row 0 w ys]) (r:=.tup []) rfl (by omega) rfl rfl hrf hren
 have ec:=fun ρ=>ZaT ρ cs hc
 unfold hB
 refine ZcS (ids:=[0]) (vs:=[.ref 0 0,.fn f [.ref 0 0]]) hb rfl (ZnF rfl (ec (fun _ _=>none)).2) rfl rfl rfl ?_ hO hv (by simp) (by simp) rfl rfl rfl ?_ rfl
 ·show [ZM.var (Ze _ cs)]=_
  rw [(ec _).1]
 ·have hb3:=hback (ZaB [.var cs,.var [.ref 0 0],.var [.ref 0 0],.free] [0] 3) rfl
  show [ZM.var (Ze _ cs2),.var [.ref 0 0],.var [.ref 0 0],.row 0 w ys]=_
  rw [hb3]
theorem Zwq (hb:byref fm=false) (hc:Zd cs=true) (hc2:Zd cs2=true) (hx:ZK x=true)
  (hO:O fm [.ref 0 0,.fn f [.ref 0 0]] [.var cs]=some (.pan x,[.var cs2])) :
  Zj O byref (hB cs .free) 3 fm 1 true [.ref 0 0,.fn f [.ref 0 0]]=some (.pan x,hB cs2 .free,{ any:=true,upd:=[(0,cs2)] }):=by
 have ec:=fun ρ=>ZaT ρ cs hc
 have hnp:ZK (.pan x)=true:=by simpa only [ZK] using hx
 unfold hB
 refine ZcS (ids:=[0]) (vs:=[.ref 0 0,.fn f [.ref 0 0]]) hb rfl (ZnF rfl (ec (fun _ _=>none)).2) rfl rfl rfl ?_ hO rfl (by simp) (by simp) rfl rfl (Za4 _ _ hnp).1 ?_ rfl
 ·show [ZM.var (Ze _ cs)]=_
  rw [(ec _).1]
 ·show [ZM.var (Ze _ cs2),.var [.ref 0 0],.var [.ref 0 0],.free]=_
  rw [(ZaT _ cs2 hc2).1]
theorem ZLj (hb:byref fm=false) (hc:Zd cs=true) (hback:∀ ρ:Rho,ρ 1 0=some (3,0)→Ze ρ cs2=cs3) (hx:ZK x=true)
  (hO:O fm [.ref 0 0,.fn f [.ref 0 0]] [.var cs]=some (.pan x,[.var cs2,.row 0 w ys])) :
  Zj O byref (hB cs .free) 3 fm 1 true [.ref 0 0,.fn f [.ref 0 0]]=some (.pan x,hB cs3 (.row 0 w ys),{ any:=true,upd:=[(0,cs3)] }):=by
 have ec:=fun ρ=>ZaT ρ cs hc
 have hnp:ZK (.pan x)=true:=by simpa only [ZK] using hx
 unfold hB
 refine ZcS (ids:=[0]) (vs:=[.ref 0 0,.fn f [.ref 0 0]]) hb rfl (ZnF rfl (ec (fun _ _=>none)).2) rfl rfl rfl ?_ hO rfl (by simp) (by simp) rfl rfl (Za4 _ _ hnp).1 ?_ rfl
 ·show [ZM.var (Ze _ cs)]=_
  rw [(ec _).1]
 ·have hb3:=hback (ZaB [.var cs,.var [.ref 0 0],.var [.ref 0 0],.free] [0] 3) rfl
  show [ZM.var (Ze _ cs2),.var [.ref 0 0],.var [.ref 0 0],.row 0 w ys]=_
  rw [hb3]
end
def Zch (Q:List AVal) (kk n:Nat) (l:Zb) (w:Nat) (ys:List AVal):Za:=[.var (Zi Q kk 1 0 n++[.lst false (l.map Zc)]),.row 0 w ys]
def Zh3 (kk w:Nat) (l:Zb) (P:List AVal) (e:Int):Prop :=
 (∃ cs,Zd cs=true∧E 77 [.ref 0 0] (Zg P l)=some (.pan (Zy e),[.var cs])) ∨
 (∃ (Q:List AVal) (n:Nat) (r:Zb) (ys:List AVal),Q.length=26∧Zd Q=true∧E 77 [.ref 0 0] (Zg P l)=some (.pan (Zy e),Zch Q kk n r w ys))
theorem ZMG (xs:List Zb):kOk 1 (xs.map AVal.str)=true:=by cases xs <;> rfl
theorem ZH5 (xs:List Int):kOk 1 (xs.map (AVal.int .i64))=true:=by cases xs <;> rfl
theorem fT0 {k:Int} (Q:List AVal) (h:QOk k Q) (l s r:Zb) (hl:l.length≤1099511627776) (ho:Zan l=.ok (s,r)):E 123 [.ref 0 0,.ref 2 0] [.var [.ref 1 0],.var (Q++[.lst false (l.map Zc)]),.var [.ref 1 0]]=some (.tup [],[.var [.ref 1 0],.var (Zi Q 11 3 0 1++[.lst false (r.map Zc)]),.var [.ref 1 0],.row 0 1 [AVal.str s]]) :=
 ZyU Q h.len h.nor l (by omega) h.c11 ho
theorem fF0 {k:Int} (Q:List AVal) (h:QOk k Q) (l:Zb) (e:Int) (hl:l.length≤1099511627776) (ho:Zan l=.error e):∃ r:Zb,E 123 [.ref 0 0,.ref 2 0] [.var [.ref 1 0],.var (Q++[.lst false (l.map Zc)]),.var [.ref 1 0]]=some (.pan (Zy e),[.var [.ref 1 0],.var (Q++[.lst false (r.map Zc)]),.var [.ref 1 0]]) :=
 ⟨l,Zwo Q h.len h.nor l (by omega) ho h.c11⟩
theorem fT1 {k:Int} (Q:List AVal) (h:QOk k Q) (xs:List Zb) (l s r:Zb) (hl:l.length≤1099511627776) (hx:xs.length≤1099511627776) (ho:Zan l=.ok (s,r)):E 123 [.ref 0 0,.ref 3 0] [.var [.ref 1 0],.var (Zi Q 11 2 0 xs.length++[.lst false (l.map Zc)]),.row 0 1 (xs.map AVal.str),.var [.ref 1 0]]=some (.tup [],[.var [.ref 1 0],.var (Zi Q 11 2 1 (xs.length+1)++[.lst false (r.map Zc)]),.row 1 1 ((xs++[s]).map AVal.str),.var [.ref 1 0]]):=by
 have:=ZGk Q h.len h.nor l (by omega) (xs.map AVal.str) (by simp;omega) (ZMG xs) ho
 rw [List.length_map] at this
 rw [List.map_append]
 exact this
theorem fF1 {k:Int} (Q:List AVal) (h:QOk k Q) (xs:List Zb) (l:Zb) (e:Int) (hl:l.length≤1099511627776) (ho:Zan l=.error e):∃ r:Zb,E 123 [.ref 0 0,.ref 3 0] [.var [.ref 1 0],.var (Zi Q 11 2 0 xs.length++[.lst false (l.map Zc)]),.row 0 1 (xs.map AVal.str),.var [.ref 1 0]]=some (.pan (Zy e),[.var [.ref 1 0],.var (Zi Q 11 2 0 xs.length++[.lst false (r.map Zc)]),.row 0 1 (xs.map AVal.str),.var [.ref 1 0]]):=by
 have:=ZFi Q h.len h.nor l (by omega) (xs.map AVal.str) ho
 rw [List.length_map] at this
 exact ⟨l,this⟩
theorem cT0 {k:Int} (Q:List AVal) (h:QOk k Q) (l:Zb) (s:Int) (r:Zb) (hl:l.length≤1099511627776) (ho:Zas k l=.ok (s,r)):E 125 [.ref 0 0,.ref 2 0] [.var [.ref 1 0],.var (Q++[.lst false (l.map Zc)]),.var [.ref 1 0]]=some (.tup [],[.var [.ref 1 0],.var (Zi Q 8 3 0 1++[.lst false (r.map Zc)]),.var [.ref 1 0],.row 0 1 [AVal.int .i64 s]]) :=
 ZM5 Q h.len h.nor l (by omega) h.c8 k h.ty ho
theorem cF0 {k:Int} (Q:List AVal) (h:QOk k Q) (l:Zb) (e:Int) (hl:l.length≤1099511627776) (ho:Zas k l=.error e):∃ r:Zb,E 125 [.ref 0 0,.ref 2 0] [.var [.ref 1 0],.var (Q++[.lst false (l.map Zc)]),.var [.ref 1 0]]=some (.pan (Zy e),[.var [.ref 1 0],.var (Q++[.lst false (r.map Zc)]),.var [.ref 1 0]]) :=
 Zzv Q h.len h.nor l (by omega) h.c8 k h.ty ho
theorem cT1 {k:Int} (Q:List AVal) (h:QOk k Q) (xs:List Int) (l:Zb) (s:Int) (r:Zb) (hl:l.length≤1099511627776) (hx:xs.length≤1099511627776) (ho:Zas k l=.ok (s,r)):E 125 [.ref 0 0,.ref 3 0] [.var [.ref 1 0],.var (Zi Q 8 2 0 xs.length++[.lst false (l.map Zc)]),.row 0 1 (xs.map (AVal.int .i64)),.var [.ref 1 0]]=some (.tup [],[.var [.ref 1 0],.var (Zi Q 8 2 1 (xs.length+1)++[.lst false (r.map Zc)]),.row 1 1 ((xs++[s]).map (AVal.int .i64)),.var [.ref 1 0]]):=by
 have:=ZEp Q h.len h.nor l (by omega) (xs.map (AVal.int .i64)) (by simp;omega) (ZH5 xs) k h.ty ho
 rw [List.length_map] at this
 rw [List.map_append]
 exact this
theorem cF1 {k:Int} (Q:List AVal) (h:QOk k Q) (xs:List Int) (l:Zb) (e:Int) (hl:l.length≤1099511627776) (ho:Zas k l=.error e):∃ r:Zb,E 125 [.ref 0 0,.ref 3 0] [.var [.ref 1 0],.var (Zi Q 8 2 0 xs.length++[.lst false (l.map Zc)]),.row 0 1 (xs.map (AVal.int .i64)),.var [.ref 1 0]]=some (.pan (Zy e),[.var [.ref 1 0],.var (Zi Q 8 2 0 xs.length++[.lst false (r.map Zc)]),.row 0 1 (xs.map (AVal.int .i64)),.var [.ref 1 0]]):=by
 have:=ZC0 Q h.len h.nor l (by omega) (xs.map (AVal.int .i64)) k h.ty ho
 rw [List.length_map] at this
 exact this
section
variable (P:List AVal) (l:Zb) (hl:l.length≤1099511627775)
include hl
theorem ZMC (hP:QOk 10 P) {n:Int} {ps:List Zu} {ts:List Zb} (h:Zbq Zan 10 l=.ok (n,ps,ts)) :
  E 77 [.ref 0 0] (Zg P l)=some (.tup [],Zch (Zb2 P n ps) 11 ts.length [] 1 (ts.map AVal.str)):=by
 have hk:(11:Nat) < 26:=by omega
 have hE:=ZmR (g:=AVal.str) (kk:=11) (f:=123) (by omega) (by decide) (by kernel_rfl) Zkr fT0 fF0 fT1 fF1 hP hl h
 have hQ:=Zdx hP n ps
 obtain ⟨hL,hN,h0,-,-,-⟩:=hP
 unfold H3 at hE
 generalize Zb2 P n ps=Q at *
 have hC:=Zos (O:=E) (byref:=BY) (fm:=121) (by kernel_rfl) (Zw P hL hN false (l.map Zc)) (Zbx Q hQ.len hQ.nor hk 3 0 ts.length []) (fun ρ h=>ZaQ Q hQ.len hQ.nor hk 3 0 ts.length 3 0 [] ρ h) hE
 have a4:=fun L=>(Z5 P hL 0 (by omega) L).trans h0
 have hR:=Zb6 Q hQ.len hQ.nor 11 hk ts.length 3 0
 have b2:=Zao _ hR
 have m1:=Za9
 have z:=z0b
 have hO:=fun τ=>Zc0 (j:=3) (w:=1) (xs:=ts.map AVal.str) (r:=.tup []) (σ:=.var (Zi Q 11 3 0 ts.length++[.lst false []])::.var [.ref 0 0]::.var [.ref 0 0]::.row 0 1 (ts.map AVal.str)::τ) rfl (by omega) rfl rfl (Zbx Q hQ.len hQ.nor hk 3 0 ts.length []) (fun ρ h=>ZaQ Q hQ.len hQ.nor hk 3 0 ts.length 1 0 [] ρ h)
 unfold hB at hC
 simp only [List.map_nil] at hC
 unfold Zg Zch
 clear hE h
 generalize Zi Q 11 3 0 ts.length=R at *
 generalize Zi Q 11 1 0 ts.length=R1 at *
 generalize ts.map AVal.str=ys at *
 rw [Zh (by rfl) Zbb]
 simp -implicitDefEqProofs only [EQA,ZG,Zs,Nat.reduceAdd,Nat.reduceLT,Nat.reduceLeDiff,Nat.reduceEqDiff,Nat.reduceBEq,↓reduceIte,Zd,Zbe,Za8,Zek,oI,oN,a4,b2,hC,m1,Int.reduceBEq,z]
 exact hO _
theorem ZGj (hP:QOk 10 P) {e:Int} (h:Zbq Zan 10 l=.error e):Zh3 11 1 l P e:=by
 have hk:(11:Nat) < 26:=by omega
 have hF:=ZpQ (g:=AVal.str) (kk:=11) (f:=123) (by omega) (by decide) (by kernel_rfl) Zkr fT0 fF0 fT1 fF1 hP hl h
 obtain ⟨hL,hN,h0,-,-,-⟩:=hP
 have a4:=fun L=>(Z5 P hL 0 (by omega) L).trans h0
 rcases hF with ⟨cs,hc,hE⟩ | ⟨Q,xs,r,hQ,hQN,hE⟩
 ·have hC:=ZmW (O:=E) (byref:=BY) (fm:=121) (by kernel_rfl) (Zw P hL hN false (l.map Zc)) hc rfl hE
  refine Or.inl ⟨cs,hc,?_⟩
  unfold hB at hC
  unfold Zg
  clear hE h
  rw [Zh (by rfl) Zbb]
  simp -implicitDefEqProofs only [EQA,ZG,Nat.reduceAdd,Nat.reduceLT,Nat.reduceLeDiff,Nat.reduceEqDiff,Nat.reduceBEq,↓reduceIte,Zbe,Za8,oI,oN,a4,hC,Int.reduceBEq]
  exact ZX rfl hc
 ·unfold H3 at hE
  have hC:=ZpF (O:=E) (byref:=BY) (fm:=121) (by kernel_rfl) (Zw P hL hN false (l.map Zc)) (fun ρ h=>ZaQ Q hQ hQN hk 3 0 xs.length 3 0 r ρ h) rfl hE
  have hO:=fun τ=>Zc0 (j:=3) (w:=1) (xs:=xs.map AVal.str) (r:=.pan (Zy e)) (σ:=.var (Zi Q 11 3 0 xs.length++[.lst false (r.map Zc)])::.var [.ref 0 0]::.var [.ref 0 0]::.row 0 1 (xs.map AVal.str)::τ) rfl (by omega) rfl rfl (Zbx Q hQ hQN hk 3 0 xs.length r) (fun ρ h=>ZaQ Q hQ hQN hk 3 0 xs.length 1 0 r ρ h)
  refine Or.inr ⟨Q,xs.length,r,xs.map AVal.str,hQ,hQN,?_⟩
  unfold hB at hC
  unfold Zg Zch
  clear hE h
  generalize Zi Q 11 3 0 xs.length=R at *
  generalize Zi Q 11 1 0 xs.length=R1 at *
  generalize xs.map AVal.str=ys at *
  generalize Zy e=ce at *
  rw [Zh (by rfl) Zbb]
  simp -implicitDefEqProofs only [EQA,ZG,Nat.reduceAdd,Nat.reduceLT,Nat.reduceLeDiff,Nat.reduceEqDiff,Nat.reduceBEq,↓reduceIte,Zbe,Za8,oI,oN,a4,hC,Int.reduceBEq]
  exact hO _
theorem ZKk (hP:QOk 9 P) {n:Int} {ps:List Zu} {ts:List Int} (h:Zbq (Zas 9) 9 l=.ok (n,ps,ts)) :
  E 77 [.ref 0 0] (Zg P l)=some (.tup [],Zch (Zb2 P n ps) 8 ts.length [] 1 (ts.map (AVal.int .i64))):=by
 have hk:(8:Nat) < 26:=by omega
 have hE:=ZmR (g:=(AVal.int .i64)) (kk:=8) (f:=125) (by omega) (by decide) (by kernel_rfl) ZiD cT0 cF0 cT1 cF1 hP hl h
 have hQ:=Zdx hP n ps
 obtain ⟨hL,hN,h0,-,-,-⟩:=hP
 unfold H3 at hE
 generalize Zb2 P n ps=Q at *
 have hC:=Zos (O:=E) (byref:=BY) (fm:=121) (by kernel_rfl) (Zw P hL hN false (l.map Zc)) (Zbx Q hQ.len hQ.nor hk 3 0 ts.length []) (fun ρ h=>ZaQ Q hQ.len hQ.nor hk 3 0 ts.length 3 0 [] ρ h) hE
 have a4:=fun L=>(Z5 P hL 0 (by omega) L).trans h0
 have hR:=Zb6 Q hQ.len hQ.nor 8 hk ts.length 3 0
 have b2:=Zao _ hR
 have m1:=Za9
 have z:=z0b
 have hO:=fun τ=>Zc0 (j:=3) (w:=1) (xs:=ts.map (AVal.int .i64)) (r:=.tup []) (σ:=.var (Zi Q 8 3 0 ts.length++[.lst false []])::.var [.ref 0 0]::.var [.ref 0 0]::.row 0 1 (ts.map (AVal.int .i64))::τ) rfl (by omega) rfl rfl (Zbx Q hQ.len hQ.nor hk 3 0 ts.length []) (fun ρ h=>ZaQ Q hQ.len hQ.nor hk 3 0 ts.length 1 0 [] ρ h)
 unfold hB at hC
 simp only [List.map_nil] at hC
 unfold Zg Zch
 clear hE h
 generalize Zi Q 8 3 0 ts.length=R at *
 generalize Zi Q 8 1 0 ts.length=R1 at *
 generalize ts.map (AVal.int .i64)=ys at *
 rw [Zh (by rfl) Zbb]
 simp -implicitDefEqProofs only [EQA,ZG,Zs,Nat.reduceAdd,Nat.reduceLT,Nat.reduceLeDiff,Nat.reduceEqDiff,Nat.reduceBEq,↓reduceIte,Zd,Zbe,Za8,Zek,oI,oN,a4,b2,hC,m1,Int.reduceBEq,z]
 exact hO _
theorem Zv4 (hP:QOk 9 P) {e:Int} (h:Zbq (Zas 9) 9 l=.error e):Zh3 8 1 l P e:=by
 have hk:(8:Nat) < 26:=by omega
 have hF:=ZpQ (g:=(AVal.int .i64)) (kk:=8) (f:=125) (by omega) (by decide) (by kernel_rfl) ZiD cT0 cF0 cT1 cF1 hP hl h
 obtain ⟨hL,hN,h0,-,-,-⟩:=hP
 have a4:=fun L=>(Z5 P hL 0 (by omega) L).trans h0
 rcases hF with ⟨cs,hc,hE⟩ | ⟨Q,xs,r,hQ,hQN,hE⟩
 ·have hC:=ZmW (O:=E) (byref:=BY) (fm:=121) (by kernel_rfl) (Zw P hL hN false (l.map Zc)) hc rfl hE
  refine Or.inl ⟨cs,hc,?_⟩
  unfold hB at hC
  unfold Zg
  clear hE h
  rw [Zh (by rfl) Zbb]
  simp -implicitDefEqProofs only [EQA,ZG,Nat.reduceAdd,Nat.reduceLT,Nat.reduceLeDiff,Nat.reduceEqDiff,Nat.reduceBEq,↓reduceIte,Zbe,Za8,oI,oN,a4,hC,Int.reduceBEq]
  exact ZX rfl hc
 ·unfold H3 at hE
  have hC:=ZpF (O:=E) (byref:=BY) (fm:=121) (by kernel_rfl) (Zw P hL hN false (l.map Zc)) (fun ρ h=>ZaQ Q hQ hQN hk 3 0 xs.length 3 0 r ρ h) rfl hE
  have hO:=fun τ=>Zc0 (j:=3) (w:=1) (xs:=xs.map (AVal.int .i64)) (r:=.pan (Zy e)) (σ:=.var (Zi Q 8 3 0 xs.length++[.lst false (r.map Zc)])::.var [.ref 0 0]::.var [.ref 0 0]::.row 0 1 (xs.map (AVal.int .i64))::τ) rfl (by omega) rfl rfl (Zbx Q hQ hQN hk 3 0 xs.length r) (fun ρ h=>ZaQ Q hQ hQN hk 3 0 xs.length 1 0 r ρ h)
  refine Or.inr ⟨Q,xs.length,r,xs.map (AVal.int .i64),hQ,hQN,?_⟩
  unfold hB at hC
  unfold Zg Zch
  clear hE h
  generalize Zi Q 8 3 0 xs.length=R at *
  generalize Zi Q 8 1 0 xs.length=R1 at *
  generalize xs.map (AVal.int .i64)=ys at *
  generalize Zy e=ce at *
  rw [Zh (by rfl) Zbb]
  simp -implicitDefEqProofs only [EQA,ZG,Nat.reduceAdd,Nat.reduceLT,Nat.reduceLeDiff,Nat.reduceEqDiff,Nat.reduceBEq,↓reduceIte,Zbe,Za8,oI,oN,a4,hC,Int.reduceBEq]
  exact hO _
theorem ZI6 (hP:QOk 11 P) {n:Int} {ps:List Zu} {ts:List Int} (h:Zbq (Zas 11) 11 l=.ok (n,ps,ts)) :
  E 77 [.ref 0 0] (Zg P l)=some (.tup [],Zch (Zb2 P n ps) 8 ts.length [] 1 (ts.map (AVal.int .i64))):=by
 have hk:(8:Nat) < 26:=by omega
 have hE:=ZmR (g:=(AVal.int .i64)) (kk:=8) (f:=125) (by omega) (by decide) (by kernel_rfl) ZiD cT0 cF0 cT1 cF1 hP hl h
 have hQ:=Zdx hP n ps
 obtain ⟨hL,hN,h0,-,-,-⟩:=hP
 unfold H3 at hE
 generalize Zb2 P n ps=Q at *
 have hC:=Zos (O:=E) (byref:=BY) (fm:=121) (by kernel_rfl) (Zw P hL hN false (l.map Zc)) (Zbx Q hQ.len hQ.nor hk 3 0 ts.length []) (fun ρ h=>ZaQ Q hQ.len hQ.nor hk 3 0 ts.length 3 0 [] ρ h) hE
 have a4:=fun L=>(Z5 P hL 0 (by omega) L).trans h0
 have hR:=Zb6 Q hQ.len hQ.nor 8 hk ts.length 3 0
 have b2:=Zao _ hR
 have m1:=Za9
 have z:=z0b
 have hO:=fun τ=>Zc0 (j:=3) (w:=1) (xs:=ts.map (AVal.int .i64)) (r:=.tup []) (σ:=.var (Zi Q 8 3 0 ts.length++[.lst false []])::.var [.ref 0 0]::.var [.ref 0 0]::.row 0 1 (ts.map (AVal.int .i64))::τ) rfl (by omega) rfl rfl (Zbx Q hQ.len hQ.nor hk 3 0 ts.length []) (fun ρ h=>ZaQ Q hQ.len hQ.nor hk 3 0 ts.length 1 0 [] ρ h)
 unfold hB at hC
 simp only [List.map_nil] at hC
 unfold Zg Zch
 clear hE h
 generalize Zi Q 8 3 0 ts.length=R at *
 generalize Zi Q 8 1 0 ts.length=R1 at *
 generalize ts.map (AVal.int .i64)=ys at *
 rw [Zh (by rfl) Zbb]
 simp -implicitDefEqProofs only [EQA,ZG,Zs,Nat.reduceAdd,Nat.reduceLT,Nat.reduceLeDiff,Nat.reduceEqDiff,Nat.reduceBEq,↓reduceIte,Zd,Zbe,Za8,Zek,oI,oN,a4,b2,hC,m1,Int.reduceBEq,z]
 exact hO _
theorem ZCX (hP:QOk 11 P) {e:Int} (h:Zbq (Zas 11) 11 l=.error e):Zh3 8 1 l P e:=by
 have hk:(8:Nat) < 26:=by omega
 have hF:=ZpQ (g:=(AVal.int .i64)) (kk:=8) (f:=125) (by omega) (by decide) (by kernel_rfl) ZiD cT0 cF0 cT1 cF1 hP hl h
 obtain ⟨hL,hN,h0,-,-,-⟩:=hP
 have a4:=fun L=>(Z5 P hL 0 (by omega) L).trans h0
 rcases hF with ⟨cs,hc,hE⟩ | ⟨Q,xs,r,hQ,hQN,hE⟩
 ·have hC:=ZmW (O:=E) (byref:=BY) (fm:=121) (by kernel_rfl) (Zw P hL hN false (l.map Zc)) hc rfl hE
  refine Or.inl ⟨cs,hc,?_⟩
  unfold hB at hC
  unfold Zg
  clear hE h
  rw [Zh (by rfl) Zbb]
  simp -implicitDefEqProofs only [EQA,ZG,Nat.reduceAdd,Nat.reduceLT,Nat.reduceLeDiff,Nat.reduceEqDiff,Nat.reduceBEq,↓reduceIte,Zbe,Za8,oI,oN,a4,hC,Int.reduceBEq]
  exact ZX rfl hc
 ·unfold H3 at hE
  have hC:=ZpF (O:=E) (byref:=BY) (fm:=121) (by kernel_rfl) (Zw P hL hN false (l.map Zc)) (fun ρ h=>ZaQ Q hQ hQN hk 3 0 xs.length 3 0 r ρ h) rfl hE
  have hO:=fun τ=>Zc0 (j:=3) (w:=1) (xs:=xs.map (AVal.int .i64)) (r:=.pan (Zy e)) (σ:=.var (Zi Q 8 3 0 xs.length++[.lst false (r.map Zc)])::.var [.ref 0 0]::.var [.ref 0 0]::.row 0 1 (xs.map (AVal.int .i64))::τ) rfl (by omega) rfl rfl (Zbx Q hQ hQN hk 3 0 xs.length r) (fun ρ h=>ZaQ Q hQ hQN hk 3 0 xs.length 1 0 r ρ h)
  refine Or.inr ⟨Q,xs.length,r,xs.map (AVal.int .i64),hQ,hQN,?_⟩
  unfold hB at hC
  unfold Zg Zch
  clear hE h
  generalize Zi Q 8 3 0 xs.length=R at *
  generalize Zi Q 8 1 0 xs.length=R1 at *
  generalize xs.map (AVal.int .i64)=ys at *
  generalize Zy e=ce at *
  rw [Zh (by rfl) Zbb]
  simp -implicitDefEqProofs only [EQA,ZG,Nat.reduceAdd,Nat.reduceLT,Nat.reduceLeDiff,Nat.reduceEqDiff,Nat.reduceBEq,↓reduceIte,Zbe,Za8,oI,oN,a4,hC,Int.reduceBEq]
  exact hO _
theorem ZCv (hP:QOk 8 P) {n:Int} {ps:List Zu} {ts:List Zbv} (h:Zbq Zbn 8 l=.ok (n,ps,ts)) :
  E 77 [.ref 0 0] (Zg P l)=some (.tup [],Zch (Zb2 P n ps) 10 ts.length [] 6 (ts.map ZY)):=by
 have hk:(10:Nat) < 26:=by omega
 have hE:=ZzC hP hl h
 have hQ:=Zdx hP n ps
 obtain ⟨hL,hN,h0,-,-,-⟩:=hP
 unfold H1 at hE
 generalize Zb2 P n ps=Q at *
 have hC:=ZCT (O:=E) (byref:=BY) (fm:=121) (by kernel_rfl) (Zw P hL hN false (l.map Zc)) (Zbx Q hQ.len hQ.nor hk 1 0 ts.length []) (fun ρ h=>ZaQ Q hQ.len hQ.nor hk 1 0 ts.length 1 0 [] ρ h) (fun ρ h=>ZaQ Q hQ.len hQ.nor hk 1 0 ts.length 3 0 [] ρ h) hE
 have a4:=fun L=>(Z5 P hL 0 (by omega) L).trans h0
 have hR:=Zb6 Q hQ.len hQ.nor 10 hk ts.length 3 0
 have b2:=Zao _ hR
 have m1:=Za9
 have z:=z0b
 have hO:=fun τ=>Zc0 (j:=3) (w:=6) (xs:=ts.map ZY) (r:=.tup []) (σ:=.var (Zi Q 10 3 0 ts.length++[.lst false []])::.var [.ref 0 0]::.var [.ref 0 0]::.row 0 6 (ts.map ZY)::τ) rfl (by omega) rfl rfl (Zbx Q hQ.len hQ.nor hk 3 0 ts.length []) (fun ρ h=>ZaQ Q hQ.len hQ.nor hk 3 0 ts.length 1 0 [] ρ h)
 unfold hB at hC
 simp only [List.map_nil] at hC
 unfold Zg Zch
 clear hE h
 generalize Zi Q 10 3 0 ts.length=R at *
 generalize Zi Q 10 1 0 ts.length=R1 at *
 generalize ts.map ZY=ys at *
 rw [Zh (by rfl) Zbb]
 simp -implicitDefEqProofs only [EQA,ZG,Zs,Nat.reduceAdd,Nat.reduceLT,Nat.reduceLeDiff,Nat.reduceEqDiff,Nat.reduceBEq,↓reduceIte,Zd,Zbe,Za8,Zek,oI,oN,a4,b2,hC,m1,Int.reduceBEq,z]
 exact hO _
theorem ZzH (hP:QOk 8 P) {e:Int} (h:Zbq Zbn 8 l=.error e):Zh3 10 6 l P e:=by
 have hk:(10:Nat) < 26:=by omega
 have hF:=Zv1 hP hl h
 obtain ⟨hL,hN,h0,-,-,-⟩:=hP
 have a4:=fun L=>(Z5 P hL 0 (by omega) L).trans h0
 rcases hF with ⟨cs,hc,hE⟩ | ⟨Q,xs,r,hQ,hQN,hE⟩
 ·have hC:=Zwq (O:=E) (byref:=BY) (fm:=121) (by kernel_rfl) (Zw P hL hN false (l.map Zc)) hc rfl hE
  refine Or.inl ⟨cs,hc,?_⟩
  unfold hB at hC
  unfold Zg
  clear hE h
  rw [Zh (by rfl) Zbb]
  simp -implicitDefEqProofs only [EQA,ZG,Nat.reduceAdd,Nat.reduceLT,Nat.reduceLeDiff,Nat.reduceEqDiff,Nat.reduceBEq,↓reduceIte,Zbe,Za8,oI,oN,a4,hC,Int.reduceBEq]
  exact ZX rfl hc
 ·unfold H1 at hE
  have hC:=ZLj (O:=E) (byref:=BY) (fm:=121) (by kernel_rfl) (Zw P hL hN false (l.map Zc)) (fun ρ h=>ZaQ Q hQ hQN hk 1 0 xs.length 3 0 r ρ h) rfl hE
  have hO:=fun τ=>Zc0 (j:=3) (w:=6) (xs:=xs.map ZY) (r:=.pan (Zy e)) (σ:=.var (Zi Q 10 3 0 xs.length++[.lst false (r.map Zc)])::.var [.ref 0 0]::.var [.ref 0 0]::.row 0 6 (xs.map ZY)::τ) rfl (by omega) rfl rfl (Zbx Q hQ hQN hk 3 0 xs.length r) (fun ρ h=>ZaQ Q hQ hQN hk 3 0 xs.length 1 0 r ρ h)
  refine Or.inr ⟨Q,xs.length,r,xs.map ZY,hQ,hQN,?_⟩
  unfold hB at hC
  unfold Zg Zch
  clear hE h
  generalize Zi Q 10 3 0 xs.length=R at *
  generalize Zi Q 10 1 0 xs.length=R1 at *
  generalize xs.map ZY=ys at *
  generalize Zy e=ce at *
  rw [Zh (by rfl) Zbb]
  simp -implicitDefEqProofs only [EQA,ZG,Nat.reduceAdd,Nat.reduceLT,Nat.reduceLeDiff,Nat.reduceEqDiff,Nat.reduceBEq,↓reduceIte,Zbe,Za8,oI,oN,a4,hC,Int.reduceBEq]
  exact hO _
end
end Go.Proofs.YtmlkhhidifjjfaaDoor
namespace Go.Proofs.YtmlkhhidifjjfaaDoor
set_option maxHeartbeats 8000000
set_option maxRecDepth 10000
section
variable {O:ZR} {byref:Nat→Bool} {σ:Za} {t f site w:Nat} {rest:List AVal} {cs cs2 cs3 ys:List AVal}
theorem ZKO (hb:byref f=false) (hp:rest.all Z4=true) (hc:Zd cs=true) (hrf:Zr cs2=[1]) (hren:∀ ρ:Rho,ρ 1 0=some (1,0)→Ze ρ cs2=cs2) (hback:∀ ρ:Rho,ρ 1 0=some (site,0)→Ze ρ cs2=cs3)
  (h:O f (.ref 0 0::rest.map ZH) [.var cs]=some (.tup [],[.var cs2,.row 0 w ys])) (hs:σ[t]?=some (.var cs)) (hff:Za1 σ site 1=true):Zj O byref σ site f 1 true (.ref t 0::rest)=some (.tup [],(σ.set t (.var cs3)).set site (.row 0 w ys),{ any:=true,upd:=[(t,cs3)] }):=by
 have hfs:σ[site]?=some .free:=ZgA (i:=0) hff (by omega)
 have hts:t≠site:=by rintro rfl;rw [hs] at hfs;cases hfs
 have htl:t < σ.length:=(List.getElem?_eq_some_iff.1 hs).1
 have hd:σ.getD t .free=.var cs:=by simp [List.getD_eq_getElem?_getD,hs]
 have hsh:showAs σ (.ref t 0::rest)=some (.ref t 0::rest.map ZH,[]):=by
  rw [showAs,show showA σ (.ref t 0)=some (.ref t 0,[]) from rfl,Zd8 hp]
  rfl
 have href:Zr (.ref t 0::rest.map ZH)=[t]:=by
  rw [Zr,Zdn hp];rfl
 have hρ:Zl σ 0 [t] t 0=some (0,0):=by simp [Zl,Z1,hs,Zp,ZU]
 have hask:Zae true [t].length (some (.tup [],[.var cs2,.row 0 w ys]))=some (.tup [],[.var cs2,.row 0 w ys]):=Zc0 (j:=1) (σ:=[.var cs2,.row 0 w ys]) (r:=.tup []) rfl (by omega) rfl rfl hrf hren
 refine ZcS (ids:=[t]) hb hsh (by rw [href];exact Zfa hs hc) rfl (by simp [hs,okB]) ?_ ?_ h hask (by simp) (by simp) ?_ hff rfl ?_ ?_
 ·rw [Ze,Zde hp]
  simp only [Zk,hρ]
 ·simp only [Zx,hd,ZJ,(ZaT _ cs hc).1]
 ·simp [ZaZ,okB,hs,Zce,Zp]
 ·have hb3:Ze (ZaB σ [t] site) cs2=cs3:=hback _ (by simp [ZaB])
  simp only [Za5,ZaK,List.getD_cons_zero,Zcl,Zp,ZJ,hb3]
  simp []
 ·have e1:((σ.set t (.var cs3)).set site (.row 0 w ys))[t]?=some (.var cs3):=by
   rw [List.getElem?_set_ne (fun e=>hts e.symm),List.getElem?_set_self htl]
  simp only [Za7,e1]
theorem ZBm {x:AVal} {view:Bool} (hb:byref f=false) (hp:rest.all Z4=true) (hc:Zd cs=true) (hback:∀ ρ:Rho,ρ 1 0=some (site,0)→Ze ρ cs2=cs3) (hx:ZK x=true)
  (h:O f (.ref 0 0::rest.map ZH) [.var cs]=some (.pan x,[.var cs2,.row 0 w ys])) (hs:σ[t]?=some (.var cs)) (hff:Za1 σ site 1=true):Zj O byref σ site f 1 view (.ref t 0::rest)=some (.pan x,(σ.set t (.var cs3)).set site (.row 0 w ys),{ any:=true,upd:=[(t,cs3)] }):=by
 have hfs:σ[site]?=some .free:=ZgA (i:=0) hff (by omega)
 have hts:t≠site:=by rintro rfl;rw [hs] at hfs;cases hfs
 have htl:t < σ.length:=(List.getElem?_eq_some_iff.1 hs).1
 have hd:σ.getD t .free=.var cs:=by simp [List.getD_eq_getElem?_getD,hs]
 have hnp:ZK (.pan x)=true:=by simpa only [ZK] using hx
 have hsh:showAs σ (.ref t 0::rest)=some (.ref t 0::rest.map ZH,[]):=by
  rw [showAs,show showA σ (.ref t 0)=some (.ref t 0,[]) from rfl,Zd8 hp]
  rfl
 have href:Zr (.ref t 0::rest.map ZH)=[t]:=by
  rw [Zr,Zdn hp];rfl
 have hρ:Zl σ 0 [t] t 0=some (0,0):=by simp [Zl,Z1,hs,Zp,ZU]
 have hask:Zae view [t].length (some (.pan x,[.var cs2,.row 0 w ys]))=some (.pan x,[.var cs2,.row 0 w ys]):=by
  unfold Zae
  split <;> rfl
 refine ZcS (ids:=[t]) hb hsh (by rw [href];exact Zfa hs hc) rfl (by simp [hs,okB]) ?_ ?_ h hask (by simp) (by simp) ?_ hff (Za4 _ _ hnp).1 ?_ ?_
 ·rw [Ze,Zde hp]
  simp only [Zk,hρ]
 ·simp only [Zx,hd,ZJ,(ZaT _ cs hc).1]
 ·simp [ZaZ,okB,hs,Zce,Zp]
 ·have hb3:Ze (ZaB σ [t] site) cs2=cs3:=hback _ (by simp [ZaB])
  simp only [Za5,ZaK,List.getD_cons_zero,Zcl,Zp,ZJ,hb3]
  simp []
 ·have e1:((σ.set t (.var cs3)).set site (.row 0 w ys))[t]?=some (.var cs3):=by
   rw [List.getElem?_set_ne (fun e=>hts e.symm),List.getElem?_set_self htl]
  simp only [Za7,e1]
end
section
variable (b:Int) (l:Zb) {P1 Q:List AVal} {kk n w:Nat} {ys:List AVal} (h1:P1.length=26) (n1:Zd P1=true) (hQ:Q.length=26) (nQ:Zd Q=true) (hk:kk < 26)
include h1 n1 hQ nQ hk
theorem ZIy (oQ:∀ r g m,(Zi Q kk r g m).all ZD=true)
  (hf:E 76 [.ref 0 0,.int .u8 b] (Zg P0 l)=some (.tup [],Zg P1 l)) (hb:E 77 [.ref 0 0] (Zg P1 l)=some (.tup [],Zch Q kk n [] w ys)) :
  evC FC PR BY 3 c2R (tput tmR (some 5) .top) (σR b l)=some (.ret,[(3,.ref 2 0),(2,.ref 1 0)],[.var [.int .u8 b,.lst false (l.map Zc)],.var (Zi Q kk 4 0 n),.var [.int .i64 0],.var (Zi Q kk 4 0 n++[.lst false []]),.row 0 w ys]):=by
 have hF:=fun (σ:Za) site (hs:σ[3]?=some (.var (P0++[.lst false (l.map Zc)])))=>Zc4 (O:=E) (byref:=BY) (f:=76) (rest:=[.int .u8 b]) (by kernel_rfl) rfl (by rfl) (ZaC n1 (by rfl)) rfl rfl hf hs site
 have hB:=fun (σ:Za) (hs:σ[3]?=some (.var (P1++[.lst false (l.map Zc)]))) (hfr:σ[4]?=some .free)=>ZKO (O:=E) (byref:=BY) (f:=77) (site:=4) (rest:=[]) (by kernel_rfl) rfl (ZaC n1 (by rfl)) (Zbx Q hQ nQ hk 1 0 n []) (fun ρ h=>ZaQ Q hQ nQ hk 1 0 n 1 0 [] ρ h) (fun ρ h=>ZaQ Q hQ nQ hk 1 0 n 4 0 [] ρ h) hb hs (by simp [Za1,freeAt,hfr])
 have hR:=Zb6 Q hQ nQ kk hk n 4 0
 have b1:=Z2 _ hR
 have b2:=Zep _ hR
 have o2:=oQ 4 0 n
 simp only [List.map_nil] at hB
 unfold P0 at hF
 simp only [List.cons_append,List.nil_append] at hF
 unfold tmR σR P0
 clear hf hb
 generalize Zi Q kk 4 0 n=R at *
 simp -implicitDefEqProofs only [EQA,Zag,Nat.reduceAdd,Nat.reduceLT,Nat.reduceLeDiff,Nat.reduceEqDiff,Nat.reduceBEq,↓reduceIte,c2R,AVal.cells,ZV,hF,hB,b1,b2,hR,o2]
theorem ZFD {c:Int} (hf:E 76 [.ref 0 0,.int .u8 b] (Zg P0 l)=some (.tup [],Zg P1 l)) {r:Zb} (hb:E 77 [.ref 0 0] (Zg P1 l)=some (.pan (Zy c),Zch Q kk n r w ys)) :
  evC FC PR BY 3 c2R (tput tmR (some 5) .top) (σR b l)=some (.panic (Zy c),[],[.var [.int .u8 b,.lst false (l.map Zc)],.var P0,.var [.int .i64 0],.var (Zi Q kk 4 0 n++[.lst false (r.map Zc)]),.row 0 w ys]):=by
 have hF:=fun (σ:Za) site (hs:σ[3]?=some (.var (P0++[.lst false (l.map Zc)])))=>Zc4 (O:=E) (byref:=BY) (f:=76) (rest:=[.int .u8 b]) (by kernel_rfl) rfl (by rfl) (ZaC n1 (by rfl)) rfl rfl hf hs site
 have hB:=fun (σ:Za) (hs:σ[3]?=some (.var (P1++[.lst false (l.map Zc)]))) (hff:Za1 σ 4 1=true)=>ZBm (O:=E) (byref:=BY) (f:=77) (view:=true) (site:=4) (rest:=[]) (by kernel_rfl) rfl (ZaC n1 (by rfl)) (fun ρ h=>ZaQ Q hQ nQ hk 1 0 n 4 0 r ρ h) rfl hb hs hff
 unfold P0 at hF
 simp only [List.cons_append,List.nil_append] at hF
 unfold tmR σR P0
 clear hf hb
 generalize Zi Q kk 4 0 n=R at *
 simp -implicitDefEqProofs only [EQA,Zag,Nat.reduceAdd,Nat.reduceLT,Nat.reduceLeDiff,Nat.reduceEqDiff,Nat.reduceBEq,↓reduceIte,c2R,AVal.cells,ZV,hF,hB,Za1]
omit h1 n1
theorem Zwa (c:Int):Ze6 0 1 2 rsR (.var [.int .u8 b,.lst false (l.map Zc)]::.var (Zi Q kk 4 0 n)::.var [.int .i64 c]::.var (Zi Q kk 4 0 n++[.lst false []])::.row 0 w ys::[])=some (.tup [.agg (Zi Q kk 0 0 n),.int .i64 c],[.row 0 w ys]):=by
 have hR:=Zb6 Q hQ nQ kk hk n 4 0
 have hRf:=Zci Q hQ nQ kk hk n 4 0
 have hre:=fun ρ h=>ZbJ Q hQ nQ kk hk n (r:=4) (g:=0) (r':=0) (g':=0) ρ h
 generalize Zi Q kk 4 0 n=R at *
 have h1:resA [(3,.ref 2 0),(2,.ref 1 0)] (.var [.int .u8 b,.lst false (l.map Zc)]::.var R::.var [.int .i64 c]::.var (R++[.lst false []])::.row 0 w ys::[]) rsR=some (.tup [.agg R,.int .i64 c]):=by
  have h2:R.take 26=R:=List.take_of_length_le (by omega)
  simp [resA,resAll,resOne,rsR,tget,ldA,partA,hR,h2]
 unfold Ze6
 rw [h1]
 have hr:Zr [AVal.tup [.agg R,.int .i64 c]]=[4]:=by simp [Zr,ZZ,hRf]
 have hi:ZE 0 [AVal.tup [.agg R,.int .i64 c]] (.var [.int .u8 b,.lst false (l.map Zc)]::.var R::.var [.int .i64 c]::.var (R++[.lst false []])::.row 0 w ys::[])=[4]:=by
  simp only [ZE,hr,List.range_zero,List.flatMap_nil,List.append_nil]
  rfl
 have hρ:Zl (.var [.int .u8 b,.lst false (l.map Zc)]::.var R::.var [.int .i64 c]::.var (R++[.lst false []])::.row 0 w ys::[]) 0 [4] 4 0=some (0,0):=rfl
 simp only [Zal,gcA,hi,Ze,Zk,hre _ hρ,Zx,List.getD_cons_zero,List.getD_cons_succ,ZU,Zp,ZJ]
 simp
end
theorem ZCh (b:Int) (l:Zb) {P1 Q:List AVal} {kk n w:Nat} {ys:List AVal} (h1:P1.length=26) (n1:Zd P1=true) (hQ:Q.length=26) (nQ:Zd Q=true) (hk:kk < 26) (oQ:∀ r g m,(Zi Q kk r g m).all ZD=true)
  (hf:E 76 [.ref 0 0,.int .u8 b] (Zg P0 l)=some (.tup [],Zg P1 l)) (hb:E 77 [.ref 0 0] (Zg P1 l)=some (.tup [],Zch Q kk n [] w ys)) :
  Zeu [.agg [.int .u8 b,.lst false (l.map Zc)]] []=some (.tup [.agg (Zi Q kk 0 0 n),.int .i64 0],[.row 0 w ys]):=by
 unfold Zeu Zhs
 show (match evC FC PR BY 0 c1R (enterA 0 [.agg [.int .u8 b,.lst false (l.map Zc)]] []) [] with | some (.normal,tm1,σ1)=>_ | _=>none)=_
 rw [Zp3]
 show (if (0:Nat)≤(σR b l).length∧1 < (σR b l).length∧2 < (σR b l).length then Zft FC PR BY 61 c2R c3R rsR 0 (tput tmR (some 5) .top) (σR b l) 1 2 else none)=_
 rw [if_pos (by simp [σR])]
 unfold Zft
 rw [show (σR b l).length=3 from rfl,ZIy b l h1 n1 hQ nQ hk oQ hf hb]
 exact Zwa b l hQ nQ hk 0
theorem ZHv {b c:Int} {l:Zb} {Q:List AVal} {q:Zq} {w:Nat} {ys:List AVal} (h:E1 32 [.agg [.int .u8 b,.lst false (l.map Zc)]] []=some (.tup [.agg Q,.int .i64 c],[.row 0 w ys])) (hv:∀ σ:Za,σ[0]?=some (.row 0 w ys)→ZaM σ Q=some (Zt q,[0])) :
  Zae true 0 (E1 32 [.agg [.int .u8 b,.lst false (l.map Zc)]] [])=some (.tup [Z7 q,.int .i64 c],[]):=by
 rw [h]
 show ZbI 0 (some (.tup [.agg Q,.int .i64 c],[.row 0 w ys]))=some (.tup [Z7 q,.int .i64 c],[])
 have h1:viewR [.row 0 w ys] (.tup [.agg Q,.int .i64 c])=some (.tup [Z7 q,.int .i64 c],[0]):=by
  rw [viewR,viewAs,ZN,hv _ rfl]
  rfl
 unfold ZbI
 simp only [h1]
 have e1:=ZuX q
 have e2:=ZjQ q
 have hi:ZE 0 [AVal.tup [Z7 q,.int .i64 c]] (Zn [.row 0 w ys] [0])=[]:=by
  have : Zr [AVal.tup [Z7 q,.int .i64 c]]=[]:=by simp [Zr,ZZ,ZbB,e1]
  simp only [ZE,this,List.nil_append,List.range_zero,List.flatMap_nil]
  rfl
 simp only [gcA,hi,Ze,Zk,Zx]
 rw [ZbB,Zk,e2]
end Go.Proofs.YtmlkhhidifjjfaaDoor
namespace Go.Proofs.YtmlkhhidifjjfaaDoor
set_option maxHeartbeats 8000000
set_option maxRecDepth 10000
def ZnZ (q:Zq) (m:Int):Zq:={ q with clean:=Zv m 2 != 0,hasWill:=Zv m 4 != 0,hasPassword:=Zv m 64 != 0,hasUser:=Zv m 128 != 0,will:={ q.will with qos:=Zv (Zd0 m) 3,retain:=Zv m 32 != 0 } }
def headD (q:Zq) (k:Int) (ps:List Zu) (cl:Zb):Zq:={ q with keep:=k,props:=ps,client:=cl }
def Zgp (b:Bool) (q:Zq) (l:Zb):Except Int (Zq×Zb):=if b=true then (match ZcC l with
 | .error c=>.error c
 | .ok (d,r)=>.ok ({ q with password:=d },r)) else .ok (q,l)
def Zgg (b:Bool) (q:Zq) (l:Zb):Except Int (Zq×Zb):=if b=true then (match Zan l with
 | .error c=>.error c
 | .ok (d,r)=>.ok ({ q with user:=d },r)) else .ok (q,l)
def ZfE (b:Bool) (q:Zq) (l:Zb):Except Int (Zq×Zb):=if b=true then (match Zc8 l with
 | .error c=>.error c
 | .ok (ps,tp,d,r)=>.ok ({ q with will:={ q.will with props:=ps,topic:=tp,data:=d } },r)) else .ok (q,l)
def ZgY (m:Int) (q:Zq) (l:Zb):Except Int (Zq×Zb):=match ZfE (Zv m 4 != 0) q l with
 | .error c=>.error c
 | .ok (q,l)=>match Zgg (Zv m 128 != 0) q l with
  | .error c=>.error c
  | .ok (q,l)=>Zgp (Zv m 64 != 0) q l
def Zhh (q:Zq) (m:Int) (l:Zb):Except Int (Zq×Zb):=match Zaz 2 l with
 | .error c=>.error c
 | .ok (k,r4)=>match Zbs 1 r4 with
  | .error c=>.error c
  | .ok (ps,r5)=>match Zan r5 with
   | .error c=>.error c
   | .ok (cl,r6)=>ZgY m (headD (ZnZ q m) k ps cl) r6
def ZeV (q:Zq) (l:Zb):Except Int (Zq×Zb):=match Zan l with
 | .error c=>.error c
 | .ok (s,r1)=>if (s == [77,81,84,84])=true then (match Zaz 1 r1 with
  | .error c=>.error c
  | .ok (v,r2)=>if (v == 5)=true then (match Zaz 1 r2 with
   | .error c=>.error c
   | .ok (m,r3)=>if ZhZ m (Zv (Zd0 m) 3) (Zv m 4 != 0) (Zv m 32 != 0)=true then Zhh q m r3 else .error 129)
   else .error 132)
  else .error 132
structure Is (P:List AVal) (q:Zq):Prop where
 view:∀ σ,ZaM σ P=some (Zt q,[])
 ok:P.all ZD=true
theorem ZpT {σ:Za} {v y:AVal} {ts:List Nat} (hv:ZL σ v=some (y,ts)):∀ {P ys:List AVal} {k:Nat},ZaM σ P=some (ys,[])→k < P.length→ZaM σ (P.set k v)=some (ys.set k y,ts)
 | [],_,_,_,h=>by simp at h
 | x::P,ys,k,h,hk=>by
  rw [ZaM] at h
  split at h
  ·rename_i y0 t0 h0
   split at h
   ·rename_i ys0 us0 h1
    injection h with h;injection h with h2 h3
    obtain ⟨rfl,rfl⟩:=List.append_eq_nil_iff.1 h3
    subst h2
    cases k with
    | zero =>
     rw [List.set_cons_zero,ZaM,hv]
     simp only [h1,List.append_nil]
     rfl
    | succ k =>
     rw [List.set_cons_succ,ZaM,h0]
     simp only [ZpT hv h1 (by simpa using hk)]
     rfl
   ·cases h
  ·cases h
theorem ZlX {v:AVal} (hv:ZD v=true):∀ {P:List AVal} {k:Nat},P.all ZD=true→(P.set k v).all ZD=true
 | [],_,_=>rfl
 | x::P,0,h=>by
  simp only [List.set_cons_zero,List.all_cons,Bool.and_eq_true] at h ⊢
  exact ⟨hv,h.2⟩
 | x::P,k+1,h=>by
  simp only [List.set_cons_succ,List.all_cons,Bool.and_eq_true] at h ⊢
  exact ⟨h.1,ZlX hv h.2⟩
theorem Is.set {P:List AVal} {q q':Zq} (h:Is P q) {k:Nat} {v y:AVal} (hk:k < P.length) (hv:∀ σ,ZL σ v=some (y,[])) (ho:ZD v=true) (hc:(Zt q).set k y=Zt q'):Is (P.set k v) q' :=
 ⟨fun σ=>by rw [ZpT (hv σ) (h.view σ) hk,hc],ZlX ho h.ok⟩
section
variable {P:List AVal} {q:Zq} (hP:P.length=26) (h:Is P q)
include hP h
theorem ZAZ (m:Int):Is (ZbG P m) (ZnZ q m):=by
 unfold ZbG
 have h1:=h.set (k:=12) (q':={ q with clean:=Zv m 2 != 0 }) (v:=.bool (Zv m 2 != 0)) (by omega) (fun _=>rfl) rfl rfl
 have h2:=h1.set (k:=15) (q':={ q with clean:=Zv m 2 != 0,hasWill:=Zv m 4 != 0 }) (v:=.bool (Zv m 4 != 0)) (by simp [hP]) (fun _=>rfl) rfl rfl
 have h3:=h2.set (k:=23) (q':={ q with clean:=Zv m 2 != 0,hasWill:=Zv m 4 != 0,hasPassword:=Zv m 64 != 0 }) (v:=.bool (Zv m 64 != 0)) (by simp [hP]) (fun _=>rfl) rfl rfl
 have h4:=h3.set (k:=21) (q':={ q with clean:=Zv m 2 != 0,hasWill:=Zv m 4 != 0,hasPassword:=Zv m 64 != 0,hasUser:=Zv m 128 != 0 }) (v:=.bool (Zv m 128 != 0)) (by simp [hP]) (fun _=>rfl) rfl rfl
 have h5:=h4.set (k:=18) (q':={ q with clean:=Zv m 2 != 0,hasWill:=Zv m 4 != 0,hasPassword:=Zv m 64 != 0,hasUser:=Zv m 128 != 0,will:={ q.will with qos:=Zv (Zd0 m) 3 } }) (v:=.int .i64 (Zv (Zd0 m) 3)) (by simp [hP]) (fun _=>rfl) rfl rfl
 exact h5.set (k:=19) (v:=.bool (Zv m 32 != 0)) (by simp [hP]) (fun _=>rfl) rfl rfl
theorem ZG0 (k:Int) (ps:List Zu) (cl:Zb):Is (Zjb P k ps cl) (headD q k ps cl):=by
 unfold Zjb
 have h1:=h.set (k:=13) (q':={ q with keep:=k }) (v:=.int .i64 k) (by omega) (fun _=>rfl) rfl rfl
 have h2:=h1.set (k:=9) (q':={ q with keep:=k,props:=ps }) (v:=.lst false (ps.map Zo)) (by simp [hP]) (fun _=>rfl) rfl rfl
 exact h2.set (k:=14) (v:=.str cl) (by simp [hP]) (fun _=>rfl) rfl rfl
theorem ZJA (ps:List Zu) (tp d:Zb):Is (Zg5 P ps tp d) { q with will:={ q.will with props:=ps,topic:=tp,data:=d } }:=by
 unfold Zg5
 have h1:=h.set (k:=20) (q':={ q with will:={ q.will with props:=ps } }) (v:=.lst false (ps.map Zo)) (by omega) (fun _=>rfl) rfl rfl
 have h2:=h1.set (k:=16) (q':={ q with will:={ q.will with props:=ps,topic:=tp } }) (v:=.str tp) (by simp [hP]) (fun _=>rfl) rfl rfl
 exact h2.set (k:=17) (v:=.lst false (d.map Zc)) (by simp [hP]) (fun _=>rfl) rfl rfl
end
def Zhm (x:Except Int KSt) (y:Except Int (Zq×Zb)):Prop:=match x with
 | .error e=>y=.error e
 | .ok (P,l)=>∃ q,y=.ok (q,l)∧P.length=26∧Is P q
section
variable {P:List AVal} {q:Zq} (hP:P.length=26) (h:Is P q) (l:Zb)
include hP h
theorem ZE5 (b:Bool):Zhm (ZgV b (P,l)) (Zgp b q l):=by
 unfold ZgV Zgp
 cases b
 ·exact ⟨q,rfl,hP,h⟩
 ·rw [if_pos rfl,if_pos rfl]
  cases hd:ZcC l with
  | error c=>exact rfl
  | ok a=>exact ⟨_,rfl,by simp [hP],h.set (by omega) (fun _=>rfl) rfl rfl⟩
theorem ZCJ (b:Bool):Zhm (Zhl b (P,l)) (Zgg b q l):=by
 unfold Zhl Zgg
 cases b
 ·exact ⟨q,rfl,hP,h⟩
 ·rw [if_pos rfl,if_pos rfl]
  cases hd:Zan l with
  | error c=>exact rfl
  | ok a=>exact ⟨_,rfl,by simp [hP],h.set (by omega) (fun _=>rfl) rfl rfl⟩
theorem ZKS (b:Bool):Zhm (Zjf b (P,l)) (ZfE b q l):=by
 unfold Zjf ZfE
 cases b
 ·exact ⟨q,rfl,hP,h⟩
 ·rw [if_pos rfl,if_pos rfl]
  cases hd:Zc8 l with
  | error c=>exact rfl
  | ok a =>
   obtain ⟨ps,tp,d,r⟩:=a
   exact ⟨_,rfl,by simp [Zg5,hP],ZJA hP h ps tp d⟩
theorem ZBe (m:Int):Zhm (ZiE m (P,l)) (ZgY m q l):=by
 unfold ZiE ZgY
 have h1:=ZKS hP h l (Zv m 4 != 0)
 cases hw:Zjf (Zv m 4 != 0) (P,l) with
 | error e =>
  rw [hw] at h1
  rw [show ZfE (Zv m 4 != 0) q l=.error e from h1]
  exact rfl
 | ok s =>
  obtain ⟨P1,l1⟩:=s
  rw [hw] at h1
  obtain ⟨q1,e1,hP1,i1⟩:=h1
  rw [e1]
  simp only
  have h2:=ZCJ hP1 i1 l1 (Zv m 128 != 0)
  cases hu:Zhl (Zv m 128 != 0) (P1,l1) with
  | error e =>
   rw [hu] at h2
   rw [show Zgg (Zv m 128 != 0) q1 l1=.error e from h2]
   exact rfl
  | ok s =>
   obtain ⟨P2,l2⟩:=s
   rw [hu] at h2
   obtain ⟨q2,e2,hP2,i2⟩:=h2
   rw [e2]
   exact ZE5 hP2 i2 l2 _
theorem Zwi (m:Int):Zhm (Zh5 P m l) (Zhh q m l):=by
 unfold Zh5 Zhh
 cases h1:Zaz 2 l with
 | error c=>exact rfl
 | ok a =>
 obtain ⟨k,r4⟩:=a
 simp only
 cases h2:Zbs 1 r4 with
 | error c=>exact rfl
 | ok a =>
 obtain ⟨ps,r5⟩:=a
 simp only
 cases h3:Zan r5 with
 | error c=>exact rfl
 | ok a =>
 obtain ⟨cl,r6⟩:=a
 exact ZBe (by simp [Zjb,ZbG,hP]) (ZG0 (by simp [ZbG,hP]) (ZAZ hP h m) k ps cl) r6 m
theorem ZEn:Zhm (ZiZ P l) (ZeV q l):=by
 unfold ZiZ ZeV
 cases h1:Zan l with
 | error c=>exact rfl
 | ok a =>
 obtain ⟨s,r1⟩:=a
 simp only
 split
 case isFalse=>exact rfl
 cases h2:Zaz 1 r1 with
 | error c=>exact rfl
 | ok a =>
 obtain ⟨v,r2⟩:=a
 simp only
 split
 case isFalse=>exact rfl
 cases h3:Zaz 1 r2 with
 | error c=>exact rfl
 | ok a =>
 obtain ⟨m,r3⟩:=a
 simp only
 split
 case isFalse=>exact rfl
 exact Zwi hP h r3 m
end
def ZbM (x:Except Int (Zq×Zb)):Except Int Zq:=match x with
 | .error e=>.error e
 | .ok (q,r)=>if r.length=0 then .ok q else .error 129
def Zdt (q:Zq) (l:Zb):Except Int (Zq×Zb):=match Zcf q.type l with
 | .error e=>.error e
 | .ok ((c,ps),r)=>.ok ({ q with code:=c,props:=ps.getD [] },r)
def idQ (q:Zq) (l:Zb):Except Int (Zq×Zb):=match idK l with
 | .error e=>.error e
 | .ok (n,r)=>Zdt { q with id:=n } r
def Ze4 (q:Zq) (l:Zb):Except Int (Zq×Zb):=match Zaz 1 l with
 | .error e=>.error e
 | .ok (f,r)=>if f < 2 then (match Zas 2 r with
  | .error e=>.error e
  | .ok (c,r2)=>match Zbs 2 r2 with
   | .error e=>.error e
   | .ok (ps,r3)=>.ok ({ q with present:=f == 1,code:=c,props:=ps },r3)) else .error 129
def Zjd (q:Zq) (l:Zb):Except Int Zq:=match Zbq Zbn 8 l with
 | .error e=>.error e
 | .ok (n,ps,ts)=>.ok { q with id:=n,props:=ps,subs:=ts }
def Zjg (q:Zq) (l:Zb):Except Int Zq:=match Zbq Zan 10 l with
 | .error e=>.error e
 | .ok (n,ps,ts)=>.ok { q with id:=n,props:=ps,filters:=ts }
def Ze1 (q:Zq) (l:Zb):Except Int Zq:=match Zbq (Zas q.type) q.type l with
 | .error e=>.error e
 | .ok (n,ps,ts)=>.ok { q with id:=n,props:=ps,codes:=ts }
def Zcb (t:Int) (l:Zb):Except Int Zq :=
 if t=1 then ZbM (ZeV { ZF with type:=1 } l)
 else if t=2 then ZbM (Ze4 { ZF with type:=2 } l)
 else if t=4∨t=5∨t=6∨t=7 then ZbM (idQ { ZF with type:=t } l)
 else if t=8 then Zjd { ZF with type:=8 } l
 else if t=10 then Zjg { ZF with type:=10 } l
 else if t=9∨t=11 then Ze1 { ZF with type:=t } l
 else if t=14∨t=15 then ZbM (Zdt { ZF with type:=t } l)
 else ZbM (.ok ({ ZF with type:=t },l))
def ZcY (b:Int) (l:Zb):Zq×Int :=
 if tyI b=0 then (ZF,129) else if tyI b=3 then Zfu b l
 else if Zbf b 15=Zda (tyI b) then (match Zcb (tyI b) l with
  | .error e=>(ZF,e)
  | .ok q=>(q,0)) else (ZF,129)
def Zdp (t : Int) (l : Zb) (x : Except Int Zq) : Prop := match x with
  | .ok q => (∃ Q L, Q.length = 26 ∧ Zd Q = true ∧ ZK L = true ∧ Is Q q ∧ E 77 [.ref 0 0] (Zg (P0.set 0 (.int .i64 t)) l) = some (.tup [], [.var (Q ++ [L])])) ∨
      (∃ Q q0 kk w ys, Q.length = 26 ∧ Zd Q = true ∧ kk < 26 ∧ Is Q q0 ∧ (Zt q0).set kk (.lst false ys) = Zt q ∧ E 77 [.ref 0 0] (Zg (P0.set 0 (.int .i64 t)) l) = some (.tup [], Zch Q kk ys.length [] w ys))
  | .error e => (∃ cs, Zd cs = true ∧ E 77 [.ref 0 0] (Zg (P0.set 0 (.int .i64 t)) l) = some (.pan (Zy e), [.var cs])) ∨
      (∃ Q kk n r w ys, Q.length = 26 ∧ Zd Q = true ∧ kk < 26 ∧ E 77 [.ref 0 0] (Zg (P0.set 0 (.int .i64 t)) l) = some (.pan (Zy e), Zch Q kk n r w ys))
theorem Zja {t:Int} {l:Zb} {q:Zq} {Q:List AVal} {r:Zb} (hQ:Q.length=26) (hN:Zd Q=true) (hi:Is Q q) (h:E 77 [.ref 0 0] (Zg (P0.set 0 (.int .i64 t)) l)=some (if r.length=0 then .tup [] else .pan (Zy 129),Zg Q r)):Zdp t l (ZbM (.ok (q,r))):=by
 unfold ZbM
 simp only
 split at h
 ·rename_i h0
  rw [if_pos h0]
  exact Or.inl ⟨Q,_,hQ,hN,rfl,hi,h⟩
 ·rename_i h0
  rw [if_neg h0]
  exact Or.inl ⟨_,Zw Q hQ hN _ _,h⟩
theorem ZjX {t:Int} {l:Zb} {kk w:Nat} {e:Int} (hk:kk < 26) (h:Zh3 kk w l (P0.set 0 (.int .i64 t)) e):Zdp t l (.error e):=by
 rcases h with ⟨cs,h1,h2⟩ | ⟨Q,n,r,ys,h1,h2,h3⟩
 ·exact Or.inl ⟨cs,h1,h2⟩
 ·exact Or.inr ⟨Q,kk,n,r,w,ys,h1,h2,hk,h3⟩
section
variable (l:Zb) (hl:l.length≤1099511627775)
include hl
theorem hlP:l.length≤140737488355328:=by omega
theorem ZDO:Zdp 1 l (ZbM (ZeV { ZF with type:=1 } l)):=by
 have hs:=ZEn (P:=P0.set 0 (.int .i64 1)) (q:={ ZF with type:=1 }) rfl ⟨fun σ=>rfl,rfl⟩ l
 have hr:=Zw5 (P0.set 0 (.int .i64 1)) rfl (by rfl) l (hlP l hl) (fun r _=>Zdc 1 r) (fun r _=>Zdc 16 r)
 cases hc:ZiZ (P0.set 0 (.int .i64 1)) l with
 | error e =>
  rw [hc] at hs hr
  rw [show ZeV { ZF with type:=1 } l=.error e from hs]
  obtain ⟨cs,hn,he⟩:=KRuns.fnF (f:=114) (fn:=Znu) (by rfl) ZsK hr
  exact Or.inl ⟨cs,hn,ZB9 (P0.set 0 (.int .i64 1)) rfl (by rfl) rfl l (hlP l hl) hn he⟩
 | ok s =>
  obtain ⟨Q,r⟩:=s
  rw [hc] at hs hr
  obtain ⟨q,e1,hQ,hi⟩:=hs
  rw [e1]
  have hQN:Zd Q=true:=by obtain ⟨_,_,_,h3,_⟩:=hr;exact h3
  have he:=KRuns.fnT (f:=114) (fn:=Znu) (by rfl) ZsK rfl hr
  refine Zja hQ hQN hi ?_
  by_cases h0:r.length=0
  ·rw [if_pos h0];exact ZCt (P0.set 0 (.int .i64 1)) rfl (by rfl) rfl l (hlP l hl) he hQ hQN h0
  ·rw [if_neg h0];exact ZJq (P0.set 0 (.int .i64 1)) rfl (by rfl) rfl l (hlP l hl) he hQ hQN h0
theorem ZEm:Zdp 2 l (ZbM (Ze4 { ZF with type:=2 } l)):=by
 have hP:(P0.set 0 (.int .i64 2)).length=26:=rfl
 have hN:Zd (P0.set 0 (.int .i64 2))=true:=by rfl
 unfold Ze4
 cases h1:Zaz 1 l with
 | error e=>exact Or.inl (Zwr _ hP hN rfl l (hlP l hl) h1)
 | ok a =>
 obtain ⟨f,r⟩:=a
 simp only
 split
 case isFalse hf=>exact Or.inl (ZMo _ hP hN rfl l (hlP l hl) h1 hf)
 rename_i hf
 cases h2:Zas 2 r with
 | error e=>exact Or.inl (ZKt _ hP hN rfl l (hlP l hl) h1 hf h2)
 | ok a =>
 obtain ⟨c,r2⟩:=a
 simp only
 cases h3:Zbs 2 r2 with
 | error e=>exact Or.inl (ZDC _ hP hN rfl l (hlP l hl) h1 hf h2 h3)
 | ok a =>
 obtain ⟨ps,r3⟩:=a
 exact Zja (by simp [hP]) (ZP (Zb9 _ _) _ (ZP rfl _ (ZP rfl _ hN))) ⟨fun σ=>rfl,rfl⟩ (Zwn _ hP hN rfl l (hlP l hl) h1 hf h2 h3 (Zdc 2 r2))
theorem Zsm {P:List AVal} {q:Zq} (hP:P.length=26) (h:Is P q) (c:Int) (ps:Option (List Zu)):Is (ZdK P c ps) { q with code:=c,props:=ps.getD [] }:=by
 unfold ZdK
 have h1:=h.set (k:=7) (q':={ q with code:=c }) (v:=.int .i64 c) (by omega) (fun _=>rfl) rfl rfl
 cases ps with
 | none=>exact h1.set (k:=9) (v:=.lst true []) (by simp [hP]) (fun _=>rfl) rfl rfl
 | some ps=>exact h1.set (k:=9) (v:=.lst false (ps.map Zo)) (by simp [hP]) (fun _=>rfl) rfl rfl
theorem Zth (k:Int) (hk:k=14∨k=15):Zdp k l (ZbM (Zdt { ZF with type:=k } l)):=by
 have hP:(P0.set 0 (.int .i64 k)).length=26:=rfl
 have hN:Zd (P0.set 0 (.int .i64 k))=true:=by rfl
 unfold Zdt
 simp only
 cases h1:Zcf k l with
 | error e=>exact Or.inl (ZzK _ hP hN k hk rfl (fun r _=>Zdc k r) l (hlP l hl) h1)
 | ok a =>
 obtain ⟨⟨c,ps⟩,r⟩:=a
 obtain ⟨i1,i2⟩:=Zjy hP hN c ps
 exact Zja i1 i2 (Zsm l hl (q:={ ZF with type:=k }) hP ⟨fun σ=>rfl,rfl⟩ c ps) (ZL6 _ hP hN k hk rfl rfl rfl (fun r _=>Zdc k r) l (hlP l hl) h1)
theorem Zkf (k:Int) (hk:k=4∨k=5∨k=6∨k=7):Zdp k l (ZbM (idQ { ZF with type:=k } l)):=by
 have hP:(P0.set 0 (.int .i64 k)).length=26:=rfl
 have hN:Zd (P0.set 0 (.int .i64 k))=true:=by rfl
 unfold idQ Zdt
 simp only
 cases h0:idK l with
 | error e=>exact Or.inl (ZyT _ hP hN k hk rfl l (hlP l hl) h0)
 | ok a =>
 obtain ⟨n,r1⟩:=a
 simp only
 cases h1:Zcf k r1 with
 | error e=>exact Or.inl (ZEQ _ hP hN k hk rfl (fun r _=>Zdc k r) l (hlP l hl) h0 h1)
 | ok a =>
 obtain ⟨⟨c,ps⟩,r⟩:=a
 obtain ⟨i1,i2⟩:=Zjy (P:=(P0.set 0 (.int .i64 k)).set 4 (.int .i64 n)) rfl (by rfl) c ps
 exact Zja i1 i2 (Zsm l hl (q:={ ZF with type:=k,id:=n }) rfl ⟨fun σ=>rfl,rfl⟩ c ps) (Zue _ hP hN k hk rfl rfl rfl (fun r _=>Zdc k r) l (hlP l hl) h0 h1)
theorem ZrC (k:Int) (hk:k=12∨k=13):Zdp k l (ZbM (.ok ({ ZF with type:=k },l))) :=
 Zja (Q:=P0.set 0 (.int .i64 k)) rfl (by rfl) ⟨fun σ=>rfl,rfl⟩ (Zvf _ rfl (by rfl) k hk rfl l)
theorem ZdE (k:Int):QOk k (P0.set 0 (.int .i64 k)):=⟨rfl,by rfl,rfl,rfl,rfl,rfl⟩
theorem Zkq (k:Int) (n:Int) (ps:List Zu):Is (Zb2 (P0.set 0 (.int .i64 k)) n ps) { ZF with type:=k,id:=n,props:=ps }:=⟨fun σ=>rfl,rfl⟩
theorem ZIY:Zdp 8 l (Zjd { ZF with type:=8 } l):=by
 unfold Zjd
 cases h:Zbq Zbn 8 l with
 | error e=>exact ZjX (by omega) (ZzH _ l hl (ZdE l hl 8) h)
 | ok a =>
 obtain ⟨n,ps,ts⟩:=a
 have hQ:=Zdx (ZdE l hl 8) n ps
 have:=ZCv _ l hl (ZdE l hl 8) h
 rw [←List.length_map (f:=ZY)] at this
 exact Or.inr ⟨_,_,10,6,ts.map ZY,hQ.len,hQ.nor,by omega,Zkq l hl 8 n ps,rfl,this⟩
theorem ZCl:Zdp 10 l (Zjg { ZF with type:=10 } l):=by
 unfold Zjg
 cases h:Zbq Zan 10 l with
 | error e=>exact ZjX (by omega) (ZGj _ l hl (ZdE l hl 10) h)
 | ok a =>
 obtain ⟨n,ps,ts⟩:=a
 have hQ:=Zdx (ZdE l hl 10) n ps
 have:=ZMC _ l hl (ZdE l hl 10) h
 rw [←List.length_map (f:=AVal.str)] at this
 exact Or.inr ⟨_,_,11,1,ts.map AVal.str,hQ.len,hQ.nor,by omega,Zkq l hl 10 n ps,rfl,this⟩
theorem Zvi:Zdp 9 l (Ze1 { ZF with type:=9 } l):=by
 unfold Ze1
 simp only
 cases h:Zbq (Zas 9) 9 l with
 | error e=>exact ZjX (by omega) (Zv4 _ l hl (ZdE l hl 9) h)
 | ok a =>
 obtain ⟨n,ps,ts⟩:=a
 have hQ:=Zdx (ZdE l hl 9) n ps
 have:=ZKk _ l hl (ZdE l hl 9) h
 rw [←List.length_map (f:=AVal.int .i64)] at this
 exact Or.inr ⟨_,_,8,1,ts.map (AVal.int .i64),hQ.len,hQ.nor,by omega,Zkq l hl 9 n ps,rfl,this⟩
theorem ZFl:Zdp 11 l (Ze1 { ZF with type:=11 } l):=by
 unfold Ze1
 simp only
 cases h:Zbq (Zas 11) 11 l with
 | error e=>exact ZjX (by omega) (ZCX _ l hl (ZdE l hl 11) h)
 | ok a =>
 obtain ⟨n,ps,ts⟩:=a
 have hQ:=Zdx (ZdE l hl 11) n ps
 have:=ZI6 _ l hl (ZdE l hl 11) h
 rw [←List.length_map (f:=AVal.int .i64)] at this
 exact Or.inr ⟨_,_,8,1,ts.map (AVal.int .i64),hQ.len,hQ.nor,by omega,Zkq l hl 11 n ps,rfl,this⟩
theorem ZE0 (t:Int) (h1:1≤t∧t≤15) (h3:t≠3):Zdp t l (Zcb t l):=by
 have : t=1∨t=2∨t=4∨t=5∨t=6∨t=7∨t=8∨t=9∨t=10∨t=11∨t=12∨t=13∨t=14∨t=15:=by omega
 unfold Zcb
 rcases this with rfl | rfl | rfl | rfl | rfl | rfl | rfl | rfl | rfl | rfl | rfl | rfl | rfl | rfl
 ·exact ZDO l hl
 ·exact ZEm l hl
 ·exact Zkf l hl 4 (by decide)
 ·exact Zkf l hl 5 (by decide)
 ·exact Zkf l hl 6 (by decide)
 ·exact Zkf l hl 7 (by decide)
 ·exact ZIY l hl
 ·exact Zvi l hl
 ·exact ZCl l hl
 ·exact ZFl l hl
 ·exact ZrC l hl 12 (by decide)
 ·exact ZrC l hl 13 (by decide)
 ·exact Zth l hl 14 (by decide)
 ·exact Zth l hl 15 (by decide)
end
theorem ZJl (b:Int) (hb:0≤b∧b < 256):0≤tyI b∧tyI b≤15:=by
 have h:∀ n:Nat,n < 256→0≤tyI (n:Int)∧tyI (n:Int)≤15:=by decide +kernel
 have:=h b.toNat (by omega)
 rwa [Int.toNat_of_nonneg hb.1] at this
theorem ZoB {b c:Int} {l:Zb} {Q:List AVal} {q:Zq} (h:E1 32 [.agg [.int .u8 b,.lst false (l.map Zc)]] []=some (.tup [.agg Q,.int .i64 c],[])) (hv:∀ σ,ZaM σ Q=some (Zt q,[])):Zae true 0 (E1 32 [.agg [.int .u8 b,.lst false (l.map Zc)]] [])=some (.tup [Z7 q,.int .i64 c],[]):=by
 rw [h];exact ZtW c hv
theorem ZC2 (b:Int) (hb:0≤b∧b < 256) (l:Zb) (hl:l.length≤1099511627775):Zae true 0 (E1 32 [.agg [.int .u8 b,.lst false (l.map Zc)]] [])=some (.tup [Z7 (ZcY b l).1,.int .i64 (ZcY b l).2],[]):=by
 have hr:=ZJl b hb
 have hF:∀ c,Zeu [.agg [.int .u8 b,.lst false (l.map Zc)]] []=some (.tup [.agg P0,.int .i64 c],[])→Zae true 0 (E1 32 [.agg [.int .u8 b,.lst false (l.map Zc)]] [])=some (.tup [Z7 ZF,.int .i64 c],[]):=fun c h =>
  ZoB (by rw [Zf1];exact h) ZjH
 unfold ZcY
 by_cases h0:tyI b=0
 ·rw [if_pos h0]
  exact hF 129 (Zgq b 129 l (Zli b l (Zw _ rfl (by rfl) _ _) (ZvX P0 rfl (by rfl) b l h0)))
 rw [if_neg h0]
 by_cases h3:tyI b=3
 ·rw [if_pos h3]
  obtain ⟨Q,h,hv⟩:=ZuQ b h3 l (by omega)
  exact ZoB h hv
 rw [if_neg h3]
 by_cases hf:Zbf b 15=Zda (tyI b)
 case neg =>
  rw [if_neg hf]
  exact hF 129 (Zgq b 129 l (Zli b l (Zw _ rfl (by rfl) _ _) (ZA3 P0 rfl (by rfl) b (tyI b) l rfl h0 h3 hf)))
 rw [if_pos hf]
 have hfi:=ZsS P0 rfl (by rfl) b (tyI b) l rfl h0 h3 hf
 have hB:=ZE0 l hl (tyI b) (by omega) h3
 generalize tyI b=t at *
 have p1:(P0.set 0 (.int .i64 t)).length=26:=rfl
 have p2:Zd (P0.set 0 (.int .i64 t))=true:=by rfl
 cases hx:Zcb t l with
 | error e =>
  rw [hx] at hB
  rcases hB with ⟨cs,hn,hb⟩ | ⟨Q,kk,n,r,w,ys,hQ,hN,hk,hb⟩
  ·exact hF e (Zgq b e l (Zs8 b l p1 p2 hn hfi hb))
  ·exact hF e (Zgq b e l (ZFD b l p1 p2 hQ hN hk hfi hb))
 | ok q =>
  rw [hx] at hB
  rcases hB with ⟨Q,L,hQ,hN,nL,hi,hb⟩ | ⟨Q,q0,kk,w,ys,hQ,hN,hk,hi,hc,hb⟩
  ·exact ZoB (by rw [Zf1];exact Zn4 b l p1 p2 hQ hN hi.ok nL hfi hb) hi.view
  ·refine ZHv (by rw [Zf1];exact ZCh b l p1 p2 hQ hN hk (fun r g m=>ZlX rfl hi.ok) hfi hb) (fun σ hs=>?_)
   have hv:ZL σ (.sl 0 0 0 ys.length)=some (.lst false ys,[0]):=by
    simp [ZL,Z6,hs]
   unfold Zi
   rw [ZpT hv (hi.view σ) (by omega),hc]
theorem Zmm (b:Int) (hb:0≤b∧b < 256) (l:Zb) (hl:l.length≤1099511627775) (f:Bool) (σ:Za) (site own:Nat) :
  Zj E1 BY σ site 32 own true [.agg [.int .u8 b,.lst f (l.map Zc)]]=some (.tup [Z7 (ZcY b l).1,.int .i64 (ZcY b l).2],σ,{}):=by
 rw [ZgL (by kernel_rfl) rfl]
 show ZaG σ σ [] [] site own (Zae true 0 (E1 32 [.agg [.int .u8 b,.lst false (l.map Zc)]] []))=_
 rw [ZC2 b hb l hl,ZiM _ _ _ _ (by simp only [Zk,Ze,ZbB,ZjQ])]
end Go.Proofs.YtmlkhhidifjjfaaDoor
