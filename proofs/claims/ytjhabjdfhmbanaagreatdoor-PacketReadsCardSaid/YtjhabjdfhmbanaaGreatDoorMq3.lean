/- packed -/
import Derived.Test.YtjhabjdfhmbanaaGreatDoorMq2
import Derived.Test.YtjhabjdfhmbanaaGreatDoorMq1
import Derived.Defers
import Derived.Recover
import Derived.Tactics
import Derived.WalkKit
import Derived.WalkSpells
import Derived.WalkLawsBesides
import Derived.Lib.Hide
import Derived.Deep.AppendLies
import Derived.Deep.Draws
import Derived.Maps.AppendAt
import Derived.Laws.OwnMore
import Derived.Test.YtjhabjdfhmbanaaGreatDoorProg
import Derived.Shelf.Unicode.ValidAny
set_option linter.unusedSectionVars false
set_option linter.unusedSimpArgs false
set_option linter.unusedVariables false
open Nat renaming reduceEqDiff→Xa,reduceLT→Xc,reduceAdd→Xd,reduceLeDiff→Xf,reduceBEq→Xg,zero_add→XF,le_refl→XH,le_trans→Ww,reduceSub→WJ,one_mul→WL,lt_of_lt_of_le→W4,mul_le_mul_left→Xae,add_eq_zero_iff→Xah,succ_ne_self→Xaw,mul_one→XaU,lt_or_gt_of_ne→XaV
open Option.some renaming injEq→Xb
open Prod.mk renaming injEq→Xe
open List renaming getD_eq_getElem?_getD→Xh,getElem?_set_ne→Xl,getD_cons_zero→Xm,getElem?_eq_some_iff→Xn,nil_append→Xp,append_nil→Xr,getD_cons_succ→Xs,map_cons→Xu,eq_nil_of_length_eq_zero→Xx,getElem?_eq_getElem→XA,flatMap_cons→XB,map_nil→XC,take_of_length_le→XG,replicate→XI,cons_append→XJ,getElem?_cons_zero→XK,mem_of_getElem?→XL,getElem?_cons_succ→XN,lookup_nil→XP,flatMap_nil→XQ,length_map→XS,getElem?_set_self→XV,mem_cons→X0,range→X5,lookup_cons→Wa,contains_nil→Wh,set_comm→Wj,set_cons_succ→Wp,any_cons→Wu,set_set→WD,set_cons_zero→WG,drop→WO,append_assoc→WW,range_zero→W3,mem_iff_getElem?→W5,contains_cons→W6,take_length→Xai,take_left→Xak,any_nil→XaL,getElem_map→Xa6
open Bool renaming false_eq_true→Xi,and_eq_true→Xk,not_eq_true→Wm,or_false→Xaq
open Int renaming reduceBEq→Xj,reduceLT→Wc
open Or renaming inl→Xq,inr→Xt
open BitVec renaming ofInt→XR
open Array renaming getElem?_eq_some_iff→XZ,getD→WX,replicate→WY,getElem?_toList→XaK
open UInt8 renaming ofNat→Wo,toNat_ofNat'→Xao
namespace Go.Proofs.YtjhabjdfhmbanaaGreatDoor
set_option maxHeartbeats 16000000
set_option maxRecDepth 10000
section
abbrev RK(D:Type):=Except Int (D×Zd)
def Zaw(n:Nat)(l:Zd):RK Int:=if l.length<n then .error 129 else .ok (Ze0 (l.take n),l.drop n)
def Zaf(l:Zd):RK Zd:=if(ZU l).2.2=0 then .ok ((ZU l).1,l.drop (ZU l).2.1)else .error 129
def ZbJ(l:Zd):RK Zd:=if(ZL l).2.2=0 then .ok ((ZL l).1,l.drop (ZL l).2.1)else .error 129
def Zbj(w:Int)(l:Zd):RK (List ZO):=if(Zab w l).2.2=0 then .ok ((Zab w l).1,l.drop (Zab w l).2.1)else .error (Zab w l).2.2
def idK(l:Zd):RK Int:=match Zaw 2 l with
 | .ok (n,r)=>if n=0 then .error 130 else .ok (n,r)
 | .error c=>.error c
def ZaI(k:Int)(l:Zd):RK Int:=match Zaw 1 l with
 | .ok (n,r)=>if ZfS k n=true then .ok (n,r)else .error 130
 | .error c=>.error c
theorem Z7{v:AVal}(hv:ZQ v=true):∀ {P:List AVal} (k:Nat),Ze P=true->Ze (P.set k v)=true
 | [],_,_=>rfl
 |x::P,0,h=>by
  simp only[Ze,Xk,WG]at h⊢
  grind
 |x::P,k+1,h=>by
  simp only[Ze,Xk,Wp]at h⊢
  exact⟨h.1,Z7 hv k h.2⟩
theorem ZdE(f:Bool)(xs:List AVal):ZQ (.lst f xs)=true:=rfl
section
variable (P:List AVal)(hP:P.length=26)(hN:Ze P=true)
include hP
theorem ZaD(k k':Nat)(hk:k<26)(hk':k'=k+1)(L v:AVal):List.take k (P++[L])++[v]++WO k' (P++[L])=P.set k v++[L]:=by
 subst hk'
 rw[List.take_append_of_le_length (by omega),List.drop_append_of_le_length (by omega),<-WW]
 congr 1
 rw[List.set_eq_take_append_cons_drop,if_pos (by omega)]
 simp
theorem Zap(k:Nat)(hk:k<26)(L:AVal):(P++[L])[k]?=P[k]?:=List.getElem?_append_left (by omega)
theorem Zjw(k:Nat)(hk:k<26)(L v:AVal):(P.set k v++[L])[k]?=some v:=by
 grind
include hN
section
variable (l:Zd)(hl:l.length<=140737488355328)(G:Za)(t sq:Nat)(hs:G[t]?=some (.var (P++[.lnt l])))
include hl hs
theorem ZdM{n:Nat}{m:Int}{a:Int}{r:Zd}(hm:((n:Nat):Int)=m)(h:Zaw n l=.ok (a,r)):Zq E BY G sq 54 0 true [.ref t 0,.int .i64 m]=some (.int .i64 a,G.set t (.var (P++[.lnt r])),{ any:=true,upd:=[(t,P++[.lnt r])] }):=by
 subst hm
 unfold Zaw at h
 split at h
 ·cases h
 ·injection h with h;injection h with h1 h2;subst h1 h2
  exact Zce (rest:=[.int .i64 (n:Nat)]) (by kernel_rfl) rfl (ZK P hP hN _) (ZK P hP hN _) rfl rfl (ZO7 P hP hN l n (by omega) hl) hs sq
theorem Zhy{n:Nat}{m:Int}{c:Int}(hm:((n:Nat):Int)=m)(hn:n<=9223372036854775807)(h:Zaw n l=.error c):Zq E BY G sq 54 0 true [.ref t 0,.int .i64 m]=some (.pan (ZG c),G.set t (.var (P++[.lnt l])),{ any:=true,upd:=[(t,P++[.lnt l])] }):=by
 subst hm
 unfold Zaw at h
 split at h
 ·injection h with h;subst h
  exact Zes (rest:=[.int .i64 (n:Nat)]) (by kernel_rfl) rfl (ZK P hP hN _) (ZK P hP hN _) rfl (ZBD P hP hN l n (by omega) hn) hs sq
 ·cases h
theorem Zfl{a r:Zd}(h:Zaf l=.ok (a,r)):Zq E BY G sq 63 0 true [.ref t 0]=some (.str a,G.set t (.var (P++[.lnt r])),{ any:=true,upd:=[(t,P++[.lnt r])] }):=by
 unfold Zaf at h
 split at h
 ·rename_i h0
  injection h with h;injection h with h1 h2;subst h1 h2
  exact Zce (rest:=[]) (by kernel_rfl) rfl (ZK P hP hN _) (ZK P hP hN _) rfl rfl (ZD0 P hP hN l hl h0) hs sq
 ·cases h
theorem ZhY{c:Int}(h:Zaf l=.error c):Zq E BY G sq 63 0 true [.ref t 0]=some (.pan (ZG c),G.set t (.var (P++[.lnt l])),{ any:=true,upd:=[(t,P++[.lnt l])] }):=by
 unfold Zaf at h
 split at h
 ·cases h
 ·rename_i h0
  injection h with h;subst h
  exact Zes (rest:=[]) (by kernel_rfl) rfl (ZK P hP hN _) (ZK P hP hN _) rfl (ZM1 P hP hN l hl h0) hs sq
theorem Zv3{a r:Zd}(hff:Zaj G sq 1=true)(h:ZbJ l=.ok (a,r)):Zq E BY G sq 94 1 false [.ref t 0]=some (.sl sq 0 0 a.length,(G.set t (.var (P++[.lnt r]))).set sq (.row 0 1 (a.map Zh)),{ any:=true,upd:=[(t,P++[.lnt r])] }):=by
 unfold ZbJ at h
 split at h
 ·rename_i h0
  injection h with h;injection h with h1 h2;subst h1 h2
  exact ZF3 (by kernel_rfl) (ZK P hP hN _) (ZK P hP hN _) (ZUZ P hP hN l hl h0) hs hff
 ·cases h
theorem Zxf{c:Int}(hff:Zaj G sq 1=true)(h:ZbJ l=.error c):Zq E BY G sq 94 1 false [.ref t 0]=some (.pan (ZG c),G.set t (.var (P++[.lnt l])),{ any:=true,upd:=[(t,P++[.lnt l])] }):=by
 unfold ZbJ at h
 split at h
 ·cases h
 ·rename_i h0
  injection h with h;subst h
  exact ZoF (rest:=[]) (by kernel_rfl) rfl (ZK P hP hN _) (ZK P hP hN _) rfl (ZMU P hP hN l hl h0) hs sq hff
theorem Zfo{w:Int}{a:List ZO}{r:Zd}(hu:(Zab w l).2.1<=l.length)(h:Zbj w l=.ok (a,r)):Zq E BY G sq 56 0 true [.ref t 0,.int .i64 w]=some (.lst false (a.map Zu),G.set t (.var (P++[.lnt r])),{ any:=true,upd:=[(t,P++[.lnt r])] }):=by
 unfold Zbj at h
 split at h
 ·rename_i h0
  injection h with h;injection h with h1 h2;subst h1 h2
  exact Zce (rest:=[.int .i64 w]) (by kernel_rfl) rfl (ZK P hP hN _) (ZK P hP hN _) rfl rfl (ZPJ P hP hN w l hl h0 hu) hs sq
 ·cases h
theorem Zhj{w c:Int}(h:Zbj w l=.error c):Zq E BY G sq 56 0 true [.ref t 0,.int .i64 w]=some (.pan (ZG c),G.set t (.var (P++[.lnt l])),{ any:=true,upd:=[(t,P++[.lnt l])] }):=by
 unfold Zbj at h
 split at h
 ·cases h
 ·rename_i h0
  injection h with h;subst h
  exact Zes (rest:=[.int .i64 w]) (by kernel_rfl) rfl (ZK P hP hN _) (ZK P hP hN _) rfl (ZHJ P hP hN w l hl h0) hs sq
end
theorem ZOf(l:Zd)(hl:l.length<=140737488355328){n:Int}{r:Zd}(h:idK l=.ok (n,r)):E 58 [.ref 0 0] [.var (P++[.lnt l])]=some (.tup [],[.var (P.set 4 (.int .i64 n)++[.lnt r])]):=by
 unfold idK at h
 split at h
 case h_2=>cases h
 rename_i n' r' h2
 split at h
 ·cases h
 rename_i hn
 injection h with h;injection h with h3 h4;subst h3 h4
 have hG:=fun G sq hs=>ZdM P hP hN l hl G 0 sq hs (m:=2) rfl h2
 have a1:=Zag P hP
 have a3:=ZaD P hP 4 5 (by omega) rfl
 have a4:=Zjw P hP 4 (by omega)
 have m1:=Zbt
 have h0:(n' != 0)=true:=by simpa using hn
 rw[Zg (by rfl) ZtD]
 simp -implicitDefEqProofs only[EQA,Zs,ZE,Zc,Xd,Xc,Xf,Xa,reduceCtorEq,↓reduceIte,Ze,Zpt,Zla,ZMo,Zb,hG,a1,a3,a4,m1,h0]
 exact Zah rfl (ZaT (Z7 rfl 4 hN) (by rfl))
theorem Znm(l:Zd)(hl:l.length<=140737488355328){c:Int}(h:idK l=.error c):∃ cs,Ze cs=true/\E 58 [.ref 0 0] [.var (P++[.lnt l])]=some (.pan (ZG c),[.var cs]):=by
 unfold idK at h
 split at h
 ·rename_i n' r' h2
  split at h
  case isFalse=>cases h
  rename_i hn
  injection h with h;subst h hn
  have hG:=fun G sq hs=>ZdM P hP hN l hl G 0 sq hs (m:=2) rfl h2
  have a1:=Zag P hP
  have a3:=ZaD P hP 4 5 (by omega) rfl
  have a4:=Zjw P hP 4 (by omega)
  have m1:=ZbS
  refine⟨P.set 4 (.int .i64 0)++[.lnt r'],ZaT (Z7 rfl 4 hN) (by rfl),?_⟩
  rw[Zg (by rfl) ZtD]
  simp -implicitDefEqProofs only[EQA,Zs,ZE,Zc,Xd,Xc,Xf,Xa,reduceCtorEq,↓reduceIte,Zpt,Zla,Zb,hG,a1,a3,a4,m1,bne_self_eq_false]
  exact Zah rfl (ZaT (Z7 rfl 4 hN) (by rfl))
 ·rename_i c' h2
  injection h with h;subst h
  have hG:=fun G sq hs=>Zhy P hP hN l hl G 0 sq hs (m:=2) rfl (by decide) h2
  refine⟨P++[.lnt l],ZaT hN (by rfl),?_⟩
  rw[Zg (by rfl) ZtD]
  simp -implicitDefEqProofs only[EQA,Zc,Xc,reduceCtorEq,↓reduceIte,Zpt,Zla,Zb,hG]
  exact Zah rfl (ZaT hN (by rfl))
theorem ZMP(k:Int)(hk:P[0]?=some (.int .i64 k))(l:Zd)(hl:l.length<=140737488355328){n:Int}{r:Zd}(h:ZaI k l=.ok (n,r)):E 55 [.ref 0 0] [.var (P++[.lnt l])]=some (.int .i64 n,[.var (P++[.lnt r])]):=by
 unfold ZaI at h
 split at h
 case h_2=>cases h
 rename_i n' r' h2
 split at h
 case isFalse=>cases h
 rename_i hn
 injection h with h;injection h with h3 h4;subst h3 h4
 have hG:=fun G sq hs=>ZdM P hP hN l hl G 0 sq hs (m:=1) rfl h2
 have a4:=fun L=>(Zap P hP 0 (by omega) L).trans hk
 have m1:=Zbt
 have hC:=fun G sq own=>Zlo k n' G sq own
 rw[hn]at hC
 rw[Zg (by rfl) ZhD]
 simp -implicitDefEqProofs only[EQA,Zc,Xc,Xa,reduceCtorEq,↓reduceIte,Zhq,ZfQ,ZyN,Zb,hG,hC,a4,m1]
 exact Zah rfl (ZaT hN (by rfl))
theorem ZwH(k:Int)(hk:P[0]?=some (.int .i64 k))(l:Zd)(hl:l.length<=140737488355328){c:Int}(h:ZaI k l=.error c):∃ cs,Ze cs=true/\E 55 [.ref 0 0] [.var (P++[.lnt l])]=some (.pan (ZG c),[.var cs]):=by
 unfold ZaI at h
 split at h
 ·rename_i n' r' h2
  split at h
  case isTrue=>cases h
  rename_i hn
  injection h with h;subst h
  have hG:=fun G sq hs=>ZdM P hP hN l hl G 0 sq hs (m:=1) rfl h2
  have a4:=fun L=>(Zap P hP 0 (by omega) L).trans hk
  have m1:=ZbS
  have hC:=fun G sq own=>Zlo k n' G sq own
  rw[Wm _ |>.mp hn]at hC
  refine⟨P++[.lnt r'],ZaT hN (by rfl),?_⟩
  rw[Zg (by rfl) ZhD]
  simp -implicitDefEqProofs only[EQA,Zc,Xc,Xa,reduceCtorEq,↓reduceIte,Zhq,ZfQ,Zb,hG,hC,a4,m1]
  exact Zah rfl (ZaT hN (by rfl))
 ·rename_i c' h2
  injection h with h;subst h
  have hG:=fun G sq hs=>Zhy P hP hN l hl G 0 sq hs (m:=1) rfl (by decide) h2
  refine⟨P++[.lnt l],ZaT hN (by rfl),?_⟩
  rw[Zg (by rfl) ZhD]
  simp -implicitDefEqProofs only[EQA,Zc,Xc,reduceCtorEq,↓reduceIte,Zhq,ZfQ,Zb,hG]
  exact Zah rfl (ZaT hN (by rfl))
section
variable (l:Zd)(hl:l.length<=140737488355328)(G:Za)(t sq:Nat)(hs:G[t]?=some (.var (P++[.lnt l])))
include hl hs
theorem Zhl{n:Int}{r:Zd}(h:idK l=.ok (n,r)):Zq E BY G sq 58 0 true [.ref t 0]=some (.tup [],G.set t (.var (P.set 4 (.int .i64 n)++[.lnt r])),{ any:=true,upd:=[(t,P.set 4 (.int .i64 n)++[.lnt r])] }) :=
 Zce (rest:=[]) (by kernel_rfl) rfl (ZK P hP hN _) (ZaT (Z7 rfl 4 hN) (by rfl)) rfl rfl (ZOf P hP hN l hl h) hs sq
theorem ZkK(k:Int)(hk:P[0]?=some (.int .i64 k)){n:Int}{r:Zd}(h:ZaI k l=.ok (n,r)):Zq E BY G sq 55 0 true [.ref t 0]=some (.int .i64 n,G.set t (.var (P++[.lnt r])),{ any:=true,upd:=[(t,P++[.lnt r])] }) :=
 Zce (rest:=[]) (by kernel_rfl) rfl (ZK P hP hN _) (ZK P hP hN _) rfl rfl (ZMP P hP hN k hk l hl h) hs sq
end
end
end
section
section
variable (P:List AVal)(hP:P.length=26)(hF:Zl P=[1])(hS:∀ C:Rho,C 1 0=some (1,0)->Zj C P=P)(w:Nat)(xs:List AVal)
include hP hF hS
theorem ZiB{r:AVal}(hr:ZQ r=true)(ys:Zd):ZR 2 [.var (P++[.lnt ys]),.row 0 w xs] r=some (r,[.var (P++[.lnt ys]),.row 0 w xs]) :=
 Zoq hr (by rw[Zcc,hF];rfl) (by omega) (fun C h=>by rw[Zbz,hS C h];rfl)
theorem ZEq(l:Zd)(n:Nat)(hn:n<=l.length)(hl:l.length<=140737488355328):E 54 [.ref 0 0,.int .i64 (n:Nat)] [.var (P++[.lnt l]),.row 0 w xs]=some (.int .i64 (Ze0 (l.take n)),[.var (P++[.lnt (l.drop n)]),.row 0 w xs]):=by
 have h1:(l.length:Int)>=((n:Nat):Int):=by omega
 have s1:=fun G kk=>Zpa G l kk (n:Int) (by omega) (by omega)
 have s2:=fun G kk=>ZfC G l kk (n:Int) (by omega) (by omega)
 have e2:((n:Int)).toNat=n:=rfl
 rw[e2]at s1 s2
 have ht:(l.take n).length<=9223372036854775807:=by simp;omega
 have hG:=fun G sq own=>Zo2 G sq own (l.take n) ht
 have a1:=Zag P hP
 have a2:=ZaB P hP
 have a3:=ZeL P hP
 have a4:=ZgO P hP
 have m1:=Zbt
 rw[Zg (by rfl) ZnQ]
 simp -implicitDefEqProofs only[EQA,Zc,Xd,Xc,Xf,Xa,reduceCtorEq,↓reduceIte,ZnB,Zi5,Zwj,Zb,h1,s1,s2,hG,a1,a2,a3,a4,m1,Ze0]
 exact ZiB P hP hF hS w xs rfl _
theorem ZSH(l:Zd)(n:Nat)(hn:l.length<n)(hn':n<=9223372036854775807):E 54 [.ref 0 0,.int .i64 (n:Nat)] [.var (P++[.lnt l]),.row 0 w xs]=some (.pan (ZG 129),[.var (P++[.lnt l]),.row 0 w xs]):=by
 have h1:¬(l.length:Int)>=((n:Nat):Int):=by omega
 have a2:=ZaB P hP
 have m1:=ZbS
 rw[Zg (by rfl) ZnQ]
 simp -implicitDefEqProofs only[EQA,Zc,Xd,Xc,Xa,reduceCtorEq,↓reduceIte,ZnB,Zi5,Zb,h1,a2,m1]
 exact ZiB P hP hF hS w xs rfl _
theorem ZOo(l:Zd)(hl:l.length<=140737488355328)(h:(ZU l).2.2=0):E 63 [.ref 0 0] [.var (P++[.lnt l]),.row 0 w xs]=some (.str (ZU l).1,[.var (P++[.lnt (l.drop (ZU l).2.1)]),.row 0 w xs]):=by
 have hG:=fun G sq own=>ZjA G sq own l hl
 have hu:=(Zgp l).1
 unfold gtT at hG
 have s2:=fun G kk=>ZfC G l kk ((ZU l).2.1:Int) (by omega) (by omega)
 have e2:(((ZU l).2.1:Nat):Int).toNat=(ZU l).2.1:=rfl
 rw[e2]at s2
 rw[h]at hG
 have a1:=Zag P hP
 have a2:=ZaB P hP
 have a3:=ZeL P hP
 have a4:=ZgO P hP
 have m1:=Zbt
 rw[Zg (by rfl) Zmv]
 simp -implicitDefEqProofs only[EQA,Zc,Xd,Xc,Xf,Xa,reduceCtorEq,↓reduceIte,ZlD,Zjp,Zwb,Zb,s2,hG,a1,a2,a3,a4,m1]
 exact ZiB P hP hF hS w xs rfl _
theorem ZEK(l:Zd)(hl:l.length<=140737488355328)(h:(ZU l).2.2≠0):E 63 [.ref 0 0] [.var (P++[.lnt l]),.row 0 w xs]=some (.pan (ZG 129),[.var (P++[.lnt l]),.row 0 w xs]):=by
 have hG:=fun G sq own=>ZjA G sq own l hl
 unfold gtT at hG
 have h0:((ZU l).2.2==0)=false:=by simpa using h
 have h1:=h
 have a2:=ZaB P hP
 have m1:=ZbS
 rw[Zg (by rfl) Zmv]
 simp -implicitDefEqProofs only[EQA,Zc,Xd,Xc,Xa,reduceCtorEq,↓reduceIte,ZlD,Zjp,Zb,hG,a2,h0,m1]
 exact ZiB P hP hF hS w xs rfl _
end
theorem Zph{q:AVal}{cs xs:List AVal}{g w:Nat}(view:Bool)(hn:ZQ q=true)(hv:viewR [.var cs,.row g w xs] q=some (q,[]))(hrf:Zl cs=[1])(hg:g<=1)(hren:∀ C:Rho,C 1 g=some (1,g)->Zj C cs=cs):ZV view 2 (some (q,[.var cs,.row g w xs]))=some (q,[.var cs,.row g w xs]):=by
 unfold ZV
 split
 ·have hnp:∀ x,q≠.pan x:=by rintro x rfl;simp[viewR,Z3,ZN]at hv
  rw[show ZbR 2 (some (q,[.var cs,.row g w xs]))=(match viewR [.var cs,.row g w xs] q with
   |some (r',ts)=>match gcA 2 [r'] (Zv [.var cs,.row g w xs] ts)with
    |([r''],G')=>some (r'',G')
    |_=>none
   |none=>none)from by cases q<;>first |rfl |grind]
  rw[hv]
  simp only[show Zv [ZP.var cs,.row g w xs] []=[.var cs,.row g w xs]from rfl,Zu4 hn hrf hg hren]
 ·rfl
theorem Zmi{x:AVal}{G:Za}(view:Bool):ZV view 2 (some (.pan x,G))=some (.pan x,G):=by
 unfold ZV
 split<;>rfl
section
variable (Q:List AVal)(hQ:Q.length=26)(hN:Ze Q=true)(k:Nat)(hk:k<26)(n:Nat)
include hQ hN hk
variable (w:Nat)(xs:List AVal)(l:Zd)(hl:l.length<=140737488355328)(G:Za)(t r g sq:Nat)(htr:t≠r)(hs:G[t]?=some (.var (Zi Q k r g n++[.lnt l])))(hr:G[r]?=some (.row g w xs))
include hl htr hs hr
theorem ZmP{c:Nat}{m a:Int}{l2:Zd}(hm:((c:Nat):Int)=m)(h:Zaw c l=.ok (a,l2)):Zq E BY G sq 54 0 true [.ref t 0,.int .i64 m]=some (.int .i64 a,(G.set t (.var (Zi Q k r g n++[.lnt l2]))).set r (.row g w xs),{ any:=true,upd:=[(t,Zi Q k r g n++[.lnt l2])] }):=by
 subst hm
 unfold Zaw at h
 split at h
 ·cases h
 ·injection h with h;injection h with h1 h2;subst h1 h2
  have e:=ZEq (Zi Q k 1 0 n) (Zbp Q hQ hN k hk n 1 0) (Za0 Q hQ hN k hk n 1 0) (fun C h=>ZaC Q hQ hN k hk n C h) w xs l c (by omega) hl
  exact Zik (g2:=0) (own:=0) (rest:=[.int .i64 (c:Nat)]) hs hr htr (by rw[Zcc,Za0 Q hQ hN k hk n];rfl) (by kernel_rfl) rfl (fun C h=>by rw[Zbz,ZaC Q hQ hN k hk n C h];rfl) (by omega) rfl rfl e
   (Zph true rfl rfl (by rw[Zcc,Za0 Q hQ hN k hk n];rfl) (by omega) (fun C h=>by rw[Zbz,ZaC Q hQ hN k hk n C h];rfl)) (fun C h=>by rw[Zbz,ZaC Q hQ hN k hk n C (h 0)];rfl)
theorem ZxK{c:Nat}{m e:Int}(hm:((c:Nat):Int)=m)(hc:c<=9223372036854775807)(h:Zaw c l=.error e):Zq E BY G sq 54 0 true [.ref t 0,.int .i64 m]=some (.pan (ZG e),(G.set t (.var (Zi Q k r g n++[.lnt l]))).set r (.row g w xs),{ any:=true,upd:=[(t,Zi Q k r g n++[.lnt l])] }):=by
 subst hm
 unfold Zaw at h
 split at h
 ·injection h with h;subst h
  have e:=ZSH (Zi Q k 1 0 n) (Zbp Q hQ hN k hk n 1 0) (Za0 Q hQ hN k hk n 1 0) (fun C h=>ZaC Q hQ hN k hk n C h) w xs l c (by omega) hc
  exact Zik (g2:=0) (own:=0) (rest:=[.int .i64 (c:Nat)]) hs hr htr (by rw[Zcc,Za0 Q hQ hN k hk n];rfl) (by kernel_rfl) rfl (fun C h=>by rw[Zbz,ZaC Q hQ hN k hk n C h];rfl) (by omega) rfl rfl e
   (Zmi true) (fun C h=>by rw[Zbz,ZaC Q hQ hN k hk n C (h 0)];rfl)
 ·cases h
theorem Zny{a l2:Zd}(h:Zaf l=.ok (a,l2)):Zq E BY G sq 63 0 true [.ref t 0]=some (.str a,(G.set t (.var (Zi Q k r g n++[.lnt l2]))).set r (.row g w xs),{ any:=true,upd:=[(t,Zi Q k r g n++[.lnt l2])] }):=by
 unfold Zaf at h
 split at h
 ·rename_i h0
  injection h with h;injection h with h1 h2;subst h1 h2
  have e:=ZOo (Zi Q k 1 0 n) (Zbp Q hQ hN k hk n 1 0) (Za0 Q hQ hN k hk n 1 0) (fun C h=>ZaC Q hQ hN k hk n C h) w xs l hl h0
  exact Zik (g2:=0) (own:=0) (rest:=[]) hs hr htr (by rw[Zcc,Za0 Q hQ hN k hk n];rfl) (by kernel_rfl) rfl (fun C h=>by rw[Zbz,ZaC Q hQ hN k hk n C h];rfl) (by omega) rfl rfl e
   (Zph true rfl rfl (by rw[Zcc,Za0 Q hQ hN k hk n];rfl) (by omega) (fun C h=>by rw[Zbz,ZaC Q hQ hN k hk n C h];rfl)) (fun C h=>by rw[Zbz,ZaC Q hQ hN k hk n C (h 0)];rfl)
 ·cases h
theorem Zua{c:Int}(h:Zaf l=.error c):Zq E BY G sq 63 0 true [.ref t 0]=some (.pan (ZG c),(G.set t (.var (Zi Q k r g n++[.lnt l]))).set r (.row g w xs),{ any:=true,upd:=[(t,Zi Q k r g n++[.lnt l])] }):=by
 unfold Zaf at h
 split at h
 ·cases h
 ·rename_i h0
  injection h with h;subst h
  have e:=ZEK (Zi Q k 1 0 n) (Zbp Q hQ hN k hk n 1 0) (Za0 Q hQ hN k hk n 1 0) (fun C h=>ZaC Q hQ hN k hk n C h) w xs l hl h0
  exact Zik (g2:=0) (own:=0) (rest:=[]) hs hr htr (by rw[Zcc,Za0 Q hQ hN k hk n];rfl) (by kernel_rfl) rfl (fun C h=>by rw[Zbz,ZaC Q hQ hN k hk n C h];rfl) (by omega) rfl rfl e
   (Zmi true) (fun C h=>by rw[Zbz,ZaC Q hQ hN k hk n C (h 0)];rfl)
end
section
variable (Q:List AVal)(hQ:Q.length=26)(hN:Ze Q=true)(k:Nat)(hk:k<26)(n:Nat)(w:Nat)(xs:List AVal)(l:Zd)(hl:l.length<=140737488355328)(kd:Int)(h0:(Zi Q k 1 0 n)[0]?=some (.int .i64 kd))
include hQ hN hk hl h0
theorem ZGY{c:Int}{r:Zd}(h:ZaI kd l=.ok (c,r)):E 55 [.ref 0 0] [.var (Zi Q k 1 0 n++[.lnt l]),.row 0 w xs]=some (.int .i64 c,[.var (Zi Q k 1 0 n++[.lnt r]),.row 0 w xs]):=by
 unfold ZaI at h
 split at h
 case h_2=>cases h
 rename_i n' r' h2
 split at h
 case isFalse=>cases h
 rename_i hn
 injection h with h;injection h with h3 h4;subst h3 h4
 have hG:=fun G sq hs hr=>ZmP Q hQ hN k hk n w xs l hl G 0 1 0 sq (by omega) hs hr (m:=1) rfl h2
 have hL:=Zbp Q hQ hN k hk n 1 0
 have hR:=Za0 Q hQ hN k hk n 1 0
 have hS:∀ C:Rho,C 1 0=some (1,0)->Zj C (Zi Q k 1 0 n)=Zi Q k 1 0 n:=fun C h=>ZaC Q hQ hN k hk n C h
 generalize Zi Q k 1 0 n=P at *
 have a4:=fun L=>(Zap P hL 0 (by omega) L).trans h0
 have m1:=Zbt
 have hC:=fun G sq own=>Zlo kd n' G sq own
 rw[hn]at hC
 rw[Zg (by rfl) ZhD]
 simp -implicitDefEqProofs only[EQA,Zc,Xd,Xc,Xa,reduceCtorEq,↓reduceIte,Zhq,ZfQ,ZyN,Zb,hG,hC,a4,m1]
 exact ZiB P hL hR hS w xs rfl _
theorem ZRo{c:Int}(h:ZaI kd l=.error c):∃ r:Zd,E 55 [.ref 0 0] [.var (Zi Q k 1 0 n++[.lnt l]),.row 0 w xs]=some (.pan (ZG c),[.var (Zi Q k 1 0 n++[.lnt r]),.row 0 w xs]):=by
 unfold ZaI at h
 have hL:=Zbp Q hQ hN k hk n 1 0
 have hR:=Za0 Q hQ hN k hk n 1 0
 have hS:∀ C:Rho,C 1 0=some (1,0)->Zj C (Zi Q k 1 0 n)=Zi Q k 1 0 n:=fun C h=>ZaC Q hQ hN k hk n C h
 split at h
 ·rename_i n' r' h2
  split at h
  case isTrue=>cases h
  rename_i hn
  injection h with h;subst h
  have hG:=fun G sq hs hr=>ZmP Q hQ hN k hk n w xs l hl G 0 1 0 sq (by omega) hs hr (m:=1) rfl h2
  refine⟨r',?_⟩
  generalize Zi Q k 1 0 n=P at *
  have a4:=fun L=>(Zap P hL 0 (by omega) L).trans h0
  have m1:=ZbS
  have hC:=fun G sq own=>Zlo kd n' G sq own
  rw[Wm _ |>.mp hn]at hC
  rw[Zg (by rfl) ZhD]
  simp -implicitDefEqProofs only[EQA,Zc,Xd,Xc,Xa,reduceCtorEq,↓reduceIte,Zhq,ZfQ,Zb,hG,hC,a4,m1]
  exact ZiB P hL hR hS w xs rfl _
 ·rename_i c' h2
  injection h with h;subst h
  have hG:=fun G sq hs hr=>ZxK Q hQ hN k hk n w xs l hl G 0 1 0 sq (by omega) hs hr (m:=1) rfl (by decide) h2
  refine⟨l,?_⟩
  generalize Zi Q k 1 0 n=P at *
  rw[Zg (by rfl) ZhD]
  simp -implicitDefEqProofs only[EQA,Zc,Xd,Xc,reduceCtorEq,↓reduceIte,Zhq,ZfQ,Zb,hG]
  exact ZiB P hL hR hS w xs rfl _
variable (G:Za)(t r g sq:Nat)(htr:t≠r)(hs:G[t]?=some (.var (Zi Q k r g n++[.lnt l])))(hr:G[r]?=some (.row g w xs))
include htr hs hr
theorem ZUi{c:Int}{l2:Zd}(h:ZaI kd l=.ok (c,l2)):Zq E BY G sq 55 0 true [.ref t 0]=some (.int .i64 c,(G.set t (.var (Zi Q k r g n++[.lnt l2]))).set r (.row g w xs),{ any:=true,upd:=[(t,Zi Q k r g n++[.lnt l2])] }):=by
 have e:=ZGY Q hQ hN k hk n w xs l hl kd h0 h
 exact Zik (g2:=0) (own:=0) (rest:=[]) hs hr htr (by rw[Zcc,Za0 Q hQ hN k hk n];rfl) (by kernel_rfl) rfl (fun C h=>by rw[Zbz,ZaC Q hQ hN k hk n C h];rfl) (by omega) rfl rfl e
  (Zph true rfl rfl (by rw[Zcc,Za0 Q hQ hN k hk n];rfl) (by omega) (fun C h=>by rw[Zbz,ZaC Q hQ hN k hk n C h];rfl)) (fun C h=>by rw[Zbz,ZaC Q hQ hN k hk n C (h 0)];rfl)
theorem ZSM{c:Int}(h:ZaI kd l=.error c):∃ l2:Zd,Zq E BY G sq 55 0 true [.ref t 0]=some (.pan (ZG c),(G.set t (.var (Zi Q k r g n++[.lnt l2]))).set r (.row g w xs),{ any:=true,upd:=[(t,Zi Q k r g n++[.lnt l2])] }):=by
 obtain⟨l2,e⟩:=ZRo Q hQ hN k hk n w xs l hl kd h0 h
 exact⟨l2,Zik (g2:=0) (own:=0) (rest:=[]) hs hr htr (by rw[Zcc,Za0 Q hQ hN k hk n];rfl) (by kernel_rfl) rfl (fun C h=>by rw[Zbz,ZaC Q hQ hN k hk n C h];rfl) (by omega) rfl rfl e
  (Zmi true) (fun C h=>by rw[Zbz,ZaC Q hQ hN k hk n C (h 0)];rfl)⟩
end
end
section
def Zgv:Option (List ZO)->AVal
 |none=>.lst true []
 |some l=>.lst false (l.map Zu)
def ZdA(k:Int)(l:Zd):RK (Int×Option (List ZO)) :=
 if l.length=0 then .ok ((0,none),l)else match ZaI k l with
 | .error c=>.error c
 | .ok (c,r)=>if r.length=0 then .ok ((c,none),r)else match Zbj k r with
  | .error c=>.error c
  | .ok (ps,r')=>.ok ((c,some ps),r')
theorem ZnH{k n:Int}{l r:Zd}(h:ZaI k l=.ok (n,r)):r.length<=l.length:=by
 unfold ZaI Zaw at h
 grind
theorem Zj3{P:List AVal}{k:Nat}{v:AVal}(h:P[k]?=some v):P.set k v=P:=by
 apply List.ext_getElem?
 grind
section
variable (P:List AVal)(hP:P.length=26)(hN:Ze P=true)
include hP hN
theorem ZUo(k:Int)(hk:P[0]?=some (.int .i64 k))(h7:P[7]?=some (.int .i64 0))(h9:P[9]?=some (.lst true []))(hu:∀ r:Zd,r.length<=140737488355328->(Zab k r).2.1<=r.length)(l:Zd)(hl:l.length<=140737488355328){c:Int}{ps:Option (List ZO)}{r:Zd}(h:ZdA k l=.ok ((c,ps),r)) :
  E 59 [.ref 0 0] [.var (P++[.lnt l])]=some (.tup [],[.var ((P.set 7 (.int .i64 c)).set 9 (Zgv ps)++[.lnt r])]):=by
 have a1:=Zag P hP
 have a2:=ZaB P hP
 unfold ZdA at h
 split at h
 ·rename_i h0
  injection h with h;injection h with h1 h2;injection h1 with h1 h3;subst h1 h2 h3
  have hg:¬(l.length:Int)>0:=by omega
  rw[show Zgv none=.lst true []from rfl,Zj3 h7,Zj3 h9]
  rw[Zg (by rfl) ZkO]
  simp -implicitDefEqProofs only[EQA,Zc,Xc,reduceCtorEq,↓reduceIte,Ze,Zkh,Zis,Zre,Zb,a2,hg]
  exact Zah rfl (ZK P hP hN _)
 ·rename_i h0
  have hg:(l.length:Int)>0:=by omega
  split at h
  ·cases h
  rename_i c' r' hc
  have hr':=ZnH hc
  have hC:=fun G sq hs=>ZkK P hP hN l hl G 0 sq hs k hk hc
  have a3:=ZaD P hP 7 8 (by omega) rfl
  have hP7:(P.set 7 (.int .i64 c')).length=26:=by simp[hP]
  have hN7:Ze (P.set 7 (.int .i64 c'))=true:=Z7 rfl 7 hN
  have hk7:(P.set 7 (.int .i64 c'))[0]?=some (.int .i64 k):=by rw[Xl (by omega)];exact hk
  have h97:(P.set 7 (.int .i64 c'))[9]?=some (.lst true []):=by rw[Xl (by omega)];exact h9
  have b1:=Zag _ hP7
  have b2:=ZaB _ hP7
  have b3:=ZaD _ hP7 9 10 (by omega) rfl
  have b4:=fun L=>(Zap _ hP7 0 (by omega) L).trans hk7
  split at h
  ·rename_i h1
   injection h with h;injection h with h1 h2;injection h1 with h1 h3;subst h1 h2 h3
   have hg':¬(r'.length:Int)>0:=by omega
   rw[show Zgv none=.lst true []from rfl,Zj3 h97]
   rw[Zg (by rfl) ZkO]
   simp -implicitDefEqProofs only[EQA,Zs,ZE,Zc,Xd,Xc,Xf,Xa,reduceCtorEq,↓reduceIte,Ze,Zkh,Zis,Zre,Zb,a1,a2,a3,b2,hg,hg',hC]
   exact Zah rfl (ZK _ hP7 hN7 _)
  ·rename_i h1
   have hg':(r'.length:Int)>0:=by omega
   split at h
   ·cases h
   rename_i ps' r2 hp
   injection h with h;injection h with h1 h2;injection h1 with h1 h3;subst h1 h2 h3
   have hG:=fun G sq hs=>Zfo _ hP7 hN7 r' (by omega) G 0 sq hs (hu r' (by omega)) hp
   rw[Zg (by rfl) ZkO]
   simp -implicitDefEqProofs only[EQA,Zs,ZE,Zc,Xd,Xc,Xf,Xa,reduceCtorEq,↓reduceIte,Ze,Zkh,Zis,Zre,Zb,a1,a2,a3,b1,b2,b3,b4,hg,hg',hC,hG,Zgv]
   exact Zah rfl (ZaT (Z7 (ZdE _ _) 9 hN7) (by rfl))
theorem Zxv(k:Int)(hk:P[0]?=some (.int .i64 k))(hu:∀ r:Zd,r.length<=140737488355328->(Zab k r).2.1<=r.length)(l:Zd)(hl:l.length<=140737488355328){e:Int}(h:ZdA k l=.error e) :
  ∃ cs,Ze cs=true/\E 59 [.ref 0 0] [.var (P++[.lnt l])]=some (.pan (ZG e),[.var cs]):=by
 have a1:=Zag P hP
 have a2:=ZaB P hP
 unfold ZdA at h
 split at h
 ·cases h
 ·rename_i h0
  have hg:(l.length:Int)>0:=by omega
  split at h
  ·rename_i c hc
   injection h with h;subst h
   obtain⟨cs,hn,he⟩:=ZwH P hP hN k hk l hl hc
   have hC:=fun(G:Za) sq (hs:G[0]?=some (.var (P++[.lnt l])))=>Zes (O:=E) (bf:=BY) (f:=55) (view:=true) (rest:=[]) (by kernel_rfl) rfl (ZK P hP hN _) hn rfl he hs sq
   refine⟨cs,hn,?_⟩
   rw[Zg (by rfl) ZkO]
   simp -implicitDefEqProofs only[EQA,Zc,Xc,reduceCtorEq,↓reduceIte,Zkh,Zis,Zb,a2,hg,hC]
   exact Zah rfl hn
  ·rename_i c' r' hc
   have hr':=ZnH hc
   have hC:=fun G sq hs=>ZkK P hP hN l hl G 0 sq hs k hk hc
   have a3:=ZaD P hP 7 8 (by omega) rfl
   have hP7:(P.set 7 (.int .i64 c')).length=26:=by simp[hP]
   have hN7:Ze (P.set 7 (.int .i64 c'))=true:=Z7 rfl 7 hN
   have hk7:(P.set 7 (.int .i64 c'))[0]?=some (.int .i64 k):=by rw[Xl (by omega)];exact hk
   have b1:=Zag _ hP7
   have b2:=ZaB _ hP7
   have b4:=fun L=>(Zap _ hP7 0 (by omega) L).trans hk7
   split at h
   ·cases h
   ·rename_i h1
    have hg':(r'.length:Int)>0:=by omega
    split at h
    ·rename_i c hp
     injection h with h;subst h
     have hG:=fun G sq hs=>Zhj _ hP7 hN7 r' (by omega) G 0 sq hs hp
     refine⟨P.set 7 (.int .i64 c')++[.lnt r'],ZK _ hP7 hN7 _,?_⟩
     rw[Zg (by rfl) ZkO]
     simp -implicitDefEqProofs only[EQA,Zs,ZE,Zc,Xd,Xc,Xf,Xa,reduceCtorEq,↓reduceIte,Zkh,Zis,Zb,a1,a2,a3,b2,b4,hg,hg',hC,hG]
     exact Zah rfl (ZK _ hP7 hN7 _)
    ·cases h
section
variable (l:Zd)(hl:l.length<=140737488355328)(G:Za)(t sq:Nat)(hs:G[t]?=some (.var (P++[.lnt l])))
include hl hs
theorem ZzQ(k:Int)(hk:P[0]?=some (.int .i64 k))(h7:P[7]?=some (.int .i64 0))(h9:P[9]?=some (.lst true []))(hu:∀ r:Zd,r.length<=140737488355328->(Zab k r).2.1<=r.length){c:Int}{ps:Option (List ZO)}{r:Zd}(h:ZdA k l=.ok ((c,ps),r)):Zq E BY G sq 59 0 true [.ref t 0]=some (.tup [],G.set t (.var ((P.set 7 (.int .i64 c)).set 9 (Zgv ps)++[.lnt r])),{ any:=true,upd:=[(t,(P.set 7 (.int .i64 c)).set 9 (Zgv ps)++[.lnt r])] }) :=
 Zce (rest:=[]) (by kernel_rfl) rfl (ZK P hP hN _) (ZaT (Z7 (by cases ps<;>rfl) 9 (Z7 rfl 7 hN)) (by rfl)) rfl rfl (ZUo P hP hN k hk h7 h9 hu l hl h) hs sq
end
end
theorem Ziz{n:Nat}{l r:Zd}{a:Int}(h:Zaw n l=.ok (a,r)):r.length<=l.length:=by
 unfold Zaw at h
 grind
theorem ZfR{l r:Zd}{a:Int}(h:idK l=.ok (a,r)):r.length<=l.length:=by
 unfold idK at h
 split at h
 ·rename_i h1
  split at h
  ·cases h
  ·injection h with h;injection h with _ h;subst h;exact Ziz h1
 ·cases h
theorem ZdP{l r a:Zd}(h:Zaf l=.ok (a,r)):r.length<=l.length:=by
 unfold Zaf at h
 grind
theorem Zsr{l r a:Zd}(h:ZbJ l=.ok (a,r)):r.length<=l.length:=by
 unfold ZbJ at h
 grind
theorem ZgT{w:Int}{l r:Zd}{a:List ZO}(h:Zbj w l=.ok (a,r)):r.length<=l.length:=by
 unfold Zbj at h
 grind
theorem Zwa(G:Za)(sq:Nat)(l:Zd)(h:l.length<=140737488355328)(hs:freeAt G sq=true):Zq E BY G sq 97 1 false [.lnt l]=some (.sl sq 0 0 l.length,G.set sq (.row 0 1 (l.map Zh)),{}):=by
 have e:=Zz1 l h
 rw[XS]at e
 exact ZIK (vs:=[.lnt l]) (by kernel_rfl) rfl rfl rfl (fun _=>rfl) e (ZnV _) hs
def ZcM(qos:Int)(l:Zd):Except Int (Zd×Int×List ZO×Zd):=match Zaf l with
 | .error c=>.error c
 | .ok (tp,r1)=>if qos>0 then(match idK r1 with
  | .error c=>.error c
  | .ok (n,r2)=>match Zbj 3 r2 with
   | .error c=>.error c
   | .ok (ps,r3)=>.ok (tp,n,ps,r3))
  else match Zbj 3 r1 with
   | .error c=>.error c
   | .ok (ps,r3)=>.ok (tp,0,ps,r3)
section
variable (P:List AVal)(hP:P.length=26)(hN:Ze P=true)
include hP hN
theorem ZEw(qos:Int)(h2:P[2]?=some (.int .i64 qos))(h4:P[4]?=some (.int .i64 0))(hu:∀ r:Zd,r.length<=140737488355328->(Zab 3 r).2.1<=r.length)(l:Zd)(hl:l.length<=140737488355328){tp:Zd}{n:Int}{ps:List ZO}{pay:Zd}(h:ZcM qos l=.ok (tp,n,ps,pay)) :
  E 57 [.ref 0 0] [.var (P++[.lnt l])]=some (.tup [],[.var (Zi (((P.set 5 (.str tp)).set 4 (.int .i64 n)).set 9 (.lst false (ps.map Zu))) 6 1 0 pay.length++[.lst true []]),.row 0 1 (pay.map Zh)]):=by
 have a1:=Zag P hP
 have a2:=ZaB P hP
 unfold ZcM at h
 split at h
 ·cases h
 rename_i tp' r1 ht
 have l1:=ZdP ht
 have hT:=fun G sq hs=>Zfl P hP hN l hl G 0 sq hs ht
 have a3:=fun L=>ZaD P hP 5 6 (by omega) rfl L (.str tp')
 have hP5:(P.set 5 (.str tp')).length=26:=by simp[hP]
 have hN5:Ze (P.set 5 (.str tp'))=true:=Z7 rfl 5 hN
 have h25:(P.set 5 (.str tp'))[2]?=some (.int .i64 qos):=by rw[Xl (by omega)];exact h2
 have h45:(P.set 5 (.str tp'))[4]?=some (.int .i64 0):=by rw[Xl (by omega)];exact h4
 generalize hQ:P.set 5 (.str tp')=Q at *
 have b1:=Zag _ hP5
 have b2:=ZaB _ hP5
 have b4:=fun L=>(Zap _ hP5 2 (by omega) L).trans h25
 split at h
 ·rename_i hq
  split at h
  ·cases h
  rename_i n' r2 hi
  have l2:=ZfR hi
  split at h
  ·cases h
  rename_i ps' r3 hp
  have l3:=ZgT hp
  injection h with h;injection h with e1 h;injection h with e2 h;injection h with e3 e4;subst e1 e2 e3 e4
  rw[hQ]
  have hI:=fun G sq hs=>Zhl Q hP5 hN5 r1 (by omega) G 0 sq hs hi
  have hP4:(Q.set 4 (.int .i64 n')).length=26:=by simp[hP5]
  have hN4:Ze (Q.set 4 (.int .i64 n'))=true:=Z7 rfl 4 hN5
  generalize Q.set 4 (.int .i64 n')=R at *
  have hG:=fun G sq hs=>Zfo _ hP4 hN4 r2 (by omega) G 0 sq hs (hu r2 (by omega)) hp
  have c1:=Zag _ hP4
  have c2:=ZaB _ hP4
  have c3:=fun L=>ZaD _ hP4 9 10 (by omega) rfl L (.lst false (ps'.map Zu))
  have hP9:(R.set 9 (.lst false (ps'.map Zu))).length=26:=by simp[hP4]
  have hN9:Ze (R.set 9 (.lst false (ps'.map Zu)))=true:=Z7 (ZdE _ _) 9 hN4
  generalize R.set 9 (.lst false (ps'.map Zu))=S at *
  have d1:=Zag _ hP9
  have d2:=ZaB _ hP9
  have d3:=fun L=>ZaD _ hP9 6 7 (by omega) rfl L (.sl 1 0 0 r3.length)
  have hP6:=Zbp S hP9 hN9 6 (by omega) r3.length 1 0
  have hRf:=Za0 S hP9 hN9 6 (by omega) r3.length 1 0
  have hRn:=fun(C:Rho) (h:C 1 0=some (1,0))=>ZaC S hP9 hN9 6 (by omega) r3.length C h
  unfold Zi at hP6 hRf hRn ⊢
  generalize S.set 6 (.sl 1 0 0 r3.length)=U at *
  have f1:=Zag _ hP6
  have f3:=ZeL _ hP6
  have f4:=ZgO _ hP6
  have hC:=fun G sq hs=>Zwa G sq r3 (by omega) hs
  rw[Zg (by rfl) ZiR]
  simp -implicitDefEqProofs only[EQA,Zs,ZE,Zc,Xd,Xc,Xf,Xa,Xg,reduceCtorEq,↓reduceIte,Ze,ZiG,ZhC,Zzz,Zb,a1,a3,b4,c1,c3,d1,d2,d3,f1,f3,f4,hq,hT,hI,hG,hC]
  exact Zb2 (j:=1) rfl (by omega) rfl rfl (by rw[Zcc,hRf];rfl) (fun C h=>by rw[Zbz,hRn C h];rfl)
 ·rename_i hq
  split at h
  ·cases h
  rename_i ps' r3 hp
  have l3:=ZgT hp
  injection h with h;injection h with e1 h;injection h with e2 h;injection h with e3 e4;subst e1 e2 e3 e4
  rw[hQ,Zj3 h45]
  have hG:=fun G sq hs=>Zfo _ hP5 hN5 r1 (by omega) G 0 sq hs (hu r1 (by omega)) hp
  have c3:=fun L=>ZaD _ hP5 9 10 (by omega) rfl L (.lst false (ps'.map Zu))
  have hP9:(Q.set 9 (.lst false (ps'.map Zu))).length=26:=by simp[hP5]
  have hN9:Ze (Q.set 9 (.lst false (ps'.map Zu)))=true:=Z7 (ZdE _ _) 9 hN5
  generalize Q.set 9 (.lst false (ps'.map Zu))=S at *
  have d1:=Zag _ hP9
  have d2:=ZaB _ hP9
  have d3:=fun L=>ZaD _ hP9 6 7 (by omega) rfl L (.sl 1 0 0 r3.length)
  have hP6:=Zbp S hP9 hN9 6 (by omega) r3.length 1 0
  have hRf:=Za0 S hP9 hN9 6 (by omega) r3.length 1 0
  have hRn:=fun(C:Rho) (h:C 1 0=some (1,0))=>ZaC S hP9 hN9 6 (by omega) r3.length C h
  unfold Zi at hP6 hRf hRn ⊢
  generalize S.set 6 (.sl 1 0 0 r3.length)=U at *
  have f1:=Zag _ hP6
  have f3:=ZeL _ hP6
  have f4:=ZgO _ hP6
  have hC:=fun G sq hs=>Zwa G sq r3 (by omega) hs
  rw[Zg (by rfl) ZiR]
  simp -implicitDefEqProofs only[EQA,Zs,ZE,Zc,Xd,Xc,Xf,Xa,Xg,reduceCtorEq,↓reduceIte,Ze,ZiG,ZhC,Zzz,Zb,a1,a3,b1,b4,c3,d1,d2,d3,f1,f3,f4,hq,hT,hG,hC]
  exact Zb2 (j:=1) rfl (by omega) rfl rfl (by rw[Zcc,hRf];rfl) (fun C h=>by rw[Zbz,hRn C h];rfl)
theorem ZQK(qos:Int)(h2:P[2]?=some (.int .i64 qos))(l:Zd)(hl:l.length<=140737488355328){c:Int}(h:ZcM qos l=.error c) :
  ∃ cs,Ze cs=true/\E 57 [.ref 0 0] [.var (P++[.lnt l])]=some (.pan (ZG c),[.var cs]):=by
 have a1:=Zag P hP
 have a2:=ZaB P hP
 unfold ZcM at h
 split at h
 ·rename_i c' ht
  injection h with h;subst h
  have hT:=fun G sq hs=>ZhY P hP hN l hl G 0 sq hs ht
  refine⟨P++[.lnt l],ZK P hP hN _,?_⟩
  rw[Zg (by rfl) ZiR]
  simp -implicitDefEqProofs only[EQA,Zc,Xc,reduceCtorEq,↓reduceIte,ZiG,ZhC,Zb,hT]
  exact Zah rfl (ZK P hP hN _)
 rename_i tp' r1 ht
 have l1:=ZdP ht
 have hT:=fun G sq hs=>Zfl P hP hN l hl G 0 sq hs ht
 have a3:=fun L=>ZaD P hP 5 6 (by omega) rfl L (.str tp')
 have hP5:(P.set 5 (.str tp')).length=26:=by simp[hP]
 have hN5:Ze (P.set 5 (.str tp'))=true:=Z7 rfl 5 hN
 have h25:(P.set 5 (.str tp'))[2]?=some (.int .i64 qos):=by rw[Xl (by omega)];exact h2
 generalize hQ:P.set 5 (.str tp')=Q at *
 have b1:=Zag _ hP5
 have b2:=ZaB _ hP5
 have b4:=fun L=>(Zap _ hP5 2 (by omega) L).trans h25
 split at h
 ·rename_i hq
  split at h
  ·rename_i c' hi
   injection h with h;subst h
   obtain⟨cs,hn,he⟩:=Znm Q hP5 hN5 r1 (by omega) hi
   have hI:=fun(G:Za) sq (hs:G[0]?=some (.var (Q++[.lnt r1])))=>Zes (O:=E) (bf:=BY) (f:=58) (view:=true) (rest:=[]) (by kernel_rfl) rfl (ZK Q hP5 hN5 _) hn rfl he hs sq
   refine⟨cs,hn,?_⟩
   rw[Zg (by rfl) ZiR]
   simp -implicitDefEqProofs only[EQA,Zs,ZE,Zc,Xd,Xc,Xf,Xa,reduceCtorEq,↓reduceIte,ZiG,ZhC,Zb,a1,a3,b4,hq,hT,hI]
   exact Zah rfl hn
  rename_i n' r2 hi
  have l2:=ZfR hi
  split at h
  ·rename_i c' hp
   injection h with h;subst h
   have hI:=fun G sq hs=>Zhl Q hP5 hN5 r1 (by omega) G 0 sq hs hi
   have hP4:(Q.set 4 (.int .i64 n')).length=26:=by simp[hP5]
   have hN4:Ze (Q.set 4 (.int .i64 n'))=true:=Z7 rfl 4 hN5
   generalize Q.set 4 (.int .i64 n')=R at *
   have hG:=fun G sq hs=>Zhj _ hP4 hN4 r2 (by omega) G 0 sq hs hp
   refine⟨R++[.lnt r2],ZK R hP4 hN4 _,?_⟩
   rw[Zg (by rfl) ZiR]
   simp -implicitDefEqProofs only[EQA,Zs,ZE,Zc,Xd,Xc,Xf,Xa,reduceCtorEq,↓reduceIte,ZiG,ZhC,Zb,a1,a3,b4,hq,hT,hI,hG]
   exact Zah rfl (ZK R hP4 hN4 _)
  ·cases h
 ·rename_i hq
  split at h
  ·rename_i c' hp
   injection h with h;subst h
   have hG:=fun G sq hs=>Zhj _ hP5 hN5 r1 (by omega) G 0 sq hs hp
   refine⟨Q++[.lnt r1],ZK Q hP5 hN5 _,?_⟩
   rw[Zg (by rfl) ZiR]
   simp -implicitDefEqProofs only[EQA,Zs,ZE,Zc,Xd,Xc,Xf,Xa,reduceCtorEq,↓reduceIte,ZiG,ZhC,Zb,a1,a3,b4,hq,hT,hG]
   exact Zah rfl (ZK Q hP5 hN5 _)
  ·cases h
end
end
section
theorem ZQA{cs xs ys:List AVal}{w w2 n:Nat}{G:Za}(hrf:Zl cs=[1])(hren:∀ C:Rho,C 1 0=some (1,0)->Zj C cs=cs):ZR 2 (.var cs::.row 0 w xs::.row 0 w2 ys::G) (.sl 2 0 0 n)=some (.sl 2 0 0 n,[.var cs,.row 0 w xs,.row 0 w2 ys]):=by
 have hi:Zw 2 [AVal.sl 2 0 0 n] (.var cs::.row 0 w xs::.row 0 w2 ys::G)=[0,1,2]:=by
  have hR:X5 2=[0,1]:=rfl
  simp only[Zw,hR,XB,XQ,Xr,Xm,Xs,ZB,hrf,Zl,ZH]
  rfl
 have hC1:Zn (.var cs::.row 0 w xs::.row 0 w2 ys::G) 2 [0,1,2] 1 0=some (1,0):=rfl
 have hC2:Zn (.var cs::.row 0 w xs::.row 0 w2 ys::G) 2 [0,1,2] 2 0=some (2,0):=rfl
 simp only[ZR,gcA,hi,Zj,Zp,hC2,Zo,Xm,Xs,ZD,Zm,Zz,hren _ hC1]
 simp
theorem ZDe{O:ZS}{bf:Nat->Bool}{G:Za}{t r f g w w2 n sq:Nat}{cs cs1 cs2 cs3 xs ys:List AVal}(hs:G[t]?=some (.var cs))(hr:G[r]?=some (.row g w xs))(htr:t≠r)(hrf:Zl cs=[r])(hb:bf f=false)
  (hren:∀ C:Rho,C r g=some (1,0)->Zj C cs=cs1) (hff:Zaj G sq 1=true)
  (h:O f [.ref 0 0] [.var cs1,.row 0 w xs]=some (.sl 2 0 0 n,[.var cs2,.row 0 w xs,.row 0 w2 ys])) (hback:∀ C:Rho,(∀ j,C 1 j=some (r,g+j))->Zj C cs2=cs3) :
  Zq O bf G sq f 1 false [.ref t 0]=some (.sl sq 0 0 n,((G.set t (.var cs3)).set r (.row g w xs)).set sq (.row 0 w2 ys),{ any:=true,upd:=[(t,cs3)] }):=by
 have hfs:G[sq]?=some .free:=Zeh (i:=0) hff (by omega)
 have hts:t≠sq:=by rintro rfl;rw[hs]at hfs;cases hfs
 have hrs:r≠sq:=by rintro rfl;rw[hr]at hfs;cases hfs
 have htl:t<G.length:=(Xn.1 hs).1
 have h1:G.getD t .free=.var cs:=by simp[Xh,hs]
 have h2:G.getD r .free=.row g w xs:=by simp[Xh,hr]
 have hCt:Zn G 0 [t,r] t 0=some (0,0):=by simp[Zn,ZI,hs,Zm,ZD]
 have hCr:Zn G 0 [t,r] r g=some (1,0):=by simp[Zn,ZI,hr,Zm,ZD,htr]
 refine Zcf (vs:=[.ref t 0]) (ids:=[t,r]) hb rfl (Zpr hs hr htr hrf) rfl ?_ ?_ ?_ h rfl (by simp) (by simp) ?_ hff ?_ ?_ ?_ rfl
 ·simp only[List.all_cons,List.all_nil,h1,h2,okB,Bool.and_true]
 ·simp only[Zj,Zp,hCt]
 ·simp only[Zo,h1,h2,ZD,Zm,Zz,hren _ hCr]
  simp
 ·simp[Za1,okB,Zcy,Zm,hs,hr]
 ·simp[Zp,Zak]
 ·have hb3:Zj (Zak G [t,r] sq) cs2=cs3:=hback _ (fun j=>by simp only[Zak,XN,XK,h2,Zm])
  simp only[ZaQ,ZaA,Xm,Xs,ZbZ,XK,XN,h2,Zm,Zz,hb3]
  simp[]
 ·have e1:(((G.set t (.var cs3)).set r (.row g w xs)).set sq (.row 0 w2 ys))[t]?=some (.var cs3):=by
   rw[Xl (fun e=>hts e.symm),Xl (fun e=>htr e.symm),XV htl]
  have e2:(((G.set t (.var cs3)).set r (.row g w xs)).set sq (.row 0 w2 ys))[r]?=some (.row g w xs):=by
   rw[Xl (fun e=>hrs e.symm),XV (by simpa using(Xn.1 hr).1)]
  simp only[Za9,e1,e2]
section
variable (P:List AVal)(hP:P.length=26)(hF:Zl P=[1])(hS:∀ C:Rho,C 1 0=some (1,0)->Zj C P=P)(w:Nat)(xs:List AVal)
include hP hF hS
theorem ZJB(l:Zd)(hl:l.length<=140737488355328)(h:(ZL l).2.2=0):E 94 [.ref 0 0] [.var (P++[.lnt l]),.row 0 w xs]=some (.sl 2 0 0 (ZL l).1.length,[.var (P++[.lnt (l.drop (ZL l).2.1)]),.row 0 w xs,.row 0 1 ((ZL l).1.map Zh)]):=by
 have hG:=fun G sq hs=>ZAt G sq l hl h hs
 have hu:=(Zg0 l).1
 have s2:=fun G kk=>ZfC G l kk ((ZL l).2.1:Int) (by omega) (by omega)
 have e2:(((ZL l).2.1:Nat):Int).toNat=(ZL l).2.1:=rfl
 rw[e2]at s2
 have a1:=Zag P hP
 have a2:=ZaB P hP
 have a3:=ZeL P hP
 have a4:=ZgO P hP
 have m1:=Zbt
 rw[Zg (by rfl) ZoE]
 simp -implicitDefEqProofs only[EQA,Zc,Xd,Xc,Xf,Xa,Xg,reduceCtorEq,↓reduceIte,Zmx,Zjt,Zyu,Zb,s2,hG,a1,a2,a3,a4,m1]
 exact ZQA (by rw[Zcc,hF];rfl) (fun C h=>by rw[Zbz,hS C h];rfl)
theorem ZDC(l:Zd)(hl:l.length<=140737488355328)(h:(ZL l).2.2≠0):E 94 [.ref 0 0] [.var (P++[.lnt l]),.row 0 w xs]=some (.pan (ZG 129),[.var (P++[.lnt l]),.row 0 w xs]):=by
 have hG:=fun G sq=>ZyW G sq l hl h
 have h0:((ZL l).2.2==0)=false:=by simpa using h
 have h1:=h
 have a2:=ZaB P hP
 have m1:=ZbS
 rw[Zg (by rfl) ZoE]
 simp -implicitDefEqProofs only[EQA,Zc,Xd,Xc,Xa,Xg,reduceCtorEq,↓reduceIte,Zmx,Zjt,Zb,hG,a2,h0,m1]
 exact Zoq rfl (by rw[Zcc,hF];rfl) (by omega) (fun C h=>by rw[Zbz,hS C h];rfl)
end
section
variable (Q:List AVal)(hQ:Q.length=26)(hN:Ze Q=true)(k:Nat)(hk:k<26)(n:Nat)
variable (w:Nat)(xs:List AVal)(l:Zd)(hl:l.length<=140737488355328)(G:Za)(t r g sq:Nat)(htr:t≠r)(hs:G[t]?=some (.var (Zi Q k r g n++[.lnt l])))(hr:G[r]?=some (.row g w xs))(hff:Zaj G sq 1=true)
include hQ hN hk hl htr hs hr hff
theorem ZK1{a l2:Zd}(h:ZbJ l=.ok (a,l2)):Zq E BY G sq 94 1 false [.ref t 0]=some (.sl sq 0 0 a.length,((G.set t (.var (Zi Q k r g n++[.lnt l2]))).set r (.row g w xs)).set sq (.row 0 1 (a.map Zh)),{ any:=true,upd:=[(t,Zi Q k r g n++[.lnt l2])] }):=by
 unfold ZbJ at h
 split at h
 ·rename_i h0
  injection h with h;injection h with h1 h2;subst h1 h2
  have e:=ZJB (Zi Q k 1 0 n) (Zbp Q hQ hN k hk n 1 0) (Za0 Q hQ hN k hk n 1 0) (fun C h=>ZaC Q hQ hN k hk n C h) w xs l hl h0
  exact ZDe hs hr htr (by rw[Zcc,Za0 Q hQ hN k hk n];rfl) (by kernel_rfl) (fun C h=>by rw[Zbz,ZaC Q hQ hN k hk n C h];rfl) hff e (fun C h=>by rw[Zbz,ZaC Q hQ hN k hk n C (h 0)];rfl)
 ·cases h
theorem ZN6{c:Int}(h:ZbJ l=.error c):Zq E BY G sq 94 1 false [.ref t 0]=some (.pan (ZG c),(G.set t (.var (Zi Q k r g n++[.lnt l]))).set r (.row g w xs),{ any:=true,upd:=[(t,Zi Q k r g n++[.lnt l])] }):=by
 unfold ZbJ at h
 split at h
 ·cases h
 ·rename_i h0
  injection h with h;subst h
  have e:=ZDC (Zi Q k 1 0 n) (Zbp Q hQ hN k hk n 1 0) (Za0 Q hQ hN k hk n 1 0) (fun C h=>ZaC Q hQ hN k hk n C h) w xs l hl h0
  exact Zik (g2:=0) (own:=1) (rest:=[]) hs hr htr (by rw[Zcc,Za0 Q hQ hN k hk n];rfl) (by kernel_rfl) rfl (fun C h=>by rw[Zbz,ZaC Q hQ hN k hk n C h];rfl) (by omega) hff rfl e
   (Zmi false) (fun C h=>by rw[Zbz,ZaC Q hQ hN k hk n C (h 0)];rfl)
end
end
section
abbrev Rws:=List (Nat×Zd)
abbrev KSt:=List AVal×Rws×Zd
def Zr(P:List AVal)(l:Zd):Za:=[.var (P++[.lnt l])]
def ZeQ(Q:List AVal):Nat->Rws->List AVal
 |_,[]=>Q
 |b,(k,d)::r=>(ZeQ Q (b+1) r).set k (.sl b 0 0 d.length)
def Zc7(Q:List AVal):Rws->List AVal
 | []=>Q
 |(k,d)::r=>(Zc7 Q r).set k (.lst false (d.map Zh))
def ZgU(rws:Rws):Za:=rws.map fun x=>.row 0 1 (x.2.map Zh)
def Zbu(Q:List AVal)(rws:Rws)(l:Zd):Za:=.var (ZeQ Q 1 rws++[.lnt l])::ZgU rws
def Shp(rws:Rws):Prop:=rws=[]\/(∃ d,rws=[(17,d)])\/(∃ d,rws=[(24,d)])\/∃ d e,rws=[(17,d),(24,e)]
theorem ZvH(Q:List AVal):∀ (rws:Rws) (b:Nat),(ZeQ Q b rws).length=Q.length
 | [],_=>rfl
 |(k,d)::r,b=>by rw[ZeQ,List.length_set,ZvH Q r]
theorem Zhi(C:Rho){v:AVal}:∀ (P:List AVal) (k:Nat),Zj C (P.set k v)=(Zj C P).set k (Zp C v)
 | [],_=>by simp[Zj]
 |x::P,0=>by simp[Zj]
 |x::P,k+1=>by simp[Zj,Zhi C P k]
theorem ZqN{u v:AVal}:∀ {P:List AVal} {k j:Nat},Ze P=true->k<j->j<P.length->Zl ((P.set j v).set k u)=ZH u++ZH v
 | [],_,_,_,_,h=>by simp at h
 |x::P,0,0,_,h,_=>by omega
 |x::P,0,j+1,h,_,hj=>by
  simp only[Ze,Xk]at h
  simp only[Wp,WG,Zl]
  rw[ZiC h.2 (by simpa using hj)]
 |x::P,k+1,0,_,h,_=>by omega
 |x::P,k+1,j+1,h,hk,hj=>by
  simp only[Ze,Xk]at h
  simp only[Wp,Zl,(Zba (fun _ _=>none) x h.1).2,Xp]
  exact ZqN h.2 (by omega) (by grind)
section
variable {Q:List AVal}(hQ:Q.length=26)(hN:Ze Q=true)
include hQ hN
theorem ZlV{b b' n n':Nat}{L:AVal}(hL:ZQ L=true):Zl ((Q.set 24 (.sl b' 0 0 n')).set 17 (.sl b 0 0 n)++[L])=[b,b']:=by
 rw[Zcc,ZqN hN (by omega) (by omega)]
 simp[Zl,ZH,(Zba (fun _ _=>none) L hL).2]
theorem ZnL{b b' c c' n n':Nat}{L:AVal}(hL:ZQ L=true)(C:Rho)(h1:C b 0=some (c,0))(h2:C b' 0=some (c',0)):Zj C ((Q.set 24 (.sl b' 0 0 n')).set 17 (.sl b 0 0 n)++[L])=(Q.set 24 (.sl c' 0 0 n')).set 17 (.sl c 0 0 n)++[L]:=by
 rw[Zbz,Zhi,Zhi,(Z5 C Q hN).1]
 simp only[Zp,h1,h2,Zj,(Zba C L hL).1]
theorem Zey{k b n:Nat}(hk:k<26){L:AVal}(hL:ZQ L=true):Zl (Q.set k (.sl b 0 0 n)++[L])=[b]:=by
 rw[Zcc,ZiC hN (by omega)]
 simp[Zl,ZH,(Zba (fun _ _=>none) L hL).2]
theorem ZgX{k b c n:Nat}{L:AVal}(hL:ZQ L=true)(C:Rho)(h1:C b 0=some (c,0)):Zj C (Q.set k (.sl b 0 0 n)++[L])=Q.set k (.sl c 0 0 n)++[L]:=by
 rw[Zbz,Zhi,(Z5 C Q hN).1]
 simp only[Zp,h1,Zj,(Zba C L hL).1]
theorem ZTY{rws:Rws}(hs:Shp rws){l:Zd}{x:AVal}(hx:ZQ x=true):ZR 1 (Zbu Q rws l) x=some (x,Zbu Q rws l):=by
 rcases hs with rfl |⟨d,rfl⟩ |⟨d,rfl⟩ |⟨d,e,rfl⟩
 ·exact Zah hx (ZaT hN rfl)
 ·exact Zb2 (j:=1) hx (by omega) rfl rfl (Zey hQ hN (by omega) rfl) (fun C h=>ZgX hQ hN rfl C h)
 ·exact Zb2 (j:=1) hx (by omega) rfl rfl (Zey hQ hN (by omega) rfl) (fun C h=>ZgX hQ hN rfl C h)
 ·exact Zon (i:=1) (j:=2) hx (by omega) (by omega) (by omega) rfl rfl rfl (ZlV hQ hN rfl) (fun C h1 h2=>ZnL hQ hN rfl C h1 h2)
end
def Znp(H:Za):Prop:=(∃ cs,Ze cs=true/\H=[.var cs])\/∃ Q d l,Q.length=26/\Ze Q=true/\H=Zbu Q [(17,d)] l
def ZgM(H:Za):Prop:=∃ H' B,Znp H'/\H=H'++B
theorem Zlj{cs:List AVal}(B:Za)(hN:Ze cs=true):ZgM (.var cs::B):=⟨[.var cs],B,Xq ⟨_,hN,rfl⟩,rfl⟩
theorem Zf0{Q:List AVal}{l:Zd}(hN:Ze Q=true):ZgM (Zr Q l):=Zlj [] (ZaT hN rfl)
theorem ZAz{Q:List AVal}{d l:Zd}(B:Za)(hQ:Q.length=26)(hN:Ze Q=true):ZgM (Zbu Q [(17,d)] l++B):=⟨_,B,Xt ⟨Q,d,l,hQ,hN,rfl⟩,rfl⟩
theorem ZUM{H:Za}(h:ZgM H){x:AVal}(hx:ZQ x=true):∃ H',Znp H'/\ZR 1 H x=some (x,H'):=by
 obtain⟨H',B,h,rfl⟩:=h
 refine⟨H',h,?_⟩
 rcases h with⟨cs,hn,rfl⟩ |⟨Q,d,l,hQ,hN,rfl⟩
 ·exact Zah hx hn
 ·exact Zb2 (j:=1) hx (by omega) rfl rfl (Zey hQ hN (by omega) rfl) (fun C h=>ZgX hQ hN rfl C h)
def KRuns(c:Zf)(tm tm':Tms)(H:Za)(n:Nat):Except Int KSt->Prop
 | .ok (P',rws,l')=>evC FC PR BY 1 c tm H=some (.normal,tm',Zbu P' rws l')/\P'.length=26/\Ze P'=true/\Shp rws/\l'.length<=n
 | .error e=>∃ tm2 H2,ZgM H2/\evC FC PR BY 1 c tm H=some (.panic (ZG e),tm2,H2)
def KRun(c:Zf)(tm:Tms)(H:Za)(n:Nat)(x:Except Int KSt):Prop:=∃ tm',KRuns c tm tm' H n x
theorem KRun.seqT{a b:Zf}{tm tm1:Tms}{H H1:Za}{n n1:Nat}{x:Except Int KSt}(h:evC FC PR BY 1 a tm H=some (.normal,tm1,H1))(hl:n1<=n)(hb:KRun b tm1 H1 n1 x):KRun (.seq a b) tm H n x:=by
 obtain⟨tm',hb⟩:=hb
 refine⟨tm',?_⟩
 cases x with
 |error e =>
  obtain⟨t,cs,g1,g2⟩:=hb
  exact⟨t,cs,g1,by rw[Zb3 h];exact g2⟩
 |ok s =>
  obtain⟨P2,r2,l2⟩:=s
  obtain⟨g1,g2,g3,g4,g5⟩:=hb
  exact⟨by rw[Zb3 h];exact g1,g2,g3,g4,by omega⟩
theorem KRun.seqF{a b:Zf}{tm tm2:Tms}{H H2:Za}{n:Nat}{e:Int}(hn:ZgM H2)(h:evC FC PR BY 1 a tm H=some (.panic (ZG e),tm2,H2)):KRun (.seq a b) tm H n (.error e) :=
 ⟨[],tm2,H2,hn,Zfr (by simp) h⟩
theorem KRuns.fnT{f:Nat}{fn:ZM}(hp:PR f=none)(hf:FC f=some fn)(hr:fn.res=[]){P P':List AVal}{rws:Rws}{l l':Zd}{n:Nat}(h:KRun fn.body [(0,.ref 0 0)] (Zr P l) n (.ok (P',rws,l'))):E f [.ref 0 0] (Zr P l)=some (.tup [],Zbu P' rws l'):=by
 obtain⟨_,h1,h2,h3,h4,h5⟩:=h
 rw[Zg hp hf]
 show Zax 1 fn (evC FC PR BY 1 fn.body [(0,.ref 0 0)] (Zr P l))=_
 rw[h1]
 simp only[Zax,hr,resA,resAll]
 exact ZTY h2 h3 h4 rfl
theorem KRuns.fnF{f:Nat}{fn:ZM}(hp:PR f=none)(hf:FC f=some fn){P:List AVal}{l:Zd}{n:Nat}{e:Int}(h:KRun fn.body [(0,.ref 0 0)] (Zr P l) n (.error e)):∃ H,Znp H/\E f [.ref 0 0] (Zr P l)=some (.pan (ZG e),H):=by
 obtain⟨_,t,H,h1,h2⟩:=h
 obtain⟨H',h3,h4⟩:=ZUM h1 (x:=.pan (ZG e)) rfl
 refine⟨H',h3,?_⟩
 rw[Zg hp hf]
 show Zax 1 fn (evC FC PR BY 1 fn.body [(0,.ref 0 0)] (Zr P l))=_
 rw[h2]
 simp only[Zax]
 exact h4
end
section
def cn1:Zf:=(.region [⟨(some 4),(.mov (.t 0)),none,[]⟩,⟨(some 5),(.nilchk (.t 4)),none,[]⟩,⟨(some 6),(.faddr 0 (.t 5)),none,[]⟩,⟨(some 2),(.mov (.t 6)),none,[]⟩] none [2,0])
def cn2:Zf:=(.region [⟨(some 7),(.mov (.t 0)),none,[]⟩,⟨(some 8),(.call 63 0 true [(.t 7)]),none,[]⟩,⟨(some 9),(.bin .eql (.t 8) (.c (.str [77,81,84,84]))),none,[]⟩,⟨(some 10),(.call 52 0 true [(.t 9),(.c (.int .i64 132))]),none,[]⟩] none [2,0])
def cn3:Zf:=(.region [⟨(some 11),(.mov (.t 0)),none,[]⟩,⟨(some 12),(.call 54 0 true [(.t 11),(.c (.int .i64 1))]),none,[]⟩,⟨(some 13),(.bin .eql (.t 12) (.c (.int .i64 5))),none,[]⟩,⟨(some 14),(.call 52 0 true [(.t 13),(.c (.int .i64 132))]),none,[]⟩] none [2,0])
def cn4:Zf:=(.region [⟨(some 15),(.mov (.t 0)),none,[]⟩,⟨(some 16),(.call 54 0 true [(.t 15),(.c (.int .i64 1))]),none,[]⟩,⟨(some 3),(.mov (.t 16)),none,[]⟩] none [3,2,0])
def cn5:Zf:=(.region [⟨(some 17),(.mov (.t 2)),none,[]⟩,⟨(some 18),(.mov (.t 2)),none,[]⟩,⟨(some 19),(.mov (.t 3)),none,[]⟩,⟨(some 20),(.bin .and (.t 19) (.c (.int .i64 2))),none,[]⟩,⟨(some 21),(.bin .neq (.t 20) (.c (.int .i64 0))),none,[]⟩,⟨(some 22),(.mov (.t 3)),none,[]⟩,⟨(some 23),(.bin .and (.t 22) (.c (.int .i64 4))),none,[]⟩,⟨(some 24),(.bin .neq (.t 23) (.c (.int .i64 0))),none,[]⟩,⟨(some 25),(.nilchk (.t 17)),none,[]⟩,⟨(some 26),(.faddr 12 (.t 25)),none,[]⟩,⟨none,(.st 1 (.t 26) (.t 21)),none,[]⟩,⟨(some 27),(.nilchk (.t 18)),none,[]⟩,⟨(some 28),(.faddr 15 (.t 27)),none,[]⟩,⟨none,(.st 1 (.t 28) (.t 24)),none,[]⟩] none [3,2,0])
def cn6:Zf:=(.region [⟨(some 29),(.mov (.t 2)),none,[]⟩,⟨(some 30),(.mov (.t 2)),none,[]⟩,⟨(some 31),(.mov (.t 3)),none,[]⟩,⟨(some 32),(.bin .and (.t 31) (.c (.int .i64 64))),none,[]⟩,⟨(some 33),(.bin .neq (.t 32) (.c (.int .i64 0))),none,[]⟩,⟨(some 34),(.mov (.t 3)),none,[]⟩,⟨(some 35),(.bin .and (.t 34) (.c (.int .i64 128))),none,[]⟩,⟨(some 36),(.bin .neq (.t 35) (.c (.int .i64 0))),none,[]⟩,⟨(some 37),(.nilchk (.t 29)),none,[]⟩,⟨(some 38),(.faddr 23 (.t 37)),none,[]⟩,⟨none,(.st 1 (.t 38) (.t 33)),none,[]⟩,⟨(some 39),(.nilchk (.t 30)),none,[]⟩,⟨(some 40),(.faddr 21 (.t 39)),none,[]⟩,⟨none,(.st 1 (.t 40) (.t 36)),none,[]⟩] none [3,2,0])
def cn7:Zf:=(.region [⟨(some 41),(.mov (.t 2)),none,[]⟩,⟨(some 42),(.mov (.t 2)),none,[]⟩,⟨(some 43),(.mov (.t 3)),none,[]⟩,⟨(some 44),(.bin .quo (.t 43) (.c (.int .i64 8))),none,[]⟩,⟨(some 45),(.bin .and (.t 44) (.c (.int .i64 3))),none,[]⟩,⟨(some 46),(.mov (.t 3)),none,[]⟩,⟨(some 47),(.bin .and (.t 46) (.c (.int .i64 32))),none,[]⟩,⟨(some 48),(.bin .neq (.t 47) (.c (.int .i64 0))),none,[]⟩,⟨(some 49),(.nilchk (.t 41)),none,[]⟩,⟨(some 50),(.faddr 16 (.t 49)),none,[]⟩,⟨(some 51),(.faddr 2 (.t 50)),none,[]⟩,⟨none,(.st 1 (.t 51) (.t 45)),none,[]⟩,⟨(some 52),(.nilchk (.t 42)),none,[]⟩,⟨(some 53),(.faddr 16 (.t 52)),none,[]⟩,⟨(some 54),(.faddr 3 (.t 53)),none,[]⟩,⟨none,(.st 1 (.t 54) (.t 48)),none,[]⟩] none [3,2,0])
def cn8:Zf:=(.region [⟨(some 55),(.mov (.t 3)),none,[]⟩,⟨(some 56),(.bin .and (.t 55) (.c (.int .i64 1))),none,[]⟩,⟨(some 57),(.bin .eql (.t 56) (.c (.int .i64 0))),none,[]⟩,⟨(some 58),(.mov (.t 57)),none,[]⟩,⟨(some 59),(.mov (.t 2)),(some (58,true)),[]⟩,⟨(some 60),(.nilchk (.t 59)),(some (58,true)),[]⟩,⟨(some 61),(.faddr 16 (.t 60)),(some (58,true)),[]⟩,⟨(some 62),(.faddr 2 (.t 61)),(some (58,true)),[]⟩,⟨(some 63),(.ld none (.t 62)),(some (58,true)),[]⟩,⟨(some 64),(.bin .lss (.t 63) (.c (.int .i64 3))),(some (58,true)),[]⟩,⟨(some 65),(.pick (.t 58) (.t 64) (.c (.bool false))),none,[]⟩,⟨(some 66),(.mov (.t 65)),none,[]⟩,⟨(some 67),(.mov (.t 2)),(some (66,true)),[]⟩,⟨(some 68),(.nilchk (.t 67)),(some (66,true)),[]⟩,⟨(some 69),(.faddr 15 (.t 68)),(some (66,true)),[]⟩,⟨(some 70),(.ld none (.t 69)),(some (66,true)),[]⟩,⟨(some 71),(.mov (.t 70)),(some (66,true)),[]⟩,⟨(some 72),(.mov (.t 2)),(some (71,false)),[]⟩,⟨(some 73),(.nilchk (.t 72)),(some (71,false)),[]⟩,⟨(some 74),(.faddr 16 (.t 73)),(some (71,false)),[]⟩,⟨(some 75),(.faddr 2 (.t 74)),(some (71,false)),[]⟩,⟨(some 76),(.ld none (.t 75)),(some (71,false)),[]⟩,⟨(some 77),(.bin .eql (.t 76) (.c (.int .i64 0))),(some (71,false)),[]⟩,⟨(some 78),(.mov (.t 77)),(some (71,false)),[]⟩,⟨(some 79),(.mov (.t 2)),(some (78,true)),[]⟩,⟨(some 80),(.nilchk (.t 79)),(some (78,true)),[]⟩,⟨(some 81),(.faddr 16 (.t 80)),(some (78,true)),[]⟩,⟨(some 82),(.faddr 3 (.t 81)),(some (78,true)),[]⟩,⟨(some 83),(.ld none (.t 82)),(some (78,true)),[]⟩,⟨(some 84),(.un .not (.t 83)),(some (78,true)),[]⟩,⟨(some 85),(.pick (.t 78) (.t 84) (.c (.bool false))),(some (71,false)),[]⟩,⟨(some 86),(.pick (.t 71) (.c (.bool true)) (.t 85)),(some (66,true)),[]⟩,⟨(some 87),(.pick (.t 66) (.t 86) (.c (.bool false))),none,[]⟩,⟨(some 88),(.call 52 0 true [(.t 87),(.c (.int .i64 129))]),none,[]⟩] none [2,0])
def cn9:Zf:=(.region [⟨(some 89),(.mov (.t 2)),none,[]⟩,⟨(some 90),(.mov (.t 0)),none,[]⟩,⟨(some 91),(.call 54 0 true [(.t 90),(.c (.int .i64 2))]),none,[]⟩,⟨(some 92),(.nilchk (.t 89)),none,[]⟩,⟨(some 93),(.faddr 13 (.t 92)),none,[]⟩,⟨none,(.st 1 (.t 93) (.t 91)),none,[]⟩] none [2,0])
def ZiV:Zf:=(.region [⟨(some 94),(.mov (.t 2)),none,[]⟩,⟨(some 95),(.mov (.t 0)),none,[]⟩,⟨(some 96),(.call 56 0 true [(.t 95),(.c (.int .i64 1))]),none,[]⟩,⟨(some 97),(.nilchk (.t 94)),none,[]⟩,⟨(some 98),(.faddr 9 (.t 97)),none,[]⟩,⟨none,(.st 1 (.t 98) (.t 96)),none,[]⟩] none [2,0])
def ZjI:Zf:=(.region [⟨(some 99),(.mov (.t 2)),none,[]⟩,⟨(some 100),(.mov (.t 0)),none,[]⟩,⟨(some 101),(.call 63 0 true [(.t 100)]),none,[]⟩,⟨(some 102),(.nilchk (.t 99)),none,[]⟩,⟨(some 103),(.faddr 14 (.t 102)),none,[]⟩,⟨none,(.st 1 (.t 103) (.t 101)),none,[]⟩] none [2,0])
def Zfk:Zf:=(.seq (.region [⟨(some 104),(.mov (.t 2)),none,[]⟩,⟨(some 105),(.nilchk (.t 104)),none,[]⟩,⟨(some 106),(.faddr 15 (.t 105)),none,[]⟩,⟨(some 107),(.ld none (.t 106)),none,[]⟩] none [107,2,0]) (.cond (.t 107) (.seq (.region [⟨(some 108),(.mov (.t 2)),none,[]⟩,⟨(some 109),(.mov (.t 0)),none,[]⟩,⟨(some 110),(.call 56 0 true [(.t 109),(.c (.int .i64 16))]),none,[]⟩,⟨(some 111),(.nilchk (.t 108)),none,[]⟩,⟨(some 112),(.faddr 16 (.t 111)),none,[]⟩,⟨(some 113),(.faddr 4 (.t 112)),none,[]⟩,⟨none,(.st 1 (.t 113) (.t 110)),none,[]⟩] none [2,0]) (.seq (.region [⟨(some 114),(.mov (.t 2)),none,[]⟩,⟨(some 115),(.mov (.t 0)),none,[]⟩,⟨(some 116),(.call 63 0 true [(.t 115)]),none,[]⟩,⟨(some 117),(.nilchk (.t 114)),none,[]⟩,⟨(some 118),(.faddr 16 (.t 117)),none,[]⟩,⟨(some 119),(.faddr 0 (.t 118)),none,[]⟩,⟨none,(.st 1 (.t 119) (.t 116)),none,[]⟩] none [2,0]) (.region [⟨(some 120),(.mov (.t 2)),none,[]⟩,⟨(some 121),(.mov (.t 0)),none,[]⟩,⟨(some 122),(.call 94 1 false [(.t 121)]),none,[]⟩,⟨(some 123),(.nilchk (.t 120)),none,[]⟩,⟨(some 124),(.faddr 16 (.t 123)),none,[]⟩,⟨(some 125),(.faddr 1 (.t 124)),none,[]⟩,⟨none,(.st 1 (.t 125) (.t 122)),none,[]⟩] none [2,0]))) .skip))
def Zdb:Zf:=(.seq (.region [⟨(some 126),(.mov (.t 2)),none,[]⟩,⟨(some 127),(.nilchk (.t 126)),none,[]⟩,⟨(some 128),(.faddr 21 (.t 127)),none,[]⟩,⟨(some 129),(.ld none (.t 128)),none,[]⟩] none [129,2,0]) (.cond (.t 129) (.region [⟨(some 130),(.mov (.t 2)),none,[]⟩,⟨(some 131),(.mov (.t 0)),none,[]⟩,⟨(some 132),(.call 63 0 true [(.t 131)]),none,[]⟩,⟨(some 133),(.nilchk (.t 130)),none,[]⟩,⟨(some 134),(.faddr 22 (.t 133)),none,[]⟩,⟨none,(.st 1 (.t 134) (.t 132)),none,[]⟩] none [2,0]) .skip))
def Zfd:Zf:=(.region [⟨(some 135),(.mov (.t 2)),none,[]⟩,⟨(some 136),(.nilchk (.t 135)),none,[]⟩,⟨(some 137),(.faddr 23 (.t 136)),none,[]⟩,⟨(some 138),(.ld none (.t 137)),none,[]⟩] none [138,2,0])
def ZcS:Zf:=(.cond (.t 138) (.region [⟨(some 139),(.mov (.t 2)),none,[]⟩,⟨(some 140),(.mov (.t 0)),none,[]⟩,⟨(some 141),(.call 94 1 false [(.t 140)]),none,[]⟩,⟨(some 142),(.nilchk (.t 139)),none,[]⟩,⟨(some 143),(.faddr 24 (.t 142)),none,[]⟩,⟨none,(.st 1 (.t 143) (.t 141)),none,[]⟩] none []) .skip)
theorem ZNO:ZqM=(.seq cn1 (.seq cn2 (.seq cn3 (.seq cn4 (.seq cn5 (.seq cn6 (.seq cn7 (.seq cn8 (.seq cn9 (.seq ZiV (.seq ZjI (.seq Zfk (.seq Zdb (.seq Zfd ZcS)))))))))))))):=rfl
def t20:Tms:=[(2,.ref 0 0),(0,.ref 0 0)]
def ZdJ(m:Int):Tms:=[(3,.int .i64 m),(2,.ref 0 0),(0,.ref 0 0)]
def Zk(a b:Int):Int:=IntKind.i64.wrap (XR IntKind.i64.bits a&&&XR IntKind.i64.bits b).toNat
def Zdq(m:Int):Int:=IntKind.i64.wrap (m.tdiv 8)
section
variable (P:List AVal)(hP:P.length=26)(hN:Ze P=true)(l:Zd)(hl:l.length<=140737488355328)
include hP hN hl
theorem ZHS:evC FC PR BY 1 cn1 [(0,.ref 0 0)] (Zr P l)=some (.normal,t20,Zr P l):=by
 unfold Zr t20
 simp -implicitDefEqProofs only[EQA,Zc,Xc,Xa,reduceCtorEq,↓reduceIte,cn1]
theorem ZBq{r:Zd}(h:Zaf l=.ok ([77,81,84,84],r)):evC FC PR BY 1 cn2 t20 (Zr P l)=some (.normal,t20,Zr P r):=by
 have hT:=fun G sq hs=>Zfl P hP hN l hl G 0 sq hs h
 have m1:=Zbt
 have e1:(([77,81,84,84]:List UInt8)==[77,81,84,84])=true:=by decide
 unfold Zr t20
 simp -implicitDefEqProofs only[EQA,Zc,Xc,Xa,Zc8,reduceCtorEq,↓reduceIte,cn2,hT,m1]
theorem ZIM{a r:Zd}(h:Zaf l=.ok (a,r))(hn:(a==[77,81,84,84])=false):evC FC PR BY 1 cn2 t20 (Zr P l)=some (.panic (ZG 132),[],Zr P r):=by
 have hT:=fun G sq hs=>Zfl P hP hN l hl G 0 sq hs h
 have m1:=ZbS
 unfold Zr t20
 simp -implicitDefEqProofs only[EQA,Zc,Xc,Zc8,reduceCtorEq,↓reduceIte,cn2,hT,m1,hn]
theorem ZC4{c:Int}(h:Zaf l=.error c):evC FC PR BY 1 cn2 t20 (Zr P l)=some (.panic (ZG c),[],Zr P l):=by
 have hT:=fun G sq hs=>ZhY P hP hN l hl G 0 sq hs h
 unfold Zr t20
 simp -implicitDefEqProofs only[EQA,Zc,Xc,reduceCtorEq,↓reduceIte,cn2,hT]
theorem ZTB{r:Zd}(h:Zaw 1 l=.ok (5,r)):evC FC PR BY 1 cn3 t20 (Zr P l)=some (.normal,t20,Zr P r):=by
 have hT:=fun G sq hs=>ZdM P hP hN l hl G 0 sq hs (m:=1) rfl h
 have m1:=Zbt
 have e1:((5:Int)==5)=true:=by decide
 unfold Zr t20
 simp -implicitDefEqProofs only[EQA,Zc,Xc,Xa,reduceCtorEq,↓reduceIte,cn3,hT,m1]
theorem ZGj{a:Int}{r:Zd}(h:Zaw 1 l=.ok (a,r))(hn:(a==5)=false):evC FC PR BY 1 cn3 t20 (Zr P l)=some (.panic (ZG 132),[],Zr P r):=by
 have hT:=fun G sq hs=>ZdM P hP hN l hl G 0 sq hs (m:=1) rfl h
 have m1:=ZbS
 unfold Zr t20
 simp -implicitDefEqProofs only[EQA,Zc,Xc,reduceCtorEq,↓reduceIte,cn3,hT,m1,hn]
theorem ZGH{c:Int}(h:Zaw 1 l=.error c):evC FC PR BY 1 cn3 t20 (Zr P l)=some (.panic (ZG c),[],Zr P l):=by
 have hT:=fun G sq hs=>Zhy P hP hN l hl G 0 sq hs (m:=1) rfl (by decide) h
 unfold Zr t20
 simp -implicitDefEqProofs only[EQA,Zc,Xc,reduceCtorEq,↓reduceIte,cn3,hT]
theorem ZHp{m:Int}{r:Zd}(h:Zaw 1 l=.ok (m,r)):evC FC PR BY 1 cn4 t20 (Zr P l)=some (.normal,ZdJ m,Zr P r):=by
 have hT:=fun G sq hs=>ZdM P hP hN l hl G 0 sq hs (m:=1) rfl h
 unfold Zr t20 ZdJ
 simp -implicitDefEqProofs only[EQA,Zc,Xc,Xa,reduceCtorEq,↓reduceIte,cn4,hT]
theorem ZBy{c:Int}(h:Zaw 1 l=.error c):evC FC PR BY 1 cn4 t20 (Zr P l)=some (.panic (ZG c),[],Zr P l):=by
 have hT:=fun G sq hs=>Zhy P hP hN l hl G 0 sq hs (m:=1) rfl (by decide) h
 unfold Zr t20
 simp -implicitDefEqProofs only[EQA,Zc,Xc,reduceCtorEq,↓reduceIte,cn4,hT]
theorem ZKc(m:Int):evC FC PR BY 1 cn5 (ZdJ m) (Zr P l)=some (.normal,ZdJ m,Zr ((P.set 12 (.bool (Zk m 2 != 0))).set 15 (.bool (Zk m 4 != 0))) l):=by
 have a1:=Zag P hP
 have a3:=fun L=>ZaD P hP 12 13 (by omega) rfl L (.bool (Zk m 2 != 0))
 have hP1:(P.set 12 (.bool (Zk m 2 != 0))).length=26:=by simp[hP]
 have b1:=Zag _ hP1
 have b3:=fun L=>ZaD _ hP1 15 16 (by omega) rfl L (.bool (Zk m 4 != 0))
 unfold Zr ZdJ
 unfold Zk at *
 simp -implicitDefEqProofs only[EQA,Zs,ZE,Zc,Xd,Xc,Xf,Xa,reduceCtorEq,↓reduceIte,cn5,a1,a3,b1,b3]
theorem ZFR(m:Int):evC FC PR BY 1 cn6 (ZdJ m) (Zr P l)=some (.normal,ZdJ m,Zr ((P.set 23 (.bool (Zk m 64 != 0))).set 21 (.bool (Zk m 128 != 0))) l):=by
 have a1:=Zag P hP
 have a3:=fun L=>ZaD P hP 23 24 (by omega) rfl L (.bool (Zk m 64 != 0))
 have hP1:(P.set 23 (.bool (Zk m 64 != 0))).length=26:=by simp[hP]
 have b1:=Zag _ hP1
 have b3:=fun L=>ZaD _ hP1 21 22 (by omega) rfl L (.bool (Zk m 128 != 0))
 unfold Zr ZdJ
 unfold Zk at *
 simp -implicitDefEqProofs only[EQA,Zs,ZE,Zc,Xd,Xc,Xf,Xa,reduceCtorEq,↓reduceIte,cn6,a1,a3,b1,b3]
theorem ZBv(m:Int):evC FC PR BY 1 cn7 (ZdJ m) (Zr P l)=some (.normal,ZdJ m,Zr ((P.set 18 (.int .i64 (Zk (Zdq m) 3))).set 19 (.bool (Zk m 32 != 0))) l):=by
 have a1:=Zag P hP
 have a3:=fun L=>ZaD P hP 18 19 (by omega) rfl L (.int .i64 (Zk (Zdq m) 3))
 have hP1:(P.set 18 (.int .i64 (Zk (Zdq m) 3))).length=26:=by simp[hP]
 have b1:=Zag _ hP1
 have b3:=fun L=>ZaD _ hP1 19 20 (by omega) rfl L (.bool (Zk m 32 != 0))
 have z:¬(8:Int)=0:=by decide
 unfold Zr ZdJ
 unfold Zk Zdq at *
 simp -implicitDefEqProofs only[EQA,Zs,ZE,Zc,Xd,Xc,Xf,Xa,reduceCtorEq,↓reduceIte,cn7,a1,a3,b1,b3,z]
theorem ZVj{n:Int}{r:Zd}(h:Zaw 2 l=.ok (n,r)):evC FC PR BY 1 cn9 t20 (Zr P l)=some (.normal,t20,Zr (P.set 13 (.int .i64 n)) r):=by
 have hT:=fun G sq hs=>ZdM P hP hN l hl G 0 sq hs (m:=2) rfl h
 have a1:=Zag P hP
 have a3:=ZaD P hP 13 14 (by omega) rfl
 unfold Zr t20
 simp -implicitDefEqProofs only[EQA,Zs,ZE,Zc,Xd,Xc,Xf,Xa,reduceCtorEq,↓reduceIte,cn9,hT,a1,a3]
theorem ZKI{c:Int}(h:Zaw 2 l=.error c):evC FC PR BY 1 cn9 t20 (Zr P l)=some (.panic (ZG c),[],Zr P l):=by
 have hT:=fun G sq hs=>Zhy P hP hN l hl G 0 sq hs (m:=2) rfl (by decide) h
 unfold Zr t20
 simp -implicitDefEqProofs only[EQA,Zc,Xc,reduceCtorEq,↓reduceIte,cn9,hT]
theorem ZGg(hu:(Zab 1 l).2.1<=l.length){a:List ZO}{r:Zd}(h:Zbj 1 l=.ok (a,r)):evC FC PR BY 1 ZiV t20 (Zr P l)=some (.normal,t20,Zr (P.set 9 (.lst false (a.map Zu))) r):=by
 have hT:=fun G sq hs=>Zfo P hP hN l hl G 0 sq hs hu h
 have a1:=Zag P hP
 have a3:=ZaD P hP 9 10 (by omega) rfl
 unfold Zr t20
 simp -implicitDefEqProofs only[EQA,Zs,ZE,Zc,Xd,Xc,Xf,Xa,reduceCtorEq,↓reduceIte,ZiV,hT,a1,a3]
theorem ZKq{c:Int}(h:Zbj 1 l=.error c):evC FC PR BY 1 ZiV t20 (Zr P l)=some (.panic (ZG c),[],Zr P l):=by
 have hT:=fun G sq hs=>Zhj P hP hN l hl G 0 sq hs h
 unfold Zr t20
 simp -implicitDefEqProofs only[EQA,Zc,Xc,reduceCtorEq,↓reduceIte,ZiV,hT]
theorem ZOM{a r:Zd}(h:Zaf l=.ok (a,r)):evC FC PR BY 1 ZjI t20 (Zr P l)=some (.normal,t20,Zr (P.set 14 (.str a)) r):=by
 have hT:=fun G sq hs=>Zfl P hP hN l hl G 0 sq hs h
 have a1:=Zag P hP
 have a3:=ZaD P hP 14 15 (by omega) rfl
 unfold Zr t20
 simp -implicitDefEqProofs only[EQA,Zs,ZE,Zc,Xd,Xc,Xf,Xa,reduceCtorEq,↓reduceIte,ZjI,hT,a1,a3]
theorem ZRD{c:Int}(h:Zaf l=.error c):evC FC PR BY 1 ZjI t20 (Zr P l)=some (.panic (ZG c),[],Zr P l):=by
 have hT:=fun G sq hs=>ZhY P hP hN l hl G 0 sq hs h
 unfold Zr t20
 simp -implicitDefEqProofs only[EQA,Zc,Xc,reduceCtorEq,↓reduceIte,ZjI,hT]
end
def ZgL(m q:Int)(hw rt:Bool):Bool:=(Zk m 1==0)&&decide (q<3)&&(hw ||((q==0) && !rt))
section
variable (P:List AVal)(hP:P.length=26)(hN:Ze P=true)(l:Zd)(hl:l.length<=140737488355328)
variable (m q:Int)(hw rt:Bool)(h15:P[15]?=some (.bool hw))(h18:P[18]?=some (.int .i64 q))(h19:P[19]?=some (.bool rt))
include hP hN hl h15 h18 h19
theorem ZOW(h:ZgL m q hw rt=true):evC FC PR BY 1 cn8 (ZdJ m) (Zr P l)=some (.normal,t20,Zr P l):=by
 have a4:=fun L=>(Zap P hP 15 (by omega) L).trans h15
 have a5:=fun L=>(Zap P hP 18 (by omega) L).trans h18
 have a6:=fun L=>(Zap P hP 19 (by omega) L).trans h19
 have m1:=Zbt
 unfold ZgL Zk at h
 simp only[Xk,decide_eq_true_eq,Bool.or_eq_true]at h
 obtain⟨⟨e1,e2⟩,e3⟩:=h
 unfold Zr ZdJ t20
 cases hw
 ·simp only[Xi,false_or]at e3
  obtain⟨e3,e4⟩:=e3
  cases rt
  ·simp -implicitDefEqProofs only[EQA,Zc,Xd,Xc,Xa,unA,Zy,unG,reduceCtorEq,↓reduceIte,cn8,a4,a5,a6,m1,e1,e2,e3]
  ·cases e4
 ·simp -implicitDefEqProofs only[EQA,Zc,Xd,Xc,Xa,Zy,Z6,unG,reduceCtorEq,↓reduceIte,cn8,a4,a5,m1,e1,e2]
theorem ZID(h:ZgL m q hw rt=false):evC FC PR BY 1 cn8 (ZdJ m) (Zr P l)=some (.panic (ZG 129),[],Zr P l):=by
 have a4:=fun L=>(Zap P hP 15 (by omega) L).trans h15
 have a5:=fun L=>(Zap P hP 18 (by omega) L).trans h18
 have a6:=fun L=>(Zap P hP 19 (by omega) L).trans h19
 have m1:=ZbS
 unfold ZgL Zk at h
 unfold Zr ZdJ
 by_cases e1:(IntKind.i64.wrap (XR IntKind.i64.bits m&&&XR IntKind.i64.bits 1).toNat==0)=true
 ·rw[e1]at h
  by_cases e2:q<3
  ·cases hw
   ·by_cases e3:(q==0)=true
    ·cases rt
     ·grind
     ·simp -implicitDefEqProofs only[EQA,Zc,Xd,Xc,Xa,unA,Zy,unG,reduceCtorEq,↓reduceIte,cn8,a4,a5,a6,m1,e1,e2,e3]
    ·have e3:=Wm _ |>.mp e3
     simp -implicitDefEqProofs only[EQA,Zc,Xd,Xc,Xa,Zy,Z6,unG,reduceCtorEq,↓reduceIte,cn8,a4,a5,m1,e1,e2,e3]
   grind
  ·simp -implicitDefEqProofs only[EQA,Zc,Xd,Xc,Xa,Zy,Z6,unG,reduceCtorEq,↓reduceIte,cn8,a5,m1,e1,e2]
 ·have e1:=Wm _ |>.mp e1
  simp -implicitDefEqProofs only[EQA,Zc,Xc,Xa,Zy,Z6,reduceCtorEq,↓reduceIte,cn8,m1,e1]
end
def ZcZ(n:Nat):Tms:=[(n,.bool false),(2,.ref 0 0),(0,.ref 0 0)]
def ZhT(P:List AVal)(ps:List ZO)(tp:Zd):List AVal:=(P.set 20 (.lst false (ps.map Zu))).set 16 (.str tp)
def ZeT(l:Zd):Except Int (List ZO×Zd×Zd×Zd):=match Zbj 16 l with
 | .error c=>.error c
 | .ok (ps,r1)=>match Zaf r1 with
  | .error c=>.error c
  | .ok (tp,r2)=>match ZbJ r2 with
   | .error c=>.error c
   | .ok (d,r3)=>.ok (ps,tp,d,r3)
section
variable (P:List AVal)(hP:P.length=26)(hN:Ze P=true)(l:Zd)(hl:l.length<=140737488355328)
include hP hN hl
theorem ZDt(h15:P[15]?=some (.bool false)):evC FC PR BY 1 Zfk t20 (Zr P l)=some (.normal,ZcZ 107,Zr P l):=by
 have a4:=fun L=>(Zap P hP 15 (by omega) L).trans h15
 unfold Zr t20 ZcZ
 simp -implicitDefEqProofs only[EQA,Zc,Xc,Xa,reduceCtorEq,↓reduceIte,Zfk,a4]
theorem ZH2(h15:P[15]?=some (.bool true))(hu:(Zab 16 l).2.1<=l.length){ps:List ZO}{tp d r:Zd}(h:ZeT l=.ok (ps,tp,d,r)):evC FC PR BY 1 Zfk t20 (Zr P l)=some (.normal,t20,Zbu (ZhT P ps tp) [(17,d)] r):=by
 have a1:=Zag P hP
 have a4:=fun L=>(Zap P hP 15 (by omega) L).trans h15
 unfold ZeT at h
 split at h
 ·cases h
 rename_i ps' r1 hp
 split at h
 ·cases h
 rename_i tp' r2 ht
 split at h
 ·cases h
 rename_i d' r3 hd
 have l1:=ZgT hp
 have l2:=ZdP ht
 injection h with h;injection h with e1 h;injection h with e2 h;injection h with e3 e4;subst e1 e2 e3 e4
 have hG:=fun G sq hs=>Zfo P hP hN l hl G 0 sq hs hu hp
 have a3:=fun L=>ZaD P hP 20 21 (by omega) rfl L (.lst false (ps'.map Zu))
 unfold ZhT
 have hP1:(P.set 20 (.lst false (ps'.map Zu))).length=26:=by simp[hP]
 have hN1:Ze (P.set 20 (.lst false (ps'.map Zu)))=true:=Z7 (ZdE _ _) 20 hN
 generalize P.set 20 (.lst false (ps'.map Zu))=Q at *
 have hT:=fun G sq hs=>Zfl Q hP1 hN1 r1 (by omega) G 0 sq hs ht
 have b1:=Zag _ hP1
 have b3:=fun L=>ZaD _ hP1 16 17 (by omega) rfl L (.str tp')
 have hP2:(Q.set 16 (.str tp')).length=26:=by simp[hP1]
 have hN2:Ze (Q.set 16 (.str tp'))=true:=Z7 rfl 16 hN1
 generalize Q.set 16 (.str tp')=R at *
 have hD:=fun G sq hs hff=>Zv3 R hP2 hN2 r2 (by omega) G 0 sq hs hff hd
 have c1:=Zag _ hP2
 have c3:=ZaD _ hP2 17 18 (by omega) rfl
 unfold Zr t20 Zbu ZgU
 simp only[ZeQ,Xu,XC]
 simp -implicitDefEqProofs only[EQA,Zs,ZE,Zc,Xd,Xc,Xf,Xa,Xg,reduceCtorEq,↓reduceIte,Zfk,a1,a3,a4,b1,b3,c1,c3,hG,hT,hD,Zaj]
theorem ZDr(h15:P[15]?=some (.bool true))(hu:(Zab 16 l).2.1<=l.length){c:Int}(h:ZeT l=.error c):∃ H,ZgM H/\evC FC PR BY 1 Zfk t20 (Zr P l)=some (.panic (ZG c),[],H):=by
 have a1:=Zag P hP
 have a4:=fun L=>(Zap P hP 15 (by omega) L).trans h15
 unfold ZeT at h
 split at h
 ·rename_i c' hp
  injection h with h;subst h
  have hG:=fun G sq hs=>Zhj P hP hN l hl G 0 sq hs hp
  refine⟨_,Zlj [] (ZK P hP hN l),?_⟩
  unfold Zr t20
  simp -implicitDefEqProofs only[EQA,Zc,Xc,Xa,reduceCtorEq,↓reduceIte,Zfk,a4,hG]
 rename_i ps' r1 hp
 have l1:=ZgT hp
 have hG:=fun G sq hs=>Zfo P hP hN l hl G 0 sq hs hu hp
 have a3:=fun L=>ZaD P hP 20 21 (by omega) rfl L (.lst false (ps'.map Zu))
 have hP1:(P.set 20 (.lst false (ps'.map Zu))).length=26:=by simp[hP]
 have hN1:Ze (P.set 20 (.lst false (ps'.map Zu)))=true:=Z7 (ZdE _ _) 20 hN
 generalize P.set 20 (.lst false (ps'.map Zu))=Q at *
 have b1:=Zag _ hP1
 split at h
 ·rename_i c' ht
  injection h with h;subst h
  have hT:=fun G sq hs=>ZhY Q hP1 hN1 r1 (by omega) G 0 sq hs ht
  refine⟨_,Zlj [] (ZK Q hP1 hN1 r1),?_⟩
  unfold Zr t20
  simp -implicitDefEqProofs only[EQA,Zs,ZE,Zc,Xd,Xc,Xf,Xa,reduceCtorEq,↓reduceIte,Zfk,a1,a3,a4,hG,hT]
 rename_i tp' r2 ht
 have l2:=ZdP ht
 have hT:=fun G sq hs=>Zfl Q hP1 hN1 r1 (by omega) G 0 sq hs ht
 have b3:=fun L=>ZaD _ hP1 16 17 (by omega) rfl L (.str tp')
 have hP2:(Q.set 16 (.str tp')).length=26:=by simp[hP1]
 have hN2:Ze (Q.set 16 (.str tp'))=true:=Z7 rfl 16 hN1
 generalize Q.set 16 (.str tp')=R at *
 split at h
 ·rename_i c' hd
  injection h with h;subst h
  have hD:=fun G sq hs hff=>Zxf R hP2 hN2 r2 (by omega) G 0 sq hs hff hd
  refine⟨_,Zlj [.free] (ZK R hP2 hN2 r2),?_⟩
  unfold Zr t20
  simp -implicitDefEqProofs only[EQA,Zs,ZE,Zc,Xd,Xc,Xf,Xa,Xg,reduceCtorEq,↓reduceIte,Zfk,a1,a3,a4,b1,b3,hG,hT,hD,Zaj]
 ·cases h
theorem ZCU{tm:Tms}(ht:tm=t20\/tm=ZcZ 107)(h21:P[21]?=some (.bool false)):evC FC PR BY 1 Zdb tm (Zr P l)=some (.normal,ZcZ 129,Zr P l):=by
 have a4:=fun L=>(Zap P hP 21 (by omega) L).trans h21
 rcases ht with rfl |rfl<;>unfold Zr ZcZ<;>try unfold t20
 all_goals simp -implicitDefEqProofs only[EQA,Zc,Xc,Xa,reduceCtorEq,↓reduceIte,Zdb,a4]
theorem ZHk{tm:Tms}(htm:tm=t20\/tm=ZcZ 107)(h21:P[21]?=some (.bool true)){a r:Zd}(h:Zaf l=.ok (a,r)):evC FC PR BY 1 Zdb tm (Zr P l)=some (.normal,t20,Zr (P.set 22 (.str a)) r):=by
 have a1:=Zag P hP
 have a4:=fun L=>(Zap P hP 21 (by omega) L).trans h21
 have hT:=fun G sq hs=>Zfl P hP hN l hl G 0 sq hs h
 have a3:=ZaD P hP 22 23 (by omega) rfl
 rcases htm with rfl |rfl<;>unfold Zr t20<;>try unfold ZcZ
 all_goals simp -implicitDefEqProofs only[EQA,Zs,ZE,Zc,Xd,Xc,Xf,Xa,reduceCtorEq,↓reduceIte,Zdb,a1,a3,a4,hT]
theorem ZG4{tm:Tms}(htm:tm=t20\/tm=ZcZ 107)(h21:P[21]?=some (.bool true)){c:Int}(h:Zaf l=.error c):evC FC PR BY 1 Zdb tm (Zr P l)=some (.panic (ZG c),[],Zr P l):=by
 have a4:=fun L=>(Zap P hP 21 (by omega) L).trans h21
 have hT:=fun G sq hs=>ZhY P hP hN l hl G 0 sq hs h
 rcases htm with rfl |rfl<;>unfold Zr<;>first |unfold ZcZ |unfold t20
 all_goals simp -implicitDefEqProofs only[EQA,Zc,Xc,Xa,reduceCtorEq,↓reduceIte,Zdb,a4,hT]
theorem ZUR{tm:Tms}{b:Bool}(htm:tm=t20\/tm=ZcZ 129)(h23:P[23]?=some (.bool b)):evC FC PR BY 1 Zfd tm (Zr P l)=some (.normal,[(138,.bool b),(2,.ref 0 0),(0,.ref 0 0)],Zr P l):=by
 have a4:=fun L=>(Zap P hP 23 (by omega) L).trans h23
 rcases htm with rfl |rfl<;>unfold Zr<;>first |unfold ZcZ |unfold t20
 all_goals simp -implicitDefEqProofs only[EQA,Zc,Xc,Xa,reduceCtorEq,↓reduceIte,Zfd,a4]
theorem ZNg:KRun ZcS [(138,.bool false),(2,.ref 0 0),(0,.ref 0 0)] (Zr P l) l.length (.ok (P,[],l)):=by
 refine⟨[(138,.bool false),(2,.ref 0 0),(0,.ref 0 0)],?_,hP,hN,Xq rfl,XH _⟩
 unfold Zr
 simp -implicitDefEqProofs only[Zp5,eq_self,Opd.ev,tget,Xi,Xb,↓reduceIte,ZcS]
 rfl
theorem ZK0{a r:Zd}(h:ZbJ l=.ok (a,r)):KRun ZcS [(138,.bool true),(2,.ref 0 0),(0,.ref 0 0)] (Zr P l) l.length (.ok (P,[(24,a)],r)):=by
 have a1:=Zag P hP
 have hT:=fun G sq hs hff=>Zv3 P hP hN l hl G 0 sq hs hff h
 have a3:=ZaD P hP 24 25 (by omega) rfl
 refine⟨[],?_,hP,hN,Xt (Xt (Xq ⟨a,rfl⟩)),Zsr h⟩
 unfold Zr Zbu ZgU
 simp only[ZeQ,Xu,XC]
 simp -implicitDefEqProofs only[EQA,Zs,ZE,Zc,Xd,Xc,Xf,Xa,Xg,reduceCtorEq,↓reduceIte,ZcS,a1,a3,hT,Zaj]
theorem ZLj{c:Int}(h:ZbJ l=.error c):∃ tm2 H2,ZgM H2/\evC FC PR BY 1 ZcS [(138,.bool true),(2,.ref 0 0),(0,.ref 0 0)] (Zr P l)=some (.panic (ZG c),tm2,H2):=by
 have hT:=fun G sq hs hff=>Zxf P hP hN l hl G 0 sq hs hff h
 refine⟨[],_,Zlj [.free] (ZK P hP hN l),?_⟩
 unfold Zr
 simp -implicitDefEqProofs only[EQA,Zc,Xd,Xc,Xa,Xg,reduceCtorEq,↓reduceIte,ZcS,hT,Zaj]
end
section
variable (Q:List AVal)(hQ:Q.length=26)(hN:Ze Q=true)(d:Zd)(l:Zd)(hl:l.length<=140737488355328)
include hQ hN hl
theorem Zg1:Zbu Q [(17,d)] l=[.var (Zi Q 17 1 0 d.length++[.lnt l]),.row 0 1 (d.map Zh)]:=rfl
theorem ZnY{k:Nat}{v:AVal}(hk:k<26)(h17:k≠17)(h:Q[k]?=some v)(L:AVal):(Zi Q 17 1 0 d.length++[L])[k]?=some v :=
 (Zap _ (Zbp Q hQ hN 17 (by omega) _ 1 0) k hk L).trans (by unfold Zi;grind)
theorem ZSI(h21:Q[21]?=some (.bool false)):evC FC PR BY 1 Zdb t20 (Zbu Q [(17,d)] l)=some (.normal,ZcZ 129,Zbu Q [(17,d)] l):=by
 have a4:=ZnY Q hQ hN d l hl (k:=21) (by omega) (by omega) h21
 rw[Zg1 Q hQ hN d l hl]
 unfold t20 ZcZ
 simp -implicitDefEqProofs only[EQA,Zc,Xd,Xc,Xa,reduceCtorEq,↓reduceIte,Zdb,a4]
theorem ZKQ(h21:Q[21]?=some (.bool true)){a r:Zd}(h:Zaf l=.ok (a,r)):evC FC PR BY 1 Zdb t20 (Zbu Q [(17,d)] l)=some (.normal,t20,Zbu (Q.set 22 (.str a)) [(17,d)] r):=by
 have hL:=Zbp Q hQ hN 17 (by omega) d.length 1 0
 have a1:=Zag _ hL
 have a4:=ZnY Q hQ hN d l hl (k:=21) (by omega) (by omega) h21
 have hT:=fun G sq hs hr=>Zny Q hQ hN 17 (by omega) d.length 1 (d.map Zh) l hl G 0 1 0 sq (by omega) hs hr h
 have a3:=fun L=>ZaD _ hL 22 23 (by omega) rfl L (.str a)
 rw[Zg1 Q hQ hN d l hl,Zg1 (Q.set 22 (.str a)) (by simp[hQ]) (Z7 rfl 22 hN) d r (by have:=ZdP h;omega)]
 rw[show Zi (Q.set 22 (.str a)) 17 1 0 d.length=(Zi Q 17 1 0 d.length).set 22 (.str a)from by unfold Zi;rw[Wj _ _ (by omega)]]
 unfold t20
 simp -implicitDefEqProofs only[EQA,Zs,ZE,Zc,Xd,Xc,Xf,Xa,reduceCtorEq,↓reduceIte,Zdb,a1,a3,a4,hT]
theorem ZKM(h21:Q[21]?=some (.bool true)){c:Int}(h:Zaf l=.error c):evC FC PR BY 1 Zdb t20 (Zbu Q [(17,d)] l)=some (.panic (ZG c),[],Zbu Q [(17,d)] l):=by
 have a4:=ZnY Q hQ hN d l hl (k:=21) (by omega) (by omega) h21
 have hT:=fun G sq hs hr=>Zua Q hQ hN 17 (by omega) d.length 1 (d.map Zh) l hl G 0 1 0 sq (by omega) hs hr h
 rw[Zg1 Q hQ hN d l hl]
 unfold t20
 simp -implicitDefEqProofs only[EQA,Zc,Xd,Xc,Xa,reduceCtorEq,↓reduceIte,Zdb,a4,hT]
theorem ZB0{tm:Tms}{b:Bool}(htm:tm=t20\/tm=ZcZ 129)(h23:Q[23]?=some (.bool b)):evC FC PR BY 1 Zfd tm (Zbu Q [(17,d)] l)=some (.normal,[(138,.bool b),(2,.ref 0 0),(0,.ref 0 0)],Zbu Q [(17,d)] l):=by
 have a4:=ZnY Q hQ hN d l hl (k:=23) (by omega) (by omega) h23
 rw[Zg1 Q hQ hN d l hl]
 rcases htm with rfl |rfl<;>first |unfold ZcZ |unfold t20
 all_goals simp -implicitDefEqProofs only[EQA,Zc,Xd,Xc,Xa,reduceCtorEq,↓reduceIte,Zfd,a4]
theorem ZPc:KRun ZcS [(138,.bool false),(2,.ref 0 0),(0,.ref 0 0)] (Zbu Q [(17,d)] l) l.length (.ok (Q,[(17,d)],l)):=by
 refine⟨[(138,.bool false),(2,.ref 0 0),(0,.ref 0 0)],?_,hQ,hN,Xt (Xq ⟨d,rfl⟩),XH _⟩
 rw[Zg1 Q hQ hN d l hl]
 simp -implicitDefEqProofs only[Zp5,eq_self,Opd.ev,tget,Xi,↓reduceIte,ZcS]
theorem ZMs{a r:Zd}(h:ZbJ l=.ok (a,r)):KRun ZcS [(138,.bool true),(2,.ref 0 0),(0,.ref 0 0)] (Zbu Q [(17,d)] l) l.length (.ok (Q,[(17,d),(24,a)],r)):=by
 have hL:=Zbp Q hQ hN 17 (by omega) d.length 1 0
 have a1:=Zag _ hL
 have hT:=fun G sq hs hr hff=>ZK1 Q hQ hN 17 (by omega) d.length 1 (d.map Zh) l hl G 0 1 0 sq (by omega) hs hr hff h
 have a3:=fun L=>ZaD _ hL 24 25 (by omega) rfl L (.sl 2 0 0 a.length)
 refine⟨[],?_,hQ,hN,Xt (Xt (Xt ⟨d,a,rfl⟩)),Zsr h⟩
 rw[Zg1 Q hQ hN d l hl]
 have e:Zbu Q [(17,d),(24,a)] r=[.var ((Zi Q 17 1 0 d.length).set 24 (.sl 2 0 0 a.length)++[.lnt r]),.row 0 1 (d.map Zh),.row 0 1 (a.map Zh)]:=by
  unfold Zbu ZgU Zi
  simp only[ZeQ,Xu,XC]
  rw[Wj _ _ (by omega)]
 rw[e]
 simp -implicitDefEqProofs only[EQA,Zs,ZE,Zc,Xd,Xc,Xf,Xa,Xg,reduceCtorEq,↓reduceIte,ZcS,a1,a3,hT,Zaj]
theorem ZCP{c:Int}(h:ZbJ l=.error c):∃ tm2 H2,ZgM H2/\evC FC PR BY 1 ZcS [(138,.bool true),(2,.ref 0 0),(0,.ref 0 0)] (Zbu Q [(17,d)] l)=some (.panic (ZG c),tm2,H2):=by
 have hT:=fun G sq hs hr hff=>ZN6 Q hQ hN 17 (by omega) d.length 1 (d.map Zh) l hl G 0 1 0 sq (by omega) hs hr hff h
 refine⟨[],_,ZAz (d:=d) (l:=l) [.free] hQ hN,?_⟩
 rw[Zg1 Q hQ hN d l hl]
 simp -implicitDefEqProofs only[EQA,Zc,Xd,Xc,Xa,Xg,reduceCtorEq,↓reduceIte,ZcS,hT,Zaj]
end
def Zb1(P:List AVal)(m:Int):List AVal:=((((((P.set 12 (.bool (Zk m 2 != 0))).set 15 (.bool (Zk m 4 != 0))).set 23 (.bool (Zk m 64 != 0))).set 21 (.bool (Zk m 128 != 0))).set 18 (.int .i64 (Zk (Zdq m) 3))).set 19 (.bool (Zk m 32 != 0)))
def ZjF(P:List AVal)(k:Int)(ps:List ZO)(cl:Zd):List AVal:=((P.set 13 (.int .i64 k)).set 9 (.lst false (ps.map Zu))).set 14 (.str cl)
def ZgW(b:Bool)(s:KSt):Except Int KSt:=if b=true then(match ZbJ s.2.2 with
 | .error c=>.error c
 | .ok (d,r)=>.ok (s.1,s.2.1++[(24,d)],r))else .ok s
def ZfW(b:Bool)(s:KSt):Except Int KSt:=if b=true then(match Zaf s.2.2 with
 | .error c=>.error c
 | .ok (d,r)=>.ok (s.1.set 22 (.str d),s.2.1,r))else .ok s
def ZhL(b:Bool)(s:KSt):Except Int KSt:=if b=true then(match ZeT s.2.2 with
 | .error c=>.error c
 | .ok (ps,tp,d,r)=>.ok (ZhT s.1 ps tp,[(17,d)],r))else .ok s
def Zj6(m:Int)(s:KSt):Except Int KSt:=match ZhL (Zk m 4 != 0) s with
 | .error c=>.error c
 | .ok s=>match ZfW (Zk m 128 != 0) s with
  | .error c=>.error c
  | .ok s=>ZgW (Zk m 64 != 0) s
def ZjY(P:List AVal)(m:Int)(l:Zd):Except Int KSt:=match Zaw 2 l with
 | .error c=>.error c
 | .ok (k,r4)=>match Zbj 1 r4 with
  | .error c=>.error c
  | .ok (ps,r5)=>match Zaf r5 with
   | .error c=>.error c
   | .ok (cl,r6)=>Zj6 m (ZjF (Zb1 P m) k ps cl,[],r6)
def Zlz(P:List AVal)(l:Zd):Except Int KSt:=match Zaf l with
 | .error c=>.error c
 | .ok (s,r1)=>if(s==[77,81,84,84])=true then(match Zaw 1 r1 with
  | .error c=>.error c
  | .ok (v,r2)=>if(v==5)=true then(match Zaw 1 r2 with
   | .error c=>.error c
   | .ok (m,r3)=>if ZgL m (Zk (Zdq m) 3) (Zk m 4 != 0) (Zk m 32 != 0)=true then ZjY P m r3 else .error 129)
   else .error 132)
  else .error 132
theorem Zvo(P:List AVal)(hP:P.length=26)(hN:Ze P=true)(l:Zd)(hl:l.length<=140737488355328){tm:Tms}{b:Bool}(htm:tm=t20\/tm=ZcZ 129)(h23:P[23]?=some (.bool b)):KRun (.seq Zfd ZcS) tm (Zr P l) l.length (ZgW b (P,[],l)):=by
 refine KRun.seqT (ZUR P hP hN l hl htm h23) (XH _) ?_
 unfold ZgW
 cases b
 ·exact ZNg P hP hN l hl
 ·rw[if_pos rfl]
  cases h:ZbJ l with
  |error c =>
   simp only[]
   exact⟨[],ZLj P hP hN l hl h⟩
  |ok a =>
   simp only[]
   exact ZK0 P hP hN l hl h
theorem ZxI(P:List AVal)(hP:P.length=26)(hN:Ze P=true)(d l:Zd)(hl:l.length<=140737488355328){tm:Tms}{b:Bool}(htm:tm=t20\/tm=ZcZ 129)(h23:P[23]?=some (.bool b)):KRun (.seq Zfd ZcS) tm (Zbu P [(17,d)] l) l.length (ZgW b (P,[(17,d)],l)):=by
 refine KRun.seqT (ZB0 P hP hN d l hl htm h23) (XH _) ?_
 unfold ZgW
 cases b
 ·exact ZPc P hP hN d l hl
 ·rw[if_pos rfl]
  cases h:ZbJ l with
  |error c =>
   simp only[]
   exact⟨[],ZCP P hP hN d l hl h⟩
  |ok a =>
   simp only[]
   exact ZMs P hP hN d l hl h
theorem ZO0(P:List AVal)(hP:P.length=26)(hN:Ze P=true)(l:Zd)(hl:l.length<=140737488355328){b bp:Bool}(h21:P[21]?=some (.bool b))(h23:P[23]?=some (.bool bp)):KRun (.seq Zdb (.seq Zfd ZcS)) (ZcZ 107) (Zr P l) l.length (match ZfW b (P,[],l)with
  | .error c=>.error c
  | .ok s=>ZgW bp s):=by
 unfold ZfW
 cases b
 ·rw[if_neg (by simp)]
  refine KRun.seqT (ZCU P hP hN l hl (Xt rfl) h21) (XH _) ?_
  exact Zvo P hP hN l hl (Xt rfl) h23
 ·rw[if_pos rfl]
  cases h:Zaf l with
  |error c =>
   simp only[]
   exact KRun.seqF (Zf0 hN) (ZG4 P hP hN l hl (Xt rfl) h21 h)
  |ok a =>
   have hr:=ZdP h
   simp only[]
   refine KRun.seqT (ZHk P hP hN l hl (Xt rfl) h21 h) hr ?_
   exact Zvo _ (by simp[hP]) (Z7 rfl 22 hN) a.2 (by omega) (Xq rfl) (by grind)
theorem ZRm(P:List AVal)(hP:P.length=26)(hN:Ze P=true)(d l:Zd)(hl:l.length<=140737488355328){b bp:Bool}(h21:P[21]?=some (.bool b))(h23:P[23]?=some (.bool bp)):KRun (.seq Zdb (.seq Zfd ZcS)) t20 (Zbu P [(17,d)] l) l.length (match ZfW b (P,[(17,d)],l)with
  | .error c=>.error c
  | .ok s=>ZgW bp s):=by
 unfold ZfW
 cases b
 ·rw[if_neg (by simp)]
  refine KRun.seqT (ZSI P hP hN d l hl h21) (XH _) ?_
  exact ZxI P hP hN d l hl (Xt rfl) h23
 ·rw[if_pos rfl]
  cases h:Zaf l with
  |error c =>
   simp only[]
   exact KRun.seqF (by have:=ZAz (d:=d) (l:=l) [] hP hN;rwa [Xr]at this) (ZKM P hP hN d l hl h21 h)
  |ok a =>
   have hr:=ZdP h
   simp only[]
   refine KRun.seqT (ZKQ P hP hN d l hl h21 h) hr ?_
   exact ZxI _ (by simp[hP]) (Z7 rfl 22 hN) d a.2 (by omega) (Xq rfl) (by grind)
theorem ZMW{l:Zd}{ps:List ZO}{tp d r:Zd}(h:ZeT l=.ok (ps,tp,d,r)):r.length<=l.length:=by
 unfold ZeT at h
 split at h
 ·cases h
 rename_i h1
 split at h
 ·cases h
 rename_i h2
 split at h
 ·cases h
 rename_i h3
 injection h with h;injection h with e1 h;injection h with e2 h;injection h with e3 e4;subst e4
 have:=ZgT h1;have:=ZdP h2;have:=Zsr h3
 omega
theorem ZNZ(P:List AVal)(hP:P.length=26)(hN:Ze P=true)(l:Zd)(hl:l.length<=140737488355328){m:Int}(hu:(Zab 16 l).2.1<=l.length)(h15:P[15]?=some (.bool (Zk m 4 != 0)))(h21:P[21]?=some (.bool (Zk m 128 != 0)))(h23:P[23]?=some (.bool (Zk m 64 != 0))):KRun (.seq Zfk (.seq Zdb (.seq Zfd ZcS))) t20 (Zr P l) l.length (Zj6 m (P,[],l)):=by
 unfold Zj6 ZhL
 cases hb:(Zk m 4 != 0)
 ·rw[hb]at h15
  rw[if_neg (by simp)]
  refine KRun.seqT (ZDt P hP hN l hl h15) (XH _) ?_
  exact ZO0 P hP hN l hl h21 h23
 ·rw[hb]at h15
  rw[if_pos rfl]
  cases h:ZeT l with
  |error c =>
   obtain⟨H,h1,h2⟩:=ZDr P hP hN l hl h15 hu h
   simp only[]
   exact KRun.seqF h1 h2
  |ok a =>
   obtain⟨ps,tp,d,r⟩:=a
   have hr:=ZMW h
   simp only[]
   refine KRun.seqT (ZH2 P hP hN l hl h15 hu h) hr ?_
   refine ZRm _ (by simp[hP]) (Z7 rfl 16 (Z7 (ZdE _ _) 20 hN)) d r (by omega) ?_ ?_
   ·grind
   grind
theorem ZU5(P:List AVal)(hP:P.length=26)(hN:Ze P=true)(l:Zd)(hl:l.length<=140737488355328){m:Int}(hu1:∀ r:Zd,r.length<=140737488355328->(Zab 1 r).2.1<=r.length)(hu:∀ r:Zd,r.length<=140737488355328->(Zab 16 r).2.1<=r.length):KRun (.seq cn9 (.seq ZiV (.seq ZjI (.seq Zfk (.seq Zdb (.seq Zfd ZcS)))))) t20 (Zr (Zb1 P m) l) l.length (ZjY P m l):=by
 have hM:(Zb1 P m).length=26:=by simp[Zb1,hP]
 have hMN:Ze (Zb1 P m)=true:=Z7 rfl _ (Z7 rfl _ (Z7 rfl _ (Z7 rfl _ (Z7 rfl _ (Z7 rfl _ hN)))))
 have g15:(Zb1 P m)[15]?=some (.bool (Zk m 4 != 0)):=by simp[Zb1,hP]
 have g21:(Zb1 P m)[21]?=some (.bool (Zk m 128 != 0)):=by simp[Zb1,hP]
 have g23:(Zb1 P m)[23]?=some (.bool (Zk m 64 != 0)):=by simp[Zb1,hP]
 unfold ZjY ZjF
 generalize Zb1 P m=M at *
 cases h1:Zaw 2 l with
 |error c=>exact KRun.seqF (Zf0 hMN) (ZKI M hM hMN l hl h1)
 |ok a =>
 obtain⟨k,r4⟩:=a
 have l1:=Ziz h1
 refine KRun.seqT (ZVj M hM hMN l hl h1) l1 ?_
 have hM1:(M.set 13 (.int .i64 k)).length=26:=by simp[hM]
 have hN1:Ze (M.set 13 (.int .i64 k))=true:=Z7 rfl 13 hMN
 simp only
 cases h2:Zbj 1 r4 with
 |error c=>exact KRun.seqF (Zf0 hN1) (ZKq _ hM1 hN1 r4 (by omega) h2)
 |ok a =>
 obtain⟨ps,r5⟩:=a
 have l2:=ZgT h2
 refine KRun.seqT (ZGg _ hM1 hN1 r4 (by omega) (hu1 r4 (by omega)) h2) l2 ?_
 have hM2:((M.set 13 (.int .i64 k)).set 9 (.lst false (ps.map Zu))).length=26:=by simp[hM]
 have hN2:Ze ((M.set 13 (.int .i64 k)).set 9 (.lst false (ps.map Zu)))=true:=Z7 (ZdE _ _) 9 hN1
 simp only
 cases h3:Zaf r5 with
 |error c=>exact KRun.seqF (Zf0 hN2) (ZRD _ hM2 hN2 r5 (by omega) h3)
 |ok a =>
 obtain⟨cl,r6⟩:=a
 have l3:=ZdP h3
 refine KRun.seqT (ZOM _ hM2 hN2 r5 (by omega) h3) l3 ?_
 refine ZNZ _ (by simp[hM]) (Z7 rfl 14 hN2) r6 (by omega) (hu r6 (by omega)) ?_ ?_ ?_
 ·grind
 ·grind
 grind
theorem ZOr(P:List AVal)(hP:P.length=26)(hN:Ze P=true)(l:Zd)(hl:l.length<=140737488355328)(hu1:∀ r:Zd,r.length<=140737488355328->(Zab 1 r).2.1<=r.length)(hu:∀ r:Zd,r.length<=140737488355328->(Zab 16 r).2.1<=r.length):KRun ZqM [(0,.ref 0 0)] (Zr P l) l.length (Zlz P l):=by
 rw[ZNO]
 refine KRun.seqT (ZHS P hP hN l hl) (XH _) ?_
 unfold Zlz
 cases h1:Zaf l with
 |error c=>exact KRun.seqF (Zf0 hN) (ZC4 P hP hN l hl h1)
 |ok a =>
 obtain⟨s,r1⟩:=a
 have l1:=ZdP h1
 simp only
 split
 case isFalse hs=>exact KRun.seqF (Zf0 hN) (ZIM P hP hN l hl h1 (Wm _ |>.mp hs))
 rename_i hs
 have hs:=eq_of_beq hs
 subst hs
 refine KRun.seqT (ZBq P hP hN l hl h1) l1 ?_
 cases h2:Zaw 1 r1 with
 |error c=>exact KRun.seqF (Zf0 hN) (ZGH P hP hN r1 (by omega) h2)
 |ok a =>
 obtain⟨v,r2⟩:=a
 have l2:=Ziz h2
 simp only
 split
 case isFalse hs=>exact KRun.seqF (Zf0 hN) (ZGj P hP hN r1 (by omega) h2 (Wm _ |>.mp hs))
 rename_i hs
 have hs:=eq_of_beq hs
 subst hs
 refine KRun.seqT (ZTB P hP hN r1 (by omega) h2) l2 ?_
 cases h3:Zaw 1 r2 with
 |error c=>exact KRun.seqF (Zf0 hN) (ZBy P hP hN r2 (by omega) h3)
 |ok a =>
 obtain⟨m,r3⟩:=a
 have l3:=Ziz h3
 simp only
 refine KRun.seqT (ZHp P hP hN r2 (by omega) h3) l3 ?_
 have l4:r3.length<=140737488355328:=by omega
 refine KRun.seqT (ZKc P hP hN r3 l4 m) (XH _) ?_
 refine KRun.seqT (ZFR _ (by simp[hP]) (Z7 rfl _ (Z7 rfl _ hN)) r3 l4 m) (XH _) ?_
 refine KRun.seqT (ZBv _ (by simp[hP]) (Z7 rfl _ (Z7 rfl _ (Z7 rfl _ (Z7 rfl _ hN)))) r3 l4 m) (XH _) ?_
 have hM:(Zb1 P m).length=26:=by simp[Zb1,hP]
 have hMN:Ze (Zb1 P m)=true:=Z7 rfl _ (Z7 rfl _ (Z7 rfl _ (Z7 rfl _ (Z7 rfl _ (Z7 rfl _ hN)))))
 have g15:(Zb1 P m)[15]?=some (.bool (Zk m 4 != 0)):=by simp[Zb1,hP]
 have g18:(Zb1 P m)[18]?=some (.int .i64 (Zk (Zdq m) 3)):=by simp[Zb1,hP]
 have g19:(Zb1 P m)[19]?=some (.bool (Zk m 32 != 0)):=by simp[Zb1,hP]
 split
 case isFalse hs=>exact KRun.seqF (Zf0 hMN) (ZID _ hM hMN r3 l4 m _ _ _ g15 g18 g19 (Wm _ |>.mp hs))
 rename_i hs
 refine KRun.seqT (ZOW _ hM hMN r3 l4 m _ _ _ g15 g18 g19 hs) (XH _) ?_
 exact ZU5 P hP hN r3 l4 hu1 hu
end
section
theorem z0b:((((0:Nat):Int))==0)=true:=by decide
theorem ZgI{l:Zd}{b:Bool}(h:decide (l.length=0)=b):(((l.length:Nat):Int)==0)=b:=by
 subst h
 grind
section
variable (P:List AVal)(hP:P.length=26)(hN:Ze P=true)
include hP hN
theorem ZLo(qos:Int)(h0:P[0]?=some (.int .i64 3))(h2:P[2]?=some (.int .i64 qos))(h4:P[4]?=some (.int .i64 0))(hu:∀ r:Zd,r.length<=140737488355328->(Zab 3 r).2.1<=r.length)(l:Zd)(hl:l.length<=140737488355328){tp:Zd}{n:Int}{ps:List ZO}{pay:Zd}(h:ZcM qos l=.ok (tp,n,ps,pay)) :
  E 26 [.ref 0 0] [.var (P++[.lnt l])]=some (.tup [],[.var (Zi (((P.set 5 (.str tp)).set 4 (.int .i64 n)).set 9 (.lst false (ps.map Zu))) 6 1 0 pay.length++[.lst true []]),.row 0 1 (pay.map Zh)]):=by
 have hq:=ZEw P hP hN qos h2 h4 hu l hl h
 have hN':Ze (((P.set 5 (.str tp)).set 4 (.int .i64 n)).set 9 (.lst false (ps.map Zu)))=true:=Z7 (ZdE _ _) _ (Z7 rfl _ (Z7 rfl _ hN))
 have hP':(((P.set 5 (.str tp)).set 4 (.int .i64 n)).set 9 (.lst false (ps.map Zu))).length=26:=by simp[hP]
 generalize ((P.set 5 (.str tp)).set 4 (.int .i64 n)).set 9 (.lst false (ps.map Zu))=Q at *
 have hRf:=Zey hP' hN' (k:=6) (b:=1) (n:=pay.length) (by omega) (L:=.lst true []) rfl
 have hRf2:=Zey hP' hN' (k:=6) (b:=3) (n:=pay.length) (by omega) (L:=.lst true []) rfl
 have hRn:=fun(C:Rho) b c (h:C b 0=some (c,0))=>ZgX hP' hN' (k:=6) (n:=pay.length) (L:=.lst true []) rfl C h
 have hG:=fun(G:Za) (hs:G[0]?=some (.var (P++[.lnt l]))) hff=>ZmM (O:=E) (bf:=BY) (f:=57) (own:=1) (sq:=3) (rest:=[]) (by kernel_rfl) rfl (ZK P hP hN _) hRf (fun C h=>hRn C 1 1 h) (fun C h=>hRn C 1 3 h) hq hs (by omega) hff
 have a4:=fun L=>(Zap P hP 0 (by omega) L).trans h0
 have hR:=Zbp Q hP' hN' 6 (by omega) pay.length 3 0
 unfold Zi at *
 have b2:=ZaB _ hR
 have m1:=Zbt
 have z:=z0b
 rw[Zg (by rfl) Za3]
 simp -implicitDefEqProofs only[EQA,Zs,ZE,Zc,Xd,Xc,Xf,Xa,Xg,↓reduceIte,Ze,Za4,ZaZ,Zek,Zb,a4,b2,hG,m1,Xj,z,Zaj]
 exact Zb2 (j:=3) rfl (by omega) rfl rfl hRf2 (fun C h=>hRn C 3 1 h)
theorem ZHW(qos:Int)(h0:P[0]?=some (.int .i64 3))(h2:P[2]?=some (.int .i64 qos))(l:Zd)(hl:l.length<=140737488355328){c:Int}(h:ZcM qos l=.error c) :
  ∃ cs,Ze cs=true/\E 26 [.ref 0 0] [.var (P++[.lnt l])]=some (.pan (ZG c),[.var cs]):=by
 obtain⟨cs,hn,he⟩:=ZQK P hP hN qos h2 l hl h
 have hG:=fun G sq (hs:(G:Za)[0]?=some (.var (P++[.lnt l]))) hff=>ZoF (own:=1) (O:=E) (bf:=BY) (f:=57) (view:=true) (rest:=[]) (by kernel_rfl) rfl (ZK P hP hN _) hn rfl he hs sq hff
 have a4:=fun L=>(Zap P hP 0 (by omega) L).trans h0
 refine⟨cs,hn,?_⟩
 rw[Zg (by rfl) Za3]
 simp -implicitDefEqProofs only[EQA,Zs,ZE,Zc,Xd,Xc,Xf,Xa,Xg,↓reduceIte,Za4,ZaZ,Zb,a4,hG,Xj,Zaj]
 exact Zah rfl hn
theorem ZU3(h0:P[0]?=some (.int .i64 1))(l:Zd)(hl:l.length<=140737488355328){Q:List AVal}{rws:Rws}{r:Zd}(hsh:Shp rws)(hq:E 53 [.ref 0 0] (Zr P l)=some (.tup [],Zbu Q rws r))(hQ:Q.length=26)(hQN:Ze Q=true) :
  E 26 [.ref 0 0] (Zr P l)=some (if r.length=0 then .tup []else .pan (ZG 129),Zbu Q rws r):=by
 have a4:=fun L=>(Zap P hP 0 (by omega) L).trans h0
 have mT:=Zbt
 have mF:=ZbS
 have z:∀ b,decide (r.length=0)=b->(((r.length:Nat):Int)==0)=b:=fun b h=>ZgI h
 unfold Zr at *
 have b2:=ZaB _ ((ZvH Q rws 3).trans hQ)
 rcases hsh with rfl |⟨d,rfl⟩ |⟨d,rfl⟩ |⟨d,e,rfl⟩
 ·simp only[ZeQ,Zbu,ZgU,XC]at b2 hq ⊢
  have hG:=fun(G:Za) sq (hs:G[0]?=some (.var (P++[.lnt l]))) hff=>ZxZ (own:=2) (O:=E) (bf:=BY) (f:=53) (rest:=[]) (by kernel_rfl) rfl (ZK P hP hN _) (ZK Q hQ hQN r) rfl rfl hq hs sq hff
  by_cases hr:r.length=0
  ·have z:=z true (decide_eq_true hr)
   rw[if_pos hr]
   rw[Zg (by rfl) Za3]
   simp -implicitDefEqProofs only[EQA,Zs,ZE,Zc,Xd,Xc,Xf,Xa,Xg,↓reduceIte,Ze,Za4,ZaZ,Zek,Zb,a4,b2,hG,mT,z,Zaj]
   exact Zah rfl (ZK Q hQ hQN r)
  ·have z:=z false (decide_eq_false hr)
   rw[if_neg hr]
   rw[Zg (by rfl) Za3]
   simp -implicitDefEqProofs only[EQA,Zs,ZE,Zc,Xd,Xc,Xf,Xa,Xg,↓reduceIte,Za4,ZaZ,Zb,a4,b2,hG,mF,z,Zaj]
   exact Zah rfl (ZK Q hQ hQN r)
 ·simp only[ZeQ,Zbu,ZgU,Xu,XC]at b2 hq ⊢
  have hRf:=Zey hQ hQN (k:=17) (b:=1) (n:=d.length) (by omega) (L:=.lnt r) rfl
  have hRf2:=Zey hQ hQN (k:=17) (b:=3) (n:=d.length) (by omega) (L:=.lnt r) rfl
  have hRn:=fun(C:Rho) b c (h:C b 0=some (c,0))=>ZgX hQ hQN (k:=17) (n:=d.length) (L:=.lnt r) rfl C h
  have hG:=fun(G:Za) (hs:G[0]?=some (.var (P++[.lnt l]))) hff=>ZmM (O:=E) (bf:=BY) (f:=53) (own:=2) (sq:=3) (rest:=[]) (by kernel_rfl) rfl (ZK P hP hN _) hRf (fun C h=>hRn C 1 1 h) (fun C h=>hRn C 1 3 h) hq hs (by omega) hff
  by_cases hr:r.length=0
  ·have z:=z true (decide_eq_true hr)
   rw[if_pos hr]
   rw[Zg (by rfl) Za3]
   simp -implicitDefEqProofs only[EQA,Zs,ZE,Zc,Xd,Xc,Xf,Xa,Xg,↓reduceIte,Ze,Za4,ZaZ,Zek,Zb,a4,b2,hG,mT,z,Zaj]
   exact Zb2 (j:=3) rfl (by omega) rfl rfl hRf2 (fun C h=>hRn C 3 1 h)
  ·have z:=z false (decide_eq_false hr)
   rw[if_neg hr]
   rw[Zg (by rfl) Za3]
   simp -implicitDefEqProofs only[EQA,Zs,ZE,Zc,Xd,Xc,Xf,Xa,Xg,↓reduceIte,Za4,ZaZ,Zb,a4,b2,hG,mF,z,Zaj]
   exact Zb2 (j:=3) rfl (by omega) rfl rfl hRf2 (fun C h=>hRn C 3 1 h)
 ·simp only[ZeQ,Zbu,ZgU,Xu,XC]at b2 hq ⊢
  have hRf:=Zey hQ hQN (k:=24) (b:=1) (n:=d.length) (by omega) (L:=.lnt r) rfl
  have hRf2:=Zey hQ hQN (k:=24) (b:=3) (n:=d.length) (by omega) (L:=.lnt r) rfl
  have hRn:=fun(C:Rho) b c (h:C b 0=some (c,0))=>ZgX hQ hQN (k:=24) (n:=d.length) (L:=.lnt r) rfl C h
  have hG:=fun(G:Za) (hs:G[0]?=some (.var (P++[.lnt l]))) hff=>ZmM (O:=E) (bf:=BY) (f:=53) (own:=2) (sq:=3) (rest:=[]) (by kernel_rfl) rfl (ZK P hP hN _) hRf (fun C h=>hRn C 1 1 h) (fun C h=>hRn C 1 3 h) hq hs (by omega) hff
  by_cases hr:r.length=0
  ·have z:=z true (decide_eq_true hr)
   rw[if_pos hr]
   rw[Zg (by rfl) Za3]
   simp -implicitDefEqProofs only[EQA,Zs,ZE,Zc,Xd,Xc,Xf,Xa,Xg,↓reduceIte,Ze,Za4,ZaZ,Zek,Zb,a4,b2,hG,mT,z,Zaj]
   exact Zb2 (j:=3) rfl (by omega) rfl rfl hRf2 (fun C h=>hRn C 3 1 h)
  ·have z:=z false (decide_eq_false hr)
   rw[if_neg hr]
   rw[Zg (by rfl) Za3]
   simp -implicitDefEqProofs only[EQA,Zs,ZE,Zc,Xd,Xc,Xf,Xa,Xg,↓reduceIte,Za4,ZaZ,Zb,a4,b2,hG,mF,z,Zaj]
   exact Zb2 (j:=3) rfl (by omega) rfl rfl hRf2 (fun C h=>hRn C 3 1 h)
 ·simp only[ZeQ,Zbu,ZgU,Xu,XC]at b2 hq ⊢
  have hRf2:=ZlV hQ hQN (b:=3) (b':=4) (n:=d.length) (n':=e.length) (L:=.lnt r) rfl
  have hRf:=ZlV hQ hQN (b:=1) (b':=2) (n:=d.length) (n':=e.length) (L:=.lnt r) rfl
  have hRn:=fun(C:Rho) b b' c c' (h:C b 0=some (c,0)) (h':C b' 0=some (c',0))=>ZnL hQ hQN (n:=d.length) (n':=e.length) (L:=.lnt r) rfl C h h'
  have hG:=fun(G:Za) (hs:G[0]?=some (.var (P++[.lnt l]))) hff=>Zyx (O:=E) (bf:=BY) (f:=53) (sq:=3) (rest:=[]) (by kernel_rfl) rfl (ZK P hP hN _) hRf (fun C h h'=>hRn C 1 2 1 2 h h') (fun C h h'=>hRn C 1 2 3 4 h h') hq hs hff
  by_cases hr:r.length=0
  ·have z:=z true (decide_eq_true hr)
   rw[if_pos hr]
   rw[Zg (by rfl) Za3]
   simp -implicitDefEqProofs only[EQA,Zs,ZE,Zc,Xd,Xc,Xf,Xa,Xg,↓reduceIte,Ze,Za4,ZaZ,Zek,Zb,a4,b2,hG,mT,z,Zaj]
   exact Zon (i:=3) (j:=4) rfl (by omega) (by omega) (by omega) rfl rfl rfl hRf2 (fun C h h'=>hRn C 3 4 1 2 h h')
  ·have z:=z false (decide_eq_false hr)
   rw[if_neg hr]
   rw[Zg (by rfl) Za3]
   simp -implicitDefEqProofs only[EQA,Zs,ZE,Zc,Xd,Xc,Xf,Xa,Xg,↓reduceIte,Za4,ZaZ,Zb,a4,b2,hG,mF,z,Zaj]
   exact Zon (i:=3) (j:=4) rfl (by omega) (by omega) (by omega) rfl rfl rfl hRf2 (fun C h h'=>hRn C 3 4 1 2 h h')
theorem ZH8(h0:P[0]?=some (.int .i64 1))(l:Zd)(hl:l.length<=140737488355328){H:Za}{c:Int}(hE:Znp H)(he:E 53 [.ref 0 0] (Zr P l)=some (.pan (ZG c),H)) :
  E 26 [.ref 0 0] (Zr P l)=some (.pan (ZG c),H):=by
 unfold Zr at *
 have a4:=fun L=>(Zap P hP 0 (by omega) L).trans h0
 rcases hE with⟨cs,hn,rfl⟩ |⟨Q,d,r,hQ,hQN,rfl⟩
 ·have hG:=fun G sq (hs:(G:Za)[0]?=some (.var (P++[.lnt l]))) hff=>ZoF (own:=2) (O:=E) (bf:=BY) (f:=53) (view:=true) (rest:=[]) (by kernel_rfl) rfl (ZK P hP hN _) hn rfl he hs sq hff
  rw[Zg (by rfl) Za3]
  simp -implicitDefEqProofs only[EQA,Zs,ZE,Zc,Xd,Xc,Xf,Xa,Xg,↓reduceIte,Za4,ZaZ,Zb,a4,hG,Zaj]
  exact Zah rfl hn
 ·simp only[ZeQ,Zbu,ZgU,Xu,XC]at he ⊢
  have hRf:=Zey hQ hQN (k:=17) (b:=1) (n:=d.length) (by omega) (L:=.lnt r) rfl
  have hRf2:=Zey hQ hQN (k:=17) (b:=3) (n:=d.length) (by omega) (L:=.lnt r) rfl
  have hRn:=fun(C:Rho) b c (h:C b 0=some (c,0))=>ZgX hQ hQN (k:=17) (n:=d.length) (L:=.lnt r) rfl C h
  have hG:=fun(G:Za) (hs:G[0]?=some (.var (P++[.lnt l]))) hff=>ZAc (O:=E) (bf:=BY) (f:=53) (own:=2) (sq:=3) (view:=true) (rest:=[]) (by kernel_rfl) rfl (ZK P hP hN _) (fun C h=>hRn C 1 3 h) rfl he hs (by omega) hff
  rw[Zg (by rfl) Za3]
  simp -implicitDefEqProofs only[EQA,Zs,ZE,Zc,Xd,Xc,Xf,Xa,Xg,↓reduceIte,Za4,ZaZ,Zb,a4,hG,Zaj]
  exact Zb2 (j:=3) rfl (by omega) rfl rfl hRf2 (fun C h=>hRn C 3 1 h)
end
end
section
def Zfb(P:List AVal)(c:Int)(ps:Option (List ZO)):List AVal:=(P.set 7 (.int .i64 c)).set 9 (Zgv ps)
theorem Zl2{P:List AVal}(hP:P.length=26)(hN:Ze P=true)(c:Int)(ps:Option (List ZO)):(Zfb P c ps).length=26/\Ze (Zfb P c ps)=true :=
 ⟨by simp[Zfb,hP],Z7 (by cases ps<;>rfl) 9 (Z7 rfl 7 hN)⟩
section
variable (P:List AVal)(hP:P.length=26)(hN:Ze P=true)
include hP hN
theorem ZMj(k:Int)(hk:k=14\/k=15)(h0:P[0]?=some (.int .i64 k))(h7:P[7]?=some (.int .i64 0))(h9:P[9]?=some (.lst true []))(hu:∀ r:Zd,r.length<=140737488355328->(Zab k r).2.1<=r.length)(l:Zd)(hl:l.length<=140737488355328){c:Int}{ps:Option (List ZO)}{r:Zd}(h:ZdA k l=.ok ((c,ps),r)) :
  E 26 [.ref 0 0] (Zr P l)=some (if r.length=0 then .tup []else .pan (ZG 129),Zr (Zfb P c ps) r):=by
 have hG:=fun G sq hs=>ZzQ P hP hN l hl G 0 sq hs k h0 h7 h9 hu h
 obtain⟨hQ,hQN⟩:=Zl2 hP hN c ps
 have a4:=fun L=>(Zap P hP 0 (by omega) L).trans h0
 unfold Zr
 rw[show(P.set 7 (.int .i64 c)).set 9 (Zgv ps)=Zfb P c ps from rfl]at hG
 generalize Zfb P c ps=Q at *
 have b2:=ZaB Q hQ
 by_cases hr:r.length=0
 ·have m1:=Zbt
  have z:=ZgI (l:=r) (decide_eq_true hr)
  rw[if_pos hr]
  rcases hk with rfl |rfl
  all_goals
   rw[Zg (by rfl) Za3]
   simp -implicitDefEqProofs only[EQA,Zs,ZE,Zc,Xd,Xc,Xf,Xa,Xg,↓reduceIte,Ze,Za4,ZaZ,Zek,Zb,a4,b2,hG,m1,Xj,z]
   exact Zah rfl (ZaT hQN (by rfl))
 ·have m1:=ZbS
  have z:=ZgI (l:=r) (decide_eq_false hr)
  rw[if_neg hr]
  rcases hk with rfl |rfl
  all_goals
   rw[Zg (by rfl) Za3]
   simp -implicitDefEqProofs only[EQA,Zs,ZE,Zc,Xd,Xc,Xf,Xa,Xg,↓reduceIte,Za4,ZaZ,Zb,a4,b2,hG,m1,Xj,z]
   exact Zah rfl (ZaT hQN (by rfl))
theorem ZPB(k:Int)(hk:k=14\/k=15)(h0:P[0]?=some (.int .i64 k))(hu:∀ r:Zd,r.length<=140737488355328->(Zab k r).2.1<=r.length)(l:Zd)(hl:l.length<=140737488355328){e:Int}(h:ZdA k l=.error e) :
  ∃ cs,Ze cs=true/\E 26 [.ref 0 0] (Zr P l)=some (.pan (ZG e),[.var cs]):=by
 obtain⟨cs,hn,he⟩:=Zxv P hP hN k h0 hu l hl h
 have hG:=fun G sq (hs:(G:Za)[0]?=some (.var (P++[.lnt l])))=>Zes (O:=E) (bf:=BY) (f:=59) (view:=true) (rest:=[]) (by kernel_rfl) rfl (ZK P hP hN _) hn rfl he hs sq
 have a4:=fun L=>(Zap P hP 0 (by omega) L).trans h0
 refine⟨cs,hn,?_⟩
 unfold Zr
 rcases hk with rfl |rfl
 all_goals
  rw[Zg (by rfl) Za3]
  simp -implicitDefEqProofs only[EQA,Zs,ZE,Zc,Xd,Xc,Xf,Xa,Xg,↓reduceIte,Za4,ZaZ,Zb,a4,hG,Xj]
  exact Zah rfl hn
theorem ZPf(k:Int)(hk:k=4\/k=5\/k=6\/k=7)(h0:P[0]?=some (.int .i64 k))(h7:P[7]?=some (.int .i64 0))(h9:P[9]?=some (.lst true []))(hu:∀ r:Zd,r.length<=140737488355328->(Zab k r).2.1<=r.length)(l:Zd)(hl:l.length<=140737488355328){n:Int}{r1:Zd}(hi:idK l=.ok (n,r1)){c:Int}{ps:Option (List ZO)}{r:Zd}(h:ZdA k r1=.ok ((c,ps),r)) :
  E 26 [.ref 0 0] (Zr P l)=some (if r.length=0 then .tup []else .pan (ZG 129),Zr (Zfb (P.set 4 (.int .i64 n)) c ps) r):=by
 have hr1:=ZfR hi
 have hI:=fun G sq hs=>Zhl P hP hN l hl G 0 sq hs hi
 have hP4:(P.set 4 (.int .i64 n)).length=26:=by simp[hP]
 have hN4:Ze (P.set 4 (.int .i64 n))=true:=Z7 rfl 4 hN
 have g0:(P.set 4 (.int .i64 n))[0]?=some (.int .i64 k):=by rw[Xl (by omega)];exact h0
 have g7:(P.set 4 (.int .i64 n))[7]?=some (.int .i64 0):=by rw[Xl (by omega)];exact h7
 have g9:(P.set 4 (.int .i64 n))[9]?=some (.lst true []):=by rw[Xl (by omega)];exact h9
 generalize P.set 4 (.int .i64 n)=S at *
 have hG:=fun G sq hs=>ZzQ S hP4 hN4 r1 (by omega) G 0 sq hs k g0 g7 g9 hu h
 obtain⟨hQ,hQN⟩:=Zl2 hP4 hN4 c ps
 have a4:=fun L=>(Zap P hP 0 (by omega) L).trans h0
 unfold Zr
 rw[show(S.set 7 (.int .i64 c)).set 9 (Zgv ps)=Zfb S c ps from rfl]at hG
 generalize Zfb S c ps=Q at *
 have b2:=ZaB Q hQ
 by_cases hr:r.length=0
 ·have m1:=Zbt
  have z:=ZgI (l:=r) (decide_eq_true hr)
  rw[if_pos hr]
  rcases hk with rfl |rfl |rfl |rfl
  all_goals
   rw[Zg (by rfl) Za3]
   simp -implicitDefEqProofs only[EQA,Zs,ZE,Zc,Xd,Xc,Xf,Xa,Xg,↓reduceIte,Ze,Za4,ZaZ,Zek,Zb,a4,b2,hI,hG,m1,Xj,z]
   exact Zah rfl (ZaT hQN (by rfl))
 ·have m1:=ZbS
  have z:=ZgI (l:=r) (decide_eq_false hr)
  rw[if_neg hr]
  rcases hk with rfl |rfl |rfl |rfl
  all_goals
   rw[Zg (by rfl) Za3]
   simp -implicitDefEqProofs only[EQA,Zs,ZE,Zc,Xd,Xc,Xf,Xa,Xg,↓reduceIte,Za4,ZaZ,Zb,a4,b2,hI,hG,m1,Xj,z]
   exact Zah rfl (ZaT hQN (by rfl))
theorem ZCc(k:Int)(hk:k=4\/k=5\/k=6\/k=7)(h0:P[0]?=some (.int .i64 k))(l:Zd)(hl:l.length<=140737488355328){e:Int}(h:idK l=.error e) :
  ∃ cs,Ze cs=true/\E 26 [.ref 0 0] (Zr P l)=some (.pan (ZG e),[.var cs]):=by
 obtain⟨cs,hn,he⟩:=Znm P hP hN l hl h
 have hG:=fun G sq (hs:(G:Za)[0]?=some (.var (P++[.lnt l])))=>Zes (O:=E) (bf:=BY) (f:=58) (view:=true) (rest:=[]) (by kernel_rfl) rfl (ZK P hP hN _) hn rfl he hs sq
 have a4:=fun L=>(Zap P hP 0 (by omega) L).trans h0
 refine⟨cs,hn,?_⟩
 unfold Zr
 rcases hk with rfl |rfl |rfl |rfl
 all_goals
  rw[Zg (by rfl) Za3]
  simp -implicitDefEqProofs only[EQA,Zs,ZE,Zc,Xd,Xc,Xf,Xa,Xg,↓reduceIte,Za4,ZaZ,Zb,a4,hG,Xj]
  exact Zah rfl hn
theorem ZGX(k:Int)(hk:k=4\/k=5\/k=6\/k=7)(h0:P[0]?=some (.int .i64 k))(hu:∀ r:Zd,r.length<=140737488355328->(Zab k r).2.1<=r.length)(l:Zd)(hl:l.length<=140737488355328){n:Int}{r1:Zd}(hi:idK l=.ok (n,r1)){e:Int}(h:ZdA k r1=.error e) :
  ∃ cs,Ze cs=true/\E 26 [.ref 0 0] (Zr P l)=some (.pan (ZG e),[.var cs]):=by
 have hr1:=ZfR hi
 have hI:=fun G sq hs=>Zhl P hP hN l hl G 0 sq hs hi
 have hP4:(P.set 4 (.int .i64 n)).length=26:=by simp[hP]
 have hN4:Ze (P.set 4 (.int .i64 n))=true:=Z7 rfl 4 hN
 have g0:(P.set 4 (.int .i64 n))[0]?=some (.int .i64 k):=by rw[Xl (by omega)];exact h0
 generalize P.set 4 (.int .i64 n)=S at *
 obtain⟨cs,hn,he⟩:=Zxv S hP4 hN4 k g0 hu r1 (by omega) h
 have hG:=fun G sq (hs:(G:Za)[0]?=some (.var (S++[.lnt r1])))=>Zes (O:=E) (bf:=BY) (f:=59) (view:=true) (rest:=[]) (by kernel_rfl) rfl (ZK S hP4 hN4 _) hn rfl he hs sq
 have a4:=fun L=>(Zap P hP 0 (by omega) L).trans h0
 refine⟨cs,hn,?_⟩
 unfold Zr
 rcases hk with rfl |rfl |rfl |rfl
 all_goals
  rw[Zg (by rfl) Za3]
  simp -implicitDefEqProofs only[EQA,Zs,ZE,Zc,Xd,Xc,Xf,Xa,Xg,↓reduceIte,Za4,ZaZ,Zb,a4,hI,hG,Xj]
  exact Zah rfl hn
theorem ZAZ(k:Int)(hk:k=12\/k=13)(h0:P[0]?=some (.int .i64 k))(l:Zd):E 26 [.ref 0 0] (Zr P l)=some (if l.length=0 then .tup []else .pan (ZG 129),Zr P l):=by
 have a4:=fun L=>(Zap P hP 0 (by omega) L).trans h0
 have b2:=ZaB P hP
 unfold Zr
 by_cases hr:l.length=0
 ·have m1:=Zbt
  have z:=ZgI (l:=l) (decide_eq_true hr)
  rw[if_pos hr]
  rcases hk with rfl |rfl
  all_goals
   rw[Zg (by rfl) Za3]
   simp -implicitDefEqProofs only[EQA,Zs,ZE,Zc,Xd,Xc,Xf,Xa,Xg,↓reduceIte,Ze,Za4,ZaZ,Zek,Zb,a4,b2,m1,Xj,z]
   exact Zah rfl (ZK P hP hN _)
 ·have m1:=ZbS
  have z:=ZgI (l:=l) (decide_eq_false hr)
  rw[if_neg hr]
  rcases hk with rfl |rfl
  all_goals
   rw[Zg (by rfl) Za3]
   simp -implicitDefEqProofs only[EQA,Zs,ZE,Zc,Xd,Xc,Xf,Xa,Xg,↓reduceIte,Za4,ZaZ,Zb,a4,b2,m1,Xj,z]
   exact Zah rfl (ZK P hP hN _)
end
end
section
def Zc6(k:Int):Int:=if k=6\/k=8\/k=10 then 2 else 0
theorem ZP8(k:Int):E 39 [.int .i64 k] []=some (.int .u8 (Zc6 k),[]):=by
 unfold Zc6
 by_cases h6:k=6
 ·subst h6;rw[Zg (by rfl) Zot];simp -implicitDefEqProofs only[EQA,Zc,Xc,Xa,reduceCtorEq,↓reduceIte,ZnS,ZjO,Zmr,Zb]
 by_cases h8:k=8
 ·subst h8;rw[Zg (by rfl) Zot];simp -implicitDefEqProofs only[EQA,Zc,Xc,Xa,reduceCtorEq,↓reduceIte,ZnS,ZjO,Zmr,Zb,Xj]
 by_cases h10:k=10
 ·subst h10;rw[Zg (by rfl) Zot];simp -implicitDefEqProofs only[EQA,Zc,Xc,Xa,reduceCtorEq,↓reduceIte,ZnS,ZjO,Zmr,Zb,Xj]
 have b6:(k==6)=false:=by simpa using h6
 have b8:(k==8)=false:=by simpa using h8
 have b10:(k==10)=false:=by simpa using h10
 rw[if_neg (by omega),Zg (by rfl) Zot]
 simp -implicitDefEqProofs only[EQA,Zc,Xc,Xa,reduceCtorEq,↓reduceIte,ZnS,ZjO,Zmr,Zb,b6,b8,b10]
theorem ZzV(k:Int)(G:Za)(sq own:Nat):Zq E BY G sq 39 own true [.int .i64 k]=some (.int .u8 (Zc6 k),G,{}) :=
 ZdI (ZP8 k) (by kernel_rfl) (by simp -implicitDefEqProofs only[Zem,ZbW,eq_self,eq_self]) (by simp -implicitDefEqProofs only[ZE,ZbW,eq_self,eq_self]) rfl (fun _=>rfl) _ _ _ _
def tyI(b:Int):Int:=IntKind.i64.wrap (b.fdiv (2^min (Int.toNat 4) IntKind.u8.bits))
def ZaF(a b:Int):Int:=IntKind.u8.wrap (XR IntKind.u8.bits a&&&XR IntKind.u8.bits b).toNat
def qoI(b:Int):Int:=IntKind.i64.wrap (ZaF (b.fdiv (2^min (Int.toNat 1) IntKind.u8.bits)) 3)
def Zc9(P:List AVal)(b:Int):List AVal:=(((P.set 0 (.int .i64 3)).set 1 (.bool (ZaF b 8 != 0))).set 2 (.int .i64 (qoI b))).set 3 (.bool (ZaF b 1 != 0))
section
variable (P:List AVal)(hP:P.length=26)(hN:Ze P=true)
include hP hN
theorem Zn6(L v:AVal):[v]++WO 1 (P++[L])=P.set 0 v++[L]:=ZaD P hP 0 1 (by omega) rfl L v
theorem ZJe(b:Int)(l:Zd)(h:tyI b=0):E 25 [.ref 0 0,.int .u8 b] (Zr P l)=some (.pan (ZG 129),Zr (P.set 0 (.int .i64 0)) l):=by
 have a1:=Zag P hP
 have a3:=Zn6 P hP hN
 have a4:=Zjw P hP 0 (by omega)
 have m1:=ZbS
 have z:((0:Int) != 0)=false:=by decide
 unfold tyI at h
 unfold Zr
 rw[Zg (by rfl) Zib]
 simp -implicitDefEqProofs only[EQA,Zs,ZE,Zc,Xc,Xf,Xa,Zbh,reduceCtorEq,↓reduceIte,Zil,ZgG,Zb,a1,a3,a4,m1,h,z,Wc]
 exact Zah rfl (ZaT (Z7 rfl _ hN) (by rfl))
theorem ZKJ(b t:Int)(l:Zd)(h:tyI b=t)(h0:¬t=0)(h3:¬t=3)(hf:¬ZaF b 15=Zc6 t):E 25 [.ref 0 0,.int .u8 b] (Zr P l)=some (.pan (ZG 129),Zr (P.set 0 (.int .i64 t)) l):=by
 have a1:=Zag P hP
 have a3:=Zn6 P hP hN
 have a4:=Zjw P hP 0 (by omega)
 have m0:=Zbt
 have m1:=ZbS
 have e0:(t != 0)=true:=by simpa using h0
 have e3:(t != 3)=true:=by simpa using h3
 have ef:(ZaF b 15==Zc6 t)=false:=by simpa using hf
 have hC:=ZzV t
 unfold tyI at h
 unfold ZaF at ef
 unfold Zr
 rw[Zg (by rfl) Zib]
 simp -implicitDefEqProofs only[EQA,Zs,ZE,Zc,Xc,Xf,Xa,Zbh,reduceCtorEq,↓reduceIte,Zil,ZgG,Zb,a1,a3,a4,m0,m1,h,e0,e3,ef,hC,Wc]
 exact Zah rfl (ZaT (Z7 rfl _ hN) (by rfl))
theorem ZLf(b t:Int)(l:Zd)(h:tyI b=t)(h0:¬t=0)(h3:¬t=3)(hf:ZaF b 15=Zc6 t):E 25 [.ref 0 0,.int .u8 b] (Zr P l)=some (.tup [],Zr (P.set 0 (.int .i64 t)) l):=by
 have a1:=Zag P hP
 have a3:=Zn6 P hP hN
 have a4:=Zjw P hP 0 (by omega)
 have m0:=Zbt
 have e0:(t != 0)=true:=by simpa using h0
 have e3:(t != 3)=true:=by simpa using h3
 have ef:(ZaF b 15==Zc6 t)=true:=by simpa using hf
 have hC:=ZzV t
 unfold tyI at h
 unfold ZaF at ef
 unfold Zr
 rw[Zg (by rfl) Zib]
 simp -implicitDefEqProofs only[EQA,Zs,ZE,Zc,Xc,Xf,Xa,Zbh,reduceCtorEq,↓reduceIte,Ze,Zil,ZgG,ZsR,Zb,a1,a3,a4,m0,h,e0,e3,ef,hC,Wc]
 exact Zah rfl (ZaT (Z7 rfl _ hN) (by rfl))
theorem ZPS(b:Int)(l:Zd)(h:tyI b=3):E 25 [.ref 0 0,.int .u8 b] (Zr P l)=some (if qoI b<3 then(if qoI b>0\/(ZaF b 8 != 0)=false then .tup []else .pan (ZG 130))else .pan (ZG 129),Zr (Zc9 P b) l):=by
 have hQ:(Zc9 P b).length=26:=by simp[Zc9,hP]
 have hQN:Ze (Zc9 P b)=true:=Z7 rfl _ (Z7 rfl _ (Z7 rfl _ (Z7 rfl _ hN)))
 have g1:(Zc9 P b)[1]?=some (.bool (ZaF b 8 != 0)):=by simp[Zc9,hP]
 have g2:(Zc9 P b)[2]?=some (.int .i64 (qoI b)):=by simp[Zc9,hP]
 have a1:=Zag P hP
 have a3:=fun L=>Zn6 P hP hN L (.int .i64 3)
 have a4:=Zjw P hP 0 (by omega)
 have hP0:(P.set 0 (.int .i64 3)).length=26:=by simp[hP]
 have b1:=Zag _ hP0
 have b3:=fun L=>ZaD _ hP0 1 2 (by omega) rfl L (.bool (ZaF b 8 != 0))
 have hP1:((P.set 0 (.int .i64 3)).set 1 (.bool (ZaF b 8 != 0))).length=26:=by simp[hP]
 have c1:=Zag _ hP1
 have c3:=fun L=>ZaD _ hP1 2 3 (by omega) rfl L (.int .i64 (qoI b))
 have hP2:(((P.set 0 (.int .i64 3)).set 1 (.bool (ZaF b 8 != 0))).set 2 (.int .i64 (qoI b))).length=26:=by simp[hP]
 have d1:=Zag _ hP2
 have d3:=fun L=>ZaD _ hP2 3 4 (by omega) rfl L (.bool (ZaF b 1 != 0))
 rw[show(((P.set 0 (.int .i64 3)).set 1 (.bool (ZaF b 8 != 0))).set 2 (.int .i64 (qoI b))).set 3 (.bool (ZaF b 1 != 0))=Zc9 P b from rfl]at d3
 generalize Zc9 P b=Q at *
 have k1:=fun L=>(Zap Q hQ 1 (by omega) L).trans g1
 have k2:=fun L=>(Zap Q hQ 2 (by omega) L).trans g2
 have m0:=Zbt
 have m1:=ZbS
 have e0:((3:Int) != 0)=true:=by decide
 have e3:((3:Int) != 3)=false:=by decide
 unfold tyI at h
 unfold Zr
 by_cases hq:qoI b<3
 ·rw[if_pos hq]
  by_cases hq0:qoI b>0
  ·rw[if_pos (Xq hq0)]
   unfold qoI ZaF at *
   rw[Zg (by rfl) Zib]
   simp -implicitDefEqProofs only[EQA,Zs,ZE,Zc,Xd,Xc,Xf,Xa,Zbh,Zy,Z6,reduceCtorEq,↓reduceIte,Ze,Zil,ZgG,ZsR,Zb,a1,a3,a4,b1,b3,c1,c3,d1,d3,k2,m0,h,e0,e3,hq,hq0,Wc]
   exact Zah rfl (ZaT hQN (by rfl))
  ·cases hd:(ZaF b 8 != 0)
   ·rw[if_pos (Xt rfl)]
    rw[hd]at b3 c1 c3 d1 d3 k1
    unfold qoI ZaF at *
    rw[Zg (by rfl) Zib]
    simp -implicitDefEqProofs only[EQA,Zs,ZE,Zc,Xd,Xc,Xf,Xa,Zbh,unA,Zy,unG,reduceCtorEq,↓reduceIte,Ze,Zil,ZgG,ZsR,Zb,a1,a3,a4,b1,b3,c1,c3,d1,d3,k1,k2,m0,h,e0,e3,hq,hq0,hd,Wc]
    exact Zah rfl (ZaT hQN (by rfl))
   ·rw[if_neg (by simp[hq0])]
    rw[hd]at b3 c1 c3 d1 d3 k1
    unfold qoI ZaF at *
    rw[Zg (by rfl) Zib]
    simp -implicitDefEqProofs only[EQA,Zs,ZE,Zc,Xd,Xc,Xf,Xa,Zbh,unA,Zy,unG,reduceCtorEq,↓reduceIte,Zil,ZgG,Zb,a1,a3,a4,b1,b3,c1,c3,d1,d3,k1,k2,m0,m1,h,e0,e3,hq,hq0,hd,Wc]
    exact Zah rfl (ZaT hQN (by rfl))
 ·rw[if_neg hq]
  unfold qoI ZaF at *
  rw[Zg (by rfl) Zib]
  simp -implicitDefEqProofs only[EQA,Zs,ZE,Zc,Xd,Xc,Xf,Xa,Zbh,reduceCtorEq,↓reduceIte,Zil,ZgG,Zb,a1,a3,a4,b1,b3,c1,c3,d1,d3,k2,m0,m1,h,e0,e3,hq,Wc]
  exact Zah rfl (ZaT hQN (by rfl))
end
end
section
structure ZcH where
 filter:Zd
 qos:Int
 noLocal:Bool
 asPublished:Bool
 handling:Int
 id:Int
 deriving DecidableEq
def Z8(s:ZcH):AVal:=.agg [.str s.filter,.int .i64 s.qos,.bool s.noLocal,.bool s.asPublished,.int .i64 s.handling,.int .i64 s.id]
structure Zzn where
 topic:Zd
 data:Zd
 qos:Int
 retain:Bool
 props:List ZO
 deriving DecidableEq
structure Zx where
 type:Int
 dup:Bool
 qos:Int
 retain:Bool
 id:Int
 topic:Zd
 payload:Zd
 code:Int
 codes:List Int
 props:List ZO
 subs:List ZcH
 filters:List Zd
 clean:Bool
 keep:Int
 client:Zd
 hasWill:Bool
 will:Zzn
 hasUser:Bool
 user:Zd
 hasPassword:Bool
 password:Zd
 present:Bool
 deriving DecidableEq
def ZcA(p:Zx):AVal:=.agg [.int .i64 p.type,.bool p.dup,.int .i64 p.qos,.bool p.retain,.int .i64 p.id,.str p.topic,.lst false (p.payload.map Zh),.int .i64 p.code,.lst false (p.codes.map (AVal.int .i64)),.lst false (p.props.map Zu),.lst false (p.subs.map Z8),.lst false (p.filters.map AVal.str),.bool p.clean,.int .i64 p.keep,.str p.client,.bool p.hasWill,.str p.will.topic,.lst false (p.will.data.map Zh),.int .i64 p.will.qos,.bool p.will.retain,.lst false (p.will.props.map Zu),.bool p.hasUser,.str p.user,.bool p.hasPassword,.lst false (p.password.map Zh),.bool p.present]
end
section
def Zd5(m:Int):Int:=IntKind.i64.wrap (m.tdiv 16)
def Zbf(l:Zd):RK ZcH:=match Zaf l with
 | .error c=>.error c
 | .ok (f,r1)=>match Zaw 1 r1 with
  | .error c=>.error c
  | .ok (o,r2)=>if o<64 then(if Zk o 3<3/\Zd5 o<3 then .ok (⟨f,Zk o 3,Zk o 4 != 0,Zk o 8 != 0,Zd5 o,0⟩,r2)else .error 130)else .error 129
section
variable (P:List AVal)(hP:P.length=26)(hN:Ze P=true)(h10:P[10]?=some (.lst true []))(l:Zd)(hl:l.length<=140737488355328)
include hP hN h10 hl
theorem ZDU{s:ZcH}{r:Zd}(h:Zbf l=.ok (s,r)):E 61 [.ref 0 0] (Zr P l)=some (.tup [],[.var (Zi P 10 1 0 1++[.lnt r]),.row 0 6 [Z8 s]]):=by
 unfold Zbf at h
 split at h
 ·cases h
 rename_i f r1 ht
 have l1:=ZdP ht
 split at h
 ·cases h
 rename_i o r2 hn
 split at h
 case isFalse=>cases h
 rename_i h64
 split at h
 case isFalse=>cases h
 rename_i hq
 obtain⟨hq1,hq2⟩:=hq
 injection h with h;injection h with e1 e2;subst e1 e2
 have hT:=fun G sq hs=>Zfl P hP hN l hl G 0 sq hs ht
 have hG:=fun G sq hs=>ZdM P hP hN r1 (by omega) G 0 sq hs (m:=1) rfl hn
 have m0:=Zbt
 have a1:=Zag P hP
 have a3:=fun L v=>ZaD P hP 10 11 (by omega) rfl L v
 have a4:=fun L=>(Zap P hP 10 (by omega) L).trans h10
 have z:¬(16:Int)=0:=by decide
 unfold Zi Z8 Zr
 unfold Zk Zd5 at *
 rw[Zg (by rfl) Ze9]
 simp -implicitDefEqProofs only[EQA,Zs,Zc,Xd,Xc,Xf,Xa,Xg,Zy,unG,reduceCtorEq,ZZ,↓reduceIte,Ze,ZeP,ZdW,Zzc,Zb,hT,hG,m0,a1,a3,a4,z,h64,hq1,hq2,Zao,AVal.cells,Zan,viewAs,Z3,ZN,Zae,Zv,WL,XH,ZaG,ZaP,ZaU,Zbi,Zbl,Zbg,Zbq,Zbo,ZaV,XP,kOk]
 refine Zb2 (j:=2) rfl (by omega) rfl rfl ?_ (fun C h=>?_)
 ·rw[Zcc,ZiC hN (by omega)];rfl
 ·rw[Zbz,Zki C hN]
  simp only[Zp,h]
  rfl
end
theorem ZyJ(ss:List ZcH):kOk 6 (ss.map Z8)=true:=by cases ss<;>rfl
section
variable (P:List AVal)(hP:P.length=26)(hN:Ze P=true)(ss:List ZcH)(hss:ss.length*48+48<=140737488355328)(l:Zd)(hl:l.length<=140737488355328)
include hP hN hss hl
theorem ZUp{s:ZcH}{r:Zd}(h:Zbf l=.ok (s,r)):E 61 [.ref 0 0] [.var (Zi P 10 1 0 ss.length++[.lnt l]),.row 0 6 (ss.map Z8)]=some (.tup [],[.var (Zi P 10 1 1 (ss.length+1)++[.lnt r]),.row 1 6 ((ss++[s]).map Z8)]):=by
 unfold Zbf at h
 split at h
 ·cases h
 rename_i f r1 ht
 have l1:=ZdP ht
 split at h
 ·cases h
 rename_i o r2 hn
 split at h
 case isFalse=>cases h
 rename_i h64
 split at h
 case isFalse=>cases h
 rename_i hq
 obtain⟨hq1,hq2⟩:=hq
 injection h with h;injection h with e1 e2;subst e1 e2
 have hT:=fun G sq hs hr=>Zny P hP hN 10 (by omega) ss.length 6 (ss.map Z8) l hl G 0 1 0 sq (by omega) hs hr ht
 have hG:=fun G sq hs hr=>ZmP P hP hN 10 (by omega) ss.length 6 (ss.map Z8) r1 (by omega) G 0 1 0 sq (by omega) hs hr (m:=1) rfl hn
 have m0:=Zbt
 have hL:=Zbp P hP hN 10 (by omega) ss.length 1 0
 have a1:=Zag _ hL
 have a3:=fun L v=>ZaD _ hL 10 11 (by omega) rfl L v
 have h10:(Zi P 10 1 0 ss.length)[10]?=some (.sl 1 0 0 ss.length):=by unfold Zi;grind
 have a4:=fun L=>(Zap _ hL 10 (by omega) L).trans h10
 have hset:(Zi P 10 1 0 ss.length).set 10 (.sl 1 1 0 (ss.length+1))=Zi P 10 1 1 (ss.length+1):=by unfold Zi;rw[WD]
 have z:¬(16:Int)=0:=by decide
 have kk:=ZyJ ss
 have k1:∀ a b c d e f:AVal,kOk 6 [.agg [a,b,c,d,e,f]]=true:=fun _ _ _ _ _ _=>rfl
 have len:(ss.map Z8).length=ss.length:=by simp
 have tk:(ss.map Z8).take ss.length=ss.map Z8:=by rw[<-len,Xai]
 have lim:(ss.length+1)*48<=140737488355328:=by omega
 have lim2:48*(ss.length+1)<=140737488355328:=by omega
 unfold Zk Zd5 at *
 rw[Zg (by rfl) Ze9]
 simp -implicitDefEqProofs only[EQA,Zs,Zc,Xd,Xc,Xf,Xa,Xg,Zy,unG,reduceCtorEq,ZZ,↓reduceIte,ZeP,ZdW,Zzc,Zb,hT,hG,m0,a1,a3,a4,z,h64,hq1,hq2,Zao,AVal.cells,Zan,viewAs,Z3,ZN,Zae,Zv,XH,ZaG,ZaP,ZaU,Zbi,Zbl,Zbg,Zbq,Zbo,ZaV,XP,k1,len,lim,hset]
 rw[Zoq (g:=1) rfl (by rw[Zcc,Za0 P hP hN 10 (by omega)];rfl) (by omega) (fun C h=>by rw[Zbz,ZaC P hP hN 10 (by omega) _ C h];rfl)]
 simp only[List.map_append,Xu,XC]
 rfl
end
section
variable (P:List AVal)(hP:P.length=26)(hN:Ze P=true)(l:Zd)(hl:l.length<=140737488355328)
include hP hN hl
theorem ZNA{e:Int}(h:Zbf l=.error e):∃ cs,Ze cs=true/\E 61 [.ref 0 0] (Zr P l)=some (.pan (ZG e),[.var cs]):=by
 unfold Zbf at h
 have z:¬(16:Int)=0:=by decide
 unfold Zr
 split at h
 ·rename_i c ht
  injection h with h;subst h
  have hT:=fun G sq hs=>ZhY P hP hN l hl G 0 sq hs ht
  refine⟨_,ZK P hP hN l,?_⟩
  rw[Zg (by rfl) Ze9]
  simp -implicitDefEqProofs only[EQA,Zc,Xc,↓reduceIte,ZeP,ZdW,Zb,hT]
  exact Zah rfl (ZK P hP hN _)
 rename_i f r1 ht
 have l1:=ZdP ht
 have hT:=fun G sq hs=>Zfl P hP hN l hl G 0 sq hs ht
 split at h
 ·rename_i c hn
  injection h with h;subst h
  have hG:=fun G sq hs=>Zhy P hP hN r1 (by omega) G 0 sq hs (m:=1) rfl (by decide) hn
  refine⟨_,ZK P hP hN r1,?_⟩
  rw[Zg (by rfl) Ze9]
  simp -implicitDefEqProofs only[EQA,Zs,Zc,Xd,Xc,Xf,Xa,Xg,reduceCtorEq,↓reduceIte,ZeP,ZdW,Zb,hT,hG,Zao,AVal.cells]
  exact Zah rfl (ZK P hP hN _)
 rename_i o r2 hn
 have hG:=fun G sq hs=>ZdM P hP hN r1 (by omega) G 0 sq hs (m:=1) rfl hn
 have m0:=Zbt
 have m1:=ZbS
 refine⟨_,ZK P hP hN r2,?_⟩
 split at h
 case isFalse =>
  rename_i h64
  injection h with h;subst h
  rw[Zg (by rfl) Ze9]
  simp -implicitDefEqProofs only[EQA,Zs,Zc,Xd,Xc,Xf,Xa,Xg,reduceCtorEq,↓reduceIte,ZeP,ZdW,Zb,hT,hG,m1,h64,Zao,AVal.cells]
  exact Zah rfl (ZK P hP hN _)
 rename_i h64
 split at h
 ·cases h
 rename_i hq
 injection h with h;subst h
 by_cases hq1:Zk o 3<3
 ·have hq2:¬Zd5 o<3:=fun h=>hq ⟨hq1,h⟩
  unfold Zk Zd5 at *
  rw[Zg (by rfl) Ze9]
  simp -implicitDefEqProofs only[EQA,Zs,Zc,Xd,Xc,Xf,Xa,Xg,Zy,unG,reduceCtorEq,↓reduceIte,ZeP,ZdW,Zb,hT,hG,m0,m1,z,h64,hq1,hq2,Zao,AVal.cells]
  exact Zah rfl (ZK P hP hN _)
 ·unfold Zk at *
  rw[Zg (by rfl) Ze9]
  simp -implicitDefEqProofs only[EQA,Zs,Zc,Xd,Xc,Xf,Xa,Xg,Zy,Z6,reduceCtorEq,↓reduceIte,ZeP,ZdW,Zb,hT,hG,m0,m1,z,h64,hq1,Zao,AVal.cells]
  exact Zah rfl (ZK P hP hN _)
variable (ss:List ZcH)
theorem ZGm{e:Int}(h:Zbf l=.error e):∃ r:Zd,E 61 [.ref 0 0] [.var (Zi P 10 1 0 ss.length++[.lnt l]),.row 0 6 (ss.map Z8)]=some (.pan (ZG e),[.var (Zi P 10 1 0 ss.length++[.lnt r]),.row 0 6 (ss.map Z8)]):=by
 unfold Zbf at h
 have z:¬(16:Int)=0:=by decide
 have fin:∀ (r:Zd) (G:Za) (x:AVal),ZQ x=true->ZR 2 (.var (Zi P 10 1 0 ss.length++[.lnt r])::.row 0 6 (ss.map Z8)::G) x=some (x,[.var (Zi P 10 1 0 ss.length++[.lnt r]),.row 0 6 (ss.map Z8)]):=fun r G x hx =>
  Zoq (g:=0) hx (by rw[Zcc,Za0 P hP hN 10 (by omega)];rfl) (by omega) (fun C h=>by rw[Zbz,ZaC P hP hN 10 (by omega) _ C h];rfl)
 split at h
 ·rename_i c ht
  injection h with h;subst h
  have hT:=fun G sq hs hr=>Zua P hP hN 10 (by omega) ss.length 6 (ss.map Z8) l hl G 0 1 0 sq (by omega) hs hr ht
  refine⟨l,?_⟩
  rw[Zg (by rfl) Ze9]
  simp -implicitDefEqProofs only[EQA,Zc,Xd,Xc,↓reduceIte,ZeP,ZdW,Zb,hT]
  exact fin _ _ _ rfl
 rename_i f r1 ht
 have l1:=ZdP ht
 have hT:=fun G sq hs hr=>Zny P hP hN 10 (by omega) ss.length 6 (ss.map Z8) l hl G 0 1 0 sq (by omega) hs hr ht
 split at h
 ·rename_i c hn
  injection h with h;subst h
  have hG:=fun G sq hs hr=>ZxK P hP hN 10 (by omega) ss.length 6 (ss.map Z8) r1 (by omega) G 0 1 0 sq (by omega) hs hr (m:=1) rfl (by decide) hn
  refine⟨r1,?_⟩
  rw[Zg (by rfl) Ze9]
  simp -implicitDefEqProofs only[EQA,Zs,Zc,Xd,Xc,Xf,Xa,Xg,reduceCtorEq,↓reduceIte,ZeP,ZdW,Zb,hT,hG,Zao,AVal.cells]
  exact fin _ _ _ rfl
 rename_i o r2 hn
 have hG:=fun G sq hs hr=>ZmP P hP hN 10 (by omega) ss.length 6 (ss.map Z8) r1 (by omega) G 0 1 0 sq (by omega) hs hr (m:=1) rfl hn
 have m0:=Zbt
 have m1:=ZbS
 refine⟨r2,?_⟩
 split at h
 case isFalse =>
  rename_i h64
  injection h with h;subst h
  rw[Zg (by rfl) Ze9]
  simp -implicitDefEqProofs only[EQA,Zs,Zc,Xd,Xc,Xf,Xa,Xg,reduceCtorEq,↓reduceIte,ZeP,ZdW,Zb,hT,hG,m1,h64,Zao,AVal.cells]
  exact fin _ _ _ rfl
 rename_i h64
 split at h
 ·cases h
 rename_i hq
 injection h with h;subst h
 by_cases hq1:Zk o 3<3
 ·have hq2:¬Zd5 o<3:=fun h=>hq ⟨hq1,h⟩
  unfold Zk Zd5 at *
  rw[Zg (by rfl) Ze9]
  simp -implicitDefEqProofs only[EQA,Zs,Zc,Xd,Xc,Xf,Xa,Xg,Zy,unG,reduceCtorEq,↓reduceIte,ZeP,ZdW,Zb,hT,hG,m0,m1,z,h64,hq1,hq2,Zao,AVal.cells]
  exact fin _ _ _ rfl
 ·unfold Zk at *
  rw[Zg (by rfl) Ze9]
  simp -implicitDefEqProofs only[EQA,Zs,Zc,Xd,Xc,Xf,Xa,Xg,Zy,Z6,reduceCtorEq,↓reduceIte,ZeP,ZdW,Zb,hT,hG,m0,m1,z,h64,hq1,Zao,AVal.cells]
  exact fin _ _ _ rfl
end
end
section
section
variable (P:List AVal)(hP:P.length=26)(hN:Ze P=true)
include hP hN
theorem ZEY(k:Int)(hk:P[0]?=some (.int .i64 k))(l:Zd)(hl:l.length<=140737488355328){c:Int}(h:ZaI k l=.error c):∃ r:Zd,E 55 [.ref 0 0] [.var (P++[.lnt l])]=some (.pan (ZG c),[.var (P++[.lnt r])]):=by
 unfold ZaI at h
 split at h
 ·rename_i n' r' h2
  split at h
  case isTrue=>cases h
  rename_i hn
  injection h with h;subst h
  have hG:=fun G sq hs=>ZdM P hP hN l hl G 0 sq hs (m:=1) rfl h2
  have a4:=fun L=>(Zap P hP 0 (by omega) L).trans hk
  have m1:=ZbS
  have hC:=fun G sq own=>Zlo k n' G sq own
  rw[Wm _ |>.mp hn]at hC
  refine⟨r',?_⟩
  rw[Zg (by rfl) ZhD]
  simp -implicitDefEqProofs only[EQA,Zc,Xc,Xa,reduceCtorEq,↓reduceIte,Zhq,ZfQ,Zb,hG,hC,a4,m1]
  exact Zah rfl (ZaT hN (by rfl))
 ·rename_i c' h2
  injection h with h;subst h
  have hG:=fun G sq hs=>Zhy P hP hN l hl G 0 sq hs (m:=1) rfl (by decide) h2
  refine⟨l,?_⟩
  rw[Zg (by rfl) ZhD]
  simp -implicitDefEqProofs only[EQA,Zc,Xc,reduceCtorEq,↓reduceIte,Zhq,ZfQ,Zb,hG]
  exact Zah rfl (ZaT hN (by rfl))
end
section
variable (P:List AVal)(hP:P.length=26)(hN:Ze P=true)(l:Zd)(hl:l.length<=140737488355328)
include hP hN hl
theorem ZCd(h11:P[11]?=some (.lst true [])){s r:Zd}(h:Zaf l=.ok (s,r)):evC FC PR BY 3 Zev [(1,.ref 2 0),(0,.ref 0 0)] [.var [.ref 1 0],.var (P++[.lnt l]),.var [.ref 1 0]]=some (.normal,[],[.var [.ref 1 0],.var (Zi P 11 3 0 1++[.lnt r]),.var [.ref 1 0],.row 0 1 [.str s]]):=by
 have hT:=fun G sq hs=>Zfl P hP hN l hl G 1 sq hs h
 have a1:=Zag P hP
 have a3:=fun L v=>ZaD P hP 11 12 (by omega) rfl L v
 have a4:=fun L=>(Zap P hP 11 (by omega) L).trans h11
 unfold Zi
 simp -implicitDefEqProofs only[EQA,Zs,Xd,Xc,Xf,Xa,Xg,reduceCtorEq,ZZ,↓reduceIte,Zev,Zb,hT,a1,a3,a4,AVal.cells,Zan,viewAs,Z3,ZN,Zv,WL,ZaG,ZaP,ZaU,Zbi,Zbl,Zbg,Zbq,Zbo,ZaV,Zei,Wa,XP,kOk]
theorem ZJ8{c:Int}(h:Zaf l=.error c)(h11:P[11]?=some (.lst true [])):evC FC PR BY 3 Zev [(1,.ref 2 0),(0,.ref 0 0)] [.var [.ref 1 0],.var (P++[.lnt l]),.var [.ref 1 0]]=some (.panic (ZG c),[],[.var [.ref 1 0],.var (P++[.lnt l]),.var [.ref 1 0],.free]):=by
 have hT:=fun G sq hs=>ZhY P hP hN l hl G 1 sq hs h
 have a4:=fun L=>(Zap P hP 11 (by omega) L).trans h11
 simp -implicitDefEqProofs only[EQA,Xd,WJ,Xc,Xf,Xa,Xg,reduceCtorEq,↓reduceIte,Zev,Zb,hT,a4,Zjb,Zef,Wu,XaL,ZaG,ZaP,ZaU,Zbi,Zbl,Zbg,Zbq,Zbo,ZaV,Zei,Wa,XP]
theorem ZGd(h8:P[8]?=some (.lst true []))(k:Int)(hk:P[0]?=some (.int .i64 k)){c:Int}{r:Zd}(h:ZaI k l=.ok (c,r)):evC FC PR BY 3 Zee [(1,.ref 2 0),(0,.ref 0 0)] [.var [.ref 1 0],.var (P++[.lnt l]),.var [.ref 1 0]]=some (.normal,[],[.var [.ref 1 0],.var (Zi P 8 3 0 1++[.lnt r]),.var [.ref 1 0],.row 0 1 [.int .i64 c]]):=by
 have hT:=fun G sq hs=>ZkK P hP hN l hl G 1 sq hs k hk h
 have a1:=Zag P hP
 have a3:=fun L v=>ZaD P hP 8 9 (by omega) rfl L v
 have a4:=fun L=>(Zap P hP 8 (by omega) L).trans h8
 unfold Zi
 simp -implicitDefEqProofs only[EQA,Zs,Xd,Xc,Xf,Xa,Xg,reduceCtorEq,ZZ,↓reduceIte,Zee,Zb,hT,a1,a3,a4,AVal.cells,Zan,viewAs,Z3,ZN,Zv,WL,ZaG,ZaP,ZaU,Zbi,Zbl,Zbg,Zbq,Zbo,ZaV,Zei,Wa,XP,kOk]
theorem ZQF(h8:P[8]?=some (.lst true []))(k:Int)(hk:P[0]?=some (.int .i64 k)){e:Int}(h:ZaI k l=.error e):∃ r:Zd,evC FC PR BY 3 Zee [(1,.ref 2 0),(0,.ref 0 0)] [.var [.ref 1 0],.var (P++[.lnt l]),.var [.ref 1 0]]=some (.panic (ZG e),[],[.var [.ref 1 0],.var (P++[.lnt r]),.var [.ref 1 0],.free]):=by
 obtain⟨r,he⟩:=ZEY P hP hN k hk l hl h
 have hT:=fun(G:Za) sq (hs:G[1]?=some (.var (P++[.lnt l])))=>Zes (O:=E) (bf:=BY) (f:=55) (view:=true) (rest:=[]) (by kernel_rfl) rfl (ZK P hP hN _) (ZK P hP hN _) rfl he hs sq
 have a4:=fun L=>(Zap P hP 8 (by omega) L).trans h8
 refine⟨r,?_⟩
 simp -implicitDefEqProofs only[EQA,Xd,WJ,Xc,Xf,Xa,Xg,reduceCtorEq,↓reduceIte,Zee,Zb,hT,a4,Zjb,Zef,Wu,XaL,ZaG,ZaP,ZaU,Zbi,Zbl,Zbg,Zbq,Zbo,ZaV,Zei,Wa,XP]
end
end
section
section
variable (P:List AVal)(hP:P.length=26)(hN:Ze P=true)(l:Zd)(hl:l.length<=140737488355328)
include hP hN hl
theorem ZMf(xs:List AVal)(hx:xs.length*16+16<=140737488355328)(kk:kOk 1 xs=true){s r:Zd}(h:Zaf l=.ok (s,r)):evC FC PR BY 4 Zev [(1,.ref 3 0),(0,.ref 0 0)] [.var [.ref 1 0],.var (Zi P 11 2 0 xs.length++[.lnt l]),.row 0 1 xs,.var [.ref 1 0]]=some (.normal,[],[.var [.ref 1 0],.var (Zi P 11 2 1 (xs.length+1)++[.lnt r]),.row 1 1 (xs++[.str s]),.var [.ref 1 0],.free]):=by
 have hT:=fun G sq hs hr=>Zny P hP hN 11 (by omega) xs.length 1 xs l hl G 1 2 0 sq (by omega) hs hr h
 have hL:=Zbp P hP hN 11 (by omega) xs.length 2 0
 have a1:=Zag _ hL
 have a3:=fun L v=>ZaD _ hL 11 12 (by omega) rfl L v
 have hc:(Zi P 11 2 0 xs.length)[11]?=some (.sl 2 0 0 xs.length):=by unfold Zi;grind
 have a4:=fun L=>(Zap _ hL 11 (by omega) L).trans hc
 have hset:(Zi P 11 2 0 xs.length).set 11 (.sl 2 1 0 (xs.length+1))=Zi P 11 2 1 (xs.length+1):=by unfold Zi;rw[WD]
 have k1:kOk 1 [.str s]=true:=rfl
 have tk:xs.take xs.length=xs:=Xai
 have lim:(xs.length+1)*16<=140737488355328:=by omega
 have lim2:16*(xs.length+1)<=140737488355328:=by omega
 simp -implicitDefEqProofs only[EQA,Zs,Xd,Xc,Xf,Xa,Xg,reduceCtorEq,ZZ,↓reduceIte,Zev,Zb,hT,a1,a3,a4,AVal.cells,Zan,viewAs,Z3,ZN,Zv,ZaG,ZaP,ZaU,Zbi,Zbl,Zbg,Zbq,Zbo,ZaV,Zei,Wa,XP,k1,lim,hset]
theorem ZNM(xs:List AVal)(hx:xs.length*8+8<=140737488355328)(kk:kOk 1 xs=true)(k:Int)(hk:P[0]?=some (.int .i64 k)){c:Int}{r:Zd}(h:ZaI k l=.ok (c,r)):evC FC PR BY 4 Zee [(1,.ref 3 0),(0,.ref 0 0)] [.var [.ref 1 0],.var (Zi P 8 2 0 xs.length++[.lnt l]),.row 0 1 xs,.var [.ref 1 0]]=some (.normal,[],[.var [.ref 1 0],.var (Zi P 8 2 1 (xs.length+1)++[.lnt r]),.row 1 1 (xs++[.int .i64 c]),.var [.ref 1 0],.free]):=by
 have hk0:(Zi P 8 1 0 xs.length)[0]?=some (.int .i64 k):=by unfold Zi;rw[Xl (by omega)];exact hk
 have hT:=fun G sq hs hr=>ZUi P hP hN 8 (by omega) xs.length 1 xs l hl k hk0 G 1 2 0 sq (by omega) hs hr h
 have hL:=Zbp P hP hN 8 (by omega) xs.length 2 0
 have a1:=Zag _ hL
 have a3:=fun L v=>ZaD _ hL 8 9 (by omega) rfl L v
 have hc:(Zi P 8 2 0 xs.length)[8]?=some (.sl 2 0 0 xs.length):=by unfold Zi;grind
 have a4:=fun L=>(Zap _ hL 8 (by omega) L).trans hc
 have hset:(Zi P 8 2 0 xs.length).set 8 (.sl 2 1 0 (xs.length+1))=Zi P 8 2 1 (xs.length+1):=by unfold Zi;rw[WD]
 have k1:kOk 1 [.int .i64 c]=true:=rfl
 have tk:xs.take xs.length=xs:=Xai
 have lim:(xs.length+1)*8<=140737488355328:=by omega
 have lim2:8*(xs.length+1)<=140737488355328:=by omega
 simp -implicitDefEqProofs only[EQA,Zs,Xd,Xc,Xf,Xa,Xg,reduceCtorEq,ZZ,↓reduceIte,Zee,Zb,hT,a1,a3,a4,AVal.cells,Zan,viewAs,Z3,ZN,Zv,ZaG,ZaP,ZaU,Zbi,Zbl,Zbg,Zbq,Zbo,ZaV,Zei,Wa,XP,k1,lim,hset]
end
end
section
section
variable (P:List AVal)(hP:P.length=26)(hN:Ze P=true)(l:Zd)(hl:l.length<=140737488355328)
include hP hN hl
theorem ZGv(xs:List AVal){c:Int}(h:Zaf l=.error c):evC FC PR BY 4 Zev [(1,.ref 3 0),(0,.ref 0 0)] [.var [.ref 1 0],.var (Zi P 11 2 0 xs.length++[.lnt l]),.row 0 1 xs,.var [.ref 1 0]]=some (.panic (ZG c),[],[.var [.ref 1 0],.var (Zi P 11 2 0 xs.length++[.lnt l]),.row 0 1 xs,.var [.ref 1 0],.free]):=by
 have hT:=fun G sq hs hr=>Zua P hP hN 11 (by omega) xs.length 1 xs l hl G 1 2 0 sq (by omega) hs hr h
 have hL:=Zbp P hP hN 11 (by omega) xs.length 2 0
 have hc:(Zi P 11 2 0 xs.length)[11]?=some (.sl 2 0 0 xs.length):=by unfold Zi;grind
 have a4:=fun L=>(Zap _ hL 11 (by omega) L).trans hc
 simp -implicitDefEqProofs only[EQA,Xd,WJ,Xc,Xf,Xa,Xg,reduceCtorEq,↓reduceIte,Zev,Zb,hT,a4,Zjb,Zef,Wu,XaL,ZaG,ZaP,ZaU,Zbi,Zbl,Zbg,Zbq,Zbo,ZaV,Zei,Wa,XP]
theorem ZAT(xs:List AVal)(k:Int)(hk:P[0]?=some (.int .i64 k)){e:Int}(h:ZaI k l=.error e):∃ r:Zd,evC FC PR BY 4 Zee [(1,.ref 3 0),(0,.ref 0 0)] [.var [.ref 1 0],.var (Zi P 8 2 0 xs.length++[.lnt l]),.row 0 1 xs,.var [.ref 1 0]]=some (.panic (ZG e),[],[.var [.ref 1 0],.var (Zi P 8 2 0 xs.length++[.lnt r]),.row 0 1 xs,.var [.ref 1 0],.free]):=by
 have hk0:(Zi P 8 1 0 xs.length)[0]?=some (.int .i64 k):=by unfold Zi;rw[Xl (by omega)];exact hk
 have hT0:=fun(G:Za) sq (hs:G[1]?=some (.var (Zi P 8 2 0 xs.length++[.lnt l]))) (hr:G[2]?=some (.row 0 1 xs))=>ZSM P hP hN 8 (by omega) xs.length 1 xs l hl k hk0 G 1 2 0 sq (by omega) hs hr h
 have hL:=Zbp P hP hN 8 (by omega) xs.length 2 0
 have hc:(Zi P 8 2 0 xs.length)[8]?=some (.sl 2 0 0 xs.length):=by unfold Zi;grind
 have a4:=fun L=>(Zap _ hL 8 (by omega) L).trans hc
 obtain⟨r,hT⟩:=hT0 [.var [.ref 1 0],.var (Zi P 8 2 0 xs.length++[.lnt l]),.row 0 1 xs,.var [.ref 1 0],.free] 4 rfl rfl
 refine⟨r,?_⟩
 simp -implicitDefEqProofs only[EQA,Xd,WJ,Xc,Xf,Xa,Xg,reduceCtorEq,↓reduceIte,Zee,Zb,hT,a4,Zjb,Zef,Wu,XaL,ZaG,ZaP,ZaU,Zbi,Zbl,Zbg,Zbq,Zbo,ZaV,Zei,Wa,XP]
end
section
variable {cs:List AVal}{r:AVal}{G:Za}
theorem Zy0(hr:ZQ r=true)(hc:Ze cs=true):ZR 3 (.var [.ref 1 0]::.var cs::.var [.ref 1 0]::G) r=some (r,[.var [.ref 1 0],.var cs,.var [.ref 1 0]]):=by
 have e1:=fun C=>Zba C r hr
 have e2:=fun C=>Z5 C cs hc
 have hi:Zw 3 [r] (.var [.ref 1 0]::.var cs::.var [.ref 1 0]::G)=[0,1,2]:=by
  have : Zl [r]=[]:=by simp only[Zl,(e1 (fun _ _=>none)).2,Xr]
  have hR:X5 3=[0,1,2]:=rfl
  simp only[Zw,this,Xp,hR,XB,XQ,Xr,Xm,Xs,ZB,(e2 (fun _ _=>none)).2]
  rfl
 have hC:Zn (.var [.ref 1 0]::.var cs::.var [.ref 1 0]::G) 3 [0,1,2] 1 0=some (1,0):=rfl
 simp only[ZR,gcA,hi,Zj,(e1 _).1,Zo,Xm,Xs,Zz,Zp,hC,(e2 _).1]
theorem Zx9{w:Nat}{xs:List AVal}(hr:ZQ r=true)(hc:Zl cs=[3])(hren:∀ C:Rho,C 3 0=some (3,0)->Zj C cs=cs):ZR 3 (.var [.ref 1 0]::.var cs::.var [.ref 1 0]::.row 0 w xs::G) r=some (r,[.var [.ref 1 0],.var cs,.var [.ref 1 0],.row 0 w xs]):=by
 have e1:=fun C=>Zba C r hr
 have hi:Zw 3 [r] (.var [.ref 1 0]::.var cs::.var [.ref 1 0]::.row 0 w xs::G)=[0,1,2,3]:=by
  have : Zl [r]=[]:=by simp only[Zl,(e1 (fun _ _=>none)).2,Xr]
  have hR:X5 3=[0,1,2]:=rfl
  simp only[Zw,this,Xp,hR,XB,XQ,Xr,Xm,Xs,ZB,hc]
  rfl
 have hC:Zn (.var [.ref 1 0]::.var cs::.var [.ref 1 0]::.row 0 w xs::G) 3 [0,1,2,3] 1 0=some (1,0):=rfl
 have hC3:Zn (.var [.ref 1 0]::.var cs::.var [.ref 1 0]::.row 0 w xs::G) 3 [0,1,2,3] 3 0=some (3,0):=rfl
 simp only[ZR,gcA,hi,Zj,(e1 _).1,Zo,Xm,Xs,ZD,Zm,Zz,Zp,hC,hren _ hC3]
 rfl
theorem Zmo{w g:Nat}{xs:List AVal}(hr:ZQ r=true)(hg:g<=1)(hc:Zl cs=[2])(hren:∀ C:Rho,C 2 g=some (2,g)->Zj C cs=cs):ZR 4 (.var [.ref 1 0]::.var cs::.row g w xs::.var [.ref 1 0]::G) r=some (r,[.var [.ref 1 0],.var cs,.row g w xs,.var [.ref 1 0]]):=by
 have e1:=fun C=>Zba C r hr
 have hi:Zw 4 [r] (.var [.ref 1 0]::.var cs::.row g w xs::.var [.ref 1 0]::G)=[0,1,2,3]:=by
  have : Zl [r]=[]:=by simp only[Zl,(e1 (fun _ _=>none)).2,Xr]
  have hR:X5 4=[0,1,2,3]:=rfl
  simp only[Zw,this,Xp,hR,XB,XQ,Xr,Xm,Xs,ZB,hc]
  rfl
 have hng:(if g=0 then 0 else 1)=g:=by split<;>omega
 have hC:Zn (.var [.ref 1 0]::.var cs::.row g w xs::.var [.ref 1 0]::G) 4 [0,1,2,3] 1 0=some (1,0):=rfl
 have hC3:Zn (.var [.ref 1 0]::.var cs::.row g w xs::.var [.ref 1 0]::G) 4 [0,1,2,3] 2 g=some (2,g):=by
  simp only[Zn,ZI,Zm,ZD,XN,XK]
  simp[hng]
 simp only[ZR,gcA,hi,Zj,(e1 _).1,Zo,Xm,Xs,ZD,Zm,Zz,Zp,hC,hren _ hC3]
 simp[hng]
end
section
variable (P:List AVal)(hP:P.length=26)(hN:Ze P=true)(l:Zd)(hl:l.length<=140737488355328)
include hP hN hl
theorem ZiE(k:Nat)(hk:k<26)(r g n:Nat)(L:Zd):Zl (Zi P k r g n++[.lnt L])=[r]:=by
 rw[Zcc,Zi,ZiC hN (by omega)];rfl
theorem ZiT(k r g n r' g':Nat)(L:Zd)(C:Rho)(h:C r g=some (r',g')):Zj C (Zi P k r g n++[.lnt L])=Zi P k r' g' n++[.lnt L]:=by
 rw[Zbz,Zi,Zki C hN,Zi]
 simp only[Zp,h,Zj]
theorem ZR2(h11:P[11]?=some (.lst true [])){s r:Zd}(h:Zaf l=.ok (s,r)):E 62 [.ref 0 0,.ref 2 0] [.var [.ref 1 0],.var (P++[.lnt l]),.var [.ref 1 0]]=some (.tup [],[.var [.ref 1 0],.var (Zi P 11 3 0 1++[.lnt r]),.var [.ref 1 0],.row 0 1 [.str s]]):=by
 rw[Zg (by rfl) Zl6]
 have:=ZCd P hP hN l hl h11 h
 have h2:=Zx9 (G:=[]) (w:=1) (xs:=[.str s]) (r:=.tup []) rfl (ZiE P hP hN l hl 11 (by omega) 3 0 1 r) (fun C hC=>ZiT P hP hN l hl 11 3 0 1 3 0 r C hC)
 show Zax 3 _ (evC FC PR BY 3 Zev [(1,.ref 2 0),(0,.ref 0 0)] _)=_
 rw[this]
 exact h2
theorem ZIN{c:Int}(h:Zaf l=.error c)(h11:P[11]?=some (.lst true [])):E 62 [.ref 0 0,.ref 2 0] [.var [.ref 1 0],.var (P++[.lnt l]),.var [.ref 1 0]]=some (.pan (ZG c),[.var [.ref 1 0],.var (P++[.lnt l]),.var [.ref 1 0]]):=by
 rw[Zg (by rfl) Zl6]
 have:=ZJ8 P hP hN l hl h h11
 have h2:=Zy0 (G:=[.free]) (r:=.pan (ZG c)) rfl (ZK P hP hN l)
 show Zax 3 _ (evC FC PR BY 3 Zev [(1,.ref 2 0),(0,.ref 0 0)] _)=_
 rw[this]
 exact h2
theorem ZPR(h8:P[8]?=some (.lst true []))(k:Int)(hk:P[0]?=some (.int .i64 k)){c:Int}{r:Zd}(h:ZaI k l=.ok (c,r)):E 64 [.ref 0 0,.ref 2 0] [.var [.ref 1 0],.var (P++[.lnt l]),.var [.ref 1 0]]=some (.tup [],[.var [.ref 1 0],.var (Zi P 8 3 0 1++[.lnt r]),.var [.ref 1 0],.row 0 1 [.int .i64 c]]):=by
 rw[Zg (by rfl) ZmK]
 have:=ZGd P hP hN l hl h8 k hk h
 have h2:=Zx9 (G:=[]) (w:=1) (xs:=[.int .i64 c]) (r:=.tup []) rfl (ZiE P hP hN l hl 8 (by omega) 3 0 1 r) (fun C hC=>ZiT P hP hN l hl 8 3 0 1 3 0 r C hC)
 show Zax 3 _ (evC FC PR BY 3 Zee [(1,.ref 2 0),(0,.ref 0 0)] _)=_
 rw[this]
 exact h2
theorem ZOB(h8:P[8]?=some (.lst true []))(k:Int)(hk:P[0]?=some (.int .i64 k)){e:Int}(h:ZaI k l=.error e):∃ r:Zd,E 64 [.ref 0 0,.ref 2 0] [.var [.ref 1 0],.var (P++[.lnt l]),.var [.ref 1 0]]=some (.pan (ZG e),[.var [.ref 1 0],.var (P++[.lnt r]),.var [.ref 1 0]]):=by
 obtain⟨r,this⟩:=ZQF P hP hN l hl h8 k hk h
 have h2:=Zy0 (G:=[.free]) (r:=.pan (ZG e)) rfl (ZK P hP hN r)
 refine⟨r,?_⟩
 rw[Zg (by rfl) ZmK]
 show Zax 3 _ (evC FC PR BY 3 Zee [(1,.ref 2 0),(0,.ref 0 0)] _)=_
 rw[this]
 exact h2
variable (xs:List AVal)
theorem ZFg(hx:xs.length*16+16<=140737488355328)(kk:kOk 1 xs=true){s r:Zd}(h:Zaf l=.ok (s,r)):E 62 [.ref 0 0,.ref 3 0] [.var [.ref 1 0],.var (Zi P 11 2 0 xs.length++[.lnt l]),.row 0 1 xs,.var [.ref 1 0]]=some (.tup [],[.var [.ref 1 0],.var (Zi P 11 2 1 (xs.length+1)++[.lnt r]),.row 1 1 (xs++[.str s]),.var [.ref 1 0]]):=by
 rw[Zg (by rfl) Zl6]
 have:=ZMf P hP hN l hl xs hx kk h
 have h2:=Zmo (G:=[.free]) (w:=1) (g:=1) (xs:=xs++[.str s]) (r:=.tup []) rfl (by omega) (ZiE P hP hN l hl 11 (by omega) 2 1 (xs.length+1) r) (fun C hC=>ZiT P hP hN l hl 11 2 1 (xs.length+1) 2 1 r C hC)
 show Zax 4 _ (evC FC PR BY 4 Zev [(1,.ref 3 0),(0,.ref 0 0)] _)=_
 rw[this]
 exact h2
theorem ZTG{c:Int}(h:Zaf l=.error c):E 62 [.ref 0 0,.ref 3 0] [.var [.ref 1 0],.var (Zi P 11 2 0 xs.length++[.lnt l]),.row 0 1 xs,.var [.ref 1 0]]=some (.pan (ZG c),[.var [.ref 1 0],.var (Zi P 11 2 0 xs.length++[.lnt l]),.row 0 1 xs,.var [.ref 1 0]]):=by
 rw[Zg (by rfl) Zl6]
 have:=ZGv P hP hN l hl xs h
 have h2:=Zmo (G:=[.free]) (w:=1) (g:=0) (xs:=xs) (r:=.pan (ZG c)) rfl (by omega) (ZiE P hP hN l hl 11 (by omega) 2 0 xs.length l) (fun C hC=>ZiT P hP hN l hl 11 2 0 xs.length 2 0 l C hC)
 show Zax 4 _ (evC FC PR BY 4 Zev [(1,.ref 3 0),(0,.ref 0 0)] _)=_
 rw[this]
 exact h2
theorem ZMS(hx:xs.length*8+8<=140737488355328)(kk:kOk 1 xs=true)(k:Int)(hk:P[0]?=some (.int .i64 k)){c:Int}{r:Zd}(h:ZaI k l=.ok (c,r)):E 64 [.ref 0 0,.ref 3 0] [.var [.ref 1 0],.var (Zi P 8 2 0 xs.length++[.lnt l]),.row 0 1 xs,.var [.ref 1 0]]=some (.tup [],[.var [.ref 1 0],.var (Zi P 8 2 1 (xs.length+1)++[.lnt r]),.row 1 1 (xs++[.int .i64 c]),.var [.ref 1 0]]):=by
 rw[Zg (by rfl) ZmK]
 have:=ZNM P hP hN l hl xs hx kk k hk h
 have h2:=Zmo (G:=[.free]) (w:=1) (g:=1) (xs:=xs++[.int .i64 c]) (r:=.tup []) rfl (by omega) (ZiE P hP hN l hl 8 (by omega) 2 1 (xs.length+1) r) (fun C hC=>ZiT P hP hN l hl 8 2 1 (xs.length+1) 2 1 r C hC)
 show Zax 4 _ (evC FC PR BY 4 Zee [(1,.ref 3 0),(0,.ref 0 0)] _)=_
 rw[this]
 exact h2
theorem ZF6(k:Int)(hk:P[0]?=some (.int .i64 k)){e:Int}(h:ZaI k l=.error e):∃ r:Zd,E 64 [.ref 0 0,.ref 3 0] [.var [.ref 1 0],.var (Zi P 8 2 0 xs.length++[.lnt l]),.row 0 1 xs,.var [.ref 1 0]]=some (.pan (ZG e),[.var [.ref 1 0],.var (Zi P 8 2 0 xs.length++[.lnt r]),.row 0 1 xs,.var [.ref 1 0]]):=by
 obtain⟨r,this⟩:=ZAT P hP hN l hl xs k hk h
 have h2:=Zmo (G:=[.free]) (w:=1) (g:=0) (xs:=xs) (r:=.pan (ZG e)) rfl (by omega) (ZiE P hP hN l hl 8 (by omega) 2 0 xs.length r) (fun C hC=>ZiT P hP hN l hl 8 2 0 xs.length 2 0 r C hC)
 refine⟨r,?_⟩
 rw[Zg (by rfl) ZmK]
 show Zax 4 _ (evC FC PR BY 4 Zee [(1,.ref 3 0),(0,.ref 0 0)] _)=_
 rw[this]
 exact h2
end
end
section
def ZaR{D:Type}(one:Zd->RK D):Nat->Zd->Except Int (List D)
 |0,l=>if l.length=0 then .ok []else .error 0
 |n+1,l=>if l.length=0 then .ok []else match one l with
  | .error e=>.error e
  | .ok (a,r)=>match ZaR one n r with
   | .error e=>.error e
   | .ok t=>.ok (a::t)
section
variable {O:ZS}{bf:Nat->Bool}{f:Nat}{cs cs1 cs2 cs3 xs xs2:List AVal}{w w2 g2:Nat}{q:AVal}{G:Za}{sq:Nat}
theorem ZwL(h0:G[0]?=some (.var cs))(h1:G[1]?=some (.var [.ref 0 0]))(h2:G[2]?=some (.var [.ref 0 0]))(hc:Zl cs=[]):Zt G 1000 [1,2] []=[1,0,2]:=by
 have d0:G.getD 0 .free=.var cs:=by simp[Xh,h0]
 have d1:G.getD 1 .free=.var [.ref 0 0]:=by simp[Xh,h1]
 have d2:G.getD 2 .free=.var [.ref 0 0]:=by simp[Xh,h2]
 rw[show(1000:Nat)=995+1+1+1+1+1 from rfl]
 simp only[Zt,d0,d1,d2,ZB,Zl,ZH,hc,W6,Wh,Xr,Xp,XJ,Xaq,Xi,if_false]
 simp
theorem ZE7(h0:G[0]?=some (.var cs))(h1:G[1]?=some (.var [.ref 0 0]))(h2:G[2]?=some (.var [.ref 0 0]))(h3:G[3]?=some (.row 0 w xs))(hc:Zl cs=[3]):Zt G 1000 [1,2] []=[1,0,3,2]:=by
 have d0:G.getD 0 .free=.var cs:=by simp[Xh,h0]
 have d1:G.getD 1 .free=.var [.ref 0 0]:=by simp[Xh,h1]
 have d2:G.getD 2 .free=.var [.ref 0 0]:=by simp[Xh,h2]
 have d3:G.getD 3 .free=.row 0 w xs:=by simp[Xh,h3]
 rw[show(1000:Nat)=994+1+1+1+1+1+1 from rfl]
 simp only[Zt,d0,d1,d2,d3,ZB,Zl,ZH,hc,W6,Wh,Xr,Xp,XJ,Xaq,Xi,if_false]
 simp
theorem ZSK(hb:bf f=false)(hc:Ze cs=true)(hq:ZQ q=true)(hback:∀ C:Rho,C 3 0=some (3,0)->Zj C cs2=cs3)(hO:O f [.ref 0 0,.ref 2 0] [.var [.ref 1 0],.var cs,.var [.ref 1 0]]=some (q,[.var [.ref 1 0],.var cs2,.var [.ref 1 0],.row 0 w xs])) :
  Zq O bf [.var cs,.var [.ref 0 0],.var [.ref 0 0],.free,.free,.free,.free] 3 f 4 false [.ref 1 0,.ref 2 0]=some (q,[.var cs3,.var [.ref 0 0],.var [.ref 0 0],.row 0 w xs,.free,.free,.free],{ any:=true,upd:=[(1,[.ref 0 0]),(0,cs3),(2,[.ref 0 0])] }):=by
 have ec:=fun C=>Z5 C cs hc
 refine Zcf (ids:=[1,0,2]) (vs:=[.ref 1 0,.ref 2 0]) hb rfl (ZwL rfl rfl rfl (ec (fun _ _=>none)).2) rfl rfl rfl ?_ hO rfl (by simp) (by simp) rfl rfl (Zba _ q hq).1 ?_ rfl
 ·show [ZP.var (Zj _ [.ref 0 0]),.var (Zj _ cs),.var (Zj _ [.ref 0 0])]=_
  rw[(ec _).1];rfl
 ·have hb3:=hback (Zak [.var cs,.var [.ref 0 0],.var [.ref 0 0],.free,.free,.free,.free] [1,0,2] 3) rfl
  show [ZP.var (Zj _ cs2),.var (Zj _ [.ref 1 0]),.var (Zj _ [.ref 1 0]),.row 0 w xs,.free,.free,.free]=_
  rw[hb3];rfl
theorem ZJz(hb:bf f=false)(hc:Ze cs=true)(hq:ZQ q=true)(hc2:Ze cs2=true)(hO:O f [.ref 0 0,.ref 2 0] [.var [.ref 1 0],.var cs,.var [.ref 1 0]]=some (q,[.var [.ref 1 0],.var cs2,.var [.ref 1 0]])) :
  Zq O bf [.var cs,.var [.ref 0 0],.var [.ref 0 0],.free,.free,.free,.free] 3 f 4 false [.ref 1 0,.ref 2 0]=some (q,[.var cs2,.var [.ref 0 0],.var [.ref 0 0],.free,.free,.free,.free],{ any:=true,upd:=[(1,[.ref 0 0]),(0,cs2),(2,[.ref 0 0])] }):=by
 have ec:=fun C=>Z5 C cs hc
 refine Zcf (ids:=[1,0,2]) (vs:=[.ref 1 0,.ref 2 0]) hb rfl (ZwL rfl rfl rfl (ec (fun _ _=>none)).2) rfl rfl rfl ?_ hO rfl (by simp) (by simp) rfl rfl (Zba _ q hq).1 ?_ rfl
 ·show [ZP.var (Zj _ [.ref 0 0]),.var (Zj _ cs),.var (Zj _ [.ref 0 0])]=_
  rw[(ec _).1];rfl
 ·show [ZP.var (Zj _ cs2),.var (Zj _ [.ref 1 0]),.var (Zj _ [.ref 1 0]),.free,.free,.free,.free]=_
  rw[(Z5 _ cs2 hc2).1];rfl
theorem ZzJ(hb:bf f=false)(hc:Zl cs=[3])(hren:∀ C:Rho,C 3 0=some (2,0)->Zj C cs=cs1)(hq:ZQ q=true)(hg2:g2<=1)(hback:∀ C:Rho,C 2 g2=some (3,g2)->Zj C cs2=cs3)(hO:O f [.ref 0 0,.ref 3 0] [.var [.ref 1 0],.var cs1,.row 0 w xs,.var [.ref 1 0]]=some (q,[.var [.ref 1 0],.var cs2,.row g2 w2 xs2,.var [.ref 1 0]])) :
  Zq O bf [.var cs,.var [.ref 0 0],.var [.ref 0 0],.row 0 w xs,.free,.free,.free,.free] 4 f 4 false [.ref 1 0,.ref 2 0]=some (q,[.var cs3,.var [.ref 0 0],.var [.ref 0 0],.row g2 w2 xs2,.free,.free,.free,.free],{ any:=true,upd:=[(1,[.ref 0 0]),(0,cs3),(2,[.ref 0 0])] }):=by
 refine Zcf (ids:=[1,0,3,2]) (vs:=[.ref 1 0,.ref 2 0]) hb rfl (ZE7 rfl rfl rfl rfl hc) rfl rfl rfl ?_ hO rfl (by simp) (by simp) ?_ rfl (Zba _ q hq).1 ?_ rfl
 ·have h1:=hren (Zn [.var cs,.var [.ref 0 0],.var [.ref 0 0],.row 0 w xs,.free,.free,.free,.free] 0 [1,0,3,2]) rfl
  show [ZP.var (Zj _ [.ref 0 0]),.var (Zj _ cs),.row 0 w xs,.var (Zj _ [.ref 0 0])]=_
  rw[h1];rfl
 ·simp[Za1,okB,Zcy,Zm,hg2]
 ·have hb3:=hback (Zak [.var cs,.var [.ref 0 0],.var [.ref 0 0],.row 0 w xs,.free,.free,.free,.free] [1,0,3,2] 4) (by simp[Zak,Zm])
  show [ZP.var (Zj _ cs2),.var (Zj _ [.ref 1 0]),.var (Zj _ [.ref 1 0]),.row (0+g2) w2 xs2,.free,.free,.free,.free]=_
  rw[hb3,XF];rfl
theorem ZwT{f g:Nat}(hc:Zl cs=[3])(hg:g<=1)(hren:∀ C:Rho,C 3 g=some (3,0)->Zj C cs=cs1)(B:Za) :
  gcT 3 [(1,.fn f [.ref 1 0,.ref 2 0]),(0,.ref 0 0)] (.var cs::.var [.ref 0 0]::.var [.ref 0 0]::.row g w xs::B)=([(1,.fn f [.ref 1 0,.ref 2 0]),(0,.ref 0 0)],[.var cs1,.var [.ref 0 0],.var [.ref 0 0],.row 0 w xs]):=by
 have hi:Zw 3 [.fn f [.ref 1 0,.ref 2 0],.ref 0 0] (.var cs::.var [.ref 0 0]::.var [.ref 0 0]::.row g w xs::B)=[0,1,2,3]:=by
  have hR:X5 3=[0,1,2]:=rfl
  simp only[Zw,hR,XB,XQ,Xr,Xm,Xs,ZB,Zl,ZH,hc]
  rfl
 have hC:Zn (.var cs::.var [.ref 0 0]::.var [.ref 0 0]::.row g w xs::B) 3 [0,1,2,3] 3 g=some (3,0):=by
  simp[Zn,ZI,Zm,ZD]
 have hC0:Zn (.var cs::.var [.ref 0 0]::.var [.ref 0 0]::.row g w xs::B) 3 [0,1,2,3] 0 0=some (0,0):=rfl
 have hC1:Zn (.var cs::.var [.ref 0 0]::.var [.ref 0 0]::.row g w xs::B) 3 [0,1,2,3] 1 0=some (1,0):=rfl
 have hC2:Zn (.var cs::.var [.ref 0 0]::.var [.ref 0 0]::.row g w xs::B) 3 [0,1,2,3] 2 0=some (2,0):=rfl
 simp only[gcT,gcA,Xu,XC,hi,Zo,Xm,Xs,ZD,Zm,Zz,Zj,Zp,hC0,hC1,hC2,hren _ hC]
 simp
theorem ZnF{r:AVal}(hr:ZQ r=true)(hc:Zl cs=[3])(hren:∀ C:Rho,C 3 0=some (3,0)->Zj C cs=cs)(B:Za):ZR 3 (.var cs::.var [.ref 0 0]::.var [.ref 0 0]::.row 0 w xs::B) r=some (r,[.var cs,.var [.ref 0 0],.var [.ref 0 0],.row 0 w xs]):=by
 have e1:=fun C=>Zba C r hr
 have hi:Zw 3 [r] (.var cs::.var [.ref 0 0]::.var [.ref 0 0]::.row 0 w xs::B)=[0,1,2,3]:=by
  have hR:X5 3=[0,1,2]:=rfl
  simp only[Zw,(e1 (fun _ _=>none)).2,Xp,hR,XB,XQ,Xr,Xm,Xs,ZB,Zl,ZH,hc]
  rfl
 have hC3:Zn (.var cs::.var [.ref 0 0]::.var [.ref 0 0]::.row 0 w xs::B) 3 [0,1,2,3] 3 0=some (3,0):=rfl
 have hC0:Zn (.var cs::.var [.ref 0 0]::.var [.ref 0 0]::.row 0 w xs::B) 3 [0,1,2,3] 0 0=some (0,0):=rfl
 simp only[ZR,gcA,hi,Zj,(e1 _).1,Zo,Xm,Xs,ZD,Zm,Zz,Zp,hC0,hren _ hC3]
 rfl
theorem Zmu{r:AVal}(hr:ZQ r=true)(hc:Ze cs=true)(B:Za):ZR 3 (.var cs::.var [.ref 0 0]::.var [.ref 0 0]::B) r=some (r,[.var cs,.var [.ref 0 0],.var [.ref 0 0]]):=by
 have e1:=fun C=>Zba C r hr
 have e2:=fun C=>Z5 C cs hc
 have hi:Zw 3 [r] (.var cs::.var [.ref 0 0]::.var [.ref 0 0]::B)=[0,1,2]:=by
  have hR:X5 3=[0,1,2]:=rfl
  simp only[Zw,(e1 (fun _ _=>none)).2,Xp,hR,XB,XQ,Xr,Xm,Xs,ZB,Zl,ZH,(e2 (fun _ _=>none)).2]
  rfl
 have hC0:Zn (.var cs::.var [.ref 0 0]::.var [.ref 0 0]::B) 3 [0,1,2] 0 0=some (0,0):=rfl
 simp only[ZR,gcA,hi,Zj,(e1 _).1,Zo,Xm,Xs,Zz,Zp,hC0,(e2 _).1]
end
section
variable {D:Type}{one:Zd->RK D}{g:D->AVal}{f k:Nat}(P:List AVal)(hP:P.length=26)(hN:Ze P=true)(hk:k<26)(hf:f<1000000)(hby:BY f=false)
  (hlen:∀ {l s r},one l=.ok (s,r)->r.length<l.length)
  (hT1:∀ (xs:List D) (l:Zd) (s:D) (r:Zd),l.length<=1099511627776->xs.length<=1099511627776->one l=.ok (s,r)->E f [.ref 0 0,.ref 3 0] [.var [.ref 1 0],.var (Zi P k 2 0 xs.length++[.lnt l]),.row 0 1 (xs.map g),.var [.ref 1 0]]=some (.tup [],[.var [.ref 1 0],.var (Zi P k 2 1 (xs.length+1)++[.lnt r]),.row 1 1 ((xs++[s]).map g),.var [.ref 1 0]]))
  (hF1:∀ (xs:List D) (l:Zd) (e:Int),l.length<=1099511627776->one l=.error e->∃ r:Zd,E f [.ref 0 0,.ref 3 0] [.var [.ref 1 0],.var (Zi P k 2 0 xs.length++[.lnt l]),.row 0 1 (xs.map g),.var [.ref 1 0]]=some (.pan (ZG e),[.var [.ref 1 0],.var (Zi P k 2 0 xs.length++[.lnt r]),.row 0 1 (xs.map g),.var [.ref 1 0]]))
include hP hN hk
def H3(P:List AVal)(k n:Nat)(l:Zd)(ys:List AVal):Za:=[.var (Zi P k 3 0 n++[.lnt l]),.var [.ref 0 0],.var [.ref 0 0],.row 0 1 ys]
theorem ZbX(r g n:Nat)(L:Zd):Zl (Zi P k r g n++[.lnt L])=[r]:=by
 rw[Zcc,Zi,ZiC hN (by omega)];rfl
theorem Zbe(r g n r' g':Nat)(L:Zd)(C:Rho)(h:C r g=some (r',g')):Zj C (Zi P k r g n++[.lnt L])=Zi P k r' g' n++[.lnt L]:=by
 rw[Zbz,Zi,Zki C hN,Zi]
 simp only[Zp,h,Zj]
include hf hby hlen hT1 hF1
theorem ZzH:∀ (n:Nat) (l:Zd) (xs:List D),l.length<=n->n+xs.length<=1099511627776 ->
  (∀ ts,ZaR one n l=.ok ts->Zbc 3 [(1,.fn f [.ref 1 0,.ref 2 0]),(0,.ref 0 0)] (H3 P k xs.length l (xs.map g))=some (.tup [],H3 P k (xs++ts).length [] ((xs++ts).map g))) /\
  (∀ e,ZaR one n l=.error e->∃ (xs':List D) (r:Zd),Zbc 3 [(1,.fn f [.ref 1 0,.ref 2 0]),(0,.ref 0 0)] (H3 P k xs.length l (xs.map g))=some (.pan (ZG e),H3 P k xs'.length r (xs'.map g))):=by
 intro n
 induction n with
 |zero =>
  intro l xs hl hx
  have l0:l=[]:=Xx (by omega)
  subst l0
  refine⟨fun ts h=>?_,fun e h=>by simp[ZaR]at h⟩
  have : ts=[]:=by simpa[ZaR]using h.symm
  subst this
  rw[Xr]
  have hL:=Zbp P hP hN k hk xs.length 3 0
  have b2:=ZaB _ hL
  have hO:=ZnF (w:=1) (xs:=xs.map g) (r:=.tup []) rfl (ZbX P hP hN hk 3 0 xs.length []) (fun C h=>Zbe P hP hN hk 3 0 xs.length 3 0 [] C h)
  unfold H3 Zbc
  rw[Z9]
  generalize Zi P k 3 0 xs.length=Q at *
  generalize xs.map g=ys at *
  simp -implicitDefEqProofs only[EQA,Zc,Xd,Xc,Xa,Xg,reduceCtorEq,decide_eq_true_eq,ite_self,↓reduceIte,ZmF,ZeM,ZdZ,Zb,b2]
  exact hO _
 |succ n ih =>
  intro l xs hl hx
  have hL:=Zbp P hP hN k hk xs.length 3 0
  have b2:=ZaB _ hL
  by_cases l0:l.length=0
  ·have l0:l=[]:=Xx l0
   subst l0
   refine⟨fun ts h=>?_,fun e h=>by simp[ZaR]at h⟩
   have : ts=[]:=by simpa[ZaR]using h.symm
   subst this
   rw[Xr]
   have hO:=ZnF (w:=1) (xs:=xs.map g) (r:=.tup []) rfl (ZbX P hP hN hk 3 0 xs.length []) (fun C h=>Zbe P hP hN hk 3 0 xs.length 3 0 [] C h)
   unfold H3 Zbc
   rw[Z9]
   generalize Zi P k 3 0 xs.length=Q at *
   generalize xs.map g=ys at *
   simp -implicitDefEqProofs only[EQA,Zc,Xd,Xc,Xa,Xg,reduceCtorEq,decide_eq_true_eq,ite_self,↓reduceIte,ZmF,ZeM,ZdZ,Zb,b2]
   exact hO _
  ·have z1:((l.length:Nat):Int)>0:=by omega
   have z2:(0:Int)<((l.length:Nat):Int):=by omega
   cases ho:one l with
   |error e =>
    refine⟨fun ts h=>by simp[ZaR,l0,ho]at h,fun e' h=>?_⟩
    have : e'=e:=by simpa[ZaR,l0,ho]using h.symm
    subst this
    obtain⟨r,hE⟩:=hF1 xs l e' (by omega) ho
    have hC:=ZzJ (O:=E) (bf:=BY) (cs:=Zi P k 3 0 xs.length++[.lnt l]) (cs3:=Zi P k 3 0 xs.length++[.lnt r]) hby (ZbX P hP hN hk 3 0 xs.length l) (fun C h=>Zbe P hP hN hk 3 0 xs.length 2 0 l C h) (q:=.pan (ZG e')) rfl (by omega) (fun C h=>Zbe P hP hN hk 2 0 xs.length 3 0 r C h) hE
    have hO:=ZnF (w:=1) (xs:=xs.map g) (r:=.pan (ZG e')) rfl (ZbX P hP hN hk 3 0 xs.length r) (fun C h=>Zbe P hP hN hk 3 0 xs.length 3 0 r C h)
    refine⟨xs,r,?_⟩
    unfold H3 Zbc
    rw[Z9]
    clear hE hT1 hF1 ih
    generalize Zi P k 3 0 xs.length=Q at *
    generalize xs.map g=ys at *
    generalize ZG e'=ce at *
    simp -implicitDefEqProofs only[EQA,Zc,Xd,Xc,Xa,Xg,reduceCtorEq,↓reduceIte,ZeM,ZdZ,Zb,b2,hC,hf,z1]
    exact hO _
   |ok s =>
    obtain⟨s,r⟩:=s
    have hr:=hlen ho
    have hE:=hT1 xs l s r (by omega) (by omega) ho
    have hC:=ZzJ (O:=E) (bf:=BY) (cs:=Zi P k 3 0 xs.length++[.lnt l]) (cs3:=Zi P k 3 1 (xs.length+1)++[.lnt r]) hby (ZbX P hP hN hk 3 0 xs.length l) (fun C h=>Zbe P hP hN hk 3 0 xs.length 2 0 l C h) (q:=.tup []) rfl (by omega) (fun C h=>Zbe P hP hN hk 2 1 (xs.length+1) 3 1 r C h) hE
    have hG:=ZwT (f:=f) (w:=1) (xs:=(xs++[s]).map g) (g:=1) (ZbX P hP hN hk 3 1 (xs.length+1) r) (by omega) (fun C h=>Zbe P hP hN hk 3 1 (xs.length+1) 3 0 r C h)
    have step:Zbc 3 [(1,.fn f [.ref 1 0,.ref 2 0]),(0,.ref 0 0)] (H3 P k xs.length l (xs.map g))=Zbc 3 [(1,.fn f [.ref 1 0,.ref 2 0]),(0,.ref 0 0)] (H3 P k (xs++[s]).length r ((xs++[s]).map g)):=by
     rw[show(xs++[s]).length=xs.length+1 from by simp]
     unfold H3
     conv=>lhs;unfold Zbc
     conv=>rhs;unfold Zbc
     conv=>lhs;rw[Z9]
     clear hE hT1 hF1 ih
     generalize Zi P k 3 0 xs.length=Q at *
     generalize Zi P k 3 1 (xs.length+1)=Q2 at *
     generalize Zi P k 3 0 (xs.length+1)=Q3 at *
     generalize xs.map g=ys at *
     generalize (xs++[s]).map g=zs at *
     simp -implicitDefEqProofs only[EQA,Zc,ZT,Xd,Xc,Xa,Xg,reduceCtorEq,↓reduceIte,ZeM,ZdZ,Zb,b2,hC,hG,hf,z1]
    obtain⟨i1,i2⟩:=ih r (xs++[s]) (by omega) (by simp;omega)
    refine⟨fun ts h=>?_,fun e h=>?_⟩
    ·rw[step]
     simp only[ZaR,l0,ho,if_false]at h
     cases hl2:ZaR one n r with
     |error e=>grind
     |ok us =>
      grind
    ·rw[step]
     simp only[ZaR,l0,ho,if_false]at h
     cases hl2:ZaR one n r with
     |error e2 =>
      grind
     |ok us=>grind
end
end
section
def Zza(P:List AVal)(f c:Int)(ps:List ZO):List AVal:=((P.set 25 (.bool (f==1))).set 7 (.int .i64 c)).set 9 (.lst false (ps.map Zu))
section
variable (P:List AVal)(hP:P.length=26)(hN:Ze P=true)(h0:P[0]?=some (.int .i64 2))(l:Zd)(hl:l.length<=140737488355328)
include hP hN h0 hl
theorem ZN0{e:Int}(h:Zaw 1 l=.error e):∃ cs,Ze cs=true/\E 26 [.ref 0 0] (Zr P l)=some (.pan (ZG e),[.var cs]):=by
 have a4:=fun L=>(Zap P hP 0 (by omega) L).trans h0
 have hT:=fun G sq hs=>Zhy P hP hN l hl G 0 sq hs (m:=1) rfl (by decide) h
 refine⟨P++[.lnt l],ZK P hP hN _,?_⟩
 unfold Zr
 rw[Zg (by rfl) Za3]
 simp -implicitDefEqProofs only[EQA,Zs,ZE,Zc,Xd,Xc,Xf,Xa,Xg,↓reduceIte,Za4,ZaZ,Zb,a4,hT,Xj]
 exact Zah rfl (ZK P hP hN _)
theorem ZOP{f:Int}{r:Zd}(h:Zaw 1 l=.ok (f,r))(hf:¬f<2):∃ cs,Ze cs=true/\E 26 [.ref 0 0] (Zr P l)=some (.pan (ZG 129),[.var cs]):=by
 have a4:=fun L=>(Zap P hP 0 (by omega) L).trans h0
 have hT:=fun G sq hs=>ZdM P hP hN l hl G 0 sq hs (m:=1) rfl h
 have m1:=ZbS
 refine⟨P++[.lnt r],ZK P hP hN _,?_⟩
 unfold Zr
 rw[Zg (by rfl) Za3]
 simp -implicitDefEqProofs only[EQA,Zs,ZE,Zc,Xd,Xc,Xf,Xa,Xg,↓reduceIte,Za4,ZaZ,Zb,a4,hT,m1,hf,Xj]
 exact Zah rfl (ZK P hP hN _)
theorem ZDh{f:Int}{r:Zd}(h:Zaw 1 l=.ok (f,r))(hf:f<2){e:Int}(hc:ZaI 2 r=.error e):∃ cs,Ze cs=true/\E 26 [.ref 0 0] (Zr P l)=some (.pan (ZG e),[.var cs]):=by
 have hr:=Ziz h
 have a1:=Zag P hP
 have a4:=fun L=>(Zap P hP 0 (by omega) L).trans h0
 have hT:=fun G sq hs=>ZdM P hP hN l hl G 0 sq hs (m:=1) rfl h
 have m0:=Zbt
 have a3:=fun L=>ZaD P hP 25 26 (by omega) rfl L (.bool (f==1))
 have hP1:(P.set 25 (.bool (f==1))).length=26:=by simp[hP]
 have hN1:Ze (P.set 25 (.bool (f==1)))=true:=Z7 rfl _ hN
 have g0:(P.set 25 (.bool (f==1)))[0]?=some (.int .i64 2):=by rw[Xl (by omega)];exact h0
 generalize P.set 25 (.bool (f==1))=Q at *
 obtain⟨cs,hn,he⟩:=ZwH Q hP1 hN1 2 g0 r (by omega) hc
 have hC:=fun(G:Za) sq (hs:G[0]?=some (.var (Q++[.lnt r])))=>Zes (O:=E) (bf:=BY) (f:=55) (view:=true) (rest:=[]) (by kernel_rfl) rfl (ZK Q hP1 hN1 _) hn rfl he hs sq
 refine⟨cs,hn,?_⟩
 unfold Zr
 rw[Zg (by rfl) Za3]
 simp -implicitDefEqProofs only[EQA,Zs,ZE,Zc,Xd,WJ,Xc,Xf,Xa,Xg,↓reduceIte,Za4,ZaZ,Zb,a1,a3,a4,hT,hC,m0,hf,Xj,Zjb,Zef,Wu,XaL,ZaG,ZaP,ZaU,Zbi,Zbl,Zbg,Zbq,Zbo,ZaV,Zei,Wa,XP]
 exact Zah rfl hn
theorem ZRV{f:Int}{r:Zd}(h:Zaw 1 l=.ok (f,r))(hf:f<2){c:Int}{r2:Zd}(hc:ZaI 2 r=.ok (c,r2)){e:Int}(hp:Zbj 2 r2=.error e):∃ cs,Ze cs=true/\E 26 [.ref 0 0] (Zr P l)=some (.pan (ZG e),[.var cs]):=by
 have hr2:=ZnH hc
 have hr:=Ziz h
 have a1:=Zag P hP
 have a4:=fun L=>(Zap P hP 0 (by omega) L).trans h0
 have hT:=fun G sq hs=>ZdM P hP hN l hl G 0 sq hs (m:=1) rfl h
 have m0:=Zbt
 have a3:=fun L=>ZaD P hP 25 26 (by omega) rfl L (.bool (f==1))
 have hP1:(P.set 25 (.bool (f==1))).length=26:=by simp[hP]
 have hN1:Ze (P.set 25 (.bool (f==1)))=true:=Z7 rfl _ hN
 have g0:(P.set 25 (.bool (f==1)))[0]?=some (.int .i64 2):=by rw[Xl (by omega)];exact h0
 generalize P.set 25 (.bool (f==1))=Q at *
 have hC:=fun G sq hs=>ZkK Q hP1 hN1 r (by omega) G 0 sq hs 2 g0 hc
 have b1:=Zag _ hP1
 have b3:=fun L=>ZaD _ hP1 7 8 (by omega) rfl L (.int .i64 c)
 have hP2:(Q.set 7 (.int .i64 c)).length=26:=by simp[hP1]
 have hN2:Ze (Q.set 7 (.int .i64 c))=true:=Z7 rfl _ hN1
 generalize Q.set 7 (.int .i64 c)=S at *
 have hG:=fun G sq hs=>Zhj S hP2 hN2 r2 (by omega) G 0 sq hs hp
 have c1:=Zag _ hP2
 refine⟨S++[.lnt r2],ZK _ hP2 hN2 _,?_⟩
 unfold Zr
 rw[Zg (by rfl) Za3]
 simp -implicitDefEqProofs only[EQA,Zs,ZE,Zc,Xd,WJ,Xc,Xf,Xa,Xg,↓reduceIte,Za4,ZaZ,Zb,a1,a3,a4,b1,b3,hT,hC,hG,m0,hf,Xj,Zjb,Zef,Wu,XaL,ZaG,ZaP,ZaU,Zbi,Zbl,Zbg,Zbq,Zbo,ZaV,Zei,Wa,XP]
 exact Zah rfl (ZK _ hP2 hN2 _)
theorem ZIU{f:Int}{r:Zd}(h:Zaw 1 l=.ok (f,r))(hf:f<2){c:Int}{r2:Zd}(hc:ZaI 2 r=.ok (c,r2)){ps:List ZO}{r3:Zd}(hp:Zbj 2 r2=.ok (ps,r3))(hu:(Zab 2 r2).2.1<=r2.length):E 26 [.ref 0 0] (Zr P l)=some (if r3.length=0 then .tup []else .pan (ZG 129),Zr (Zza P f c ps) r3):=by
 have hr2:=ZnH hc
 have hr:=Ziz h
 have a1:=Zag P hP
 have a4:=fun L=>(Zap P hP 0 (by omega) L).trans h0
 have hT:=fun G sq hs=>ZdM P hP hN l hl G 0 sq hs (m:=1) rfl h
 have m0:=Zbt
 have a3:=fun L=>ZaD P hP 25 26 (by omega) rfl L (.bool (f==1))
 have hP1:(P.set 25 (.bool (f==1))).length=26:=by simp[hP]
 have hN1:Ze (P.set 25 (.bool (f==1)))=true:=Z7 rfl _ hN
 have g0:(P.set 25 (.bool (f==1)))[0]?=some (.int .i64 2):=by rw[Xl (by omega)];exact h0
 unfold Zza
 generalize P.set 25 (.bool (f==1))=Q at *
 have hC:=fun G sq hs=>ZkK Q hP1 hN1 r (by omega) G 0 sq hs 2 g0 hc
 have b1:=Zag _ hP1
 have b3:=fun L=>ZaD _ hP1 7 8 (by omega) rfl L (.int .i64 c)
 have hP2:(Q.set 7 (.int .i64 c)).length=26:=by simp[hP1]
 have hN2:Ze (Q.set 7 (.int .i64 c))=true:=Z7 rfl _ hN1
 generalize Q.set 7 (.int .i64 c)=S at *
 have hG:=fun G sq hs=>Zfo S hP2 hN2 r2 (by omega) G 0 sq hs hu hp
 have c1:=Zag _ hP2
 have c3:=fun L=>ZaD _ hP2 9 10 (by omega) rfl L (.lst false (ps.map Zu))
 have hP3:(S.set 9 (.lst false (ps.map Zu))).length=26:=by simp[hP2]
 have hN3:Ze (S.set 9 (.lst false (ps.map Zu)))=true:=Z7 (ZdE _ _) _ hN2
 generalize S.set 9 (.lst false (ps.map Zu))=U at *
 have d2:=ZaB _ hP3
 unfold Zr
 by_cases hr3:r3.length=0
 ·have z:=ZgI (l:=r3) (decide_eq_true hr3)
  rw[if_pos hr3]
  rw[Zg (by rfl) Za3]
  simp -implicitDefEqProofs only[EQA,Zs,ZE,Zc,Xd,Xc,Xf,Xa,Xg,↓reduceIte,Ze,Za4,ZaZ,Zek,Zb,a1,a3,a4,b1,b3,c1,c3,d2,z,hT,hC,hG,m0,hf,Xj,ZaG,ZaP,ZaU,Zbi,Zbl,Zbg,Zbq,Zbo,ZaV,Wa,XP]
  exact Zah rfl (ZK _ hP3 hN3 _)
 ·have z:=ZgI (l:=r3) (decide_eq_false hr3)
  have m1:=ZbS
  rw[if_neg hr3]
  rw[Zg (by rfl) Za3]
  simp -implicitDefEqProofs only[EQA,Zs,ZE,Zc,Xd,Xc,Xf,Xa,Xg,↓reduceIte,Za4,ZaZ,Zb,a1,a3,a4,b1,b3,c1,c3,d2,z,hT,hC,hG,m0,m1,hf,Xj,ZaG,ZaP,ZaU,Zbi,Zbl,Zbg,Zbq,Zbo,ZaV,Wa,XP]
  exact Zah rfl (ZK _ hP3 hN3 _)
end
end
section
open Go.RowKit
def Ze2(m i j:Nat)(rs:List Zdw)(G:Za):Option (AVal×Za):=match resA [(3,.ref j 0),(2,.ref i 0)] G rs with
 |some r=>ZR m G r
 |none=>none
noncomputable def ZeG(fs:Nat->Option ZM)(prim:ZcR)(bf:Nat->Bool)(tc:Nat)(c2 c3:Zf)(rs:List Zdw)(m:Nat)(tm1:Tms)(G1:Za)(i j:Nat):Option (AVal×Za) :=
 match evC fs prim bf G1.length c2 tm1 G1 with
 |some (.ret,_,G2)=>Ze2 m i j rs G2
 |some (.panic (.iface t x),_,G2)=>if t=tc then match evC fs prim bf G1.length c3 [(10,x),(1,.ref j 0),(0,.ref i 0)] G2 with
  |some (.normal,_,G3)=>Ze2 m i j rs G3
  |_=>none
  else none
 |_=>none
noncomputable def ZhI(fs:Nat->Option ZM)(prim:ZcR)(bf:Nat->Bool)(tc:Nat)(c1 c2 c3:Zf)(rs:List Zdw)(args:List AVal)(G:Za):Option (AVal×Za) :=
 match evC fs prim bf G.length c1 (enterA 0 args []) G with
 |some (.normal,tm1,G1)=>match tget tm1 2,tget tm1 3 with
  | .ref i 0,.ref j 0=>if G.length<=G1.length/\i<G1.length/\j<G1.length then ZeG fs prim bf tc c2 c3 rs G.length (tput tm1 (some 5) .top) G1 i j else none
  |_,_=>none
 |_=>none
structure ZnE(P:Program)(f h:FuncId)(ti tc:TypeId)(an1 an2 an3:Ann)(c1 c2 c3:Zf)(rs:List Zdw):Prop where
 ex:∃ (F H:Func) (b1 b2 b3 b4:Code) (i0 j0 j1 j2 j3 bid:Nat) (t1 t2 t3 t4 t5 t6 t7 t8:TypeId) (p1 p2 p3 p4 p5 p6 p7 p8:String) (a1 a2 a3 a4 a5 a6 a7 a8:Array Edge) (at1 at2:Array TypeId) (ims:Array (String×TypeId)) (k:IntKind),
  P.funcs[f]?=some F/\(F.name == "runtime.NumGoroutine")=false/\F.ntmps=20/\ZfY P F.results.toList=some rs /\
  F.body=some (.seq b1 (.seq (.region i0 #[⟨some 5,.makeFunc (.func h) #[] #[.tmp 2,.tmp 3],t1,p1,a1,none⟩,⟨none,.defer ⟨.value (.tmp 5),#[],at1⟩,t2,p2,a2,none⟩] false) b2)) /\
  ZdF (Za7 P an1 b1)=c1/\ZdF (Za7 P an2 b2)=c2/\an1.nt=20/\an2.nt=20/\an2.keep=[2,3] /\
  P.funcs[h]?=some H/\(H.name == "runtime.NumGoroutine")=false/\H.ntmps=13/\H.results=#[] /\
  H.body=some (.seq (.region j0 #[⟨some 5,.call ⟨.builtin .recover,#[],at2⟩,t3,p3,a3,none⟩] false) (.block bid (.seq (.region j1 #[⟨some 7,.binOp .eql ti (.tmp 5) (.const .nilIface) ti,t4,p4,a4,none⟩] false)
   (.cond (.tmp 7) (.region j2 #[⟨some 2,.assign (.tmp 5),t5,p5,a5,none⟩] false)
    (.seq (.region j3 #[⟨some 8,.typeAssert (.tmp 5) ti tc true,t6,p6,a6,none⟩,⟨some 9,.extract (.tmp 8) 1,t7,p7,a7,none⟩,⟨some 10,.extract (.tmp 8) 0,t8,p8,a8,none⟩] false)
     (.cond (.tmp 9) b3 b4)))))) /\
  ZdF (Za7 P an3 b3)=c3/\an3.nt=13/\P.underlying ti=some (.interface ims)/\P.underlying tc=some (.int k)
section
variable {P:Program}{O:ZS}{bf:Nat->Bool}{base:Nat->Prop}{w0 w:World}{I0 I:Imm}{V:Bmap}{G:Za}
theorem ZiZ{m:Nat}{I':Imm}{V':Bmap}{i:Nat}{v:Value}(hk:KeptE m V V')(hi:i<m)(h:VR I V (.ref i 0) v):VR I' V' (.ref i 0) v:=by
 simp only[VR]at h⊢
 obtain⟨b,k,c,h1,h2⟩:=h
 exact⟨b,k,c,hk i hi _ h1,h2⟩
theorem Zvm{F:Func}{rs:List Zdw}(hrs:ZfY P F.results.toList=some rs){m i j:Nat}{tmps:Array Value}{I':Imm}{V':Bmap}{G' G2:Za}{w':World}{r:AVal}(hI:I.le I')(hk:KeptE m V V')(R:Rel base w0 I0 I' V' G2 w')(h2:VR I' V' (.ref i 0) (tmps.getD 2 undef))(h3:VR I' V' (.ref j 0) (tmps.getD 3 undef))(h:Ze2 m i j rs G2=some (r,G')) :
  ∃ v,(results F tmps).run P w'=.ok v w'/\∃ u,Ends r (.returned v) u/\Zb6 m base w0 I0 I V r G' u w':=by
 unfold Ze2 at h
 split at h
 ·rename_i x hx
  have T:TR I' V' [(3,.ref j 0),(2,.ref i 0)] tmps:=by
   intro n
   simp only[tget]
   split
   ·grind
   ·split
    ·grind
    ·simp only[VR]
  obtain⟨v,q1,q2⟩:=ZvQ T R hrs hx
  have hnp:∀ y,x≠.pan y:=by rintro y rfl;simp only[VR]at q2
  obtain⟨p1,p2⟩:=Zmj (⟨I',V',hI,hk,R,by rw[Zgs hnp];exact q2⟩:Zb6 m base w0 I0 I V x G2 v w') h
  refine⟨v,q1,v,p2 _ ?_,p1⟩
  cases x<;>first |rfl |grind
 ·cases h
theorem pgs{a:Act}{d:Nat}{u:Value}(h:d<a.tmps.size):(a.put (some d) u).tmps.getD d undef=u:=by
 simp[Act.put,WX,h]
theorem Zi2{m:Sem Value}{u:Value}(h:m.run P w=.ok u w):(do let q <-m;pure (Next.value q):Sem Next).run P w=.ok (.value u) w:=by
 rw[Sem.run_bind,h];rfl
theorem pgn{a:Act}{d j:Nat}{u:Value}(h:d≠j):(a.put (some d) u).tmps.getD j undef=a.tmps.getD j undef:=by
 simp only[Act.put,Array.getD_eq_getD_getElem?]
 grind
theorem ZP7(hm:P.follows .mixedOrders=true)(hO:ZaM P O){f h:FuncId}{ti tc:TypeId}{an1 an2 an3:Ann}{c1 c2 c3:Zf}{rs:List Zdw}(D:ZnE P f h ti tc an1 an2 an3 c1 c2 c3 rs)(hb:KLt base w0)(R:Rel base w0 I0 I V G w)
  {i j m n:Nat} {x:AVal} {v2 v3 v:Value} (h2:VR I V (.ref i 0) v2) (h3:VR I V (.ref j 0) v3) (hv:VR I V x v) {tm':Tms} {G':Za} (hx:Zam O bf m n c3 [(10,x),(1,.ref j 0),(0,.ref i 0)] G=some (.normal,tm',G')) :
  CallsD P h #[v2,v3] (.panicking [{ v:=.iface tc v,recovered:=false }]) w fun e u' w'=>e=.returned (.tuple #[])/\u'=.panicking [{ v:=.iface tc v,recovered:=true }]/\∃ I' V',I.le I'/\KeptE m V V'/\Rel base w0 I0 I' V' G' w':=by
 obtain⟨F,H,b1,b2,b3,b4,i0,j0,j1,j2,j3,bid,t1,t2,t3,t4,t5,t6,t7,t8,p1,p2,p3,p4,p5,p6,p7,p8,a1,a2,a3,a4,a5,a6,a7,a8,at1,at2,ims,k,hF,hname,hnt,hrs,hbody,hc1,hc2,hn1,hn2,hk2,hH,hHname,hHn,hHr,hHb,hc3,hn3,hti,htc⟩:=D.ex
 refine callsD_of_wpS hH hHb fun c₀ cs hu=>?_
 apply wpS_seq
 apply wpS_region
 simp[wpOpsS,go_sem,recoverD,hu,hHn,Exit.thenS]
 refine wpS_of_wp ?_
 generalize hT:(#[v2,v3]++(WY 11 undef).setIfInBounds 3 (Value.iface tc v))=T
 have hs:T.size=13:=by rw[<-hT];simp
 have hT0:T.getD 0 undef=v2:=by rw[<-hT];simp[WX]
 have hT1:T.getD 1 undef=v3:=by rw[<-hT];simp[WX]
 have hT5:T.getD 5 undef=.iface tc v:=by rw[<-hT];simp[WX]
 clear hT
 refine wp_block (wp_seq (wp_region_list (Zf2 rfl ?_)))
 unfold Oper.wp
 have e1:∀ o:Oper,o.op=.binOp .eql ti (.tmp 5) (.const .nilIface) ti->(execOp ({ tmps:=T,defers:=[] }:Act).eval o).run P w=.ok (.value (.bool false)) w:=by
  intro o ho
  unfold execOp;rw[ho]
  simp only[Act.eval,hT5]
  exact Zi2 (Zzv (P:=P) (w:=w) (t1:=tc) (u:=v) hti false (op:=.eql) (.tmp 5) .nilIface rfl)
 rw[e1 _ rfl,Oper.upon_value]
 refine wpList_nil ?_
 simp only[Exit.then]
 refine wp_cond_false (by simp only[Act.eval];exact pgs (by simp[hs])) ?_
 refine wp_seq (wp_region_list (Zf2 rfl ?_))
 unfold Oper.wp
 generalize hA1:({ tmps:=T,defers:=[] }:Act).put (some 7) (.bool false)=A1
 have hs1:A1.tmps.size=13:=by rw[<-hA1,ZfF];exact hs
 have g1:∀ j,j≠7->A1.tmps.getD j undef=T.getD j undef:=by intro j hj;rw[<-hA1];exact pgn (by omega)
 have hd1:A1.defers=[]:=by rw[<-hA1];rfl
 have e2:∀ o:Oper,o.op=.typeAssert (.tmp 5) ti tc true->(execOp A1.eval o).run P w=.ok (.value (.tuple #[v,.bool true])) w:=by
  intro o ho
  unfold execOp;rw[ho]
  simp only[Act.eval,g1 5 (by omega),hT5]
  refine Zi2 ?_
  simp[Instr.typeAssert,underlying,htc]
 rw[e2 _ rfl,Oper.upon_value]
 generalize hA2:A1.put (some 8) (.tuple #[v,.bool true])=A2
 have hs2:A2.tmps.size=13:=by rw[<-hA2,ZfF];exact hs1
 have g2:∀ j,j≠8->A2.tmps.getD j undef=A1.tmps.getD j undef:=by intro j hj;rw[<-hA2];exact pgn (by omega)
 have g28:A2.tmps.getD 8 undef=.tuple #[v,.bool true]:=by rw[<-hA2];exact pgs (by omega)
 have hd2:A2.defers=[]:=by rw[<-hA2];exact hd1
 refine Zf2 rfl ?_
 unfold Oper.wp
 have e3:∀ o:Oper,o.op=.extract (.tmp 8) 1->(execOp A2.eval o).run P w=.ok (.value (.bool true)) w:=by
  intro o ho
  unfold execOp;rw[ho]
  simp only[Act.eval,g28]
  refine Zi2 ?_
  simp[Instr.extract]
 rw[e3 _ rfl,Oper.upon_value]
 generalize hA3:A2.put (some 9) (.bool true)=A3
 have hs3:A3.tmps.size=13:=by rw[<-hA3,ZfF];exact hs2
 have g3:∀ j,j≠9->A3.tmps.getD j undef=A2.tmps.getD j undef:=by intro j hj;rw[<-hA3];exact pgn (by omega)
 have g39:A3.tmps.getD 9 undef=.bool true:=by rw[<-hA3];exact pgs (by omega)
 have hd3:A3.defers=[]:=by rw[<-hA3];exact hd2
 refine Zf2 rfl ?_
 unfold Oper.wp
 have e4:∀ o:Oper,o.op=.extract (.tmp 8) 0->(execOp A3.eval o).run P w=.ok (.value v) w:=by
  intro o ho
  unfold execOp;rw[ho]
  simp only[Act.eval,g3 8 (by omega),g28]
  refine Zi2 ?_
  simp[Instr.extract]
 rw[e4 _ rfl,Oper.upon_value]
 generalize hA4:A3.put (some 10) v=A4
 have hs4:A4.tmps.size=13:=by rw[<-hA4,ZfF];exact hs3
 have g4:∀ j,j≠10->A4.tmps.getD j undef=A3.tmps.getD j undef:=by intro j hj;rw[<-hA4];exact pgn (by omega)
 have g410:A4.tmps.getD 10 undef=v:=by rw[<-hA4];exact pgs (by omega)
 have hd4:A4.defers=[]:=by rw[<-hA4];exact hd3
 refine wpList_nil ?_
 simp only[Exit.then]
 refine wp_cond_true (by simp only[Act.eval];grind) ?_
 have hst:StF Zch m an3.nt base w0 I0 I V [(10,x),(1,.ref j 0),(0,.ref i 0)] G A4 w:=by
  refine⟨I,V,Imm.le.refl I,KeptE.refl _ V,fun n=>?_,⟨Zgj.2 hd4,by grind⟩,R⟩
  simp only[tget]
  split
  ·grind
  ·split
   ·grind
   ·split
    ·grind
    ·simp only[VR]
 rw[<-hc3,Zft]at hx
 refine ZkT (dr:=Zch) (an:=an3) hO (fun n hn=>by simp[Zch]at hn) hm hb m n rfl hst hx ?_
 intro a' w' ⟨I',V',k1,k2,k3,k4,k5⟩
 simp only[Exit.inBlock,bodyPostS]
 refine⟨Zgj.1 k4.1,_,rfl,.tuple #[],?_,rfl,rfl,I',k1,V',k2,k5⟩
 simp[results,hHr]
theorem ZBt{f h:FuncId}{ti tc:TypeId}{an1 an2 an3:Ann}{c1 c2 c3:Zf}{rs:List Zdw}(D:ZnE P f h ti tc an1 an2 an3 c1 c2 c3 rs){v2 v3:Value}{w:World} :
  CallsD P h #[v2,v3] .returning w fun e u' w'=>e=.returned (.tuple #[])/\u'=.returning/\w'=w:=by
 obtain⟨F,H,b1,b2,b3,b4,i0,j0,j1,j2,j3,bid,t1,t2,t3,t4,t5,t6,t7,t8,p1,p2,p3,p4,p5,p6,p7,p8,a1,a2,a3,a4,a5,a6,a7,a8,at1,at2,ims,k,hF,hname,hnt,hrs,hbody,hc1,hc2,hn1,hn2,hk2,hH,hHname,hHn,hHr,hHb,hc3,hn3,hti,htc⟩:=D.ex
 refine callsD_of_wpS hH hHb fun c₀ cs hu=>?_
 apply wpS_seq
 apply wpS_region
 simp[wpOpsS,go_sem,recoverD,hu,hHn,Exit.thenS]
 refine wpS_of_wp ?_
 generalize hT:(#[v2,v3]++(WY 11 undef).setIfInBounds 3 Value.nilIface)=T
 have hs:T.size=13:=by rw[<-hT];simp
 have hT5:T.getD 5 undef=.nilIface:=by rw[<-hT];simp[WX]
 clear hT
 refine wp_block (wp_seq (wp_region_list (Zf2 rfl ?_)))
 unfold Oper.wp
 have e1:∀ o:Oper,o.op=.binOp .eql ti (.tmp 5) (.const .nilIface) ti->(execOp ({ tmps:=T,defers:=[] }:Act).eval o).run P w=.ok (.value (.bool true)) w:=by
  intro o ho
  unfold execOp;rw[ho]
  simp only[Act.eval,hT5]
  exact Zi2 (ZvR (P:=P) (w:=w) hti false (op:=.eql) (.tmp 5) .nilIface rfl)
 rw[e1 _ rfl,Oper.upon_value]
 refine wpList_nil ?_
 simp only[Exit.then]
 refine wp_cond_true (by simp only[Act.eval];exact pgs (by simp[hs])) ?_
 refine wp_region_list (Zf2 rfl ?_)
 unfold Oper.wp
 generalize hA1:({ tmps:=T,defers:=[] }:Act).put (some 7) (.bool true)=A1
 have g1:∀ j,j≠7->A1.tmps.getD j undef=T.getD j undef:=by intro j hj;rw[<-hA1];exact pgn (by omega)
 have hd1:A1.defers=[]:=by rw[<-hA1];rfl
 have e2:∀ o:Oper,o.op=.assign (.tmp 5)->(execOp A1.eval o).run P w=.ok (.value .nilIface) w:=by
  intro o ho
  unfold execOp;rw[ho]
  simp[Act.eval,g1 5 (by omega),hT5]
 rw[e2 _ rfl,Oper.upon_value]
 refine wpList_nil ?_
 simp only[Exit.inBlock,bodyPostS]
 refine⟨hd1,.returning,?_,.tuple #[],?_,rfl,rfl,trivial⟩
 ·cases c₀;simp_all
 ·simp[results,hHr]
end
section
variable {P:Program}{fs:Nat->Option ZM}{prim:ZcR}{bf:Nat->Bool}
theorem ZQR(hm:P.follows .mixedOrders=true)(hO:∀ n,ZaM P (Zau fs prim bf n)){f h:FuncId}{ti tc:TypeId}{an1 an2 an3:Ann}{c1 c2 c3:Zf}{rs:List Zdw}(D:ZnE P f h ti tc an1 an2 an3 c1 c2 c3 rs)
  {args:List AVal} {G G':Za} {r:AVal} (hg:ZhI fs prim bf tc c1 c2 c3 rs args G=some (r,G')) :
  (∃ fn,P.funcs[f]?=some fn/\fn.body.isSome=true/\(fn.name == "runtime.NumGoroutine")=false) /\
  ∀ base w0 I0 I V w (vs:Array Value),KLt base w0->Rel base w0 I0 I V G w->VRs I V args vs.toList ->
   Calls P f vs w (fun e w'=>∃ u,Ends r e u/\Zb6 G.length base w0 I0 I V r G' u w'):=by
 obtain⟨F,H,b1,b2,b3,b4,i0,j0,j1,j2,j3,bid,t1,t2,t3,t4,t5,t6,t7,t8,p1,p2,p3,p4,p5,p6,p7,p8,a1,a2,a3,a4,a5,a6,a7,a8,at1,at2,ims,k,hF,hname,hnt,hrs,hbody,hc1,hc2,hn1,hn2,hk2,hH,hHname,hHn,hHr,hHb,hc3,hn3,hti,htc⟩:=D.ex
 refine⟨⟨F,hF,by grind,hname⟩,?_⟩
 intro base w0 I0 I V w vs hb R hargs
 unfold ZhI at hg
 split at hg
 case h_2=>cases hg
 rename_i tm1 G1 hx1
 split at hg
 case h_2=>cases hg
 rename_i i j hi hj
 split at hg
 case isFalse=>cases hg
 rename_i hlen
 obtain⟨hl0,hli,hlj⟩:=hlen
 obtain⟨n1,hx1⟩:=Zbs.1 hx1
 rw[<-hc1,Zft]at hx1
 refine calls_of_wp_defers hF hbody ?_
 have T:=Zp4 hargs (F.ntmps-vs.size)
 have hst:StF Zch G.length an1.nt base w0 I0 I V (enterA 0 args []) G { tmps:=vs++WY (F.ntmps-vs.size) undef,defers:=[] } w:=⟨I,V,Imm.le.refl I,KeptE.refl _ V,T,⟨Zgj.2 rfl,by grind⟩,R⟩
 refine wp_seq ?_
 refine ZkT (dr:=Zch) (an:=an1) (hO n1) (fun n hn=>by simp[Zch]at hn) hm hb G.length n1 rfl hst hx1 ?_
 rintro A0 w1 ⟨I1,V1,g1,g2,T1,⟨gd,gs⟩,R1⟩
 have gd:=Zgj.1 gd
 rw[hn1]at gs
 simp only[Exit.then]
 refine wp_seq (wp_region_list (Zf2 rfl ?_))
 unfold Oper.wp
 have e1:∀ o:Oper,o.op=.makeFunc (.func h) #[] #[.tmp 2,.tmp 3]->(execOp A0.eval o).run P w1=.ok (.value (.func (.func h) #[] #[A0.tmps.getD 2 undef,A0.tmps.getD 3 undef])) w1:=by
  intro o ho
  unfold execOp;rw[ho]
  refine Zi2 ?_
  simp[Instr.makeFunc,Act.eval]
 rw[e1 _ rfl,Oper.upon_value]
 generalize hv2:A0.tmps.getD 2 undef=v2
 generalize hv3:A0.tmps.getD 3 undef=v3
 have hr2:VR I1 V1 (.ref i 0) v2:=by rw[<-hv2,<-hi];exact T1 2
 have hr3:VR I1 V1 (.ref j 0) v3:=by rw[<-hv3,<-hj];exact T1 3
 generalize hA1:A0.put (some 5) (.func (.func h) #[] #[v2,v3])=A1
 have hs1:A1.tmps.size=A0.tmps.size:=by rw[<-hA1,ZfF]
 have q1:∀ j,j≠5->A1.tmps.getD j undef=A0.tmps.getD j undef:=by intro j hj;rw[<-hA1];exact pgn (by omega)
 have q5:A1.tmps.getD 5 undef=.func (.func h) #[] #[v2,v3]:=by rw[<-hA1];exact pgs (by omega)
 have hd1:A1.defers=[]:=by rw[<-hA1];exact gd
 refine Zf2 rfl ?_
 unfold Oper.wp
 have e2:∀ o:Oper,o.op=.defer ⟨.value (.tmp 5),#[],at1⟩->(execOp A1.eval o).run P w1=.ok (.defer ⟨.fn (.func h) #[v2,v3],#[]⟩) w1:=by
  intro o ho
  unfold execOp;rw[ho]
  simp[resolve,Act.eval,q5,Deferred.ofValue]
 rw[e2 _ rfl,Oper.upon_defer]
 refine wpList_nil ?_
 simp only[Exit.then]
 generalize hd:(⟨.fn (.func h) #[v2,v3],#[]⟩:Deferred)=d
 have hA2:({ A1 with defers:=d::A1.defers }:Act).put none undef={ A1 with defers:=[d] }:=by rw[hd1];rfl
 rw[hA2]
 let dr:Door:=⟨[d],[2,3],fun n=>if n=2 then v2 else v3⟩
 have hdr:dr.ok { A1 with defers:=[d] }:=by
  refine⟨rfl,fun j hj=>?_⟩
  simp only[dr,X0,List.not_mem_nil,or_false]at hj
  rcases hj with rfl |rfl
  ·grind
  ·grind
 have T2:TR I1 V1 (tput tm1 (some 5) .top) A1.tmps:=by
  rw[<-hA1]
  exact ZsD T1 (by simp only[VR]) (fun n hn=>by grind)
 unfold ZeG at hg
 have hst2:StF dr G1.length an2.nt base w0 I0 I1 V1 (tput tm1 (some 5) .top) G1 { A1 with defers:=[d] } w1:=⟨I1,V1,Imm.le.refl I1,KeptE.refl _ V1,T2,⟨hdr,by grind⟩,R1⟩
 have lift:∀ {I':Imm} {V':Bmap},I1.le I'->KeptE G1.length V1 V'->I.le I'/\KeptE G.length V V':=fun h1 h2=>⟨g1.trans h1,g2.trans (fun t ht bi e=>h2 t (by omega) bi e)⟩
 have hinv:∀ w:World,(invoke (.fn (.func h) #[v2,v3]) #[]).run P w=.ok (.enter h #[v2,v3]) w:=fun w=>by
  unfold invoke
  simpa using Zml (args:=#[v2,v3]) (w:=w) hH (by grind) hHname
 have tm2:∀ {A:Act},dr.ok A->A.tmps.getD 2 undef=v2/\A.tmps.getD 3 undef=v3:=fun hA=>⟨hA.2 2 (by simp[dr]),hA.2 3 (by simp[dr])⟩
 split at hg
 case h_3=>cases hg
 ·rename_i tmx G2 hx2
  obtain⟨n2,hx2⟩:=Zbs.1 hx2
  rw[<-hc2,Zft]at hx2
  refine ZkT (dr:=dr) (an:=an2) (hO n2) (fun n hn=>by grind) hm hb G1.length n2 rfl hst2 hx2 ?_
  rintro A3 w3 ⟨I3,V3,k1,k2,T3,⟨kd,ks⟩,R3⟩
  show Leaves P F A3.tmps _ A3.defers .returning w3
  rw[kd.1]
  show Leaves P F A3.tmps _ [d] .returning w3
  rw[<-hd]
  refine leaves_cons (f:=h) (args:=#[v2,v3]) (by simp) (hinv w3) ?_
  refine(ZBt D).mono ?_
  rintro e u' w' ⟨rfl,rfl,rfl⟩
  simp only[settle,Leaves]
  obtain⟨l1,l2⟩:=lift k1 k2
  exact Zvm hrs l1 l2 R3 (by rw[(tm2 kd).1];exact ZiZ k2 hli hr2) (by rw[(tm2 kd).2];exact ZiZ k2 hlj hr3) hg
 ·rename_i t x tmx G2 hx2
  split at hg
  case isFalse=>cases hg
  rename_i ht
  subst ht
  split at hg
  case h_2=>cases hg
  rename_i tmy G3 hx3
  obtain⟨n2,hx2⟩:=Zbs.1 hx2
  rw[<-hc2,Zft]at hx2
  obtain⟨n3,hx3⟩:=Zbs.1 hx3
  refine ZkT (dr:=dr) (an:=an2) (hO n2) (fun n hn=>by grind) hm hb G1.length n2 rfl hst2 hx2 ?_
  rintro A3 u w3 kd ⟨I3,V3,k1,k2,R3,kv⟩
  simp only[ZaX,VR]at kv
  obtain⟨v,rfl,kv⟩:=kv
  show Leaves P F A3.tmps _ A3.defers (.panicking [{ v:=.iface t v,recovered:=false }]) w3
  rw[kd.1]
  show Leaves P F A3.tmps _ [d] _ w3
  rw[<-hd]
  refine leaves_cons (f:=h) (args:=#[v2,v3]) (by simp) (hinv w3) ?_
  refine(ZP7 hm (hO n3) D hb R3 (ZiZ k2 hli hr2) (ZiZ k2 hlj hr3) kv hx3).mono ?_
  rintro e u' w' ⟨rfl,rfl,I4,V4,m1,m2,R4⟩
  simp only[settle,List.dropWhile,Leaves]
  have k3:=k2.trans m2
  obtain⟨l1,l2⟩:=lift (k1.trans m1) k3
  exact Zvm hrs l1 l2 R4 (by rw[(tm2 kd).1];exact ZiZ k3 hli hr2) (by rw[(tm2 kd).2];exact ZiZ k3 hlj hr3) hg
end
section
variable {fs:Nat->Option ZM}{p p':ZcR}{bf:Nat->Bool}
theorem ZwZ(h0:∀ f,p f=none->p' f=none)(h1:∀ f g,p f=some g->p' f=some g\/∀ a G,g a G=none):∀ n,OLe (Zau fs p bf n) (Zau fs p' bf n)
 |0=>by intro f a G r h;simp only[Zau]at h;cases h
 |n+1=>by
  intro f a G r h
  rw[Zau]at h⊢
  split at h
  ·rename_i g hg
   rcases h1 f g hg with h2 |h2
   ·grind
   grind
  ·rename_i hg
   rw[h0 f hg]
   split at h
   ·cases h
   ·rename_i fn hfn
    exact ZkB (fun q hq=>Zec (ZwZ h0 h1 n) (XH n) hq) h
theorem ZHj(h0:∀ f,p f=none->p' f=none)(h1:∀ f g,p f=some g->p' f=some g\/∀ a G,g a G=none):OLe (EV fs p bf) (EV fs p' bf):=by
 intro f a G r h
 obtain⟨n,hn⟩:=ZdD.1 h
 exact ZdD.2 ⟨n,ZwZ h0 h1 n f a G r hn⟩
end
end
section
open Go.RowKit
def bV(c:UInt8):Value:=.int .u8 (c.toNat:Int)
def bVs(l:List UInt8):List Value:=l.map bV
theorem ZgR(l:List UInt8):(bVs l).length=l.length:=by simp[bVs]
theorem ZmV(l r:List UInt8):bVs (l++r)=bVs l++bVs r:=by simp[bVs]
def Row(w:World)(A:Option Addr)(xs:List Value):Prop :=
 xs=[]\/∃ b off,A=some ⟨b,off,none⟩/\∀ i u,xs[i]?=some u->w.cell? ⟨b,off+i,none⟩=some u
end
section
open Go.RowKit
section
variable {w w':World}{A:Option Addr}{xs ys:List Value}
theorem Row.keep(h:Row w A xs)(hk:∀ p:Addr,∀ u,w.cell? p=some u->w'.cell? p=some u):Row w' A xs:=by
 rcases h with h |⟨b,off,e,h⟩
 ·exact Xq h
 ·exact Xt ⟨b,off,e,fun i u hu=>hk _ _ (h i u hu)⟩
theorem ZTU(hb:Below w.heap.size w w'){p:Addr}{u:Value}(h:w.cell? p=some u):w'.cell? p=some u :=
 (hb.cell (World.block_lt_of_cell? w p h)).trans h
theorem Row.below(h:Row w A xs)(hb:Below w.heap.size w w'):Row w' A xs:=h.keep fun _ _ hu=>ZTU hb hu
theorem Row.drew(h:Row w A xs):Row w.drew A xs:=h
theorem Row.drewN(h:Row w A xs)(n:Nat):Row (w.drewN n) A xs:=h
theorem Row.alloc(h:Row w A xs)(o:Obj):Row (w.alloc o) A xs :=
 h.keep fun p u hu=>(World.cell?_alloc_lt w o p (World.block_lt_of_cell? w p hu)).trans hu
theorem Row.grown{row:Option Nat}(h:Row w A xs)(hg:w.grownBy w' row)(hne:∀ b off,A=some ⟨b,off,none⟩->some b≠row):Row w' A xs:=by
 rcases h with h |⟨b,off,e,h⟩
 ·exact Xq h
 ·exact Xt ⟨b,off,e,fun i u hu=>hg.cell (h i u hu) (hne b off e)⟩
theorem Row.of_own{base:Nat}{e:TypeId}{size n c:Nat}(h:w.ownsRow base e size (.slice A n c) n xs):Row w A xs:=by
 rcases h.2 with⟨hv,hn⟩ |⟨g,cap,cur,hv,_,hg,hnc,_,hs,ht⟩
 ·have h1:=h.1
  rw[hn]at h1
  exact Xq (Xx (by grind))
 ·have hA:A=some ⟨g,0,none⟩:=by injection hv
  subst hA
  have hc:=h.cells (g:=g) rfl
  exact Xt ⟨g,0,rfl,fun i u hu=>by have:=hc i u hu;rwa [Addr.add_lit]at this⟩
theorem Row.at'{i:Nat}(h:Row w A xs)(hi:i<xs.length):∃ b off,A=some ⟨b,off,none⟩/\w.cell? ⟨b,off+i,none⟩=some xs[i]:=by
 rcases h with h |⟨b,off,e,h⟩
 ·grind
 ·exact⟨b,off,e,h i _ (XA hi)⟩
theorem Row.take(h:Row w A xs)(n:Nat):Row w A (xs.take n):=by
 rcases h with h |⟨b,off,e,h⟩
 ·subst h;exact Xq (by simp)
 ·refine Xt ⟨b,off,e,fun i u hu=>h i u ?_⟩
  grind
theorem Row.drop{b off:Nat}(h:Row w (some ⟨b,off,none⟩) xs)(n:Nat):Row w (some ⟨b,off+n,none⟩) (xs.drop n):=by
 rcases h with h |⟨b',off',e,h⟩
 ·subst h;exact Xq (by simp)
 ·injection e with e
  injection e with e1 e2
  subst e1 e2
  refine Xt ⟨b,off+n,rfl,fun i u hu=>?_⟩
  grind
theorem Row.new(w:World)(cs:Array Value)(e:TypeId):Row (w.alloc (.cells cs e)) (some ⟨w.heap.size,0,none⟩) cs.toList:=by
 refine Xt ⟨w.heap.size,0,rfl,fun i u hu=>?_⟩
 rw[cell_of_row _ w.heap.size (0+i) cs e (0,0) (heap_alloc_new w _)]
 simpa using hu
theorem Row.newAt{w:World}{cs:Array Value}{e:TypeId}{H:Nat}{l:List Value}(h:w.heap.size=H)(hl:cs.toList=l):Row (w.alloc (.cells cs e)) (some ⟨H,0,none⟩) l:=by
 subst h hl;exact Row.new w cs e
end
def Blk(w:World)(g:Nat)(t:TypeId)(cs:Array Value):Prop:=w.heap[g]?=some (.cells cs t (0,0))
section
variable {w w':World}{g:Nat}{t:TypeId}{cs:Array Value}
theorem Blk.lt(h:Blk w g t cs):g<w.heap.size:=(XZ.1 h).1
theorem Blk.cell(h:Blk w g t cs)(i:Nat):w.cell? ⟨g,i,none⟩=cs[i]?:=cell_of_row w g i cs t (0,0) h
theorem Blk.frozen(h:Blk w g t cs)(i:Nat):w.frozen? ⟨g,i,none⟩=false:=frozen_of_row w g i cs t h
theorem Blk.new(w:World)(t:TypeId)(cs:Array Value):Blk (w.alloc (.cells cs t)) w.heap.size t cs:=heap_alloc_new w _
theorem Blk.newAt{w:World}{t:TypeId}{cs:Array Value}{H:Nat}(h:w.heap.size=H):Blk (w.alloc (.cells cs t)) H t cs:=by subst h;exact Blk.new w t cs
theorem Blk.drew(h:Blk w g t cs):Blk w.drew g t cs:=h
theorem Blk.drewN(h:Blk w g t cs)(n:Nat):Blk (w.drewN n) g t cs:=h
theorem Blk.alloc(h:Blk w g t cs)(o:Obj):Blk (w.alloc o) g t cs:=(Below.heap_alloc w o g h.lt).trans h
theorem Blk.below{B:Nat}(h:Blk w g t cs)(hb:Below B w w')(hg:g<B):Blk w' g t cs:=(hb.block g hg).trans h
theorem Blk.grown{row:Option Nat}(h:Blk w g t cs)(hb:w.grownBy w' row)(hg:some g≠row):Blk w' g t cs:=(hb.block g h.lt hg).trans h
theorem ZUI(w:World)(g j:Nat)(u:Value):w.grownBy (w.setCell ⟨g,j,none⟩ u) (some g) :=
 ⟨rfl,rfl,rfl,by simp[World.setCell],fun k _ hk=>Below.heap_setCell w ⟨g,j,none⟩ u k (fun e=>hk (by simp[e]))⟩
theorem ZJc{base:Nat}{e:TypeId}{size n c:Nat}{A:Option Addr}{xs:List Value}(h:w.ownsRow base e size (.slice A n c) n xs):n<=c/\c<=maxLen:=by
 rcases h.2 with⟨hv,hn⟩ |⟨g,cap,cur,hv,_,_,hnc,hcm,_⟩
 ·grind
 grind
end
structure Kept(S:Nat->Prop)(w w':World):Prop where
 os:w'.os=w.os
 tape:w'.tape=w.tape
 output:w'.output=w.output
 size:w.heap.size<=w'.heap.size
 block:∀ k,k<w.heap.size->¬S k->w'.heap[k]?=w.heap[k]?
section
variable {S S':Nat->Prop}{a w w':World}
theorem Kept.refl(S:Nat->Prop)(w:World):Kept S w w:=⟨rfl,rfl,rfl,XH _,fun _ _ _=>rfl⟩
theorem Kept.trans(h:Kept S a w)(k:Kept S w w'):Kept S a w' :=
 ⟨k.os.trans h.os,k.tape.trans h.tape,k.output.trans h.output,Ww h.size k.size,fun i hi hn=>(k.block i (W4 hi h.size) hn).trans (h.block i hi hn)⟩
theorem Kept.mono(h:Kept S w w')(hs:∀ k,k<w.heap.size->S k->S' k):Kept S' w w':=⟨h.os,h.tape,h.output,h.size,fun i hi hn=>h.block i hi (fun hk=>hn (hs i hi hk))⟩
theorem Kept.below(h:Kept S w w'){B:Nat}(hB:B<=w.heap.size)(hs:∀ k,k<B->¬S k):Below B w w':=⟨h.os,h.tape,h.output,h.size,fun i hi=>h.block i (W4 hi hB) (hs i hi)⟩
theorem Kept.of_grown{row:Option Nat}(h:w.grownBy w' row)(hs:∀ k,row=some k->k<w.heap.size->S k):Kept S w w' :=
 ⟨h.os,h.tape,h.output,h.size,fun i hi hn=>h.block i hi (fun e=>hn (hs i e.symm hi))⟩
theorem Kept.drew(h:Kept S a w):Kept S a w.drew:=⟨h.os,h.tape,h.output,h.size,h.block⟩
theorem Kept.drewN(h:Kept S a w)(n:Nat):Kept S a (w.drewN n):=⟨h.os,h.tape,h.output,h.size,h.block⟩
theorem Kept.alloc(h:Kept S a w)(o:Obj):Kept S a (w.alloc o) :=
 ⟨h.os,h.tape,h.output,Ww h.size (by simp),fun i hi hn=>(Below.heap_alloc w o i (W4 hi h.size)).trans (h.block i hi hn)⟩
theorem Kept.setCell(h:Kept S a w){p:Addr}(hp:a.heap.size<=p.block\/S p.block)(u:Value):Kept S a (w.setCell p u) :=
 ⟨h.os,h.tape,h.output,by simpa[World.setCell]using h.size,fun i hi hn=>(Below.heap_setCell w p u i (by
  grind)).trans (h.block i hi hn)⟩
theorem Kept.cell(h:Kept S w w'){p:Addr}{u:Value}(hc:w.cell? p=some u)(hn:¬S p.block):w'.cell? p=some u :=
 (World.cell?_of_block (h.block p.block (World.block_lt_of_cell? w p hc) hn)).trans hc
theorem Kept.blk(h:Kept S w w'){g:Nat}{t:TypeId}{cs:Array Value}(hb:Blk w g t cs)(hn:¬S g):Blk w' g t cs:=(h.block g hb.lt hn).trans hb
theorem Kept.row(h:Kept S w w'){A:Option Addr}{xs:List Value}(hr:Row w A xs)(hn:xs=[]\/∀ b off,A=some ⟨b,off,none⟩->¬S b):Row w' A xs:=by
 rcases hr with hr |⟨b,off,e,hr⟩
 ·exact Xq hr
 ·rcases hn with hn |hn
  ·exact Xq hn
  ·exact Xt ⟨b,off,e,fun i u hu=>h.cell (hr i u hu) (hn b off e)⟩
theorem Kept.own(h:Kept S w w'){base:Nat}{e:TypeId}{size n:Nat}{v:Value}{xs:List Value}(ho:w.ownsRow base e size v n xs)(hn:∀ g,v.ownBlock=some g->¬S g):w'.ownsRow base e size v n xs:=by
 refine⟨ho.1,?_⟩
 rcases ho.2 with h2 |⟨g,cap,cur,rfl,hb,hg,r⟩
 ·grind
 ·refine Xt ⟨g,cap,cur,rfl,hb,?_,r⟩
  rw[h.block g (XZ.1 hg).1 (hn g rfl)]
  exact hg
end
structure ZhG(P:Program)(t e:TypeId)(z:Value)(size bytes:Nat):Prop where
 ht:P.underlying t=some (.slice e)
 hi:∃ i,P.info? e=some i/\i.zero=some z/\i.size=size/\i.bytes=bytes
 hz:z.cells.size=size
 hs:0<size
 hb:0<bytes
theorem Zvq{P:Program}{t e:TypeId}{z:Value}{size bytes:Nat}(ht:P.underlying t=some (.slice e))
  (hi:(P.info? e).map (fun i=>(i.zero,i.size,i.bytes))=some (some z,size,bytes)) (hz:z.cells.size=size) (hs:0<size) (hb:0<bytes):ZhG P t e z size bytes:=by
 obtain⟨i0,h1,h2,h3,h4⟩:=info_parts hi
 exact⟨ht,⟨i0,h1,h2,h3,h4⟩,hz,hs,hb⟩
section
variable {P:Program}{t e:TypeId}{z:Value}{size bytes:Nat}
theorem ZMX (T : ZhG P t e z size bytes) (w : World) (ty : TypeId) {base : Nat} {A0 : Option Addr} {n c0 : Nat} {xs : List Value} (hown : w.ownsRow base e size (.slice A0 n c0) n xs)
    {A : Option Addr} {m c : Nat} {news : List Value} (hl : news.length = m * size) (hr : Row w A news) (h1 : ∀ u ∈ news, u.oneCell' = true)
    (hroom : (n + m) * bytes <= 140737488355328) (hbase : base <= w.heap.size) :
    ∃ A' c' w', (Builtin.append_ #[t, t] ty #[.slice A0 n c0, .slice A m c]).run P w = .ok (.slice A' (n + m) c') w' /\ w'.ownsRow base e size (.slice A' (n + m) c') (n + m) (xs ++ news) /\
      w.grownBy w' (Value.ownBlock (.slice A0 n c0)) /\ (Value.ownBlock (.slice A' (n + m) c') = Value.ownBlock (.slice A0 n c0) \/ Value.ownBlock (.slice A' (n + m) c') = some w.heap.size) := by
  obtain ⟨i, hi, hz, hsz, hby⟩ := T.hi
  have hmax : n + m <= maxLen := by
    have : (n + m) * 1 <= (n + m) * bytes := Xae _ T.hb
    simp only [maxLen]; omega
  have fin : ∀ (v' : Value) (w' : World), (Builtin.append_ #[t, t] ty #[.slice A0 n c0, .slice A m c]).run P w = .ok v' w' -> w'.ownsRow base e size v' (n + m) (xs ++ news) ->
      w.grownBy w' (Value.ownBlock (.slice A0 n c0)) -> (v'.ownBlock = Value.ownBlock (.slice A0 n c0) \/ v'.ownBlock = some w.heap.size) ->
      ∃ A' c' w', (Builtin.append_ #[t, t] ty #[.slice A0 n c0, .slice A m c]).run P w = .ok (.slice A' (n + m) c') w' /\ w'.ownsRow base e size (.slice A' (n + m) c') (n + m) (xs ++ news) /\
      w.grownBy w' (Value.ownBlock (.slice A0 n c0)) /\ (Value.ownBlock (.slice A' (n + m) c') = Value.ownBlock (.slice A0 n c0) \/ Value.ownBlock (.slice A' (n + m) c') = some w.heap.size) := by
    intro v' w' h2 h3 h4 h5
    have hv : ∃ A' c', v' = .slice A' (n + m) c' := by
      rcases h3.2 with ⟨hv, h0⟩ | ⟨g, cap, _, hv, _⟩
      . grind
      . grind
    obtain ⟨A', c', rfl⟩ := hv
    exact ⟨A', c', w', h2, h3, h4, h5⟩
  rcases A with _ | ad
  . have hn : news = [] := by
      rcases hr with h | ⟨b, off, e, _⟩
      . exact h
      . cases e
    subst hn
    have hm : m = 0 := by
      have h2 : m * size = 0 := by simpa using hl.symm
      rcases Nat.mul_eq_zero.1 h2 with h | h
      . exact h
      . have := T.hs; omega
    subst hm
    refine fin _ w ?_ (by grind) (World.grownBy.refl w _) (Xq rfl)
    rcases hown.2 with ⟨hv, hn0⟩ | ⟨g, cap, cur, hv, _, _, hnc, _⟩
    . injection hv with h1 h2 h3
      subst h1 h2 h3
      simp [Builtin.append_, run_underlying T.ht, sizeOf, typeInfo, hi, Builtin.lenOf, Builtin.firstCells]
    . injection hv with h1 h2 h3
      subst h1 h3
      simp [Builtin.append_, run_underlying T.ht, sizeOf, typeInfo, hi, Builtin.lenOf, Builtin.firstCells, hnc, storeCells]
  . have hcells : ∀ j u, news[j]? = some u -> w.cell? (ad.add j) = some u := by
      intro j u hu
      rcases hr with h | ⟨b, off, e, h⟩
      . grind
      . injection e with e
        subst e
        rw [Addr.add_lit]
        exact h j u hu
    obtain ⟨v', w', hrun, h2, h3, _, h5⟩ := run_append_own_at (P := P) w base t ty e i z size bytes T.ht hi hz hsz hby T.hz T.hs _ n xs hown ad m c news hl hcells h1 hmax hroom hbase
    grind
theorem ZFn(T:ZhG P t e z size bytes){w:World}{o:Oper}{a:Act}{K:Act->World->Prop}{Q:Exit->Act->World->Prop}(s x:Operand)
  (ho:o.op=.call { callee:=.builtin .append,args:=#[s,x],argTypes:=#[t,t] })
  {base:Nat} {A0:Option Addr} {n c0:Nat} {xs:List Value} (hs:a.eval s=.slice A0 n c0) (hown:w.ownsRow base e size (.slice A0 n c0) n xs)
  {A:Option Addr} {m c:Nat} {news:List Value} (hx:a.eval x=.slice A m c) (hl:news.length=m*size) (hr:Row w A news) (h1:∀ u∈news,u.oneCell'=true)
  (hroom:(n+m)*bytes<=140737488355328) (hbase:base<=w.heap.size)
  (h:∀ A' c' w',w'.ownsRow base e size (.slice A' (n+m) c') (n+m) (xs++news)->w.grownBy w' (Value.ownBlock (.slice A0 n c0)) ->
   (Value.ownBlock (.slice A' (n+m) c')=Value.ownBlock (.slice A0 n c0)\/Value.ownBlock (.slice A' (n+m) c')=some w.heap.size)->K (a.put o.dst (.slice A' (n+m) c')) w'):o.wp P a w K Q:=by
 obtain⟨A',c',w',hrun,h2,h3,h4⟩:=ZMX T w o.type hown (c:=c) hl hr h1 hroom hbase
 unfold Oper.wp execOp
 simp only[ho,resolve,invoke,builtin,Sem.run_bind,Sem.run_pure,Result.andThen_ok,List.map_toArray,Xu,XC,hs,hx,hrun]
 exact h A' c' w' h2 h3 h4
theorem ZF1(T:ZhG P t e z size bytes){w:World}{ops:Array Oper}{rest:List Oper}{o:Oper}{a:Act}{Q:Exit->Act->World->Prop}(hgd:o.guard=none)(s x:Operand)
  (ho:o.op=.call { callee:=.builtin .append,args:=#[s,x],argTypes:=#[t,t] })
  {base:Nat} {A0:Option Addr} {n c0:Nat} {xs:List Value} (hs:a.eval s=.slice A0 n c0) (hown:w.ownsRow base e size (.slice A0 n c0) n xs)
  {A:Option Addr} {m c:Nat} {news:List Value} (hx:a.eval x=.slice A m c) (hl:news.length=m*size) (hr:Row w A news) (h1:∀ u∈news,u.oneCell'=true)
  (hroom:(n+m)*bytes<=140737488355328) (hbase:base<=w.heap.size)
  (h:∀ A' c' w',w'.ownsRow base e size (.slice A' (n+m) c') (n+m) (xs++news)->w.grownBy w' (Value.ownBlock (.slice A0 n c0)) ->
   (Value.ownBlock (.slice A' (n+m) c')=Value.ownBlock (.slice A0 n c0)\/Value.ownBlock (.slice A' (n+m) c')=some w.heap.size)->wpList P ops Q rest (a.put o.dst (.slice A' (n+m) c')) w') :
  wpList P ops Q (o::rest) a w :=
 wpList_plain hgd fun _ hK=>ZFn T s x ho hs hown hx hl hr h1 hroom hbase fun A' c' w' h2 h3 h4=>hK _ _ (h A' c' w' h2 h3 h4)
end
end
section
open Go.RowKit
def ob(A:Option Addr)(c:Nat):Option Nat:=if c=0 then none else A.map (·.block)
def ZdN:Value->Option Nat
 | .slice A _ c=>ob A c
 |_=>none
def OwnA(w:World)(A:Option Addr)(c n:Nat)(xs:List Value):Prop :=
 xs.length=n/\n<=c/\c<=maxLen/\(c=0\/∃ g cur e,A=some ⟨g,0,none⟩/\w.heap[g]?=some (.cells cur e (0,0))/\cur.size=c/\cur.toList.take n=xs)
section
variable {w w':World}{A:Option Addr}{c n:Nat}{xs:List Value}
theorem OwnA.typed(h:OwnA w A c n xs)(hc:c≠0):∃ g e,A=some ⟨g,0,none⟩/\w.ownsRow 0 e 1 (.slice (some ⟨g,0,none⟩) n c) n xs:=by
 obtain⟨h1,h2,h3,h4⟩:=h
 rcases h4 with h4 |⟨g,cur,e,rfl,hg,hs,ht⟩
 ·grind
 ·exact⟨g,e,rfl,by omega,Xt ⟨g,c,cur,rfl,Nat.zero_le _,hg,h2,h3,by omega,by grind⟩⟩
theorem OwnA.of_owns{base:Nat}{e:TypeId}(h:w.ownsRow base e 1 (.slice A n c) n xs):OwnA w A c n xs:=by
 have hc:=ZJc h
 refine⟨by simpa using h.1,hc.1,hc.2,?_⟩
 rcases h.2 with⟨e1,_⟩ |⟨g,cap,cur,e1,_,hg,h3,h4,h5,h6⟩
 ·grind
 grind
theorem OwnA.row(h:OwnA w A c n xs):Row w A xs:=by
 by_cases hc:c=0
 ·have:=h.1;have:=h.2.1;exact Xq (Xx (by omega))
 ·obtain⟨g,e,rfl,ho⟩:=h.typed hc;exact Row.of_own ho
theorem ZvS{g:Nat}(h:ob A c=some g):c≠0/\∃ a,A=some a/\a.block=g:=by
 unfold ob at h
 split at h
 ·cases h
 ·rcases A with _ |a
  ·cases h
  grind
theorem OwnA.addr(h:OwnA w A c n xs){g:Nat}(hg:ob A c=some g):A=some ⟨g,0,none⟩/\g<w.heap.size:=by
 obtain⟨hc,a,e,hb⟩:=ZvS hg
 obtain⟨g',e',rfl,ho⟩:=h.typed hc
 injection e with e;subst e
 have hb:g'=g:=hb
 subst hb
 exact⟨rfl,(ho.lt g' rfl).2⟩
theorem ZiF{g:Nat}(hc:c≠0):ob (some ⟨g,0,none⟩) c=some g:=by simp[ob,hc]
theorem OwnA.kept{S:Nat->Prop}(h:OwnA w A c n xs)(hk:Kept S w w')(hn:∀ g,ob A c=some g->¬S g):OwnA w' A c n xs:=by
 refine⟨h.1,h.2.1,h.2.2.1,?_⟩
 rcases h.2.2.2 with h4 |⟨g,cur,e,rfl,hg,hs,ht⟩
 ·grind
 ·by_cases hc:c=0
  ·grind
  ·exact Xt ⟨g,cur,e,rfl,by rw[hk.block g (XZ.1 hg).1 (hn g (ZiF hc))];exact hg,hs,ht⟩
theorem OwnA.alloc(h:OwnA w A c n xs)(o:Obj):OwnA (w.alloc o) A c n xs :=
 h.kept (S:=fun _=>False) ⟨rfl,rfl,rfl,by simp,fun k hk _=>Below.heap_alloc w o k hk⟩ fun _ _=>id
end
section
variable {P:Program}{t e:TypeId}{z:Value}{bytes:Nat}
theorem ZOc (T : ZhG P t e z 1 bytes) (w : World) (ty : TypeId) {A0 : Option Addr} {n c0 : Nat} {xs : List Value} (hown : OwnA w A0 c0 n xs)
    {A : Option Addr} {c : Nat} {x : Value} (hr : Row w A [x]) (h1 : x.oneCell' = true) (hroom : (n + 1) * bytes <= 140737488355328) :
    ∃ A' c' w', (Builtin.append_ #[t, t] ty #[.slice A0 n c0, .slice A 1 c]).run P w = .ok (.slice A' (n + 1) c') w' /\ OwnA w' A' c' (n + 1) (xs ++ [x]) /\
      w.grownBy w' (ob A0 c0) /\ (ob A' c' = ob A0 c0 \/ ob A' c' = some w.heap.size) /\ Row w' A0 xs := by
  obtain ⟨i, hi, hz, hsz, hby⟩ := T.hi
  have hzs := T.hz
  have hsmall : n + 1 <= 140737488355328 := by
    have : (n + 1) * 1 <= (n + 1) * bytes := Xae _ T.hb
    omega
  obtain ⟨b, off, rfl, hcell⟩ : ∃ b off, A = some ⟨b, off, none⟩ /\ w.cell? ⟨b, off, none⟩ = some x := by
    obtain ⟨b, off, e, h⟩ := hr.at' (i := 0) (by simp)
    grind
  have hcells : ∀ j u, [x][j]? = some u -> w.cell? ((⟨b, off, none⟩ : Addr).add j) = some u := by
    intro j u hu
    cases j with
    | zero => simp only [XK, Xb] at hu; subst hu; rw [Addr.add_lit]; exact hcell
    | succ j => simp at hu
  have hone : ∀ u ∈ [x], u.oneCell' = true := by simpa using h1
  have hsm1 : i.size = 1 := hsz
  have grown : ∀ (row : Option Nat), c0 < n + 1 -> OwnA (w.drew.alloc (.cells (xs.toArray ++ [x].toArray ++ Builtin.zeroCells z.cells (grownCap w (n + 1) c0 e - (n + 1))) e)) (some ⟨w.heap.size, 0, none⟩) (grownCap w (n + 1) c0 e) (n + 1) (xs ++ [x]) /\
      w.grownBy (w.drew.alloc (.cells (xs.toArray ++ [x].toArray ++ Builtin.zeroCells z.cells (grownCap w (n + 1) c0 e - (n + 1))) e)) row := by
    intro row _
    have hge := grownCap_ge w (n + 1) c0 e
    have hcm : grownCap w (n + 1) c0 e <= maxLen := grownCap_le_maxLen w (n + 1) c0 e (by simp only [maxLen]; omega)
    refine ⟨⟨by simp [hown.1], hge, hcm, Xt ⟨w.heap.size, _, e, rfl, heap_alloc_new w.drew _, ?_, ?_⟩⟩, ⟨rfl, rfl, rfl, by simp, fun k hk _ => Below.heap_alloc w.drew _ k hk⟩⟩
    . simp only [Array.size_append, List.size_toArray, size_zeroCells, hzs, hown.1, List.length_singleton]
      omega
    . simp only [Array.toList_append, WW]
      rw [<- WW, <- (show (xs ++ [x]).length = n + 1 by simp [hown.1])]
      exact Xak
  have hob : ob (some ⟨w.heap.size, 0, none⟩) (grownCap w (n + 1) c0 e) = some w.heap.size := ZiF (by have := grownCap_ge w (n + 1) c0 e; omega)
  by_cases hc : c0 = 0
  . subst hc
    have hn : n = 0 := by have := hown.2.1; omega
    subst hn
    have hx : xs = [] := Xx hown.1
    subst hx
    have hgr := grown (ob A0 0) (by omega)
    rcases A0 with _ | a0
    . have hrun := run_append_nil (P := P) w t ty e i z T.ht hi hz ⟨b, off, none⟩ 1 c [x] (by simp [hsm1]) hcells (by omega) (by omega) (by grind)
      simp only [XF, Xp, Array.empty_append] at hgr hob ⊢
      exact ⟨_, _, _, hrun, hgr.1, hgr.2, Xt hob, Xq rfl⟩
    . have hrun := run_append_grow (P := P) w t ty e i z T.ht hi hz a0 0 0 [] (by simp) (by simp) ⟨b, off, none⟩ 1 c [x] (by simp [hsm1]) hcells (by omega) (by omega) (growslice_fits (by omega) (by grind))
      exact ⟨_, _, _, hrun, hgr.1, hgr.2, Xt hob, Xq rfl⟩
  . obtain ⟨g, e2, rfl, ho⟩ := hown.typed hc
    have hh := ho.2
    rcases hh with ⟨h, _⟩ | ⟨g', cap', cur, h, hbg, hg, hnc, hcm, hcs, htake⟩
    . cases h
    . simp only [Value.slice.injEq, Xb, Addr.mk.injEq, and_true, true_and] at h
      obtain ⟨rfl, rfl⟩ := h
      by_cases hfit : n + 1 <= c0
      . have hlen : (xs ++ [x]).length = n + 1 := by simp [hown.1]
        have hfit' : n * i.size + [x].length <= cur.size := by rw [hsm1]; simp; omega
        have hf := run_firstCells_some (P := P) w i.size 1 ⟨b, off, none⟩ 1 c [x] (by simp [hsm1]) hcells
        have hst := run_storeCells_at P g (n * i.size) e2 [x] 0 cur w hg (by grind) hone
        simp only [Nat.add_zero] at hst
        have hrun : (Builtin.append_ #[t, t] ty #[.slice (some ⟨g, 0, none⟩) n c0, .slice (some ⟨b, off, none⟩) 1 c]).run P w =
            .ok (.slice (some ⟨g, 0, none⟩) (n + 1) c0) (w.setRow g (cur.toList.take (n * i.size) ++ [x] ++ cur.toList.drop (n * i.size + [x].length)).toArray) := by
          simp [Builtin.append_, run_underlying T.ht, sizeOf, typeInfo, hi, Builtin.lenOf, hfit, hf, Addr.add_lit, hst]
        have hnew : OwnA (w.setRow g (cur.toList.take (n * i.size) ++ [x] ++ cur.toList.drop (n * i.size + [x].length)).toArray) (some ⟨g, 0, none⟩) c0 (n + 1) (xs ++ [x]) := by
          refine ⟨hlen, hfit, hcm, Xt ⟨g, _, e2, rfl, setRow_heap w g cur _ e2 _ hg, ?_, ?_⟩⟩
          . grind
          . grind
        refine ⟨_, _, _, hrun, hnew, ⟨rfl, rfl, rfl, by simp, fun k _ hk => setRow_other w g k _ (fun e => hk (by rw [ZiF hc, e]))⟩, Xq rfl, ?_⟩
        have := hnew.row.take xs.length
        rwa [Xak] at this
      . have holds : ∀ j u, xs[j]? = some u -> w.cell? ((⟨g, 0, none⟩ : Addr).add j) = some u := ho.cells (g := g) rfl
        have hrun := run_append_grow (P := P) w t ty e i z T.ht hi hz ⟨g, 0, none⟩ n c0 xs (by grind) holds ⟨b, off, none⟩ 1 c [x] (by simp [hsm1]) hcells (by omega) (by omega) (growslice_fits (by omega) (by grind))
        have hgr := grown (ob (some ⟨g, 0, none⟩) c0) (by omega)
        exact ⟨_, _, _, hrun, hgr.1, hgr.2, Xt hob, (hown.row.drew).alloc _⟩
theorem Zv2(T:ZhG P t e z 1 bytes){w:World}{ops:Array Oper}{rest:List Oper}{o:Oper}{a:Act}{Q:Exit->Act->World->Prop}(hgd:o.guard=none)(s x:Operand)
  (ho:o.op=.call { callee:=.builtin .append,args:=#[s,x],argTypes:=#[t,t] })
  {A0:Option Addr} {n c0:Nat} {xs:List Value} (hs:a.eval s=.slice A0 n c0) (hown:OwnA w A0 c0 n xs)
  {A:Option Addr} {c:Nat} {y:Value} (hx:a.eval x=.slice A 1 c) (hr:Row w A [y]) (h1:y.oneCell'=true)
  (hroom:(n+1)*bytes<=140737488355328)
  (h:∀ A' c' w',OwnA w' A' c' (n+1) (xs++[y])->w.grownBy w' (ob A0 c0) ->
   (ob A' c'=ob A0 c0\/ob A' c'=some w.heap.size)->Row w' A0 xs->wpList P ops Q rest (a.put o.dst (.slice A' (n+1) c')) w') :
  wpList P ops Q (o::rest) a w:=by
 refine wpList_plain hgd fun K hK=>?_
 obtain⟨A',c',w',hrun,h2,h3,h4,h5⟩:=ZOc T w o.type hown (c:=c) hr h1 hroom
 unfold Oper.wp execOp
 simp only[ho,resolve,invoke,builtin,Sem.run_bind,Sem.run_pure,Result.andThen_ok,List.map_toArray,Xu,XC,hs,hx,hrun]
 exact hK _ _ (h A' c' w' h2 h3 h4 h5)
end
end
section
open Go.RowKit
theorem ZxO:ZhG Tryz.prog 22 5 (.int .u8 0) 1 1:=Zvq Tryz.underlying22 (by kernel_rfl) rfl (by omega) (by omega)
theorem ZKm:ZhG Tryz.prog 44 22 (.slice none 0 0) 1 24:=Zvq Tryz.underlying44 (by kernel_rfl) rfl (by omega) (by omega)
def Zni(bs:List Value):Prop:=∀ (i j:Nat) (u v:Value) (g:Nat),i<j->bs[i]?=some u->bs[j]?=some v->ZdN u=some g->ZdN v≠some g
def BodsF(w:World)(bs:List Value)(ls:List (List UInt8))(f:Nat->List UInt8->List UInt8):Prop :=
 ∀ (i:Nat) (v:Value) (l:List UInt8),bs[i]?=some v->ls[i]?=some l->∃ A c,v=.slice A l.length c/\OwnA w A c l.length (bVs (f i l))
theorem BodsF.store{w:World}{k j g c:Nat}{bs:List Value}{ls:List (List UInt8)}{f f':Nat->List UInt8->List UInt8}{l:List UInt8}(x:UInt8)(h:BodsF w bs ls f)(hap:Zni bs)(hc:c≠0)
  (hb:bs[k]?=some (.slice (some ⟨g,0,none⟩) l.length c)) (hl:ls[k]?=some l) (hf:∀ i m,i≠k->f' i m=f i m) (hfk:f' k l=(f k l).set j x):BodsF (w.setCell ⟨g,j,none⟩ (bV x)) bs ls f':=by
 intro i v m hv hm
 by_cases hi:i=k
 ·subst hi
  rw[hb]at hv;rw[hl]at hm
  injection hv with hv;injection hm with hm
  subst hv hm
  obtain⟨A,c',e,ho⟩:=h i _ _ hb hl
  injection e with e1 _ e2
  subst e1 e2
  refine⟨_,_,rfl,?_⟩
  obtain⟨g',ty,e,ho⟩:=ho.typed hc
  injection e with e;injection e with e;subst e
  have:=(ho.stored j (bV x)).1
  rw[hfk]
  have he:(bVs (f i l)).set j (bV x)=bVs ((f i l).set j x):=by simp[bVs,List.map_set]
  rw[he]at this
  exact OwnA.of_owns this
 ·obtain⟨A,c',e,ho⟩:=h i v m hv hm
  subst e
  refine⟨A,c',rfl,?_⟩
  rw[hf i m hi]
  refine ho.kept (S:=(·=g)) (Kept.of_grown (S:=(·=g)) (ZUI w g j (bV x)) (fun k e _=>by grind)) (fun g' hg' e=>?_)
  subst e
  have hk:ZdN (.slice (some ⟨g',0,none⟩) l.length c)=some g':=ZiF hc
  rcases XaV hi with h1 |h1
  ·exact hap i k _ _ g' h1 hv hb hg' hk
  ·exact hap k i _ _ g' h1 hb hv hk hg'
def Zcn(k:Nat)(l:List UInt8):List UInt8:=XI l.length (Wo k)
def ZcE(k j:Nat)(i:Nat)(l:List UInt8):List UInt8:=if i<k then Zcn i l else if i=k then XI j (Wo k)++l.drop j else l
theorem ZJp:ZcE 0 0=fun _ l=>l:=by funext i l;simp[ZcE]
theorem ZLZ(k:Nat)(ls:List (List UInt8))(l:List UInt8)(hl:ls[k]?=some l){w:World}{bs:List Value}(h:BodsF w bs ls (ZcE k l.length)):BodsF w bs ls (ZcE (k+1) 0):=by
 intro i v m hv hm
 obtain⟨A,c,e,ho⟩:=h i v m hv hm
 refine⟨A,c,e,?_⟩
 have : ZcE k l.length i m=ZcE (k+1) 0 i m:=by
  unfold ZcE
  by_cases h1:i<k
  ·grind
  ·by_cases h2:i=k
   ·subst h2
    rw[hl]at hm;injection hm with hm;subst hm
    rw[if_neg h1,if_pos rfl,if_pos (by omega)]
    simp[Zcn]
   grind
 grind
theorem ZU4(k j:Nat)(l:List UInt8)(hj:j<l.length):ZcE k (j+1) k l=(ZcE k j k l).set j (Wo k):=by
 simp only[ZcE,Nat.lt_irrefl,if_false,if_true]
 have hd:l.drop j=l[j]::l.drop (j+1):=List.drop_eq_getElem_cons hj
 rw[List.replicate_succ',WW,List.set_append]
 simp
 rw[hd];rfl
theorem Zsa(k:Nat):Value.int .u8 ((k:Int)%256)=bV (Wo k):=by simp[bV,Xao]
theorem ZkL(k c:Nat):bV (Wo (k+c))=Value.int .u8 (((k:Int)+(c:Int))%256):=by
 simp[bV,Xao]
def BookR(w:World)(kb:Nat)(A1:Option Addr)(c1:Nat)(bs:List Value):Prop :=
 w.cell? ⟨kb,0,none⟩=some (.slice A1 bs.length c1)/\Row w A1 bs
def Zkb(kb:Nat)(A1:Option Addr)(bs:List Value)(B1:Nat):Prop :=
 kb<B1/\(∀ b off,A1=some ⟨b,off,none⟩->b<B1)/\∀ (i:Nat) (v:Value) (g:Nat),bs[i]?=some v->ZdN v=some g->g≠kb/\(∀ b off,A1=some ⟨b,off,none⟩->b≠g)/\g<B1
theorem BookR.kept{w w':World}{S:Nat->Prop}{kb c1:Nat}{A1:Option Addr}{bs:List Value}(h:BookR w kb A1 c1 bs)(hk:Kept S w w')(h1:¬S kb)(h2:∀ b off,A1=some ⟨b,off,none⟩->¬S b):BookR w' kb A1 c1 bs :=
 ⟨hk.cell h.1 h1,hk.row h.2 (Xt h2)⟩
theorem Kept.then_grown{S:Nat->Prop}{a w w':World}{row:Option Nat}(h:Kept S a w)(hg:w.grownBy w' row)(hs:∀ k,row=some k->k<a.heap.size->S k):Kept S a w' :=
 ⟨hg.os.trans h.os,hg.tape.trans h.tape,hg.output.trans h.output,Ww h.size hg.size,fun i hi hn=>(hg.block i (W4 hi h.size) (fun e=>hn (hs i e.symm hi))).trans (h.block i hi hn)⟩
def ZeW(k:Nat)(l:List UInt8):List UInt8:=Zcn k l++[Wo (k+100),Wo (k+101)]
def bsS(bs:List Value)(k:Nat):Prop:=∃ (i:Nat) (v:Value),bs[i]?=some v/\ZdN v=some k
def Zqz(kb:Nat)(A1:Option Addr)(c1:Nat)(bs:List Value)(ls:List (List UInt8))(B1:Nat)(w:World)(k:Nat)(grown:Value)(wr:World):Prop :=
 ∃ (Ag:Option Addr) (ng cg:Nat) (gs:List Value),grown=.slice Ag ng cg/\ng=k/\gs.length=k/\wr.ownsRow B1 22 1 (.slice Ag ng cg) ng gs/\BookR wr kb A1 c1 bs /\
  (∀ (i:Nat) (v:Value) (l:List UInt8),bs[i]?=some v->ls[i]?=some l->∃ A c,v=.slice A l.length c/\l.length<=c/\c<=maxLen/\Row wr A (bVs (Zcn i l))) /\
  (∀ (i:Nat) (v:Value) (l:List UInt8),k<=i->bs[i]?=some v->ls[i]?=some l->∃ A c,v=.slice A l.length c/\OwnA wr A c l.length (bVs (Zcn i l))) /\
  (∀ (i:Nat) (u v:Value) (l:List UInt8),gs[i]?=some u->bs[i]?=some v->ls[i]?=some l->∃ Au cu,u=.slice Au (l.length+2) cu/\OwnA wr Au cu (l.length+2) (bVs (ZeW i l))/\(ZdN u=ZdN v\/∃ g,ZdN u=some g/\B1<=g)) /\
  (∀ (i:Nat) (u:Value) (g:Nat),gs[i]?=some u->ZdN u=some g->Value.ownBlock (.slice Ag ng cg)≠some g)/\B1<=wr.heap.size/\Kept (bsS bs) w wr
theorem Row.keptO{S:Nat->Prop}{w w':World}{A:Option Addr}{c:Nat}{xs:List Value}(h:Row w A xs)(hl:xs.length<=c)(hk:Kept S w w')(hn:∀ b,ob A c=some b->¬S b):Row w' A xs:=by
 rcases xs with _ |⟨x,xs⟩
 ·exact Xq rfl
 ·refine hk.row h (Xt fun b off e=>hn b ?_)
  subst e
  simp only[List.length_cons]at hl
  simp only[ob,show c≠0 by omega,if_false,Option.map_some]
theorem Zsy(k:Nat)(l:List UInt8):(bVs (Zcn k l)).length=l.length:=by simp[bVs,Zcn]
theorem ZC0{kb B1 k cg c' ng n:Nat}{A1 Ag Ak A':Option Addr}{ck:Nat}{bs gs:List Value}{wr w1 w2:World}{X1 X2:Obj}(hL:Zkb kb A1 bs B1)(hbk:bs[k]?=some (.slice Ak n ck))
  (hgr:wr.ownsRow B1 22 1 (.slice Ag ng cg) ng gs) (hg1:(wr.alloc X1).grownBy w1 (ob Ak ck)) (hat1:ob A' c'=ob Ak ck\/ob A' c'=some (wr.alloc X1).heap.size)
  (hg2:(w1.alloc X2).grownBy w2 (ob A' c')):w2.ownsRow B1 22 1 (.slice Ag ng cg) ng gs:=by
 have k1:Kept (fun j=>ob Ak ck=some j) wr w1:=((Kept.refl _ wr).alloc X1).then_grown hg1 (fun _ e _=>e)
 have k2:Kept (fun j=>ob Ak ck=some j) wr w2:=(k1.alloc X2).then_grown hg2 (by
  intro j e hj
  rcases hat1 with h |h
  ·rw[h]at e;exact e
  ·rw[h]at e;injection e with e;simp at e;omega)
 refine k2.own hgr (fun g hg e=>?_)
 have h1:=(hgr.lt g hg).1
 have h2:=(hL.2.2 k _ g hbk e).2.2
 omega
theorem ZOu{kb c1 B1 k cg c' c'' cg' ng:Nat}{A1 Ag Ak A' A'' Ag':Option Addr}{ck:Nat}{bs gs:List Value}{ls:List (List UInt8)}{l:List UInt8}{w wr w1 w2 w3:World}{X1 X2 X3:Obj}
  (hap:Zni bs) (hL:Zkb kb A1 bs B1) (hwB:w.heap.size<=B1) (hbk:bs[k]?=some (.slice Ak l.length ck)) (hlk:ls[k]?=some l) (hng:ng=k) (hgl:gs.length=k)
  (hgr:wr.ownsRow B1 22 1 (.slice Ag ng cg) ng gs) (hR:BookR wr kb A1 c1 bs)
  (hrd:∀ (i:Nat) (v:Value) (l:List UInt8),bs[i]?=some v->ls[i]?=some l->∃ A c,v=.slice A l.length c/\l.length<=c/\c<=maxLen/\Row wr A (bVs (Zcn i l)))
  (hown:∀ (i:Nat) (v:Value) (l:List UInt8),k<=i->bs[i]?=some v->ls[i]?=some l->∃ A c,v=.slice A l.length c/\OwnA wr A c l.length (bVs (Zcn i l)))
  (hgs:∀ (i:Nat) (u v:Value) (l:List UInt8),gs[i]?=some u->bs[i]?=some v->ls[i]?=some l->∃ Au cu,u=.slice Au (l.length+2) cu/\OwnA wr Au cu (l.length+2) (bVs (ZeW i l))/\(ZdN u=ZdN v\/∃ g,ZdN u=some g/\B1<=g))
  (hdis:∀ (i:Nat) (u:Value) (g:Nat),gs[i]?=some u->ZdN u=some g->Value.ownBlock (.slice Ag ng cg)≠some g) (hB1:B1<=wr.heap.size) (hK:Kept (bsS bs) w wr)
  (hok:OwnA wr Ak ck l.length (bVs (Zcn k l)))
  (hg1:(wr.alloc X1).grownBy w1 (ob Ak ck)) (hat1:ob A' c'=ob Ak ck\/ob A' c'=some (wr.alloc X1).heap.size)
  (hold1:Row w1 Ak (bVs (Zcn k l))) (hown1:OwnA w1 A' c' (l.length+1) (bVs (Zcn k l++[Wo (k+100)])))
  (hg2:(w1.alloc X2).grownBy w2 (ob A' c')) (hat2:ob A'' c''=ob A' c'\/ob A'' c''=some (w1.alloc X2).heap.size)
  (hold2:Row w2 A' (bVs (Zcn k l++[Wo (k+100)]))) (hown2:OwnA w2 A'' c'' (l.length+1+1) (bVs (ZeW k l)))
  (hg3:(w2.alloc X3).grownBy w3 (Value.ownBlock (.slice Ag ng cg))) (hown3:w3.ownsRow B1 22 1 (.slice Ag' (ng+1) cg') (ng+1) (gs++[.slice A'' (l.length+1+1) c'']))
  (hat3:Value.ownBlock (.slice Ag' (ng+1) cg')=Value.ownBlock (.slice Ag ng cg)\/Value.ownBlock (.slice Ag' (ng+1) cg')=some (w2.alloc X3).heap.size) :
  Zqz kb A1 c1 bs ls B1 w (k+1) (.slice Ag' (ng+1) cg') w3:=by
 have hs1:=hg1.size
 have hs2:=hg2.size
 have hs3:=hg3.size
 simp at hs1 hs2 hs3
 have k1:Kept (fun j=>ob Ak ck=some j) wr w1:=((Kept.refl _ wr).alloc X1).then_grown hg1 (fun _ e _=>e)
 have k2:Kept (fun j=>ob Ak ck=some j) wr w2:=(k1.alloc X2).then_grown hg2 (by
  intro j e hj
  rcases hat1 with h |h
  ·grind
  ·rw[h]at e;injection e with e;simp at e;omega)
 have k3:Kept (fun j=>ob Ak ck=some j\/Value.ownBlock (.slice Ag ng cg)=some j) wr w3:=((k2.mono (S':=fun j=>ob Ak ck=some j\/Value.ownBlock (.slice Ag ng cg)=some j) (fun _ _ h=>Xq h)).alloc X3).then_grown hg3 (fun _ e _=>Xt e)
 have hAk:∀ j,ob Ak ck=some j->j≠kb/\(∀ b off,A1=some ⟨b,off,none⟩->b≠j)/\j<B1:=fun j hj=>hL.2.2 k _ j hbk hj
 have hAg:∀ j,Value.ownBlock (.slice Ag ng cg)=some j->B1<=j/\j<wr.heap.size:=fun j hj=>hgr.lt j hj
 have hkl:k<=bs.length:=Nat.le_of_lt (Xn.1 hbk).1
 have hgsl:∀ (i:Nat) (u:Value),(gs++[Value.slice A'' (l.length+1+1) c''])[i]?=some u->(i<k/\gs[i]?=some u)\/(i=k/\u=.slice A'' (l.length+1+1) c''):=by
  intro i u hu
  rw[List.getElem?_append]at hu
  split at hu
  ·grind
  ·grind
 have hother:∀ (i:Nat) (v:Value) (j:Nat),i≠k->bs[i]?=some v->ZdN v=some j->ob Ak ck≠some j:=by
  intro i v j hi hv hj e
  rcases XaV hi with h |h
  ·exact hap i k _ _ j h hv hbk hj e
  ·exact hap k i _ _ j h hbk hv e hj
 have hnewg:∀ g,ob A'' c''=some g->Value.ownBlock (.slice Ag ng cg)≠some g:=by
  intro g hg h
  have h1:=hAg g h
  rcases hat2 with h2 |h2
  ·rcases hat1 with h3 |h3
   ·grind
   ·rw[h2,h3]at hg;injection hg with hg;simp at hg;omega
  ·rw[h2]at hg;injection hg with hg;simp at hg;omega
 refine⟨Ag',ng+1,cg',gs++[.slice A'' (l.length+1+1) c''],rfl,by omega,by simp[hgl],hown3,?_,?_,?_,?_,?_,by omega,?_⟩
 ·refine hR.kept k3 ?_ (fun b off e=>?_)
  ·rintro(h |h)
   ·grind
   ·have:=(hAg kb h).1;have:=hL.1;omega
  ·rintro(h |h)
   ·grind
   ·have:=(hAg b h).1;have:=hL.2.1 b off e;omega
 ·intro i v m hv hm
  obtain⟨A,c,e,h1,h2,h3⟩:=hrd i v m hv hm
  by_cases hi:i=k
  ·subst hi
   rw[hbk]at hv;injection hv with hv;rw[hlk]at hm;injection hm with hm
   subst hv hm
   injection e with e1 _ e2
   subst e1 e2
   refine⟨Ak,ck,rfl,h1,h2,?_⟩
   have r2:Row w2 Ak (bVs (Zcn i l)):=by
    rcases hat1 with h |h
    ·rcases hold1 with hz |⟨b,off,e,hz⟩
     ·exact Xq hz
     ·subst e
      by_cases hck:ck=0
      ·have h0:=hok.1
       have h1:=hok.2.1
       exact Xq (Xx (by omega))
      ·obtain⟨g0,e0,e3,_⟩:=hok.typed hck
       injection e3 with e3
       injection e3 with e3 e4
       subst e3 e4
       have e2:=(hown1.addr (g:=b) (by rw[h];exact ZiF hck)).1
       rw[<-e2]
       have:=hold2.take (bVs (Zcn i l)).length
       rwa [ZmV,Xak]at this
    ·refine(hold1.alloc X2).keptO (c:=ck) (by rw[Zsy];exact h1) (Kept.of_grown (S:=fun j=>ob A' c'=some j) hg2 (fun _ e _=>e)) (fun b hb hS=>?_)
     rw[h]at hS
     injection hS with hS
     simp at hS
     grind
   refine(r2.alloc X3).keptO (c:=ck) (by rw[Zsy];exact h1) (Kept.of_grown (S:=fun j=>Value.ownBlock (.slice Ag ng cg)=some j) hg3 (fun _ e _=>e)) (fun b hb hS=>?_)
   have:=(hAk b hb).2.2
   have:=(hAg b hS).1
   omega
  ·refine⟨A,c,e,h1,h2,h3.keptO (c:=c) (by rw[Zsy];exact h1) k3 (fun b hb=>?_)⟩
   subst e
   rintro(h |h)
   ·exact hother i _ b hi hv hb h
   ·have:=(hAg b h).1;have:=(hL.2.2 i _ b hv hb).2.2;omega
 ·intro i v m hki hv hm
  obtain⟨A,c,e,ho⟩:=hown i v m (by omega) hv hm
  refine⟨A,c,e,ho.kept k3 (fun g hg=>?_)⟩
  subst e
  rintro(h |h)
  ·exact hother i _ g (by omega) hv hg h
  ·have:=(hAg g h).1;have:=(hL.2.2 i _ g hv hg).2.2;omega
 ·intro i u v m hu hv hm
  rcases hgsl i u hu with⟨hi,hu'⟩ |⟨hi,hu'⟩
  ·obtain⟨Au,cu,e,ho,hat⟩:=hgs i u v m hu' hv hm
   refine⟨Au,cu,e,ho.kept k3 (fun g hg=>?_),hat⟩
   rintro(h |h)
   ·subst e
    rcases hat with hat |⟨g',hg',hge⟩
    ·exact hother i v g (by omega) hv (by rw[<-hat];exact hg) h
    ·have hg0:ob Au cu=some g':=hg'
     rw[hg]at hg0;injection hg0 with hg0
     have:=(hAk g h).2.2;omega
   ·subst e
    exact hdis i _ g hu' hg h
  ·subst hi hu'
   rw[hbk]at hv;injection hv with hv;rw[hlk]at hm;injection hm with hm
   subst hv hm
   refine⟨A'',c'',rfl,?_,?_⟩
   ·exact(hown2.alloc X3).kept (Kept.of_grown (S:=fun j=>Value.ownBlock (.slice Ag ng cg)=some j) hg3 (fun _ e _=>e)) (fun g hg h=>hnewg g hg h)
   ·rcases hat2 with h |h
    ·rcases hat1 with h' |h'
     ·exact Xq (h.trans h')
     ·exact Xt ⟨_,h.trans h',by simp;omega⟩
    ·exact Xt ⟨_,h,by simp;omega⟩
 ·intro i u g hu hg h
  have hug:g<w2.heap.size/\Value.ownBlock (.slice Ag ng cg)≠some g:=by
   rcases hgsl i u hu with⟨hi,hu'⟩ |⟨hi,hu'⟩
   ·obtain⟨v,hv⟩:∃ v,bs[i]?=some v:=⟨_,XA (by omega)⟩
    obtain⟨m,hm⟩:∃ m,ls[i]?=some m:=⟨_,XA (by grind)⟩
    obtain⟨Au,cu,e,ho,hat⟩:=hgs i u v m hu' hv hm
    subst e
    have:=(ho.addr hg).2
    exact⟨by omega,hdis i _ g hu' hg⟩
   ·subst hu'
    exact⟨(hown2.addr hg).2,hnewg g hg⟩
  rcases hat3 with h3 |h3
  ·rw[h3]at h;exact hug.2 h
  ·rw[h3]at h;injection h with h;simp at h;omega
 ·refine((hK.mono (S':=fun j=>bsS bs j\/B1<=j) (fun _ _ h=>Xq h)).trans (k3.mono (fun j _ h=>?_))).mono (fun j hj h=>?_)
  ·rcases h with h |h
   ·exact Xq ⟨k,_,hbk,h⟩
   grind
  grind
set_option maxRecDepth 100000 in
theorem ZEv (kb : Nat) (A1 : Option Addr) (c1 : Nat) (bs : List Value) (ls : List (List UInt8)) (w : World) (hR : BookR w kb A1 c1 bs) (hL : Zkb kb A1 bs w.heap.size) (hF : BodsF w bs ls (fun _ l => l)) (hap : Zni bs) (hlen : bs.length = ls.length) (hn : bs.length <= 400) (hsz : ∀ l ∈ ls, l.length <= 1099511627776) :
    Calls Tryz.prog 32 #[.pointer (some ⟨kb, 0, none⟩)] w fun e w' => e = .returned (.bool true) /\ Kept (bsS bs) w w' := by
  rw [<- ZJp] at hF
  have HL := Lib.hid hL
  clear hL
  have Hap := Lib.hid hap
  have Hlen := Lib.hid hlen
  clear hap hlen
  go_enter Tryz.func32, Tryz.ntmps32
  go_wp2
  go_loopw [3] (fun i wr => ∃ k : Nat, k <= bs.length /\ i = .int .i64 (k : Int) /\ BookR wr kb A1 c1 bs /\ BodsF wr bs ls (ZcE k 0) /\ Kept (bsS bs) w wr) (fun i _ => bs.length - (intOf i).toNat)
  case atStart => exact ⟨0, by omega, rfl, hR, hF, Kept.refl _ _⟩
  case round =>
    clear hR hF
    obtain ⟨k, hk, rfl, hR, hF, hK⟩ := hrel
    have q0 := hR.1
    by_cases hlt : k < bs.length
    . have hlt2 : k < ls.length := by rw [<- Hlen.out]; exact hlt
      obtain ⟨b, off, rfl, hc1⟩ := hR.2.at' hlt
      obtain ⟨Ak, ck, hv, hok⟩ := hF k bs[k] ls[k] (XA hlt) (XA hlt2)
      have hbk : bs[k]? = some (.slice Ak ls[k].length ck) := by rw [XA hlt, hv]
      have hlk : ls[k]? = some ls[k] := XA hlt2
      have hck := And.intro hok.2.1 hok.2.2.1
      generalize ls[k] = l at *
      have hll : l.length <= 9223372036854775807 := by have := hck.1; have := hck.2; simp only [maxLen] at *; omega
      have Hbk := Lib.hid hbk
      have Hlk := Lib.hid hlk
      clear hbk hlk hv hok hck hc1
      obtain ⟨wo, hwo⟩ : ∃ wo : World, wo = wr := ⟨_, rfl⟩
      subst hwo
      go_wp2
      clear q0
      go_loopw [4] (fun j wr => ∃ m : Nat, m <= l.length /\ j = .int .i64 (m : Int) /\ BookR wr kb (some ⟨b, off, none⟩) c1 bs /\ BodsF wr bs ls (ZcE k m) /\ Kept (bsS bs) w wr) (fun j _ => l.length - (intOf j).toNat)
      case atStart => grind
      case round =>
        clear hR hF hK
        obtain ⟨m, hm, rfl, hR, hF, hK⟩ := hrel
        have q0 := hR.1
        have q1 : wr.cell? ⟨b, off + k, none⟩ = some (.slice Ak l.length ck) := by
          obtain ⟨b', off', e, h⟩ := hR.2.at' hlt
          injection e with e; injection e with e1 e2; subst e1 e2
          rw [h]
          have := Hbk.out
          rw [XA hlt] at this
          exact this
        by_cases hlt3 : m < l.length
        . obtain ⟨Ak', ck', e, hok⟩ := hF k _ l Hbk.out Hlk.out
          injection e with e1 _ e2
          subst e1 e2
          have hc0 : ck ≠ 0 := by have := hok.2.1; omega
          obtain ⟨g, ty0, hAk0, hot⟩ := hok.typed hc0
          subst hAk0
          have hobg : ob (some ⟨g, 0, none⟩) ck = some g := ZiF hc0
          have z1 := hot.cellAt m (by omega)
          have z2 := hot.frozenAt m
          have hfl : (ZcE k m k l).length = l.length := by have := hok.1; rw [ZgR] at this; omega
          rw [show (bVs (ZcE k m k l))[m]? = some (bV ((ZcE k m k l)[m]'(by omega))) by simp [bVs, show m < (ZcE k m k l).length by omega]] at z1
          unfold bV at z1
          generalize ((ZcE k m k l)[m]'(by omega)).toNat = y at z1
          have hst := Lib.hid (hF.store (f' := ZcE k (m + 1)) (Wo k) Hap.out hc0 Hbk.out Hlk.out (fun i n hi => by simp [ZcE, hi]) (ZU4 k m l hlt3))
          clear hok hot hfl
          go_wp2
          go_roundw
          case rel =>
            rw [Zsa]
            refine ⟨m + 1, by omega, by go_num, hR.kept (S := (· = g)) (Kept.setCell (S := (· = g)) (p := ⟨g, m, none⟩) (Kept.refl _ wr) (Xt rfl) _) (fun e => (HL.out.2.2 k _ g Hbk.out hobg).1 e.symm) (fun b' off' e => (HL.out.2.2 k _ g Hbk.out hobg).2.1 b' off' e), hst.out, hK.setCell (p := ⟨g, m, none⟩) (Xt ⟨k, _, Hbk.out, hobg⟩) _⟩
          case measure => simp [intOf]; omega
        . go_wp2
          go_roundw
          case rel =>
            obtain rfl : m = l.length := by omega
            exact ⟨k + 1, by omega, by go_num, hR, ZLZ k ls l Hlk.out hF, hK⟩
          case measure => simp [intOf]; omega
    . obtain rfl : k = bs.length := by omega
      have hfull : BodsF wr bs ls (fun i l => Zcn i l) := by
        intro i v l hv hl
        obtain ⟨A, c, e, ho⟩ := hF i v l hv hl
        have hi : i < bs.length := (Xn.1 hv).1
        simp only [ZcE, if_pos hi] at ho
        exact ⟨A, c, e, ho⟩
      have hrel0 : Zqz kb A1 c1 bs ls wr.heap.size w 0 (.slice none 0 0) wr := by
        refine ⟨none, 0, 0, [], rfl, rfl, rfl, World.ownsRow_nil _ _ _ _, hR, fun i v l hv hl => ?_, fun i v l _ hv hl => hfull i v l hv hl, by simp, by simp, XH _, hK⟩
        obtain ⟨A, c, e, ho⟩ := hfull i v l hv hl
        exact ⟨A, c, e, ho.2.1, ho.2.2.1, ho.row⟩
      have Hrel0 := Lib.hid hrel0
      have hB1 : w.heap.size <= wr.heap.size := hK.size
      have HL1 := Lib.hid (show Zkb kb A1 bs wr.heap.size from ⟨by have := HL.out.1; omega, fun b off e => by have := HL.out.2.1 b off e; omega, fun i v g hv hg => by obtain ⟨h1, h2, h3⟩ := HL.out.2.2 i v g hv hg; exact ⟨h1, h2, by omega⟩⟩)
      clear hrel0 hfull hF hR hK
      obtain ⟨W, hW⟩ : ∃ W : World, W = wr := ⟨_, rfl⟩
      subst hW
      go_wp2
      clear q0
      go_loopw [5, 6] (fun gr i wr => ∃ k : Nat, k <= bs.length /\ i = .int .i64 (k : Int) /\ Zqz kb A1 c1 bs ls W.heap.size w k gr wr) (fun _ i _ => bs.length - (intOf i).toNat)
      case atStart => exact ⟨0, by omega, rfl, Hrel0.out⟩
      case round =>
        clear Hrel0
        obtain ⟨k, hk, rfl, hrel⟩ := hrel
        obtain ⟨Ag, ng, cg, gs, rfl, hng, hgl, hgr, hR, hrd, hown, hgs, hdis, hBr, hK⟩ := hrel
        have q0 := hR.1
        by_cases hlt : k < bs.length
        . have hlt2 : k < ls.length := by rw [<- Hlen.out]; exact hlt
          obtain ⟨b, off, rfl, hc1⟩ := hR.2.at' hlt
          obtain ⟨Ak, ck, hv, hok⟩ := hown k bs[k] ls[k] (XH _) (XA hlt) (XA hlt2)
          have hbk : bs[k]? = some (.slice Ak ls[k].length ck) := by rw [XA hlt, hv]
          have hlk : ls[k]? = some ls[k] := XA hlt2
          rw [hv] at hc1
          generalize ls[k] = l at *
          have Hng := Lib.hid hng
          have Hgl := Lib.hid hgl
          have Hbk := Lib.hid hbk
          have Hlk := Lib.hid hlk
          have Hrd := Lib.hid hrd
          have Hown := Lib.hid hown
          have Hgs := Lib.hid hgs
          have Hdis := Lib.hid hdis
          have hngb : ng <= 400 := by omega
          have hsml : (l.length + 1 + 1) * 1 <= 140737488355328 := by have := hsz l (XL hlk); omega
          have hs0 := hK.size
          have hroom : (ng + 1) * 24 <= 140737488355328 := by omega
          clear hng hgl hbk hlk hrd hown hgs hdis hv
          go_wp2_with (first
            | (at_builtin
               refine Zv2 ZxO rfl (.tmp 58) (.tmp 62) rfl rfl (hok.alloc _) rfl (Row.newAt rfl rfl) (by simp [Value.oneCell']) (by omega) ?_
               intro A' c' w1 hown1 hg1 hat1 hold1
               have hs1 := hg1.size)
            | (at_builtin
               refine Zv2 ZxO rfl (.tmp 65) (.tmp 69) rfl rfl (hown1.alloc _) rfl (Row.newAt rfl rfl) (by simp [Value.oneCell']) (by omega) ?_
               intro A'' c'' w2 hown2 hg2 hat2 hold2
               have hs2 := hg2.size)
            | (at_builtin
               refine ZF1 ZKm rfl (.tmp 64) (.tmp 71) rfl rfl ((ZC0 HL1.out Hbk.out hgr hg1 hat1 hg2).alloc _) rfl (by rfl) (Row.newAt rfl rfl) (by simp [Value.oneCell']) hroom (by simp at hs1 hs2 ⊢; omega) ?_
               intro Ag' cg' w3 hown3 hg3 hat3))
          go_roundw
          case rel =>
            refine ⟨k + 1, by omega, by go_num, ZOu (X1 := _) (X2 := _) (X3 := _) Hap.out HL1.out hB1 Hbk.out Hlk.out Hng.out Hgl.out hgr hR Hrd.out Hown.out Hgs.out Hdis.out hBr hK hok hg1 hat1 hold1 ?_ hg2 hat2 ?_ ?_ hg3 hown3 hat3⟩
            . rw [ZmV]; simp only [bVs, Xu, XC, ZkL]; exact hown1
            . rw [ZmV]; simp only [bVs, Xu, XC, ZkL]; exact hold2
            . rw [ZeW, ZmV]; simp only [bVs, Xu, XC, ZkL]; rw [WW] at hown2; exact hown2
          case measure => simp [intOf]; omega
        . obtain rfl : k = bs.length := by omega
          subst hng
          have hrg := Row.of_own hgr
          have Hgl := Lib.hid hgl
          have Hrd := Lib.hid hrd
          have Hgs := Lib.hid hgs
          have HK := Lib.hid hK
          clear hgl hrd hgs hown hgr hdis hK
          obtain ⟨V, hV⟩ : ∃ V : World, V = wr := ⟨_, rfl⟩
          subst hV
          go_wp2
          go_loop [8] (fun i => ∃ k : Nat, k <= bs.length /\ i = .int .i64 (k : Int)) (fun i => bs.length - (intOf i).toNat)
          case atStart => grind
          case round =>
            obtain ⟨k, hk, rfl⟩ := hrel
            by_cases hlt : k < bs.length
            . have hlt2 : k < ls.length := by rw [<- Hlen.out]; exact hlt
              have hlt3 : k < gs.length := by rw [Hgl.out]; exact hlt
              obtain ⟨b, off, rfl, hc1⟩ := hR.2.at' hlt
              obtain ⟨bg, offg, rfl, hc2⟩ := hrg.at' hlt3
              obtain ⟨Ak, ck, hv, h1, h2, hrk⟩ := Hrd.out k bs[k] ls[k] (XA hlt) (XA hlt2)
              obtain ⟨Au, cu, hu, hou, _⟩ := Hgs.out k gs[k] bs[k] ls[k] (XA hlt3) (XA hlt) (XA hlt2)
              rw [hv] at hc1
              rw [hu] at hc2
              have hru := hou.row
              have hcu := And.intro hou.2.1 hou.2.2.1
              have hll := hsz ls[k] (List.getElem_mem hlt2)
              clear hv hu hou hcu h1 h2
              generalize ls[k] = l at *
              have hk8 : k <= 400 := by omega
              go_wp2
              go_loop [10] (fun j => ∃ m : Nat, m <= l.length /\ j = .int .i64 (m : Int)) (fun j => l.length - (intOf j).toNat)
              case atStart => exact ⟨0, by omega, rfl⟩
              case round =>
                obtain ⟨m, hm, rfl⟩ := hrel
                have hfl : (Zcn k l).length = l.length := by simp [Zcn]
                have hgl' : (ZeW k l).length = l.length + 2 := by simp [ZeW, Zcn]
                by_cases hlt4 : m < l.length
                . obtain ⟨b3, off3, rfl, z1⟩ := hrk.at' (i := m) (by rw [ZgR]; omega)
                  obtain ⟨b4, off4, rfl, z2⟩ := hru.at' (i := m) (by rw [ZgR]; omega)
                  have e1 : (bVs (Zcn k l))[m]'(by rw [ZgR]; omega) = .int .u8 ((k : Int) % 256) := by
                    rw [Zsa]; simp [bVs, Zcn]
                  have e2 : (bVs (ZeW k l))[m]'(by rw [ZgR]; omega) = .int .u8 ((k : Int) % 256) := by
                    rw [Zsa]; simp only [bVs, Xa6, ZeW]; rw [List.getElem_append_left (by omega)]; simp [Zcn]
                  rw [e1] at z1
                  rw [e2] at z2
                  have hne : ((k : Int) % 256 != (k : Int) % 256) = false := by simp
                  have hmi : m < l.length + 2 := by omega
                  clear e1 e2 hfl hgl'
                  go_wp2
                  go_round
                  case rel => exact ⟨m + 1, by omega, by go_num⟩
                  case measure => simp [intOf]; omega
                . obtain rfl : m = l.length := by omega
                  obtain ⟨b4, off4, rfl, z2⟩ := hru.at' (i := l.length) (by rw [ZgR]; omega)
                  obtain ⟨b5, off5, e5, z3⟩ := hru.at' (i := l.length + 1) (by rw [ZgR]; omega)
                  injection e5 with e5; injection e5 with e5 e6; subst e5 e6
                  have e2 : (bVs (ZeW k l))[l.length]'(by rw [ZgR]; omega) = .int .u8 (((k : Int) + 100) % 256) := by
                    simp only [bVs, Xa6, ZeW]; rw [List.getElem_append_right (by omega)]; simp only [hfl, Nat.sub_self, List.getElem_cons_zero]; exact ZkL k 100
                  have e3 : (bVs (ZeW k l))[l.length + 1]'(by rw [ZgR]; omega) = .int .u8 (((k : Int) + 101) % 256) := by
                    simp only [bVs, Xa6, ZeW]; rw [List.getElem_append_right (by omega)]; simp only [hfl, show l.length + 1 - l.length = 1 by omega, List.getElem_cons_succ, List.getElem_cons_zero]; exact ZkL k 101
                  rw [e2] at z2
                  rw [e3] at z3
                  have hne1 : (((k : Int) + 100) % 256 != ((k : Int) + 100) % 256) = false := by simp
                  have hne2 : (((k : Int) + 101) % 256 != ((k : Int) + 101) % 256) = false := by simp
                  have hmi : l.length + 1 < l.length + 2 := by omega
                  clear e2 e3 hfl hgl'
                  go_wp2
                  go_round
                  case rel => exact ⟨k + 1, by omega, by go_num⟩
                  case measure => simp [intOf]; omega
            . go_wp2
              go_ret
              exact ⟨rfl, HK.out⟩
end
section
open Go.RowKit
section
variable {base:Nat->Prop}{w0 w w':World}{I0 I:Imm}{V:Bmap}{G:Za}
theorem Zw7:∀ {l:List UInt8} {vs:List Value},VRs I V (l.map Zh) vs->vs=bVs l
 | [],vs,h=>by simp only[XC,VRs]at h;subst h;rfl
 |b::l,vs,h=>by
  simp only[Xu,VRs,Zh,VR]at h
  obtain⟨v,vs',rfl,rfl,h⟩:=h
  rw[Zw7 (l:=l) h];rfl
theorem Zvt:∀ xs:List AVal,(∀ x∈xs,x.cells=[x])->xs.flatMap AVal.cells=xs
 | [],_=>rfl
 |x::xs,h=>by rw[XB,h x (by simp),Zvt xs (fun y hy=>h y (by simp[hy]))];rfl
theorem ZQc(R:Rel base w0 I0 I V G w){t:Nat}{ys:List AVal}{l:List UInt8}{v:Value}(hs:G[t]?=some (.row 0 1 ys))(hy:Zgb ys=some l)(hv:VR I V (.sl t 0 0 l.length) v) :
  ∃ A c,v=.slice A l.length c/\OwnA w A c l.length (bVs l)/\∀ g,ob A c=some g->ZJ V t (.row 0 1 ys)=some g:=by
 have e:=ZzO hy
 subst e
 obtain⟨bi,e1,e2,e3,e4,e5,e6,e7,e8⟩:=R.blk t _ hs
 rw[Zcl]at hv
 obtain⟨bi',f1,f2,f3,f4⟩:=hv
 rw[e1]at f1
 injection f1 with f1
 subst f1
 have hlen:(bVs l).length=l.length:=by simp[bVs]
 rcases f4 with⟨b,hb,rfl⟩ |⟨hbn,hc0,A,rfl⟩
 ·rcases e8 with⟨e8,_⟩ |⟨b2,us,ty,q1,q2,q3,q4⟩
  ·grind
  rw[hb]at q1;injection q1 with q1;subst q1
  refine⟨_,_,rfl,⟨hlen,f2,by simp only[maxLen];omega,Xt ⟨b,us,ty,rfl,q2,by omega,?_⟩⟩,fun g hg=>?_⟩
  ·rw[Zsf,XaU,XS]at q4
   exact Zw7 q4
  ·obtain⟨_,a,ea,eg⟩:=ZvS hg
   injection ea with ea;subst ea
   simp only at eg
   subst eg
   simp[ZJ,e1,hb]
 ·have h0:l.length=0:=by omega
  refine⟨A,0,by rw[h0],⟨hlen,by omega,by grind,Xq rfl⟩,fun g hg=>?_⟩
  simp[ob]at hg
theorem Rel.release(R:Rel base w0 I0 I V G w){t:Nat}{ys:List AVal}(hs:G[t]?=some (.row 0 1 ys)):Rel base w0 I0 I V (G.set t (.frow 0 1 [])) w:=by
 have hsl:t<G.length:=(Xn.1 hs).1
 obtain⟨bi,e1,e2,e3,e4,e5,_⟩:=R.blk t _ hs
 refine R.upd (Imm.le.refl I) (Bmap.le.refl V) (KB.refl base w) (fun _ _ _=>rfl) R.imm t _ rfl hsl (fun _ _ _=>rfl) (fun t' x b _ hx hb=>⟨rfl,(R.own t' x b hx hb).2,by simp[ZJ]⟩) ⟨bi,e1,e2,e3,e4,by simp,rfl,Xq rfl⟩ (fun b hb=>by simp[ZJ]at hb) (fun g hg=>R.gen t _ g hs hg) (by simp)
theorem Rel.relB:∀ {ts:List Nat} {G:Za},Rel base w0 I0 I V G w->(∀ t∈ts,∃ ys,G[t]?=some (.row 0 1 ys))->ts.Nodup->Rel base w0 I0 I V (relB G ts) w
 | [],_,R,_,_=>R
 |t::ts,G,R,h,hn=>by
  obtain⟨ys,hs⟩:=h t (by simp)
  rw[List.nodup_cons]at hn
  refine Rel.relB (ts:=ts) (R.release hs) (fun u hu=>?_) hn.2
  grind
theorem ZFK{args:List AVal}{G G':Za}{r:AVal}(hp:Zlr args G=some (r,G')) :
  (∃ fn,Tryz.prog.funcs[32]?=some fn/\fn.body.isSome=true/\(fn.name == "runtime.NumGoroutine")=false) /\
  ∀ base w0 I0 I V w (vs:Array Value),KLt base w0->Rel base w0 I0 I V G w->VRs I V args vs.toList ->
   Calls Tryz.prog 32 vs w (fun e w'=>∃ u,Ends r e u/\Zb6 G.length base w0 I0 I V r G' u w'):=by
 refine⟨⟨Tryz.f32,Tryz.func32,by kernel_rfl,by kernel_rfl⟩,fun base w0 I0 I V w vs hb R hv=>?_⟩
 obtain⟨vs⟩:=vs
 unfold Zlr at hp
 split at hp
 case h_2=>cases hp
 split at hp
 case h_2=>cases hp
 rename_i tb nb cs hs0
 unfold Ztz at hp
 split at hp
 case h_2=>cases hp
 rename_i xs hsb
 split at hp
 case h_2=>cases hp
 rename_i rows hrows
 split at hp
 case isFalse=>cases hp
 rename_i hc
 obtain⟨rfl,hn,hnd⟩:=hc
 simp only[Xb,Xe]at hp
 obtain⟨rfl,rfl⟩:=hp
 obtain⟨hrl,hrg⟩:=Zsc hrows
 simp only[VRs,VR]at hv
 obtain⟨v,vs',rfl,⟨kb,kk,kc,hV0,rfl⟩,rfl⟩:=hv
 obtain⟨b0,k0,c0,us,ty,hV1,hh0,hvs⟩:=R.blk 0 _ hs0
 rw[hV0]at hV1
 simp only[Xb,BI.mk.injEq]at hV1
 obtain⟨rfl,rfl,rfl⟩:=hV1
 simp only[VRs]at hvs
 obtain⟨u0,us',hus,hu0,_⟩:=hvs
 obtain⟨bi,e1,e2,e3,e4,e5,e6,b1,us1,ty1,e7,e8,e9,e10⟩:=R.blk tb _ hsb
 rw[Zcl]at hu0
 obtain⟨bi',f1,f2,f3,f4⟩:=hu0
 rw[e1]at f1
 injection f1 with f1
 subst f1
 have hu0':u0=.slice (some ⟨b1,0,none⟩) xs.length bi.cap:=by
  rcases f4 with⟨b,hb',rfl⟩ |⟨hbn,_⟩
  ·rw[e7]at hb';injection hb' with hb';subst hb';rfl
  ·rw[e7]at hbn;cases hbn
 have hcells:xs.flatMap AVal.cells=xs:=by
  have : ∀ x∈xs,x.cells=[x]:=by
   intro x hx
   obtain⟨i,hi⟩:=W5.1 hx
   have hlt:i<rows.length:=by rw[hrl];exact(Xn.1 hi).1
   obtain⟨_,⟨_,_,h1⟩ |⟨_,_,_,h1,_⟩⟩:=hrg i rows[i].1 rows[i].2 (XA hlt)<;>(rw[hi]at h1;injection h1 with h1;subst h1;rfl)
  exact Zvt xs this
 rw[hcells,XaU]at e10
 have hbl:(us1.toList.take xs.length).length=xs.length:=(ZaO e10).symm
 generalize hbs:us1.toList.take xs.length=bs at e10 hbl
 have hlen0:kb<w.heap.size:=(XZ.1 hh0).1
 have hlen1:b1<w.heap.size:=(XZ.1 e8).1
 have how0:ZJ V 0 (.var (.sl tb 0 0 xs.length::cs))=some kb:=by simp[ZJ,hV0]
 have how1:ZJ V tb (.rrow 0 1 xs)=some b1:=by simp[ZJ,e1,e7]
 have hus':us.toList=.slice (some ⟨b1,0,none⟩) bs.length bi.cap::us':=by rw[hus,hu0',hbl]
 have hget:∀ (i:Nat) (v:Value) (l:List UInt8),bs[i]?=some v->(rows.map (·.2))[i]?=some l->∃ A c,v=.slice A l.length c/\OwnA w A c l.length (bVs l)/\∀ g,ob A c=some g->∃ t ys,rows[i]?=some (some t,l)/\G[t]?=some (.row 0 1 ys)/\ZJ V t (.row 0 1 ys)=some g:=by
  intro i v l hv hl
  rw[List.getElem?_map,Option.map_eq_some_iff]at hl
  obtain⟨⟨o,l'⟩,hr,rfl⟩:=hl
  obtain⟨h2,⟨rfl,h0,h1⟩ |⟨t,ys,rfl,h1,h3,h4⟩⟩:=hrg i o l' hr
  ·obtain⟨v',hv',hvr⟩:=Zcm e10 h1
   rw[hv]at hv';injection hv' with hv';subst hv'
   subst h0
   simp only[VR]at hvr
   obtain⟨A,cap,rfl,_,_,hc,_⟩:=hvr
   obtain rfl:cap=0:=by grind
   exact⟨A,0,rfl,⟨rfl,by simp,by grind,Xq rfl⟩,fun g hg=>by simp[ob]at hg⟩
  ·obtain⟨v',hv',hvr⟩:=Zcm e10 h1
   rw[hv]at hv';injection hv' with hv';subst hv'
   obtain⟨A,c,e,ho,hob⟩:=ZQc R h3 h4 hvr
   grind
 have hrowl:(rows.map (·.2)).length=bs.length:=by rw[XS,hrl,hbl]
 have hcap:∀ (i:Nat) (v:Value) (g:Nat),bs[i]?=some v->ZdN v=some g->∃ t l ys,rows[i]?=some (some t,l)/\G[t]?=some (.row 0 1 ys)/\ZJ V t (.row 0 1 ys)=some g:=by
  intro i v g hv hg
  have hi:i<(rows.map (·.2)).length:=by rw[hrowl];exact(Xn.1 hv).1
  obtain⟨A,c,rfl,h4,h5⟩:=hget i v _ hv (XA hi)
  obtain⟨t,ys,h1,h2,h3⟩:=h5 g hg
  exact⟨t,_,ys,h1,h2,h3⟩
 have hR:BookR w kb (some ⟨b1,0,none⟩) bi.cap bs:=by
  refine⟨?_,Xt ⟨b1,0,rfl,fun i u hu=>?_⟩⟩
  ·rw[cell_of_row w kb 0 us ty (0,0) hh0,<-XaK,hus'];rfl
  ·rw[cell_of_row w b1 (0+i) us1 ty1 (0,0) e8,<-XaK,XF]
   rw[<-hbs,List.getElem?_take]at hu
   split at hu
   ·exact hu
   ·cases hu
 have hL:Zkb kb (some ⟨b1,0,none⟩) bs w.heap.size:=by
  refine⟨hlen0,fun b off e=>by grind,fun i v g hv hg=>?_⟩
  obtain⟨t,l,ys,h1,h2,h3⟩:=hcap i v g hv hg
  refine⟨?_,fun b off e=>?_,(R.blk t _ h2).owns_lt h3⟩
  ·rintro rfl
   have:=R.apart t _ 0 _ g h2 hs0 h3 how0
   subst this
   rw[hs0]at h2;cases h2
  ·injection e with e;injection e with e;subst e
   rintro rfl
   have:=R.apart t _ tb _ _ h2 hsb h3 how1
   subst this
   rw[hsb]at h2;cases h2
 have hF:BodsF w bs (rows.map (·.2)) (fun _ l=>l):=by
  intro i v l hv hl
  obtain⟨A,c,h3,h4,h5⟩:=hget i v l hv hl
  exact⟨A,c,h3,h4⟩
 have hap:Zni bs:=by
  intro i j u v g hij hu hv hg hg'
  obtain⟨t,l,ys,h1,h2,h3⟩:=hcap i u g hu hg
  obtain⟨t',l',ys',h1',h2',h3'⟩:=hcap j v g hv hg'
  have e:=R.apart t _ t' _ g h2 h2' h3 h3'
  subst e
  have hi:=(Xn.1 h1)
  have hj:=(Xn.1 h1')
  obtain⟨hi,hi'⟩:=hi
  obtain⟨hj,hj'⟩:=hj
  have:=(List.pairwise_iff_getElem.1 (List.pairwise_filterMap.1 hnd)) i j hi hj hij
  rw[hi',hj']at this
  exact this t rfl t rfl rfl
 have hsz:∀ l∈rows.map (·.2),l.length<=1099511627776:=by
  intro l hl
  obtain⟨⟨t,l'⟩,hm,rfl⟩:=List.mem_map.1 hl
  obtain⟨i,hi⟩:=W5.1 hm
  exact(hrg i t l' hi).1
 refine(ZEv kb _ bi.cap bs (rows.map (·.2)) w hR hL hF hap hrowl.symm (by grind) hsz).mono ?_
 rintro e w' ⟨rfl,hk⟩
 refine⟨.bool true,rfl,I,V,Imm.le.refl I,KeptE.refl _ V,?_,by simp[ZaX,VR]⟩
 have hts:∀ t∈rows.filterMap (·.1),∃ ys,G[t]?=some (.row 0 1 ys):=by
  intro t ht
  obtain⟨⟨t',l'⟩,hm,he⟩:=List.mem_filterMap.1 ht
  simp only at he
  subst he
  obtain⟨i,hi⟩:=W5.1 hm
  obtain⟨_,⟨h0,_⟩ |⟨_,ys,h0,_,h3,_⟩⟩:=hrg i _ l' hi
  ·cases h0
  ·grind
 have hno:∀ k,bsS bs k->∃ t ys,t∈rows.filterMap (·.1)/\G[t]?=some (.row 0 1 ys)/\ZJ V t (.row 0 1 ys)=some k:=by
  rintro k ⟨i,v,hv,hg⟩
  obtain⟨t,l,ys,h1,h2,h3⟩:=hcap i v k hv hg
  exact⟨t,ys,List.mem_filterMap.2 ⟨(some t,l),XL h1,rfl⟩,h2,h3⟩
 have hblk:=R.base_le hb
 refine(R.relB hts hnd).stay (Imm.le.refl I) ⟨hk.os,hk.tape,hk.output,hk.size,fun k hk'=>hk.block k (hblk k hk') ?_⟩ (fun _ _ _=>rfl) (fun b o u hi=>?_) (fun t x b hx hb'=>?_)
 ·intro hS
  obtain⟨t,ys,_,h2,h3⟩:=hno k hS
  exact(R.own t _ k h2 h3).1 hk'
 ·refine hk.cell (R.imm b o u hi) (fun hS=>?_)
  obtain⟨t,ys,_,h2,h3⟩:=hno b hS
  have:=(R.own t _ b h2 h3).2 o
  rw[this]at hi;cases hi
 ·rcases Zx7 hx with⟨_,rfl⟩ |⟨hnt,hx'⟩
  ·cases hb'
  ·refine⟨hk.block b ((R.blk t x hx').owns_lt hb') (fun hS=>?_),(R.own t x b hx' hb').2⟩
   obtain⟨t',ys,h1,h2,h3⟩:=hno b hS
   have:=R.apart t _ t' _ b hx' h2 hb' h3
   subst this
   exact hnt h1
end
end
section
open Go.Shelf
def ZRa:Ren:=⟨fun |196=>138 |259=>146 |n=>n,fun |9=>9 |4=>4 |3=>3 |5=>5 |12=>12 |119=>183 |0=>0 |46=>68 |139=>186 |138=>185 |53=>122 |n=>n,fun |3=>1 |4=>2 |n=>n⟩
theorem ZuN:Go.Proofs.Lays.n196 Tryz.prog ZRa:={ mixed:=by kernel_rfl,f196:=Tryz.func138.trans (congrArg some (by kernel_rfl)),f259:=Tryz.func146.trans (congrArg some (by kernel_rfl)),t0:=Tryz.underlying0,a0:=Tryz.isAgg0,z0:=Tryz.sizeOf0,v0:=Tryz.zeroValue0,t3:=Tryz.underlying3,a3:=Tryz.isAgg3,z3:=Tryz.sizeOf3,v3:=Tryz.zeroValue3,t4:=Tryz.underlying4,a4:=Tryz.isAgg4,z4:=Tryz.sizeOf4,v4:=Tryz.zeroValue4,t5:=Tryz.underlying5,a5:=Tryz.isAgg5,z5:=Tryz.sizeOf5,v5:=Tryz.zeroValue5,t9:=Tryz.underlying9,a9:=Tryz.isAgg9,z9:=Tryz.sizeOf9,v9:=Tryz.zeroValue9,t12:=Tryz.underlying12,a12:=Tryz.isAgg12,z12:=Tryz.sizeOf12,v12:=Tryz.zeroValue12,t46:=Tryz.underlying68,a46:=Tryz.isAgg68,z46:=Tryz.sizeOf68,v46:=Tryz.zeroValue68,t53:=Tryz.underlying122,a53:=Tryz.isAgg122,z53:=Tryz.sizeOf122,v53:=Tryz.zeroValue122,t119:=Tryz.underlying183,a119:=Tryz.isAgg183,z119:=Tryz.sizeOf183,t138:=Tryz.underlying185,a138:=Tryz.isAgg185,z138:=Tryz.sizeOf185,v138:=Tryz.zeroValue185,t139:=Tryz.underlying186,a139:=Tryz.isAgg186,z139:=Tryz.sizeOf186,v139:=Tryz.zeroValue186,g3:=by kernel_rfl,g4:=by kernel_rfl }
end
section
set_option maxRecDepth 100000
theorem Zme:Tryz.prog.follows .mixedOrders=true:=by kernel_rfl
theorem ZBp:ZAC Tryz.prog 22 1 1 (.int .u8 0) 97:=⟨_,_,_,_,_,_,_,_,_,_,_,rfl,rfl,rfl,by kernel_rfl,rfl,rfl,rfl,rfl,rfl,rfl,rfl,rfl,by kernel_rfl,by kernel_rfl,⟨_,_,_,_,rfl⟩,rfl,by decide⟩
theorem Zw2{D:Type}{d v:D}:∀ {l:List (Nat×D)} {n:Nat},ZfZ d l n=v->v=d\/(n,v)∈l
 | [],n,h=>Xq h.symm
 |(k,w)::r,n,h=>by
  simp only[ZfZ]at h
  split at h
  ·grind
  ·rcases Zw2 h with h |h
   ·grind
   grind
theorem ZuW:ZmJ Tryz.prog PR:=by
 intro f g h args G r G' hg
 rcases Zw2 h with h |h
 ·cases h
 unfold Zw5 at h
 simp only[X0,Xe,Xb,List.not_mem_nil,or_false]at h
 rcases h with⟨rfl,rfl⟩ |h
 ·exact ZRR Zme ZBp hg
 rcases h with⟨rfl,rfl⟩ |h
 ·exact ZG8 ⟨Tryz.f138,Tryz.func138,by kernel_rfl,by kernel_rfl⟩ (fun s w hs hT=>Any.utf8_ValidString ZuN s w hs hT) hg
 rcases h with⟨rfl,rfl⟩ |h
 ·exact ZAr hg
 rcases h with⟨rfl,rfl⟩ |h
 ·exact ZAr hg
 rcases h with⟨rfl,rfl⟩ |h
 ·exact ZFK hg
 grind
end
section
def ZlR:Nat:=70368744177664
def Zlv(args:List AVal)(G:Za):Option (AVal×Za):=match args,G with
 | [.ref 0 0,.lst _ ys],[.var [.lst true [],.int .i64 0,.int .i8 _]] =>
  if ys.length<=ZlR/\kOk 1 ys=true then some (.tup [.int .i64 ys.length,.nili],[.var [.sl 1 0 0 ys.length,.int .i64 0,.int .i8 0],.row 0 1 ys])else none
 | [.ref 0 0,.lst _ ys],[.var [.sl 1 g 0 m,.int .i64 0,.int .i8 _],.row g' 1 xs] =>
  if g=g'/\m=xs.length/\xs.length+ys.length<=ZlR/\kOk 1 ys=true then some (.tup [.int .i64 ys.length,.nili],[.var [.sl 1 (g+1) 0 (xs++ys).length,.int .i64 0,.int .i8 0],.row (g+1) 1 (xs++ys)])else none
 |_,_=>none
end
section
set_option maxRecDepth 100000
def c1R:Zf :=  (.region [⟨(some 1),(.box (.t 0)),none,[]⟩,⟨(some 2),(.alloc [(.int .i64 0),(.bool false),(.int .i64 0),(.bool false),(.int .i64 0),(.str []),(.lst true []),(.int .i64 0),(.lst true []),(.lst true []),(.lst true []),(.lst true []),(.bool false),(.int .i64 0),(.str []),(.bool false),(.str []),(.lst true []),(.int .i64 0),(.bool false),(.lst true []),(.bool false),(.str []),(.bool false),(.lst true []),(.bool false)]),none,[]⟩,⟨(some 3),(.alloc [(.int .i64 0)]),none,[]⟩] none [3,2,1])
def c2R:Zf:=(.seq (.region [⟨(some 6),(.faddr 1 (.t 1)),none,[]⟩,⟨(some 7),(.ld none (.t 6)),none,[]⟩,⟨(some 8),(.build [(.int .i64 0),(.bool false),(.int .i64 0),(.bool false),(.int .i64 0),(.str []),(.lst true []),(.int .i64 0),(.lst true []),(.lst true []),(.lst true []),(.lst true []),(.bool false),(.int .i64 0),(.str []),(.bool false),(.str []),(.lst true []),(.int .i64 0),(.bool false),(.lst true []),(.bool false),(.str []),(.bool false),(.lst true []),(.bool false),(.lst true [])] [(26,1,(.t 7))]),none,[]⟩,⟨(some 9),(.box (.t 8)),none,[]⟩,⟨(some 4),(.mov (.t 9)),none,[]⟩] none [4,3,2,1]) (.seq (.region [⟨(some 10),(.mov (.t 4)),none,[]⟩,⟨(some 11),(.faddr 0 (.t 1)),none,[]⟩,⟨(some 12),(.ld none (.t 11)),none,[]⟩,⟨(some 13),(.call 25 0 true [(.t 10),(.t 12)]),none,[]⟩] none [4,3,2]) (.seq (.region [⟨(some 14),(.mov (.t 4)),none,[]⟩,⟨(some 15),(.call 26 2 true [(.t 14)]),none,[]⟩] none [4,3,2]) (.seq (.region [⟨(some 16),(.mov (.t 4)),none,[]⟩,⟨(some 17),(.nilchk (.t 16)),none,[]⟩,⟨(some 18),(.faddr 0 (.t 17)),none,[]⟩,⟨(some 19),(.ld (some 26) (.t 18)),none,[]⟩,⟨none,(.st 26 (.t 2) (.t 19)),none,[]⟩,⟨none,(.st 1 (.t 3) (.c (.int .i64 0))),none,[]⟩] none [3,2]) .ret))))
def c3R:Zf:=(.seq (.region [⟨(some 3),(.mov (.t 10)),none,[]⟩] none [3,1,0]) (.region [⟨(some 11),(.build [(.int .i64 0),(.bool false),(.int .i64 0),(.bool false),(.int .i64 0),(.str []),(.lst true []),(.int .i64 0),(.lst true []),(.lst true []),(.lst true []),(.lst true []),(.bool false),(.int .i64 0),(.str []),(.bool false),(.str []),(.lst true []),(.int .i64 0),(.bool false),(.lst true []),(.bool false),(.str []),(.bool false),(.lst true []),(.bool false)] []),none,[]⟩,⟨(some 12),(.mov (.t 3)),none,[]⟩,⟨none,(.st 26 (.t 0) (.t 11)),none,[]⟩,⟨none,(.st 1 (.t 1) (.t 12)),none,[]⟩] none []))
def rsR:List Zdw:=[(.cell 2 (some 26)),(.cell 3 none)]
def ZFf:Ann:={ nt:=20,lr:=fun _=>[3,2,1] }
def ZNa:Ann:={ ann 7 with nt:=20,keep:=[2,3],cfg:=fun f=>if f=26 then(2,true)else(0,true) }
def ZD5:Ann:={ ann 24 with nt:=13 }
theorem ZRM:ZnE Tryz.prog 7 24 20 27 ZFf ZNa ZD5 c1R c2R c3R rsR :=
 ⟨_,_,_,_,_,_,_,_,_,_,_,_,_,_,_,_,_,_,_,_,_,_,_,_,_,_,_,_,_,_,_,_,_,_,_,_,_,_,#[],.i64,rfl,by kernel_rfl,rfl,by kernel_rfl,rfl,by kernel_rfl,by kernel_rfl,rfl,rfl,rfl,rfl,by kernel_rfl,rfl,rfl,rfl,by kernel_rfl,rfl,by kernel_rfl,by kernel_rfl⟩
noncomputable def Zdg:List AVal->Za->Option (AVal×Za):=ZhI FC PR BY 27 c1R c2R c3R rsR
noncomputable def PR1:ZcR:=fun f=>if f=7 then some Zdg else if f=81 then some Zlv else PR f
noncomputable abbrev E1:ZS:=EV FC PR1 BY
theorem ZUk:OLe E E1:=by
 refine ZHj (fun f hf=>?_) (fun f g hg=>?_)
 ·unfold PR1
  rw[if_neg (by rintro rfl;revert hf;decide),if_neg (by rintro rfl;revert hf;decide)]
  exact hf
 ·by_cases h1:f=7
  ·subst h1
   have : PR 7=some Zle:=by rfl
   rw[this]at hg;injection hg with hg;subst hg
   exact Xt fun _ _=>rfl
  by_cases h2:f=81
  ·subst h2
   have : PR 81=some Zle:=by rfl
   rw[this]at hg;injection hg with hg;subst hg
   exact Xt fun _ _=>rfl
  refine Xq ?_
  unfold PR1
  grind
theorem ZG0{f:Nat}{fn:ZM}(hp:PR1 f=none)(hf:FC f=some fn)(args:List AVal)(G:Za):E1 f args G=Zax G.length fn (evC FC PR1 BY G.length fn.body (enterA 0 args []) G):=ZyL hp hf args G
theorem Zlu(args:List AVal)(G:Za):E1 7 args G=Zdg args G:=ZHy (by rfl) args G
theorem ZPi{args:List AVal}{G G':Za}{r:AVal}(hg:Zdg args G=some (r,G')) :
  (∃ fn,Tryz.prog.funcs[7]?=some fn/\fn.body.isSome=true/\(fn.name == "runtime.NumGoroutine")=false) /\
  ∀ base w0 I0 I V w (vs:Array Value),KLt base w0->Rel base w0 I0 I V G w->VRs I V args vs.toList ->
   Calls Tryz.prog 7 vs w (fun e w'=>∃ u,Ends r e u/\Zb6 G.length base w0 I0 I V r G' u w') :=
 ZQR Zme (fun n=>by
  have h:Zau FC PR BY n=Zau CF PR BY n:=Zte CF PR BY n
  rw[h]
  exact ZpM Zme ZuW ann BY n) ZRM hg
end
section
def P0:List AVal:=[.int .i64 0,.bool false,.int .i64 0,.bool false,.int .i64 0,.str [],.lst true [],.int .i64 0,.lst true [],.lst true [],.lst true [],.lst true [],.bool false,.int .i64 0,.str [],.bool false,.str [],.lst true [],.int .i64 0,.bool false,.lst true [],.bool false,.str [],.bool false,.lst true [],.bool false]
def tmR:Tms:=[(3,.ref 2 0),(2,.ref 1 0),(1,.ref 0 0)]
def GR(b:Int)(l:Zd):Za:=[.var [.int .u8 b,.lnt l],.var P0,.var [.int .i64 0]]
theorem Zmp(b:Int)(l:Zd):evC FC PR BY 0 c1R (enterA 0 [.agg [.int .u8 b,.lnt l]] []) []=some (.normal,tmR,GR b l):=by
 unfold tmR GR P0
 simp -implicitDefEqProofs only[EQA,Zc,Xd,Xc,Xa,Xg,↓reduceIte,c1R,AVal.cells]
theorem ZC7(b:Int)(l:Zd){P1 Q:List AVal}{L:AVal}(h1:P1.length=26)(n1:Ze P1=true)(hQ:Q.length=26)(nQ:Ze Q=true)(oQ:Q.all ZY=true)(nL:ZQ L=true)
  (hf:E 25 [.ref 0 0,.int .u8 b] (Zr P0 l)=some (.tup [],Zr P1 l)) (hb:E 26 [.ref 0 0] (Zr P1 l)=some (.tup [],[.var (Q++[L])])) :
  evC FC PR BY 3 c2R (tput tmR (some 5) .top) (GR b l)=some (.ret,[(3,.ref 2 0),(2,.ref 1 0)],[.var [.int .u8 b,.lnt l],.var Q,.var [.int .i64 0],.var (Q++[L]),.free,.free]):=by
 have hF:=fun(G:Za) sq (hs:G[3]?=some (.var (P0++[.lnt l])))=>Zce (O:=E) (bf:=BY) (f:=25) (rest:=[.int .u8 b]) (by kernel_rfl) rfl (by rfl) (ZaT n1 (by rfl)) rfl rfl hf hs sq
 have hB:=fun(G:Za) sq (hff:Zaj G sq 2=true) (hs:G[3]?=some (.var (P1++[.lnt l])))=>ZxZ (own:=2) (O:=E) (bf:=BY) (f:=26) (rest:=[]) (by kernel_rfl) rfl (ZaT n1 (by rfl)) (ZaT nQ (by simp[Ze,nL])) rfl rfl hb hs sq hff
 have b1:=Zag Q hQ
 have b2:=ZeL Q hQ
 unfold P0 at hF
 simp only[XJ,Xp]at hF
 unfold tmR GR P0
 simp -implicitDefEqProofs only[EQA,Zs,Zc,Xd,Xc,Xf,Xa,Xg,↓reduceIte,c2R,AVal.cells,Zao,hF,hB,b1,b2,hQ,oQ,Zaj]
theorem Zoh(b:Int)(l:Zd){cs:List AVal}{c:Int}(n1:Ze cs=true)
  (hf:E 25 [.ref 0 0,.int .u8 b] (Zr P0 l)=some (.pan (ZG c),[.var cs])) :
  evC FC PR BY 3 c2R (tput tmR (some 5) .top) (GR b l)=some (.panic (ZG c),[],[.var [.int .u8 b,.lnt l],.var P0,.var [.int .i64 0],.var cs]):=by
 have hF:=fun(G:Za) sq (hs:G[3]?=some (.var (P0++[.lnt l])))=>Zes (O:=E) (bf:=BY) (f:=25) (view:=true) (rest:=[.int .u8 b]) (by kernel_rfl) rfl (by rfl) n1 rfl hf hs sq
 unfold P0 at hF
 simp only[XJ,Xp]at hF
 unfold tmR GR P0
 simp -implicitDefEqProofs only[EQA,Zc,Xd,Xc,Xf,Xa,Xg,↓reduceIte,c2R,AVal.cells,Zao,hF]
theorem ZxM(b:Int)(l:Zd){P1 cs:List AVal}{c:Int}(h1:P1.length=26)(n1:Ze P1=true)(n2:Ze cs=true)
  (hf:E 25 [.ref 0 0,.int .u8 b] (Zr P0 l)=some (.tup [],Zr P1 l)) (hb:E 26 [.ref 0 0] (Zr P1 l)=some (.pan (ZG c),[.var cs])) :
  evC FC PR BY 3 c2R (tput tmR (some 5) .top) (GR b l)=some (.panic (ZG c),[],[.var [.int .u8 b,.lnt l],.var P0,.var [.int .i64 0],.var cs,.free,.free]):=by
 have hF:=fun(G:Za) sq (hs:G[3]?=some (.var (P0++[.lnt l])))=>Zce (O:=E) (bf:=BY) (f:=25) (rest:=[.int .u8 b]) (by kernel_rfl) rfl (by rfl) (ZaT n1 (by rfl)) rfl rfl hf hs sq
 have hB:=fun(G:Za) sq (hff:Zaj G sq 2=true) (hs:G[3]?=some (.var (P1++[.lnt l])))=>ZoF (own:=2) (O:=E) (bf:=BY) (f:=26) (view:=true) (rest:=[]) (by kernel_rfl) rfl (ZaT n1 (by rfl)) n2 rfl hb hs sq hff
 unfold P0 at hF
 simp only[XJ,Xp]at hF
 unfold tmR GR P0
 simp -implicitDefEqProofs only[EQA,Zc,Xd,Xc,Xf,Xa,Xg,↓reduceIte,c2R,AVal.cells,Zao,hF,hB,Zaj]
theorem ZJi(b c:Int)(l:Zd)(B:Za):evC FC PR BY 3 c3R [(10,.int .i64 c),(1,.ref 2 0),(0,.ref 1 0)] (.var [.int .u8 b,.lnt l]::.var P0::.var [.int .i64 0]::B)=some (.normal,[],.var [.int .u8 b,.lnt l]::.var P0::.var [.int .i64 c]::B):=by
 unfold P0
 simp -implicitDefEqProofs only[EQA,Zc,Xd,Xc,Xf,Xa,reduceCtorEq,↓reduceIte,c3R,AVal.cells,Zao,ZY]
theorem ZzL(b c:Int)(l:Zd){Q:List AVal}(B:Za)(hQ:Q.length=26)(nQ:Ze Q=true):Ze2 0 1 2 rsR (.var [.int .u8 b,.lnt l]::.var Q::.var [.int .i64 c]::B)=some (.tup [.agg Q,.int .i64 c],[]):=by
 have h1:resA [(3,.ref 2 0),(2,.ref 1 0)] (.var [.int .u8 b,.lnt l]::.var Q::.var [.int .i64 c]::B) rsR=some (.tup [.agg Q,.int .i64 c]):=by
  have h2:Q.take 26=Q:=XG (by omega)
  simp[resA,resAll,resOne,rsR,tget,ldA,partA,hQ,h2]
 unfold Ze2
 rw[h1]
 generalize (.var [.int .u8 b,.lnt l]::.var Q::.var [.int .i64 c]::B:Za)=G
 have e1:=Z5 (Zn G 0 []) Q nQ
 have hr:Zl [AVal.tup [.agg Q,.int .i64 c]]=[]:=by simp[Zl,ZH,e1.2]
 have hi:Zw 0 [AVal.tup [.agg Q,.int .i64 c]] G=[]:=by
  simp only[Zw,hr,Xp,W3,XQ]
  rfl
 simp[ZR,gcA,hi,Zj,Zp,e1.1,Zo]
theorem ZNx(b:Int)(l:Zd){P1 Q:List AVal}{L:AVal}(h1:P1.length=26)(n1:Ze P1=true)(hQ:Q.length=26)(nQ:Ze Q=true)(oQ:Q.all ZY=true)(nL:ZQ L=true)
  (hf:E 25 [.ref 0 0,.int .u8 b] (Zr P0 l)=some (.tup [],Zr P1 l)) (hb:E 26 [.ref 0 0] (Zr P1 l)=some (.tup [],[.var (Q++[L])])) :
  Zdg [.agg [.int .u8 b,.lnt l]] []=some (.tup [.agg Q,.int .i64 0],[]):=by
 unfold Zdg ZhI
 show(match evC FC PR BY 0 c1R (enterA 0 [.agg [.int .u8 b,.lnt l]] []) []with |some (.normal,tm1,G1)=>_ |_=>none)=_
 rw[Zmp]
 show(if(0:Nat)<=(GR b l).length/\1<(GR b l).length/\2<(GR b l).length then ZeG FC PR BY 27 c2R c3R rsR 0 (tput tmR (some 5) .top) (GR b l) 1 2 else none)=_
 rw[if_pos (by simp[GR])]
 unfold ZeG
 rw[show(GR b l).length=3 from rfl,ZC7 b l h1 n1 hQ nQ oQ nL hf hb]
 exact ZzL b 0 l _ hQ nQ
theorem Zhf(b c:Int)(l:Zd){B:Za}(h:evC FC PR BY 3 c2R (tput tmR (some 5) .top) (GR b l)=some (.panic (ZG c),[],.var [.int .u8 b,.lnt l]::.var P0::.var [.int .i64 0]::B)) :
  Zdg [.agg [.int .u8 b,.lnt l]] []=some (.tup [.agg P0,.int .i64 c],[]):=by
 unfold Zdg ZhI
 show(match evC FC PR BY 0 c1R (enterA 0 [.agg [.int .u8 b,.lnt l]] []) []with |some (.normal,tm1,G1)=>_ |_=>none)=_
 rw[Zmp]
 show(if(0:Nat)<=(GR b l).length/\1<(GR b l).length/\2<(GR b l).length then ZeG FC PR BY 27 c2R c3R rsR 0 (tput tmR (some 5) .top) (GR b l) 1 2 else none)=_
 rw[if_pos (by simp[GR])]
 unfold ZeG
 rw[show(GR b l).length=3 from rfl,h]
 show(if(27:Nat)=27 then(match evC FC PR BY 3 c3R [(10,.int .i64 c),(1,.ref 2 0),(0,.ref 1 0)] _ with |some (.normal,_,G3)=>Ze2 0 1 2 rsR G3 |_=>none)else none)=_
 rw[if_pos rfl,ZJi]
 exact ZzL b c l _ rfl (by rfl)
section
variable (b:Int)(l:Zd){P1 Q:List AVal}{kk n w:Nat}{ys:List AVal}{L:AVal}(h1:P1.length=26)(n1:Ze P1=true)(hQ:Q.length=26)(nQ:Ze Q=true)(hk:kk<26)(nL:ZQ L=true)
include h1 n1 hQ nQ hk nL
theorem ZTZ(oQ:∀ r g m,(Zi Q kk r g m).all ZY=true)
  (hf:E 25 [.ref 0 0,.int .u8 b] (Zr P0 l)=some (.tup [],Zr P1 l)) (hb:E 26 [.ref 0 0] (Zr P1 l)=some (.tup [],[.var (Zi Q kk 1 0 n++[L]),.row 0 w ys])) :
  evC FC PR BY 3 c2R (tput tmR (some 5) .top) (GR b l)=some (.ret,[(3,.ref 2 0),(2,.ref 1 0)],[.var [.int .u8 b,.lnt l],.var (Zi Q kk 4 0 n),.var [.int .i64 0],.var (Zi Q kk 4 0 n++[L]),.row 0 w ys,.free]):=by
 have hF:=fun(G:Za) sq (hs:G[3]?=some (.var (P0++[.lnt l])))=>Zce (O:=E) (bf:=BY) (f:=25) (rest:=[.int .u8 b]) (by kernel_rfl) rfl (by rfl) (ZaT n1 (by rfl)) rfl rfl hf hs sq
 have hRf:=Zey hQ nQ (k:=kk) (b:=1) (n:=n) hk (L:=L) nL
 have hRn:=fun(C:Rho) b c (h:C b 0=some (c,0))=>ZgX hQ nQ (k:=kk) (n:=n) (L:=L) nL C h
 have hB:=fun(G:Za) (hs:G[3]?=some (.var (P1++[.lnt l]))) hff=>ZmM (O:=E) (bf:=BY) (f:=26) (own:=2) (sq:=4) (rest:=[]) (by kernel_rfl) rfl (ZaT n1 (by rfl)) hRf (fun C h=>hRn C 1 1 h) (fun C h=>hRn C 1 4 h) hb hs (by omega) hff
 have hR:=Zbp Q hQ nQ kk hk n 4 0
 have o2:=oQ 4 0 n
 unfold P0 at hF
 simp only[XJ,Xp]at hF
 unfold tmR GR P0
 clear hf hb
 unfold Zi at *
 generalize Q.set kk (.sl 4 0 0 n)=R at *
 have b1:=Zag _ hR
 have b2:=ZeL _ hR
 simp -implicitDefEqProofs only[EQA,Zs,Zc,Xd,Xc,Xf,Xa,Xg,↓reduceIte,c2R,AVal.cells,Zao,hF,hB,b1,b2,hR,o2,Zaj]
theorem ZIc{c:Int}(hf:E 25 [.ref 0 0,.int .u8 b] (Zr P0 l)=some (.tup [],Zr P1 l))(hb:E 26 [.ref 0 0] (Zr P1 l)=some (.pan (ZG c),[.var (Zi Q kk 1 0 n++[L]),.row 0 w ys])) :
  evC FC PR BY 3 c2R (tput tmR (some 5) .top) (GR b l)=some (.panic (ZG c),[],[.var [.int .u8 b,.lnt l],.var P0,.var [.int .i64 0],.var (Zi Q kk 4 0 n++[L]),.row 0 w ys,.free]):=by
 have hF:=fun(G:Za) sq (hs:G[3]?=some (.var (P0++[.lnt l])))=>Zce (O:=E) (bf:=BY) (f:=25) (rest:=[.int .u8 b]) (by kernel_rfl) rfl (by rfl) (ZaT n1 (by rfl)) rfl rfl hf hs sq
 have hRn:=fun(C:Rho) b c (h:C b 0=some (c,0))=>ZgX hQ nQ (k:=kk) (n:=n) (L:=L) nL C h
 have hB:=fun(G:Za) (hs:G[3]?=some (.var (P1++[.lnt l]))) hff=>ZAc (O:=E) (bf:=BY) (f:=26) (own:=2) (sq:=4) (view:=true) (rest:=[]) (by kernel_rfl) rfl (ZaT n1 (by rfl)) (fun C h=>hRn C 1 4 h) rfl hb hs (by omega) hff
 unfold P0 at hF
 simp only[XJ,Xp]at hF
 unfold tmR GR P0
 clear hf hb
 unfold Zi at *
 generalize Q.set kk (.sl 4 0 0 n)=R at *
 simp -implicitDefEqProofs only[EQA,Zc,Xd,Xc,Xf,Xa,Xg,↓reduceIte,c2R,AVal.cells,Zao,hF,hB,Zaj]
omit h1 n1
theorem ZOU(c:Int)(B:Za):Ze2 0 1 2 rsR (.var [.int .u8 b,.lnt l]::.var (Zi Q kk 4 0 n)::.var [.int .i64 c]::.var (Zi Q kk 4 0 n++[L])::.row 0 w ys::B)=some (.tup [.agg (Zi Q kk 0 0 n),.int .i64 c],[.row 0 w ys]):=by
 have hR:=Zbp Q hQ nQ kk hk n 4 0
 have hRf:=Za0 Q hQ nQ kk hk n 4 0
 have hre:=fun C h=>ZaC Q hQ nQ kk hk n (r:=4) (g:=0) (r':=0) (g':=0) C h
 generalize Zi Q kk 4 0 n=R at *
 have h1:resA [(3,.ref 2 0),(2,.ref 1 0)] (.var [.int .u8 b,.lnt l]::.var R::.var [.int .i64 c]::.var (R++[L])::.row 0 w ys::B) rsR=some (.tup [.agg R,.int .i64 c]):=by
  have h2:R.take 26=R:=XG (by omega)
  simp[resA,resAll,resOne,rsR,tget,ldA,partA,hR,h2]
 unfold Ze2
 rw[h1]
 have hr:Zl [AVal.tup [.agg R,.int .i64 c]]=[4]:=by simp[Zl,ZH,hRf]
 have hi:Zw 0 [AVal.tup [.agg R,.int .i64 c]] (.var [.int .u8 b,.lnt l]::.var R::.var [.int .i64 c]::.var (R++[L])::.row 0 w ys::B)=[4]:=by
  simp only[Zw,hr,W3,XQ,Xr]
  rfl
 have hC:Zn (.var [.int .u8 b,.lnt l]::.var R::.var [.int .i64 c]::.var (R++[L])::.row 0 w ys::B) 0 [4] 4 0=some (0,0):=rfl
 simp only[ZR,gcA,hi,Zj,Zp,hre _ hC,Zo,Xm,Xs,ZD,Zm,Zz]
 simp
end
theorem ZAl(b:Int)(l:Zd){P1 Q:List AVal}{kk n w:Nat}{ys:List AVal}{L:AVal}(h1:P1.length=26)(n1:Ze P1=true)(hQ:Q.length=26)(nQ:Ze Q=true)(hk:kk<26)(nL:ZQ L=true)(oQ:∀ r g m,(Zi Q kk r g m).all ZY=true)
  (hf:E 25 [.ref 0 0,.int .u8 b] (Zr P0 l)=some (.tup [],Zr P1 l)) (hb:E 26 [.ref 0 0] (Zr P1 l)=some (.tup [],[.var (Zi Q kk 1 0 n++[L]),.row 0 w ys])) :
  Zdg [.agg [.int .u8 b,.lnt l]] []=some (.tup [.agg (Zi Q kk 0 0 n),.int .i64 0],[.row 0 w ys]):=by
 unfold Zdg ZhI
 show(match evC FC PR BY 0 c1R (enterA 0 [.agg [.int .u8 b,.lnt l]] []) []with |some (.normal,tm1,G1)=>_ |_=>none)=_
 rw[Zmp]
 show(if(0:Nat)<=(GR b l).length/\1<(GR b l).length/\2<(GR b l).length then ZeG FC PR BY 27 c2R c3R rsR 0 (tput tmR (some 5) .top) (GR b l) 1 2 else none)=_
 rw[if_pos (by simp[GR])]
 unfold ZeG
 rw[show(GR b l).length=3 from rfl,ZTZ b l h1 n1 hQ nQ hk nL oQ hf hb]
 exact ZOU b l hQ nQ hk nL 0 _
def Zbw(Q:List AVal)(r r' n n':Nat):List AVal:=(Q.set 24 (.sl r' 0 0 n')).set 17 (.sl r 0 0 n)
section
variable (b:Int)(l:Zd){P1 Q:List AVal}{n n':Nat}{ys zs:List AVal}{L:AVal}(h1:P1.length=26)(n1:Ze P1=true)(hQ:Q.length=26)(nQ:Ze Q=true)(nL:ZQ L=true)
include h1 n1 hQ nQ nL
theorem ZAR(oQ:∀ r r' m m',(Zbw Q r r' m m').all ZY=true)
  (hf:E 25 [.ref 0 0,.int .u8 b] (Zr P0 l)=some (.tup [],Zr P1 l)) (hb:E 26 [.ref 0 0] (Zr P1 l)=some (.tup [],[.var (Zbw Q 1 2 n n'++[L]),.row 0 1 ys,.row 0 1 zs])) :
  evC FC PR BY 3 c2R (tput tmR (some 5) .top) (GR b l)=some (.ret,[(3,.ref 2 0),(2,.ref 1 0)],[.var [.int .u8 b,.lnt l],.var (Zbw Q 4 5 n n'),.var [.int .i64 0],.var (Zbw Q 4 5 n n'++[L]),.row 0 1 ys,.row 0 1 zs]):=by
 have hF:=fun(G:Za) sq (hs:G[3]?=some (.var (P0++[.lnt l])))=>Zce (O:=E) (bf:=BY) (f:=25) (rest:=[.int .u8 b]) (by kernel_rfl) rfl (by rfl) (ZaT n1 (by rfl)) rfl rfl hf hs sq
 have hRf:=ZlV hQ nQ (b:=1) (b':=2) (n:=n) (n':=n') (L:=L) nL
 have hRn:=fun(C:Rho) b b' c c' (h:C b 0=some (c,0)) (h':C b' 0=some (c',0))=>ZnL hQ nQ (n:=n) (n':=n') (L:=L) nL C h h'
 have hB:=fun(G:Za) (hs:G[3]?=some (.var (P1++[.lnt l]))) hff=>Zyx (O:=E) (bf:=BY) (f:=26) (sq:=4) (rest:=[]) (by kernel_rfl) rfl (ZaT n1 (by rfl)) hRf (fun C h h'=>hRn C 1 2 1 2 h h') (fun C h h'=>hRn C 1 2 4 5 h h') hb hs hff
 have hR:(Zbw Q 4 5 n n').length=26:=by simp[Zbw,hQ]
 have o2:=oQ 4 5 n n'
 unfold P0 at hF
 simp only[XJ,Xp]at hF
 unfold tmR GR P0
 clear hf hb
 unfold Zbw at *
 generalize (Q.set 24 (.sl 5 0 0 n')).set 17 (.sl 4 0 0 n)=R at *
 have b1:=Zag _ hR
 have b2:=ZeL _ hR
 simp -implicitDefEqProofs only[EQA,Zs,Zc,Xd,Xc,Xf,Xa,Xg,↓reduceIte,c2R,AVal.cells,Zao,hF,hB,b1,b2,hR,o2,Zaj]
theorem ZJl{c:Int}(hf:E 25 [.ref 0 0,.int .u8 b] (Zr P0 l)=some (.tup [],Zr P1 l))(hb:E 26 [.ref 0 0] (Zr P1 l)=some (.pan (ZG c),[.var (Zbw Q 1 2 n n'++[L]),.row 0 1 ys,.row 0 1 zs])) :
  evC FC PR BY 3 c2R (tput tmR (some 5) .top) (GR b l)=some (.panic (ZG c),[],[.var [.int .u8 b,.lnt l],.var P0,.var [.int .i64 0],.var (Zbw Q 4 5 n n'++[L]),.row 0 1 ys,.row 0 1 zs]):=by
 have hF:=fun(G:Za) sq (hs:G[3]?=some (.var (P0++[.lnt l])))=>Zce (O:=E) (bf:=BY) (f:=25) (rest:=[.int .u8 b]) (by kernel_rfl) rfl (by rfl) (ZaT n1 (by rfl)) rfl rfl hf hs sq
 have hRn:=fun(C:Rho) b b' c c' (h:C b 0=some (c,0)) (h':C b' 0=some (c',0))=>ZnL hQ nQ (n:=n) (n':=n') (L:=L) nL C h h'
 have hB:=fun(G:Za) (hs:G[3]?=some (.var (P1++[.lnt l]))) hff=>ZPk (O:=E) (bf:=BY) (f:=26) (sq:=4) (view:=true) (rest:=[]) (by kernel_rfl) rfl (ZaT n1 (by rfl)) (fun C h h'=>hRn C 1 2 4 5 h h') rfl hb hs hff
 unfold P0 at hF
 simp only[XJ,Xp]at hF
 unfold tmR GR P0
 clear hf hb
 unfold Zbw at *
 generalize (Q.set 24 (.sl 5 0 0 n')).set 17 (.sl 4 0 0 n)=R at *
 simp -implicitDefEqProofs only[EQA,Zc,Xd,Xc,Xf,Xa,Xg,↓reduceIte,c2R,AVal.cells,Zao,hF,hB,Zaj]
omit h1 n1
theorem ZGl(c:Int)(B:Za):Ze2 0 1 2 rsR (.var [.int .u8 b,.lnt l]::.var (Zbw Q 4 5 n n')::.var [.int .i64 c]::.var (Zbw Q 4 5 n n'++[L])::.row 0 1 ys::.row 0 1 zs::B)=some (.tup [.agg (Zbw Q 0 1 n n'),.int .i64 c],[.row 0 1 ys,.row 0 1 zs]):=by
 have hR:(Zbw Q 4 5 n n').length=26:=by simp[Zbw,hQ]
 have hRf:Zl (Zbw Q 4 5 n n')=[4,5]:=by unfold Zbw;rw[ZqN nQ (by omega) (by omega)];rfl
 have hre:∀ C:Rho,C 4 0=some (0,0)->C 5 0=some (1,0)->Zj C (Zbw Q 4 5 n n')=Zbw Q 0 1 n n':=fun C h h'=>by
  unfold Zbw
  rw[Zhi,Zhi,(Z5 C Q nQ).1]
  simp only[Zp,h,h']
 generalize Zbw Q 4 5 n n'=R at *
 have h1:resA [(3,.ref 2 0),(2,.ref 1 0)] (.var [.int .u8 b,.lnt l]::.var R::.var [.int .i64 c]::.var (R++[L])::.row 0 1 ys::.row 0 1 zs::B) rsR=some (.tup [.agg R,.int .i64 c]):=by
  have h2:R.take 26=R:=XG (by omega)
  simp[resA,resAll,resOne,rsR,tget,ldA,partA,hR,h2]
 unfold Ze2
 rw[h1]
 have hr:Zl [AVal.tup [.agg R,.int .i64 c]]=[4,5]:=by simp[Zl,ZH,hRf]
 have hi:Zw 0 [AVal.tup [.agg R,.int .i64 c]] (.var [.int .u8 b,.lnt l]::.var R::.var [.int .i64 c]::.var (R++[L])::.row 0 1 ys::.row 0 1 zs::B)=[4,5]:=by
  simp only[Zw,hr,W3,XQ,Xr]
  rfl
 have hC:Zn (.var [.int .u8 b,.lnt l]::.var R::.var [.int .i64 c]::.var (R++[L])::.row 0 1 ys::.row 0 1 zs::B) 0 [4,5] 4 0=some (0,0):=rfl
 have hC':Zn (.var [.int .u8 b,.lnt l]::.var R::.var [.int .i64 c]::.var (R++[L])::.row 0 1 ys::.row 0 1 zs::B) 0 [4,5] 5 0=some (1,0):=rfl
 simp only[ZR,gcA,hi,Zj,Zp,hre _ hC hC',Zo,Xm,Xs,ZD,Zm,Zz]
 simp
end
theorem ZJS(b:Int)(l:Zd){P1 Q:List AVal}{n n':Nat}{ys zs:List AVal}{L:AVal}(h1:P1.length=26)(n1:Ze P1=true)(hQ:Q.length=26)(nQ:Ze Q=true)(nL:ZQ L=true)(oQ:∀ r r' m m',(Zbw Q r r' m m').all ZY=true)
  (hf:E 25 [.ref 0 0,.int .u8 b] (Zr P0 l)=some (.tup [],Zr P1 l)) (hb:E 26 [.ref 0 0] (Zr P1 l)=some (.tup [],[.var (Zbw Q 1 2 n n'++[L]),.row 0 1 ys,.row 0 1 zs])) :
  Zdg [.agg [.int .u8 b,.lnt l]] []=some (.tup [.agg (Zbw Q 0 1 n n'),.int .i64 0],[.row 0 1 ys,.row 0 1 zs]):=by
 unfold Zdg ZhI
 show(match evC FC PR BY 0 c1R (enterA 0 [.agg [.int .u8 b,.lnt l]] []) []with |some (.normal,tm1,G1)=>_ |_=>none)=_
 rw[Zmp]
 show(if(0:Nat)<=(GR b l).length/\1<(GR b l).length/\2<(GR b l).length then ZeG FC PR BY 27 c2R c3R rsR 0 (tput tmR (some 5) .top) (GR b l) 1 2 else none)=_
 rw[if_pos (by simp[GR])]
 unfold ZeG
 rw[show(GR b l).length=3 from rfl,ZAR b l h1 n1 hQ nQ nL oQ hf hb]
 exact ZGl b l hQ nQ nL 0 _
end
section
def ZC(p:Zx):List AVal:=[.int .i64 p.type,.bool p.dup,.int .i64 p.qos,.bool p.retain,.int .i64 p.id,.str p.topic,.lst false (p.payload.map Zh),.int .i64 p.code,.lst false (p.codes.map (AVal.int .i64)),.lst false (p.props.map Zu),.lst false (p.subs.map Z8),.lst false (p.filters.map AVal.str),.bool p.clean,.int .i64 p.keep,.str p.client,.bool p.hasWill,.str p.will.topic,.lst false (p.will.data.map Zh),.int .i64 p.will.qos,.bool p.will.retain,.lst false (p.will.props.map Zu),.bool p.hasUser,.str p.user,.bool p.hasPassword,.lst false (p.password.map Zh),.bool p.present]
theorem ZgY(p:Zx):ZcA p=.agg (ZC p):=rfl
theorem Zub(p:Zx):(ZC p).length=26:=rfl
theorem ZwK(p:Zx):Zai (.agg (ZC p))=true:=rfl
theorem Zz0(p:Zx):Z1 (.agg (ZC p))=.agg (ZC p):=rfl
theorem ZMx(p:Zx):(ZC p).take 26=ZC p:=rfl
theorem Zx4(p:Zx):Zl (ZC p)=[]:=by
 have h:=ZAm (ZwK p)
 rw[Zz0]at h
 simpa[ZH]using h
theorem Zcs(w:Int)(b:Zd):(Zab w b).2.1<=b.length:=by
 unfold Zab
 grind
def ZX:Zx:=⟨0,false,0,false,0,[],[],0,[],[],[],[],false,0,[],false,⟨[],[],0,false,[]⟩,false,[],false,[],false⟩
theorem Zq2(G:Za):Zae G P0=some (ZC ZX,[]):=rfl
theorem ZAa(q:Zx)(C:Rho):Zj C (ZC q)=ZC q:=by
 have h:=ZxA (C:=C) (ZwK q)
 rw[Zz0,Zp]at h
 injection h
def ZlK(b:Int)(l:Zd):Zx×Int :=
 if qoI b<3 then(if qoI b>0\/(ZaF b 8 != 0)=false then(match ZcM (qoI b) l with
  | .error e=>(ZX,e)
  | .ok (tp,n,ps,pay)=>({ ZX with type:=3,dup:=(ZaF b 8 != 0),qos:=qoI b,retain:=(ZaF b 1 != 0),id:=n,topic:=tp,props:=ps,payload:=pay },0))
  else(ZX,130))else(ZX,129)
end
section
def Zea(k:Int)(l:Zd):Except Int (Int×List ZO×Zd):=match idK l with
 | .error c=>.error c
 | .ok (n,r1)=>match Zbj k r1 with
  | .error c=>.error c
  | .ok (ps,r2)=>if r2.length=0 then .error 130 else .ok (n,ps,r2)
def Zbd(P:List AVal)(n:Int)(ps:List ZO):List AVal:=(P.set 4 (.int .i64 n)).set 9 (.lst false (ps.map Zu))
structure QOk(k:Int)(Q:List AVal):Prop where
 len:Q.length=26
 nor:Ze Q=true
 ty:Q[0]?=some (.int .i64 k)
 c8:Q[8]?=some (.lst true [])
 c10:Q[10]?=some (.lst true [])
 c11:Q[11]?=some (.lst true [])
theorem ZcC{k:Int}{P:List AVal}(h:QOk k P)(n:Int)(ps:List ZO):QOk k (Zbd P n ps):=by
 unfold Zbd
 refine⟨by simp[h.len],Z7 (ZdE _ _) _ (Z7 rfl _ h.nor),?_,?_,?_,?_⟩
 ·rw[Xl (by omega),Xl (by omega)];exact h.ty
 ·rw[Xl (by omega),Xl (by omega)];exact h.c8
 ·rw[Xl (by omega),Xl (by omega)];exact h.c10
 ·rw[Xl (by omega),Xl (by omega)];exact h.c11
theorem ZD9{f:Nat}{cs:List AVal}(hc:Ze cs=true)(B:Za) :
  gcT 3 [(1,.fn f [.ref 1 0,.ref 2 0]),(0,.ref 0 0)] (.var cs::.var [.ref 0 0]::.var [.ref 0 0]::B)=([(1,.fn f [.ref 1 0,.ref 2 0]),(0,.ref 0 0)],[.var cs,.var [.ref 0 0],.var [.ref 0 0]]):=by
 have e2:=fun C=>Z5 C cs hc
 have hi:Zw 3 [.fn f [.ref 1 0,.ref 2 0],.ref 0 0] (.var cs::.var [.ref 0 0]::.var [.ref 0 0]::B)=[0,1,2]:=by
  have hR:X5 3=[0,1,2]:=rfl
  simp only[Zw,hR,XB,XQ,Xr,Xm,Xs,ZB,Zl,ZH,(e2 (fun _ _=>none)).2]
  rfl
 have hC0:Zn (.var cs::.var [.ref 0 0]::.var [.ref 0 0]::B) 3 [0,1,2] 0 0=some (0,0):=rfl
 have hC1:Zn (.var cs::.var [.ref 0 0]::.var [.ref 0 0]::B) 3 [0,1,2] 1 0=some (1,0):=rfl
 have hC2:Zn (.var cs::.var [.ref 0 0]::.var [.ref 0 0]::B) 3 [0,1,2] 2 0=some (2,0):=rfl
 simp only[gcT,gcA,Xu,XC,hi,Zo,Xm,Xs,Zz,Zj,Zp,hC0,hC1,hC2,(e2 _).1]
 rfl
theorem ZJM{f:Nat}{cs:List AVal}(hc:Ze cs=true)(B:Za) :
  gcT 1 [(1,.fn f [.ref 0 0]),(0,.ref 0 0)] (.var cs::B)=([(1,.fn f [.ref 0 0]),(0,.ref 0 0)],[.var cs]):=by
 have e2:=fun C=>Z5 C cs hc
 have hi:Zw 1 [.fn f [.ref 0 0],.ref 0 0] (.var cs::B)=[0]:=by
  have hR:X5 1=[0]:=rfl
  simp only[Zw,hR,XB,XQ,Xr,Xm,ZB,Zl,ZH,(e2 (fun _ _=>none)).2]
  rfl
 have hC0:Zn (.var cs::B) 1 [0] 0 0=some (0,0):=rfl
 simp only[gcT,gcA,Xu,XC,hi,Zo,Xm,Zz,Zj,Zp,hC0,(e2 _).1]
 rfl
section
variable (k:Int)(f:Nat)(P:List AVal)(h:QOk k P)(l:Zd)(hl:l.length<=140737488355328)
include h hl
theorem ZxS{n:Int}{ps:List ZO}{r:Zd}(hk:Zea k l=.ok (n,ps,r)):E 60 [.ref 0 0,.fn f [.ref 1 0,.ref 2 0]] [.var (P++[.lnt l]),.var [.ref 0 0],.var [.ref 0 0]]=Zbc 3 [(1,.fn f [.ref 1 0,.ref 2 0]),(0,.ref 0 0)] [.var (Zbd P n ps++[.lnt r]),.var [.ref 0 0],.var [.ref 0 0]]:=by
 obtain⟨hP,hN,h0,-,-,-⟩:=h
 unfold Zea at hk
 split at hk
 ·cases hk
 rename_i n' r1 hi
 have l1:=ZfR hi
 split at hk
 ·cases hk
 rename_i ps' r2 hp
 split at hk
 ·cases hk
 rename_i hne
 injection hk with hk;injection hk with e1 hk;injection hk with e2 e3;subst e1 e2 e3
 have hI:=fun G sq hs=>Zhl P hP hN l hl G 0 sq hs hi
 have hP4:(P.set 4 (.int .i64 n')).length=26:=by simp[hP]
 have hN4:Ze (P.set 4 (.int .i64 n'))=true:=Z7 rfl 4 hN
 have h04:(P.set 4 (.int .i64 n'))[0]?=some (.int .i64 k):=by rw[Xl (by omega)];exact h0
 unfold Zbd
 generalize P.set 4 (.int .i64 n')=R at *
 have hG:=fun G sq hs=>Zfo R hP4 hN4 r1 (by omega) G 0 sq hs (Zcs k r1) hp
 have c1:=Zag R hP4
 have c2:=ZaB R hP4
 have c4:=fun L=>(Zap R hP4 0 (by omega) L).trans h04
 have c3:=fun L=>ZaD R hP4 9 10 (by omega) rfl L (.lst false (ps'.map Zu))
 have hP9:(R.set 9 (.lst false (ps'.map Zu))).length=26:=by simp[hP4]
 have hN9:Ze (R.set 9 (.lst false (ps'.map Zu)))=true:=Z7 (ZdE _ _) 9 hN4
 generalize R.set 9 (.lst false (ps'.map Zu))=S at *
 have d2:=ZaB S hP9
 have m1:=Zbt
 have z:((r2.length:Nat):Int)>0:=by omega
 have z2:(0:Int)<((r2.length:Nat):Int):=by omega
 have gC:=fun B=>ZD9 (f:=f) (ZK S hP9 hN9 r2) B
 unfold Zbc
 rw[Zg (by rfl) ZhH]
 simp -implicitDefEqProofs only[EQA,Zs,ZE,Zc,ZT,Xd,Xc,Xf,Xa,reduceCtorEq,↓reduceIte,Zhc,ZfH,Zb,c1,c3,c4,hI,hG,d2,m1,z,gC]
theorem ZRv{e:Int}(hk:Zea k l=.error e):∃ cs,Ze cs=true/\E 60 [.ref 0 0,.fn f [.ref 1 0,.ref 2 0]] [.var (P++[.lnt l]),.var [.ref 0 0],.var [.ref 0 0]]=some (.pan (ZG e),[.var (cs),.var [.ref 0 0],.var [.ref 0 0]]):=by
 obtain⟨hP,hN,h0,-,-,-⟩:=h
 unfold Zea at hk
 split at hk
 ·rename_i c hi
  injection hk with hk;subst hk
  obtain⟨cs,hn,he⟩:=Znm P hP hN l hl hi
  have hI:=fun(G:Za) sq (hs:G[0]?=some (.var (P++[.lnt l])))=>Zes (O:=E) (bf:=BY) (f:=58) (view:=true) (rest:=[]) (by kernel_rfl) rfl (ZK P hP hN _) hn rfl he hs sq
  refine⟨cs,hn,?_⟩
  rw[Zg (by rfl) ZhH]
  simp -implicitDefEqProofs only[EQA,Zc,Xd,Xc,reduceCtorEq,↓reduceIte,Zhc,ZfH,Zb,hI]
  exact Zmu rfl hn _
 rename_i n' r1 hi
 have l1:=ZfR hi
 have hI:=fun G sq hs=>Zhl P hP hN l hl G 0 sq hs hi
 have hP4:(P.set 4 (.int .i64 n')).length=26:=by simp[hP]
 have hN4:Ze (P.set 4 (.int .i64 n'))=true:=Z7 rfl 4 hN
 have h04:(P.set 4 (.int .i64 n'))[0]?=some (.int .i64 k):=by rw[Xl (by omega)];exact h0
 generalize P.set 4 (.int .i64 n')=R at *
 have c1:=Zag R hP4
 have c2:=ZaB R hP4
 have c4:=fun L=>(Zap R hP4 0 (by omega) L).trans h04
 split at hk
 ·rename_i c hp
  injection hk with hk;subst hk
  have hG:=fun G sq hs=>Zhj R hP4 hN4 r1 (by omega) G 0 sq hs hp
  refine⟨_,ZK R hP4 hN4 r1,?_⟩
  rw[Zg (by rfl) ZhH]
  simp -implicitDefEqProofs only[EQA,Zc,Xd,Xc,Xa,reduceCtorEq,↓reduceIte,Zhc,ZfH,Zb,c4,hI,hG]
  exact Zmu rfl (ZK R hP4 hN4 _) _
 rename_i ps' r2 hp
 split at hk
 case isFalse=>cases hk
 rename_i hne
 injection hk with hk;subst hk
 have hG:=fun G sq hs=>Zfo R hP4 hN4 r1 (by omega) G 0 sq hs (Zcs k r1) hp
 have c3:=fun L=>ZaD R hP4 9 10 (by omega) rfl L (.lst false (ps'.map Zu))
 have hP9:(R.set 9 (.lst false (ps'.map Zu))).length=26:=by simp[hP4]
 have hN9:Ze (R.set 9 (.lst false (ps'.map Zu)))=true:=Z7 (ZdE _ _) 9 hN4
 generalize R.set 9 (.lst false (ps'.map Zu))=S at *
 have d2:=ZaB S hP9
 have m1:=ZbS
 have z:¬((r2.length:Nat):Int)>0:=by omega
 have z2:¬(0:Int)<((r2.length:Nat):Int):=by omega
 refine⟨_,ZK S hP9 hN9 r2,?_⟩
 rw[Zg (by rfl) ZhH]
 simp -implicitDefEqProofs only[EQA,Zs,ZE,Zc,Xd,Xc,Xf,Xa,reduceCtorEq,↓reduceIte,Zhc,ZfH,Zb,c1,c3,c4,hI,hG,d2,m1,z]
 exact Zmu rfl (ZK S hP9 hN9 _) _
theorem Zyw{n:Int}{ps:List ZO}{r:Zd}(hk:Zea k l=.ok (n,ps,r)):E 60 [.ref 0 0,.fn f [.ref 0 0]] [.var (P++[.lnt l])]=Zbc 1 [(1,.fn f [.ref 0 0]),(0,.ref 0 0)] [.var (Zbd P n ps++[.lnt r])]:=by
 obtain⟨hP,hN,h0,-,-,-⟩:=h
 unfold Zea at hk
 split at hk
 ·cases hk
 rename_i n' r1 hi
 have l1:=ZfR hi
 split at hk
 ·cases hk
 rename_i ps' r2 hp
 split at hk
 ·cases hk
 rename_i hne
 injection hk with hk;injection hk with e1 hk;injection hk with e2 e3;subst e1 e2 e3
 have hI:=fun G sq hs=>Zhl P hP hN l hl G 0 sq hs hi
 have hP4:(P.set 4 (.int .i64 n')).length=26:=by simp[hP]
 have hN4:Ze (P.set 4 (.int .i64 n'))=true:=Z7 rfl 4 hN
 have h04:(P.set 4 (.int .i64 n'))[0]?=some (.int .i64 k):=by rw[Xl (by omega)];exact h0
 unfold Zbd
 generalize P.set 4 (.int .i64 n')=R at *
 have hG:=fun G sq hs=>Zfo R hP4 hN4 r1 (by omega) G 0 sq hs (Zcs k r1) hp
 have c1:=Zag R hP4
 have c2:=ZaB R hP4
 have c4:=fun L=>(Zap R hP4 0 (by omega) L).trans h04
 have c3:=fun L=>ZaD R hP4 9 10 (by omega) rfl L (.lst false (ps'.map Zu))
 have hP9:(R.set 9 (.lst false (ps'.map Zu))).length=26:=by simp[hP4]
 have hN9:Ze (R.set 9 (.lst false (ps'.map Zu)))=true:=Z7 (ZdE _ _) 9 hN4
 generalize R.set 9 (.lst false (ps'.map Zu))=S at *
 have d2:=ZaB S hP9
 have m1:=Zbt
 have z:((r2.length:Nat):Int)>0:=by omega
 have z2:(0:Int)<((r2.length:Nat):Int):=by omega
 have gC:=fun B=>ZJM (f:=f) (ZK S hP9 hN9 r2) B
 unfold Zbc
 rw[Zg (by rfl) ZhH]
 simp -implicitDefEqProofs only[EQA,Zs,ZE,Zc,ZT,Xd,Xc,Xf,Xa,reduceCtorEq,↓reduceIte,Zhc,ZfH,Zb,c1,c3,c4,hI,hG,d2,m1,z,gC]
theorem ZHD{e:Int}(hk:Zea k l=.error e):∃ cs,Ze cs=true/\E 60 [.ref 0 0,.fn f [.ref 0 0]] [.var (P++[.lnt l])]=some (.pan (ZG e),[.var (cs)]):=by
 obtain⟨hP,hN,h0,-,-,-⟩:=h
 unfold Zea at hk
 split at hk
 ·rename_i c hi
  injection hk with hk;subst hk
  obtain⟨cs,hn,he⟩:=Znm P hP hN l hl hi
  have hI:=fun(G:Za) sq (hs:G[0]?=some (.var (P++[.lnt l])))=>Zes (O:=E) (bf:=BY) (f:=58) (view:=true) (rest:=[]) (by kernel_rfl) rfl (ZK P hP hN _) hn rfl he hs sq
  refine⟨cs,hn,?_⟩
  rw[Zg (by rfl) ZhH]
  simp -implicitDefEqProofs only[EQA,Zc,Xc,reduceCtorEq,↓reduceIte,Zhc,ZfH,Zb,hI]
  exact Zah rfl hn
 rename_i n' r1 hi
 have l1:=ZfR hi
 have hI:=fun G sq hs=>Zhl P hP hN l hl G 0 sq hs hi
 have hP4:(P.set 4 (.int .i64 n')).length=26:=by simp[hP]
 have hN4:Ze (P.set 4 (.int .i64 n'))=true:=Z7 rfl 4 hN
 have h04:(P.set 4 (.int .i64 n'))[0]?=some (.int .i64 k):=by rw[Xl (by omega)];exact h0
 generalize P.set 4 (.int .i64 n')=R at *
 have c1:=Zag R hP4
 have c2:=ZaB R hP4
 have c4:=fun L=>(Zap R hP4 0 (by omega) L).trans h04
 split at hk
 ·rename_i c hp
  injection hk with hk;subst hk
  have hG:=fun G sq hs=>Zhj R hP4 hN4 r1 (by omega) G 0 sq hs hp
  refine⟨_,ZK R hP4 hN4 r1,?_⟩
  rw[Zg (by rfl) ZhH]
  simp -implicitDefEqProofs only[EQA,Zc,Xc,Xa,reduceCtorEq,↓reduceIte,Zhc,ZfH,Zb,c4,hI,hG]
  exact Zah rfl (ZK R hP4 hN4 _)
 rename_i ps' r2 hp
 split at hk
 case isFalse=>cases hk
 rename_i hne
 injection hk with hk;subst hk
 have hG:=fun G sq hs=>Zfo R hP4 hN4 r1 (by omega) G 0 sq hs (Zcs k r1) hp
 have c3:=fun L=>ZaD R hP4 9 10 (by omega) rfl L (.lst false (ps'.map Zu))
 have hP9:(R.set 9 (.lst false (ps'.map Zu))).length=26:=by simp[hP4]
 have hN9:Ze (R.set 9 (.lst false (ps'.map Zu)))=true:=Z7 (ZdE _ _) 9 hN4
 generalize R.set 9 (.lst false (ps'.map Zu))=S at *
 have d2:=ZaB S hP9
 have m1:=ZbS
 have z:¬((r2.length:Nat):Int)>0:=by omega
 have z2:¬(0:Int)<((r2.length:Nat):Int):=by omega
 refine⟨_,ZK S hP9 hN9 r2,?_⟩
 rw[Zg (by rfl) ZhH]
 simp -implicitDefEqProofs only[EQA,Zs,ZE,Zc,Xd,Xc,Xf,Xa,reduceCtorEq,↓reduceIte,Zhc,ZfH,Zb,c1,c3,c4,hI,hG,d2,m1,z]
 exact Zah rfl (ZK S hP9 hN9 _)
end
end
section
theorem Zwe{n:Nat}{l r:Zd}{a:Int}(hn:0<n)(h:Zaw n l=.ok (a,r)):r.length<l.length:=by
 unfold Zaw at h
 grind
theorem Zlx{l r a:Zd}(h:Zaf l=.ok (a,r)):r.length<l.length:=by
 unfold Zaf at h
 split at h
 ·rename_i h0
  injection h with h;injection h with _ h;subst h
  rw[List.length_drop]
  unfold ZU at h0 ⊢
  split at h0
  ·grind
  ·rename_i h1
   rw[if_neg h1]
   split at h0
   ·rename_i h2
    rw[if_pos h2]
    unfold ZL at h0 ⊢
    grind
   ·cases h0
 ·cases h
theorem ZkW{k:Int}{l r:Zd}{a:Int}(h:ZaI k l=.ok (a,r)):r.length<l.length:=by
 unfold ZaI at h
 split at h
 ·rename_i h1
  split at h
  ·injection h with h;injection h with _ h;subst h;exact Zwe (by omega) h1
  ·cases h
 ·cases h
theorem ZiH{l r:Zd}{a:ZcH}(h:Zbf l=.ok (a,r)):r.length<l.length:=by
 unfold Zbf at h
 split at h
 ·cases h
 rename_i f r1 ht
 have l1:=Zlx ht
 split at h
 ·cases h
 rename_i o r2 hn
 have l2:=Zwe (by omega) hn
 split at h
 case isFalse=>cases h
 split at h
 case isFalse=>cases h
 injection h with h;injection h with _ h;subst h
 omega
section
variable {O:ZS}{bf:Nat->Bool}{f:Nat}{cs cs1 cs2 cs3 xs xs2:List AVal}{w w2:Nat}{q:AVal}
theorem ZIS(hb:bf f=false)(hc:Ze cs=true)(hq:ZQ q=true)(hback:∀ C:Rho,C 1 0=some (1,0)->Zj C cs2=cs2)(hO:O f [.ref 0 0] [.var cs]=some (q,[.var cs2,.row 0 w xs])) :
  Zq O bf [.var cs,.free,.free,.free,.free] 1 f 4 false [.ref 0 0]=some (q,[.var cs2,.row 0 w xs,.free,.free,.free],{ any:=true,upd:=[(0,cs2)] }):=by
 have ec:=fun C=>Z5 C cs hc
 refine Zcf (ids:=[0]) (vs:=[.ref 0 0]) hb rfl (Zeo rfl hc) rfl rfl rfl ?_ hO rfl (by simp) (by simp) rfl rfl (Zba _ q hq).1 ?_ rfl
 ·show [ZP.var (Zj _ cs)]=_
  grind
 ·have hb3:=hback (Zak [.var cs,.free,.free,.free,.free] [0] 1) rfl
  show [ZP.var (Zj _ cs2),.row 0 w xs,.free,.free,.free]=_
  rw[hb3]
theorem ZBF(hb:bf f=false)(hc:Ze cs=true)(hq:ZQ q=true)(hc2:Ze cs2=true)(hO:O f [.ref 0 0] [.var cs]=some (q,[.var cs2])) :
  Zq O bf [.var cs,.free,.free,.free,.free] 1 f 4 false [.ref 0 0]=some (q,[.var cs2,.free,.free,.free,.free],{ any:=true,upd:=[(0,cs2)] }):=by
 have ec:=fun C=>Z5 C cs hc
 refine Zcf (ids:=[0]) (vs:=[.ref 0 0]) hb rfl (Zeo rfl hc) rfl rfl rfl ?_ hO rfl (by simp) (by simp) rfl rfl (Zba _ q hq).1 ?_ rfl
 ·show [ZP.var (Zj _ cs)]=_
  grind
 ·show [ZP.var (Zj _ cs2),.free,.free,.free,.free]=_
  rw[(Z5 _ cs2 hc2).1]
theorem Zyy{g2:Nat}(hb:bf f=false)(hc:Zl cs=[1])(hren:∀ C:Rho,C 1 0=some (1,0)->Zj C cs=cs)(hq:ZQ q=true)(hg2:g2<=1)(hback:∀ C:Rho,C 1 g2=some (1,g2)->Zj C cs2=cs2)(hO:O f [.ref 0 0] [.var cs,.row 0 w xs]=some (q,[.var cs2,.row g2 w2 xs2])) :
  Zq O bf [.var cs,.row 0 w xs,.free,.free,.free,.free] 2 f 4 false [.ref 0 0]=some (q,[.var cs2,.row g2 w2 xs2,.free,.free,.free,.free],{ any:=true,upd:=[(0,cs2)] }):=by
 refine Zcf (ids:=[0,1]) (vs:=[.ref 0 0]) hb rfl (Zpr (g:=0) (w:=w) (xs:=xs) rfl rfl (by omega) hc) rfl rfl rfl ?_ hO rfl (by simp) (by simp) ?_ rfl (Zba _ q hq).1 ?_ rfl
 ·have h1:=hren (Zn [.var cs,.row 0 w xs,.free,.free,.free,.free] 0 [0,1]) rfl
  show [ZP.var (Zj _ cs),.row 0 w xs]=_
  rw[h1]
 ·simp[Za1,okB,Zcy,Zm,hg2]
 ·have hb3:=hback (Zak [.var cs,.row 0 w xs,.free,.free,.free,.free] [0,1] 2) (by simp[Zak,Zm])
  show [ZP.var (Zj _ cs2),.row (0+g2) w2 xs2,.free,.free,.free,.free]=_
  grind
theorem ZxG{f g:Nat}(hc:Zl cs=[1])(hg:g<=1)(hren:∀ C:Rho,C 1 g=some (1,0)->Zj C cs=cs1)(B:Za) :
  gcT 1 [(1,.fn f [.ref 0 0]),(0,.ref 0 0)] (.var cs::.row g w xs::B)=([(1,.fn f [.ref 0 0]),(0,.ref 0 0)],[.var cs1,.row 0 w xs]):=by
 have hi:Zw 1 [.fn f [.ref 0 0],.ref 0 0] (.var cs::.row g w xs::B)=[0,1]:=by
  have hR:X5 1=[0]:=rfl
  simp only[Zw,hR,XB,XQ,Xr,Xm,ZB,Zl,ZH,hc]
  rfl
 have hC:Zn (.var cs::.row g w xs::B) 1 [0,1] 1 g=some (1,0):=by
  simp[Zn,ZI,Zm,ZD]
 have hC0:Zn (.var cs::.row g w xs::B) 1 [0,1] 0 0=some (0,0):=rfl
 simp only[gcT,gcA,Xu,XC,hi,Zo,Xm,Xs,ZD,Zm,Zz,Zj,Zp,hC0,hren _ hC]
 simp
end
section
variable (Q:List AVal)(hQ:Q.length=26)(hN:Ze Q=true)(h10:Q[10]?=some (.lst true []))
include hQ hN
def H1(Q:List AVal)(n:Nat)(l:Zd)(ys:List AVal):Za:=[.var (Zi Q 10 1 0 n++[.lnt l]),.row 0 6 ys]
def tmS:Tms:=[(1,.fn 1000061 [.ref 0 0]),(0,.ref 0 0)]
theorem ZAF:∀ (n:Nat) (l:Zd) (xs:List ZcH),l.length<=n->n+xs.length<=1099511627776 ->
  (∀ ts,ZaR Zbf n l=.ok ts->Zbc 1 tmS (H1 Q xs.length l (xs.map Z8))=some (.tup [],H1 Q (xs++ts).length [] ((xs++ts).map Z8))) /\
  (∀ e,ZaR Zbf n l=.error e->∃ (xs':List ZcH) (r:Zd),Zbc 1 tmS (H1 Q xs.length l (xs.map Z8))=some (.pan (ZG e),H1 Q xs'.length r (xs'.map Z8))):=by
 have hk:(10:Nat)<26:=by omega
 intro n
 induction n with
 |zero =>
  intro l xs hl hx
  have l0:l=[]:=Xx (by omega)
  subst l0
  refine⟨fun ts h=>?_,fun e h=>by simp[ZaR]at h⟩
  have : ts=[]:=by simpa[ZaR]using h.symm
  subst this
  rw[Xr]
  have hL:=Zbp Q hQ hN 10 hk xs.length 1 0
  have b2:=ZaB _ hL
  have hO:=fun B=>Zb2 (j:=1) (w:=6) (xs:=xs.map Z8) (r:=.tup []) (G:=.var (Zi Q 10 1 0 xs.length++[.lnt []])::.row 0 6 (xs.map Z8)::B) rfl (by omega) rfl rfl (ZbX Q hQ hN hk 1 0 xs.length []) (fun C h=>Zbe Q hQ hN hk 1 0 xs.length 1 0 [] C h)
  unfold H1 tmS Zbc
  rw[Z9]
  generalize Zi Q 10 1 0 xs.length=R at *
  generalize xs.map Z8=ys at *
  simp -implicitDefEqProofs only[EQA,Zc,Xd,WJ,Xc,Xa,Xg,reduceCtorEq,decide_eq_true_eq,↓reduceIte,Ze,ZmF,ZeM,ZdZ,Zb,b2]
  exact hO _
 |succ n ih =>
  intro l xs hl hx
  have hL:=Zbp Q hQ hN 10 hk xs.length 1 0
  have b2:=ZaB _ hL
  by_cases l0:l.length=0
  ·have l0:l=[]:=Xx l0
   subst l0
   refine⟨fun ts h=>?_,fun e h=>by simp[ZaR]at h⟩
   have : ts=[]:=by simpa[ZaR]using h.symm
   subst this
   rw[Xr]
   have hO:=fun B=>Zb2 (j:=1) (w:=6) (xs:=xs.map Z8) (r:=.tup []) (G:=.var (Zi Q 10 1 0 xs.length++[.lnt []])::.row 0 6 (xs.map Z8)::B) rfl (by omega) rfl rfl (ZbX Q hQ hN hk 1 0 xs.length []) (fun C h=>Zbe Q hQ hN hk 1 0 xs.length 1 0 [] C h)
   unfold H1 tmS Zbc
   rw[Z9]
   generalize Zi Q 10 1 0 xs.length=R at *
   generalize xs.map Z8=ys at *
   simp -implicitDefEqProofs only[EQA,Zc,Xd,WJ,Xc,Xa,Xg,reduceCtorEq,decide_eq_true_eq,↓reduceIte,Ze,ZmF,ZeM,ZdZ,Zb,b2]
   exact hO _
  ·have z1:((l.length:Nat):Int)>0:=by omega
   have z2:(0:Int)<((l.length:Nat):Int):=by omega
   cases ho:Zbf l with
   |error e =>
    refine⟨fun ts h=>by simp[ZaR,l0,ho]at h,fun e' h=>?_⟩
    have : e'=e:=by simpa[ZaR,l0,ho]using h.symm
    subst this
    obtain⟨r,hE⟩:=ZGm Q hQ hN l (by omega) xs ho
    have hC:=Zyy (O:=E) (bf:=BY) (f:=61) (g2:=0) (by kernel_rfl) (ZbX Q hQ hN hk 1 0 xs.length l) (fun C h=>Zbe Q hQ hN hk 1 0 xs.length 1 0 l C h) (q:=.pan (ZG e')) rfl (by omega) (fun C h=>Zbe Q hQ hN hk 1 0 xs.length 1 0 r C h) hE
    have hO:=fun B=>Zb2 (j:=1) (w:=6) (xs:=xs.map Z8) (r:=.pan (ZG e')) (G:=.var (Zi Q 10 1 0 xs.length++[.lnt r])::.row 0 6 (xs.map Z8)::B) rfl (by omega) rfl rfl (ZbX Q hQ hN hk 1 0 xs.length r) (fun C h=>Zbe Q hQ hN hk 1 0 xs.length 1 0 r C h)
    refine⟨xs,r,?_⟩
    unfold H1 tmS Zbc
    rw[Z9]
    clear hE ih
    generalize Zi Q 10 1 0 xs.length=R at *
    generalize xs.map Z8=ys at *
    generalize ZG e'=ce at *
    simp -implicitDefEqProofs only[EQA,Zc,Xd,WJ,Xc,Xa,Xg,reduceCtorEq,↓reduceIte,ZeM,ZdZ,Zb,b2,hC,z1]
    exact hO _
   |ok s =>
    obtain⟨s,r⟩:=s
    have hr:=ZiH ho
    have hE:=ZUp Q hQ hN xs (by omega) l (by omega) ho
    have hC:=Zyy (O:=E) (bf:=BY) (f:=61) (g2:=1) (by kernel_rfl) (ZbX Q hQ hN hk 1 0 xs.length l) (fun C h=>Zbe Q hQ hN hk 1 0 xs.length 1 0 l C h) (q:=.tup []) rfl (by omega) (fun C h=>Zbe Q hQ hN hk 1 1 (xs.length+1) 1 1 r C h) hE
    have hG:=ZxG (f:=1000061) (w:=6) (xs:=(xs++[s]).map Z8) (g:=1) (ZbX Q hQ hN hk 1 1 (xs.length+1) r) (by omega) (fun C h=>Zbe Q hQ hN hk 1 1 (xs.length+1) 1 0 r C h)
    have step:Zbc 1 tmS (H1 Q xs.length l (xs.map Z8))=Zbc 1 tmS (H1 Q (xs++[s]).length r ((xs++[s]).map Z8)):=by
     rw[show(xs++[s]).length=xs.length+1 from by simp]
     unfold H1 tmS
     conv=>lhs;unfold Zbc
     conv=>rhs;unfold Zbc
     conv=>lhs;rw[Z9]
     clear hE ih
     generalize Zi Q 10 1 0 xs.length=R at *
     generalize Zi Q 10 1 1 (xs.length+1)=R2 at *
     generalize Zi Q 10 1 0 (xs.length+1)=R3 at *
     generalize xs.map Z8=ys at *
     generalize (xs++[s]).map Z8=zs at *
     simp -implicitDefEqProofs only[EQA,Zc,ZT,Xd,WJ,Xc,Xa,Xg,reduceCtorEq,↓reduceIte,ZeM,ZdZ,Zb,b2,hC,hG,z1]
    obtain⟨i1,i2⟩:=ih r (xs++[s]) (by omega) (by simp;omega)
    refine⟨fun ts h=>?_,fun e h=>?_⟩
    ·rw[step]
     simp only[ZaR,l0,ho,if_false]at h
     grind
    ·rw[step]
     simp only[ZaR,l0,ho,if_false]at h
     grind
end
def ZbG{D:Type}(one:Zd->RK D)(k:Int)(l:Zd):Except Int (Int×List ZO×List D):=match Zea k l with
 | .error e=>.error e
 | .ok (n,ps,r)=>match ZaR one r.length r with
  | .error e=>.error e
  | .ok ts=>.ok (n,ps,ts)
theorem Zk2{k:Int}{l:Zd}{n:Int}{ps:List ZO}{r:Zd}(h:Zea k l=.ok (n,ps,r)):r.length<=l.length/\r.length≠0:=by
 unfold Zea at h
 split at h
 ·cases h
 rename_i n' r1 hi
 have l1:=ZfR hi
 split at h
 ·cases h
 rename_i ps' r2 hp
 have l2:=ZgT hp
 split at h
 ·cases h
 rename_i hne
 injection h with h;injection h with e1 h;injection h with e2 e3;subst e1 e2 e3
 exact⟨by omega,hne⟩
theorem Zou{D:Type}{one:Zd->RK D}{n:Nat}{l:Zd}(h:l.length=n+1){s:D}{r:Zd}(ho:one l=.ok (s,r))(hlen:∀ {l s r},one l=.ok (s,r)->r.length<l.length):ZaR one l.length l=match ZaR one n r with
  | .error e=>.error e
  | .ok t=>.ok (s::t):=by
 rw[h]
 simp only[ZaR,h,Xah,Xaw,and_false,if_false,ho]
 all_goals grind
section
variable {D:Type}{one:Zd->RK D}{g:D->AVal}{f kk:Nat}{k:Int}(hk:kk<26)(hf:f<1000000)(hby:BY f=false)
  (hlen:∀ {l s r},one l=.ok (s,r)->r.length<l.length)
  (hT0:∀ Q,QOk k Q->∀ (l:Zd) (s:D) (r:Zd),l.length<=1099511627776->one l=.ok (s,r)->E f [.ref 0 0,.ref 2 0] [.var [.ref 1 0],.var (Q++[.lnt l]),.var [.ref 1 0]]=some (.tup [],[.var [.ref 1 0],.var (Zi Q kk 3 0 1++[.lnt r]),.var [.ref 1 0],.row 0 1 [g s]]))
  (hF0:∀ Q,QOk k Q->∀ (l:Zd) (e:Int),l.length<=1099511627776->one l=.error e->∃ r:Zd,E f [.ref 0 0,.ref 2 0] [.var [.ref 1 0],.var (Q++[.lnt l]),.var [.ref 1 0]]=some (.pan (ZG e),[.var [.ref 1 0],.var (Q++[.lnt r]),.var [.ref 1 0]]))
  (hT1:∀ Q,QOk k Q->∀ (xs:List D) (l:Zd) (s:D) (r:Zd),l.length<=1099511627776->xs.length<=1099511627776->one l=.ok (s,r)->E f [.ref 0 0,.ref 3 0] [.var [.ref 1 0],.var (Zi Q kk 2 0 xs.length++[.lnt l]),.row 0 1 (xs.map g),.var [.ref 1 0]]=some (.tup [],[.var [.ref 1 0],.var (Zi Q kk 2 1 (xs.length+1)++[.lnt r]),.row 1 1 ((xs++[s]).map g),.var [.ref 1 0]]))
  (hF1:∀ Q,QOk k Q->∀ (xs:List D) (l:Zd) (e:Int),l.length<=1099511627776->one l=.error e->∃ r:Zd,E f [.ref 0 0,.ref 3 0] [.var [.ref 1 0],.var (Zi Q kk 2 0 xs.length++[.lnt l]),.row 0 1 (xs.map g),.var [.ref 1 0]]=some (.pan (ZG e),[.var [.ref 1 0],.var (Zi Q kk 2 0 xs.length++[.lnt r]),.row 0 1 (xs.map g),.var [.ref 1 0]]))
include hk hf hby hT0
theorem ZyY{Q:List AVal}(hQ:QOk k Q){l r:Zd}{s:D}(hl:l.length<=1099511627776)(hl0:l.length≠0)(ho:one l=.ok (s,r)) :
  Zbc 3 [(1,.fn f [.ref 1 0,.ref 2 0]),(0,.ref 0 0)] [.var (Q++[.lnt l]),.var [.ref 0 0],.var [.ref 0 0]]=Zbc 3 [(1,.fn f [.ref 1 0,.ref 2 0]),(0,.ref 0 0)] (H3 Q kk 1 r [g s]):=by
 have hE:=hT0 Q hQ l s r hl ho
 obtain⟨hL,hN,-,-,-,-⟩:=hQ
 have z1:((l.length:Nat):Int)>0:=by omega
 have z2:(0:Int)<((l.length:Nat):Int):=by omega
 have b2:=ZaB _ hL
 have hC:=ZSK (O:=E) (bf:=BY) (cs:=Q++[.lnt l]) (cs3:=Zi Q kk 3 0 1++[.lnt r]) hby (ZK Q hL hN l) (q:=.tup []) rfl (fun C h=>Zbe Q hL hN hk 3 0 1 3 0 r C h) hE
 have hG:=ZwT (f:=f) (w:=1) (xs:=[g s]) (g:=0) (ZbX Q hL hN hk 3 0 1 r) (by omega) (fun C h=>Zbe Q hL hN hk 3 0 1 3 0 r C h)
 unfold H3
 conv=>lhs;unfold Zbc
 conv=>rhs;unfold Zbc
 conv=>lhs;rw[Z9]
 clear hE hT0
 generalize Zi Q kk 3 0 1=Q2 at *
 simp -implicitDefEqProofs only[EQA,Zc,ZT,Xd,Xc,Xa,Xg,reduceCtorEq,↓reduceIte,ZeM,ZdZ,Zb,b2,hC,hG,hf,z1]
omit hT0
include hF0
theorem ZGN{Q:List AVal}(hQ:QOk k Q){l:Zd}{e:Int}(hl:l.length<=1099511627776)(hl0:l.length≠0)(ho:one l=.error e) :
  ∃ r:Zd,Zbc 3 [(1,.fn f [.ref 1 0,.ref 2 0]),(0,.ref 0 0)] [.var (Q++[.lnt l]),.var [.ref 0 0],.var [.ref 0 0]]=some (.pan (ZG e),[.var (Q++[.lnt r]),.var [.ref 0 0],.var [.ref 0 0]]):=by
 obtain⟨r,hE⟩:=hF0 Q hQ l e hl ho
 obtain⟨hL,hN,-,-,-,-⟩:=hQ
 have z1:((l.length:Nat):Int)>0:=by omega
 have z2:(0:Int)<((l.length:Nat):Int):=by omega
 have b2:=ZaB _ hL
 have hC:=ZJz (O:=E) (bf:=BY) (cs:=Q++[.lnt l]) (cs2:=Q++[.lnt r]) hby (ZK Q hL hN l) (q:=.pan (ZG e)) rfl (ZK Q hL hN r) hE
 have hO:=fun B=>Zmu (r:=.pan (ZG e)) rfl (ZK Q hL hN r) B
 refine⟨r,?_⟩
 unfold Zbc
 rw[Z9]
 clear hE hF0
 generalize ZG e=ce at *
 simp -implicitDefEqProofs only[EQA,Zc,Xd,Xc,Xa,Xg,reduceCtorEq,↓reduceIte,ZeM,ZdZ,Zb,b2,hC,hf,z1]
 exact hO _
include hT0 hT1 hF1 hlen
theorem Zr3{P:List AVal}(hP:QOk k P){l:Zd}(hl:l.length<=1099511627775){n:Int}{ps:List ZO}{ts:List D}(h:ZbG one k l=.ok (n,ps,ts)) :
  E 60 [.ref 0 0,.fn f [.ref 1 0,.ref 2 0]] [.var (P++[.lnt l]),.var [.ref 0 0],.var [.ref 0 0]]=some (.tup [],H3 (Zbd P n ps) kk ts.length [] (ts.map g)):=by
 unfold ZbG at h
 split at h
 ·cases h
 rename_i n' ps' r hm
 obtain⟨l1,l2⟩:=Zk2 hm
 split at h
 ·cases h
 rename_i us hu
 injection h with h;injection h with e1 h;injection h with e2 e3;subst e1 e2 e3
 rw[ZxS k f P hP l (by omega) hm]
 have hQ:=ZcC hP n' ps'
 generalize Zbd P n' ps'=Q at *
 obtain⟨j,hj⟩:∃ j,r.length=j+1:=⟨r.length-1,by omega⟩
 cases ho:one r with
 |error e =>
  rw[hj]at hu
  simp only[ZaR,hj,Xah,Xaw,and_false,if_false,ho]at hu
  cases hu
 |ok sr =>
  obtain⟨s,r'⟩:=sr
  have hr:=hlen ho
  rw[Zou hj ho hlen]at hu
  cases hl2:ZaR one j r' with
  |error e=>grind
  |ok vs =>
   rw[hl2]at hu
   injection hu with hu;subst hu
   rw[ZyY hk hf hby hT0 hQ (by omega) l2 ho]
   exact(ZzH (g:=g) Q hQ.len hQ.nor hk hf hby hlen (hT1 Q hQ) (hF1 Q hQ) j r' [s] (by omega) (by simp;omega)).1 vs hl2
theorem ZtA{P:List AVal}(hP:QOk k P){l:Zd}(hl:l.length<=1099511627775){e:Int}(h:ZbG one k l=.error e) :
  (∃ cs,Ze cs=true/\E 60 [.ref 0 0,.fn f [.ref 1 0,.ref 2 0]] [.var (P++[.lnt l]),.var [.ref 0 0],.var [.ref 0 0]]=some (.pan (ZG e),[.var cs,.var [.ref 0 0],.var [.ref 0 0]])) \/
  (∃ (Q:List AVal) (xs:List D) (r:Zd),Q.length=26/\Ze Q=true/\E 60 [.ref 0 0,.fn f [.ref 1 0,.ref 2 0]] [.var (P++[.lnt l]),.var [.ref 0 0],.var [.ref 0 0]]=some (.pan (ZG e),H3 Q kk xs.length r (xs.map g))):=by
 unfold ZbG at h
 split at h
 ·rename_i c hm
  injection h with h;subst h
  exact Xq (ZRv k f P hP l (by omega) hm)
 rename_i n' ps' r hm
 obtain⟨l1,l2⟩:=Zk2 hm
 rw[ZxS k f P hP l (by omega) hm]
 have hQ:=ZcC hP n' ps'
 generalize Zbd P n' ps'=Q at *
 obtain⟨j,hj⟩:∃ j,r.length=j+1:=⟨r.length-1,by omega⟩
 split at h
 case h_2=>cases h
 rename_i c hu
 injection h with h;subst h
 cases ho:one r with
 |error e =>
  have : e=c:=by
   rw[hj]at hu
   simp only[ZaR,hj,Xah,Xaw,and_false,if_false,ho]at hu
   injection hu
  subst this
  obtain⟨r',hr'⟩:=ZGN hk hf hby hF0 hQ (by omega) l2 ho
  exact Xq ⟨_,ZK Q hQ.len hQ.nor r',hr'⟩
 |ok sr =>
  obtain⟨s,r'⟩:=sr
  have hr:=hlen ho
  rw[Zou hj ho hlen]at hu
  cases hl2:ZaR one j r' with
  |ok vs=>grind
  |error e2 =>
   rw[hl2]at hu
   injection hu with hu;subst hu
   rw[ZyY hk hf hby hT0 hQ (by omega) l2 ho]
   obtain⟨xs',r2,hx⟩:=(ZzH (g:=g) Q hQ.len hQ.nor hk hf hby hlen (hT1 Q hQ) (hF1 Q hQ) j r' [s] (by omega) (by simp;omega)).2 e2 hl2
   exact Xt ⟨Q,xs',r2,hQ.len,hQ.nor,hx⟩
end
section
theorem Zxr{Q:List AVal}(hQ:QOk 8 Q){l r:Zd}{s:ZcH}(hl:l.length<=1099511627776)(hl0:l.length≠0)(ho:Zbf l=.ok (s,r)) :
  Zbc 1 tmS [.var (Q++[.lnt l])]=Zbc 1 tmS (H1 Q 1 r [Z8 s]):=by
 obtain⟨hL,hN,-,-,h10,-⟩:=hQ
 have hk:(10:Nat)<26:=by omega
 have hE:=ZDU Q hL hN h10 l (by omega) ho
 unfold Zr at hE
 have z1:((l.length:Nat):Int)>0:=by omega
 have z2:(0:Int)<((l.length:Nat):Int):=by omega
 have b2:=ZaB _ hL
 have hC:=ZIS (O:=E) (bf:=BY) (f:=61) (cs:=Q++[.lnt l]) (by kernel_rfl) (ZK Q hL hN l) (q:=.tup []) rfl (fun C h=>Zbe Q hL hN hk 1 0 1 1 0 r C h) hE
 have hG:=ZxG (f:=1000061) (w:=6) (xs:=[Z8 s]) (g:=0) (ZbX Q hL hN hk 1 0 1 r) (by omega) (fun C h=>Zbe Q hL hN hk 1 0 1 1 0 r C h)
 unfold H1 tmS
 conv=>lhs;unfold Zbc
 conv=>rhs;unfold Zbc
 conv=>lhs;rw[Z9]
 clear hE
 generalize Zi Q 10 1 0 1=Q2 at *
 generalize Z8 s=sv at *
 simp -implicitDefEqProofs only[EQA,Zc,ZT,Xd,WJ,Xc,Xa,Xg,reduceCtorEq,↓reduceIte,ZeM,ZdZ,Zb,b2,hC,hG,z1]
theorem ZDW{Q:List AVal}(hQ:QOk 8 Q){l:Zd}{e:Int}(hl:l.length<=1099511627776)(hl0:l.length≠0)(ho:Zbf l=.error e) :
  ∃ cs,Ze cs=true/\Zbc 1 tmS [.var (Q++[.lnt l])]=some (.pan (ZG e),[.var cs]):=by
 obtain⟨hL,hN,-,-,h10,-⟩:=hQ
 obtain⟨cs,hc,hE⟩:=ZNA Q hL hN l (by omega) ho
 unfold Zr at hE
 have z1:((l.length:Nat):Int)>0:=by omega
 have z2:(0:Int)<((l.length:Nat):Int):=by omega
 have b2:=ZaB _ hL
 have hC:=ZBF (O:=E) (bf:=BY) (f:=61) (cs:=Q++[.lnt l]) (by kernel_rfl) (ZK Q hL hN l) (q:=.pan (ZG e)) rfl hc hE
 have hO:=fun B=>Zah (r:=.pan (ZG e)) (G:=B) rfl hc
 refine⟨cs,hc,?_⟩
 unfold Zbc tmS
 rw[Z9]
 clear hE
 generalize ZG e=ce at *
 simp -implicitDefEqProofs only[EQA,Zc,Xd,WJ,Xc,Xa,Xg,reduceCtorEq,↓reduceIte,ZeM,ZdZ,Zb,b2,hC,z1]
 exact hO _
theorem ZKn{P:List AVal}(hP:QOk 8 P){l:Zd}(hl:l.length<=1099511627775){n:Int}{ps:List ZO}{ts:List ZcH}(h:ZbG Zbf 8 l=.ok (n,ps,ts)) :
  E 60 [.ref 0 0,.fn 1000061 [.ref 0 0]] [.var (P++[.lnt l])]=some (.tup [],H1 (Zbd P n ps) ts.length [] (ts.map Z8)):=by
 unfold ZbG at h
 split at h
 ·cases h
 rename_i n' ps' r hm
 obtain⟨l1,l2⟩:=Zk2 hm
 split at h
 ·cases h
 rename_i us hu
 injection h with h;injection h with e1 h;injection h with e2 e3;subst e1 e2 e3
 rw[Zyw 8 1000061 P hP l (by omega) hm]
 have hQ:=ZcC hP n' ps'
 generalize Zbd P n' ps'=Q at *
 obtain⟨j,hj⟩:∃ j,r.length=j+1:=⟨r.length-1,by omega⟩
 cases ho:Zbf r with
 |error e =>
  rw[hj]at hu
  simp only[ZaR,hj,Xah,Xaw,and_false,if_false,ho]at hu
  cases hu
 |ok sr =>
  obtain⟨s,r'⟩:=sr
  have hr:=ZiH ho
  rw[Zou hj ho ZiH]at hu
  cases hl2:ZaR Zbf j r' with
  |error e=>grind
  |ok vs =>
   rw[hl2]at hu
   injection hu with hu;subst hu
   show Zbc 1 tmS _=_
   rw[Zxr hQ (by omega) l2 ho]
   exact(ZAF Q hQ.len hQ.nor j r' [s] (by omega) (by simp;omega)).1 vs hl2
theorem ZLe{P:List AVal}(hP:QOk 8 P){l:Zd}(hl:l.length<=1099511627775){e:Int}(h:ZbG Zbf 8 l=.error e) :
  (∃ cs,Ze cs=true/\E 60 [.ref 0 0,.fn 1000061 [.ref 0 0]] [.var (P++[.lnt l])]=some (.pan (ZG e),[.var cs])) \/
  (∃ (Q:List AVal) (xs:List ZcH) (r:Zd),Q.length=26/\Ze Q=true/\E 60 [.ref 0 0,.fn 1000061 [.ref 0 0]] [.var (P++[.lnt l])]=some (.pan (ZG e),H1 Q xs.length r (xs.map Z8))):=by
 unfold ZbG at h
 split at h
 ·rename_i c hm
  injection h with h;subst h
  exact Xq (ZHD 8 1000061 P hP l (by omega) hm)
 rename_i n' ps' r hm
 obtain⟨l1,l2⟩:=Zk2 hm
 rw[Zyw 8 1000061 P hP l (by omega) hm]
 have hQ:=ZcC hP n' ps'
 generalize Zbd P n' ps'=Q at *
 obtain⟨j,hj⟩:∃ j,r.length=j+1:=⟨r.length-1,by omega⟩
 split at h
 case h_2=>cases h
 rename_i c hu
 injection h with h;subst h
 show(∃ cs,Ze cs=true/\Zbc 1 tmS _=_)\/(∃ (Q:List AVal) (xs:List ZcH) (r:Zd),Q.length=26/\Ze Q=true/\Zbc 1 tmS _=_)
 cases ho:Zbf r with
 |error e =>
  have : e=c:=by
   rw[hj]at hu
   simp only[ZaR,hj,Xah,Xaw,and_false,if_false,ho]at hu
   injection hu
  subst this
  exact Xq (ZDW hQ (by omega) l2 ho)
 |ok sr =>
  obtain⟨s,r'⟩:=sr
  have hr:=ZiH ho
  rw[Zou hj ho ZiH]at hu
  cases hl2:ZaR Zbf j r' with
  |ok vs=>grind
  |error e2 =>
   rw[hl2]at hu
   injection hu with hu;subst hu
   rw[Zxr hQ (by omega) l2 ho]
   obtain⟨xs',r2,hx⟩:=(ZAF Q hQ.len hQ.nor j r' [s] (by omega) (by simp;omega)).2 e2 hl2
   exact Xt ⟨Q,xs',r2,hQ.len,hQ.nor,hx⟩
end
end
end Go.Proofs.YtjhabjdfhmbanaaGreatDoor
