/- The statement of RouteOrder: for every input the law returns true, and each argument reads afterwards as it read before. No other condition. -/
import Derived.Test.YtfpahnkbjfimdaaMq3
import Derived.Test.YtfpahnkbjfimdaaRows
import Derived.WalkKit
import Derived.ProofKit
import Derived.OpenShut
import Derived.ShutString
import Derived.ChangeOld
import Derived.Below
set_option linter.defProp false
set_option linter.unusedSectionVars false
set_option linter.unusedSimpArgs false
set_option linter.unusedVariables false
open Option.some renaming injEq→Xa
open Prod.mk renaming injEq→Xb
open Bool renaming decide_eq_true→Xc,not_eq_true→Xh,false_eq_true→Xw,or_eq_true→Wu
open List renaming range_succ→Xe,mem_of_getElem?→Xr,map_cons→Xs,all_cons→Xt,mem_append→Xu,length_append→Xx,length_cons→Xz,all_nil→XA,length_nil→XF,length_singleton→XG,length_map→XH,mem_cons→XJ,mem_map→XK,getD_cons_zero→XM,getD_cons_succ→XU,map_nil→XV,mem_singleton→XW,getElem?_map→XX,lookup_cons→XZ,contains_nil→X0,nil_append→X1,append_nil→X2,length_take→X3,mem_or_eq_of_mem_set→X5,map_append→X9,lookup_nil→Wi,map_map→Wn,drop_eq_nil_iff→Wo,append_assoc→Wq,any_cons→WA,singleton_append→WD,any_nil→WG,map_congr_left→WK,set_cons_succ→WP,mergeSort_perm→W4,pairwise_mergeSort→Xaj,set_set→XaH,take_length→XaN,map_set→XaX
open Nat renaming reduceLeDiff→Xf,reduceEqDiff→Xg,reduceMul→Xk,reduceAdd→Xn,reduceSub→Xo,reduceBEq→Xp,reduceLT→Xq,zero_add→XC,le_refl→XN,one_mul→We
open Or renaming inl→Xv
open List.cons renaming injEq→Xaf
open List.Perm renaming refl→Xa0
namespace Go.Proofs.Ytfpahnkbjfimdaa
set_option maxHeartbeats 16000000
set_option maxRecDepth 10000
section
structure Zay where
 client:ZF
 sub:Zat
 deriving DecidableEq
def Z1 (h:Zay):AVal:=.agg [.str h.client,.str h.sub.filter,.int .i64 h.sub.qos,.bool h.sub.noLocal,.bool h.sub.asPublished,.int .i64 h.sub.handling,.int .i64 h.sub.id]
abbrev Grp:=List (ZF×List Zat)
def Zbl:Grp->ZF->Zat->Grp
 | [],c,s=>[(c,[s])]
 | (k,l)::r,c,s=>if c=k then (k,l++[s])::r else (k,l)::Zbl r c s
def ZcO (n:Z2) (h:Zay):Bool:=!h.sub.noLocal || h.client != n.sender || n.sender == []
def Zb2 (n:Z2) (G:Grp) (hits:List Zay):Grp:=hits.foldl (fun G h=>if ZcO n h then Zbl G h.client h.sub else G) G
def gE (G:Grp):List (AVal×(List AVal ⊕ AVal)):=G.map fun p=>(AVal.str p.1,(Sum.inl (p.2.map Za5):List AVal ⊕ AVal))
theorem Zpx (G:Grp):ZW ((gE G).map fun p=>ZnO p.2)=[]:=by
 induction G with
 | nil=>rfl
 | cons p G ih=>simp only [gE,Xs,ZW,ZnO,Z5,X1] at ih ⊢;exact ih
theorem ZoE (ρ:Rho) (G:Grp):((gE G).map fun p=>(p.1,p.2.map id (Zj ρ)))=gE G:=by
 unfold gE
 rw [Wn]
 rfl
def ZbV (c:ZF):Grp->Nat->Option (Nat×List Zat)
 | [],_=>none
 | (k,l)::r,i=>if c=k then some (i,l) else ZbV c r (i+1)
theorem ZsL (c:ZF):∀ (G:Grp) (i:Nat),Zb6 (.str c) (gE G) i=some ((ZbV c G i).map fun p=>(p.1,Sum.inl (p.2.map Za5)))
 | [],i=>rfl
 | (k,l)::r,i=>by
  have ih:=ZsL c r (i+1)
  simp only [gE,Xs,Zb6,Zco] at ih ⊢
  by_cases e:c=k
  ·subst e
   simp [ZbV]
  ·have : (c == k)=false:=by simpa using e
   simp only [this,ZbV,if_neg e]
   exact ih
theorem Zhw {c:ZF} {s:Zat}:∀ {G:Grp} {i:Nat},ZbV c G i=none->Zbl G c s=G++[(c,[s])]
 | [],i,_=>rfl
 | (k,l)::r,i,h=>by
  simp only [ZbV] at h
  split at h
  ·cases h
  ·rename_i e
   simp only [Zbl,if_neg e,List.cons_append,Zhw (s:=s) h]
theorem Zge {c:ZF} {s:Zat}:∀ {G:Grp} {i j:Nat} {l:List Zat},ZbV c G i=some (j,l)->∃ j',j=i+j'/\G[j']?=some (c,l)/\Zbl G c s=G.set j' (c,l++[s])
 | [],i,j,l,h=>by simp [ZbV] at h
 | (k,m)::r,i,j,l,h=>by
  simp only [ZbV] at h
  split at h
  ·rename_i e;subst e
   simp only [Xa,Xb] at h
   obtain ⟨rfl,rfl⟩:=h
   exact ⟨0,rfl,rfl,by simp [Zbl]⟩
  ·rename_i e
   obtain ⟨j',h1,h2,h3⟩:=Zge (s:=s) h
   exact ⟨j'+1,by omega,by simpa using h2,by simp only [Zbl,if_neg e,h3,WP]⟩
theorem Zt9 (c:ZF) (v:AVal):∀ {G:Grp} {i j:Nat} {l:List Zat},ZbV c G i=some (i+j,l)->Zb6 (.str c) ((gE G).set j (.str c,.inr v)) i=some (some (i+j,.inr v))
 | [],i,j,l,h=>by simp [ZbV] at h
 | (k,m)::r,i,j,l,h=>by
  simp only [ZbV] at h
  split at h
  ·rename_i e;subst e
   simp only [Xa,Xb] at h
   obtain ⟨h1,rfl⟩:=h
   have hj:j=0:=by omega
   subst hj
   simp [gE,Zb6,Zco]
  ·rename_i e
   cases j with
   | zero =>
    obtain ⟨j',h1,_⟩:=Zge (s:=⟨[],0,false,false,0,0⟩) h
    omega
   | succ j =>
    have ih:=Zt9 c v (G:=r) (i:=i+1) (j:=j) (l:=l) (by rw [h];congr 2;omega)
    have hne:(c == k)=false:=by simpa using e
    simp only [gE,Xs,WP,Zb6,Zco,hne] at ih ⊢
    rw [ih]
    congr 3
    omega
def plT (i:Int) (N:Nat) (S:AVal):Tms:=[(14,.int .i64 i),(13,.int .i64 N),(12,S),(5,.map 0),(2,.ref 1 0)]
theorem ZpQ (n:Z2) (hits:List Zay) (hN:hits.length<=1000000000):∀ (r:List Zay) (i:Nat) (G:Grp),hits.drop i=r->(∀ p ∈ G,p.2.length<=i) ->
  ∃ tm',evL FC PR BY 0 [14,13,12,5,2] Zl5 (plT i hits.length (.lst false (hits.map Z1))) [.gmap 6 (gE G),.var (Z6 n)]=some (.exit 0,tm',[.gmap 6 (gE (Zb2 n G r)),.var (Z6 n)])/\keepL [8,5,2] tm'=[(8,.top),(5,.map 0),(2,.ref 1 0)]
 | [],i,G,h,_=>by
  have h1:=ZgR h
  have hr:=Zpx G
  have hn:=fun ρ=>ZoE ρ G
  rw [show Zb2 n G []=G from rfl]
  unfold plT Z6 Zi Zk
  generalize gE G=M at *
  generalize hits.map Z1=S at *
  generalize n.payload.map Zt=L1 at *
  generalize n.props.map Zc=L2 at *
  refine ⟨[(15,.bool false),(14,.int .i64 i),(13,.int .i64 hits.length),(12,.lst false S),(5,.map 0),(2,.ref 1 0)],?_,rfl⟩
  rw [Za4]
  simp -implicitDefEqProofs only [EQA,ZE,ZB,ZA,ZD,Zz,ZC,ZP,ZQ,ZR,ZM,ZN,ZO,ZS,ZL,ZK,implies_true,forall_const,Xn,Xo,Xq,Xf,Xg,Xp,Xk,ZH,ZJ,unA,Zu,Zy,unG,reduceCtorEq,Zl,decide_eq_true_eq,Xh,Xc,ite_self,↓reduceIte,Zw,ZG,gcT,gcA,Zm,Zf,Ze,Zg,Zn,Zb,Zo,Zh,Zr,Xe,Za2,ZaX,Za0,ZaZ,ZaV,Za7,ZaS,Zs,Zi,Zk,Zc,Zx,ZI,h1,hr,hn,Zdm,Zc1]
 | s::r,i,G,h,hG=>by
  have hd:=Za8 h
  have h1:(i:Int) < (hits.length:Int):=by have:=hd.2.2;omega
  have e1:∀ (σ:Za) (b:Bool) (kk:IntKind),ZaT σ 7 (.lst b (hits.map Z1)) (.int kk (i:Int))=some (.iptr [.str s.client,.str s.sub.filter,.int .i64 s.sub.qos,.bool s.sub.noLocal,.bool s.sub.asPublished,.int .i64 s.sub.handling,.int .i64 s.sub.id] 0,σ,{}):=fun σ b kk=>iad hd.1 Z1 (k:=7) rfl σ b kk
  have hw:IntKind.i64.wrap ((i:Int)+1)=((i+1:Nat):Int):=by rw [Zcy (by omega) (by omega)];rfl
  have hr:=Zpx G
  have hn:=fun ρ=>ZoE ρ G
  have hil:i < hits.length:=hd.2.2
  by_cases hwn:ZcO n s=true
  ·have ih:=ZpQ n hits hN r (i+1) (Zbl G s.client s.sub) hd.2.1 (by
    intro p hp
    cases hg:ZbV s.client G 0 with
    | none =>
     rw [Zhw hg] at hp
     rcases Xu.1 hp with hp | hp
     ·have:=hG p hp;omega
     ·rw [XW] at hp;subst hp;simp
    | some q =>
     obtain ⟨j',_,h2,h3⟩:=Zge (s:=s.sub) (l:=q.2) (j:=q.1) hg
     rw [h3] at hp
     rcases X5 hp with hp | rfl
     ·have:=hG p hp;omega
     ·have:=hG _ (Xr h2);simp at this ⊢;omega)
   rw [show Zb2 n G (s::r)=Zb2 n (Zbl G s.client s.sub) r by simp [Zb2,hwn]]
   generalize gE (Zb2 n (Zbl G s.client s.sub) r)=RES at *
   have hr2:=Zpx (Zbl G s.client s.sub)
   have hn2:=fun ρ=>ZoE ρ (Zbl G s.client s.sub)
   have hg0:=ZsL s.client G 0
   have hkd:Zap (.str s.client)=2:=rfl
   cases hg:ZbV s.client G 0 with
   | none =>
    rw [hg,Option.map_none] at hg0
    have e2:gE (Zbl G s.client s.sub)=gE G++[(.str s.client,.inl [.agg [.str s.sub.filter,.int .i64 s.sub.qos,.bool s.sub.noLocal,.bool s.sub.asPublished,.int .i64 s.sub.handling,.int .i64 s.sub.id]])]:=by rw [Zhw hg];simp [gE,Za5]
    rw [e2] at hr2 hn2 ih
    clear hd h hG hg e2
    unfold plT Z6 Zi Zk at ih ⊢
    generalize gE G=M at *
    generalize hits.map Z1=S at *
    generalize hits.length=N at *
    generalize n.payload.map Zt=L1 at *
    generalize n.props.map Zc=L2 at *
    obtain ⟨tm',ih1,ih2⟩:=ih
    refine ⟨tm',?_,ih2⟩
    rw [Za4]
    unfold ZcO at hwn
    cases hnl:s.sub.noLocal with
    | false =>
     rw [hnl] at e1 ih1 hr2 hn2
     simp -implicitDefEqProofs only [EQA,ZE,ZB,ZA,ZD,Zz,ZC,ZP,ZQ,ZR,ZM,ZN,ZO,ZS,ZL,ZK,implies_true,forall_const,Xn,Xo,Xq,Xf,Xg,Xp,Xk,ZH,ZJ,unA,Zu,Zy,unG,reduceCtorEq,Zl,decide_eq_true_eq,Xh,Xc,ite_self,↓reduceIte,Zw,ZG,gcT,gcA,Zm,Zf,Ze,Zg,Zn,Zb,Zo,Zh,Zr,Xe,Za2,ZaX,Za0,ZaZ,ZaV,Za7,ZaS,Zs,Zi,Zk,Zc,Zx,ZI,h1,e1,hw,hr,hn,hr2,hn2,hg0,hkd,Zdm,Zc1,Zc9,Zab,AVal.cells,ZT,Xt,XA,Zb9,ZcD,Zcp,Zcm,Zbo,Zad,kOk,viewAs,Zam,Zae,Zah,Zp,XG,We,ZaW]
     rw [Zba _ _ _ _ _ _ _ (by rfl)]
     simp -implicitDefEqProofs only [EQA,ZE,ZB,ZA,ZD,Zz,ZC,ZP,ZQ,ZR,ZM,ZN,ZO,ZS,ZL,ZK,implies_true,forall_const,Xn,Xo,Xq,Xf,Xg,Xp,Xk,ZH,ZJ,unA,Zu,Zy,unG,reduceCtorEq,Zl,decide_eq_true_eq,Xh,Xc,ite_self,↓reduceIte,Zw,ZG,gcT,gcA,Zm,Zf,Ze,Zg,Zn,Zb,Zo,Zh,Zr,Xe,Za2,ZaX,Za0,ZaZ,ZaV,Za7,ZaS,Zs,Zi,Zk,Zc,Zx,ZI,h1,e1,hw,hr,hn,hr2,hn2,hg0,hkd,Zdm,Zc1,Zc9,Zab,AVal.cells,ZT,Xt,XA,Zb9,ZcD,Zcp,Zcm,Zbo,Zad,kOk,viewAs,Zam,Zae,Zah,Zp,XG,We,ZaW]
     exact ih1
    | true =>
     rw [hnl] at e1 ih1 hwn hr2 hn2
     have hc:(!s.client == n.sender || n.sender == [])=true:=by simpa [bne] using hwn
     simp -implicitDefEqProofs only [EQA,ZE,ZB,ZA,ZD,Zz,ZC,ZP,ZQ,ZR,ZM,ZN,ZO,ZS,ZL,ZK,implies_true,forall_const,Xn,Xo,Xq,Xf,Xg,Xp,Xk,ZH,ZJ,unA,Zu,Zy,unG,reduceCtorEq,Zl,decide_eq_true_eq,Xh,Xc,ite_self,↓reduceIte,Zw,ZG,gcT,gcA,Zm,Zf,Ze,Zg,Zn,Zb,Zo,Zh,Zr,Xe,Za2,ZaX,Za0,ZaZ,ZaV,Za7,ZaS,Zs,Zi,Zk,Zc,Zx,ZI,h1,e1,hw,hc,hr,hn,hr2,hn2,hg0,hkd,Zdm,Zc1,Zc9,Zab,AVal.cells,ZT,Xt,XA,Zb9,ZcD,Zcp,Zcm,Zbo,Zad,kOk,viewAs,Zam,Zae,Zah,Zp,XG,We,ZaW]
     rw [Zba _ _ _ _ _ _ _ (by rfl)]
     simp -implicitDefEqProofs only [EQA,ZE,ZB,ZA,ZD,Zz,ZC,ZP,ZQ,ZR,ZM,ZN,ZO,ZS,ZL,ZK,implies_true,forall_const,Xn,Xo,Xq,Xf,Xg,Xp,Xk,ZH,ZJ,unA,Zu,Zy,unG,reduceCtorEq,Zl,decide_eq_true_eq,Xh,Xc,ite_self,↓reduceIte,Zw,ZG,gcT,gcA,Zm,Zf,Ze,Zg,Zn,Zb,Zo,Zh,Zr,Xe,Za2,ZaX,Za0,ZaZ,ZaV,Za7,ZaS,Zs,Zi,Zk,Zc,Zx,ZI,h1,e1,hw,hc,hr,hn,hr2,hn2,hg0,hkd,Zdm,Zc1,Zc9,Zab,AVal.cells,ZT,Xt,XA,Zb9,ZcD,Zcp,Zcm,Zbo,Zad,kOk,viewAs,Zam,Zae,Zah,Zp,XG,We,ZaW]
     exact ih1
   | some q =>
    obtain ⟨j,l⟩:=q
    rw [hg,Option.map_some] at hg0
    obtain ⟨j',hj,hq2,hq3⟩:=Zge (s:=s.sub) hg
    have hj':j'=j:=by omega
    subst hj'
    have hll:=hG _ (Xr hq2)
    simp only at hll hg0
    have hg1:=fun v=>Zt9 s.client v (G:=G) (i:=0) (j:=j') (l:=l) (by rw [hg,XC])
    rw [XC] at hg1
    have hgd:∀ d:AVal×(List AVal ⊕ AVal),((gE G).getD j' d).1=.str s.client:=by
     intro d
     simp [gE,List.getD_eq_getElem?_getD,hq2]
    have e2:gE (Zbl G s.client s.sub)=(gE G).set j' (.str s.client,.inl (l.map Za5++[.agg [.str s.sub.filter,.int .i64 s.sub.qos,.bool s.sub.noLocal,.bool s.sub.asPublished,.int .i64 s.sub.handling,.int .i64 s.sub.id]])):=by rw [hq3];simp [gE,XaX,Za5]
    rw [e2] at hr2 hn2 ih
    have hXl:(l.map Za5).length=l.length:=XH ..
    have hb:(l.length+1)*48<=140737488355328:=by omega
    have hlt:l.length < l.length+1:=by omega
    clear hd h hG hg e2 hq2 hq3 hj
    generalize l.map Za5=L at *
    have hXl2:∀ x:AVal,(L++[x]).length=l.length+1:=fun x=>by rw [Xx,hXl];rfl
    have htk:∀ x:AVal,(L++[x]).take (l.length+1)=L++[x]:=fun x=>by rw [<-hXl2 x,XaN]
    unfold plT Z6 Zi Zk at ih ⊢
    generalize gE G=M at *
    generalize hits.map Z1=S at *
    generalize hits.length=N at *
    generalize n.payload.map Zt=L1 at *
    generalize n.props.map Zc=L2 at *
    obtain ⟨tm',ih1,ih2⟩:=ih
    refine ⟨tm',?_,ih2⟩
    rw [Za4]
    unfold ZcO at hwn
    cases hnl:s.sub.noLocal with
    | false =>
     rw [hnl] at e1 ih1 hr2 hn2
     simp -implicitDefEqProofs only [EQA,ZE,ZB,ZA,ZD,Zz,ZC,ZP,ZQ,ZR,ZM,ZN,ZO,ZS,ZL,ZK,implies_true,forall_const,Xn,Xo,Xq,Xf,Xg,Xp,Xk,ZH,ZJ,unA,Zu,Zy,unG,reduceCtorEq,Zl,decide_eq_true_eq,Xh,Xc,ite_self,↓reduceIte,Zw,ZG,gcT,gcA,Zm,Zf,Ze,Zg,Zn,Zb,Zo,Zh,Zr,Xe,Za2,ZaX,Za0,ZaZ,ZaV,Za7,ZaS,Zs,Zi,Zk,Zc,Zx,ZI,h1,e1,hw,hr,hn,hr2,hn2,hg0,hkd,Zdm,Zc1,Zc9,Zab,AVal.cells,ZT,Xt,XA,Zb9,ZcD,Zcp,Zcm,Zbo,Zad,kOk,viewAs,Zam,Zae,Zah,Zp,XG,We,ZaW,hg1,hgd,hXl,hXl2,hb,htk,XaH,XN]
     rw [Zba _ _ _ _ _ _ _ (by rfl)]
     simp -implicitDefEqProofs only [EQA,ZE,ZB,ZA,ZD,Zz,ZC,ZP,ZQ,ZR,ZM,ZN,ZO,ZS,ZL,ZK,implies_true,forall_const,Xn,Xo,Xq,Xf,Xg,Xp,Xk,ZH,ZJ,unA,Zu,Zy,unG,reduceCtorEq,Zl,decide_eq_true_eq,Xh,Xc,ite_self,↓reduceIte,Zw,ZG,gcT,gcA,Zm,Zf,Ze,Zg,Zn,Zb,Zo,Zh,Zr,Xe,Za2,ZaX,Za0,ZaZ,ZaV,Za7,ZaS,Zs,Zi,Zk,Zc,Zx,ZI,h1,e1,hw,hr,hn,hr2,hn2,hg0,hkd,Zdm,Zc1,Zc9,Zab,AVal.cells,ZT,Xt,XA,Zb9,ZcD,Zcp,Zcm,Zbo,Zad,kOk,viewAs,Zam,Zae,Zah,Zp,XG,We,ZaW,hg1,hgd,hXl,hXl2,hb,htk,XaH,XN]
     exact ih1
    | true =>
     rw [hnl] at e1 ih1 hwn hr2 hn2
     have hc:(!s.client == n.sender || n.sender == [])=true:=by simpa [bne] using hwn
     simp -implicitDefEqProofs only [EQA,ZE,ZB,ZA,ZD,Zz,ZC,ZP,ZQ,ZR,ZM,ZN,ZO,ZS,ZL,ZK,implies_true,forall_const,Xn,Xo,Xq,Xf,Xg,Xp,Xk,ZH,ZJ,unA,Zu,Zy,unG,reduceCtorEq,Zl,decide_eq_true_eq,Xh,Xc,ite_self,↓reduceIte,Zw,ZG,gcT,gcA,Zm,Zf,Ze,Zg,Zn,Zb,Zo,Zh,Zr,Xe,Za2,ZaX,Za0,ZaZ,ZaV,Za7,ZaS,Zs,Zi,Zk,Zc,Zx,ZI,h1,e1,hw,hc,hr,hn,hr2,hn2,hg0,hkd,Zdm,Zc1,Zc9,Zab,AVal.cells,ZT,Xt,XA,Zb9,ZcD,Zcp,Zcm,Zbo,Zad,kOk,viewAs,Zam,Zae,Zah,Zp,XG,We,ZaW,hg1,hgd,hXl,hXl2,hb,htk,XaH,XN]
     rw [Zba _ _ _ _ _ _ _ (by rfl)]
     simp -implicitDefEqProofs only [EQA,ZE,ZB,ZA,ZD,Zz,ZC,ZP,ZQ,ZR,ZM,ZN,ZO,ZS,ZL,ZK,implies_true,forall_const,Xn,Xo,Xq,Xf,Xg,Xp,Xk,ZH,ZJ,unA,Zu,Zy,unG,reduceCtorEq,Zl,decide_eq_true_eq,Xh,Xc,ite_self,↓reduceIte,Zw,ZG,gcT,gcA,Zm,Zf,Ze,Zg,Zn,Zb,Zo,Zh,Zr,Xe,Za2,ZaX,Za0,ZaZ,ZaV,Za7,ZaS,Zs,Zi,Zk,Zc,Zx,ZI,h1,e1,hw,hc,hr,hn,hr2,hn2,hg0,hkd,Zdm,Zc1,Zc9,Zab,AVal.cells,ZT,Xt,XA,Zb9,ZcD,Zcp,Zcm,Zbo,Zad,kOk,viewAs,Zam,Zae,Zah,Zp,XG,We,ZaW,hg1,hgd,hXl,hXl2,hb,htk,XaH,XN]
     exact ih1
  ·have ih:=ZpQ n hits hN r (i+1) G hd.2.1 (fun p hp=>by have:=hG p hp;omega)
   rw [show Zb2 n G (s::r)=Zb2 n G r by simp [Zb2,hwn]]
   generalize gE (Zb2 n G r)=RES at *
   clear hd h hG
   unfold plT Z6 Zi Zk at ih ⊢
   generalize gE G=M at *
   generalize hits.map Z1=S at *
   generalize hits.length=N at *
   generalize n.payload.map Zt=L1 at *
   generalize n.props.map Zc=L2 at *
   obtain ⟨tm',ih1,ih2⟩:=ih
   refine ⟨tm',?_,ih2⟩
   rw [Za4]
   unfold ZcO at hwn
   have c0:s.sub.noLocal=true:=by cases hh:s.sub.noLocal <;> simp_all
   rw [c0] at e1 hwn
   have c1:(!s.client == n.sender || n.sender == [])=false:=by simpa [bne] using hwn
   simp -implicitDefEqProofs only [EQA,ZE,ZB,ZA,ZD,Zz,ZC,ZP,ZQ,ZR,ZM,ZN,ZO,ZS,ZL,ZK,implies_true,forall_const,Xn,Xo,Xq,Xf,Xg,Xp,Xk,ZH,ZJ,unA,Zu,Zy,unG,reduceCtorEq,Zl,decide_eq_true_eq,Xh,Xc,ite_self,↓reduceIte,Zw,ZG,gcT,gcA,Zm,Zf,Ze,Zg,Zn,Zb,Zo,Zh,Zr,Xe,Za2,ZaX,Za0,ZaZ,ZaV,Za7,ZaS,Zs,Zi,Zk,Zc,Zx,ZI,h1,e1,hw,c1,hr,hn,Zdm,Zc1,Zc9,Zab,AVal.cells,ZT,Xt,XA]
   exact ih1
end
section
def fE (p:ZF×List Zat):AVal×AVal:=(.str p.1,.lst false (p.2.map Za5))
def Zaa (n:Z2) (p:ZF×List Zat):AVal:=.agg (.str p.1::ZbO (byI n p.2))
theorem ZsH:∀ G:Grp,Zd5 (gE G)=some (G.map fE)
 | []=>rfl
 | p::G=>by
  have ih:=ZsH G
  simp only [gE,Xs,Zd5] at ih ⊢
  rw [ih]
  rfl
theorem ZoU (G:Grp):ZW ((G.map fE).map (·.2))=[]:=by
 induction G with
 | nil=>rfl
 | cons p G ih=>simp only [Xs,fE,ZW,Z5,X1] at ih ⊢;exact ih
theorem Zr3 (ρ:Rho) (G:Grp):(G.map fE).map (fun p=>(p.1,Zj ρ p.2))=G.map fE:=by
 rw [Wn]
 apply WK
 intro p _
 rfl
theorem Ztx (G:Grp) (n:Nat):∀ p ∈ G.map fE,Zg2 n p.2=true:=by
 intro p hp
 obtain ⟨x,_,rfl⟩:=XK.1 hp
 rfl
theorem Zy4 (n:Z2) (hn:Zdo n) (G:Grp) (c:ZF) (s:Zat) (r:List Zat) (hN:(s::r).length<=1000000000) (tm:Tms) (σ:Za) (h:gcT 0 (keepL [46,8,2] tm) σ=([(46,.map 0),(8,.lst true []),(2,.ref 1 0)],[.map (G.map fE),.var (Z6 n)])) :
  ZdX FC PR BY 0 [46,8,2] 46 50 3 ZcF c2P (G.map fE) (fE (c,s::r)) tm σ=some ([(46,.map 0),(8,.sl 2 0 0 1),(2,.ref 1 0)],[.map (G.map fE),.var (Z6 n),.row 0 15 [Zaa n (c,s::r)]]):=by
 have hk:=eq_true (Ztx G 2)
 have hC:=fun σ sq own=>Zto n hn s r hN σ sq own
 have hfe:fE (c,s::r)=(.str c,.lst false ((s::r).map Za5)):=rfl
 unfold ZdX
 rw [h]
 unfold Zaa
 rw [hfe]
 simp only
 generalize byI n (s::r)=it at *
 generalize (s::r).map Za5=S at *
 generalize G.map fE=M at *
 unfold Z6 ZcU ZbO Zi Zk Zs at *
 generalize n.payload.map Zt=L1 at *
 generalize n.props.map Zc=L2 at *
 generalize it.note.payload.map Zt=L3 at *
 generalize it.note.props.map Zc=L4 at *
 generalize it.ids.map (AVal.int .i64)=L5 at *
 simp -implicitDefEqProofs only [EQA,ZE,ZB,ZA,ZD,Zz,ZC,ZP,ZQ,ZR,ZM,ZN,ZO,ZS,ZL,ZK,implies_true,forall_const,Xn,Xo,Xq,Xf,Xg,Xp,Xk,ZH,ZJ,unA,Zu,Zy,unG,reduceCtorEq,Zl,decide_eq_true_eq,Xh,Xc,ite_self,↓reduceIte,Zw,ZG,gcT,gcA,Zm,Zf,Ze,Zg,Zn,Zb,Zo,Zh,Zr,Xe,Za2,ZaX,Za0,ZaZ,ZaV,Za7,ZaS,Zs,Zi,Zk,Zc,Zx,ZI,hk,hC,Zer,ZcF,c2P,Zh6,Zab,Za1,AVal.cells,ZdA,ZdB,Zad,kOk,viewAs,Zam,Zae,Zah,Zp,XG,We,ZaT,Zfc]
theorem Zxk (n:Z2) (hn:Zdo n) (G:Grp) (c:ZF) (s:Zat) (r:List Zat) (hN:(s::r).length<=1000000000) (tm:Tms) (σ:Za) (k:Nat) (xs:List AVal) (hx:xs.length=k) (hb:(k+1)*200<=140737488355328) (h:gcT 0 (keepL [46,8,2] tm) σ=([(46,.map 0),(8,.sl 1 0 0 k),(2,.ref 2 0)],[.map (G.map fE),.row 0 15 xs,.var (Z6 n)])) :
  ZdX FC PR BY 0 [46,8,2] 46 50 3 ZcF c2P (G.map fE) (fE (c,s::r)) tm σ=some ([(46,.map 0),(8,.sl 1 1 0 (k+1)),(2,.ref 2 0)],[.map (G.map fE),.row 1 15 (xs++[Zaa n (c,s::r)]),.var (Z6 n),.free]):=by
 have hk:=eq_true (Ztx G 3)
 have hC:=fun σ sq own=>Zto n hn s r hN σ sq own
 have hfe:fE (c,s::r)=(.str c,.lst false ((s::r).map Za5)):=rfl
 unfold ZdX
 rw [h]
 unfold Zaa
 rw [hfe]
 simp only
 generalize byI n (s::r)=it at *
 generalize (s::r).map Za5=S at *
 generalize G.map fE=M at *
 unfold Z6 ZcU ZbO Zi Zk Zs at *
 generalize n.payload.map Zt=L1 at *
 generalize n.props.map Zc=L2 at *
 generalize it.note.payload.map Zt=L3 at *
 generalize it.note.props.map Zc=L4 at *
 generalize it.ids.map (AVal.int .i64)=L5 at *
 simp -implicitDefEqProofs only [EQA,ZE,ZB,ZA,ZD,Zz,ZC,ZP,ZQ,ZR,ZM,ZN,ZO,ZS,ZL,ZK,implies_true,forall_const,Xn,Xo,Xq,Xf,Xg,Xp,Xk,ZH,ZJ,unA,Zu,Zy,unG,reduceCtorEq,Zl,decide_eq_true_eq,Xh,Xc,ite_self,↓reduceIte,Zw,ZG,gcT,gcA,Zm,Zf,Ze,Zg,Zn,Zb,Zo,Zh,Zr,Xe,Za2,ZaX,Za0,ZaZ,ZaV,Za7,ZaS,Zs,Zi,Zk,Zc,Zx,ZI,hk,hC,hx,hb,Zer,ZcF,c2P,Zh6,Zab,Za1,AVal.cells,ZdA,ZdB,Zad,kOk,viewAs,Zam,Zae,Zah,Zp,XG,We,ZaT,Zfc]
theorem ZzT (n:Z2) (G:Grp) (g k:Nat) (xs:List AVal):gcT 0 (keepL [46,8,2] [(46,.map 0),(8,.sl 1 g 0 k),(2,.ref 2 0)]) [.map (G.map fE),.row g 15 xs,.var (Z6 n),.free]=([(46,.map 0),(8,.sl 1 0 0 k),(2,.ref 2 0)],[.map (G.map fE),.row 0 15 xs,.var (Z6 n)]):=by
 have hr:=ZoU G
 have hm:=fun ρ=>Zr3 ρ G
 generalize G.map fE=M at *
 unfold Z6 Zi Zk
 generalize n.payload.map Zt=L1 at *
 generalize n.props.map Zc=L2 at *
 simp -implicitDefEqProofs only [EQA,ZE,ZB,ZA,ZD,Zz,ZC,ZP,ZQ,ZR,ZM,ZN,ZO,ZS,ZL,ZK,implies_true,forall_const,Xn,Xo,Xq,Xf,Xg,Xp,Xk,ZH,ZJ,unA,Zu,Zy,unG,reduceCtorEq,Zl,decide_eq_true_eq,Xh,Xc,ite_self,↓reduceIte,Zw,ZG,gcT,gcA,Zm,Zf,Ze,Zg,Zn,Zb,Zo,Zh,Zr,Xe,Za2,ZaX,Za0,ZaZ,ZaV,Za7,ZaS,Zs,Zi,Zk,Zc,Zx,ZI,hr,hm]
theorem ZwA (n:Z2) (G:Grp) (k:Nat) (xs:List AVal):gcT 0 (keepL [46,8,2] [(46,.map 0),(8,.sl 2 0 0 k),(2,.ref 1 0)]) [.map (G.map fE),.var (Z6 n),.row 0 15 xs]=([(46,.map 0),(8,.sl 1 0 0 k),(2,.ref 2 0)],[.map (G.map fE),.row 0 15 xs,.var (Z6 n)]):=by
 have hr:=ZoU G
 have hm:=fun ρ=>Zr3 ρ G
 generalize G.map fE=M at *
 unfold Z6 Zi Zk
 generalize n.payload.map Zt=L1 at *
 generalize n.props.map Zc=L2 at *
 simp -implicitDefEqProofs only [EQA,ZE,ZB,ZA,ZD,Zz,ZC,ZP,ZQ,ZR,ZM,ZN,ZO,ZS,ZL,ZK,implies_true,forall_const,Xn,Xo,Xq,Xf,Xg,Xp,Xk,ZH,ZJ,unA,Zu,Zy,unG,reduceCtorEq,Zl,decide_eq_true_eq,Xh,Xc,ite_self,↓reduceIte,Zw,ZG,gcT,gcA,Zm,Zf,Ze,Zg,Zn,Zb,Zo,Zh,Zr,Xe,Za2,ZaX,Za0,ZaZ,ZaV,Za7,ZaS,Zs,Zi,Zk,Zc,Zx,ZI,hr,hm]
theorem ZwE (n:Z2) (G:Grp) {tm:Tms} (h1:tget tm 46=.map 0) (h2:tget tm 8=.lst true []) (h3:tget tm 2=.ref 1 0):gcT 0 (keepL [46,8,2] tm) [.map (G.map fE),.var (Z6 n)]=([(46,.map 0),(8,.lst true []),(2,.ref 1 0)],[.map (G.map fE),.var (Z6 n)]):=by
 have hr:=ZoU G
 have hm:=fun ρ=>Zr3 ρ G
 generalize G.map fE=M at *
 unfold Z6 Zi Zk
 generalize n.payload.map Zt=L1 at *
 generalize n.props.map Zc=L2 at *
 simp -implicitDefEqProofs only [EQA,ZE,ZB,ZA,ZD,Zz,ZC,ZP,ZQ,ZR,ZM,ZN,ZO,ZS,ZL,ZK,implies_true,forall_const,Xn,Xo,Xq,Xf,Xg,Xp,Xk,ZH,ZJ,unA,Zu,Zy,unG,reduceCtorEq,Zl,decide_eq_true_eq,Xh,Xc,ite_self,↓reduceIte,Zw,ZG,gcT,gcA,Zm,Zf,Ze,Zg,Zn,Zb,Zo,Zh,Zr,Xe,Za2,ZaX,Za0,ZaZ,ZaV,Za7,ZaS,Zs,Zi,Zk,Zc,Zx,ZI,hr,hm,h1,h2,h3]
theorem Zu8 (n:Z2) (hn:Zdo n) (G:Grp) (hG:∀ p ∈ G,p.2.length<=1000000000):∀ (r d:Grp) (tm:Tms) (σ:Za),(∀ p ∈ r,p.2≠[]/\p.2.length<=1000000000)->d.length+r.length<=700000000->gcT 0 (keepL [46,8,2] tm) σ=([(46,.map 0),(8,.sl 1 0 0 d.length),(2,.ref 2 0)],[.map (G.map fE),.row 0 15 (d.map (Zaa n)),.var (Z6 n)]) ->
  ∃ tm' σ',Zcj FC PR BY 0 [46,8,2] 46 50 3 ZcF c2P (G.map fE) (r.map fE) tm σ=some (tm',σ')/\gcT 0 (keepL [46,8,2] tm') σ'=([(46,.map 0),(8,.sl 1 0 0 (d++r).length),(2,.ref 2 0)],[.map (G.map fE),.row 0 15 ((d++r).map (Zaa n)),.var (Z6 n)])
 | [],d,tm,σ,_,hb,h=>⟨tm,σ,rfl,by rw [X2];exact h⟩
 | (c,l)::r,d,tm,σ,hr,hb,h=>by
  obtain ⟨hl,hN⟩:=hr (c,l) (by simp)
  cases l with
  | nil=>exact absurd rfl hl
  | cons s l =>
  have hb1:(d.length+1)*200<=140737488355328:=by simp only [Xz] at hb;omega
  have e:=Zxk n hn G c s l hN tm σ d.length (d.map (Zaa n)) (by simp) hb1 h
  show ∃ tm' σ',(match ZdX FC PR BY 0 [46,8,2] 46 50 3 ZcF c2P (G.map fE) (fE (c,s::l)) tm σ with
   | some (tm',σ')=>Zcj FC PR BY 0 [46,8,2] 46 50 3 ZcF c2P (G.map fE) (r.map fE) tm' σ'
   | none=>none)=some (tm',σ')/\_
  rw [e]
  have ih:=Zu8 n hn G hG r (d++[(c,s::l)]) _ _ (fun p hp=>hr p (by simp [hp])) (by simp only [Xx,Xz,XF] at hb ⊢;omega)
   (by
    have:=ZzT n G 1 (d.length+1) (d.map (Zaa n)++[Zaa n (c,s::l)])
    rw [this];simp)
  rw [Wq,WD] at ih
  exact ih
end
section
abbrev Zft:=Go.Lib.compareBytes
theorem Zf4 (a b:ZF):leC Zft a b=true↔a<=b:=by
 unfold leC
 rw [Bool.not_eq_true',decide_eq_false_iff_not,Zg6,List.not_lt]
def ZdZ (l:List ZF):List ZF:=l.mergeSort (leC Zft)
theorem Zvg (l:List ZF):(ZdZ l).Pairwise (·<=·):=by
 have h:=Xaj (le:=leC Zft) (fun a b c h1 h2=>(Zf4 a c).2 (List.le_trans ((Zf4 a b).1 h1) ((Zf4 b c).1 h2))) (fun a b=>by
  rw [Wu,Zf4,Zf4];exact List.le_total a b) l
 exact h.imp fun h=>(Zf4 _ _).1 h
theorem Zfq (l:List ZF):(ZdZ l).Perm l:=W4 l _
theorem ZvI {d l:List ZF} (h:d.Perm l):ZdZ d=ZdZ l :=
 (((Zfq d).trans h).trans (Zfq l).symm).eq_of_pairwise (fun a b _ _ h1 h2=>List.le_antisymm h1 h2) (Zvg d) (Zvg l)
def Zcz (G:Grp):Grp:=(ZdZ (G.map (·.1))).map fun c=>(c,(G.lookup c).getD [])
theorem ZsV {β:Type}:∀ {G:List (ZF×β)} {c:ZF} {l:β},(G.map (·.1)).Nodup->(c,l) ∈ G->G.lookup c=some l
 | [],c,l,_,h=>by simp at h
 | (k,m)::G,c,l,hn,h=>by
  rw [Xs,List.nodup_cons] at hn
  rw [XZ]
  rcases XJ.1 h with e | h'
  ·injection e with e1 e2
   subst e1 e2
   simp
  ·have : (c == k)=false:=by
    rw [beq_eq_false_iff_ne]
    rintro rfl
    exact hn.1 (XK.2 ⟨(c,l),h',rfl⟩)
   rw [this]
   exact ZsV hn.2 h'
theorem Ztc (n:Z2):∀ d:Grp,Zbv ZeR (d.map (Zaa n))=some (d.map (·.1))
 | []=>rfl
 | p::d=>by
  show (Zbv ZeR (d.map (Zaa n))).map (p.1::·)=_
  rw [Ztc n d];rfl
theorem ZAv (n:Z2) {d G:Grp} (hp:d.Perm G) (hn:(G.map (·.1)).Nodup):ZdU Zft (d.map (Zaa n)) (d.map (·.1))=(Zcz G).map (Zaa n):=by
 have hnd:(d.map (·.1)).Nodup:=(hp.map (·.1)).nodup_iff.2 hn
 unfold ZdU Zcz
 rw [Wn]
 have e:(d.map (·.1)).mergeSort (leC Zft)=ZdZ (G.map (·.1)):=ZvI (hp.map _)
 rw [e]
 apply WK
 intro c hc
 have hc:=(Zfq _).mem_iff.1 hc
 obtain ⟨⟨c',l⟩,hm,rfl⟩:=XK.1 hc
 have hd:=hp.mem_iff.2 hm
 obtain ⟨i,hi⟩:=List.mem_iff_getElem?.1 hd
 have h1:(d.map (·.1))[i]?=some c':=by rw [XX,hi];rfl
 have h2:(d.map (Zaa n))[i]?=some (Zaa n (c',l)):=by rw [XX,hi];rfl
 rw [Zgm hnd h1 h2]
 simp only [Function.comp,ZsV hn hm,Option.getD_some]
theorem ZkV (G:Grp):(Zcz G).length=G.length:=by
 unfold Zcz;rw [XH,(Zfq _).length_eq,XH]
theorem ZAM (n:Z2) {d G:Grp} (hp:d.Perm G) (hn:(G.map (·.1)).Nodup) (h:d.length < 4611686018427387904):E 23 [.sl 0 0 0 d.length,.fn 24 []] [.row 0 15 (d.map (Zaa n))]=some (.tup [],[.row 0 15 ((Zcz G).map (Zaa n))]):=by
 refine Zcg.2 ⟨1,?_⟩
 show ZfI 15 24 ZeR Zft [.sl 0 0 0 d.length,.fn 24 []] [.row 0 15 (d.map (Zaa n))]=_
 have hnd:(d.map (·.1)).Nodup:=(hp.map (·.1)).nodup_iff.2 hn
 simp only [ZfI,Ztc,XH,h,hnd,and_self,if_true,ZAv n hp hn]
theorem Zw8 (n:Z2) {d G:Grp} (hp:d.Perm G) (hn:(G.map (·.1)).Nodup) (h:d.length < 4611686018427387904) {σ:Za} {t sq:Nat} (hs:σ[t]?=some (.row 0 15 (d.map (Zaa n)))):ZZ E BY σ sq 23 0 true [.sl t 0 0 d.length,.fn 24 []]=some (.tup [],σ.set t (.row 0 15 ((Zcz G).map (Zaa n))),{ any:=true }):=by
 refine ZvW (args':=[.sl 0 0 0 d.length,.fn 24 []]) hs (by kernel_rfl) rfl rfl (fun ρ h=>by simp only [ZV,Zj,h]) (fun ρ=>rfl) (Xv rfl) ?_
 rw [ZAM n hp hn h]
 rfl
theorem Zwy (σ:Za) (sq:Nat):ZZ E BY σ sq 23 0 true [.lst true [],.fn 24 []]=some (.tup [],σ,{}):=by
 have h:E 23 [.lst true [],.fn 24 []] []=some (.tup [],[]):=Zcg.2 ⟨1,rfl⟩
 unfold ZZ ZcB
 rw [show BY 23=true by kernel_rfl]
 simp only [if_true,show ZW [AVal.lst true [],.fn 24 []]=[] from rfl,show Zp σ []=σ from rfl]
 rw [show Zf σ 1000 [] []=[] from rfl]
 unfold ZbT
 rw [if_pos (by rfl),show ZV (Ze σ 0 []) [AVal.lst true [],.fn 24 []]=[.lst true [],.fn 24 []] from rfl,show Zg σ 0 [] (Ze σ 0 []) [] 0=[] from rfl,h]
 rfl
theorem Zwe (n:Z2) {d G:Grp} (hp:d.Perm G) (hn:(G.map (·.1)).Nodup) (hd:d.length < 4611686018427387904) (tm:Tms) (σ:Za) (h:gcT 0 (keepL [46,8,2] tm) σ=([(46,.map 0),(8,.sl 1 0 0 d.length),(2,.ref 2 0)],[.map (G.map fE),.row 0 15 (d.map (Zaa n)),.var (Z6 n)])) :
  ZeA FC PR BY 0 [46,8,2] c3P [.tmp 4] tm σ=some (.sl 0 0 0 d.length,[.row 0 15 ((Zcz G).map (Zaa n))]):=by
 have hs:=fun {σ:Za} {sq:Nat} hs=>Zw8 n hp hn hd (σ:=σ) (t:=1) (sq:=sq) hs
 unfold ZeA
 rw [h]
 generalize G.map fE=M at *
 generalize (Zcz G).map (Zaa n)=S at *
 generalize d.map (Zaa n)=D at *
 unfold Z6 Zi Zk
 generalize n.payload.map Zt=L1 at *
 generalize n.props.map Zc=L2 at *
 simp -implicitDefEqProofs only [EQA,ZE,ZB,ZA,ZD,Zz,ZC,ZP,ZQ,ZR,ZM,ZN,ZO,ZS,ZL,ZK,implies_true,forall_const,Xn,Xo,Xq,Xf,Xg,Xp,Xk,ZH,ZJ,unA,Zu,Zy,unG,reduceCtorEq,Zl,decide_eq_true_eq,Xh,Xc,ite_self,↓reduceIte,Zw,ZG,gcT,gcA,Zm,Zf,Ze,Zg,Zn,Zb,Zo,Zh,Zr,Xe,Za2,ZaX,Za0,ZaZ,ZaV,Za7,ZaS,Zs,Zi,Zk,Zc,Zx,ZI,hs,c3P]
 try (simp [Zaz,gcA,Zm,Zf,ZW,Z5,Ze,Zg,Zn,Zb,Zo,ZV,Zj,Zh,Zr,Xe])
theorem ZAE (n:Z2) (G:Grp) (tm:Tms) (σ:Za) (h:gcT 0 (keepL [46,8,2] tm) σ=([(46,.map 0),(8,.lst true []),(2,.ref 1 0)],[.map (G.map fE),.var (Z6 n)])) :
  ZeA FC PR BY 0 [46,8,2] c3P [.tmp 4] tm σ=some (.lst true [],[]):=by
 have hs:=Zwy
 unfold ZeA
 rw [h]
 generalize G.map fE=M at *
 unfold Z6 Zi Zk
 generalize n.payload.map Zt=L1 at *
 generalize n.props.map Zc=L2 at *
 simp -implicitDefEqProofs only [EQA,ZE,ZB,ZA,ZD,Zz,ZC,ZP,ZQ,ZR,ZM,ZN,ZO,ZS,ZL,ZK,implies_true,forall_const,Xn,Xo,Xq,Xf,Xg,Xp,Xk,ZH,ZJ,unA,Zu,Zy,unG,reduceCtorEq,Zl,decide_eq_true_eq,Xh,Xc,ite_self,↓reduceIte,Zw,ZG,gcT,gcA,Zm,Zf,Ze,Zg,Zn,Zb,Zo,Zh,Zr,Xe,Za2,ZaX,Za0,ZaZ,ZaV,Za7,ZaS,Zs,Zi,Zk,Zc,Zx,ZI,hs,c3P]
 try (simp [Zaz,gcA,Zm,Zf,ZW,Z5,Ze,Zg,Zn,Zb,Zo,ZV,Zj,Zh,Zr,Xe])
theorem Zwq {α:Type} {p:α->Prop} (h:∃ x,p x) {a:α} (hu:∀ x,p x->x=a):h.choose=a:=hu _ h.choose_spec
theorem ZAI {es:List (AVal×AVal)} {tm:Tms} {σ:Za} {out:AVal×Za} {m ms en b1:Nat} {live:List Nat} {aslE:List AOp} {c2 c3:Zq} {rs:List Zci} (h:∀ es':List (AVal×AVal),es'.Perm es->ZeI FC PR BY m live ms en b1 aslE c2 c3 rs es es' tm σ=some out):Zga FC PR BY m live ms en b1 aslE c2 c3 rs es tm σ=some out:=by
 have h':∃ out,∀ es':List (AVal×AVal),es'.Perm es->ZeI FC PR BY m live ms en b1 aslE c2 c3 rs es es' tm σ=some out:=⟨out,h⟩
 unfold Zga
 rw [dif_pos h']
 refine congrArg some (Zwq h' fun x hx=>?_)
 have:=(hx es (Xa0 _)).symm.trans (h es (Xa0 _))
 injection this
theorem ZxQ {α β:Type} {f:α->β}:∀ {l:List α} {es:List β},es.Perm (l.map f)->∃ d:List α,d.Perm l/\es=d.map f:=by
 intro l es h
 have key:∀ {xs ys:List β},xs.Perm ys->∀ l:List α,ys=l.map f->∃ d:List α,d.Perm l/\xs=d.map f:=by
  intro xs ys h
  induction h with
  | nil=>intro l e;exact ⟨l,Xa0 _,e⟩
  | cons x _ ih =>
   intro l e
   cases l with
   | nil=>simp at e
   | cons a l =>
    simp only [Xs,Xaf] at e
    obtain ⟨d,h1,h2⟩:=ih l e.2
    exact ⟨a::d,h1.cons a,by rw [Xs,<-h2,e.1]⟩
  | swap x y r =>
   intro l e
   match l,e with
   | a::b::l,e =>
    simp only [Xs,Xaf] at e
    refine ⟨b::a::l,List.Perm.swap a b l,?_⟩
    simp only [Xs,e.1,e.2.1,e.2.2]
  | trans _ _ ih1 ih2 =>
   intro l e
   obtain ⟨d,h1,h2⟩:=ih2 l e
   obtain ⟨d',h3,h4⟩:=ih1 d h2
   exact ⟨d',h3.trans h1,h4⟩
 exact key h l rfl
structure OkG (n:Nat) (G:Grp):Prop where
 nd:(G.map (·.1)).Nodup
 ne:∀ p ∈ G,p.2≠[]/\p.2.length<=n
 len:G.length<=n
theorem Zyq {n:Nat} {G:Grp} (h:OkG n G) (c:ZF) (s:Zat):OkG (n+1) (Zbl G c s):=by
 cases hg:ZbV c G 0 with
 | none =>
  rw [Zhw hg]
  have hc:c ∉ G.map (·.1):=by
   have key:∀ (G:Grp) (i:Nat),ZbV c G i=none->c ∉ G.map (·.1):=by
    intro G
    induction G with
    | nil=>intro i _ h;simp at h
    | cons p G ih =>
     intro i h
     obtain ⟨k,l⟩:=p
     simp only [ZbV] at h
     split at h
     ·cases h
     ·rename_i e
      rw [Xs,XJ]
      rintro (h' | h')
      ·exact e h'
      ·exact ih _ h h'
   exact key G 0 hg
  refine ⟨?_,?_,by rw [Xx];have:=h.len;simp;omega⟩
  ·rw [X9,List.nodup_append]
   refine ⟨h.nd,by simp,?_⟩
   intro a ha b hb e
   simp only [Xs,XV,XW] at hb
   subst e hb
   exact hc ha
  ·intro p hp
   rcases Xu.1 hp with hp | hp
   ·have:=h.ne p hp;exact ⟨this.1,by omega⟩
   ·rw [XW] at hp;subst hp;simp
 | some q =>
  obtain ⟨j',_,h2,h3⟩:=Zge (s:=s) (l:=q.2) (j:=q.1) hg
  rw [h3]
  refine ⟨?_,?_,by rw [List.length_set];have:=h.len;omega⟩
  ·have : (G.set j' (c,q.2++[s])).map (·.1)=G.map (·.1):=by
    rw [XaX]
    apply List.ext_getElem?
    intro i
    rw [List.getElem?_set]
    split
    ·rename_i e;subst e
     simp [h2]
     have:=(List.getElem?_eq_some_iff.1 h2).1
     omega
    ·rfl
   rw [this];exact h.nd
  ·intro p hp
   rcases X5 hp with hp | rfl
   ·have:=h.ne p hp;exact ⟨this.1,by omega⟩
   ·have:=h.ne _ (Xr h2)
    simp at this ⊢
    omega
theorem Zhb (n:Z2):∀ (hits:List Zay) (G:Grp) (k:Nat),OkG k G->OkG (k+hits.length) (Zb2 n G hits)
 | [],G,k,h=>h
 | x::r,G,k,h=>by
  have h2:OkG (k+1) (if ZcO n x then Zbl G x.client x.sub else G):=by
   split
   ·exact Zyq h _ _
   ·exact ⟨h.nd,fun p hp=>⟨(h.ne p hp).1,by have:=(h.ne p hp).2;omega⟩,by have:=h.len;omega⟩
  have:=Zhb n r _ (k+1) h2
  rw [Xz,show k+(r.length+1)=k+1+r.length by omega]
  exact this
def Zbi (n:Z2) (hits:List Zay):Grp:=Zcz (Zb2 n [] hits)
theorem Zuj (n:Z2) (hn:Zdo n) (hits:List Zay) (hN:hits.length<=600000000):ER 8 [Zck n,.lst false (hits.map Z1)] []=some (ZbR ((Zbi n hits).map (Zaa n)),Zbs 15 ((Zbi n hits).map (Zaa n))):=by
 rw [Zy5]
 unfold Zbi
 obtain ⟨tm',e1,e2⟩:=ZpQ n hits (by omega) hits 0 [] rfl (by simp)
 have hok:=Zhb n hits [] 0 ⟨by simp,by simp,by simp⟩
 rw [XC] at hok
 have h5:tget tm' 5=.map 0:=by
  have:=congrArg (fun t=>tget t 5) e2
  simpa [ZfK,tget] using this
 have h2:tget tm' 2=.ref 1 0:=by
  have:=congrArg (fun t=>tget t 2) e2
  simpa [ZfK,tget] using this
 generalize Zb2 n [] hits=G at *
 have z:((0:Nat):Int)=0:=rfl
 rw [z] at e1
 have s1:evC FC PR BY 0 c1P (enterA 0 [Zck n,.lst false (hits.map Z1)] []) []=some (.normal,[(8,.lst true []),(5,.map 0),(2,.ref 1 0)],[.gmap 6 (gE G),.var (Z6 n)]):=by
  have hl:(hits.map Z1).length=hits.length:=XH ..
  have h0:gE []=[]:=rfl
  rw [h0] at e1
  unfold plT at e1
  generalize gE G=M at *
  generalize hits.map Z1=S at *
  unfold Zck Z6 Zi Zk at *
  generalize n.payload.map Zt=L1 at *
  generalize n.props.map Zc=L2 at *
  simp -implicitDefEqProofs only [EQA,ZE,ZB,ZA,ZD,Zz,ZC,ZP,ZQ,ZR,ZM,ZN,ZO,ZS,ZL,ZK,implies_true,forall_const,Xn,Xo,Xq,Xf,Xg,Xp,Xk,ZH,ZJ,unA,Zu,Zy,unG,reduceCtorEq,Zl,decide_eq_true_eq,Xh,Xc,ite_self,↓reduceIte,Zw,ZG,gcT,gcA,Zm,Zf,Ze,Zg,Zn,Zb,Zo,Zh,Zr,Xe,Za2,ZaX,Za0,ZaZ,ZaV,Za7,ZaS,Zs,Zi,Zk,Zc,Zx,ZI,e1,hl,c1P]
  simp [Zf0,h5,h2]
 have s2:Zer BY Zh2 [(8,.lst true []),(5,.map 0),(2,.ref 1 0)] [.gmap 6 (gE G),.var (Z6 n)]=some ([(46,.map 0),(8,.lst true []),(5,.map 0),(2,.ref 1 0)],[.gmap 6 (gE G),.var (Z6 n)]):=by
  generalize gE G=M
  generalize Z6 n=C
  rfl
 have s3:Zf2 [.gmap 6 (gE G),.var (Z6 n)] 0=some (G.map fE,[.map (G.map fE),.var (Z6 n)]):=by
  unfold Zf2
  rw [List.getElem?_cons_zero]
  simp only [ZsH,List.set_cons_zero]
 show (match evC FC PR BY 0 c1P (enterA 0 [Zck n,.lst false (hits.map Z1)] []) [] with
  | some (.normal,tm1,σ1)=>match Zer BY Zh2 tm1 σ1 with
   | some (tm2,σ2)=>match tget tm2 46 with
    | .map t=>match Zf2 σ2 t with
     | some (es,σ3)=>Zga FC PR BY 0 [46,8,2] 46 50 3 ZcF c2P c3P [.tmp 4] es tm2 σ3
     | none=>none
    | _=>none
   | none=>none
  | _=>none)=_
 rw [s1]
 simp only [s2,tget,if_true,s3]
 refine ZAI fun es' hp=>?_
 obtain ⟨d,hd,rfl⟩:=ZxQ hp
 have hlen:=hd.length_eq
 have hg:=ZwE n G (tm:=[(46,.map 0),(8,.lst true []),(5,.map 0),(2,.ref 1 0)]) rfl rfl rfl
 cases d with
 | nil =>
  have e:G=[]:=List.nil_perm.1 hd
  subst e
  show ZeA FC PR BY 0 [46,8,2] c3P [.tmp 4] _ _=_
  rw [ZAE n [] _ _ hg,show Zcz []=[] from by simp [Zcz,ZdZ]]
  rfl
 | cons p r =>
  have hmem:=fun q hq=>hok.ne q (hd.mem_iff.1 hq)
  have hp0:=hmem p (by simp)
  obtain ⟨c,l⟩:=p
  cases l with
  | nil=>exact absurd rfl hp0.1
  | cons s l =>
  have hb:(s::l).length<=1000000000:=by have:=hp0.2;simp only at this;omega
  have e:=Zy4 n hn G c s l hb _ _ hg
  obtain ⟨tm2,σ2,f1,f2⟩:=Zu8 n hn G (fun q hq=>by have:=(hok.ne q hq).2;omega) r [(c,s::l)] _ _ (fun q hq=>by have:=hmem q (by simp [hq]);exact ⟨this.1,by have:=this.2;omega⟩) (by have:=hok.len;simp only [Xz,XF] at hlen ⊢;omega) (ZwA n G 1 [Zaa n (c,s::l)])
  unfold ZeI
  have e3:Zcj FC PR BY 0 [46,8,2] 46 50 3 ZcF c2P (G.map fE) (((c,s::l)::r).map fE) [(46,.map 0),(8,.lst true []),(5,.map 0),(2,.ref 1 0)] [.map (G.map fE),.var (Z6 n)]=some (tm2,σ2):=by
   show (match ZdX FC PR BY 0 [46,8,2] 46 50 3 ZcF c2P (G.map fE) (fE (c,s::l)) [(46,.map 0),(8,.lst true []),(5,.map 0),(2,.ref 1 0)] [.map (G.map fE),.var (Z6 n)] with
    | some (tm',σ')=>Zcj FC PR BY 0 [46,8,2] 46 50 3 ZcF c2P (G.map fE) (r.map fE) tm' σ'
    | none=>none)=_
   rw [e]
   exact f1
  rw [e3]
  rw [WD] at f2
  simp only
  rw [Zwe n hd hok.nd (by have:=hok.len;omega) tm2 σ2 f2]
  have hpl:0 < ((Zcz G).map (Zaa n)).length:=by rw [XH,ZkV,<-hlen];simp
  rw [Zhf hpl,Zfk hpl,XH,ZkV,hlen]
end
section
def ZcN:Zq:=(.seq (.region [oI 72 (.call 9 0 true []),oM 4 72] none [4]) .ret)
def ZlS:Zq:=ZcN
def ZdL:=xw ZlS ZcN rfl
def ZcV:Zq:=(.seq (.seq (.region [oM 41 10,oM 42 8,oI 43 (.len (.t 42)),oI 44 (.bin .lss (.t 41) (.t 43))] none [44,10,9,8]) (.cond (.t 44) .skip (.exit 2))) (.seq (.block 3 (.seq (.region [oM 47 8,oM 48 10,oI 49 (.iaddr 15 (.t 47) (.t 48)),oF 50 0 49,oL 51 50,oM 52 9,oM 53 10,oI 54 (.iaddr 15 (.t 52) (.t 53)),oF 55 0 54,oL 56 55,oI 57 (.bin .neq (.t 51) (.t 56)),oM 58 57,⟨(some 59),(.mov (.t 8)),(some (58,false)),[]⟩,⟨(some 60),(.mov (.t 10)),(some (58,false)),[]⟩,⟨(some 61),(.iaddr 15 (.t 59) (.t 60)),(some (58,false)),[]⟩,⟨(some 62),(.faddr 1 (.t 61)),(some (58,false)),[]⟩,⟨(some 63),(.ld (some 14) (.t 62)),(some (58,false)),[]⟩,⟨(some 64),(.mov (.t 9)),(some (58,false)),[]⟩,⟨(some 65),(.mov (.t 10)),(some (58,false)),[]⟩,⟨(some 66),(.iaddr 15 (.t 64) (.t 65)),(some (58,false)),[]⟩,⟨(some 67),(.faddr 1 (.t 66)),(some (58,false)),[]⟩,⟨(some 68),(.ld (some 14) (.t 67)),(some (58,false)),[]⟩,⟨(some 69),(.call 10 0 true [(.t 63),(.t 68)]),(some (58,false)),[]⟩,⟨(some 70),(.un .not (.t 69)),(some (58,false)),[]⟩,oI 71 (.pick (.t 58) (.c (.bool true)) (.t 70))] (some [(2,7),(4,7),(2,9),(4,9),(14,19),(16,19),(14,21),(16,21),(22,22)]) [71,10,9,8]) (.cond (.t 71) (.seq (.region [oI 4 (.mov (.c (.bool false)))] none [4]) .ret) .skip))) (.region [oM 45 10,oI 46 (.bin .add (.t 45) (.c (.int .i64 1))),oM 10 46] none [10,9,8])))
def Zg9:Zq:=ZcV
def ZdH:=xw Zg9 ZcV rfl
def ZcS:Zq:=(.seq (.region [oI 30 (.ld (some 10) (.t 5)),oM 31 1,oI 32 (.call 8 0 true [(.t 30),(.t 31)]),oI 33 (.ld (some 10) (.t 5)),oM 34 6,oI 35 (.call 8 0 true [(.t 33),(.t 34)]),oM 8 32,oM 9 35] (some [(0,3),(2,3),(5,5)]) [9,8]) (.seq (.seq (.region [oM 36 8,oI 37 (.len (.t 36)),oM 38 9,oI 39 (.len (.t 38)),oI 40 (.bin .neq (.t 37) (.t 39))] none [40,9,8]) (.cond (.t 40) (.seq (.region [oI 4 (.mov (.c (.bool false)))] none [4]) .ret) .skip)) (.seq (.seq (.region [oI 10 (.mov (.c (.int .i64 0)))] none [10,9,8]) (.block 2 (.loop [10,9,8] Zg9))) ZlS)))
def ZjA:Zq:=ZcS
def ZdW:=xw ZjA ZcS rfl
def Zc0:Zq:=(.seq (.seq (.region [oM 19 7,oI 20 (.bin .geq (.t 19) (.c (.int .i64 0)))] none [20,7,6,5,1]) (.cond (.t 20) .skip (.exit 0))) (.seq (.block 1 (.region [oM 23 6,oM 24 1,oM 25 7,oI 26 (.iaddr 7 (.t 24) (.t 25)),oI 27 (.ld (some 7) (.t 26)),oI 28 (.bslice false 7 1 (.agg [(.str []),(.str []),(.int .i64 0),(.bool false),(.bool false),(.int .i64 0),(.int .i64 0)]) [(0,(.t 27))]),oI 29 (.app 7 64 (.agg [(.str []),(.str []),(.int .i64 0),(.bool false),(.bool false),(.int .i64 0),(.int .i64 0)]) (.t 23) (.t 28)),oM 6 29] none [7,6,5,1])) (.region [oM 21 7,oI 22 (.bin .sub (.t 21) (.c (.int .i64 1))),oM 7 22] none [7,6,5,1])))
def Ziu:Zq:=Zc0
def Zd9:=xw Ziu Zc0 rfl
def Zdb:Zq:=(.seq (.region [oI 2 (.box (.t 0)),oI 4 (.mov (.c (.bool false)))] none [2,1]) (.seq (.region [oI 11 (.ld (some 16) (.t 2)),oI 12 (.call 6 0 true [(.t 11)]),oI 13 (.field (some 10) 0 (.t 12)),oI 5 (.alloc [(.str []),(.lst true []),(.int .i64 0),(.bool false),(.str []),(.int .i64 0),(.lst true []),(.int .i64 0),(.int .i64 0),(.int .i64 0)]),oN (.st 10 (.t 5) (.t 13))] none [5,1]) (.seq (.region [oM 14 1,oI 15 (.call 7 0 true [(.t 14)]),oM 1 15] none [5,1]) (.seq (.region [oI 6 (.mov (.c (.lst true [])))] none [6,5,1]) (.seq (.seq (.region [oM 16 1,oI 17 (.len (.t 16)),oI 18 (.bin .sub (.t 17) (.c (.int .i64 1))),oM 7 18] none [7,6,5,1]) (.block 0 (.loop [7,6,5,1] Ziu))) ZjA)))))
def Zn9:Zan:=⟨[(.tmp 4)],Zdb⟩
theorem Zuq:FC 4=some Zn9:=by kernel_rfl
theorem ZdT:Zn9.body=Zdb:=rfl
theorem ZdK:Zn9.res=[(.tmp 4)]:=rfl
def ZdD:Zq:=(.seq (.region [oM 30 3,oM 2 30] none [2]) .ret)
def ZrJ:Zq:=ZdD
def ZeO:=xw ZrJ ZdD rfl
def ZdG:Zq:=(.seq (.seq (.region [oM 6 4,oM 7 0,oI 8 (.len (.t 7)),oI 9 (.bin .lss (.t 6) (.t 8)),oM 10 9,⟨(some 11),(.mov (.t 4)),(some (10,true)),[]⟩,⟨(some 12),(.bin .lss (.t 11) (.c (.int .i64 30))),(some (10,true)),[]⟩,oI 13 (.pick (.t 10) (.t 12) (.c (.bool false)))] none [13,4,3,0]) (.cond (.t 13) .skip (.exit 0))) (.seq (.block 1 (.seq (.region [oM 16 0,oM 17 4,oI 18 (.iaddr 7 (.t 16) (.t 17)),oI 19 (.ld (some 7) (.t 18)),oI 5 (.alloc [(.str []),(.str []),(.int .i64 0),(.bool false),(.bool false),(.int .i64 0),(.int .i64 0)]),oN (.st 7 (.t 5) (.t 19))] none [5,4,3,0]) (.seq (.region [oF 20 1 5,oF 21 1 20,oL 22 21,oI 23 (.call 20 0 true [(.t 22),(.c (.int .i64 0)),(.c (.int .i64 2))]),oF 24 1 5,oF 25 1 24,oN (.st 1 (.t 25) (.t 23))] none [5,4,3,0]) (.region [oM 26 3,oI 27 (.ld (some 7) (.t 5)),oI 28 (.bslice false 7 1 (.agg [(.str []),(.str []),(.int .i64 0),(.bool false),(.bool false),(.int .i64 0),(.int .i64 0)]) [(0,(.t 27))]),oI 29 (.app 7 64 (.agg [(.str []),(.str []),(.int .i64 0),(.bool false),(.bool false),(.int .i64 0),(.int .i64 0)]) (.t 26) (.t 28)),oM 3 29] none [4,3,0])))) (.region [oM 14 4,oI 15 (.bin .add (.t 14) (.c (.int .i64 1))),oM 4 15] none [4,3,0])))
def ZmJ:Zq:=ZdG
def ZeM:=xw ZmJ ZdG rfl
def ZdS:Zq:=(.seq (.region [oI 2 (.mov (.c (.lst true [])))] none [0]) (.seq (.region [oI 3 (.mov (.c (.lst true [])))] none [3,0]) (.seq (.seq (.region [oI 4 (.mov (.c (.int .i64 0)))] none [4,3,0]) (.block 0 (.loop [4,3,0] ZmJ))) ZrJ)))
def Zg3:Zan:=⟨[(.tmp 2)],ZdS⟩
theorem ZAw:FC 7=some Zg3:=by kernel_rfl
theorem ZeE:Zg3.body=ZdS:=rfl
theorem Zff:Zg3.res=[(.tmp 2)]:=rfl
noncomputable def Zgj (m:Nat) (tm:Tms) (σ:Za):Option (AVal×Za):=(ZaF m Zg3 (ZbY FC PR BY m ZrJ (Option.map (Zbb 0) (evL FC PR BY m [4,3,0] ZmJ tm σ))))
def ZnC:Zq:=(.seq (.region [oI 0 (.mov (.c (.bool false)))] none []) (.seq (.region [oI 2 (.build [(.str []),(.lst true []),(.int .i64 0),(.bool false),(.str []),(.int .i64 0),(.lst true []),(.int .i64 0),(.int .i64 0),(.int .i64 0)] [(2,1,(.c (.int .i64 2))),(4,1,(.c (.str [120])))]),oI 3 (.build [(.str []),(.int .i64 0),(.bool false),(.bool false),(.int .i64 0),(.int .i64 0)] [(2,1,(.c (.bool true)))]),oI 4 (.build [(.str []),(.str []),(.int .i64 0),(.bool false),(.bool false),(.int .i64 0),(.int .i64 0)] [(0,1,(.c (.str [120]))),(1,6,(.t 3))]),oI 5 (.build [(.str []),(.int .i64 0),(.bool false),(.bool false),(.int .i64 0),(.int .i64 0)] [(1,1,(.c (.int .i64 1))),(5,1,(.c (.int .i64 7)))]),oI 6 (.build [(.str []),(.str []),(.int .i64 0),(.bool false),(.bool false),(.int .i64 0),(.int .i64 0)] [(0,1,(.c (.str [121]))),(1,6,(.t 5))]),oI 7 (.build [(.str []),(.int .i64 0),(.bool false),(.bool false),(.int .i64 0),(.int .i64 0)] [(5,1,(.c (.int .i64 3)))]),oI 8 (.build [(.str []),(.str []),(.int .i64 0),(.bool false),(.bool false),(.int .i64 0),(.int .i64 0)] [(0,1,(.c (.str [121]))),(1,6,(.t 7))]),oI 9 (.bslice false 7 3 (.agg [(.str []),(.str []),(.int .i64 0),(.bool false),(.bool false),(.int .i64 0),(.int .i64 0)]) [(0,(.t 4)),(1,(.t 6)),(2,(.t 8))]),oI 10 (.call 8 0 true [(.t 2),(.t 9)]),oM 1 10] none [1]) (.seq (.region [oM 11 1,oI 12 (.len (.t 11)),oI 13 (.bin .eql (.t 12) (.c (.int .i64 1))),oM 14 13,⟨(some 15),(.mov (.t 1)),(some (14,true)),[]⟩,⟨(some 16),(.iaddr 15 (.t 15) (.c (.int .i64 0))),(some (14,true)),[]⟩,⟨(some 17),(.faddr 0 (.t 16)),(some (14,true)),[]⟩,⟨(some 18),(.ld none (.t 17)),(some (14,true)),[]⟩,⟨(some 19),(.bin .eql (.t 18) (.c (.str [121]))),(some (14,true)),[]⟩,oI 20 (.pick (.t 14) (.t 19) (.c (.bool false))),oM 21 20,⟨(some 22),(.mov (.t 1)),(some (21,true)),[]⟩,⟨(some 23),(.iaddr 15 (.t 22) (.c (.int .i64 0))),(some (21,true)),[]⟩,⟨(some 24),(.faddr 1 (.t 23)),(some (21,true)),[]⟩,⟨(some 25),(.faddr 10 (.t 24)),(some (21,true)),[]⟩,⟨(some 26),(.ld none (.t 25)),(some (21,true)),[]⟩,⟨(some 27),(.bin .eql (.t 26) (.c (.int .i64 1))),(some (21,true)),[]⟩,oI 28 (.pick (.t 21) (.t 27) (.c (.bool false))),oM 29 28,⟨(some 30),(.mov (.t 1)),(some (29,true)),[]⟩,⟨(some 31),(.iaddr 15 (.t 30) (.c (.int .i64 0))),(some (29,true)),[]⟩,⟨(some 32),(.faddr 1 (.t 31)),(some (29,true)),[]⟩,⟨(some 33),(.faddr 12 (.t 32)),(some (29,true)),[]⟩,⟨(some 34),(.ld none (.t 33)),(some (29,true)),[]⟩,⟨(some 35),(.len (.t 34)),(some (29,true)),[]⟩,⟨(some 36),(.bin .eql (.t 35) (.c (.int .i64 2))),(some (29,true)),[]⟩,oI 37 (.pick (.t 29) (.t 36) (.c (.bool false))),oM 38 37,⟨(some 39),(.mov (.t 1)),(some (38,true)),[]⟩,⟨(some 40),(.iaddr 15 (.t 39) (.c (.int .i64 0))),(some (38,true)),[]⟩,⟨(some 41),(.faddr 1 (.t 40)),(some (38,true)),[]⟩,⟨(some 42),(.faddr 12 (.t 41)),(some (38,true)),[]⟩,⟨(some 43),(.ld none (.t 42)),(some (38,true)),[]⟩,⟨(some 44),(.iaddr 1 (.t 43) (.c (.int .i64 0))),(some (38,true)),[]⟩,⟨(some 45),(.ld none (.t 44)),(some (38,true)),[]⟩,⟨(some 46),(.bin .eql (.t 45) (.c (.int .i64 3))),(some (38,true)),[]⟩,oI 47 (.pick (.t 38) (.t 46) (.c (.bool false))),oM 0 47] none [0]) .ret)))
def Zlw:Zan:=⟨[(.tmp 0)],ZnC⟩
theorem Zxa:FC 9=some Zlw:=by kernel_rfl
theorem ZxT:Zlw.body=ZnC:=rfl
theorem ZwB:Zlw.res=[(.tmp 0)]:=rfl
end
section
def wH (h:Zay):Zay:={ h with sub:={ h.sub with qos:=ZcW h.sub.qos 0 2 } }
def ZaH (hits:List Zay):List Zay:=(hits.take 30).map wH
def hcT (i:Int) (S:AVal):List AVal->Tms
 | []=>[(4,.int .i64 i),(3,.lst true []),(0,S)]
 | x::xs=>[(4,.int .i64 i),(3,.sl 0 0 0 (x::xs).length),(0,S)]
theorem ZqO (i:Int) (S:AVal) {X:List AVal} (h:0 < X.length):hcT i S X=[(4,.int .i64 i),(3,.sl 0 0 0 X.length),(0,S)]:=by
 cases X with
 | nil=>simp at h
 | cons x xs=>rfl
theorem ZzH (hits:List Zay) (i:Int) (X:List AVal) (h:¬i < (hits.length:Int)\/¬i < 30):Zgj 0 (hcT i (.lst false (hits.map Z1)) X) (Zbs 7 X)=some (ZbR X,Zbs 7 X):=by
 have hl:(hits.map Z1).length=hits.length:=XH ..
 unfold Zgj
 rw [Za4]
 have hh:(if i < (hits.length:Int) then decide (i < 30) else false)=false:=by
  split
  ·rename_i h1
   have : ¬i < 30:=h.resolve_left (by simpa using h1)
   simp [this]
  ·rfl
 generalize hits.map Z1=S at *
 cases X with
 | nil =>
  rw [Zgx,ZeH]
  unfold hcT
  by_cases c0:i < (hits.length:Int)
  ·have c1:¬i < 30:=h.resolve_left (by simpa using c0)
   simp -implicitDefEqProofs only [EQA,ZE,ZB,ZA,ZD,Zz,ZC,ZP,ZQ,ZR,ZM,ZN,ZO,ZS,ZL,ZK,implies_true,forall_const,Xn,Xo,Xq,Xf,Xg,Xp,Xk,ZH,ZJ,unA,Zu,Zy,unG,reduceCtorEq,Zl,decide_eq_true_eq,Xh,Xc,ite_self,↓reduceIte,Zw,ZG,gcT,gcA,Zm,Zf,Ze,Zg,Zn,Zb,Zo,Zh,Zr,Xe,ZeE,ZdS,Zff,ZeO,ZdD,ZeM,ZdG,Zs,Zi,Zk,Zc,Zx,ZI,c0,c1,hl]
   try (simp [Zaz,gcA,Zm,Zf,ZW,Z5,Ze,Zg,Zn,Zb,Zo,ZV,Zj,Zh,Zr,Xe])
  ·simp -implicitDefEqProofs only [EQA,ZE,ZB,ZA,ZD,Zz,ZC,ZP,ZQ,ZR,ZM,ZN,ZO,ZS,ZL,ZK,implies_true,forall_const,Xn,Xo,Xq,Xf,Xg,Xp,Xk,ZH,ZJ,unA,Zu,Zy,unG,reduceCtorEq,Zl,decide_eq_true_eq,Xh,Xc,ite_self,↓reduceIte,Zw,ZG,gcT,gcA,Zm,Zf,Ze,Zg,Zn,Zb,Zo,Zh,Zr,Xe,ZeE,ZdS,Zff,ZeO,ZdD,ZeM,ZdG,Zs,Zi,Zk,Zc,Zx,ZI,c0,hl]
   try (simp [Zaz,gcA,Zm,Zf,ZW,Z5,Ze,Zg,Zn,Zb,Zo,ZV,Zj,Zh,Zr,Xe])
 | cons x xs =>
  rw [Zgh,ZfE]
  have hXp:0 < (x::xs).length:=by simp
  rw [ZqO _ _ hXp]
  generalize x::xs=X at *
  by_cases c0:i < (hits.length:Int)
  ·have c1:¬i < 30:=h.resolve_left (by simpa using c0)
   simp -implicitDefEqProofs only [EQA,ZE,ZB,ZA,ZD,Zz,ZC,ZP,ZQ,ZR,ZM,ZN,ZO,ZS,ZL,ZK,implies_true,forall_const,Xn,Xo,Xq,Xf,Xg,Xp,Xk,ZH,ZJ,unA,Zu,Zy,unG,reduceCtorEq,Zl,decide_eq_true_eq,Xh,Xc,ite_self,↓reduceIte,Zw,ZG,gcT,gcA,Zm,Zf,Ze,Zg,Zn,Zb,Zo,Zh,Zr,Xe,ZeE,ZdS,Zff,ZeO,ZdD,ZeM,ZdG,Zs,Zi,Zk,Zc,Zx,ZI,c0,c1,hl]
   try (simp [Zaz,gcA,Zm,Zf,ZW,Z5,Ze,Zg,Zn,Zb,Zo,ZV,Zj,Zh,Zr,Xe])
  ·simp -implicitDefEqProofs only [EQA,ZE,ZB,ZA,ZD,Zz,ZC,ZP,ZQ,ZR,ZM,ZN,ZO,ZS,ZL,ZK,implies_true,forall_const,Xn,Xo,Xq,Xf,Xg,Xp,Xk,ZH,ZJ,unA,Zu,Zy,unG,reduceCtorEq,Zl,decide_eq_true_eq,Xh,Xc,ite_self,↓reduceIte,Zw,ZG,gcT,gcA,Zm,Zf,Ze,Zg,Zn,Zb,Zo,Zh,Zr,Xe,ZeE,ZdS,Zff,ZeO,ZdD,ZeM,ZdG,Zs,Zi,Zk,Zc,Zx,ZI,c0,hl]
   try (simp [Zaz,gcA,Zm,Zf,ZW,Z5,Ze,Zg,Zn,Zb,Zo,ZV,Zj,Zh,Zr,Xe])
theorem ZuX (hits:List Zay):∀ (r:List Zay) (i:Nat) (acc:List Zay),(hits.take 30).drop i=r->acc.length<=i->i<=30 ->
  Zgj 0 (hcT i (.lst false (hits.map Z1)) (acc.map Z1)) (Zbs 7 (acc.map Z1))=some (ZbR ((acc++r.map wH).map Z1),Zbs 7 ((acc++r.map wH).map Z1))
 | [],i,acc,h,ha,hi=>by
  rw [Wo,X3] at h
  rw [XV,X2]
  exact ZzH hits i (acc.map Z1) (by omega)
 | x::r,i,acc,h,ha,hi=>by
  have hd:=Za8 h
  have hlt:i < min 30 hits.length:=by have:=hd.2.2;rwa [X3] at this
  have ih:=ZuX hits r (i+1) (acc++[wH x]) hd.2.1 (by simp;omega) (by omega)
  have hat:hits[i]?=some x:=by
   have:=hd.1
   rw [List.getElem?_take] at this
   rw [if_pos (by omega)] at this
   exact this
  have h1:(i:Int) < (hits.length:Int):=by omega
  have h2:(i:Int) < 30:=by omega
  have hl:(hits.map Z1).length=hits.length:=XH ..
  have e1:∀ (σ:Za) (b:Bool) (kk:IntKind),ZaT σ 7 (.lst b (hits.map Z1)) (.int kk (i:Int))=some (.iptr [.str x.client,.str x.sub.filter,.int .i64 x.sub.qos,.bool x.sub.noLocal,.bool x.sub.asPublished,.int .i64 x.sub.handling,.int .i64 x.sub.id] 0,σ,{}):=fun σ b kk=>iad hat Z1 (k:=7) rfl σ b kk
  have hw:IntKind.i64.wrap ((i:Int)+1)=((i+1:Nat):Int):=by rw [Zcy (by omega) (by omega)];rfl
  have hW:=fun σ sq own view=>Zqc σ sq own view x.sub.qos
  rw [Wq,WD,<-Xs] at ih
  generalize hR:ZbR ((acc++(x::r).map wH).map Z1)=R at *
  generalize hR2:Zbs 7 ((acc++(x::r).map wH).map Z1)=R2 at *
  have hXl:(acc.map Z1).length=acc.length:=by simp
  rw [X9,Xs,XV] at ih
  have hwx:Z1 (wH x)=.agg [.str x.client,.str x.sub.filter,.int .i64 (ZcW x.sub.qos 0 2),.bool x.sub.noLocal,.bool x.sub.asPublished,.int .i64 x.sub.handling,.int .i64 x.sub.id]:=rfl
  rw [hwx] at ih
  have hk:∀ q:Int,kOk 7 [AVal.agg [.str x.client,.str x.sub.filter,.int .i64 q,.bool x.sub.noLocal,.bool x.sub.asPublished,.int .i64 x.sub.handling,.int .i64 x.sub.id]]=true:=fun _=>rfl
  clear hd h hR hR2 hat
  generalize hits.map Z1=S at *
  unfold Zgj at ih ⊢
  rw [Za4]
  cases hids:acc.map Z1 with
  | nil =>
   rw [hids,X1,ZfE] at ih
   rw [ZeH]
   unfold hcT at ih ⊢
   simp only [Xz,XF,XC] at ih
   simp -implicitDefEqProofs only [EQA,ZE,ZB,ZA,ZD,Zz,ZC,ZP,ZQ,ZR,ZM,ZN,ZO,ZS,ZL,ZK,implies_true,forall_const,Xn,Xo,Xq,Xf,Xg,Xp,Xk,ZH,ZJ,unA,Zu,Zy,unG,reduceCtorEq,Zl,decide_eq_true_eq,Xh,Xc,ite_self,↓reduceIte,Zw,ZG,gcT,gcA,Zm,Zf,Ze,Zg,Zn,Zb,Zo,Zh,Zr,Xe,ZeE,ZdS,Zff,ZeO,ZdD,ZeM,ZdG,Zs,Zi,Zk,Zc,Zx,ZI,h1,h2,hl,e1,hw,hW,hk,Zab,AVal.cells,ZT,Xt,XA,ZaW,Zba,Zcc,Zbk,WA,WG,Xt,XA,Xz,XF,ZbN,ZbQ,ZbU,ZbM,ZbS,XM,XU,ZaL,ZaR,ZaP,Zbe,ZbH,Zbq,ZbK,ZbP,ZaY,ZbJ,XZ,Wi,Xt,XA,X0,Zad,viewAs,Zam,Zae,Zah,Zp,XG,We,XN,Xk,Xf]
   exact ih
  | cons y ys =>
   rw [hids] at ih hXl
   have hXp:0 < (y::ys).length:=by simp
   have hXq:∀ z:AVal,0 < (y::ys++[z]).length:=fun z=>by simp
   rw [ZqO _ _ (hXq _),Zfk (hXq _)] at ih
   rw [ZqO _ _ hXp,Zfk hXp]
   generalize y::ys=X at *
   have k2:(X.length+1)*64<=140737488355328:=by omega
   simp only [Xx,Xz,XF,XC] at ih
   simp -implicitDefEqProofs only [EQA,ZE,ZB,ZA,ZD,Zz,ZC,ZP,ZQ,ZR,ZM,ZN,ZO,ZS,ZL,ZK,implies_true,forall_const,Xn,Xo,Xq,Xf,Xg,Xp,Xk,ZH,ZJ,unA,Zu,Zy,unG,reduceCtorEq,Zl,decide_eq_true_eq,Xh,Xc,ite_self,↓reduceIte,Zw,ZG,gcT,gcA,Zm,Zf,Ze,Zg,Zn,Zb,Zo,Zh,Zr,Xe,ZeE,ZdS,Zff,ZeO,ZdD,ZeM,ZdG,Zs,Zi,Zk,Zc,Zx,ZI,h1,h2,hl,e1,hw,hW,hk,k2,Zab,AVal.cells,ZT,Xt,XA,ZaW,Zba,Zcc,Zbk,WA,WG,Xt,XA,Xz,XF,ZbN,ZbQ,ZbU,ZbM,ZbS,XM,XU,ZaL,ZaR,ZaP,Zbe,ZbH,Zbq,ZbK,ZbP,ZaY,ZbJ,XZ,Wi,Xt,XA,X0,Zad,viewAs,Zam,Zae,Zah,Zp,XG,We,XN,Xk,Xf]
   exact ih
theorem Zwc (hits:List Zay):E 7 [.lst false (hits.map Z1)] []=some (ZbR ((ZaH hits).map Z1),Zbs 7 ((ZaH hits).map Z1)):=by
 have h:=ZuX hits (hits.take 30) 0 [] rfl (by simp) (by simp)
 have z:((0:Nat):Int)=0:=rfl
 rw [z,X1,XV,ZeH] at h
 change _=some (ZbR ((ZaH hits).map Z1),Zbs 7 ((ZaH hits).map Z1)) at h
 unfold hcT at h
 generalize hits.map Z1=S at *
 unfold Zgj at h
 rw [ZcT (by rfl) ZAw]
 simp -implicitDefEqProofs only [EQA,ZE,ZB,ZA,ZD,Zz,ZC,ZP,ZQ,ZR,ZM,ZN,ZO,ZS,ZL,ZK,implies_true,forall_const,Xn,Xo,Xq,Xf,Xg,Xp,Xk,ZH,ZJ,unA,Zu,Zy,unG,reduceCtorEq,Zl,decide_eq_true_eq,Xh,Xc,ite_self,↓reduceIte,Zw,ZG,gcT,gcA,Zm,Zf,Ze,Zg,Zn,Zb,Zo,Zh,Zr,Xe,ZeE,ZdS,Zff,ZeO,ZdD,ZeM,ZdG,Zs,Zi,Zk,Zc,Zx,ZI,AVal.cells]
 exact h
theorem Zyk (hits:List Zay) (σ:Za) (sq own:Nat):ZZ E BY σ sq 7 own true [.lst false (hits.map Z1)]=some (.lst false ((ZaH hits).map Z1),σ,{}) :=
 Zr7 (Zwc hits) (by kernel_rfl) rfl rfl σ sq own
theorem Zua (n:Z2) (hn:Zdo n) (hits:List Zay) (hN:hits.length<=600000000) (σ:Za) (sq own:Nat):ZZ ER BY σ sq 8 own true [.agg [.str n.topic,.lst false (n.payload.map Zt),.int .i64 n.qos,.bool n.retain,.str n.sender,.int .i64 n.expires,.lst false (n.props.map Zc),.int .i64 n.origin,.int .i64 n.number,.int .i64 n.hops],.lst false (hits.map Z1)]=some (.lst false ((Zbi n hits).map (Zaa n)),σ,{}) :=
 Zr7 (Zuj n hn hits hN) (by kernel_rfl) rfl rfl σ sq own
end
section
def Zcd (n:Z2) (c:ZF) (hits:List Zay):List Zat:=(hits.filter fun h=>ZcO n h && h.client == c).map (·.sub)
theorem ZeG {β:Type} (c k:ZF) (l:β) (G:List (ZF×β)):((k,l)::G).lookup c=if c=k then some l else G.lookup c:=by
 rw [XZ]
 by_cases e:c=k
 ·subst e;simp
 ·have : (c == k)=false:=by simpa using e
  rw [this,if_neg e]
theorem Zu9 (c s) (c':ZF):∀ G:Grp,(Zbl G c s).lookup c'=if c'=c then some ((G.lookup c).getD []++[s]) else G.lookup c'
 | []=>by simp only [Zbl,ZeG,Wi,Option.getD_none,X1]
 | (k,l)::G=>by
  have ih:=Zu9 c s c' G
  unfold Zbl
  by_cases h:c=k
  ·subst h
   rw [if_pos rfl,ZeG,ZeG,ZeG,if_pos rfl]
   by_cases e:c'=c
   ·rw [if_pos e,if_pos e];rfl
   ·rw [if_neg e,if_neg e,if_neg e]
  ·rw [if_neg h,ZeG,ZeG,ZeG,if_neg h,ih]
   by_cases e:c'=k
   ·subst e
    have hne:c'≠c:=fun e=>h e.symm
    rw [if_pos rfl,if_neg hne,if_pos rfl]
   ·rw [if_neg e,if_neg e]
theorem ZwL (n:Z2) (c:ZF) (x:Zay) (r:List Zay):Zcd n c (x::r)=if ZcO n x && x.client == c then x.sub::Zcd n c r else Zcd n c r:=by
 unfold Zcd
 rw [List.filter_cons]
 split <;> rfl
theorem Zsx (n:Z2) (c:ZF):∀ (hits:List Zay) (G:Grp),(Zb2 n G hits).lookup c=if (G.lookup c).isNone && (Zcd n c hits).isEmpty then none else some ((G.lookup c).getD []++Zcd n c hits)
 | [],G=>by
  show G.lookup c=_
  cases h:G.lookup c <;> simp [Zcd]
 | x::r,G=>by
  have ih:=Zsx n c r (if ZcO n x then Zbl G x.client x.sub else G)
  show (Zb2 n (if ZcO n x then Zbl G x.client x.sub else G) r).lookup c=_
  rw [ih,ZwL]
  by_cases hw:ZcO n x=true
  ·rw [if_pos hw,Zu9,hw,Bool.true_and]
   by_cases e:c=x.client
   ·subst e
    simp
   ·have e':(x.client == c)=false:=by simpa using fun h=>e h.symm
    rw [if_neg e,e']
    simp
  ·rw [if_neg hw]
   have : (ZcO n x && x.client == c)=false:=by rw [Bool.and_eq_false_iff];exact Xv (by simpa using hw)
   rw [this,if_neg Bool.false_ne_true]
theorem ZAo {β:Type} {G:List (ZF×β)} {c:ZF}:c ∈ G.map (·.1)↔(G.lookup c).isSome:=by
 induction G with
 | nil=>simp
 | cons p G ih =>
  obtain ⟨k,l⟩:=p
  rw [Xs,XJ,XZ]
  by_cases e:c=k
  ·subst e;simp
  ·have : (c == k)=false:=by simpa using e
   simp [this,e,ih]
def Zfh (n:Z2) (hits:List Zay):List ZF:=(Zb2 n [] hits).map (·.1)
theorem Zhy (n:Z2) (hits:List Zay) (c:ZF):c ∈ Zfh n hits↔Zcd n c hits≠[]:=by
 unfold Zfh
 rw [ZAo,Zsx]
 cases h:Zcd n c hits <;> simp
theorem ZuK (n:Z2) (hits:List Zay):(Zfh n hits).Nodup:=(Zhb n hits [] 0 ⟨by simp,by simp,by simp⟩).nd
theorem ZpU (n:Z2) (hits:List Zay):Zbi n hits=(ZdZ (Zfh n hits)).map fun c=>(c,Zcd n c hits):=by
 unfold Zbi Zcz
 apply WK
 intro c hc
 have hc:=(Zhy n hits c).1 ((Zfq _).mem_iff.1 hc)
 rw [Zsx]
 cases h:Zcd n c hits with
 | nil=>exact absurd h hc
 | cons s l=>simp
theorem ZuS (n:Z2) (c:ZF) (hits:List Zay):Zcd n c hits.reverse=(Zcd n c hits).reverse:=by
 unfold Zcd
 rw [List.filter_reverse,List.map_reverse]
theorem ZuI:∀ (l:List Zat) (q:Int),(q<=byQ q l/\∀ s ∈ l,s.qos<=byQ q l)/\(byQ q l=q\/∃ s ∈ l,s.qos=byQ q l)
 | [],q=>⟨⟨Int.le_refl _,by simp⟩,Xv rfl⟩
 | s::l,q=>by
  obtain ⟨⟨h1,h2⟩,h3⟩:=ZuI l (Zds q s.qos)
  have e:byQ q (s::l)=byQ (Zds q s.qos) l:=rfl
  rw [e]
  have hm:q<=Zds q s.qos/\s.qos<=Zds q s.qos/\(Zds q s.qos=q\/Zds q s.qos=s.qos):=by unfold Zds;split <;> omega
  refine ⟨⟨by omega,?_⟩,?_⟩
  ·intro x hx
   rcases XJ.1 hx with rfl | hx
   ·omega
   ·exact h2 x hx
  ·rcases h3 with h3 | ⟨x,hx,h3⟩
   ·rcases hm.2.2 with h | h
    ·exact Xv (by omega)
    ·exact Or.inr ⟨s,by simp,by omega⟩
   ·exact Or.inr ⟨x,by simp [hx],h3⟩
def Zii (l:List Zat):Int:=byQ ((l.map (·.qos)).headD 0) l
theorem ZsO {l:List Zat} (hl:l≠[]):(∀ s ∈ l,s.qos<=Zii l)/\∃ s ∈ l,s.qos=Zii l:=by
 cases l with
 | nil=>exact absurd rfl hl
 | cons s l =>
  obtain ⟨⟨h1,h2⟩,h3⟩:=ZuI (s::l) s.qos
  refine ⟨h2,?_⟩
  rcases h3 with h3 | h3
  ·exact ⟨s,by simp,h3.symm⟩
  ·exact h3
theorem Zxc {l l':List Zat} (hl:l≠[]) (h:∀ s,s ∈ l↔s ∈ l'):Zii l=Zii l':=by
 have hl':l'≠[]:=by
  rintro rfl
  cases l with
  | nil=>exact hl rfl
  | cons s l=>have:=(h s).1 (by simp);simp at this
 obtain ⟨a1,s,a2,a3⟩:=ZsO hl
 obtain ⟨b1,t,b2,b3⟩:=ZsO hl'
 have h1:=b1 s ((h s).1 a2)
 have h2:=a1 t ((h t).2 b2)
 omega
theorem ZiF (n:Z2):∀ (l:List Zat) (k:Bool),byK n k l=(k || (n.retain && l.any (·.asPublished)))
 | [],k=>by simp [byK]
 | s::l,k=>by
  have ih:=ZiF n l (ZfN n k s)
  show byK n (ZfN n k s) l=_
  rw [ih]
  unfold ZfN
  cases k <;> cases n.retain <;> simp
theorem ZvZ (n:Z2) {l:List Zat} (hl:l≠[]):byI n l.reverse=byI n l:=by
 have hr:l.reverse≠[]:=by simpa using hl
 unfold byI
 have e1:byQ ((l.reverse.map (·.qos)).headD 0) l.reverse=byQ ((l.map (·.qos)).headD 0) l:=Zxc hr (fun s=>by simp)
 have e2:byK n false l.reverse=byK n false l:=by rw [ZiF,ZiF,List.any_reverse]
 have e3:Zby (ZbF l.reverse)=Zby (ZbF l):=Zum (by
  unfold ZbF
  exact ((List.reverse_perm l).filter _).map _)
 rw [e1,e2,e3]
theorem ZA5 (n:Z2) (hits:List Zay):(Zbi n hits.reverse).map (Zaa n)=(Zbi n hits).map (Zaa n):=by
 rw [ZpU,ZpU]
 have hk:(Zfh n hits.reverse).Perm (Zfh n hits):=(List.perm_ext_iff_of_nodup (ZuK n _) (ZuK n _)).2 fun c=>by
  rw [Zhy,Zhy,ZuS];simp
 rw [ZvI hk,Wn,Wn]
 apply WK
 intro c hc
 have hc:=(Zhy n hits c).1 ((Zfq _).mem_iff.1 hc)
 simp only [Function.comp,Zaa,ZuS,ZvZ n hc]
end
section
theorem Zya {O:ZY} {bf:Nat->Bool} {σ:Za} {f:Nat} {args vs:List AVal} {ts:List Nat} {r':AVal} (hb:bf f=false) (hsh:showAs σ args=some (vs,ts)) (hp:vs.all Zaq=true) (hm:vs.map Zaj=vs) (h:ZaB true 0 (O f vs [])=some (r',[])) (sq own:Nat) :
  ZZ O bf σ sq f own true args=if ZaU r' then some (r',σ,{ rd:=ts }) else if Zct σ ts r' then some (r',σ,{ rd:=ts }) else some (Zj (Za3 [] [] sq) r',Zp σ ts,{ rd:=ts,wr:=ts }):=by
 have hr:=ZhX hp
 have hn:=fun ρ=>ZhY (ρ:=ρ) hp
 rw [hm] at hr
 simp only [hm] at hn
 unfold ZZ ZcB
 rw [hb]
 simp only [Xw,if_false,hsh]
 rw [hr]
 have h2:∀ σ,Zf σ 1000 [] []=[]:=fun _=>rfl
 rw [h2]
 unfold ZbT
 simp only [XA,if_true,hn,Zg,XF,h]
 simp only [Zax,List.isEmpty_nil,Bool.and_self,if_true]
theorem ZwW (k:Nat) (L:List AVal):ZaB true 0 (some (ZbR L,Zbs k L))=some (.lst false L,[]):=by
 cases L with
 | nil=>rfl
 | cons x xs =>
  rw [Zgh,ZfE]
  unfold ZaB
  rw [if_pos rfl,ZoT (k:=k) (g:=0) (t:=0) (xs:=x::xs) rfl (by omega),List.take_of_length_le (by omega)]
theorem Zv7 {l:List Int} (h:l.Pairwise (·<=·)):Zby l=l:=by
 unfold Zby
 have ht:∀ a b c:Int,decide (a<=b)=true->decide (b<=c)=true->decide (a<=c)=true:=by intro a b c;simp only [decide_eq_true_eq];omega
 have hto:∀ a b:Int,(decide (a<=b) || decide (b<=a))=true:=by intro a b;simp only [Wu,decide_eq_true_eq];omega
 refine (W4 l _).eq_of_pairwise (le:=fun a b:Int=>decide (a<=b)=true) (fun a b _ _ h1 h2=>by simp only [decide_eq_true_eq] at h1 h2;omega) (Xaj ht hto l) (h.imp fun h=>by simpa using h)
def wkN:Z2:=⟨[],[],2,false,[120],0,[],0,0,0⟩
def wkH:List Zay:=[⟨[120],⟨[],0,true,false,0,0⟩⟩,⟨[121],⟨[],1,false,false,0,7⟩⟩,⟨[121],⟨[],0,false,false,0,3⟩⟩]
def wkS:List Zat:=[⟨[],1,false,false,0,7⟩,⟨[],0,false,false,0,3⟩]
theorem Zzv:(Zbi wkN wkH).map (Zaa wkN)=[Zaa wkN ([121],wkS)]:=by
 have : Zbi wkN wkH=[([121],wkS)]:=by
  unfold Zbi
  have : Zb2 wkN [] wkH=[([121],wkS)]:=by decide
  rw [this]
  unfold Zcz ZdZ
  simp
 rw [this];rfl
theorem Zwi:byI wkN wkS=⟨wkN,1,false,[3,7],[]⟩:=by
 have h:Zby (ZbF wkS)=[3,7]:=by
  rw [show ZbF wkS=[7,3] by decide]
  rw [Zum (List.Perm.swap (3:Int) 7 []),Zv7 (by simp)]
 unfold byI
 rw [h]
 rfl
theorem ZwH:ER 9 [] []=some (.bool true,[]):=by
 have hP:=fun σ sq own=>Zua wkN ⟨by decide,by decide,by simp [wkN]⟩ wkH (by decide) σ sq own
 rw [Zzv] at hP
 have hg:Zaa wkN ([121],wkS)=.agg [.str [121],.str [],.lst false [],.int .i64 2,.bool false,.str [120],.int .i64 0,.lst false [],.int .i64 0,.int .i64 0,.int .i64 0,.int .i64 1,.bool false,.lst false [.int .i64 3,.int .i64 7],.str []]:=by
  unfold Zaa
  rw [Zwi];rfl
 rw [hg] at hP
 have hP':∀ (σ:Za) (sq own:Nat),ZZ ER BY σ sq 8 own true [.agg [.str [],.lst true [],.int .i64 2,.bool false,.str [120],.int .i64 0,.lst true [],.int .i64 0,.int .i64 0,.int .i64 0],.lst true (wkH.map Z1)]=some (.lst false [.agg [.str [121],.str [],.lst false [],.int .i64 2,.bool false,.str [120],.int .i64 0,.lst false [],.int .i64 0,.int .i64 0,.int .i64 0,.int .i64 1,.bool false,.lst false [.int .i64 3,.int .i64 7],.str []]],σ,{}):=by
  intro σ sq own
  have:=hP σ sq own
  rw [Zeb (by kernel_rfl) (by rfl)] at this ⊢
  exact this
 simp only [wkH,Xs,XV,Z1] at hP'
 have n1:((1:Nat):Int)=1:=rfl
 have n2:((2:Nat):Int)=2:=rfl
 have i1:∀ (σ:Za) (cs:List AVal),cs.length=15->ZaT σ 15 (.lst false [.agg cs]) (.int .i64 0)=some (.iptr cs 0,σ,{}):=fun σ cs h=>by simp [ZaT,AVal.cells,h]
 have i2:∀ (σ:Za) (a b:AVal),a.cells.length=1->ZaT σ 1 (.lst false [a,b]) (.int .i64 0)=some (.iptr a.cells 0,σ,{}):=fun σ a b h=>by simp [ZaT,h]
 rw [ZpI (by rfl) Zxa]
 simp -implicitDefEqProofs only [EQA,ZE,ZB,ZA,ZD,Zz,ZC,ZP,ZQ,ZR,ZM,ZN,ZO,ZS,ZL,ZK,implies_true,forall_const,Xn,Xo,Xq,Xf,Xg,Xp,Xk,ZH,ZJ,unA,Zu,Zy,unG,reduceCtorEq,Zl,decide_eq_true_eq,Xh,Xc,ite_self,↓reduceIte,Zw,ZG,gcT,gcA,Zm,Zf,Ze,Zg,Zn,Zb,Zo,Zh,Zr,Xe,ZxT,ZnC,ZwB,Zs,Zi,Zk,Zc,Zx,ZI,hP',n1,n2,i1,i2,Zab,Za1,AVal.cells,Int.reduceBEq,Xz,XF,Xn,Zad,kOk,viewAs,Zam,Zae,Zah,Zp,XG,We]
theorem ZzJ (σ:Za) (sq own:Nat) (view:Bool):ZZ ER BY σ sq 9 own view []=some (.bool true,σ,{}) :=
 ZeL ZwH (by kernel_rfl) rfl rfl rfl (fun _=>rfl) σ sq own view
end
section
def ZfR (a b:Zc6):Bool:=ZfC a.note b.note && a.qos == b.qos && a.retain == b.retain && a.ids == b.ids && a.share == b.share
theorem ZtS (a b:Zc6) (h:a.ids.length=b.ids.length) (hl:a.ids.length<=9223372036854775807):∀ (r s:List Int) (i:Nat),a.ids.drop i=r->b.ids.drop i=s->ZhB 0 [(5,.int .i64 i),(3,.ref 0 0),(2,.ref 1 0)] [.var (ZbO b),.var (ZbO a)]=some (.bool (r == s),[])
 | [],s,i,ha,hb=>by
  have hs:s=[]:=by
   subst hb;rw [Wo] at ha ⊢;omega
  subst hs
  have h1:=ZgR ha
  unfold ZhB
  rw [Za4]
  simp -implicitDefEqProofs only [EQA,ZE,ZB,ZA,ZD,Zz,ZC,ZP,ZQ,ZR,ZM,ZN,ZO,ZS,ZL,ZK,implies_true,forall_const,Xn,Xo,Xq,Xf,Xg,Xp,Xk,ZH,ZJ,unA,Zu,Zy,unG,reduceCtorEq,Zl,decide_eq_true_eq,Xh,Xc,ite_self,↓reduceIte,Zw,ZG,gcT,gcA,Zm,Zf,Ze,Zg,Zn,Zb,Zo,Zh,Zr,Xe,Zhh,ZfJ,Zih,Zik,ZfG,ZhM,ZfS,Zs,Zi,Zk,Zc,Zx,ZI,h1,ZbO]
 | x::r,[],i,ha,hb=>by
  have:=(Za8 ha).2.2;rw [Wo] at hb;omega
 | x::r,y::s,i,ha,hb=>by
  have ih:=ZtS a b h hl r s (i+1) (Za8 ha).2.1 (Za8 hb).2.1
  have h1:(i:Int) < a.ids.length:=by have:=(Za8 ha).2.2;omega
  have e1:=iad (Za8 ha).1 (.int .i64 ·) (k:=1) rfl
  have e2:=iad (Za8 hb).1 (.int .i64 ·) (k:=1) rfl
  have e3:=Zi7 h1 hl
  unfold ZhB at ih ⊢
  rw [Za4]
  simp -implicitDefEqProofs only [EQA,ZE,ZB,ZA,ZD,Zz,ZC,ZP,ZQ,ZR,ZM,ZN,ZO,ZS,ZL,ZK,implies_true,forall_const,Xn,Xo,Xq,Xf,Xg,Xp,Xk,ZH,ZJ,unA,Zu,Zy,unG,reduceCtorEq,Zl,decide_eq_true_eq,Xh,Xc,ite_self,↓reduceIte,Zw,ZG,gcT,gcA,Zm,Zf,Ze,Zg,Zn,Zb,Zo,Zh,Zr,Xe,Zhh,ZfJ,Zih,Zik,ZfG,ZhM,ZfS,Zs,Zi,Zk,Zc,Zx,ZI,h1,e1,e2,e3,ZbO]
  simp only [ZbO,Zs,Zk,Zi] at ih
  rw [ih]
  by_cases hx:x=y <;> simp [hx]
theorem Zz5 (a b:Zc6) (hl:a.note.props.length<=9223372036854775807) (hi:a.ids.length<=9223372036854775807):E 10 [ZcU a,ZcU b] []=some (.bool (ZfR a b),[]):=by
 rw [ZcT (by rfl) Zw9]
 by_cases h:a.ids.length=b.ids.length
 ·have:=ZtS a b h hi a.ids b.ids 0 rfl rfl
  unfold ZhB at this
  simp only [ZbO,Zs,Zk,Zi] at this
  have e:=ZsZ h
  simp -implicitDefEqProofs only [EQA,ZE,ZB,ZA,ZD,Zz,ZC,ZP,ZQ,ZR,ZM,ZN,ZO,ZS,ZL,ZK,implies_true,forall_const,Xn,Xo,Xq,Xf,Xg,Xp,Xk,ZH,ZJ,unA,Zu,Zy,unG,reduceCtorEq,Zl,decide_eq_true_eq,Xh,Xc,ite_self,↓reduceIte,Zw,ZG,gcT,gcA,Zm,Zf,Ze,Zg,Zn,Zb,Zo,Zh,Zr,Xe,Zhh,ZfJ,Zih,Zik,ZfG,ZhM,ZfS,Zs,Zi,Zk,Zc,Zx,ZI,e,ZcU,ZbO,Zuh,hl,ZfR]
  have z:((0:Nat):Int)=0:=rfl
  rw [z] at this
  rw [this]
  simp only [bne]
  rw [show ∀ (p q:Bool),(if p=true then some (AVal.bool false,([]:Za)) else some (AVal.bool q,[]))=some (AVal.bool (!p && q),[]) from by intro p q;cases p <;> rfl]
  generalize ZfC a.note b.note=q1,(a.qos == b.qos)=q2,a.retain=q3,b.retain=q4,(a.share == b.share)=q5,(a.ids == b.ids)=q6
  cases q1 <;> cases q2 <;> cases q3 <;> cases q4 <;> cases q5 <;> cases q6 <;> rfl
 ·have e:=Zun h
  simp -implicitDefEqProofs only [EQA,ZE,ZB,ZA,ZD,Zz,ZC,ZP,ZQ,ZR,ZM,ZN,ZO,ZS,ZL,ZK,implies_true,forall_const,Xn,Xo,Xq,Xf,Xg,Xp,Xk,ZH,ZJ,unA,Zu,Zy,unG,reduceCtorEq,Zl,decide_eq_true_eq,Xh,Xc,ite_self,↓reduceIte,Zw,ZG,gcT,gcA,Zm,Zf,Ze,Zg,Zn,Zb,Zo,Zh,Zr,Xe,Zhh,ZfJ,Zih,Zik,ZfG,ZhM,ZfS,Zs,Zi,Zk,Zc,Zx,ZI,e,Zul h,ZcU,ZbO,Zuh,hl,ZfR]
theorem ZwK (σ:Za) (sq own:Nat) (view:Bool) (a b:Zc6) (hl:a.note.props.length<=9223372036854775807) (hi:a.ids.length<=9223372036854775807):ZZ E BY σ sq 10 own view [.agg [.str a.note.topic,.lst false (a.note.payload.map Zt),.int .i64 a.note.qos,.bool a.note.retain,.str a.note.sender,.int .i64 a.note.expires,.lst false (a.note.props.map Zc),.int .i64 a.note.origin,.int .i64 a.note.number,.int .i64 a.note.hops,.int .i64 a.qos,.bool a.retain,.lst false (a.ids.map (.int .i64 ·)),.str a.share],.agg [.str b.note.topic,.lst false (b.note.payload.map Zt),.int .i64 b.note.qos,.bool b.note.retain,.str b.note.sender,.int .i64 b.note.expires,.lst false (b.note.props.map Zc),.int .i64 b.note.origin,.int .i64 b.note.number,.int .i64 b.note.hops,.int .i64 b.qos,.bool b.retain,.lst false (b.ids.map (.int .i64 ·)),.str b.share]]=some (.bool (ZfR a b),σ,{}) :=
 ZeL (Zz5 a b hl hi) (by kernel_rfl) (by simp -implicitDefEqProofs only [Zed,Zd0,ZE,ZB,ZA,Zd8,ZD,Zz,ZdP,ZC,eq_self,implies_true,Xw,Zs,Zi,Zk,Zc,Zx,ZcU,ZbO]) (by simp -implicitDefEqProofs only [Zed,Zd0,ZE,ZB,ZA,Zd8,ZD,Zz,ZdP,ZC,eq_self,implies_true,Xw,Zs,Zi,Zk,Zc,Zx,ZcU,ZbO]) rfl (fun _=>rfl) _ _ _ _
end
section
theorem Zx4 (p:Zeq):(Zdr p).length<=7/\∀ x ∈ Zdr p,x.data.length<=30:=by
 unfold Zdr Zem
 refine ⟨?_,?_⟩
 ·simp only [Xx,XH,X3]
  repeat' split
  all_goals simp only [Xx,Xz,XF]
  all_goals omega
 ·intro x hx
  rcases Xu.1 hx with hx | hx
  ·rcases Xu.1 hx with hx | hx
   ·split at hx
    ·simp only [XW] at hx;subst hx;simp
    ·simp at hx
   ·rcases Xu.1 hx with hx | hx
    ·split at hx
     ·simp only [XW] at hx;subst hx;simp
     ·simp at hx
    ·split at hx
     ·simp only [XW] at hx;subst hx;simp only [X3];omega
     ·simp at hx
  ·obtain ⟨c,_,rfl⟩:=XK.1 hx
   simp [Zd2]
theorem ZAe (m:Zc8):Zdo (ZaA m).note:=by
 obtain ⟨h1,h2⟩:=Zx4 m.p
 refine ⟨?_,?_,?_⟩
 ·show (m.payload.take 300).length<=_
  rw [X3];omega
 ·show (Zdr m.p).length<=_
  omega
 ·intro p hp
  have:=h2 p hp
  omega
theorem Zyb (hits:List Zay):(ZaH hits).length<=30:=by
 unfold ZaH;rw [XH,X3];omega
def Zhd:=xwR Ziu Zc0 rfl
def ZtW:=xwR Zg9 ZcV rfl
def ZrB:=xwR ZlS ZcN rfl
def ZrD:=xwR ZjA ZcS rfl
def roT (i:Int) (S:AVal):List AVal->Tms
 | []=>[(7,.int .i64 i),(6,.lst true []),(5,.ref 0 0),(1,S)]
 | x::xs=>[(7,.int .i64 i),(6,.sl 0 0 0 (x::xs).length),(5,.ref 1 0),(1,S)]
def roH (b:ZU):List AVal->Za
 | []=>[b]
 | x::xs=>[.row 0 7 (x::xs),b]
theorem Zhu (i:Int) (S:AVal) {X:List AVal} (h:0 < X.length):roT i S X=[(7,.int .i64 i),(6,.sl 0 0 0 X.length),(5,.ref 1 0),(1,S)]:=by
 cases X with
 | nil=>simp at h
 | cons x xs=>rfl
theorem Zht (b:ZU) {X:List AVal} (h:0 < X.length):roH b X=[.row 0 7 X,b]:=by
 cases X with
 | nil=>simp at h
 | cons x xs=>rfl
theorem Ztu (n:Z2) (H:List Zay) (hH:H.length<=1000):∀ (k:Nat) (X:List AVal),k<=H.length->X.length=H.length - k ->
  evL FC PRR BY 0 [7,6,5,1] Ziu (roT ((k:Int) - 1) (.lst false (H.map Z1)) X) (roH (.var (Z6 n)) X) =
   some (.exit 0,(20,.bool false)::roT (-1) (.lst false (H.map Z1)) (X++(H.take k).reverse.map Z1),roH (.var (Z6 n)) (X++(H.take k).reverse.map Z1))
 | 0,X,_,_=>by
  have e:X++(H.take 0).reverse.map Z1=X:=by simp
  rw [e]
  have h0:¬((0:Nat):Int) - 1>=0:=by omega
  have h1:((0:Nat):Int) - 1=-1:=rfl
  rw [h1]
  unfold Z6 Zi Zk
  generalize H.map Z1=S
  generalize n.payload.map Zt=L1
  generalize n.props.map Zc=L2
  rw [Za4]
  cases X with
  | nil =>
   unfold roT roH
   simp -implicitDefEqProofs only [EQA,ZE,ZB,ZA,ZD,Zz,ZC,ZP,ZQ,ZR,ZM,ZN,ZO,ZS,ZL,ZK,implies_true,forall_const,Xn,Xo,Xq,Xf,Xg,Xp,Xk,ZH,ZJ,unA,Zu,Zy,unG,reduceCtorEq,Zl,decide_eq_true_eq,Xh,Xc,ite_self,↓reduceIte,Zw,ZG,gcT,gcA,Zm,Zf,Ze,Zg,Zn,Zb,Zo,Zh,Zr,Xe,ZdT,Zdb,ZdK,ZdL,ZcN,ZdH,ZcV,ZdW,ZcS,Zd9,Zc0,Zs,Zi,Zk,Zc,Zx,ZI,Zhd,Int.reduceLE,Int.reduceNeg,ge_iff_le]
  | cons x xs =>
   have hp:0 < (x::xs).length:=by simp
   rw [Zhu _ _ hp,Zht _ hp]
   generalize x::xs=X
   simp -implicitDefEqProofs only [EQA,ZE,ZB,ZA,ZD,Zz,ZC,ZP,ZQ,ZR,ZM,ZN,ZO,ZS,ZL,ZK,implies_true,forall_const,Xn,Xo,Xq,Xf,Xg,Xp,Xk,ZH,ZJ,unA,Zu,Zy,unG,reduceCtorEq,Zl,decide_eq_true_eq,Xh,Xc,ite_self,↓reduceIte,Zw,ZG,gcT,gcA,Zm,Zf,Ze,Zg,Zn,Zb,Zo,Zh,Zr,Xe,ZdT,Zdb,ZdK,ZdL,ZcN,ZdH,ZcV,ZdW,ZcS,Zd9,Zc0,Zs,Zi,Zk,Zc,Zx,ZI,Zhd,Int.reduceLE,Int.reduceNeg,ge_iff_le]
 | k+1,X,hk,hX=>by
  have hlt:k < H.length:=by omega
  obtain ⟨x,hx⟩:∃ x,H[k]?=some x:=⟨_,List.getElem?_eq_getElem hlt⟩
  have ih:=Ztu n H hH k (X++[Z1 x]) (by omega) (by simp;omega)
  have e2:X++[Z1 x]++(H.take k).reverse.map Z1=X++(H.take (k+1)).reverse.map Z1:=by
   rw [Wq]
   congr 1
   have : H.take (k+1)=H.take k++[x]:=by rw [List.take_add_one,hx];rfl
   rw [this,List.reverse_append];simp
  rw [e2] at ih
  generalize X++(H.take (k+1)).reverse.map Z1=Y at *
  have hk1:((k+1:Nat):Int) - 1=(k:Int):=by omega
  have h0:(0:Int)<=(k:Int):=by omega
  have hw:IntKind.i64.wrap ((k:Int) - 1)=(k:Int) - 1:=Zcy (by omega) (by omega)
  have e1:∀ (σ:Za) (b:Bool) (kk:IntKind),ZaT σ 7 (.lst b (H.map Z1)) (.int kk (k:Int))=some (.iptr [.str x.client,.str x.sub.filter,.int .i64 x.sub.qos,.bool x.sub.noLocal,.bool x.sub.asPublished,.int .i64 x.sub.handling,.int .i64 x.sub.id] 0,σ,{}):=fun σ b kk=>iad hx Z1 (k:=7) rfl σ b kk
  have hk':kOk 7 [AVal.agg [.str x.client,.str x.sub.filter,.int .i64 x.sub.qos,.bool x.sub.noLocal,.bool x.sub.asPublished,.int .i64 x.sub.handling,.int .i64 x.sub.id]]=true:=rfl
  have hv:Z1 x=.agg [.str x.client,.str x.sub.filter,.int .i64 x.sub.qos,.bool x.sub.noLocal,.bool x.sub.asPublished,.int .i64 x.sub.handling,.int .i64 x.sub.id]:=rfl
  rw [hv] at ih
  rw [hk1]
  have hb:X.length<=1000:=by omega
  unfold Z6 Zi Zk at ih ⊢
  clear e2 hX
  generalize H.map Z1=S at *
  generalize n.payload.map Zt=L1 at *
  generalize n.props.map Zc=L2 at *
  rw [Za4]
  cases X with
  | nil =>
   rw [X1] at ih
   unfold roT roH at ih ⊢
   simp only [Xz,XF,XC] at ih
   simp -implicitDefEqProofs only [EQA,ZE,ZB,ZA,ZD,Zz,ZC,ZP,ZQ,ZR,ZM,ZN,ZO,ZS,ZL,ZK,implies_true,forall_const,Xn,Xo,Xq,Xf,Xg,Xp,Xk,ZH,ZJ,unA,Zu,Zy,unG,reduceCtorEq,Zl,decide_eq_true_eq,Xh,Xc,ite_self,↓reduceIte,Zw,ZG,gcT,gcA,Zm,Zf,Ze,Zg,Zn,Zb,Zo,Zh,Zr,Xe,ZdT,Zdb,ZdK,ZdL,ZcN,ZdH,ZcV,ZdW,ZcS,Zd9,Zc0,Zs,Zi,Zk,Zc,Zx,ZI,Zhd,h0,hw,e1,hk',ge_iff_le,AVal.cells,ZaW,Zba,Zcc,Zbk,WA,WG,Xt,XA,Xz,XF,ZbN,ZbQ,ZbU,ZbM,ZbS,XM,XU,ZaL,ZaR,ZaP,Zbe,ZbH,Zbq,ZbK,ZbP,ZaY,ZbJ,XZ,Wi,Xt,XA,X0,Zad,viewAs,Zam,Zae,Zah,Zp,XG,We,XN,Xk,Xf]
   exact ih
  | cons y ys =>
   have hXp:0 < (y::ys).length:=by simp
   have hXq:∀ z:AVal,0 < (y::ys++[z]).length:=fun z=>by simp
   rw [Zhu _ _ (hXq _),Zht _ (hXq _)] at ih
   rw [Zhu _ _ hXp,Zht _ hXp]
   generalize y::ys=X at *
   have k2:(X.length+1)*64<=140737488355328:=by omega
   simp only [Xx,Xz,XF,XC] at ih
   simp -implicitDefEqProofs only [EQA,ZE,ZB,ZA,ZD,Zz,ZC,ZP,ZQ,ZR,ZM,ZN,ZO,ZS,ZL,ZK,implies_true,forall_const,Xn,Xo,Xq,Xf,Xg,Xp,Xk,ZH,ZJ,unA,Zu,Zy,unG,reduceCtorEq,Zl,decide_eq_true_eq,Xh,Xc,ite_self,↓reduceIte,Zw,ZG,gcT,gcA,Zm,Zf,Ze,Zg,Zn,Zb,Zo,Zh,Zr,Xe,ZdT,Zdb,ZdK,ZdL,ZcN,ZdH,ZcV,ZdW,ZcS,Zd9,Zc0,Zs,Zi,Zk,Zc,Zx,ZI,Zhd,h0,hw,e1,hk',k2,ge_iff_le,AVal.cells,ZaW,Zba,Zcc,Zbk,WA,WG,Xt,XA,Xz,XF,ZbN,ZbQ,ZbU,ZbM,ZbS,XM,XU,ZaL,ZaR,ZaP,Zbe,ZbH,Zbq,ZbK,ZbP,ZaY,ZbJ,XZ,Wi,Xt,XA,X0,Zad,viewAs,Zam,Zae,Zah,Zp,XG,We,XN,Xk,Xf]
   exact ih
theorem Zza (n:Z2) (hits:List Zay):(Zbi n hits).length<=hits.length:=by
 unfold Zbi
 rw [ZkV]
 have:=(Zhb n hits [] 0 ⟨by simp,by simp,by simp⟩).len
 simpa using this
theorem ZyR (n:Z2) (hits:List Zay) {p:ZF×List Zat} (hp:p ∈ Zbi n hits):p.2.length<=hits.length:=by
 rw [ZpU] at hp
 obtain ⟨c,_,rfl⟩:=XK.1 hp
 simp only [Zcd,XH]
 exact List.length_filter_le _ _
theorem Zx5 (n:Z2) (l:List Zat):(byI n l).ids.length<=l.length:=by
 show (Zby (ZbF l)).length<=_
 rw [ZvG,ZbF,XH]
 exact List.length_filter_le _ _
theorem Zvc (n:Z2) (hn:n.props.length<=700000000) (P:Grp) (hP:P.length<=1000) (hS:∀ p ∈ P,p.2.length<=1000):∀ (r:Grp) (i:Nat),P.drop i=r->i<=P.length ->
  evL FC PRR BY 0 [10,9,8] Zg9 [(10,.int .i64 (i:Int)),(9,.lst false (P.map (Zaa n))),(8,.lst false (P.map (Zaa n)))] [] =
   some (.exit 2,[(44,.bool false),(10,.int .i64 (P.length:Int)),(9,.lst false (P.map (Zaa n))),(8,.lst false (P.map (Zaa n)))],[])
 | [],i,hi,hle=>by
  have : P.length<=i:=Wo.1 hi
  obtain rfl:i=P.length:=by omega
  have h0:¬(P.length:Int) < (P.length:Int):=by omega
  have hL:(P.map (Zaa n)).length=P.length:=by simp
  generalize P.map (Zaa n)=S at *
  rw [Za4]
  simp -implicitDefEqProofs only [EQA,ZE,ZB,ZA,ZD,Zz,ZC,ZP,ZQ,ZR,ZM,ZN,ZO,ZS,ZL,ZK,implies_true,forall_const,Xn,Xo,Xq,Xf,Xg,Xp,Xk,ZH,ZJ,unA,Zu,Zy,unG,reduceCtorEq,Zl,decide_eq_true_eq,Xh,Xc,ite_self,↓reduceIte,Zw,ZG,gcT,gcA,Zm,Zf,Ze,Zg,Zn,Zb,Zo,Zh,Zr,Xe,ZdT,Zdb,ZdK,ZdL,ZcN,ZdH,ZcV,ZdW,ZcS,Zd9,Zc0,Zs,Zi,Zk,Zc,Zx,ZI,ZtW,h0,hL]
 | p::r,i,hi,hle=>by
  obtain ⟨g1,d1,l1⟩:=Za8 hi
  have h0:(i:Int) < (P.length:Int):=by omega
  have hw:=Zi7 (i:=i) h0 (by omega)
  have ih:=Zvc n hn P hP hS r (i+1) d1 (by omega)
  have hT:=fun σ sq own view=>ZoG (ZwK σ sq own view (byI n p.2) (byI n p.2) (by show n.props.length<=_;omega) (by have:=Zx5 n p.2;have:=hS p (Xr g1);omega))
  have e2:ZfR (byI n p.2) (byI n p.2)=true:=by simp [ZfR,ZfC]
  rw [e2] at hT
  have ha:∀ (σ:Za) (b:Bool) (kk:IntKind),ZaT σ 15 (.lst b (P.map (Zaa n))) (.int kk (i:Int))=some (.iptr (.str p.1::ZbO (byI n p.2)) 0,σ,{}):=fun σ b kk=>iad g1 (Zaa n) (k:=15) rfl σ b kk
  have hL:(P.map (Zaa n)).length=P.length:=by simp
  generalize P.map (Zaa n)=S at *
  generalize byI n p.2=it at *
  unfold ZbO Zi Zk Zs at ha
  generalize it.note.payload.map Zt=L3 at *
  generalize it.note.props.map Zc=L4 at *
  generalize it.ids.map (AVal.int .i64)=L5 at *
  rw [Za4]
  simp -implicitDefEqProofs only [EQA,ZE,ZB,ZA,ZD,Zz,ZC,ZP,ZQ,ZR,ZM,ZN,ZO,ZS,ZL,ZK,implies_true,forall_const,Xn,Xo,Xq,Xf,Xg,Xp,Xk,ZH,ZJ,unA,Zu,Zy,unG,reduceCtorEq,Zl,decide_eq_true_eq,Xh,Xc,ite_self,↓reduceIte,Zw,ZG,gcT,gcA,Zm,Zf,Ze,Zg,Zn,Zb,Zo,Zh,Zr,Xe,ZdT,Zdb,ZdK,ZdL,ZcN,ZdH,ZcV,ZdW,ZcS,Zd9,Zc0,Zs,Zi,Zk,Zc,Zx,ZI,ZtW,h0,hw,ha,hT,hL,Zab,AVal.cells,bne_self_eq_false,Bool.not_true,Bool.not_false,ZaW,Zba,Zcc,Zbk,WA,WG,Xt,XA,Xz,XF,ZbN,ZbQ,ZbU,ZbM,ZbS,XM,XU,ZaL,ZaR,ZaP,Zbe,ZbH,Zbq,ZbK,ZbP,ZaY,ZbJ,XZ,Wi,Xt,XA,X0]
  all_goals exact ih
theorem ZxV (m:Zc8) (hm:Zf3 m) (hits:List Zay):ER 4 [.agg (mC m),.lst false (hits.map Z1)] []=some (.bool true,[]):=by
 have hM:=fun σ sq own=>ZoG (Zyj σ sq own m hm)
 have hn:=ZAe m
 have hC:=fun σ sq own=>ZoG (Zyk hits σ sq own)
 have hl:=Zyb hits
 have hP:=fun σ sq own=>Zua (ZaA m).note hn (ZaH hits) (by omega) σ sq own
 have h5:=Ztu (ZaA m).note (ZaH hits) (by omega) (ZaH hits).length [] (XN _) (by simp)
 rw [X1,XaN] at h5
 have h12:=Zvc (ZaA m).note (by have:=hn.len;omega) (Zbi (ZaA m).note (ZaH hits)) (by have:=Zza (ZaA m).note (ZaH hits);omega) (fun p hp=>by have:=ZyR _ _ hp;omega) _ 0 rfl (Nat.zero_le _)
 have z:((0:Nat):Int)=0:=rfl
 rw [z] at h12
 have hrev:=ZA5 (ZaA m).note (ZaH hits)
 have hq:=Zuj (ZaA m).note hn (ZaH hits).reverse (by rw [List.length_reverse];omega)
 have hw:=ZzJ
 have hHl:((ZaH hits).map Z1).length=(ZaH hits).length:=XH ..
 have hwr:IntKind.i64.wrap (((ZaH hits).length:Int) - 1)=((ZaH hits).length:Int) - 1:=Zcy (by omega) (by omega)
 have hPl:((Zbi (ZaA m).note (ZaH hits)).map (Zaa (ZaA m).note)).length=(Zbi (ZaA m).note (ZaH hits)).length:=by simp
 have hrl:((ZaH hits).reverse.map Z1).length=(ZaH hits).length:=by simp
 have hHnil:(ZaH hits).reverse.map Z1=[]->(ZaH hits).map Z1=[]:=by
  intro h
  have : (ZaH hits).reverse=[]:=List.map_eq_nil_iff.1 h
  rw [List.reverse_eq_nil_iff] at this
  rw [this];rfl
 unfold Zbi at hq
 change ER _ _ _=some (ZbR ((Zbi (ZaA m).note (ZaH hits).reverse).map (Zaa (ZaA m).note)),Zbs 15 ((Zbi (ZaA m).note (ZaH hits).reverse).map (Zaa (ZaA m).note))) at hq
 rw [hrev] at hq
 clear hrev hm hn
 generalize hL:(Zbi (ZaA m).note (ZaH hits)).map (Zaa (ZaA m).note)=L at *
 generalize (Zbi (ZaA m).note (ZaH hits)).length=PN at *
 clear hL
 generalize (ZaH hits).length=HN at *
 generalize (ZaH hits).reverse.map Z1=X at *
 generalize hHS:(ZaH hits).map Z1=HS at *
 generalize (ZaA m).note=n at *
 unfold mC at hM ⊢
 generalize hits.map Z1=S0 at *
 have hn1:((0:Nat):Int) - 1=-1:=rfl
 cases X with
 | nil =>
  have hHS0:=hHnil rfl
  subst hHS0
  have hP0:∀ (σ:Za) (sq own:Nat),ZZ ER BY σ sq 8 own true [.agg [.str n.topic,.lst false (n.payload.map Zt),.int .i64 n.qos,.bool n.retain,.str n.sender,.int .i64 n.expires,.lst false (n.props.map Zc),.int .i64 n.origin,.int .i64 n.number,.int .i64 n.hops],.lst true []]=some (.lst false L,σ,{}):=by
   intro σ sq own
   have:=hP σ sq own
   rw [Zeb (by kernel_rfl) (by rfl)] at this ⊢
   exact this
  have hN0:HN=0:=by simpa using hrl.symm
  subst hN0
  unfold roT roH at h5
  unfold Z6 Zi Zk at h5
  generalize n.payload.map Zt=L1 at *
  generalize n.props.map Zc=L2 at *
  rw [hn1] at h5
  have hwr0:IntKind.i64.wrap (0 - 1)=-1:=by decide
  rw [ZpI (by rfl) Zuq]
  simp -implicitDefEqProofs only [EQA,ZE,ZB,ZA,ZD,Zz,ZC,ZP,ZQ,ZR,ZM,ZN,ZO,ZS,ZL,ZK,implies_true,forall_const,Xn,Xo,Xq,Xf,Xg,Xp,Xk,ZH,ZJ,unA,Zu,Zy,unG,reduceCtorEq,Zl,decide_eq_true_eq,Xh,Xc,ite_self,↓reduceIte,Zw,ZG,gcT,gcA,Zm,Zf,Ze,Zg,Zn,Zb,Zo,Zh,Zr,Xe,ZdT,Zdb,ZdK,ZdL,ZcN,ZdH,ZcV,ZdW,ZcS,Zd9,Zc0,Zs,Zi,Zk,Zc,Zx,ZI,ZrB,ZrD,hM,hC,hP,hP0,hw,h5,h12,hwr0,hPl,z,Zab,AVal.cells,ZT,Xt,XA,bne_self_eq_false,ZaW,Zba,Zcc,Zbk,WA,WG,Xt,XA,Xz,XF,ZbN,ZbQ,ZbU,ZbM,ZbS,XM,XU,ZaL,ZaR,ZaP,Zbe,ZbH,Zbq,ZbK,ZbP,ZaY,ZbJ,XZ,Wi,Xt,XA,X0]
 | cons x xs =>
  have hXp:0 < (x::xs).length:=by simp
  rw [Zhu _ _ hXp,Zht _ hXp] at h5
  have hXl:(x::xs).take HN=x::xs:=by rw [<-hrl,XaN]
  rw [hrl] at h5
  simp only [roT,roH] at h5
  clear hHnil
  generalize x::xs=X at *
  unfold Z6 Zi Zk at h5
  have hq2:ZaB true 0 (ER 8 [.agg [.str n.topic,.lst false (n.payload.map Zt),.int .i64 n.qos,.bool n.retain,.str n.sender,.int .i64 n.expires,.lst false (n.props.map Zc),.int .i64 n.origin,.int .i64 n.number,.int .i64 n.hops],.lst false X] [])=some (.lst false L,[]):=by
   have hq':ER 8 [.agg [.str n.topic,.lst false (n.payload.map Zt),.int .i64 n.qos,.bool n.retain,.str n.sender,.int .i64 n.expires,.lst false (n.props.map Zc),.int .i64 n.origin,.int .i64 n.number,.int .i64 n.hops],.lst false X] []=some (ZbR L,Zbs 15 L):=hq
   rw [hq'];exact ZwW 15 L
  clear hq
  generalize n.payload.map Zt=L1 at *
  generalize n.props.map Zc=L2 at *
  have hP2:∃ σ' c,∀ sq own,ZZ ER BY [.row 0 7 X,.var [.str n.topic,.lst false L1,.int .i64 n.qos,.bool n.retain,.str n.sender,.int .i64 n.expires,.lst false L2,.int .i64 n.origin,.int .i64 n.number,.int .i64 n.hops]] sq 8 own true [.agg [.str n.topic,.lst false L1,.int .i64 n.qos,.bool n.retain,.str n.sender,.int .i64 n.expires,.lst false L2,.int .i64 n.origin,.int .i64 n.number,.int .i64 n.hops],.sl 0 0 0 HN]=some (.lst false L,σ',c):=by
   have e0:0+HN<=X.length:=by omega
   have hsh:showAs [.row 0 7 X,.var [.str n.topic,.lst false L1,.int .i64 n.qos,.bool n.retain,.str n.sender,.int .i64 n.expires,.lst false L2,.int .i64 n.origin,.int .i64 n.number,.int .i64 n.hops]] [.agg [.str n.topic,.lst false L1,.int .i64 n.qos,.bool n.retain,.str n.sender,.int .i64 n.expires,.lst false L2,.int .i64 n.origin,.int .i64 n.number,.int .i64 n.hops],.sl 0 0 0 HN]=some ([.agg [.str n.topic,.lst false L1,.int .i64 n.qos,.bool n.retain,.str n.sender,.int .i64 n.expires,.lst false L2,.int .i64 n.origin,.int .i64 n.number,.int .i64 n.hops],.lst false X],[0]):=by
    have e1:HN<=X.length:=by omega
    simp [showAs,showA,ZbZ,Zcn,Zl,e1,hXl]
   have key:=fun sq own=>Zya (O:=ER) (bf:=BY) (f:=8) (by kernel_rfl) hsh rfl rfl hq2 sq own
   have e2:∀ sq,Zj (Za3 [] [] sq) (.lst false L)=.lst false L:=fun _=>rfl
   have e3:ZaU (.lst false L)=false:=rfl
   simp only [e3,e2,Xw,if_false] at key
   by_cases hap:Zct [.row 0 7 X,.var [.str n.topic,.lst false L1,.int .i64 n.qos,.bool n.retain,.str n.sender,.int .i64 n.expires,.lst false L2,.int .i64 n.origin,.int .i64 n.number,.int .i64 n.hops]] [0] (.lst false L)=true
   ·simp only [hap,if_true] at key;exact ⟨_,_,key⟩
   ·simp only [hap,if_false] at key;exact ⟨_,_,key⟩
  obtain ⟨σ',c,hP2⟩:=hP2
  rw [ZpI (by rfl) Zuq]
  simp -implicitDefEqProofs only [EQA,ZE,ZB,ZA,ZD,Zz,ZC,ZP,ZQ,ZR,ZM,ZN,ZO,ZS,ZL,ZK,implies_true,forall_const,Xn,Xo,Xq,Xf,Xg,Xp,Xk,ZH,ZJ,unA,Zu,Zy,unG,reduceCtorEq,Zl,decide_eq_true_eq,Xh,Xc,ite_self,↓reduceIte,Zw,ZG,gcT,gcA,Zm,Zf,Ze,Zg,Zn,Zb,Zo,Zh,Zr,Xe,ZdT,Zdb,ZdK,ZdL,ZcN,ZdH,ZcV,ZdW,ZcS,Zd9,Zc0,Zs,Zi,Zk,Zc,Zx,ZI,ZrB,ZrD,hM,hC,hP,hP2,hw,h5,h12,hHl,hwr,hPl,Zab,AVal.cells,ZT,Xt,XA,bne_self_eq_false,ZaW]
  try (rw [Zba _ _ _ _ _ _ _ (by rfl)])
  try (simp -implicitDefEqProofs only [EQA,ZE,ZB,ZA,ZD,Zz,ZC,ZP,ZQ,ZR,ZM,ZN,ZO,ZS,ZL,ZK,implies_true,forall_const,Xn,Xo,Xq,Xf,Xg,Xp,Xk,ZH,ZJ,unA,Zu,Zy,unG,reduceCtorEq,Zl,decide_eq_true_eq,Xh,Xc,ite_self,↓reduceIte,Zw,ZG,gcT,gcA,Zm,Zf,Ze,Zg,Zn,Zb,Zo,Zh,Zr,Xe,ZdT,Zdb,ZdK,ZdL,ZcN,ZdH,ZcV,ZdW,ZcS,Zd9,Zc0,Zs,Zi,Zk,Zc,Zx,ZI,ZrB,ZrD,hM,hC,hP,hP2,hw,h5,h12,hHl,hwr,hPl,Zab,AVal.cells,ZT,Xt,XA,bne_self_eq_false])
end
section
open Go.RowKit
theorem ZuN {α:Type} {T:Ty} {s:Bool} {f:α->AVal} (h:∀ y,TyC T y->∃ a,Zbn s y=f a) {xs:List AVal} (hx:TyC (.slice s T) xs):∃ l:List α,xs=[.lst false (l.map f)]/\l.length<=9223372036854775807:=by
 simp only [TyC] at hx
 obtain ⟨ys,rfl,h1,h2⟩:=hx
 have : ∀ ys:List (List AVal),(∀ y ∈ ys,TyC T y)->∃ l:List α,ys.map (Zbn s)=l.map f:=by
  intro ys
  induction ys with
  | nil=>intro _;exact ⟨[],rfl⟩
  | cons y ys ih =>
   intro hy
   obtain ⟨a,ha⟩:=h y (hy y (by simp))
   obtain ⟨l,hl⟩:=ih fun y' h'=>hy y' (by simp [h'])
   exact ⟨a::l,by simp [ha,hl]⟩
 obtain ⟨l,hl⟩:=this ys h2
 refine ⟨l,by rw [hl],?_⟩
 have:=congrArg List.length hl
 simp only [XH] at this
 omega
theorem Zwx {y:List AVal} (h:TyC (.int .u8) y):∃ b,Zbn false y=Zt b:=by
 simp only [TyC] at h
 obtain ⟨n,hw,rfl⟩:=h
 have h1:0<=n/\n<=255:=by
  simp only [Lit.wf,Bool.and_eq_true,decide_eq_true_eq] at hw
  exact hw
 refine ⟨UInt8.ofNat n.toNat,?_⟩
 simp only [Zbn,Xw,if_false,List.headD_cons,Zt,AVal.int.injEq,true_and]
 rw [UInt8.toNat_ofNat']
 omega
theorem Ze9 {xs:List AVal} (h:TyC (.slice false (.int .u8)) xs):∃ b:ZF,xs=[Zi b]/\b.length<=9223372036854775807:=ZuN (fun _=>Zwx) h
theorem ZwV {xs:List AVal} (h:TyC (.slice false (.int .i64)) xs):∃ b:List Int,xs=[Zs b]/\b.length<=9223372036854775807:=ZuN (fun y hy=>by
 simp only [TyC] at hy
 obtain ⟨n,_,rfl⟩:=hy
 exact ⟨n,rfl⟩) h
def ZAi:Ty:=.struct [.int .i64,.int .i64,.str,.str,.slice false (.int .u8)]
def Zwk:Ty:=.struct [.str,.slice false (.int .u8),.int .i64,.bool,.str,.int .i64,.slice true ZAi,.int .i64,.int .i64,.int .i64]
def ZyG:Ty:=.struct [Zwk,.int .i64,.bool,.slice false (.int .i64),.str]
example:ZcC Try.prog 8 33=some ZyG:=by kernel_rfl
example:ZcH (Try.prog.underlying 33)=true:=by kernel_rfl
end
section
open Go.RowKit
def ZsD:Ty:=.struct [.slice false (.int .u8),.slice false (.int .u8),.slice false (.int .u8),.slice false (.int .u8),.int .i64,.int .i64,.bool,.bool,.int .i64,.struct [.int .i64,.slice false (.int .u8),.slice false (.int .u8),.slice false (.int .u8)],.slice false (.int .i64),.int .i64,.int .i64]
theorem ZAp {x:AVal} (h:ZmH true ZsD x):∃ m,Zf3 m/\x=.agg (mC m):=by
 obtain ⟨y,h,rfl⟩:=h
 unfold ZsD at h
 rw [TyC] at h
 simp only [Zdx] at h
 obtain ⟨_,_,rfl,h1,_,_,rfl,h2,_,_,rfl,h3,_,_,rfl,h4,_,_,rfl,h5,_,_,rfl,h6,_,_,rfl,h7,_,_,rfl,h8,_,_,rfl,h9,_,_,rfl,h10,_,_,rfl,h11,_,_,rfl,h12,_,_,rfl,h13,rfl⟩:=h
 rw [TyC] at h10
 simp only [Zdx] at h10
 obtain ⟨_,_,rfl,g1,_,_,rfl,g2,_,_,rfl,g3,_,_,rfl,g4,rfl⟩:=h10
 obtain ⟨b1,rfl,l1⟩:=Ze9 h1
 obtain ⟨b2,rfl,l2⟩:=Ze9 h2
 obtain ⟨b3,rfl,l3⟩:=Ze9 h3
 obtain ⟨b4,rfl,l4⟩:=Ze9 h4
 obtain ⟨c2,rfl,m2⟩:=Ze9 g2
 obtain ⟨c3,rfl,m3⟩:=Ze9 g3
 obtain ⟨c4,rfl,m4⟩:=Ze9 g4
 obtain ⟨is,rfl,li⟩:=ZwV h11
 simp only [TyC] at h5 h6 h7 h8 h9 h12 h13 g1
 obtain ⟨a5,_,rfl⟩:=h5
 obtain ⟨a6,_,rfl⟩:=h6
 obtain ⟨a7,rfl⟩:=h7
 obtain ⟨a8,rfl⟩:=h8
 obtain ⟨a9,_,rfl⟩:=h9
 obtain ⟨a12,_,rfl⟩:=h12
 obtain ⟨a13,_,rfl⟩:=h13
 obtain ⟨f1,_,rfl⟩:=g1
 exact ⟨⟨b1,b2,b3,b4,a5,a6,a7,a8,a9,⟨f1,c2,c3,c4⟩,is,a12,a13⟩,⟨l1,l2,l3,m2,m4,li⟩,rfl⟩
end
section
open Go.RowKit
def Zku:Ty:=.slice true (.struct [.str,.struct [.str,.int .i64,.bool,.bool,.int .i64,.int .i64]])
theorem ZBa {x:AVal} (h:ZmH false Zku x):∃ l:List Zay,x=.lst false (l.map Z1):=by
 obtain ⟨y,h,rfl⟩:=h
 simp only [Zku,TyC] at h
 obtain ⟨ys,rfl,h1,h2⟩:=h
 have : ∀ ys:List (List AVal),(∀ y ∈ ys,Zdx [.str,.struct [.str,.int .i64,.bool,.bool,.int .i64,.int .i64]] y)->∃ l:List Zay,ys.map (Zbn true)=l.map Z1:=by
  intro ys
  induction ys with
  | nil=>intro _;exact ⟨[],rfl⟩
  | cons y ys ih =>
   intro hy
   have hy0:=hy y (by simp)
   simp only [Zdx] at hy0
   obtain ⟨_,_,rfl,h1,_,_,rfl,h2,rfl⟩:=hy0
   rw [TyC] at h2
   simp only [Zdx] at h2
   obtain ⟨_,_,rfl,g1,_,_,rfl,g2,_,_,rfl,g3,_,_,rfl,g4,_,_,rfl,g5,_,_,rfl,g6,rfl⟩:=h2
   simp only [TyC] at h1 g1 g2 g3 g4 g5 g6
   obtain ⟨c,_,rfl⟩:=h1
   obtain ⟨f,_,rfl⟩:=g1
   obtain ⟨q,_,rfl⟩:=g2
   obtain ⟨a,rfl⟩:=g3
   obtain ⟨p,rfl⟩:=g4
   obtain ⟨hd,_,rfl⟩:=g5
   obtain ⟨i,_,rfl⟩:=g6
   obtain ⟨l,hl⟩:=ih fun y' h'=>hy y' (by simp [h'])
   exact ⟨⟨c,⟨f,q,a,p,hd,i⟩⟩::l,by simp [hl,Zbn,Z1]⟩
 obtain ⟨l,hl⟩:=this ys (fun y hy=>by simpa only [TyC] using h2 y hy)
 exact ⟨l,by simp [Zbn,hl]⟩
theorem Zy6 (w:World):Gl.le (Imm.of w):=by
 intro b o u h
 unfold Gl at h
 cases h
end
section
open Go.ChangeShapes Go.WideShapes Go.ChangeAt Go.RowKit Go.Deep
open Go.ChangeMaps (open_string shut_string)
theorem Zx8:ownKnob Try.prog.godebug=none:=by kernel_rfl
theorem Zvi:laidOutB Try.prog=true:=by kernel_rfl
set_option maxRecDepth 100000 in
theorem ZAX (os:Os) (started:os.Started) (H:Type) (enc:TypeId×Value->H) :
  ReturnsInHanded {} Try.checked os 4 .any (Rows.routeOrderSpec.pre6 enc Try.prog Try.f4 Rows.routeOrderRow.domain false) (Rows.routeOrderSpec.post enc Try.prog Try.f4 false true false false):=by
 refine returnsInHanded_of_change (C:=Try.checked) Zx8 started (by kernel_rfl) Try.func4
  (ChangeSpec.witness6 (enc:=enc) (C:=Try.checked) false ⟨#[],#[.agg #[.slice none 0 0,.slice none 0 0,.slice none 0 0,.slice none 0 0,.int .i64 0,.int .i64 0,.bool false,.bool false,.int .i64 0,.int .i64 0,.slice none 0 0,.slice none 0 0,.slice none 0 0,.slice none 0 0,.int .i64 0,.int .i64 0],.slice none 0 0],[]⟩ 8 (by kernel_rfl) (by kernel_rfl) (by kernel_rfl) (by kernel_rfl)) ?_
 intro W base args ds gs before hval0 hW hcnd _
 have hval:∀ (j:Nat) t v,Try.f4.params[j]?=some t->args[j]?=some v->Value.okWide Try.prog W .any base t v:=hval0
 have hW':=hW
 obtain ⟨p,q,hA0,hV,rfl,hfz,hnd⟩:=hW
 have hA:DataW.TrodAll enc Try.prog W 0 (fun _=>true) true Try.f4.params.toList args.toList ds p:=hA0
 rw [Try.params4] at hA hval
 obtain ⟨v0,vs0,d0,ds0,p0,q0,hargs,rfl,rfl,h0,r0⟩:=trodAll_cons hA
 obtain ⟨v1,vs1,d1,ds1,p1,q1,rfl,rfl,rfl,h1,r1⟩:=trodAll_cons r0
 obtain ⟨rfl,rfl,rfl⟩:=trodAll_nil r1
 obtain rfl:args=#[v0,v1]:=by cases args;simp_all
 obtain ⟨rfl,rfl⟩:=trodVars_none hV
 have k0:=h0
 have lt0:∀ x ∈ p0,x.block < W.heap.size:=by obtain ⟨m,hm⟩:=k0;exact DataW.trod_lt m _ _ _ hm
 have k1:=h1
 have lt1:∀ x ∈ p1,x.block < W.heap.size:=by obtain ⟨m,hm⟩:=k1;exact DataW.trod_lt m _ _ _ hm
 obtain ⟨x0,y0,z0,_⟩:=ZtY (n:=12) (T:=ZsD) (by kernel_rfl) (hval 0 27 v0 rfl rfl) h0
 obtain ⟨a0,b0,rfl⟩:=ZAp y0
 obtain ⟨x1,y1,z1,_⟩:=ZtY (n:=12) (T:=Zku) (by kernel_rfl) (hval 1 28 v1 rfl rfl) h1
 obtain ⟨a1,rfl⟩:=ZBa y1
 clear hA0 hval0
 refine (Zw7 ZAQ (Zy6 _) (args:=[.agg (mC a0),.lst false (a1.map Z1)]) (by simp only [VRs];exact ⟨_,_,rfl,z0,_,_,rfl,z1,rfl⟩) (ZxV a0 b0 a1)).mono fun e W' ⟨he,bel⟩=>?_
 subst he
 exact ⟨_,rfl,_,_,_,[],_,[],hW',trodAll_mk1 (shut_bool Try.underlying4 _),(trodAll_cons_mk (Below.trod Zvi (by kernel_rfl) (of_decide_eq_true (by kernel_rfl)) k0 bel lt0) (trodAll_cons_mk (Below.trod Zvi (by kernel_rfl) (of_decide_eq_true (by kernel_rfl)) k1 bel lt1) trodAll_mk0)),rfl,bel.frame _,fun h=>by cases h⟩
theorem routeOrder_holds:Rows.RouteOrderSaid :=
 OpenClaim.holds_of_wide 4 Try.f4 rfl rfl rfl rfl rfl rfl rfl ⟨rfl,rfl,rfl,rfl,rfl⟩ rfl rfl rfl rfl rfl (by kernel_rfl) Try.func4 (by kernel_rfl)
  (of_decide_eq_true (by kernel_rfl)) (by unfold Func.isWrapper;first | (rw [if_pos (by decide +kernel)];kernel_rfl) | (rw [if_neg (by decide +kernel)];exact ⟨rfl,rfl⟩))
  (fun os started H enc _=>ZAX os started H enc)
#print axioms routeOrder_holds
end
end Go.Proofs.Ytfpahnkbjfimdaa
