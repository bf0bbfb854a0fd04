/- The statement of RouteOrder: for every input the law returns true, and each argument reads afterwards as it read before. No other condition. -/
import Derived.Test.YtfpahnkbjfimdaaMq3
import Derived.Test.YtfpahnkbjfimdaaRows
import Derived.WalkKit
import Derived.ProofKit
import Derived.OpenShut
import Derived.ShutString
import Derived.ChangeOld
import Derived.Below
set_option linter.defProp false
set_option linter.unusedSectionVars false
set_option linter.unusedSimpArgs false
set_option linter.unusedVariables false
open Option.some renaming injEq→Xa
open Prod.mk renaming injEq→Xb
open Bool renaming decide_eq_true→Xc,not_eq_true→Xh,false_eq_true→Xw,or_eq_true→Wu
open List renaming range_succ→Xe,mem_of_getElem?→Xr,map_cons→Xs,all_cons→Xt,mem_append→Xu,length_append→Xx,length_cons→Xz,all_nil→XA,length_nil→XF,length_singleton→XG,length_map→XH,mem_cons→XJ,mem_map→XK,getD_cons_zero→XM,getD_cons_succ→XU,map_nil→XV,mem_singleton→XW,getElem?_map→XX,lookup_cons→XZ,contains_nil→X0,nil_append→X1,append_nil→X2,length_take→X3,mem_or_eq_of_mem_set→X5,map_append→X9,lookup_nil→Wi,map_map→Wn,drop_eq_nil_iff→Wo,append_assoc→Wq,any_cons→WA,singleton_append→WD,any_nil→WG,map_congr_left→WK,set_cons_succ→WP,mergeSort_perm→W4,pairwise_mergeSort→Xaj,set_set→XaH,take_length→XaN,map_set→XaX
open Nat renaming reduceLeDiff→Xf,reduceEqDiff→Xg,reduceMul→Xk,reduceAdd→Xn,reduceSub→Xo,reduceBEq→Xp,reduceLT→Xq,zero_add→XC,le_refl→XN,one_mul→We
open Or renaming inl→Xv
open List.cons renaming injEq→Xaf
open List.Perm renaming refl→Xa0
namespace Go.Proofs.Ytfpahnkbjfimdaa
set_option maxHeartbeats 16000000
set_option maxRecDepth 10000
section
structure Zax where
 client:ZF
 sub:Zas
 deriving DecidableEq
def Z0 (h:Zax):AVal:=.agg [.str h.client,.str h.sub.filter,.int .i64 h.sub.qos,.bool h.sub.noLocal,.bool h.sub.asPublished,.int .i64 h.sub.handling,.int .i64 h.sub.id]
abbrev Grp:=List (ZF×List Zas)
def Zbl:Grp->ZF->Zas->Grp
 | [],c,s=>[(c,[s])]
 | (k,l)::r,c,s=>if c=k then (k,l++[s])::r else (k,l)::Zbl r c s
def Zc0 (n:Z2) (h:Zax):Bool:=!h.sub.noLocal || h.client != n.sender || n.sender == []
def Zb0 (n:Z2) (G:Grp) (hits:List Zax):Grp:=hits.foldl (fun G h=>if Zc0 n h then Zbl G h.client h.sub else G) G
def gE (G:Grp):List (AVal×(List AVal ⊕ AVal)):=G.map fun p=>(AVal.str p.1,(Sum.inl (p.2.map Za5):List AVal ⊕ AVal))
theorem Znl (G:Grp):ZW ((gE G).map fun p=>ZqU p.2)=[]:=by
 induction G with
 | nil=>rfl
 | cons p G ih=>simp only [gE,Xs,ZW,ZqU,Z5,X1] at ih ⊢;exact ih
theorem Zly (ρ:Rho) (G:Grp):((gE G).map fun p=>(p.1,p.2.map id (Zj ρ)))=gE G:=by
 unfold gE
 rw [Wn]
 rfl
def ZbZ (c:ZF):Grp->Nat->Option (Nat×List Zas)
 | [],_=>none
 | (k,l)::r,i=>if c=k then some (i,l) else ZbZ c r (i+1)
theorem Ztp (c:ZF):∀ (G:Grp) (i:Nat),Zb7 (.str c) (gE G) i=some ((ZbZ c G i).map fun p=>(p.1,Sum.inl (p.2.map Za5)))
 | [],i=>rfl
 | (k,l)::r,i=>by
  have ih:=Ztp c r (i+1)
  simp only [gE,Xs,Zb7,Zcr] at ih ⊢
  by_cases e:c=k
  ·subst e
   simp [ZbZ]
  ·have : (c == k)=false:=by simpa using e
   simp only [this,ZbZ,if_neg e]
   exact ih
theorem Zim {c:ZF} {s:Zas}:∀ {G:Grp} {i:Nat},ZbZ c G i=none->Zbl G c s=G++[(c,[s])]
 | [],i,_=>rfl
 | (k,l)::r,i,h=>by
  simp only [ZbZ] at h
  split at h
  ·cases h
  ·rename_i e
   simp only [Zbl,if_neg e,List.cons_append,Zim (s:=s) h]
theorem ZgU {c:ZF} {s:Zas}:∀ {G:Grp} {i j:Nat} {l:List Zas},ZbZ c G i=some (j,l)->∃ j',j=i+j'/\G[j']?=some (c,l)/\Zbl G c s=G.set j' (c,l++[s])
 | [],i,j,l,h=>by simp [ZbZ] at h
 | (k,m)::r,i,j,l,h=>by
  simp only [ZbZ] at h
  split at h
  ·rename_i e;subst e
   simp only [Xa,Xb] at h
   obtain ⟨rfl,rfl⟩:=h
   exact ⟨0,rfl,rfl,by simp [Zbl]⟩
  ·rename_i e
   obtain ⟨j',h1,h2,h3⟩:=ZgU (s:=s) h
   exact ⟨j'+1,by omega,by simpa using h2,by simp only [Zbl,if_neg e,h3,WP]⟩
theorem ZvF (c:ZF) (v:AVal):∀ {G:Grp} {i j:Nat} {l:List Zas},ZbZ c G i=some (i+j,l)->Zb7 (.str c) ((gE G).set j (.str c,.inr v)) i=some (some (i+j,.inr v))
 | [],i,j,l,h=>by simp [ZbZ] at h
 | (k,m)::r,i,j,l,h=>by
  simp only [ZbZ] at h
  split at h
  ·rename_i e;subst e
   simp only [Xa,Xb] at h
   obtain ⟨h1,rfl⟩:=h
   have hj:j=0:=by omega
   subst hj
   simp [gE,Zb7,Zcr]
  ·rename_i e
   cases j with
   | zero =>
    obtain ⟨j',h1,_⟩:=ZgU (s:=⟨[],0,false,false,0,0⟩) h
    omega
   | succ j =>
    have ih:=ZvF c v (G:=r) (i:=i+1) (j:=j) (l:=l) (by rw [h];congr 2;omega)
    have hne:(c == k)=false:=by simpa using e
    simp only [gE,Xs,WP,Zb7,Zcr,hne] at ih ⊢
    rw [ih]
    congr 3
    omega
def plT (i:Int) (N:Nat) (S:AVal):Tms:=[(14,.int .i64 i),(13,.int .i64 N),(12,S),(5,.map 0),(2,.ref 1 0)]
theorem Zsx (n:Z2) (hits:List Zax) (hN:hits.length<=1000000000):∀ (r:List Zax) (i:Nat) (G:Grp),hits.drop i=r->(∀ p ∈ G,p.2.length<=i) ->
  ∃ tm',evL FC PR BY 0 [14,13,12,5,2] ZrJ (plT i hits.length (.lst false (hits.map Z0))) [.gmap 6 (gE G),.var (Z6 n)]=some (.exit 0,tm',[.gmap 6 (gE (Zb0 n G r)),.var (Z6 n)])/\keepL [8,5,2] tm'=[(8,.top),(5,.map 0),(2,.ref 1 0)]
 | [],i,G,h,_=>by
  have h1:=ZgR h
  have hr:=Znl G
  have hn:=fun ρ=>Zly ρ G
  rw [show Zb0 n G []=G from rfl]
  unfold plT Z6 Zi Zk
  generalize gE G=M at *
  generalize hits.map Z0=S at *
  generalize n.payload.map Zt=L1 at *
  generalize n.props.map Zc=L2 at *
  refine ⟨[(15,.bool false),(14,.int .i64 i),(13,.int .i64 hits.length),(12,.lst false S),(5,.map 0),(2,.ref 1 0)],?_,rfl⟩
  rw [ZaZ]
  simp -implicitDefEqProofs only [EQA,ZA,ZD,ZC,Zz,ZE,ZB,ZO,ZP,ZL,ZQ,ZN,ZR,ZS,ZK,ZM,implies_true,forall_const,Xn,Xo,Xq,Xf,Xg,Xp,Xk,ZH,ZJ,unA,Zu,Zy,unG,reduceCtorEq,Zm,decide_eq_true_eq,Xh,Xc,ite_self,↓reduceIte,Zw,ZG,gcT,gcA,Zl,Zf,Ze,Zg,Zn,Zb,Zo,Zh,Zp,Xe,Za4,ZaU,Za0,Za1,ZaW,Za6,ZaV,Zs,Zi,Zk,Zc,Zx,ZI,h1,hr,hn,Zdu,ZcL]
 | s::r,i,G,h,hG=>by
  have hd:=Zba h
  have h1:(i:Int) < (hits.length:Int):=by have:=hd.2.2;omega
  have e1:∀ (σ:Za) (b:Bool) (kk:IntKind),ZaT σ 7 (.lst b (hits.map Z0)) (.int kk (i:Int))=some (.iptr [.str s.client,.str s.sub.filter,.int .i64 s.sub.qos,.bool s.sub.noLocal,.bool s.sub.asPublished,.int .i64 s.sub.handling,.int .i64 s.sub.id] 0,σ,{}):=fun σ b kk=>iad hd.1 Z0 (k:=7) rfl σ b kk
  have hw:IntKind.i64.wrap ((i:Int)+1)=((i+1:Nat):Int):=by rw [Zcv (by omega) (by omega)];rfl
  have hr:=Znl G
  have hn:=fun ρ=>Zly ρ G
  have hil:i < hits.length:=hd.2.2
  by_cases hwn:Zc0 n s=true
  ·have ih:=Zsx n hits hN r (i+1) (Zbl G s.client s.sub) hd.2.1 (by
    intro p hp
    cases hg:ZbZ s.client G 0 with
    | none =>
     rw [Zim hg] at hp
     rcases Xu.1 hp with hp | hp
     ·have:=hG p hp;omega
     ·rw [XW] at hp;subst hp;simp
    | some q =>
     obtain ⟨j',_,h2,h3⟩:=ZgU (s:=s.sub) (l:=q.2) (j:=q.1) hg
     rw [h3] at hp
     rcases X5 hp with hp | rfl
     ·have:=hG p hp;omega
     ·have:=hG _ (Xr h2);simp at this ⊢;omega)
   rw [show Zb0 n G (s::r)=Zb0 n (Zbl G s.client s.sub) r by simp [Zb0,hwn]]
   generalize gE (Zb0 n (Zbl G s.client s.sub) r)=RES at *
   have hr2:=Znl (Zbl G s.client s.sub)
   have hn2:=fun ρ=>Zly ρ (Zbl G s.client s.sub)
   have hg0:=Ztp s.client G 0
   have hkd:Zap (.str s.client)=2:=rfl
   cases hg:ZbZ s.client G 0 with
   | none =>
    rw [hg,Option.map_none] at hg0
    have e2:gE (Zbl G s.client s.sub)=gE G++[(.str s.client,.inl [.agg [.str s.sub.filter,.int .i64 s.sub.qos,.bool s.sub.noLocal,.bool s.sub.asPublished,.int .i64 s.sub.handling,.int .i64 s.sub.id]])]:=by rw [Zim hg];simp [gE,Za5]
    rw [e2] at hr2 hn2 ih
    clear hd h hG hg e2
    unfold plT Z6 Zi Zk at ih ⊢
    generalize gE G=M at *
    generalize hits.map Z0=S at *
    generalize hits.length=N at *
    generalize n.payload.map Zt=L1 at *
    generalize n.props.map Zc=L2 at *
    obtain ⟨tm',ih1,ih2⟩:=ih
    refine ⟨tm',?_,ih2⟩
    rw [ZaZ]
    unfold Zc0 at hwn
    cases hnl:s.sub.noLocal with
    | false =>
     rw [hnl] at e1 ih1 hr2 hn2
     simp -implicitDefEqProofs only [EQA,ZA,ZD,ZC,Zz,ZE,ZB,ZO,ZP,ZL,ZQ,ZN,ZR,ZS,ZK,ZM,implies_true,forall_const,Xn,Xo,Xq,Xf,Xg,Xp,Xk,ZH,ZJ,unA,Zu,Zy,unG,reduceCtorEq,Zm,decide_eq_true_eq,Xh,Xc,ite_self,↓reduceIte,Zw,ZG,gcT,gcA,Zl,Zf,Ze,Zg,Zn,Zb,Zo,Zh,Zp,Xe,Za4,ZaU,Za0,Za1,ZaW,Za6,ZaV,Zs,Zi,Zk,Zc,Zx,ZI,h1,e1,hw,hr,hn,hr2,hn2,hg0,hkd,Zdu,ZcL,Zc6,Zab,AVal.cells,ZT,Xt,XA,Zb9,ZcB,ZcD,Zcg,Zbn,Zac,kOk,viewAs,Zao,Zae,Zah,Zr,XG,We,ZaS]
     rw [Za9 _ _ _ _ _ _ _ (by rfl)]
     simp -implicitDefEqProofs only [EQA,ZA,ZD,ZC,Zz,ZE,ZB,ZO,ZP,ZL,ZQ,ZN,ZR,ZS,ZK,ZM,implies_true,forall_const,Xn,Xo,Xq,Xf,Xg,Xp,Xk,ZH,ZJ,unA,Zu,Zy,unG,reduceCtorEq,Zm,decide_eq_true_eq,Xh,Xc,ite_self,↓reduceIte,Zw,ZG,gcT,gcA,Zl,Zf,Ze,Zg,Zn,Zb,Zo,Zh,Zp,Xe,Za4,ZaU,Za0,Za1,ZaW,Za6,ZaV,Zs,Zi,Zk,Zc,Zx,ZI,h1,e1,hw,hr,hn,hr2,hn2,hg0,hkd,Zdu,ZcL,Zc6,Zab,AVal.cells,ZT,Xt,XA,Zb9,ZcB,ZcD,Zcg,Zbn,Zac,kOk,viewAs,Zao,Zae,Zah,Zr,XG,We,ZaS]
     exact ih1
    | true =>
     rw [hnl] at e1 ih1 hwn hr2 hn2
     have hc:(!s.client == n.sender || n.sender == [])=true:=by simpa [bne] using hwn
     simp -implicitDefEqProofs only [EQA,ZA,ZD,ZC,Zz,ZE,ZB,ZO,ZP,ZL,ZQ,ZN,ZR,ZS,ZK,ZM,implies_true,forall_const,Xn,Xo,Xq,Xf,Xg,Xp,Xk,ZH,ZJ,unA,Zu,Zy,unG,reduceCtorEq,Zm,decide_eq_true_eq,Xh,Xc,ite_self,↓reduceIte,Zw,ZG,gcT,gcA,Zl,Zf,Ze,Zg,Zn,Zb,Zo,Zh,Zp,Xe,Za4,ZaU,Za0,Za1,ZaW,Za6,ZaV,Zs,Zi,Zk,Zc,Zx,ZI,h1,e1,hw,hc,hr,hn,hr2,hn2,hg0,hkd,Zdu,ZcL,Zc6,Zab,AVal.cells,ZT,Xt,XA,Zb9,ZcB,ZcD,Zcg,Zbn,Zac,kOk,viewAs,Zao,Zae,Zah,Zr,XG,We,ZaS]
     rw [Za9 _ _ _ _ _ _ _ (by rfl)]
     simp -implicitDefEqProofs only [EQA,ZA,ZD,ZC,Zz,ZE,ZB,ZO,ZP,ZL,ZQ,ZN,ZR,ZS,ZK,ZM,implies_true,forall_const,Xn,Xo,Xq,Xf,Xg,Xp,Xk,ZH,ZJ,unA,Zu,Zy,unG,reduceCtorEq,Zm,decide_eq_true_eq,Xh,Xc,ite_self,↓reduceIte,Zw,ZG,gcT,gcA,Zl,Zf,Ze,Zg,Zn,Zb,Zo,Zh,Zp,Xe,Za4,ZaU,Za0,Za1,ZaW,Za6,ZaV,Zs,Zi,Zk,Zc,Zx,ZI,h1,e1,hw,hc,hr,hn,hr2,hn2,hg0,hkd,Zdu,ZcL,Zc6,Zab,AVal.cells,ZT,Xt,XA,Zb9,ZcB,ZcD,Zcg,Zbn,Zac,kOk,viewAs,Zao,Zae,Zah,Zr,XG,We,ZaS]
     exact ih1
   | some q =>
    obtain ⟨j,l⟩:=q
    rw [hg,Option.map_some] at hg0
    obtain ⟨j',hj,hq2,hq3⟩:=ZgU (s:=s.sub) hg
    have hj':j'=j:=by omega
    subst hj'
    have hll:=hG _ (Xr hq2)
    simp only at hll hg0
    have hg1:=fun v=>ZvF s.client v (G:=G) (i:=0) (j:=j') (l:=l) (by rw [hg,XC])
    rw [XC] at hg1
    have hgd:∀ d:AVal×(List AVal ⊕ AVal),((gE G).getD j' d).1=.str s.client:=by
     intro d
     simp [gE,List.getD_eq_getElem?_getD,hq2]
    have e2:gE (Zbl G s.client s.sub)=(gE G).set j' (.str s.client,.inl (l.map Za5++[.agg [.str s.sub.filter,.int .i64 s.sub.qos,.bool s.sub.noLocal,.bool s.sub.asPublished,.int .i64 s.sub.handling,.int .i64 s.sub.id]])):=by rw [hq3];simp [gE,XaX,Za5]
    rw [e2] at hr2 hn2 ih
    have hXl:(l.map Za5).length=l.length:=XH ..
    have hb:(l.length+1)*48<=140737488355328:=by omega
    have hlt:l.length < l.length+1:=by omega
    clear hd h hG hg e2 hq2 hq3 hj
    generalize l.map Za5=L at *
    have hXl2:∀ x:AVal,(L++[x]).length=l.length+1:=fun x=>by rw [Xx,hXl];rfl
    have htk:∀ x:AVal,(L++[x]).take (l.length+1)=L++[x]:=fun x=>by rw [<-hXl2 x,XaN]
    unfold plT Z6 Zi Zk at ih ⊢
    generalize gE G=M at *
    generalize hits.map Z0=S at *
    generalize hits.length=N at *
    generalize n.payload.map Zt=L1 at *
    generalize n.props.map Zc=L2 at *
    obtain ⟨tm',ih1,ih2⟩:=ih
    refine ⟨tm',?_,ih2⟩
    rw [ZaZ]
    unfold Zc0 at hwn
    cases hnl:s.sub.noLocal with
    | false =>
     rw [hnl] at e1 ih1 hr2 hn2
     simp -implicitDefEqProofs only [EQA,ZA,ZD,ZC,Zz,ZE,ZB,ZO,ZP,ZL,ZQ,ZN,ZR,ZS,ZK,ZM,implies_true,forall_const,Xn,Xo,Xq,Xf,Xg,Xp,Xk,ZH,ZJ,unA,Zu,Zy,unG,reduceCtorEq,Zm,decide_eq_true_eq,Xh,Xc,ite_self,↓reduceIte,Zw,ZG,gcT,gcA,Zl,Zf,Ze,Zg,Zn,Zb,Zo,Zh,Zp,Xe,Za4,ZaU,Za0,Za1,ZaW,Za6,ZaV,Zs,Zi,Zk,Zc,Zx,ZI,h1,e1,hw,hr,hn,hr2,hn2,hg0,hkd,Zdu,ZcL,Zc6,Zab,AVal.cells,ZT,Xt,XA,Zb9,ZcB,ZcD,Zcg,Zbn,Zac,kOk,viewAs,Zao,Zae,Zah,Zr,XG,We,ZaS,hg1,hgd,hXl,hXl2,hb,htk,XaH,XN]
     rw [Za9 _ _ _ _ _ _ _ (by rfl)]
     simp -implicitDefEqProofs only [EQA,ZA,ZD,ZC,Zz,ZE,ZB,ZO,ZP,ZL,ZQ,ZN,ZR,ZS,ZK,ZM,implies_true,forall_const,Xn,Xo,Xq,Xf,Xg,Xp,Xk,ZH,ZJ,unA,Zu,Zy,unG,reduceCtorEq,Zm,decide_eq_true_eq,Xh,Xc,ite_self,↓reduceIte,Zw,ZG,gcT,gcA,Zl,Zf,Ze,Zg,Zn,Zb,Zo,Zh,Zp,Xe,Za4,ZaU,Za0,Za1,ZaW,Za6,ZaV,Zs,Zi,Zk,Zc,Zx,ZI,h1,e1,hw,hr,hn,hr2,hn2,hg0,hkd,Zdu,ZcL,Zc6,Zab,AVal.cells,ZT,Xt,XA,Zb9,ZcB,ZcD,Zcg,Zbn,Zac,kOk,viewAs,Zao,Zae,Zah,Zr,XG,We,ZaS,hg1,hgd,hXl,hXl2,hb,htk,XaH,XN]
     exact ih1
    | true =>
     rw [hnl] at e1 ih1 hwn hr2 hn2
     have hc:(!s.client == n.sender || n.sender == [])=true:=by simpa [bne] using hwn
     simp -implicitDefEqProofs only [EQA,ZA,ZD,ZC,Zz,ZE,ZB,ZO,ZP,ZL,ZQ,ZN,ZR,ZS,ZK,ZM,implies_true,forall_const,Xn,Xo,Xq,Xf,Xg,Xp,Xk,ZH,ZJ,unA,Zu,Zy,unG,reduceCtorEq,Zm,decide_eq_true_eq,Xh,Xc,ite_self,↓reduceIte,Zw,ZG,gcT,gcA,Zl,Zf,Ze,Zg,Zn,Zb,Zo,Zh,Zp,Xe,Za4,ZaU,Za0,Za1,ZaW,Za6,ZaV,Zs,Zi,Zk,Zc,Zx,ZI,h1,e1,hw,hc,hr,hn,hr2,hn2,hg0,hkd,Zdu,ZcL,Zc6,Zab,AVal.cells,ZT,Xt,XA,Zb9,ZcB,ZcD,Zcg,Zbn,Zac,kOk,viewAs,Zao,Zae,Zah,Zr,XG,We,ZaS,hg1,hgd,hXl,hXl2,hb,htk,XaH,XN]
     rw [Za9 _ _ _ _ _ _ _ (by rfl)]
     simp -implicitDefEqProofs only [EQA,ZA,ZD,ZC,Zz,ZE,ZB,ZO,ZP,ZL,ZQ,ZN,ZR,ZS,ZK,ZM,implies_true,forall_const,Xn,Xo,Xq,Xf,Xg,Xp,Xk,ZH,ZJ,unA,Zu,Zy,unG,reduceCtorEq,Zm,decide_eq_true_eq,Xh,Xc,ite_self,↓reduceIte,Zw,ZG,gcT,gcA,Zl,Zf,Ze,Zg,Zn,Zb,Zo,Zh,Zp,Xe,Za4,ZaU,Za0,Za1,ZaW,Za6,ZaV,Zs,Zi,Zk,Zc,Zx,ZI,h1,e1,hw,hc,hr,hn,hr2,hn2,hg0,hkd,Zdu,ZcL,Zc6,Zab,AVal.cells,ZT,Xt,XA,Zb9,ZcB,ZcD,Zcg,Zbn,Zac,kOk,viewAs,Zao,Zae,Zah,Zr,XG,We,ZaS,hg1,hgd,hXl,hXl2,hb,htk,XaH,XN]
     exact ih1
  ·have ih:=Zsx n hits hN r (i+1) G hd.2.1 (fun p hp=>by have:=hG p hp;omega)
   rw [show Zb0 n G (s::r)=Zb0 n G r by simp [Zb0,hwn]]
   generalize gE (Zb0 n G r)=RES at *
   clear hd h hG
   unfold plT Z6 Zi Zk at ih ⊢
   generalize gE G=M at *
   generalize hits.map Z0=S at *
   generalize hits.length=N at *
   generalize n.payload.map Zt=L1 at *
   generalize n.props.map Zc=L2 at *
   obtain ⟨tm',ih1,ih2⟩:=ih
   refine ⟨tm',?_,ih2⟩
   rw [ZaZ]
   unfold Zc0 at hwn
   have c0:s.sub.noLocal=true:=by cases hh:s.sub.noLocal <;> simp_all
   rw [c0] at e1 hwn
   have c1:(!s.client == n.sender || n.sender == [])=false:=by simpa [bne] using hwn
   simp -implicitDefEqProofs only [EQA,ZA,ZD,ZC,Zz,ZE,ZB,ZO,ZP,ZL,ZQ,ZN,ZR,ZS,ZK,ZM,implies_true,forall_const,Xn,Xo,Xq,Xf,Xg,Xp,Xk,ZH,ZJ,unA,Zu,Zy,unG,reduceCtorEq,Zm,decide_eq_true_eq,Xh,Xc,ite_self,↓reduceIte,Zw,ZG,gcT,gcA,Zl,Zf,Ze,Zg,Zn,Zb,Zo,Zh,Zp,Xe,Za4,ZaU,Za0,Za1,ZaW,Za6,ZaV,Zs,Zi,Zk,Zc,Zx,ZI,h1,e1,hw,c1,hr,hn,Zdu,ZcL,Zc6,Zab,AVal.cells,ZT,Xt,XA]
   exact ih1
end
section
def fE (p:ZF×List Zas):AVal×AVal:=(.str p.1,.lst false (p.2.map Za5))
def Zaa (n:Z2) (p:ZF×List Zas):AVal:=.agg (.str p.1::ZbS (byI n p.2))
theorem ZvR:∀ G:Grp,ZdN (gE G)=some (G.map fE)
 | []=>rfl
 | p::G=>by
  have ih:=ZvR G
  simp only [gE,Xs,ZdN] at ih ⊢
  rw [ih]
  rfl
theorem ZlY (G:Grp):ZW ((G.map fE).map (·.2))=[]:=by
 induction G with
 | nil=>rfl
 | cons p G ih=>simp only [Xs,fE,ZW,Z5,X1] at ih ⊢;exact ih
theorem Zm5 (ρ:Rho) (G:Grp):(G.map fE).map (fun p=>(p.1,Zj ρ p.2))=G.map fE:=by
 rw [Wn]
 apply WK
 intro p _
 rfl
theorem ZvP (G:Grp) (n:Nat):∀ p ∈ G.map fE,Zh2 n p.2=true:=by
 intro p hp
 obtain ⟨x,_,rfl⟩:=XK.1 hp
 rfl
theorem ZAB (n:Z2) (hn:Zdp n) (G:Grp) (c:ZF) (s:Zas) (r:List Zas) (hN:(s::r).length<=1000000000) (tm:Tms) (σ:Za) (h:gcT 0 (keepL [46,8,2] tm) σ=([(46,.map 0),(8,.lst true []),(2,.ref 1 0)],[.map (G.map fE),.var (Z6 n)])) :
  Zd3 FC PR BY 0 [46,8,2] 46 50 3 ZcG c2P (G.map fE) (fE (c,s::r)) tm σ=some ([(46,.map 0),(8,.sl 2 0 0 1),(2,.ref 1 0)],[.map (G.map fE),.var (Z6 n),.row 0 15 [Zaa n (c,s::r)]]):=by
 have hk:=eq_true (ZvP G 2)
 have hC:=fun σ sq own=>ZtO n hn s r hN σ sq own
 have hfe:fE (c,s::r)=(.str c,.lst false ((s::r).map Za5)):=rfl
 unfold Zd3
 rw [h]
 unfold Zaa
 rw [hfe]
 simp only
 generalize byI n (s::r)=it at *
 generalize (s::r).map Za5=S at *
 generalize G.map fE=M at *
 unfold Z6 ZcO ZbS Zi Zk Zs at *
 generalize n.payload.map Zt=L1 at *
 generalize n.props.map Zc=L2 at *
 generalize it.note.payload.map Zt=L3 at *
 generalize it.note.props.map Zc=L4 at *
 generalize it.ids.map (AVal.int .i64)=L5 at *
 simp -implicitDefEqProofs only [EQA,ZA,ZD,ZC,Zz,ZE,ZB,ZO,ZP,ZL,ZQ,ZN,ZR,ZS,ZK,ZM,implies_true,forall_const,Xn,Xo,Xq,Xf,Xg,Xp,Xk,ZH,ZJ,unA,Zu,Zy,unG,reduceCtorEq,Zm,decide_eq_true_eq,Xh,Xc,ite_self,↓reduceIte,Zw,ZG,gcT,gcA,Zl,Zf,Ze,Zg,Zn,Zb,Zo,Zh,Zp,Xe,Za4,ZaU,Za0,Za1,ZaW,Za6,ZaV,Zs,Zi,Zk,Zc,Zx,ZI,hk,hC,Zej,ZcG,c2P,Zhv,Zab,Za3,AVal.cells,Zds,Zdm,Zac,kOk,viewAs,Zao,Zae,Zah,Zr,XG,We,ZaT,ZeO]
theorem ZAo (n:Z2) (hn:Zdp n) (G:Grp) (c:ZF) (s:Zas) (r:List Zas) (hN:(s::r).length<=1000000000) (tm:Tms) (σ:Za) (k:Nat) (xs:List AVal) (hx:xs.length=k) (hb:(k+1)*200<=140737488355328) (h:gcT 0 (keepL [46,8,2] tm) σ=([(46,.map 0),(8,.sl 1 0 0 k),(2,.ref 2 0)],[.map (G.map fE),.row 0 15 xs,.var (Z6 n)])) :
  Zd3 FC PR BY 0 [46,8,2] 46 50 3 ZcG c2P (G.map fE) (fE (c,s::r)) tm σ=some ([(46,.map 0),(8,.sl 1 1 0 (k+1)),(2,.ref 2 0)],[.map (G.map fE),.row 1 15 (xs++[Zaa n (c,s::r)]),.var (Z6 n),.free]):=by
 have hk:=eq_true (ZvP G 3)
 have hC:=fun σ sq own=>ZtO n hn s r hN σ sq own
 have hfe:fE (c,s::r)=(.str c,.lst false ((s::r).map Za5)):=rfl
 unfold Zd3
 rw [h]
 unfold Zaa
 rw [hfe]
 simp only
 generalize byI n (s::r)=it at *
 generalize (s::r).map Za5=S at *
 generalize G.map fE=M at *
 unfold Z6 ZcO ZbS Zi Zk Zs at *
 generalize n.payload.map Zt=L1 at *
 generalize n.props.map Zc=L2 at *
 generalize it.note.payload.map Zt=L3 at *
 generalize it.note.props.map Zc=L4 at *
 generalize it.ids.map (AVal.int .i64)=L5 at *
 simp -implicitDefEqProofs only [EQA,ZA,ZD,ZC,Zz,ZE,ZB,ZO,ZP,ZL,ZQ,ZN,ZR,ZS,ZK,ZM,implies_true,forall_const,Xn,Xo,Xq,Xf,Xg,Xp,Xk,ZH,ZJ,unA,Zu,Zy,unG,reduceCtorEq,Zm,decide_eq_true_eq,Xh,Xc,ite_self,↓reduceIte,Zw,ZG,gcT,gcA,Zl,Zf,Ze,Zg,Zn,Zb,Zo,Zh,Zp,Xe,Za4,ZaU,Za0,Za1,ZaW,Za6,ZaV,Zs,Zi,Zk,Zc,Zx,ZI,hk,hC,hx,hb,Zej,ZcG,c2P,Zhv,Zab,Za3,AVal.cells,Zds,Zdm,Zac,kOk,viewAs,Zao,Zae,Zah,Zr,XG,We,ZaT,ZeO]
theorem ZAq (n:Z2) (G:Grp) (g k:Nat) (xs:List AVal):gcT 0 (keepL [46,8,2] [(46,.map 0),(8,.sl 1 g 0 k),(2,.ref 2 0)]) [.map (G.map fE),.row g 15 xs,.var (Z6 n),.free]=([(46,.map 0),(8,.sl 1 0 0 k),(2,.ref 2 0)],[.map (G.map fE),.row 0 15 xs,.var (Z6 n)]):=by
 have hr:=ZlY G
 have hm:=fun ρ=>Zm5 ρ G
 generalize G.map fE=M at *
 unfold Z6 Zi Zk
 generalize n.payload.map Zt=L1 at *
 generalize n.props.map Zc=L2 at *
 simp -implicitDefEqProofs only [EQA,ZA,ZD,ZC,Zz,ZE,ZB,ZO,ZP,ZL,ZQ,ZN,ZR,ZS,ZK,ZM,implies_true,forall_const,Xn,Xo,Xq,Xf,Xg,Xp,Xk,ZH,ZJ,unA,Zu,Zy,unG,reduceCtorEq,Zm,decide_eq_true_eq,Xh,Xc,ite_self,↓reduceIte,Zw,ZG,gcT,gcA,Zl,Zf,Ze,Zg,Zn,Zb,Zo,Zh,Zp,Xe,Za4,ZaU,Za0,Za1,ZaW,Za6,ZaV,Zs,Zi,Zk,Zc,Zx,ZI,hr,hm]
theorem Zzd (n:Z2) (G:Grp) (k:Nat) (xs:List AVal):gcT 0 (keepL [46,8,2] [(46,.map 0),(8,.sl 2 0 0 k),(2,.ref 1 0)]) [.map (G.map fE),.var (Z6 n),.row 0 15 xs]=([(46,.map 0),(8,.sl 1 0 0 k),(2,.ref 2 0)],[.map (G.map fE),.row 0 15 xs,.var (Z6 n)]):=by
 have hr:=ZlY G
 have hm:=fun ρ=>Zm5 ρ G
 generalize G.map fE=M at *
 unfold Z6 Zi Zk
 generalize n.payload.map Zt=L1 at *
 generalize n.props.map Zc=L2 at *
 simp -implicitDefEqProofs only [EQA,ZA,ZD,ZC,Zz,ZE,ZB,ZO,ZP,ZL,ZQ,ZN,ZR,ZS,ZK,ZM,implies_true,forall_const,Xn,Xo,Xq,Xf,Xg,Xp,Xk,ZH,ZJ,unA,Zu,Zy,unG,reduceCtorEq,Zm,decide_eq_true_eq,Xh,Xc,ite_self,↓reduceIte,Zw,ZG,gcT,gcA,Zl,Zf,Ze,Zg,Zn,Zb,Zo,Zh,Zp,Xe,Za4,ZaU,Za0,Za1,ZaW,Za6,ZaV,Zs,Zi,Zk,Zc,Zx,ZI,hr,hm]
theorem ZAP (n:Z2) (G:Grp) {tm:Tms} (h1:tget tm 46=.map 0) (h2:tget tm 8=.lst true []) (h3:tget tm 2=.ref 1 0):gcT 0 (keepL [46,8,2] tm) [.map (G.map fE),.var (Z6 n)]=([(46,.map 0),(8,.lst true []),(2,.ref 1 0)],[.map (G.map fE),.var (Z6 n)]):=by
 have hr:=ZlY G
 have hm:=fun ρ=>Zm5 ρ G
 generalize G.map fE=M at *
 unfold Z6 Zi Zk
 generalize n.payload.map Zt=L1 at *
 generalize n.props.map Zc=L2 at *
 simp -implicitDefEqProofs only [EQA,ZA,ZD,ZC,Zz,ZE,ZB,ZO,ZP,ZL,ZQ,ZN,ZR,ZS,ZK,ZM,implies_true,forall_const,Xn,Xo,Xq,Xf,Xg,Xp,Xk,ZH,ZJ,unA,Zu,Zy,unG,reduceCtorEq,Zm,decide_eq_true_eq,Xh,Xc,ite_self,↓reduceIte,Zw,ZG,gcT,gcA,Zl,Zf,Ze,Zg,Zn,Zb,Zo,Zh,Zp,Xe,Za4,ZaU,Za0,Za1,ZaW,Za6,ZaV,Zs,Zi,Zk,Zc,Zx,ZI,hr,hm,h1,h2,h3]
theorem Zvr (n:Z2) (hn:Zdp n) (G:Grp) (hG:∀ p ∈ G,p.2.length<=1000000000):∀ (r d:Grp) (tm:Tms) (σ:Za),(∀ p ∈ r,p.2≠[]/\p.2.length<=1000000000)->d.length+r.length<=700000000->gcT 0 (keepL [46,8,2] tm) σ=([(46,.map 0),(8,.sl 1 0 0 d.length),(2,.ref 2 0)],[.map (G.map fE),.row 0 15 (d.map (Zaa n)),.var (Z6 n)]) ->
  ∃ tm' σ',Zci FC PR BY 0 [46,8,2] 46 50 3 ZcG c2P (G.map fE) (r.map fE) tm σ=some (tm',σ')/\gcT 0 (keepL [46,8,2] tm') σ'=([(46,.map 0),(8,.sl 1 0 0 (d++r).length),(2,.ref 2 0)],[.map (G.map fE),.row 0 15 ((d++r).map (Zaa n)),.var (Z6 n)])
 | [],d,tm,σ,_,hb,h=>⟨tm,σ,rfl,by rw [X2];exact h⟩
 | (c,l)::r,d,tm,σ,hr,hb,h=>by
  obtain ⟨hl,hN⟩:=hr (c,l) (by simp)
  cases l with
  | nil=>exact absurd rfl hl
  | cons s l =>
  have hb1:(d.length+1)*200<=140737488355328:=by simp only [Xz] at hb;omega
  have e:=ZAo n hn G c s l hN tm σ d.length (d.map (Zaa n)) (by simp) hb1 h
  show ∃ tm' σ',(match Zd3 FC PR BY 0 [46,8,2] 46 50 3 ZcG c2P (G.map fE) (fE (c,s::l)) tm σ with
   | some (tm',σ')=>Zci FC PR BY 0 [46,8,2] 46 50 3 ZcG c2P (G.map fE) (r.map fE) tm' σ'
   | none=>none)=some (tm',σ')/\_
  rw [e]
  have ih:=Zvr n hn G hG r (d++[(c,s::l)]) _ _ (fun p hp=>hr p (by simp [hp])) (by simp only [Xx,Xz,XF] at hb ⊢;omega)
   (by
    have:=ZAq n G 1 (d.length+1) (d.map (Zaa n)++[Zaa n (c,s::l)])
    rw [this];simp)
  rw [Wq,WD] at ih
  exact ih
end
section
abbrev ZfP:=Go.Lib.compareBytes
theorem Zf1 (a b:ZF):leC ZfP a b=true↔a<=b:=by
 unfold leC
 rw [Bool.not_eq_true',decide_eq_false_iff_not,Zha,List.not_lt]
def ZdZ (l:List ZF):List ZF:=l.mergeSort (leC ZfP)
theorem Zvx (l:List ZF):(ZdZ l).Pairwise (·<=·):=by
 have h:=Xaj (le:=leC ZfP) (fun a b c h1 h2=>(Zf1 a c).2 (List.le_trans ((Zf1 a b).1 h1) ((Zf1 b c).1 h2))) (fun a b=>by
  rw [Wu,Zf1,Zf1];exact List.le_total a b) l
 exact h.imp fun h=>(Zf1 _ _).1 h
theorem ZfU (l:List ZF):(ZdZ l).Perm l:=W4 l _
theorem Zu1 {d l:List ZF} (h:d.Perm l):ZdZ d=ZdZ l :=
 (((ZfU d).trans h).trans (ZfU l).symm).eq_of_pairwise (fun a b _ _ h1 h2=>List.le_antisymm h1 h2) (Zvx d) (Zvx l)
def Zcy (G:Grp):Grp:=(ZdZ (G.map (·.1))).map fun c=>(c,(G.lookup c).getD [])
theorem Ztf {β:Type}:∀ {G:List (ZF×β)} {c:ZF} {l:β},(G.map (·.1)).Nodup->(c,l) ∈ G->G.lookup c=some l
 | [],c,l,_,h=>by simp at h
 | (k,m)::G,c,l,hn,h=>by
  rw [Xs,List.nodup_cons] at hn
  rw [XZ]
  rcases XJ.1 h with e | h'
  ·injection e with e1 e2
   subst e1 e2
   simp
  ·have : (c == k)=false:=by
    rw [beq_eq_false_iff_ne]
    rintro rfl
    exact hn.1 (XK.2 ⟨(c,l),h',rfl⟩)
   rw [this]
   exact Ztf hn.2 h'
theorem Zs4 (n:Z2):∀ d:Grp,Zbv Ze8 (d.map (Zaa n))=some (d.map (·.1))
 | []=>rfl
 | p::d=>by
  show (Zbv Ze8 (d.map (Zaa n))).map (p.1::·)=_
  rw [Zs4 n d];rfl
theorem ZyC (n:Z2) {d G:Grp} (hp:d.Perm G) (hn:(G.map (·.1)).Nodup):ZdJ ZfP (d.map (Zaa n)) (d.map (·.1))=(Zcy G).map (Zaa n):=by
 have hnd:(d.map (·.1)).Nodup:=(hp.map (·.1)).nodup_iff.2 hn
 unfold ZdJ Zcy
 rw [Wn]
 have e:(d.map (·.1)).mergeSort (leC ZfP)=ZdZ (G.map (·.1)):=Zu1 (hp.map _)
 rw [e]
 apply WK
 intro c hc
 have hc:=(ZfU _).mem_iff.1 hc
 obtain ⟨⟨c',l⟩,hm,rfl⟩:=XK.1 hc
 have hd:=hp.mem_iff.2 hm
 obtain ⟨i,hi⟩:=List.mem_iff_getElem?.1 hd
 have h1:(d.map (·.1))[i]?=some c':=by rw [XX,hi];rfl
 have h2:(d.map (Zaa n))[i]?=some (Zaa n (c',l)):=by rw [XX,hi];rfl
 rw [Zf9 hnd h1 h2]
 simp only [Function.comp,Ztf hn hm,Option.getD_some]
theorem ZkR (G:Grp):(Zcy G).length=G.length:=by
 unfold Zcy;rw [XH,(ZfU _).length_eq,XH]
theorem ZAd (n:Z2) {d G:Grp} (hp:d.Perm G) (hn:(G.map (·.1)).Nodup) (h:d.length < 4611686018427387904):E 23 [.sl 0 0 0 d.length,.fn 24 []] [.row 0 15 (d.map (Zaa n))]=some (.tup [],[.row 0 15 ((Zcy G).map (Zaa n))]):=by
 refine Zcm.2 ⟨1,?_⟩
 show ZfQ 15 24 Ze8 ZfP [.sl 0 0 0 d.length,.fn 24 []] [.row 0 15 (d.map (Zaa n))]=_
 have hnd:(d.map (·.1)).Nodup:=(hp.map (·.1)).nodup_iff.2 hn
 simp only [ZfQ,Zs4,XH,h,hnd,and_self,if_true,ZyC n hp hn]
theorem ZzQ (n:Z2) {d G:Grp} (hp:d.Perm G) (hn:(G.map (·.1)).Nodup) (h:d.length < 4611686018427387904) {σ:Za} {t sq:Nat} (hs:σ[t]?=some (.row 0 15 (d.map (Zaa n)))):ZZ E BY σ sq 23 0 true [.sl t 0 0 d.length,.fn 24 []]=some (.tup [],σ.set t (.row 0 15 ((Zcy G).map (Zaa n))),{ any:=true }):=by
 refine Zvg (args':=[.sl 0 0 0 d.length,.fn 24 []]) hs (by kernel_rfl) rfl rfl (fun ρ h=>by simp only [ZV,Zj,h]) (fun ρ=>rfl) (Xv rfl) ?_
 rw [ZAd n hp hn h]
 rfl
theorem ZxO (σ:Za) (sq:Nat):ZZ E BY σ sq 23 0 true [.lst true [],.fn 24 []]=some (.tup [],σ,{}):=by
 have h:E 23 [.lst true [],.fn 24 []] []=some (.tup [],[]):=Zcm.2 ⟨1,rfl⟩
 unfold ZZ Zcu
 rw [show BY 23=true by kernel_rfl]
 simp only [if_true,show ZW [AVal.lst true [],.fn 24 []]=[] from rfl,show Zr σ []=σ from rfl]
 rw [show Zf σ 1000 [] []=[] from rfl]
 unfold ZbJ
 rw [if_pos (by rfl),show ZV (Ze σ 0 []) [AVal.lst true [],.fn 24 []]=[.lst true [],.fn 24 []] from rfl,show Zg σ 0 [] (Ze σ 0 []) [] 0=[] from rfl,h]
 rfl
theorem Zz4 (n:Z2) {d G:Grp} (hp:d.Perm G) (hn:(G.map (·.1)).Nodup) (hd:d.length < 4611686018427387904) (tm:Tms) (σ:Za) (h:gcT 0 (keepL [46,8,2] tm) σ=([(46,.map 0),(8,.sl 1 0 0 d.length),(2,.ref 2 0)],[.map (G.map fE),.row 0 15 (d.map (Zaa n)),.var (Z6 n)])) :
  Zem FC PR BY 0 [46,8,2] c3P [.tmp 4] tm σ=some (.sl 0 0 0 d.length,[.row 0 15 ((Zcy G).map (Zaa n))]):=by
 have hs:=fun {σ:Za} {sq:Nat} hs=>ZzQ n hp hn hd (σ:=σ) (t:=1) (sq:=sq) hs
 unfold Zem
 rw [h]
 generalize G.map fE=M at *
 generalize (Zcy G).map (Zaa n)=S at *
 generalize d.map (Zaa n)=D at *
 unfold Z6 Zi Zk
 generalize n.payload.map Zt=L1 at *
 generalize n.props.map Zc=L2 at *
 simp -implicitDefEqProofs only [EQA,ZA,ZD,ZC,Zz,ZE,ZB,ZO,ZP,ZL,ZQ,ZN,ZR,ZS,ZK,ZM,implies_true,forall_const,Xn,Xo,Xq,Xf,Xg,Xp,Xk,ZH,ZJ,unA,Zu,Zy,unG,reduceCtorEq,Zm,decide_eq_true_eq,Xh,Xc,ite_self,↓reduceIte,Zw,ZG,gcT,gcA,Zl,Zf,Ze,Zg,Zn,Zb,Zo,Zh,Zp,Xe,Za4,ZaU,Za0,Za1,ZaW,Za6,ZaV,Zs,Zi,Zk,Zc,Zx,ZI,hs,c3P]
 try (simp [Zaz,gcA,Zl,Zf,ZW,Z5,Ze,Zg,Zn,Zb,Zo,ZV,Zj,Zh,Zp,Xe])
theorem ZBa (n:Z2) (G:Grp) (tm:Tms) (σ:Za) (h:gcT 0 (keepL [46,8,2] tm) σ=([(46,.map 0),(8,.lst true []),(2,.ref 1 0)],[.map (G.map fE),.var (Z6 n)])) :
  Zem FC PR BY 0 [46,8,2] c3P [.tmp 4] tm σ=some (.lst true [],[]):=by
 have hs:=ZxO
 unfold Zem
 rw [h]
 generalize G.map fE=M at *
 unfold Z6 Zi Zk
 generalize n.payload.map Zt=L1 at *
 generalize n.props.map Zc=L2 at *
 simp -implicitDefEqProofs only [EQA,ZA,ZD,ZC,Zz,ZE,ZB,ZO,ZP,ZL,ZQ,ZN,ZR,ZS,ZK,ZM,implies_true,forall_const,Xn,Xo,Xq,Xf,Xg,Xp,Xk,ZH,ZJ,unA,Zu,Zy,unG,reduceCtorEq,Zm,decide_eq_true_eq,Xh,Xc,ite_self,↓reduceIte,Zw,ZG,gcT,gcA,Zl,Zf,Ze,Zg,Zn,Zb,Zo,Zh,Zp,Xe,Za4,ZaU,Za0,Za1,ZaW,Za6,ZaV,Zs,Zi,Zk,Zc,Zx,ZI,hs,c3P]
 try (simp [Zaz,gcA,Zl,Zf,ZW,Z5,Ze,Zg,Zn,Zb,Zo,ZV,Zj,Zh,Zp,Xe])
theorem ZxK {α:Type} {p:α->Prop} (h:∃ x,p x) {a:α} (hu:∀ x,p x->x=a):h.choose=a:=hu _ h.choose_spec
theorem ZAH {es:List (AVal×AVal)} {tm:Tms} {σ:Za} {out:AVal×Za} {m ms en b1:Nat} {live:List Nat} {aslE:List AOp} {c2 c3:Zq} {rs:List Zcf} (h:∀ es':List (AVal×AVal),es'.Perm es->ZeS FC PR BY m live ms en b1 aslE c2 c3 rs es es' tm σ=some out):Zgy FC PR BY m live ms en b1 aslE c2 c3 rs es tm σ=some out:=by
 have h':∃ out,∀ es':List (AVal×AVal),es'.Perm es->ZeS FC PR BY m live ms en b1 aslE c2 c3 rs es es' tm σ=some out:=⟨out,h⟩
 unfold Zgy
 rw [dif_pos h']
 refine congrArg some (ZxK h' fun x hx=>?_)
 have:=(hx es (Xa0 _)).symm.trans (h es (Xa0 _))
 injection this
theorem Zye {α β:Type} {f:α->β}:∀ {l:List α} {es:List β},es.Perm (l.map f)->∃ d:List α,d.Perm l/\es=d.map f:=by
 intro l es h
 have key:∀ {xs ys:List β},xs.Perm ys->∀ l:List α,ys=l.map f->∃ d:List α,d.Perm l/\xs=d.map f:=by
  intro xs ys h
  induction h with
  | nil=>intro l e;exact ⟨l,Xa0 _,e⟩
  | cons x _ ih =>
   intro l e
   cases l with
   | nil=>simp at e
   | cons a l =>
    simp only [Xs,Xaf] at e
    obtain ⟨d,h1,h2⟩:=ih l e.2
    exact ⟨a::d,h1.cons a,by rw [Xs,<-h2,e.1]⟩
  | swap x y r =>
   intro l e
   match l,e with
   | a::b::l,e =>
    simp only [Xs,Xaf] at e
    refine ⟨b::a::l,List.Perm.swap a b l,?_⟩
    simp only [Xs,e.1,e.2.1,e.2.2]
  | trans _ _ ih1 ih2 =>
   intro l e
   obtain ⟨d,h1,h2⟩:=ih2 l e
   obtain ⟨d',h3,h4⟩:=ih1 d h2
   exact ⟨d',h3.trans h1,h4⟩
 exact key h l rfl
structure OkG (n:Nat) (G:Grp):Prop where
 nd:(G.map (·.1)).Nodup
 ne:∀ p ∈ G,p.2≠[]/\p.2.length<=n
 len:G.length<=n
theorem Zyb {n:Nat} {G:Grp} (h:OkG n G) (c:ZF) (s:Zas):OkG (n+1) (Zbl G c s):=by
 cases hg:ZbZ c G 0 with
 | none =>
  rw [Zim hg]
  have hc:c ∉ G.map (·.1):=by
   have key:∀ (G:Grp) (i:Nat),ZbZ c G i=none->c ∉ G.map (·.1):=by
    intro G
    induction G with
    | nil=>intro i _ h;simp at h
    | cons p G ih =>
     intro i h
     obtain ⟨k,l⟩:=p
     simp only [ZbZ] at h
     split at h
     ·cases h
     ·rename_i e
      rw [Xs,XJ]
      rintro (h' | h')
      ·exact e h'
      ·exact ih _ h h'
   exact key G 0 hg
  refine ⟨?_,?_,by rw [Xx];have:=h.len;simp;omega⟩
  ·rw [X9,List.nodup_append]
   refine ⟨h.nd,by simp,?_⟩
   intro a ha b hb e
   simp only [Xs,XV,XW] at hb
   subst e hb
   exact hc ha
  ·intro p hp
   rcases Xu.1 hp with hp | hp
   ·have:=h.ne p hp;exact ⟨this.1,by omega⟩
   ·rw [XW] at hp;subst hp;simp
 | some q =>
  obtain ⟨j',_,h2,h3⟩:=ZgU (s:=s) (l:=q.2) (j:=q.1) hg
  rw [h3]
  refine ⟨?_,?_,by rw [List.length_set];have:=h.len;omega⟩
  ·have : (G.set j' (c,q.2++[s])).map (·.1)=G.map (·.1):=by
    rw [XaX]
    apply List.ext_getElem?
    intro i
    rw [List.getElem?_set]
    split
    ·rename_i e;subst e
     simp [h2]
     have:=(List.getElem?_eq_some_iff.1 h2).1
     omega
    ·rfl
   rw [this];exact h.nd
  ·intro p hp
   rcases X5 hp with hp | rfl
   ·have:=h.ne p hp;exact ⟨this.1,by omega⟩
   ·have:=h.ne _ (Xr h2)
    simp at this ⊢
    omega
theorem ZgZ (n:Z2):∀ (hits:List Zax) (G:Grp) (k:Nat),OkG k G->OkG (k+hits.length) (Zb0 n G hits)
 | [],G,k,h=>h
 | x::r,G,k,h=>by
  have h2:OkG (k+1) (if Zc0 n x then Zbl G x.client x.sub else G):=by
   split
   ·exact Zyb h _ _
   ·exact ⟨h.nd,fun p hp=>⟨(h.ne p hp).1,by have:=(h.ne p hp).2;omega⟩,by have:=h.len;omega⟩
  have:=ZgZ n r _ (k+1) h2
  rw [Xz,show k+(r.length+1)=k+1+r.length by omega]
  exact this
def Zbg (n:Z2) (hits:List Zax):Grp:=Zcy (Zb0 n [] hits)
theorem Zuv (n:Z2) (hn:Zdp n) (hits:List Zax) (hN:hits.length<=600000000):ER 8 [Zck n,.lst false (hits.map Z0)] []=some (ZbM ((Zbg n hits).map (Zaa n)),Zbt 15 ((Zbg n hits).map (Zaa n))):=by
 rw [Zxa]
 unfold Zbg
 obtain ⟨tm',e1,e2⟩:=Zsx n hits (by omega) hits 0 [] rfl (by simp)
 have hok:=ZgZ n hits [] 0 ⟨by simp,by simp,by simp⟩
 rw [XC] at hok
 have h5:tget tm' 5=.map 0:=by
  have:=congrArg (fun t=>tget t 5) e2
  simpa [Zft,tget] using this
 have h2:tget tm' 2=.ref 1 0:=by
  have:=congrArg (fun t=>tget t 2) e2
  simpa [Zft,tget] using this
 generalize Zb0 n [] hits=G at *
 have z:((0:Nat):Int)=0:=rfl
 rw [z] at e1
 have s1:evC FC PR BY 0 c1P (enterA 0 [Zck n,.lst false (hits.map Z0)] []) []=some (.normal,[(8,.lst true []),(5,.map 0),(2,.ref 1 0)],[.gmap 6 (gE G),.var (Z6 n)]):=by
  have hl:(hits.map Z0).length=hits.length:=XH ..
  have h0:gE []=[]:=rfl
  rw [h0] at e1
  unfold plT at e1
  generalize gE G=M at *
  generalize hits.map Z0=S at *
  unfold Zck Z6 Zi Zk at *
  generalize n.payload.map Zt=L1 at *
  generalize n.props.map Zc=L2 at *
  simp -implicitDefEqProofs only [EQA,ZA,ZD,ZC,Zz,ZE,ZB,ZO,ZP,ZL,ZQ,ZN,ZR,ZS,ZK,ZM,implies_true,forall_const,Xn,Xo,Xq,Xf,Xg,Xp,Xk,ZH,ZJ,unA,Zu,Zy,unG,reduceCtorEq,Zm,decide_eq_true_eq,Xh,Xc,ite_self,↓reduceIte,Zw,ZG,gcT,gcA,Zl,Zf,Ze,Zg,Zn,Zb,Zo,Zh,Zp,Xe,Za4,ZaU,Za0,Za1,ZaW,Za6,ZaV,Zs,Zi,Zk,Zc,Zx,ZI,e1,hl,c1P]
  simp [Zfv,h5,h2]
 have s2:Zej BY Zhe [(8,.lst true []),(5,.map 0),(2,.ref 1 0)] [.gmap 6 (gE G),.var (Z6 n)]=some ([(46,.map 0),(8,.lst true []),(5,.map 0),(2,.ref 1 0)],[.gmap 6 (gE G),.var (Z6 n)]):=by
  generalize gE G=M
  generalize Z6 n=C
  rfl
 have s3:ZfR [.gmap 6 (gE G),.var (Z6 n)] 0=some (G.map fE,[.map (G.map fE),.var (Z6 n)]):=by
  unfold ZfR
  rw [List.getElem?_cons_zero]
  simp only [ZvR,List.set_cons_zero]
 show (match evC FC PR BY 0 c1P (enterA 0 [Zck n,.lst false (hits.map Z0)] []) [] with
  | some (.normal,tm1,σ1)=>match Zej BY Zhe tm1 σ1 with
   | some (tm2,σ2)=>match tget tm2 46 with
    | .map t=>match ZfR σ2 t with
     | some (es,σ3)=>Zgy FC PR BY 0 [46,8,2] 46 50 3 ZcG c2P c3P [.tmp 4] es tm2 σ3
     | none=>none
    | _=>none
   | none=>none
  | _=>none)=_
 rw [s1]
 simp only [s2,tget,if_true,s3]
 refine ZAH fun es' hp=>?_
 obtain ⟨d,hd,rfl⟩:=Zye hp
 have hlen:=hd.length_eq
 have hg:=ZAP n G (tm:=[(46,.map 0),(8,.lst true []),(5,.map 0),(2,.ref 1 0)]) rfl rfl rfl
 cases d with
 | nil =>
  have e:G=[]:=List.nil_perm.1 hd
  subst e
  show Zem FC PR BY 0 [46,8,2] c3P [.tmp 4] _ _=_
  rw [ZBa n [] _ _ hg,show Zcy []=[] from by simp [Zcy,ZdZ]]
  rfl
 | cons p r =>
  have hmem:=fun q hq=>hok.ne q (hd.mem_iff.1 hq)
  have hp0:=hmem p (by simp)
  obtain ⟨c,l⟩:=p
  cases l with
  | nil=>exact absurd rfl hp0.1
  | cons s l =>
  have hb:(s::l).length<=1000000000:=by have:=hp0.2;simp only at this;omega
  have e:=ZAB n hn G c s l hb _ _ hg
  obtain ⟨tm2,σ2,f1,f2⟩:=Zvr n hn G (fun q hq=>by have:=(hok.ne q hq).2;omega) r [(c,s::l)] _ _ (fun q hq=>by have:=hmem q (by simp [hq]);exact ⟨this.1,by have:=this.2;omega⟩) (by have:=hok.len;simp only [Xz,XF] at hlen ⊢;omega) (Zzd n G 1 [Zaa n (c,s::l)])
  unfold ZeS
  have e3:Zci FC PR BY 0 [46,8,2] 46 50 3 ZcG c2P (G.map fE) (((c,s::l)::r).map fE) [(46,.map 0),(8,.lst true []),(5,.map 0),(2,.ref 1 0)] [.map (G.map fE),.var (Z6 n)]=some (tm2,σ2):=by
   show (match Zd3 FC PR BY 0 [46,8,2] 46 50 3 ZcG c2P (G.map fE) (fE (c,s::l)) [(46,.map 0),(8,.lst true []),(5,.map 0),(2,.ref 1 0)] [.map (G.map fE),.var (Z6 n)] with
    | some (tm',σ')=>Zci FC PR BY 0 [46,8,2] 46 50 3 ZcG c2P (G.map fE) (r.map fE) tm' σ'
    | none=>none)=_
   rw [e]
   exact f1
  rw [e3]
  rw [WD] at f2
  simp only
  rw [Zz4 n hd hok.nd (by have:=hok.len;omega) tm2 σ2 f2]
  have hpl:0 < ((Zcy G).map (Zaa n)).length:=by rw [XH,ZkR,<-hlen];simp
  rw [ZhG hpl,Zfr hpl,XH,ZkR,hlen]
end
section
def ZcN:Zq:=(.seq (.region [oI 72 (.call 9 0 true []),oM 4 72] none [4]) .ret)
def ZjF:Zq:=ZcN
def Zea:=xw ZjF ZcN rfl
def Zc1:Zq:=(.seq (.seq (.region [oM 41 10,oM 42 8,oI 43 (.len (.t 42)),oI 44 (.bin .lss (.t 41) (.t 43))] none [44,10,9,8]) (.cond (.t 44) .skip (.exit 2))) (.seq (.block 3 (.seq (.region [oM 47 8,oM 48 10,oI 49 (.iaddr 15 (.t 47) (.t 48)),oF 50 0 49,oL 51 50,oM 52 9,oM 53 10,oI 54 (.iaddr 15 (.t 52) (.t 53)),oF 55 0 54,oL 56 55,oI 57 (.bin .neq (.t 51) (.t 56)),oM 58 57,⟨(some 59),(.mov (.t 8)),(some (58,false)),[]⟩,⟨(some 60),(.mov (.t 10)),(some (58,false)),[]⟩,⟨(some 61),(.iaddr 15 (.t 59) (.t 60)),(some (58,false)),[]⟩,⟨(some 62),(.faddr 1 (.t 61)),(some (58,false)),[]⟩,⟨(some 63),(.ld (some 14) (.t 62)),(some (58,false)),[]⟩,⟨(some 64),(.mov (.t 9)),(some (58,false)),[]⟩,⟨(some 65),(.mov (.t 10)),(some (58,false)),[]⟩,⟨(some 66),(.iaddr 15 (.t 64) (.t 65)),(some (58,false)),[]⟩,⟨(some 67),(.faddr 1 (.t 66)),(some (58,false)),[]⟩,⟨(some 68),(.ld (some 14) (.t 67)),(some (58,false)),[]⟩,⟨(some 69),(.call 10 0 true [(.t 63),(.t 68)]),(some (58,false)),[]⟩,⟨(some 70),(.un .not (.t 69)),(some (58,false)),[]⟩,oI 71 (.pick (.t 58) (.c (.bool true)) (.t 70))] (some [(2,7),(4,7),(2,9),(4,9),(14,19),(16,19),(14,21),(16,21),(22,22)]) [71,10,9,8]) (.cond (.t 71) (.seq (.region [oI 4 (.mov (.c (.bool false)))] none [4]) .ret) .skip))) (.region [oM 45 10,oI 46 (.bin .add (.t 45) (.c (.int .i64 1))),oM 10 46] none [10,9,8])))
def Zig:Zq:=Zc1
def ZdM:=xw Zig Zc1 rfl
def ZcV:Zq:=(.seq (.region [oI 30 (.ld (some 10) (.t 5)),oM 31 1,oI 32 (.call 8 0 true [(.t 30),(.t 31)]),oI 33 (.ld (some 10) (.t 5)),oM 34 6,oI 35 (.call 8 0 true [(.t 33),(.t 34)]),oM 8 32,oM 9 35] (some [(0,3),(2,3),(5,5)]) [9,8]) (.seq (.seq (.region [oM 36 8,oI 37 (.len (.t 36)),oM 38 9,oI 39 (.len (.t 38)),oI 40 (.bin .neq (.t 37) (.t 39))] none [40,9,8]) (.cond (.t 40) (.seq (.region [oI 4 (.mov (.c (.bool false)))] none [4]) .ret) .skip)) (.seq (.seq (.region [oI 10 (.mov (.c (.int .i64 0)))] none [10,9,8]) (.block 2 (.loop [10,9,8] Zig))) ZjF)))
def Zrk:Zq:=ZcV
def Zd1:=xw Zrk ZcV rfl
def ZcZ:Zq:=(.seq (.seq (.region [oM 19 7,oI 20 (.bin .geq (.t 19) (.c (.int .i64 0)))] none [20,7,6,5,1]) (.cond (.t 20) .skip (.exit 0))) (.seq (.block 1 (.region [oM 23 6,oM 24 1,oM 25 7,oI 26 (.iaddr 7 (.t 24) (.t 25)),oI 27 (.ld (some 7) (.t 26)),oI 28 (.bslice false 7 1 (.agg [(.str []),(.str []),(.int .i64 0),(.bool false),(.bool false),(.int .i64 0),(.int .i64 0)]) [(0,(.t 27))]),oI 29 (.app 7 64 (.agg [(.str []),(.str []),(.int .i64 0),(.bool false),(.bool false),(.int .i64 0),(.int .i64 0)]) (.t 23) (.t 28)),oM 6 29] none [7,6,5,1])) (.region [oM 21 7,oI 22 (.bin .sub (.t 21) (.c (.int .i64 1))),oM 7 22] none [7,6,5,1])))
def Zif:Zq:=ZcZ
def Zd6:=xw Zif ZcZ rfl
def Zc5:Zq:=(.seq (.region [oI 2 (.box (.t 0)),oI 4 (.mov (.c (.bool false)))] none [2,1]) (.seq (.region [oI 11 (.ld (some 16) (.t 2)),oI 12 (.call 6 0 true [(.t 11)]),oI 13 (.field (some 10) 0 (.t 12)),oI 5 (.alloc [(.str []),(.lst true []),(.int .i64 0),(.bool false),(.str []),(.int .i64 0),(.lst true []),(.int .i64 0),(.int .i64 0),(.int .i64 0)]),oN (.st 10 (.t 5) (.t 13))] none [5,1]) (.seq (.region [oM 14 1,oI 15 (.call 7 0 true [(.t 14)]),oM 1 15] none [5,1]) (.seq (.region [oI 6 (.mov (.c (.lst true [])))] none [6,5,1]) (.seq (.seq (.region [oM 16 1,oI 17 (.len (.t 16)),oI 18 (.bin .sub (.t 17) (.c (.int .i64 1))),oM 7 18] none [7,6,5,1]) (.block 0 (.loop [7,6,5,1] Zif))) Zrk)))))
def Zr8:Zan:=⟨[(.tmp 4)],Zc5⟩
theorem ZtL:FC 4=some Zr8:=by kernel_rfl
theorem Zd5:Zr8.body=Zc5:=rfl
theorem Zd8:Zr8.res=[(.tmp 4)]:=rfl
def ZdF:Zq:=(.seq (.region [oM 30 3,oM 2 30] none [2]) .ret)
def Znm:Zq:=ZdF
def ZeJ:=xw Znm ZdF rfl
def ZdU:Zq:=(.seq (.seq (.region [oM 6 4,oM 7 0,oI 8 (.len (.t 7)),oI 9 (.bin .lss (.t 6) (.t 8)),oM 10 9,⟨(some 11),(.mov (.t 4)),(some (10,true)),[]⟩,⟨(some 12),(.bin .lss (.t 11) (.c (.int .i64 30))),(some (10,true)),[]⟩,oI 13 (.pick (.t 10) (.t 12) (.c (.bool false)))] none [13,4,3,0]) (.cond (.t 13) .skip (.exit 0))) (.seq (.block 1 (.seq (.region [oM 16 0,oM 17 4,oI 18 (.iaddr 7 (.t 16) (.t 17)),oI 19 (.ld (some 7) (.t 18)),oI 5 (.alloc [(.str []),(.str []),(.int .i64 0),(.bool false),(.bool false),(.int .i64 0),(.int .i64 0)]),oN (.st 7 (.t 5) (.t 19))] none [5,4,3,0]) (.seq (.region [oF 20 1 5,oF 21 1 20,oL 22 21,oI 23 (.call 20 0 true [(.t 22),(.c (.int .i64 0)),(.c (.int .i64 2))]),oF 24 1 5,oF 25 1 24,oN (.st 1 (.t 25) (.t 23))] none [5,4,3,0]) (.region [oM 26 3,oI 27 (.ld (some 7) (.t 5)),oI 28 (.bslice false 7 1 (.agg [(.str []),(.str []),(.int .i64 0),(.bool false),(.bool false),(.int .i64 0),(.int .i64 0)]) [(0,(.t 27))]),oI 29 (.app 7 64 (.agg [(.str []),(.str []),(.int .i64 0),(.bool false),(.bool false),(.int .i64 0),(.int .i64 0)]) (.t 26) (.t 28)),oM 3 29] none [4,3,0])))) (.region [oM 14 4,oI 15 (.bin .add (.t 14) (.c (.int .i64 1))),oM 4 15] none [4,3,0])))
def ZkO:Zq:=ZdU
def ZeY:=xw ZkO ZdU rfl
def ZdR:Zq:=(.seq (.region [oI 2 (.mov (.c (.lst true [])))] none [0]) (.seq (.region [oI 3 (.mov (.c (.lst true [])))] none [3,0]) (.seq (.seq (.region [oI 4 (.mov (.c (.int .i64 0)))] none [4,3,0]) (.block 0 (.loop [4,3,0] ZkO))) Znm)))
def Zg6:Zan:=⟨[(.tmp 2)],ZdR⟩
theorem ZAc:FC 7=some Zg6:=by kernel_rfl
theorem ZeL:Zg6.body=ZdR:=rfl
theorem ZeN:Zg6.res=[(.tmp 2)]:=rfl
noncomputable def Zgg (m:Nat) (tm:Tms) (σ:Za):Option (AVal×Za):=(ZaF m Zg6 (ZbY FC PR BY m Znm (Option.map (Zbb 0) (evL FC PR BY m [4,3,0] ZkO tm σ))))
def Zo0:Zq:=(.seq (.region [oI 0 (.mov (.c (.bool false)))] none []) (.seq (.region [oI 2 (.build [(.str []),(.lst true []),(.int .i64 0),(.bool false),(.str []),(.int .i64 0),(.lst true []),(.int .i64 0),(.int .i64 0),(.int .i64 0)] [(2,1,(.c (.int .i64 2))),(4,1,(.c (.str [120])))]),oI 3 (.build [(.str []),(.int .i64 0),(.bool false),(.bool false),(.int .i64 0),(.int .i64 0)] [(2,1,(.c (.bool true)))]),oI 4 (.build [(.str []),(.str []),(.int .i64 0),(.bool false),(.bool false),(.int .i64 0),(.int .i64 0)] [(0,1,(.c (.str [120]))),(1,6,(.t 3))]),oI 5 (.build [(.str []),(.int .i64 0),(.bool false),(.bool false),(.int .i64 0),(.int .i64 0)] [(1,1,(.c (.int .i64 1))),(5,1,(.c (.int .i64 7)))]),oI 6 (.build [(.str []),(.str []),(.int .i64 0),(.bool false),(.bool false),(.int .i64 0),(.int .i64 0)] [(0,1,(.c (.str [121]))),(1,6,(.t 5))]),oI 7 (.build [(.str []),(.int .i64 0),(.bool false),(.bool false),(.int .i64 0),(.int .i64 0)] [(5,1,(.c (.int .i64 3)))]),oI 8 (.build [(.str []),(.str []),(.int .i64 0),(.bool false),(.bool false),(.int .i64 0),(.int .i64 0)] [(0,1,(.c (.str [121]))),(1,6,(.t 7))]),oI 9 (.bslice false 7 3 (.agg [(.str []),(.str []),(.int .i64 0),(.bool false),(.bool false),(.int .i64 0),(.int .i64 0)]) [(0,(.t 4)),(1,(.t 6)),(2,(.t 8))]),oI 10 (.call 8 0 true [(.t 2),(.t 9)]),oM 1 10] none [1]) (.seq (.region [oM 11 1,oI 12 (.len (.t 11)),oI 13 (.bin .eql (.t 12) (.c (.int .i64 1))),oM 14 13,⟨(some 15),(.mov (.t 1)),(some (14,true)),[]⟩,⟨(some 16),(.iaddr 15 (.t 15) (.c (.int .i64 0))),(some (14,true)),[]⟩,⟨(some 17),(.faddr 0 (.t 16)),(some (14,true)),[]⟩,⟨(some 18),(.ld none (.t 17)),(some (14,true)),[]⟩,⟨(some 19),(.bin .eql (.t 18) (.c (.str [121]))),(some (14,true)),[]⟩,oI 20 (.pick (.t 14) (.t 19) (.c (.bool false))),oM 21 20,⟨(some 22),(.mov (.t 1)),(some (21,true)),[]⟩,⟨(some 23),(.iaddr 15 (.t 22) (.c (.int .i64 0))),(some (21,true)),[]⟩,⟨(some 24),(.faddr 1 (.t 23)),(some (21,true)),[]⟩,⟨(some 25),(.faddr 10 (.t 24)),(some (21,true)),[]⟩,⟨(some 26),(.ld none (.t 25)),(some (21,true)),[]⟩,⟨(some 27),(.bin .eql (.t 26) (.c (.int .i64 1))),(some (21,true)),[]⟩,oI 28 (.pick (.t 21) (.t 27) (.c (.bool false))),oM 29 28,⟨(some 30),(.mov (.t 1)),(some (29,true)),[]⟩,⟨(some 31),(.iaddr 15 (.t 30) (.c (.int .i64 0))),(some (29,true)),[]⟩,⟨(some 32),(.faddr 1 (.t 31)),(some (29,true)),[]⟩,⟨(some 33),(.faddr 12 (.t 32)),(some (29,true)),[]⟩,⟨(some 34),(.ld none (.t 33)),(some (29,true)),[]⟩,⟨(some 35),(.len (.t 34)),(some (29,true)),[]⟩,⟨(some 36),(.bin .eql (.t 35) (.c (.int .i64 2))),(some (29,true)),[]⟩,oI 37 (.pick (.t 29) (.t 36) (.c (.bool false))),oM 38 37,⟨(some 39),(.mov (.t 1)),(some (38,true)),[]⟩,⟨(some 40),(.iaddr 15 (.t 39) (.c (.int .i64 0))),(some (38,true)),[]⟩,⟨(some 41),(.faddr 1 (.t 40)),(some (38,true)),[]⟩,⟨(some 42),(.faddr 12 (.t 41)),(some (38,true)),[]⟩,⟨(some 43),(.ld none (.t 42)),(some (38,true)),[]⟩,⟨(some 44),(.iaddr 1 (.t 43) (.c (.int .i64 0))),(some (38,true)),[]⟩,⟨(some 45),(.ld none (.t 44)),(some (38,true)),[]⟩,⟨(some 46),(.bin .eql (.t 45) (.c (.int .i64 3))),(some (38,true)),[]⟩,oI 47 (.pick (.t 38) (.t 46) (.c (.bool false))),oM 0 47] none [0]) .ret)))
def Zoo:Zan:=⟨[(.tmp 0)],Zo0⟩
theorem ZAe:FC 9=some Zoo:=by kernel_rfl
theorem ZzT:Zoo.body=Zo0:=rfl
theorem ZBj:Zoo.res=[(.tmp 0)]:=rfl
end
section
def wH (h:Zax):Zax:={ h with sub:={ h.sub with qos:=ZcM h.sub.qos 0 2 } }
def ZaH (hits:List Zax):List Zax:=(hits.take 30).map wH
def hcT (i:Int) (S:AVal):List AVal->Tms
 | []=>[(4,.int .i64 i),(3,.lst true []),(0,S)]
 | x::xs=>[(4,.int .i64 i),(3,.sl 0 0 0 (x::xs).length),(0,S)]
theorem ZsC (i:Int) (S:AVal) {X:List AVal} (h:0 < X.length):hcT i S X=[(4,.int .i64 i),(3,.sl 0 0 0 X.length),(0,S)]:=by
 cases X with
 | nil=>simp at h
 | cons x xs=>rfl
theorem ZyF (hits:List Zax) (i:Int) (X:List AVal) (h:¬i < (hits.length:Int)\/¬i < 30):Zgg 0 (hcT i (.lst false (hits.map Z0)) X) (Zbt 7 X)=some (ZbM X,Zbt 7 X):=by
 have hl:(hits.map Z0).length=hits.length:=XH ..
 unfold Zgg
 rw [ZaZ]
 have hh:(if i < (hits.length:Int) then decide (i < 30) else false)=false:=by
  split
  ·rename_i h1
   have : ¬i < 30:=h.resolve_left (by simpa using h1)
   simp [this]
  ·rfl
 generalize hits.map Z0=S at *
 cases X with
 | nil =>
  rw [Zgs,ZeW]
  unfold hcT
  by_cases c0:i < (hits.length:Int)
  ·have c1:¬i < 30:=h.resolve_left (by simpa using c0)
   simp -implicitDefEqProofs only [EQA,ZA,ZD,ZC,Zz,ZE,ZB,ZO,ZP,ZL,ZQ,ZN,ZR,ZS,ZK,ZM,implies_true,forall_const,Xn,Xo,Xq,Xf,Xg,Xp,Xk,ZH,ZJ,unA,Zu,Zy,unG,reduceCtorEq,Zm,decide_eq_true_eq,Xh,Xc,ite_self,↓reduceIte,Zw,ZG,gcT,gcA,Zl,Zf,Ze,Zg,Zn,Zb,Zo,Zh,Zp,Xe,ZeL,ZdR,ZeN,ZeJ,ZdF,ZeY,ZdU,Zs,Zi,Zk,Zc,Zx,ZI,c0,c1,hl]
   try (simp [Zaz,gcA,Zl,Zf,ZW,Z5,Ze,Zg,Zn,Zb,Zo,ZV,Zj,Zh,Zp,Xe])
  ·simp -implicitDefEqProofs only [EQA,ZA,ZD,ZC,Zz,ZE,ZB,ZO,ZP,ZL,ZQ,ZN,ZR,ZS,ZK,ZM,implies_true,forall_const,Xn,Xo,Xq,Xf,Xg,Xp,Xk,ZH,ZJ,unA,Zu,Zy,unG,reduceCtorEq,Zm,decide_eq_true_eq,Xh,Xc,ite_self,↓reduceIte,Zw,ZG,gcT,gcA,Zl,Zf,Ze,Zg,Zn,Zb,Zo,Zh,Zp,Xe,ZeL,ZdR,ZeN,ZeJ,ZdF,ZeY,ZdU,Zs,Zi,Zk,Zc,Zx,ZI,c0,hl]
   try (simp [Zaz,gcA,Zl,Zf,ZW,Z5,Ze,Zg,Zn,Zb,Zo,ZV,Zj,Zh,Zp,Xe])
 | cons x xs =>
  rw [Zgt,ZfO]
  have hXp:0 < (x::xs).length:=by simp
  rw [ZsC _ _ hXp]
  generalize x::xs=X at *
  by_cases c0:i < (hits.length:Int)
  ·have c1:¬i < 30:=h.resolve_left (by simpa using c0)
   simp -implicitDefEqProofs only [EQA,ZA,ZD,ZC,Zz,ZE,ZB,ZO,ZP,ZL,ZQ,ZN,ZR,ZS,ZK,ZM,implies_true,forall_const,Xn,Xo,Xq,Xf,Xg,Xp,Xk,ZH,ZJ,unA,Zu,Zy,unG,reduceCtorEq,Zm,decide_eq_true_eq,Xh,Xc,ite_self,↓reduceIte,Zw,ZG,gcT,gcA,Zl,Zf,Ze,Zg,Zn,Zb,Zo,Zh,Zp,Xe,ZeL,ZdR,ZeN,ZeJ,ZdF,ZeY,ZdU,Zs,Zi,Zk,Zc,Zx,ZI,c0,c1,hl]
   try (simp [Zaz,gcA,Zl,Zf,ZW,Z5,Ze,Zg,Zn,Zb,Zo,ZV,Zj,Zh,Zp,Xe])
  ·simp -implicitDefEqProofs only [EQA,ZA,ZD,ZC,Zz,ZE,ZB,ZO,ZP,ZL,ZQ,ZN,ZR,ZS,ZK,ZM,implies_true,forall_const,Xn,Xo,Xq,Xf,Xg,Xp,Xk,ZH,ZJ,unA,Zu,Zy,unG,reduceCtorEq,Zm,decide_eq_true_eq,Xh,Xc,ite_self,↓reduceIte,Zw,ZG,gcT,gcA,Zl,Zf,Ze,Zg,Zn,Zb,Zo,Zh,Zp,Xe,ZeL,ZdR,ZeN,ZeJ,ZdF,ZeY,ZdU,Zs,Zi,Zk,Zc,Zx,ZI,c0,hl]
   try (simp [Zaz,gcA,Zl,Zf,ZW,Z5,Ze,Zg,Zn,Zb,Zo,ZV,Zj,Zh,Zp,Xe])
theorem Zs8 (hits:List Zax):∀ (r:List Zax) (i:Nat) (acc:List Zax),(hits.take 30).drop i=r->acc.length<=i->i<=30 ->
  Zgg 0 (hcT i (.lst false (hits.map Z0)) (acc.map Z0)) (Zbt 7 (acc.map Z0))=some (ZbM ((acc++r.map wH).map Z0),Zbt 7 ((acc++r.map wH).map Z0))
 | [],i,acc,h,ha,hi=>by
  rw [Wo,X3] at h
  rw [XV,X2]
  exact ZyF hits i (acc.map Z0) (by omega)
 | x::r,i,acc,h,ha,hi=>by
  have hd:=Zba h
  have hlt:i < min 30 hits.length:=by have:=hd.2.2;rwa [X3] at this
  have ih:=Zs8 hits r (i+1) (acc++[wH x]) hd.2.1 (by simp;omega) (by omega)
  have hat:hits[i]?=some x:=by
   have:=hd.1
   rw [List.getElem?_take] at this
   rw [if_pos (by omega)] at this
   exact this
  have h1:(i:Int) < (hits.length:Int):=by omega
  have h2:(i:Int) < 30:=by omega
  have hl:(hits.map Z0).length=hits.length:=XH ..
  have e1:∀ (σ:Za) (b:Bool) (kk:IntKind),ZaT σ 7 (.lst b (hits.map Z0)) (.int kk (i:Int))=some (.iptr [.str x.client,.str x.sub.filter,.int .i64 x.sub.qos,.bool x.sub.noLocal,.bool x.sub.asPublished,.int .i64 x.sub.handling,.int .i64 x.sub.id] 0,σ,{}):=fun σ b kk=>iad hat Z0 (k:=7) rfl σ b kk
  have hw:IntKind.i64.wrap ((i:Int)+1)=((i+1:Nat):Int):=by rw [Zcv (by omega) (by omega)];rfl
  have hW:=fun σ sq own view=>Zla σ sq own view x.sub.qos
  rw [Wq,WD,<-Xs] at ih
  generalize hR:ZbM ((acc++(x::r).map wH).map Z0)=R at *
  generalize hR2:Zbt 7 ((acc++(x::r).map wH).map Z0)=R2 at *
  have hXl:(acc.map Z0).length=acc.length:=by simp
  rw [X9,Xs,XV] at ih
  have hwx:Z0 (wH x)=.agg [.str x.client,.str x.sub.filter,.int .i64 (ZcM x.sub.qos 0 2),.bool x.sub.noLocal,.bool x.sub.asPublished,.int .i64 x.sub.handling,.int .i64 x.sub.id]:=rfl
  rw [hwx] at ih
  have hk:∀ q:Int,kOk 7 [AVal.agg [.str x.client,.str x.sub.filter,.int .i64 q,.bool x.sub.noLocal,.bool x.sub.asPublished,.int .i64 x.sub.handling,.int .i64 x.sub.id]]=true:=fun _=>rfl
  clear hd h hR hR2 hat
  generalize hits.map Z0=S at *
  unfold Zgg at ih ⊢
  rw [ZaZ]
  cases hids:acc.map Z0 with
  | nil =>
   rw [hids,X1,ZfO] at ih
   rw [ZeW]
   unfold hcT at ih ⊢
   simp only [Xz,XF,XC] at ih
   simp -implicitDefEqProofs only [EQA,ZA,ZD,ZC,Zz,ZE,ZB,ZO,ZP,ZL,ZQ,ZN,ZR,ZS,ZK,ZM,implies_true,forall_const,Xn,Xo,Xq,Xf,Xg,Xp,Xk,ZH,ZJ,unA,Zu,Zy,unG,reduceCtorEq,Zm,decide_eq_true_eq,Xh,Xc,ite_self,↓reduceIte,Zw,ZG,gcT,gcA,Zl,Zf,Ze,Zg,Zn,Zb,Zo,Zh,Zp,Xe,ZeL,ZdR,ZeN,ZeJ,ZdF,ZeY,ZdU,Zs,Zi,Zk,Zc,Zx,ZI,h1,h2,hl,e1,hw,hW,hk,Zab,AVal.cells,ZT,Xt,XA,ZaS,Za9,Zcn,Zbk,WA,WG,Xt,XA,Xz,XF,ZbP,ZbK,ZbT,ZbO,ZbN,XM,XU,ZaI,ZaQ,ZaP,Zbe,ZbE,Zbq,ZbU,ZbR,ZaY,ZbL,XZ,Wi,Xt,XA,X0,Zac,viewAs,Zao,Zae,Zah,Zr,XG,We,XN,Xk,Xf]
   exact ih
  | cons y ys =>
   rw [hids] at ih hXl
   have hXp:0 < (y::ys).length:=by simp
   have hXq:∀ z:AVal,0 < (y::ys++[z]).length:=fun z=>by simp
   rw [ZsC _ _ (hXq _),Zfr (hXq _)] at ih
   rw [ZsC _ _ hXp,Zfr hXp]
   generalize y::ys=X at *
   have k2:(X.length+1)*64<=140737488355328:=by omega
   simp only [Xx,Xz,XF,XC] at ih
   simp -implicitDefEqProofs only [EQA,ZA,ZD,ZC,Zz,ZE,ZB,ZO,ZP,ZL,ZQ,ZN,ZR,ZS,ZK,ZM,implies_true,forall_const,Xn,Xo,Xq,Xf,Xg,Xp,Xk,ZH,ZJ,unA,Zu,Zy,unG,reduceCtorEq,Zm,decide_eq_true_eq,Xh,Xc,ite_self,↓reduceIte,Zw,ZG,gcT,gcA,Zl,Zf,Ze,Zg,Zn,Zb,Zo,Zh,Zp,Xe,ZeL,ZdR,ZeN,ZeJ,ZdF,ZeY,ZdU,Zs,Zi,Zk,Zc,Zx,ZI,h1,h2,hl,e1,hw,hW,hk,k2,Zab,AVal.cells,ZT,Xt,XA,ZaS,Za9,Zcn,Zbk,WA,WG,Xt,XA,Xz,XF,ZbP,ZbK,ZbT,ZbO,ZbN,XM,XU,ZaI,ZaQ,ZaP,Zbe,ZbE,Zbq,ZbU,ZbR,ZaY,ZbL,XZ,Wi,Xt,XA,X0,Zac,viewAs,Zao,Zae,Zah,Zr,XG,We,XN,Xk,Xf]
   exact ih
theorem ZyD (hits:List Zax):E 7 [.lst false (hits.map Z0)] []=some (ZbM ((ZaH hits).map Z0),Zbt 7 ((ZaH hits).map Z0)):=by
 have h:=Zs8 hits (hits.take 30) 0 [] rfl (by simp) (by simp)
 have z:((0:Nat):Int)=0:=rfl
 rw [z,X1,XV,ZeW] at h
 change _=some (ZbM ((ZaH hits).map Z0),Zbt 7 ((ZaH hits).map Z0)) at h
 unfold hcT at h
 generalize hits.map Z0=S at *
 unfold Zgg at h
 rw [ZcQ (by rfl) ZAc]
 simp -implicitDefEqProofs only [EQA,ZA,ZD,ZC,Zz,ZE,ZB,ZO,ZP,ZL,ZQ,ZN,ZR,ZS,ZK,ZM,implies_true,forall_const,Xn,Xo,Xq,Xf,Xg,Xp,Xk,ZH,ZJ,unA,Zu,Zy,unG,reduceCtorEq,Zm,decide_eq_true_eq,Xh,Xc,ite_self,↓reduceIte,Zw,ZG,gcT,gcA,Zl,Zf,Ze,Zg,Zn,Zb,Zo,Zh,Zp,Xe,ZeL,ZdR,ZeN,ZeJ,ZdF,ZeY,ZdU,Zs,Zi,Zk,Zc,Zx,ZI,AVal.cells]
 exact h
theorem ZAZ (hits:List Zax) (σ:Za) (sq own:Nat):ZZ E BY σ sq 7 own true [.lst false (hits.map Z0)]=some (.lst false ((ZaH hits).map Z0),σ,{}) :=
 ZiV (ZyD hits) (by kernel_rfl) rfl rfl σ sq own
theorem Zta (n:Z2) (hn:Zdp n) (hits:List Zax) (hN:hits.length<=600000000) (σ:Za) (sq own:Nat):ZZ ER BY σ sq 8 own true [.agg [.str n.topic,.lst false (n.payload.map Zt),.int .i64 n.qos,.bool n.retain,.str n.sender,.int .i64 n.expires,.lst false (n.props.map Zc),.int .i64 n.origin,.int .i64 n.number,.int .i64 n.hops],.lst false (hits.map Z0)]=some (.lst false ((Zbg n hits).map (Zaa n)),σ,{}) :=
 ZiV (Zuv n hn hits hN) (by kernel_rfl) rfl rfl σ sq own
end
section
def Zcl (n:Z2) (c:ZF) (hits:List Zax):List Zas:=(hits.filter fun h=>Zc0 n h && h.client == c).map (·.sub)
theorem ZeZ {β:Type} (c k:ZF) (l:β) (G:List (ZF×β)):((k,l)::G).lookup c=if c=k then some l else G.lookup c:=by
 rw [XZ]
 by_cases e:c=k
 ·subst e;simp
 ·have : (c == k)=false:=by simpa using e
  rw [this,if_neg e]
theorem Zuu (c s) (c':ZF):∀ G:Grp,(Zbl G c s).lookup c'=if c'=c then some ((G.lookup c).getD []++[s]) else G.lookup c'
 | []=>by simp only [Zbl,ZeZ,Wi,Option.getD_none,X1]
 | (k,l)::G=>by
  have ih:=Zuu c s c' G
  unfold Zbl
  by_cases h:c=k
  ·subst h
   rw [if_pos rfl,ZeZ,ZeZ,ZeZ,if_pos rfl]
   by_cases e:c'=c
   ·rw [if_pos e,if_pos e];rfl
   ·rw [if_neg e,if_neg e,if_neg e]
  ·rw [if_neg h,ZeZ,ZeZ,ZeZ,if_neg h,ih]
   by_cases e:c'=k
   ·subst e
    have hne:c'≠c:=fun e=>h e.symm
    rw [if_pos rfl,if_neg hne,if_pos rfl]
   ·rw [if_neg e,if_neg e]
theorem Zxr (n:Z2) (c:ZF) (x:Zax) (r:List Zax):Zcl n c (x::r)=if Zc0 n x && x.client == c then x.sub::Zcl n c r else Zcl n c r:=by
 unfold Zcl
 rw [List.filter_cons]
 split <;> rfl
theorem Zka (n:Z2) (c:ZF):∀ (hits:List Zax) (G:Grp),(Zb0 n G hits).lookup c=if (G.lookup c).isNone && (Zcl n c hits).isEmpty then none else some ((G.lookup c).getD []++Zcl n c hits)
 | [],G=>by
  show G.lookup c=_
  cases h:G.lookup c <;> simp [Zcl]
 | x::r,G=>by
  have ih:=Zka n c r (if Zc0 n x then Zbl G x.client x.sub else G)
  show (Zb0 n (if Zc0 n x then Zbl G x.client x.sub else G) r).lookup c=_
  rw [ih,Zxr]
  by_cases hw:Zc0 n x=true
  ·rw [if_pos hw,Zuu,hw,Bool.true_and]
   by_cases e:c=x.client
   ·subst e
    simp
   ·have e':(x.client == c)=false:=by simpa using fun h=>e h.symm
    rw [if_neg e,e']
    simp
  ·rw [if_neg hw]
   have : (Zc0 n x && x.client == c)=false:=by rw [Bool.and_eq_false_iff];exact Xv (by simpa using hw)
   rw [this,if_neg Bool.false_ne_true]
theorem Zyi {β:Type} {G:List (ZF×β)} {c:ZF}:c ∈ G.map (·.1)↔(G.lookup c).isSome:=by
 induction G with
 | nil=>simp
 | cons p G ih =>
  obtain ⟨k,l⟩:=p
  rw [Xs,XJ,XZ]
  by_cases e:c=k
  ·subst e;simp
  ·have : (c == k)=false:=by simpa using e
   simp [this,e,ih]
def Zfh (n:Z2) (hits:List Zax):List ZF:=(Zb0 n [] hits).map (·.1)
theorem Zio (n:Z2) (hits:List Zax) (c:ZF):c ∈ Zfh n hits↔Zcl n c hits≠[]:=by
 unfold Zfh
 rw [Zyi,Zka]
 cases h:Zcl n c hits <;> simp
theorem Zux (n:Z2) (hits:List Zax):(Zfh n hits).Nodup:=(ZgZ n hits [] 0 ⟨by simp,by simp,by simp⟩).nd
theorem Zjf (n:Z2) (hits:List Zax):Zbg n hits=(ZdZ (Zfh n hits)).map fun c=>(c,Zcl n c hits):=by
 unfold Zbg Zcy
 apply WK
 intro c hc
 have hc:=(Zio n hits c).1 ((ZfU _).mem_iff.1 hc)
 rw [Zka]
 cases h:Zcl n c hits with
 | nil=>exact absurd h hc
 | cons s l=>simp
theorem Zuw (n:Z2) (c:ZF) (hits:List Zax):Zcl n c hits.reverse=(Zcl n c hits).reverse:=by
 unfold Zcl
 rw [List.filter_reverse,List.map_reverse]
theorem ZvA:∀ (l:List Zas) (q:Int),(q<=byQ q l/\∀ s ∈ l,s.qos<=byQ q l)/\(byQ q l=q\/∃ s ∈ l,s.qos=byQ q l)
 | [],q=>⟨⟨Int.le_refl _,by simp⟩,Xv rfl⟩
 | s::l,q=>by
  obtain ⟨⟨h1,h2⟩,h3⟩:=ZvA l (Zdf q s.qos)
  have e:byQ q (s::l)=byQ (Zdf q s.qos) l:=rfl
  rw [e]
  have hm:q<=Zdf q s.qos/\s.qos<=Zdf q s.qos/\(Zdf q s.qos=q\/Zdf q s.qos=s.qos):=by unfold Zdf;split <;> omega
  refine ⟨⟨by omega,?_⟩,?_⟩
  ·intro x hx
   rcases XJ.1 hx with rfl | hx
   ·omega
   ·exact h2 x hx
  ·rcases h3 with h3 | ⟨x,hx,h3⟩
   ·rcases hm.2.2 with h | h
    ·exact Xv (by omega)
    ·exact Or.inr ⟨s,by simp,by omega⟩
   ·exact Or.inr ⟨x,by simp [hx],h3⟩
def ZhZ (l:List Zas):Int:=byQ ((l.map (·.qos)).headD 0) l
theorem ZuQ {l:List Zas} (hl:l≠[]):(∀ s ∈ l,s.qos<=ZhZ l)/\∃ s ∈ l,s.qos=ZhZ l:=by
 cases l with
 | nil=>exact absurd rfl hl
 | cons s l =>
  obtain ⟨⟨h1,h2⟩,h3⟩:=ZvA (s::l) s.qos
  refine ⟨h2,?_⟩
  rcases h3 with h3 | h3
  ·exact ⟨s,by simp,h3.symm⟩
  ·exact h3
theorem ZyS {l l':List Zas} (hl:l≠[]) (h:∀ s,s ∈ l↔s ∈ l'):ZhZ l=ZhZ l':=by
 have hl':l'≠[]:=by
  rintro rfl
  cases l with
  | nil=>exact hl rfl
  | cons s l=>have:=(h s).1 (by simp);simp at this
 obtain ⟨a1,s,a2,a3⟩:=ZuQ hl
 obtain ⟨b1,t,b2,b3⟩:=ZuQ hl'
 have h1:=b1 s ((h s).1 a2)
 have h2:=a1 t ((h t).2 b2)
 omega
theorem Znc (n:Z2):∀ (l:List Zas) (k:Bool),byK n k l=(k || (n.retain && l.any (·.asPublished)))
 | [],k=>by simp [byK]
 | s::l,k=>by
  have ih:=Znc n l (Zfo n k s)
  show byK n (Zfo n k s) l=_
  rw [ih]
  unfold Zfo
  cases k <;> cases n.retain <;> simp
theorem ZAW (n:Z2) {l:List Zas} (hl:l≠[]):byI n l.reverse=byI n l:=by
 have hr:l.reverse≠[]:=by simpa using hl
 unfold byI
 have e1:byQ ((l.reverse.map (·.qos)).headD 0) l.reverse=byQ ((l.map (·.qos)).headD 0) l:=ZyS hr (fun s=>by simp)
 have e2:byK n false l.reverse=byK n false l:=by rw [Znc,Znc,List.any_reverse]
 have e3:ZbD (ZbF l.reverse)=ZbD (ZbF l):=Zvw (by
  unfold ZbF
  exact ((List.reverse_perm l).filter _).map _)
 rw [e1,e2,e3]
theorem Zxf (n:Z2) (hits:List Zax):(Zbg n hits.reverse).map (Zaa n)=(Zbg n hits).map (Zaa n):=by
 rw [Zjf,Zjf]
 have hk:(Zfh n hits.reverse).Perm (Zfh n hits):=(List.perm_ext_iff_of_nodup (Zux n _) (Zux n _)).2 fun c=>by
  rw [Zio,Zio,Zuw];simp
 rw [Zu1 hk,Wn,Wn]
 apply WK
 intro c hc
 have hc:=(Zio n hits c).1 ((ZfU _).mem_iff.1 hc)
 simp only [Function.comp,Zaa,Zuw,ZAW n hc]
end
section
theorem ZA5 {O:ZY} {bf:Nat->Bool} {σ:Za} {f:Nat} {args vs:List AVal} {ts:List Nat} {r':AVal} (hb:bf f=false) (hsh:showAs σ args=some (vs,ts)) (hp:vs.all Zaq=true) (hm:vs.map Zag=vs) (h:ZaA true 0 (O f vs [])=some (r',[])) (sq own:Nat) :
  ZZ O bf σ sq f own true args=if ZaX r' then some (r',σ,{ rd:=ts }) else if Zcq σ ts r' then some (r',σ,{ rd:=ts }) else some (Zj (Za2 [] [] sq) r',Zr σ ts,{ rd:=ts,wr:=ts }):=by
 have hr:=Zil hp
 have hn:=fun ρ=>Zhg (ρ:=ρ) hp
 rw [hm] at hr
 simp only [hm] at hn
 unfold ZZ Zcu
 rw [hb]
 simp only [Xw,if_false,hsh]
 rw [hr]
 have h2:∀ σ,Zf σ 1000 [] []=[]:=fun _=>rfl
 rw [h2]
 unfold ZbJ
 simp only [XA,if_true,hn,Zg,XF,h]
 simp only [Zay,List.isEmpty_nil,Bool.and_self,if_true]
theorem Zzt (k:Nat) (L:List AVal):ZaA true 0 (some (ZbM L,Zbt k L))=some (.lst false L,[]):=by
 cases L with
 | nil=>rfl
 | cons x xs =>
  rw [Zgt,ZfO]
  unfold ZaA
  rw [if_pos rfl,ZqV (k:=k) (g:=0) (t:=0) (xs:=x::xs) rfl (by omega),List.take_of_length_le (by omega)]
theorem ZyK {l:List Int} (h:l.Pairwise (·<=·)):ZbD l=l:=by
 unfold ZbD
 have ht:∀ a b c:Int,decide (a<=b)=true->decide (b<=c)=true->decide (a<=c)=true:=by intro a b c;simp only [decide_eq_true_eq];omega
 have hto:∀ a b:Int,(decide (a<=b) || decide (b<=a))=true:=by intro a b;simp only [Wu,decide_eq_true_eq];omega
 refine (W4 l _).eq_of_pairwise (le:=fun a b:Int=>decide (a<=b)=true) (fun a b _ _ h1 h2=>by simp only [decide_eq_true_eq] at h1 h2;omega) (Xaj ht hto l) (h.imp fun h=>by simpa using h)
def wkN:Z2:=⟨[],[],2,false,[120],0,[],0,0,0⟩
def wkH:List Zax:=[⟨[120],⟨[],0,true,false,0,0⟩⟩,⟨[121],⟨[],1,false,false,0,7⟩⟩,⟨[121],⟨[],0,false,false,0,3⟩⟩]
def wkS:List Zas:=[⟨[],1,false,false,0,7⟩,⟨[],0,false,false,0,3⟩]
theorem Zz3:(Zbg wkN wkH).map (Zaa wkN)=[Zaa wkN ([121],wkS)]:=by
 have : Zbg wkN wkH=[([121],wkS)]:=by
  unfold Zbg
  have : Zb0 wkN [] wkH=[([121],wkS)]:=by decide
  rw [this]
  unfold Zcy ZdZ
  simp
 rw [this];rfl
theorem Zzq:byI wkN wkS=⟨wkN,1,false,[3,7],[]⟩:=by
 have h:ZbD (ZbF wkS)=[3,7]:=by
  rw [show ZbF wkS=[7,3] by decide]
  rw [Zvw (List.Perm.swap (3:Int) 7 []),ZyK (by simp)]
 unfold byI
 rw [h]
 rfl
theorem Zyd:ER 9 [] []=some (.bool true,[]):=by
 have hP:=fun σ sq own=>Zta wkN ⟨by decide,by decide,by simp [wkN]⟩ wkH (by decide) σ sq own
 rw [Zz3] at hP
 have hg:Zaa wkN ([121],wkS)=.agg [.str [121],.str [],.lst false [],.int .i64 2,.bool false,.str [120],.int .i64 0,.lst false [],.int .i64 0,.int .i64 0,.int .i64 0,.int .i64 1,.bool false,.lst false [.int .i64 3,.int .i64 7],.str []]:=by
  unfold Zaa
  rw [Zzq];rfl
 rw [hg] at hP
 have hP':∀ (σ:Za) (sq own:Nat),ZZ ER BY σ sq 8 own true [.agg [.str [],.lst true [],.int .i64 2,.bool false,.str [120],.int .i64 0,.lst true [],.int .i64 0,.int .i64 0,.int .i64 0],.lst true (wkH.map Z0)]=some (.lst false [.agg [.str [121],.str [],.lst false [],.int .i64 2,.bool false,.str [120],.int .i64 0,.lst false [],.int .i64 0,.int .i64 0,.int .i64 0,.int .i64 1,.bool false,.lst false [.int .i64 3,.int .i64 7],.str []]],σ,{}):=by
  intro σ sq own
  have:=hP σ sq own
  rw [ZdX (by kernel_rfl) (by rfl)] at this ⊢
  exact this
 simp only [wkH,Xs,XV,Z0] at hP'
 have n1:((1:Nat):Int)=1:=rfl
 have n2:((2:Nat):Int)=2:=rfl
 have i1:∀ (σ:Za) (cs:List AVal),cs.length=15->ZaT σ 15 (.lst false [.agg cs]) (.int .i64 0)=some (.iptr cs 0,σ,{}):=fun σ cs h=>by simp [ZaT,AVal.cells,h]
 have i2:∀ (σ:Za) (a b:AVal),a.cells.length=1->ZaT σ 1 (.lst false [a,b]) (.int .i64 0)=some (.iptr a.cells 0,σ,{}):=fun σ a b h=>by simp [ZaT,h]
 rw [Zjc (by rfl) ZAe]
 simp -implicitDefEqProofs only [EQA,ZA,ZD,ZC,Zz,ZE,ZB,ZO,ZP,ZL,ZQ,ZN,ZR,ZS,ZK,ZM,implies_true,forall_const,Xn,Xo,Xq,Xf,Xg,Xp,Xk,ZH,ZJ,unA,Zu,Zy,unG,reduceCtorEq,Zm,decide_eq_true_eq,Xh,Xc,ite_self,↓reduceIte,Zw,ZG,gcT,gcA,Zl,Zf,Ze,Zg,Zn,Zb,Zo,Zh,Zp,Xe,ZzT,Zo0,ZBj,Zs,Zi,Zk,Zc,Zx,ZI,hP',n1,n2,i1,i2,Zab,Za3,AVal.cells,Int.reduceBEq,Xz,XF,Xn,Zac,kOk,viewAs,Zao,Zae,Zah,Zr,XG,We]
theorem Zxc (σ:Za) (sq own:Nat) (view:Bool):ZZ ER BY σ sq 9 own view []=some (.bool true,σ,{}) :=
 ZeQ Zyd (by kernel_rfl) rfl rfl rfl (fun _=>rfl) σ sq own view
end
section
def ZfT (a b:Zc9):Bool:=Zfx a.note b.note && a.qos == b.qos && a.retain == b.retain && a.ids == b.ids && a.share == b.share
theorem Zve (a b:Zc9) (h:a.ids.length=b.ids.length) (hl:a.ids.length<=9223372036854775807):∀ (r s:List Int) (i:Nat),a.ids.drop i=r->b.ids.drop i=s->Zhj 0 [(5,.int .i64 i),(3,.ref 0 0),(2,.ref 1 0)] [.var (ZbS b),.var (ZbS a)]=some (.bool (r == s),[])
 | [],s,i,ha,hb=>by
  have hs:s=[]:=by
   subst hb;rw [Wo] at ha ⊢;omega
  subst hs
  have h1:=ZgR ha
  unfold Zhj
  rw [ZaZ]
  simp -implicitDefEqProofs only [EQA,ZA,ZD,ZC,Zz,ZE,ZB,ZO,ZP,ZL,ZQ,ZN,ZR,ZS,ZK,ZM,implies_true,forall_const,Xn,Xo,Xq,Xf,Xg,Xp,Xk,ZH,ZJ,unA,Zu,Zy,unG,reduceCtorEq,Zm,decide_eq_true_eq,Xh,Xc,ite_self,↓reduceIte,Zw,ZG,gcT,gcA,Zl,Zf,Ze,Zg,Zn,Zb,Zo,Zh,Zp,Xe,ZhS,ZfN,Zht,ZhX,Zf3,Zit,ZfY,Zs,Zi,Zk,Zc,Zx,ZI,h1,ZbS]
 | x::r,[],i,ha,hb=>by
  have:=(Zba ha).2.2;rw [Wo] at hb;omega
 | x::r,y::s,i,ha,hb=>by
  have ih:=Zve a b h hl r s (i+1) (Zba ha).2.1 (Zba hb).2.1
  have h1:(i:Int) < a.ids.length:=by have:=(Zba ha).2.2;omega
  have e1:=iad (Zba ha).1 (.int .i64 ·) (k:=1) rfl
  have e2:=iad (Zba hb).1 (.int .i64 ·) (k:=1) rfl
  have e3:=ZkQ h1 hl
  unfold Zhj at ih ⊢
  rw [ZaZ]
  simp -implicitDefEqProofs only [EQA,ZA,ZD,ZC,Zz,ZE,ZB,ZO,ZP,ZL,ZQ,ZN,ZR,ZS,ZK,ZM,implies_true,forall_const,Xn,Xo,Xq,Xf,Xg,Xp,Xk,ZH,ZJ,unA,Zu,Zy,unG,reduceCtorEq,Zm,decide_eq_true_eq,Xh,Xc,ite_self,↓reduceIte,Zw,ZG,gcT,gcA,Zl,Zf,Ze,Zg,Zn,Zb,Zo,Zh,Zp,Xe,ZhS,ZfN,Zht,ZhX,Zf3,Zit,ZfY,Zs,Zi,Zk,Zc,Zx,ZI,h1,e1,e2,e3,ZbS]
  simp only [ZbS,Zs,Zk,Zi] at ih
  rw [ih]
  by_cases hx:x=y <;> simp [hx]
theorem ZBi (a b:Zc9) (hl:a.note.props.length<=9223372036854775807) (hi:a.ids.length<=9223372036854775807):E 10 [ZcO a,ZcO b] []=some (.bool (ZfT a b),[]):=by
 rw [ZcQ (by rfl) ZzR]
 by_cases h:a.ids.length=b.ids.length
 ·have:=Zve a b h hi a.ids b.ids 0 rfl rfl
  unfold Zhj at this
  simp only [ZbS,Zs,Zk,Zi] at this
  have e:=ZuY h
  simp -implicitDefEqProofs only [EQA,ZA,ZD,ZC,Zz,ZE,ZB,ZO,ZP,ZL,ZQ,ZN,ZR,ZS,ZK,ZM,implies_true,forall_const,Xn,Xo,Xq,Xf,Xg,Xp,Xk,ZH,ZJ,unA,Zu,Zy,unG,reduceCtorEq,Zm,decide_eq_true_eq,Xh,Xc,ite_self,↓reduceIte,Zw,ZG,gcT,gcA,Zl,Zf,Ze,Zg,Zn,Zb,Zo,Zh,Zp,Xe,ZhS,ZfN,Zht,ZhX,Zf3,Zit,ZfY,Zs,Zi,Zk,Zc,Zx,ZI,e,ZcO,ZbS,Zt6,hl,ZfT]
  have z:((0:Nat):Int)=0:=rfl
  rw [z] at this
  rw [this]
  simp only [bne]
  rw [show ∀ (p q:Bool),(if p=true then some (AVal.bool false,([]:Za)) else some (AVal.bool q,[]))=some (AVal.bool (!p && q),[]) from by intro p q;cases p <;> rfl]
  generalize Zfx a.note b.note=q1,(a.qos == b.qos)=q2,a.retain=q3,b.retain=q4,(a.share == b.share)=q5,(a.ids == b.ids)=q6
  cases q1 <;> cases q2 <;> cases q3 <;> cases q4 <;> cases q5 <;> cases q6 <;> rfl
 ·have e:=Zub h
  simp -implicitDefEqProofs only [EQA,ZA,ZD,ZC,Zz,ZE,ZB,ZO,ZP,ZL,ZQ,ZN,ZR,ZS,ZK,ZM,implies_true,forall_const,Xn,Xo,Xq,Xf,Xg,Xp,Xk,ZH,ZJ,unA,Zu,Zy,unG,reduceCtorEq,Zm,decide_eq_true_eq,Xh,Xc,ite_self,↓reduceIte,Zw,ZG,gcT,gcA,Zl,Zf,Ze,Zg,Zn,Zb,Zo,Zh,Zp,Xe,ZhS,ZfN,Zht,ZhX,Zf3,Zit,ZfY,Zs,Zi,Zk,Zc,Zx,ZI,e,ZuP h,ZcO,ZbS,Zt6,hl,ZfT]
theorem ZzO (σ:Za) (sq own:Nat) (view:Bool) (a b:Zc9) (hl:a.note.props.length<=9223372036854775807) (hi:a.ids.length<=9223372036854775807):ZZ E BY σ sq 10 own view [.agg [.str a.note.topic,.lst false (a.note.payload.map Zt),.int .i64 a.note.qos,.bool a.note.retain,.str a.note.sender,.int .i64 a.note.expires,.lst false (a.note.props.map Zc),.int .i64 a.note.origin,.int .i64 a.note.number,.int .i64 a.note.hops,.int .i64 a.qos,.bool a.retain,.lst false (a.ids.map (.int .i64 ·)),.str a.share],.agg [.str b.note.topic,.lst false (b.note.payload.map Zt),.int .i64 b.note.qos,.bool b.note.retain,.str b.note.sender,.int .i64 b.note.expires,.lst false (b.note.props.map Zc),.int .i64 b.note.origin,.int .i64 b.note.number,.int .i64 b.note.hops,.int .i64 b.qos,.bool b.retain,.lst false (b.ids.map (.int .i64 ·)),.str b.share]]=some (.bool (ZfT a b),σ,{}) :=
 ZeQ (ZBi a b hl hi) (by kernel_rfl) (by simp -implicitDefEqProofs only [Zed,Zd2,ZA,ZD,ZC,ZdV,Zz,ZE,Zd7,ZB,eq_self,implies_true,Xw,Zs,Zi,Zk,Zc,Zx,ZcO,ZbS]) (by simp -implicitDefEqProofs only [Zed,Zd2,ZA,ZD,ZC,ZdV,Zz,ZE,Zd7,ZB,eq_self,implies_true,Xw,Zs,Zi,Zk,Zc,Zx,ZcO,ZbS]) rfl (fun _=>rfl) _ _ _ _
end
section
theorem ZyI (p:Zeu):(Zdo p).length<=7/\∀ x ∈ Zdo p,x.data.length<=30:=by
 unfold Zdo ZeB
 refine ⟨?_,?_⟩
 ·simp only [Xx,XH,X3]
  repeat' split
  all_goals simp only [Xx,Xz,XF]
  all_goals omega
 ·intro x hx
  rcases Xu.1 hx with hx | hx
  ·rcases Xu.1 hx with hx | hx
   ·split at hx
    ·simp only [XW] at hx;subst hx;simp
    ·simp at hx
   ·rcases Xu.1 hx with hx | hx
    ·split at hx
     ·simp only [XW] at hx;subst hx;simp
     ·simp at hx
    ·split at hx
     ·simp only [XW] at hx;subst hx;simp only [X3];omega
     ·simp at hx
  ·obtain ⟨c,_,rfl⟩:=XK.1 hx
   simp [ZdY]
theorem Zxx (m:Zdd):Zdp (ZaB m).note:=by
 obtain ⟨h1,h2⟩:=ZyI m.p
 refine ⟨?_,?_,?_⟩
 ·show (m.payload.take 300).length<=_
  rw [X3];omega
 ·show (Zdo m.p).length<=_
  omega
 ·intro p hp
  have:=h2 p hp
  omega
theorem ZyT (hits:List Zax):(ZaH hits).length<=30:=by
 unfold ZaH;rw [XH,X3];omega
def Zhl:=xwR Zif ZcZ rfl
def ZtG:=xwR Zig Zc1 rfl
def Zl2:=xwR ZjF ZcN rfl
def Zrf:=xwR Zrk ZcV rfl
def roT (i:Int) (S:AVal):List AVal->Tms
 | []=>[(7,.int .i64 i),(6,.lst true []),(5,.ref 0 0),(1,S)]
 | x::xs=>[(7,.int .i64 i),(6,.sl 0 0 0 (x::xs).length),(5,.ref 1 0),(1,S)]
def roH (b:ZU):List AVal->Za
 | []=>[b]
 | x::xs=>[.row 0 7 (x::xs),b]
theorem Zip (i:Int) (S:AVal) {X:List AVal} (h:0 < X.length):roT i S X=[(7,.int .i64 i),(6,.sl 0 0 0 X.length),(5,.ref 1 0),(1,S)]:=by
 cases X with
 | nil=>simp at h
 | cons x xs=>rfl
theorem ZhQ (b:ZU) {X:List AVal} (h:0 < X.length):roH b X=[.row 0 7 X,b]:=by
 cases X with
 | nil=>simp at h
 | cons x xs=>rfl
theorem ZvC (n:Z2) (H:List Zax) (hH:H.length<=1000):∀ (k:Nat) (X:List AVal),k<=H.length->X.length=H.length - k ->
  evL FC PRR BY 0 [7,6,5,1] Zif (roT ((k:Int) - 1) (.lst false (H.map Z0)) X) (roH (.var (Z6 n)) X) =
   some (.exit 0,(20,.bool false)::roT (-1) (.lst false (H.map Z0)) (X++(H.take k).reverse.map Z0),roH (.var (Z6 n)) (X++(H.take k).reverse.map Z0))
 | 0,X,_,_=>by
  have e:X++(H.take 0).reverse.map Z0=X:=by simp
  rw [e]
  have h0:¬((0:Nat):Int) - 1>=0:=by omega
  have h1:((0:Nat):Int) - 1=-1:=rfl
  rw [h1]
  unfold Z6 Zi Zk
  generalize H.map Z0=S
  generalize n.payload.map Zt=L1
  generalize n.props.map Zc=L2
  rw [ZaZ]
  cases X with
  | nil =>
   unfold roT roH
   simp -implicitDefEqProofs only [EQA,ZA,ZD,ZC,Zz,ZE,ZB,ZO,ZP,ZL,ZQ,ZN,ZR,ZS,ZK,ZM,implies_true,forall_const,Xn,Xo,Xq,Xf,Xg,Xp,Xk,ZH,ZJ,unA,Zu,Zy,unG,reduceCtorEq,Zm,decide_eq_true_eq,Xh,Xc,ite_self,↓reduceIte,Zw,ZG,gcT,gcA,Zl,Zf,Ze,Zg,Zn,Zb,Zo,Zh,Zp,Xe,Zd5,Zc5,Zd8,Zea,ZcN,ZdM,Zc1,Zd1,ZcV,Zd6,ZcZ,Zs,Zi,Zk,Zc,Zx,ZI,Zhl,Int.reduceLE,Int.reduceNeg,ge_iff_le]
  | cons x xs =>
   have hp:0 < (x::xs).length:=by simp
   rw [Zip _ _ hp,ZhQ _ hp]
   generalize x::xs=X
   simp -implicitDefEqProofs only [EQA,ZA,ZD,ZC,Zz,ZE,ZB,ZO,ZP,ZL,ZQ,ZN,ZR,ZS,ZK,ZM,implies_true,forall_const,Xn,Xo,Xq,Xf,Xg,Xp,Xk,ZH,ZJ,unA,Zu,Zy,unG,reduceCtorEq,Zm,decide_eq_true_eq,Xh,Xc,ite_self,↓reduceIte,Zw,ZG,gcT,gcA,Zl,Zf,Ze,Zg,Zn,Zb,Zo,Zh,Zp,Xe,Zd5,Zc5,Zd8,Zea,ZcN,ZdM,Zc1,Zd1,ZcV,Zd6,ZcZ,Zs,Zi,Zk,Zc,Zx,ZI,Zhl,Int.reduceLE,Int.reduceNeg,ge_iff_le]
 | k+1,X,hk,hX=>by
  have hlt:k < H.length:=by omega
  obtain ⟨x,hx⟩:∃ x,H[k]?=some x:=⟨_,List.getElem?_eq_getElem hlt⟩
  have ih:=ZvC n H hH k (X++[Z0 x]) (by omega) (by simp;omega)
  have e2:X++[Z0 x]++(H.take k).reverse.map Z0=X++(H.take (k+1)).reverse.map Z0:=by
   rw [Wq]
   congr 1
   have : H.take (k+1)=H.take k++[x]:=by rw [List.take_add_one,hx];rfl
   rw [this,List.reverse_append];simp
  rw [e2] at ih
  generalize X++(H.take (k+1)).reverse.map Z0=Y at *
  have hk1:((k+1:Nat):Int) - 1=(k:Int):=by omega
  have h0:(0:Int)<=(k:Int):=by omega
  have hw:IntKind.i64.wrap ((k:Int) - 1)=(k:Int) - 1:=Zcv (by omega) (by omega)
  have e1:∀ (σ:Za) (b:Bool) (kk:IntKind),ZaT σ 7 (.lst b (H.map Z0)) (.int kk (k:Int))=some (.iptr [.str x.client,.str x.sub.filter,.int .i64 x.sub.qos,.bool x.sub.noLocal,.bool x.sub.asPublished,.int .i64 x.sub.handling,.int .i64 x.sub.id] 0,σ,{}):=fun σ b kk=>iad hx Z0 (k:=7) rfl σ b kk
  have hk':kOk 7 [AVal.agg [.str x.client,.str x.sub.filter,.int .i64 x.sub.qos,.bool x.sub.noLocal,.bool x.sub.asPublished,.int .i64 x.sub.handling,.int .i64 x.sub.id]]=true:=rfl
  have hv:Z0 x=.agg [.str x.client,.str x.sub.filter,.int .i64 x.sub.qos,.bool x.sub.noLocal,.bool x.sub.asPublished,.int .i64 x.sub.handling,.int .i64 x.sub.id]:=rfl
  rw [hv] at ih
  rw [hk1]
  have hb:X.length<=1000:=by omega
  unfold Z6 Zi Zk at ih ⊢
  clear e2 hX
  generalize H.map Z0=S at *
  generalize n.payload.map Zt=L1 at *
  generalize n.props.map Zc=L2 at *
  rw [ZaZ]
  cases X with
  | nil =>
   rw [X1] at ih
   unfold roT roH at ih ⊢
   simp only [Xz,XF,XC] at ih
   simp -implicitDefEqProofs only [EQA,ZA,ZD,ZC,Zz,ZE,ZB,ZO,ZP,ZL,ZQ,ZN,ZR,ZS,ZK,ZM,implies_true,forall_const,Xn,Xo,Xq,Xf,Xg,Xp,Xk,ZH,ZJ,unA,Zu,Zy,unG,reduceCtorEq,Zm,decide_eq_true_eq,Xh,Xc,ite_self,↓reduceIte,Zw,ZG,gcT,gcA,Zl,Zf,Ze,Zg,Zn,Zb,Zo,Zh,Zp,Xe,Zd5,Zc5,Zd8,Zea,ZcN,ZdM,Zc1,Zd1,ZcV,Zd6,ZcZ,Zs,Zi,Zk,Zc,Zx,ZI,Zhl,h0,hw,e1,hk',ge_iff_le,AVal.cells,ZaS,Za9,Zcn,Zbk,WA,WG,Xt,XA,Xz,XF,ZbP,ZbK,ZbT,ZbO,ZbN,XM,XU,ZaI,ZaQ,ZaP,Zbe,ZbE,Zbq,ZbU,ZbR,ZaY,ZbL,XZ,Wi,Xt,XA,X0,Zac,viewAs,Zao,Zae,Zah,Zr,XG,We,XN,Xk,Xf]
   exact ih
  | cons y ys =>
   have hXp:0 < (y::ys).length:=by simp
   have hXq:∀ z:AVal,0 < (y::ys++[z]).length:=fun z=>by simp
   rw [Zip _ _ (hXq _),ZhQ _ (hXq _)] at ih
   rw [Zip _ _ hXp,ZhQ _ hXp]
   generalize y::ys=X at *
   have k2:(X.length+1)*64<=140737488355328:=by omega
   simp only [Xx,Xz,XF,XC] at ih
   simp -implicitDefEqProofs only [EQA,ZA,ZD,ZC,Zz,ZE,ZB,ZO,ZP,ZL,ZQ,ZN,ZR,ZS,ZK,ZM,implies_true,forall_const,Xn,Xo,Xq,Xf,Xg,Xp,Xk,ZH,ZJ,unA,Zu,Zy,unG,reduceCtorEq,Zm,decide_eq_true_eq,Xh,Xc,ite_self,↓reduceIte,Zw,ZG,gcT,gcA,Zl,Zf,Ze,Zg,Zn,Zb,Zo,Zh,Zp,Xe,Zd5,Zc5,Zd8,Zea,ZcN,ZdM,Zc1,Zd1,ZcV,Zd6,ZcZ,Zs,Zi,Zk,Zc,Zx,ZI,Zhl,h0,hw,e1,hk',k2,ge_iff_le,AVal.cells,ZaS,Za9,Zcn,Zbk,WA,WG,Xt,XA,Xz,XF,ZbP,ZbK,ZbT,ZbO,ZbN,XM,XU,ZaI,ZaQ,ZaP,Zbe,ZbE,Zbq,ZbU,ZbR,ZaY,ZbL,XZ,Wi,Xt,XA,X0,Zac,viewAs,Zao,Zae,Zah,Zr,XG,We,XN,Xk,Xf]
   exact ih
theorem ZAh (n:Z2) (hits:List Zax):(Zbg n hits).length<=hits.length:=by
 unfold Zbg
 rw [ZkR]
 have:=(ZgZ n hits [] 0 ⟨by simp,by simp,by simp⟩).len
 simpa using this
theorem ZA2 (n:Z2) (hits:List Zax) {p:ZF×List Zas} (hp:p ∈ Zbg n hits):p.2.length<=hits.length:=by
 rw [Zjf] at hp
 obtain ⟨c,_,rfl⟩:=XK.1 hp
 simp only [Zcl,XH]
 exact List.length_filter_le _ _
theorem Zzo (n:Z2) (l:List Zas):(byI n l).ids.length<=l.length:=by
 show (ZbD (ZbF l)).length<=_
 rw [Ztn,ZbF,XH]
 exact List.length_filter_le _ _
theorem Zus (n:Z2) (hn:n.props.length<=700000000) (P:Grp) (hP:P.length<=1000) (hS:∀ p ∈ P,p.2.length<=1000):∀ (r:Grp) (i:Nat),P.drop i=r->i<=P.length ->
  evL FC PRR BY 0 [10,9,8] Zig [(10,.int .i64 (i:Int)),(9,.lst false (P.map (Zaa n))),(8,.lst false (P.map (Zaa n)))] [] =
   some (.exit 2,[(44,.bool false),(10,.int .i64 (P.length:Int)),(9,.lst false (P.map (Zaa n))),(8,.lst false (P.map (Zaa n)))],[])
 | [],i,hi,hle=>by
  have : P.length<=i:=Wo.1 hi
  obtain rfl:i=P.length:=by omega
  have h0:¬(P.length:Int) < (P.length:Int):=by omega
  have hL:(P.map (Zaa n)).length=P.length:=by simp
  generalize P.map (Zaa n)=S at *
  rw [ZaZ]
  simp -implicitDefEqProofs only [EQA,ZA,ZD,ZC,Zz,ZE,ZB,ZO,ZP,ZL,ZQ,ZN,ZR,ZS,ZK,ZM,implies_true,forall_const,Xn,Xo,Xq,Xf,Xg,Xp,Xk,ZH,ZJ,unA,Zu,Zy,unG,reduceCtorEq,Zm,decide_eq_true_eq,Xh,Xc,ite_self,↓reduceIte,Zw,ZG,gcT,gcA,Zl,Zf,Ze,Zg,Zn,Zb,Zo,Zh,Zp,Xe,Zd5,Zc5,Zd8,Zea,ZcN,ZdM,Zc1,Zd1,ZcV,Zd6,ZcZ,Zs,Zi,Zk,Zc,Zx,ZI,ZtG,h0,hL]
 | p::r,i,hi,hle=>by
  obtain ⟨g1,d1,l1⟩:=Zba hi
  have h0:(i:Int) < (P.length:Int):=by omega
  have hw:=ZkQ (i:=i) h0 (by omega)
  have ih:=Zus n hn P hP hS r (i+1) d1 (by omega)
  have hT:=fun σ sq own view=>ZoE (ZzO σ sq own view (byI n p.2) (byI n p.2) (by show n.props.length<=_;omega) (by have:=Zzo n p.2;have:=hS p (Xr g1);omega))
  have e2:ZfT (byI n p.2) (byI n p.2)=true:=by simp [ZfT,Zfx]
  rw [e2] at hT
  have ha:∀ (σ:Za) (b:Bool) (kk:IntKind),ZaT σ 15 (.lst b (P.map (Zaa n))) (.int kk (i:Int))=some (.iptr (.str p.1::ZbS (byI n p.2)) 0,σ,{}):=fun σ b kk=>iad g1 (Zaa n) (k:=15) rfl σ b kk
  have hL:(P.map (Zaa n)).length=P.length:=by simp
  generalize P.map (Zaa n)=S at *
  generalize byI n p.2=it at *
  unfold ZbS Zi Zk Zs at ha
  generalize it.note.payload.map Zt=L3 at *
  generalize it.note.props.map Zc=L4 at *
  generalize it.ids.map (AVal.int .i64)=L5 at *
  rw [ZaZ]
  simp -implicitDefEqProofs only [EQA,ZA,ZD,ZC,Zz,ZE,ZB,ZO,ZP,ZL,ZQ,ZN,ZR,ZS,ZK,ZM,implies_true,forall_const,Xn,Xo,Xq,Xf,Xg,Xp,Xk,ZH,ZJ,unA,Zu,Zy,unG,reduceCtorEq,Zm,decide_eq_true_eq,Xh,Xc,ite_self,↓reduceIte,Zw,ZG,gcT,gcA,Zl,Zf,Ze,Zg,Zn,Zb,Zo,Zh,Zp,Xe,Zd5,Zc5,Zd8,Zea,ZcN,ZdM,Zc1,Zd1,ZcV,Zd6,ZcZ,Zs,Zi,Zk,Zc,Zx,ZI,ZtG,h0,hw,ha,hT,hL,Zab,AVal.cells,bne_self_eq_false,Bool.not_true,Bool.not_false,ZaS,Za9,Zcn,Zbk,WA,WG,Xt,XA,Xz,XF,ZbP,ZbK,ZbT,ZbO,ZbN,XM,XU,ZaI,ZaQ,ZaP,Zbe,ZbE,Zbq,ZbU,ZbR,ZaY,ZbL,XZ,Wi,Xt,XA,X0]
  all_goals exact ih
theorem ZxU (m:Zdd) (hm:Zf0 m) (hits:List Zax):ER 4 [.agg (mC m),.lst false (hits.map Z0)] []=some (.bool true,[]):=by
 have hM:=fun σ sq own=>ZoE (Zy3 σ sq own m hm)
 have hn:=Zxx m
 have hC:=fun σ sq own=>ZoE (ZAZ hits σ sq own)
 have hl:=ZyT hits
 have hP:=fun σ sq own=>Zta (ZaB m).note hn (ZaH hits) (by omega) σ sq own
 have h5:=ZvC (ZaB m).note (ZaH hits) (by omega) (ZaH hits).length [] (XN _) (by simp)
 rw [X1,XaN] at h5
 have h12:=Zus (ZaB m).note (by have:=hn.len;omega) (Zbg (ZaB m).note (ZaH hits)) (by have:=ZAh (ZaB m).note (ZaH hits);omega) (fun p hp=>by have:=ZA2 _ _ hp;omega) _ 0 rfl (Nat.zero_le _)
 have z:((0:Nat):Int)=0:=rfl
 rw [z] at h12
 have hrev:=Zxf (ZaB m).note (ZaH hits)
 have hq:=Zuv (ZaB m).note hn (ZaH hits).reverse (by rw [List.length_reverse];omega)
 have hw:=Zxc
 have hHl:((ZaH hits).map Z0).length=(ZaH hits).length:=XH ..
 have hwr:IntKind.i64.wrap (((ZaH hits).length:Int) - 1)=((ZaH hits).length:Int) - 1:=Zcv (by omega) (by omega)
 have hPl:((Zbg (ZaB m).note (ZaH hits)).map (Zaa (ZaB m).note)).length=(Zbg (ZaB m).note (ZaH hits)).length:=by simp
 have hrl:((ZaH hits).reverse.map Z0).length=(ZaH hits).length:=by simp
 have hHnil:(ZaH hits).reverse.map Z0=[]->(ZaH hits).map Z0=[]:=by
  intro h
  have : (ZaH hits).reverse=[]:=List.map_eq_nil_iff.1 h
  rw [List.reverse_eq_nil_iff] at this
  rw [this];rfl
 unfold Zbg at hq
 change ER _ _ _=some (ZbM ((Zbg (ZaB m).note (ZaH hits).reverse).map (Zaa (ZaB m).note)),Zbt 15 ((Zbg (ZaB m).note (ZaH hits).reverse).map (Zaa (ZaB m).note))) at hq
 rw [hrev] at hq
 clear hrev hm hn
 generalize hL:(Zbg (ZaB m).note (ZaH hits)).map (Zaa (ZaB m).note)=L at *
 generalize (Zbg (ZaB m).note (ZaH hits)).length=PN at *
 clear hL
 generalize (ZaH hits).length=HN at *
 generalize (ZaH hits).reverse.map Z0=X at *
 generalize hHS:(ZaH hits).map Z0=HS at *
 generalize (ZaB m).note=n at *
 unfold mC at hM ⊢
 generalize hits.map Z0=S0 at *
 have hn1:((0:Nat):Int) - 1=-1:=rfl
 cases X with
 | nil =>
  have hHS0:=hHnil rfl
  subst hHS0
  have hP0:∀ (σ:Za) (sq own:Nat),ZZ ER BY σ sq 8 own true [.agg [.str n.topic,.lst false (n.payload.map Zt),.int .i64 n.qos,.bool n.retain,.str n.sender,.int .i64 n.expires,.lst false (n.props.map Zc),.int .i64 n.origin,.int .i64 n.number,.int .i64 n.hops],.lst true []]=some (.lst false L,σ,{}):=by
   intro σ sq own
   have:=hP σ sq own
   rw [ZdX (by kernel_rfl) (by rfl)] at this ⊢
   exact this
  have hN0:HN=0:=by simpa using hrl.symm
  subst hN0
  unfold roT roH at h5
  unfold Z6 Zi Zk at h5
  generalize n.payload.map Zt=L1 at *
  generalize n.props.map Zc=L2 at *
  rw [hn1] at h5
  have hwr0:IntKind.i64.wrap (0 - 1)=-1:=by decide
  rw [Zjc (by rfl) ZtL]
  simp -implicitDefEqProofs only [EQA,ZA,ZD,ZC,Zz,ZE,ZB,ZO,ZP,ZL,ZQ,ZN,ZR,ZS,ZK,ZM,implies_true,forall_const,Xn,Xo,Xq,Xf,Xg,Xp,Xk,ZH,ZJ,unA,Zu,Zy,unG,reduceCtorEq,Zm,decide_eq_true_eq,Xh,Xc,ite_self,↓reduceIte,Zw,ZG,gcT,gcA,Zl,Zf,Ze,Zg,Zn,Zb,Zo,Zh,Zp,Xe,Zd5,Zc5,Zd8,Zea,ZcN,ZdM,Zc1,Zd1,ZcV,Zd6,ZcZ,Zs,Zi,Zk,Zc,Zx,ZI,Zl2,Zrf,hM,hC,hP,hP0,hw,h5,h12,hwr0,hPl,z,Zab,AVal.cells,ZT,Xt,XA,bne_self_eq_false,ZaS,Za9,Zcn,Zbk,WA,WG,Xt,XA,Xz,XF,ZbP,ZbK,ZbT,ZbO,ZbN,XM,XU,ZaI,ZaQ,ZaP,Zbe,ZbE,Zbq,ZbU,ZbR,ZaY,ZbL,XZ,Wi,Xt,XA,X0]
 | cons x xs =>
  have hXp:0 < (x::xs).length:=by simp
  rw [Zip _ _ hXp,ZhQ _ hXp] at h5
  have hXl:(x::xs).take HN=x::xs:=by rw [<-hrl,XaN]
  rw [hrl] at h5
  simp only [roT,roH] at h5
  clear hHnil
  generalize x::xs=X at *
  unfold Z6 Zi Zk at h5
  have hq2:ZaA true 0 (ER 8 [.agg [.str n.topic,.lst false (n.payload.map Zt),.int .i64 n.qos,.bool n.retain,.str n.sender,.int .i64 n.expires,.lst false (n.props.map Zc),.int .i64 n.origin,.int .i64 n.number,.int .i64 n.hops],.lst false X] [])=some (.lst false L,[]):=by
   have hq':ER 8 [.agg [.str n.topic,.lst false (n.payload.map Zt),.int .i64 n.qos,.bool n.retain,.str n.sender,.int .i64 n.expires,.lst false (n.props.map Zc),.int .i64 n.origin,.int .i64 n.number,.int .i64 n.hops],.lst false X] []=some (ZbM L,Zbt 15 L):=hq
   rw [hq'];exact Zzt 15 L
  clear hq
  generalize n.payload.map Zt=L1 at *
  generalize n.props.map Zc=L2 at *
  have hP2:∃ σ' c,∀ sq own,ZZ ER BY [.row 0 7 X,.var [.str n.topic,.lst false L1,.int .i64 n.qos,.bool n.retain,.str n.sender,.int .i64 n.expires,.lst false L2,.int .i64 n.origin,.int .i64 n.number,.int .i64 n.hops]] sq 8 own true [.agg [.str n.topic,.lst false L1,.int .i64 n.qos,.bool n.retain,.str n.sender,.int .i64 n.expires,.lst false L2,.int .i64 n.origin,.int .i64 n.number,.int .i64 n.hops],.sl 0 0 0 HN]=some (.lst false L,σ',c):=by
   have e0:0+HN<=X.length:=by omega
   have hsh:showAs [.row 0 7 X,.var [.str n.topic,.lst false L1,.int .i64 n.qos,.bool n.retain,.str n.sender,.int .i64 n.expires,.lst false L2,.int .i64 n.origin,.int .i64 n.number,.int .i64 n.hops]] [.agg [.str n.topic,.lst false L1,.int .i64 n.qos,.bool n.retain,.str n.sender,.int .i64 n.expires,.lst false L2,.int .i64 n.origin,.int .i64 n.number,.int .i64 n.hops],.sl 0 0 0 HN]=some ([.agg [.str n.topic,.lst false L1,.int .i64 n.qos,.bool n.retain,.str n.sender,.int .i64 n.expires,.lst false L2,.int .i64 n.origin,.int .i64 n.number,.int .i64 n.hops],.lst false X],[0]):=by
    have e1:HN<=X.length:=by omega
    simp [showAs,showA,ZbX,Zce,Zm,e1,hXl]
   have key:=fun sq own=>ZA5 (O:=ER) (bf:=BY) (f:=8) (by kernel_rfl) hsh rfl rfl hq2 sq own
   have e2:∀ sq,Zj (Za2 [] [] sq) (.lst false L)=.lst false L:=fun _=>rfl
   have e3:ZaX (.lst false L)=false:=rfl
   simp only [e3,e2,Xw,if_false] at key
   by_cases hap:Zcq [.row 0 7 X,.var [.str n.topic,.lst false L1,.int .i64 n.qos,.bool n.retain,.str n.sender,.int .i64 n.expires,.lst false L2,.int .i64 n.origin,.int .i64 n.number,.int .i64 n.hops]] [0] (.lst false L)=true
   ·simp only [hap,if_true] at key;exact ⟨_,_,key⟩
   ·simp only [hap,if_false] at key;exact ⟨_,_,key⟩
  obtain ⟨σ',c,hP2⟩:=hP2
  rw [Zjc (by rfl) ZtL]
  simp -implicitDefEqProofs only [EQA,ZA,ZD,ZC,Zz,ZE,ZB,ZO,ZP,ZL,ZQ,ZN,ZR,ZS,ZK,ZM,implies_true,forall_const,Xn,Xo,Xq,Xf,Xg,Xp,Xk,ZH,ZJ,unA,Zu,Zy,unG,reduceCtorEq,Zm,decide_eq_true_eq,Xh,Xc,ite_self,↓reduceIte,Zw,ZG,gcT,gcA,Zl,Zf,Ze,Zg,Zn,Zb,Zo,Zh,Zp,Xe,Zd5,Zc5,Zd8,Zea,ZcN,ZdM,Zc1,Zd1,ZcV,Zd6,ZcZ,Zs,Zi,Zk,Zc,Zx,ZI,Zl2,Zrf,hM,hC,hP,hP2,hw,h5,h12,hHl,hwr,hPl,Zab,AVal.cells,ZT,Xt,XA,bne_self_eq_false,ZaS]
  try (rw [Za9 _ _ _ _ _ _ _ (by rfl)])
  try (simp -implicitDefEqProofs only [EQA,ZA,ZD,ZC,Zz,ZE,ZB,ZO,ZP,ZL,ZQ,ZN,ZR,ZS,ZK,ZM,implies_true,forall_const,Xn,Xo,Xq,Xf,Xg,Xp,Xk,ZH,ZJ,unA,Zu,Zy,unG,reduceCtorEq,Zm,decide_eq_true_eq,Xh,Xc,ite_self,↓reduceIte,Zw,ZG,gcT,gcA,Zl,Zf,Ze,Zg,Zn,Zb,Zo,Zh,Zp,Xe,Zd5,Zc5,Zd8,Zea,ZcN,ZdM,Zc1,Zd1,ZcV,Zd6,ZcZ,Zs,Zi,Zk,Zc,Zx,ZI,Zl2,Zrf,hM,hC,hP,hP2,hw,h5,h12,hHl,hwr,hPl,Zab,AVal.cells,ZT,Xt,XA,bne_self_eq_false])
end
section
open Go.RowKit
theorem Ztk {α:Type} {T:Ty} {s:Bool} {f:α->AVal} (h:∀ y,TyC T y->∃ a,Zbp s y=f a) {xs:List AVal} (hx:TyC (.slice s T) xs):∃ l:List α,xs=[.lst false (l.map f)]/\l.length<=9223372036854775807:=by
 simp only [TyC] at hx
 obtain ⟨ys,rfl,h1,h2⟩:=hx
 have : ∀ ys:List (List AVal),(∀ y ∈ ys,TyC T y)->∃ l:List α,ys.map (Zbp s)=l.map f:=by
  intro ys
  induction ys with
  | nil=>intro _;exact ⟨[],rfl⟩
  | cons y ys ih =>
   intro hy
   obtain ⟨a,ha⟩:=h y (hy y (by simp))
   obtain ⟨l,hl⟩:=ih fun y' h'=>hy y' (by simp [h'])
   exact ⟨a::l,by simp [ha,hl]⟩
 obtain ⟨l,hl⟩:=this ys h2
 refine ⟨l,by rw [hl],?_⟩
 have:=congrArg List.length hl
 simp only [XH] at this
 omega
theorem ZAE {y:List AVal} (h:TyC (.int .u8) y):∃ b,Zbp false y=Zt b:=by
 simp only [TyC] at h
 obtain ⟨n,hw,rfl⟩:=h
 have h1:0<=n/\n<=255:=by
  simp only [Lit.wf,Bool.and_eq_true,decide_eq_true_eq] at hw
  exact hw
 refine ⟨UInt8.ofNat n.toNat,?_⟩
 simp only [Zbp,Xw,if_false,List.headD_cons,Zt,AVal.int.injEq,true_and]
 rw [UInt8.toNat_ofNat']
 omega
theorem Ze6 {xs:List AVal} (h:TyC (.slice false (.int .u8)) xs):∃ b:ZF,xs=[Zi b]/\b.length<=9223372036854775807:=Ztk (fun _=>ZAE) h
theorem ZBe {xs:List AVal} (h:TyC (.slice false (.int .i64)) xs):∃ b:List Int,xs=[Zs b]/\b.length<=9223372036854775807:=Ztk (fun y hy=>by
 simp only [TyC] at hy
 obtain ⟨n,_,rfl⟩:=hy
 exact ⟨n,rfl⟩) h
def Zz8:Ty:=.struct [.int .i64,.int .i64,.str,.str,.slice false (.int .u8)]
def ZyM:Ty:=.struct [.str,.slice false (.int .u8),.int .i64,.bool,.str,.int .i64,.slice true Zz8,.int .i64,.int .i64,.int .i64]
def Zv1:Ty:=.struct [ZyM,.int .i64,.bool,.slice false (.int .i64),.str]
example:Zcx Try.prog 8 33=some Zv1:=by kernel_rfl
example:ZcK (Try.prog.underlying 33)=true:=by kernel_rfl
end
section
open Go.RowKit
def ZqT:Ty:=.struct [.slice false (.int .u8),.slice false (.int .u8),.slice false (.int .u8),.slice false (.int .u8),.int .i64,.int .i64,.bool,.bool,.int .i64,.struct [.int .i64,.slice false (.int .u8),.slice false (.int .u8),.slice false (.int .u8)],.slice false (.int .i64),.int .i64,.int .i64]
theorem Zy0 {x:AVal} (h:ZoX true ZqT x):∃ m,Zf0 m/\x=.agg (mC m):=by
 obtain ⟨y,h,rfl⟩:=h
 unfold ZqT at h
 rw [TyC] at h
 simp only [Zdi] at h
 obtain ⟨_,_,rfl,h1,_,_,rfl,h2,_,_,rfl,h3,_,_,rfl,h4,_,_,rfl,h5,_,_,rfl,h6,_,_,rfl,h7,_,_,rfl,h8,_,_,rfl,h9,_,_,rfl,h10,_,_,rfl,h11,_,_,rfl,h12,_,_,rfl,h13,rfl⟩:=h
 rw [TyC] at h10
 simp only [Zdi] at h10
 obtain ⟨_,_,rfl,g1,_,_,rfl,g2,_,_,rfl,g3,_,_,rfl,g4,rfl⟩:=h10
 obtain ⟨b1,rfl,l1⟩:=Ze6 h1
 obtain ⟨b2,rfl,l2⟩:=Ze6 h2
 obtain ⟨b3,rfl,l3⟩:=Ze6 h3
 obtain ⟨b4,rfl,l4⟩:=Ze6 h4
 obtain ⟨c2,rfl,m2⟩:=Ze6 g2
 obtain ⟨c3,rfl,m3⟩:=Ze6 g3
 obtain ⟨c4,rfl,m4⟩:=Ze6 g4
 obtain ⟨is,rfl,li⟩:=ZBe h11
 simp only [TyC] at h5 h6 h7 h8 h9 h12 h13 g1
 obtain ⟨a5,_,rfl⟩:=h5
 obtain ⟨a6,_,rfl⟩:=h6
 obtain ⟨a7,rfl⟩:=h7
 obtain ⟨a8,rfl⟩:=h8
 obtain ⟨a9,_,rfl⟩:=h9
 obtain ⟨a12,_,rfl⟩:=h12
 obtain ⟨a13,_,rfl⟩:=h13
 obtain ⟨f1,_,rfl⟩:=g1
 exact ⟨⟨b1,b2,b3,b4,a5,a6,a7,a8,a9,⟨f1,c2,c3,c4⟩,is,a12,a13⟩,⟨l1,l2,l3,m2,m4,li⟩,rfl⟩
end
section
open Go.RowKit
def Zsv:Ty:=.slice true (.struct [.str,.struct [.str,.int .i64,.bool,.bool,.int .i64,.int .i64]])
theorem Zv9 {x:AVal} (h:ZoX false Zsv x):∃ l:List Zax,x=.lst false (l.map Z0):=by
 obtain ⟨y,h,rfl⟩:=h
 simp only [Zsv,TyC] at h
 obtain ⟨ys,rfl,h1,h2⟩:=h
 have : ∀ ys:List (List AVal),(∀ y ∈ ys,Zdi [.str,.struct [.str,.int .i64,.bool,.bool,.int .i64,.int .i64]] y)->∃ l:List Zax,ys.map (Zbp true)=l.map Z0:=by
  intro ys
  induction ys with
  | nil=>intro _;exact ⟨[],rfl⟩
  | cons y ys ih =>
   intro hy
   have hy0:=hy y (by simp)
   simp only [Zdi] at hy0
   obtain ⟨_,_,rfl,h1,_,_,rfl,h2,rfl⟩:=hy0
   rw [TyC] at h2
   simp only [Zdi] at h2
   obtain ⟨_,_,rfl,g1,_,_,rfl,g2,_,_,rfl,g3,_,_,rfl,g4,_,_,rfl,g5,_,_,rfl,g6,rfl⟩:=h2
   simp only [TyC] at h1 g1 g2 g3 g4 g5 g6
   obtain ⟨c,_,rfl⟩:=h1
   obtain ⟨f,_,rfl⟩:=g1
   obtain ⟨q,_,rfl⟩:=g2
   obtain ⟨a,rfl⟩:=g3
   obtain ⟨p,rfl⟩:=g4
   obtain ⟨hd,_,rfl⟩:=g5
   obtain ⟨i,_,rfl⟩:=g6
   obtain ⟨l,hl⟩:=ih fun y' h'=>hy y' (by simp [h'])
   exact ⟨⟨c,⟨f,q,a,p,hd,i⟩⟩::l,by simp [hl,Zbp,Z0]⟩
 obtain ⟨l,hl⟩:=this ys (fun y hy=>by simpa only [TyC] using h2 y hy)
 exact ⟨l,by simp [Zbp,hl]⟩
theorem ZyA (w:World):Gl.le (Imm.of w):=by
 intro b o u h
 unfold Gl at h
 cases h
end
section
open Go.ChangeShapes Go.WideShapes Go.ChangeAt Go.RowKit Go.Deep
open Go.ChangeMaps (open_string shut_string)
theorem ZAG:ownKnob Try.prog.godebug=none:=by kernel_rfl
theorem ZuS:laidOutB Try.prog=true:=by kernel_rfl
set_option maxRecDepth 100000 in
theorem ZzZ (os:Os) (started:os.Started) (H:Type) (enc:TypeId×Value->H) :
  ReturnsInHanded {} Try.checked os 4 .any (Rows.routeOrderSpec.pre6 enc Try.prog Try.f4 Rows.routeOrderRow.domain false) (Rows.routeOrderSpec.post enc Try.prog Try.f4 false true false false):=by
 refine returnsInHanded_of_change (C:=Try.checked) ZAG started (by kernel_rfl) Try.func4
  (ChangeSpec.witness6 (enc:=enc) (C:=Try.checked) false ⟨#[],#[.agg #[.slice none 0 0,.slice none 0 0,.slice none 0 0,.slice none 0 0,.int .i64 0,.int .i64 0,.bool false,.bool false,.int .i64 0,.int .i64 0,.slice none 0 0,.slice none 0 0,.slice none 0 0,.slice none 0 0,.int .i64 0,.int .i64 0],.slice none 0 0],[]⟩ 8 (by kernel_rfl) (by kernel_rfl) (by kernel_rfl) (by kernel_rfl)) ?_
 intro W base args ds gs before hval0 hW hcnd _
 have hval:∀ (j:Nat) t v,Try.f4.params[j]?=some t->args[j]?=some v->Value.okWide Try.prog W .any base t v:=hval0
 have hW':=hW
 obtain ⟨p,q,hA0,hV,rfl,hfz,hnd⟩:=hW
 have hA:DataW.TrodAll enc Try.prog W 0 (fun _=>true) true Try.f4.params.toList args.toList ds p:=hA0
 rw [Try.params4] at hA hval
 obtain ⟨v0,vs0,d0,ds0,p0,q0,hargs,rfl,rfl,h0,r0⟩:=trodAll_cons hA
 obtain ⟨v1,vs1,d1,ds1,p1,q1,rfl,rfl,rfl,h1,r1⟩:=trodAll_cons r0
 obtain ⟨rfl,rfl,rfl⟩:=trodAll_nil r1
 obtain rfl:args=#[v0,v1]:=by cases args;simp_all
 obtain ⟨rfl,rfl⟩:=trodVars_none hV
 have k0:=h0
 have lt0:∀ x ∈ p0,x.block < W.heap.size:=by obtain ⟨m,hm⟩:=k0;exact DataW.trod_lt m _ _ _ hm
 have k1:=h1
 have lt1:∀ x ∈ p1,x.block < W.heap.size:=by obtain ⟨m,hm⟩:=k1;exact DataW.trod_lt m _ _ _ hm
 obtain ⟨x0,y0,z0,_⟩:=ZuB (n:=12) (T:=ZqT) (by kernel_rfl) (hval 0 27 v0 rfl rfl) h0
 obtain ⟨a0,b0,rfl⟩:=Zy0 y0
 obtain ⟨x1,y1,z1,_⟩:=ZuB (n:=12) (T:=Zsv) (by kernel_rfl) (hval 1 28 v1 rfl rfl) h1
 obtain ⟨a1,rfl⟩:=Zv9 y1
 clear hA0 hval0
 refine (Zv4 Zz1 (ZyA _) (args:=[.agg (mC a0),.lst false (a1.map Z0)]) (by simp only [VRs];exact ⟨_,_,rfl,z0,_,_,rfl,z1,rfl⟩) (ZxU a0 b0 a1)).mono fun e W' ⟨he,bel⟩=>?_
 subst he
 exact ⟨_,rfl,_,_,_,[],_,[],hW',trodAll_mk1 (shut_bool Try.underlying4 _),(trodAll_cons_mk (Below.trod ZuS (by kernel_rfl) (of_decide_eq_true (by kernel_rfl)) k0 bel lt0) (trodAll_cons_mk (Below.trod ZuS (by kernel_rfl) (of_decide_eq_true (by kernel_rfl)) k1 bel lt1) trodAll_mk0)),rfl,bel.frame _,fun h=>by cases h⟩
theorem routeOrder_holds:Rows.RouteOrderSaid :=
 OpenClaim.holds_of_wide 4 Try.f4 rfl rfl rfl rfl rfl rfl rfl ⟨rfl,rfl,rfl,rfl,rfl⟩ rfl rfl rfl rfl rfl (by kernel_rfl) Try.func4 (by kernel_rfl)
  (of_decide_eq_true (by kernel_rfl)) (by unfold Func.isWrapper;first | (rw [if_pos (by decide +kernel)];kernel_rfl) | (rw [if_neg (by decide +kernel)];exact ⟨rfl,rfl⟩))
  (fun os started H enc _=>ZzZ os started H enc)
#print axioms routeOrder_holds
end
end Go.Proofs.Ytfpahnkbjfimdaa
