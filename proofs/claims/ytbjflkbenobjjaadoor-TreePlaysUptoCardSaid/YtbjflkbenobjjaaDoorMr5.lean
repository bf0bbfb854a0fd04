/- packed -/
import Derived.Test.YtbjflkbenobjjaaDoorMr4
import Derived.Test.YtbjflkbenobjjaaDoorMr3
set_option linter.defProp false
set_option linter.unusedSectionVars false
set_option linter.unusedSimpArgs false
set_option linter.unusedVariables false
open Option.some renaming injEq→Xa
open Prod.mk renaming injEq→Xb
open Nat renaming reduceEqDiff→Xc,reduceLT→Xe,reduceAdd→Xj,reduceBEq→Xk,reduceLeDiff→Xo,le_refl→Xz,zero_add→XC,sub_self→WW,reduceMul→W4,le_trans→Xat,lt_irrefl→Xaw,zero_le→XaM
open List renaming getElem?_eq_some_iff→Xd,getD_eq_getElem?_getD→Xf,getElem?_eq_getElem→Xl,getElem?_set→Xn,nil_append→Xp,replicate→Xq,getElem?_set_ne→Xs,mem_append→Xt,mem_of_getElem?→Xu,mem_map→Xv,map_cons→Xx,length_append→Xy,append_nil→XA,mem_cons→XB,getD_cons_zero→XD,length_cons→XE,getElem?_set_self→XF,cons_append→XH,flatMap_cons→XI,getD_cons_succ→XL,getElem?_map→XM,contains_cons→XO,length_nil→XP,contains_nil→XU,map_nil→XW,map_append→X0,nodup_cons→X1,zip_cons_cons→X5,range_succ→X6,flatMap_nil→X7,all_cons→X8,map_map→Wb,length_map→Wd,mem_flatMap→Wf,getElem?_append_right→Wh,take_of_length_le→Wi,mem_filter→Wj,pairwise_cons→Wk,range→Wn,drop_eq_nil_iff→Wq,length_drop→Wv,length_singleton→Wz,all_nil→WC,lookup_nil→WG,nodup_append→WK,count_le_length→WV,length_eq_zero_iff→W7,isEmpty_iff→Xaf,not_mem_nil→Xah,replicate_succ→Xak,range_zero→Xal,headD_cons→Xas,map_set→Xav,drop_succ_cons→Xax,any_cons→Xaz,any_eq_true→XaD,drop_zero→XaF,singleton_append→XaP,length_filter_le→XaQ,filter_cons→XaW,foldl_cons→Xa0,length→Xa5,isEmpty_cons→Xa7,set_append_right→Xbb,append_inj'→Xbg,filter_eq_self→Xbo,pairwise_map→Xby,count_cons→XbH,sum_cons→XbL,getD_nil→XbN
open Bool renaming false_eq_true→Xg,and_eq_true→Xi,not_eq_true'→We,and_self→Wm,or_self→WA,or_eq_true→WR,eq_iff_iff→Xac,false_and→Xai,or_false→Xay,not_false→XaH,not_true→Xbi,and_false→Xbt,true_and→Xbz,and_true→XbA,false_or→XbB
open Option renaming map_eq_some_iff→Xh,bind_some→XK,map_none→XbG
open Or renaming inl→Xm,inr→Xr
open Int renaming toNat_natCast→XY,le_refl→Ws,toNat_zero→WB
open List.cons renaming injEq→WJ
open List.Pairwise renaming nil→WL,filter→Xbh
open Quot renaming mk→WZ
open UInt8 renaming toNat_inj→Xam
namespace Go.Proofs.YtbjflkbenobjjaaDoor
set_option maxHeartbeats 16000000
set_option maxRecDepth 10000
section
def hxC:Zd:=(.seq (.region [oM 17 0,oI 18 (.nilchk (.t 17)),oF 19 1 18,oL 20 19,oI 21 (.look 2 .nilp false (.t 20) (.c (.str [35]))),oM 10 21] none [10,4,3,2,1,0]) (.seq (.region [oM 22 10,oI 23 (.peq true (.t 22) (.c .nilp)),oM 24 23,⟨(some 25),(.mov (.t 3)),(some (24,true)),[]⟩,⟨(some 26),(.un .not (.t 25)),(some (24,true)),[]⟩,oI 27 (.pick (.t 24) (.t 26) (.c (.bool false)))] none [27,10,4,3,2,1,0]) (.cond (.t 27) (.range [oM 28 10,oI 29 (.nilchk (.t 28)),oF 30 0 29,oL 31 30] [31,4,3,2,1,0] 31 35 1 true [oI 36 (.ext (.t 35) 0),oI 37 (.ext (.t 35) 1),oM 11 36,oM 12 37] ZhZ ZnC) .skip)))
theorem Zsg:Zm7=.seq hxC Zie:=rfl
section
variable {m:Nat} {s:Option Bag} (ns:List TN) (j:Nat) (d:TN) (b:Bool) (S:List AVal) (p:Tx)
theorem ZFH {σ:Za} (hs:ZY σ 0=some (eNs ns)) (hd:ns[j]?=some d) (hn:b=true\/Zq [35] d.2=none) :
  evC FC PR BY m hxC (vS b S p j) σ=some (.normal,[(27,.bool false),(10,nxV 0 (Zq [35] d.2))]++vS b S p j,σ):=by
 have q1:=ZaV hd
 have q2:=ZdX hs hd [35]
 unfold vS hxC
 have hz:∀ σ:Za,σ++Xq 0 Zk.free=σ:=fun σ=>by simp
 generalize eN d=D at *
 generalize eNs ns=A at *
 rcases hn with rfl | hn
 ·cases hk:Zq [35] d.2 with
  | none =>
   simp only [hk,nxV] at q2 ⊢
   simp only [XH,Xp]
   simp -implicitDefEqProofs only [EQA,Zad,Xe,Xc,Zs,Z4,reduceCtorEq,↓reduceIte,hs,q1,q2]
  | some i =>
   simp only [hk,nxV] at q2 ⊢
   simp only [XH,Xp]
   simp -implicitDefEqProofs only [EQA,Zad,Xe,Xc,unA,Zs,unG,reduceCtorEq,↓reduceIte,hs,q1,q2]
 ·simp only [hn,nxV] at q2 ⊢
  simp only [XH,Xp]
  simp -implicitDefEqProofs only [EQA,Zad,Xe,Xc,Zs,Z4,reduceCtorEq,↓reduceIte,hs,q1,q2]
theorem gc1 {g:Nat} (ho:okS m s g) (A:ZF) (i j:Nat):gcT m (vT1 i j b S p) (hM (.arena A) s g)=(vT1 i j b S p,hM (.arena A) s g):=by
 rcases ho with ⟨rfl,rfl⟩ | ⟨rfl,h,hg⟩
 ·cases s with
  | none =>
   unfold vT1 hM
   simp -implicitDefEqProofs only [ZcA,ZE,ZD,eq_self,Xe,Xo,Xk,beq_self_eq_true,Xg,ne_eq,reduceCtorEq,↓reduceIte,gcT,gcA,Zn,Zi,Ze,Zg,Zv,Zb,Zu,Zm,Zp,XO,X6,gcT,gcA,Zn,ZC,ZaR,Zdj,ZcV]
  | some q =>
   unfold vT1 hM
   simp -implicitDefEqProofs only [ZcA,ZE,ZD,eq_self,Xj,Xe,Xo,Xc,Xk,beq_self_eq_true,Xg,ne_eq,reduceCtorEq,↓reduceIte,gcT,gcA,Zn,Zi,Ze,Zg,Zv,Zb,Zu,Zm,Zp,XO,X6,gcT,gcA,Zn,ZC,ZaR,Zdj,ZcV]
 ·cases s with
  | none=>exact absurd rfl h
  | some q =>
   have : g=0\/g=1:=by omega
   rcases this with rfl | rfl
   ·unfold vT1 hM
    simp -implicitDefEqProofs only [ZcA,ZE,ZD,eq_self,Xj,Xe,Xo,Xc,Xk,beq_self_eq_true,Xg,ne_eq,reduceCtorEq,↓reduceIte,gcT,gcA,Zn,Zi,Ze,Zg,Zv,Zb,Zu,Zm,Zp,XO,X6,gcT,gcA,Zn,ZC,ZaR,Zdj,ZcV]
   ·unfold vT1 hM
    simp -implicitDefEqProofs only [ZcA,ZE,ZD,eq_self,Xj,Xe,Xo,Xc,Xk,beq_self_eq_true,Xg,ne_eq,reduceCtorEq,↓reduceIte,gcT,gcA,Zn,Zi,Ze,Zg,Zv,Zb,Zu,Zm,Zp,XO,X6,gcT,gcA,Zn,ZC,ZaR,Zdj,ZcV]
theorem ZwT {i:Nat} {di:TN} (ho:okS m s 0) (hd:ns[j]?=some d) (hn:Zq [35] d.2=some i) (hdi:ns[i]?=some di) (hp:p.length+1<=1000000000000) (hb:Za3 s+di.1.length<=1000000) :
  evC FC PR BY m hxC (vS false S p j) (hM (.arena (eNs ns)) s 0)=some (.normal,[(31,.mapg 0 i false)]++vS false S p j,hM (.arena (eNs ns)) (ZB s (Za7 (ZH p [35]) di.1)) (ZZ m 0 di.1)):=by
 have hs:ZY (hM (.arena (eNs ns)) s 0) 0=some (eNs ns):=by cases s <;> rfl
 have q1:=ZaV hd
 have q1':=ZaV hdi
 have q2:=ZdX hs hd [35]
 have hrun:=fun tm σ h=>vx1 ns i j di hdi false S p hp (m:=m) (s:=s) (g:=0) (tm:=tm) (σ:=σ) (fin:=fun m'=>evC FC PR BY m' ZnC) (out:=(.normal,vT1 i j false S p,hM (.arena (eNs ns)) (ZB s (Za7 (ZH p [35]) di.1)) (ZZ m 0 di.1))) ho hb h (by rw [ZuW];exact Zlr _ _)
 have hg:=gc1 false S p ho (eNs ns) i j
 simp only [hn,nxV] at q2
 unfold vS hxC
 generalize hM (.arena (eNs ns)) (ZB s (Za7 (ZH p [35]) di.1)) (ZZ m 0 di.1)=H2 at *
 generalize hM (.arena (eNs ns)) s 0=H at *
 generalize eN d=D at *
 generalize eN di=D2 at *
 generalize eNs ns=A at *
 have hz:∀ σ:Za,σ++Xq 0 Zk.free=σ:=fun σ=>by simp
 simp -implicitDefEqProofs only [EQA,Zad,Xe,Xc,unA,Zs,unG,reduceCtorEq,↓reduceIte,ZhN,ZaU,Zfp,hs,q1,q1',q2]
 have h5:=hrun [(31,.mapg 0 i false),(30,.nref 0 i 0),(29,.nref 0 i 0),(28,.nref 0 i 0),(27,.bool true),(10,.nref 0 i 0),(4,.fn 35 [.ref 1 0]),(3,.bool false),(2,.lst false S),(1,.str p),(0,.nref 0 j 0)] H hg
 unfold Zle at h5
 simp only [ZgE,oI,oM,oF,oL] at h5
 rw [h5]
 rfl
theorem Zu1 {g:Nat} (ho:okS m s g) (A:ZF):Zaw m (hM (.arena A) s g) (.tup [])=some (.tup [],hM (.arena A) s g):=by
 rcases ho with ⟨rfl,rfl⟩ | ⟨rfl,h,hg⟩
 ·exact ZrN (ZlY (by omega))
 ·cases s with
  | none=>exact absurd rfl h
  | some q =>
   rw [Zr1 (ZlY (by omega))]
   have : g=0\/g=1:=by omega
   rcases this with rfl | rfl <;> rfl
end
def Zbg (ns:List TN) (b:Bool) (p:Tx) (d:TN):List AVal:=if b then [] else ZaN (Zq [35] d.2) fun i=>match ns[i]? with
 | some di=>Za7 (ZH p [35]) di.1
 | none=>[]
def Zbk (ns:List TN):List Tx->Bool->Tx->Nat->List AVal
 | [],b,p,j=>match ns[j]? with
  | some d=>Zbg ns b p d++Za7 p d.1
  | none=>[]
 | l::r,b,p,j=>match ns[j]? with
  | some d=>Zbg ns b p d++(ZaN (Zq l d.2) (fun i=>Zbk ns r false (ZH p l) i)++(if b then [] else ZaN (Zq [43] d.2) (fun i=>Zbk ns r false (ZH p [43]) i)))
  | none=>[]
def ZdC (l:List Tx):Nat:=(l.map fun x=>x.length+2).sum
theorem Zod (p l:Tx):(ZH p l).length<=p.length+l.length+1:=by
 unfold ZH
 split
 ·omega
 ·simp;omega
theorem ZGY {α:Type} (m g:Nat) (M N:List α):ZZ m (ZZ m g M) N=ZZ m g (M++N):=by
 cases N with
 | nil=>rw [XA];rfl
 | cons x N=>cases M <;> rfl
theorem Zs2 (p:Tx) (M:List (Tx×Int)):(Za7 p M).length=M.length:=by simp [Za7]
theorem Zrn (p:Tx) (M:List (Tx×Int)) (m g:Nat):ZZ m g M=ZZ m g (Za7 p M):=by cases M <;> rfl
theorem Znv {m:Nat} {s:Option Bag} (ho:okS m s 0) (R:List AVal):okS m (ZB s R) (ZZ m 0 R):=by
 cases R with
 | nil=>exact ho
 | cons x R=>exact ZiL ho (x::R)
theorem ZiR {m g:Nat} {s:Option Bag} (ho:okS m s g) (R:List AVal):okS m (ZB s R) (ZZ m g R):=by
 cases R with
 | nil=>exact ho
 | cons x R=>exact ZiL ho (x::R)
theorem Zn8 (s:Option Bag):okS (mS s) s 0:=by
 cases s with
 | none=>exact Xm ⟨rfl,rfl⟩
 | some q=>exact Xr ⟨rfl,by simp,XaM _⟩
theorem ZlR (B:Zk) (s:Option Bag) (g:Nat):(hM B s g).length=mS s:=by cases s <;> rfl
theorem Ztt (ns:List TN) (hC:Closed ns) {m:Nat} {s:Option Bag} (ho:okS m s 0) (j:Nat) (d:TN) (hd:ns[j]?=some d) (b:Bool) (S:List AVal) (p:Tx) (hp:p.length+1<=1000000000000) (hb:Za3 s+(Zbg ns b p d).length<=1000000) :
  ∃ pre X Y,(pre=[(31,X)]\/pre=[(27,.bool false),(10,Y)])/\evC FC PR BY m hxC (vS b S p j) (hM (.arena (eNs ns)) s 0)=some (.normal,pre++vS b S p j,hM (.arena (eNs ns)) (ZB s (Zbg ns b p d)) (ZZ m 0 (Zbg ns b p d))):=by
 have hs:ZY (hM (.arena (eNs ns)) s 0) 0=some (eNs ns):=by cases s <;> rfl
 by_cases hn:b=true\/Zq [35] d.2=none
 ·have e:Zbg ns b p d=[]:=by
   unfold Zbg
   rcases hn with hn | hn
   ·rw [if_pos hn]
   ·rw [hn];split <;> rfl
  rw [e]
  exact ⟨_,.nilp,_,Xr rfl,ZFH ns j d b S p hs hd hn⟩
 ·have hb0:b=false:=by cases b <;> simp_all
  subst hb0
  cases hk:Zq [35] d.2 with
  | none=>exact absurd (Xr hk) hn
  | some i =>
   have hi:=(hC.next hd hk).2
   obtain ⟨di,hdi⟩:∃ di,ns[i]?=some di:=⟨_,Xl hi⟩
   have e:Zbg ns false p d=Za7 (ZH p [35]) di.1:=by
    unfold Zbg ZaN
    simp only [Xg,if_false,hk,hdi]
   rw [e] at hb ⊢
   rw [Zs2] at hb
   refine ⟨[(31,.mapg 0 i false)],.mapg 0 i false,.nilp,Xm rfl,?_⟩
   rw [<-Zrn]
   exact ZwT ns j d S p ho hd hk hdi hp hb
theorem ZrR (ns:List TN) (hC:Closed ns):∀ (name:List Tx) (b:Bool) (p:Tx) (j:Nat),j < ns.length->p.length+ZdC name+2<=1000000000->∀ (s:Option Bag),Za3 s+(Zbk ns name b p j).length<=1000000 ->
  E 34 [.nref 0 j 0,.str p,.lst false (name.map AVal.str),.bool b,.fn 35 [.ref 1 0]] (hM (.arena (eNs ns)) s 0)=some (.tup [],hM (.arena (eNs ns)) (ZB s (Zbk ns name b p j)) (ZZ (mS s) 0 (Zbk ns name b p j))):=by
 intro name
 induction name with
 | nil =>
  intro b p j hj hp s hb
  obtain ⟨d,hd⟩:∃ d,ns[j]?=some d:=⟨_,Xl hj⟩
  have ho:=Zn8 s
  have em:Zbk ns [] b p j=Zbg ns b p d++Za7 p d.1:=by simp only [Zbk,hd]
  rw [em] at hb ⊢
  rw [Xy,Zs2] at hb
  obtain ⟨pre,X,Y,hpre,e1⟩:=Ztt ns hC ho j d hd b [] p (by simp only [ZdC,XW,List.sum_nil] at hp;omega) (by omega)
  have ho1:=Znv ho (Zbg ns b p d)
  have e2:=ZEy ns j d hd b p ho1 (by rw [Zfj];omega) X Y pre hpre
  rw [ZgR,Zrn p,ZGY] at e2
  have ho2:=Znv ho (Zbg ns b p d++Za7 p d.1)
  have e3:=Zu1 ho2 (eNs ns)
  rw [ZQ (by rfl) ZtJ,ZsC,Zsg,ZlR]
  rw [show enterA 0 [AVal.nref 0 j 0,.str p,.lst false (([]:List Tx).map AVal.str),.bool b,.fn 35 [.ref 1 0]] []=vS b [] p j from rfl]
  rw [Zj2 e1,e2]
  exact e3
 | cons l r ih =>
  intro b p j hj hp s hb
  obtain ⟨d,hd⟩:∃ d,ns[j]?=some d:=⟨_,Xl hj⟩
  have ho:=Zn8 s
  have hlen:ZdC (l::r)=l.length+2+ZdC r:=by simp [ZdC]
  have em:Zbk ns (l::r) b p j=Zbg ns b p d++(ZaN (Zq l d.2) (fun i=>Zbk ns r false (ZH p l) i)++(if b then [] else ZaN (Zq [43] d.2) (fun i=>Zbk ns r false (ZH p [43]) i))):=by simp only [Zbk,hd]
  rw [em] at hb ⊢
  rw [Xy,Xy] at hb
  obtain ⟨pre,X,Y,hpre,e1⟩:=Ztt ns hC ho j d hd b ((l::r).map AVal.str) p (by omega) (by omega)
  have ho1:=Znv ho (Zbg ns b p d)
  have hg1:=ZgB ho1
  have hg1':ZZ (mS s) 0 (Zbg ns b p d)<=1:=by
   cases s <;> cases Zbg ns b p d <;> simp [ZZ,ZbB,mS]
  have hj1:=Zod p l
  have hj2:=Zod p [43]
  simp only [Wz] at hj2
  obtain ⟨σ',e2,r',g',hF2,hP⟩:=Zyt (m:=mS s) ns j d hd b p l r (by omega) (fun i=>Zbk ns r false (ZH p l) i) (fun i=>Zbk ns r false (ZH p [43]) i) (s:=ZB s (Zbg ns b p d)) (rr:=2) (gg:=ZZ (mS s) 0 (Zbg ns b p d)) (σ:=hM (.arena (eNs ns)) (ZB s (Zbg ns b p d)) (ZZ (mS s) 0 (Zbg ns b p d)))
   (ZlY (by omega)) (by rw [ZlR];cases ZB s (Zbg ns b p d) <;> simp [mS]) (by omega)
   (fun i hi s hs=>ih false (ZH p l) i (hC.next hd hi).2 (by omega) s hs)
   (fun i _ hi s hs=>ih false (ZH p [43]) i (hC.next hd hi).2 (by omega) s hs)
   (by rw [Zfj];omega)
  obtain ⟨⟨e,tm',σ''⟩,e3,e4⟩:=Xh.1 e2
  simp only [Xb] at e4
  obtain ⟨rfl,rfl⟩:=e4
  have hS:((((l::r).map AVal.str).length:Int) == 0)=false:=by simp;omega
  have e5:=ZMr ns j d hd b p ho1 ((l::r).map AVal.str) hS X Y pre hpre _ e3
  rw [ZgR] at hF2
  have e6:Zaw (mS s) σ'' (.tup [])=some (.tup [],hM (.arena (eNs ns)) (ZB s (Zbg ns b p d++(ZaN (Zq l d.2) (fun i=>Zbk ns r false (ZH p l) i)++(if b then [] else ZaN (Zq [43] d.2) (fun i=>Zbk ns r false (ZH p [43]) i))))) (ZZ (mS s) 0 (Zbg ns b p d++(ZaN (Zq l d.2) (fun i=>Zbk ns r false (ZH p l) i)++(if b then [] else ZaN (Zq [43] d.2) (fun i=>Zbk ns r false (ZH p [43]) i)))))):=by
   generalize (ZaN (Zq l d.2) (fun i=>Zbk ns r false (ZH p l) i)++(if b then [] else ZaN (Zq [43] d.2) (fun i=>Zbk ns r false (ZH p [43]) i)))=W at *
   generalize Zbg ns b p d=T at *
   cases s with
   | none =>
    have : ZZ (mS none) 0 (T++W)=0:=by cases (T++W) <;> rfl
    rw [this]
    exact ZrN hF2
   | some q =>
    have hne:ZB (some q) T≠none:=by cases T <;> simp [ZB]
    obtain ⟨p1,p2,p3,p4⟩:=hP hne
    subst p1
    obtain ⟨q',hq'⟩:∃ q',ZB (some q) (T++W)=some q':=by cases (T++W) <;> exact ⟨_,rfl⟩
    rw [hq'] at hF2 ⊢
    rw [show mS (some q)=3 from rfl] at *
    rw [Zr1 hF2]
    congr 3
    rw [ZmF] at *
    cases T with
    | nil =>
     cases W with
     | nil=>simp [dR] at *;simp [p3]
     | cons x W=>simp [dR] at *;simp [p3]
    | cons x T=>simp [dR] at *;omega
  rw [ZQ (by rfl) ZtJ,ZsC,Zsg,ZlR]
  rw [show enterA 0 [AVal.nref 0 j 0,.str p,.lst false ((l::r).map AVal.str),.bool b,.fn 35 [.ref 1 0]] []=vS b ((l::r).map AVal.str) p j from rfl]
  rw [Zj2 e1,e5]
  exact e6
end
section
section
variable (key p k:Tx) (v:Int)
theorem ZvT:E 44 [.str p,.str key,.int .i64 v,.ref 0 0,.ref 1 0] [.var [.str key],.var [.lst true []]]=some (.tup [],[.var [.str key],.var [.sl 2 0 0 1],.row 0 3 [Zc ⟨p,key,v⟩]]):=by
 have A:=fun {σ:Za} {sq:Nat}=>ZrW (σ:=σ) (sq:=sq) (x:=⟨p,key,v⟩)
 have hv:∀ σ:Za,viewAs σ [.agg [.str p,.str key,.int .i64 v]]=some ([.agg [.str p,.str key,.int .i64 v]],[]):=fun _=>rfl
 have hr:Zc ⟨p,key,v⟩=.agg [.str p,.str key,.int .i64 v]:=rfl
 rw [hr] at A ⊢
 rw [ZQ (by rfl) Zku]
 simp -implicitDefEqProofs only [EQA,Zey,Xj,Xe,Xo,Xc,Xk,Z7,reduceCtorEq,↓reduceIte,Zks,Zgg,ZiY,A,hv,ZcB,ZJ,Zt,AVal.cells]
 rfl
theorem ZLb (q:Bag) (n:Nat) (hn:n=Zy q) (hb:n<=1000000):E 44 [.str p,.str key,.int .i64 v,.ref 0 0,.ref 1 0] [.var [.str key],.var [.sl 2 0 0 n],.bag 0 3 q]=some (.tup [],[.var [.str key],.var [.sl 2 1 0 (n+1)],.bag 1 3 (ZaA q [Zc ⟨p,key,v⟩])]):=by
 have A:=fun {σ:Za} {sq t g:Nat} hs=>Zsf (σ:=σ) (sq:=sq) (t:=t) (g:=g) (x:=⟨p,key,v⟩) hs hn hb
 have hv:∀ σ:Za,viewAs σ [.agg [.str p,.str key,.int .i64 v]]=some ([.agg [.str p,.str key,.int .i64 v]],[]):=fun _=>rfl
 have hr:Zc ⟨p,key,v⟩=.agg [.str p,.str key,.int .i64 v]:=rfl
 rw [hr] at A ⊢
 generalize ZaA q [.agg [.str p,.str key,.int .i64 v]]=q2 at *
 rw [ZQ (by rfl) Zku]
 simp -implicitDefEqProofs only [EQA,Zey,Xj,Xe,Xo,Xc,Xk,Z7,reduceCtorEq,↓reduceIte,Zks,Zgg,ZiY,A,hv,ZcB,ZJ,Zt,AVal.cells]
 rfl
theorem Zst (hk:(k == key)=false) (out:AVal) (H:Za) (ho:(out=.lst true []/\H=[])\/∃ n q,out=.sl 2 0 0 n/\H=[.bag 0 3 q]):E 44 [.str p,.str k,.int .i64 v,.ref 0 0,.ref 1 0] (.var [.str key]::.var [out]::H)=some (.tup [],.var [.str key]::.var [out]::H):=by
 rcases ho with ⟨rfl,rfl⟩ | ⟨n,q,rfl,rfl⟩
 ·rw [ZQ (by rfl) Zku]
  simp -implicitDefEqProofs only [EQA,Xj,Xe,Xc,Z7,reduceCtorEq,↓reduceIte,Zks,Zgg,ZiY,hk]
  rfl
 ·rw [ZQ (by rfl) Zku]
  simp -implicitDefEqProofs only [EQA,Xj,Xe,Xc,Z7,reduceCtorEq,↓reduceIte,Zks,Zgg,ZiY,hk]
  rfl
end
section
variable {key p k:Tx} {v:Int} {σ:Za} {t u sq:Nat} (htu:t≠u) (ht:σ[t]?=some (.var [.str key]))
include htu ht
theorem ZAD (hs:σ[u]?=some (.var [.lst true []])) (hff:Zai σ sq 4=true) (hne:u≠sq):Zr E BY σ sq 44 4 false [.str p,.str key,.int .i64 v,.ref t 0,.ref u 0]=some (.tup [],((σ.set t (.var [.str key])).set u (.var [.sl sq 0 0 1])).set sq (.row 0 3 [Zc ⟨p,key,v⟩]),{ any:=true,upd:=[(t,[.str key]),(u,[.sl sq 0 0 1])] }):=by
 have htl:t < σ.length:=(Xd.1 ht).1
 have hul:u < σ.length:=(Xd.1 hs).1
 have hst:σ[sq]?=some .free:=by
  have:=Zes (i:=0) hff (by omega)
  simpa using this
 have nt:sq≠t:=by rintro rfl;rw [ht] at hst;cases hst
 have h1:σ.getD t .free=.var [.str key]:=by simp [Xf,ht]
 have h2:σ.getD u .free=.var [.lst true []]:=by simp [Xf,hs]
 have c1:([t]:List Nat).contains u=false:=by simp;exact fun e=>htu e.symm
 have hre:Zi σ 1000 [t,u] []=[t,u]:=by
  simp only [Zi,XU,Xg,if_false,h1,h2,c1,Zp,Zx,ZS,Xp,XA,XaP]
 have hρ:Ze σ 0 [t,u] t 0=some (0,0):=by simp [Ze,Zv,ht,Zb,Zu]
 have hρ2:Ze σ 0 [t,u] u 0=some (1,0):=by simp [Ze,Zv,hs,Zb,Zu,htu]
 have hvs:Zo (Ze σ 0 [t,u]) [.str p,.str key,.int .i64 v,.ref t 0,.ref u 0]=[.str p,.str key,.int .i64 v,.ref 0 0,.ref 1 0]:=by
  simp only [Zo,Zf,hρ,hρ2]
 have hh:Zg σ 0 [t,u] (Ze σ 0 [t,u]) [t,u] 0=[.var [.str key],.var [.lst true []]]:=by simp only [Zg,h1,h2,Zm,Zo,Zf]
 have hall:([t,u].all fun t=>okB (σ.getD t .free))=true:=by simp only [X8,WC,h1,h2,okB,Wm]
 have hk:Z5 σ [t,u] [.var [.str key],.var [.sl 2 0 0 1],.row 0 3 [Zc ⟨p,key,v⟩]] 0=true:=by simp [Z5,okB,Za1,Zb,hs,ht]
 have hlay:ZW σ [t,u] sq [.var [.str key],.var [.sl 2 0 0 1],.row 0 3 [Zc ⟨p,key,v⟩]] 0 σ=((σ.set t (.var [.str key])).set u (.var [.sl sq 0 0 1])).set sq (.row 0 3 [Zc ⟨p,key,v⟩]):=by
  simp [ZW,ZT,ZaP,Zaf,Zb,Zm,Zo,Zf]
 refine Zb7 (r:=.tup []) (view:=false) (by kernel_rfl) rfl hre rfl hall hvs hh (ZvT key p v) rfl (by simp) (by simp) hk hff rfl hlay ?_
 have h3:(((σ.set t (.var [.str key])).set u (.var [.sl sq 0 0 1])).set sq (.row 0 3 [Zc ⟨p,key,v⟩]))[u]?=some (.var [.sl sq 0 0 1]):=by
  rw [Xs (fun e=>hne e.symm),XF (by simpa using hul)]
 have h4:(((σ.set t (.var [.str key])).set u (.var [.sl sq 0 0 1])).set sq (.row 0 3 [Zc ⟨p,key,v⟩]))[t]?=some (.var [.str key]):=by
  rw [Xs nt,Xs (fun e=>htu e.symm),XF htl]
 simp [ZaK,h3,h4]
theorem Zuz {r g n:Nat} {q:Bag} (hs:σ[u]?=some (.var [.sl r g 0 n])) (hq:σ[r]?=some (.bag g 3 q)) (hg:g < 1000) (k:Tx) :
  Zi σ 1000 [t,u] []=[t,u,r]/\Zo (Ze σ 0 [t,u,r]) [.str p,.str k,.int .i64 v,.ref t 0,.ref u 0]=[.str p,.str k,.int .i64 v,.ref 0 0,.ref 1 0]/\Zg σ 0 [t,u,r] (Ze σ 0 [t,u,r]) [t,u,r] 0=[.var [.str key],.var [.sl 2 0 0 n],.bag 0 3 q]/\([t,u,r].all fun t=>okB (σ.getD t .free))=true:=by
 have nur:u≠r:=by rintro rfl;rw [hs] at hq;cases hq
 have ntr:t≠r:=by rintro rfl;rw [ht] at hq;cases hq
 have h1:σ.getD t .free=.var [.str key]:=by simp [Xf,ht]
 have h2:σ.getD u .free=.var [.sl r g 0 n]:=by simp [Xf,hs]
 have h3:σ.getD r .free=.bag g 3 q:=by simp [Xf,hq]
 have hg':¬1000<=g:=by omega
 have c1:([t]:List Nat).contains u=false:=by simp;exact fun e=>htu e.symm
 have c2:([t,u]:List Nat).contains r=false:=by simp;exact ⟨fun e=>ntr e.symm,fun e=>nur e.symm⟩
 have hρ:Ze σ 0 [t,u,r] t 0=some (0,0):=by simp [Ze,Zv,ht,Zb,Zu]
 have hρ2:Ze σ 0 [t,u,r] u 0=some (1,0):=by simp [Ze,Zv,hs,Zb,Zu,htu]
 have hρ3:Ze σ 0 [t,u,r] r g=some (2,0):=by simp [Ze,Zv,hq,Zb,Zu,ntr,nur,hg']
 refine ⟨?_,?_,?_,?_⟩
 ·simp only [Zi,XU,Xg,if_false,h1,h2,h3,c1,c2,Zp,Zx,ZS,Xp,XA,XH]
 ·simp only [Zo,Zf,hρ,hρ2]
 ·simp [Zg,hs,hq,ht,Zm,Zo,Zf,hρ3,Zu,Zb,hg',Xf]
 ·simp only [X8,WC,h1,h2,h3,okB,Wm]
theorem ZAS {r g n:Nat} {q:Bag} (hs:σ[u]?=some (.var [.sl r g 0 n])) (hq:σ[r]?=some (.bag g 3 q)) (hn:n=Zy q) (hb:n<=1000000) (hg:g < 1000) (hff:Zai σ sq 4=true) :
  Zr E BY σ sq 44 4 false [.str p,.str key,.int .i64 v,.ref t 0,.ref u 0]=some (.tup [],((σ.set t (.var [.str key])).set u (.var [.sl r (g+1) 0 (n+1)])).set r (.bag (g+1) 3 (ZaA q [Zc ⟨p,key,v⟩])),{ any:=true,upd:=[(t,[.str key]),(u,[.sl r (g+1) 0 (n+1)])] }):=by
 obtain ⟨hre,hvs,hh,hall⟩:=Zuz (p:=p) (v:=v) htu ht hs hq hg key
 have htl:t < σ.length:=(Xd.1 ht).1
 have hul:u < σ.length:=(Xd.1 hs).1
 have nur:u≠r:=by rintro rfl;rw [hs] at hq;cases hq
 have ntr:t≠r:=by rintro rfl;rw [ht] at hq;cases hq
 have hg':¬1000<=g:=by omega
 have hk:Z5 σ [t,u,r] [.var [.str key],.var [.sl 2 1 0 (n+1)],.bag 1 3 (ZaA q [Zc ⟨p,key,v⟩])] 0=true:=by simp [Z5,okB,Za1,Zb,hs,hq,ht,hg']
 have hlay:ZW σ [t,u,r] sq [.var [.str key],.var [.sl 2 1 0 (n+1)],.bag 1 3 (ZaA q [Zc ⟨p,key,v⟩])] 0 σ=((σ.set t (.var [.str key])).set u (.var [.sl r (g+1) 0 (n+1)])).set r (.bag (g+1) 3 (ZaA q [Zc ⟨p,key,v⟩])):=by
  simp [ZW,ZT,ZaP,Zaf,Zb,Zm,Zo,Zf,hq,hg',Xf]
 refine Zb7 (r:=.tup []) (view:=false) (by kernel_rfl) rfl hre rfl hall hvs hh (ZLb key p v q n hn hb) rfl (by simp) (by simp) hk hff rfl hlay ?_
 have h3:(((σ.set t (.var [.str key])).set u (.var [.sl r (g+1) 0 (n+1)])).set r (.bag (g+1) 3 (ZaA q [Zc ⟨p,key,v⟩])))[u]?=some (.var [.sl r (g+1) 0 (n+1)]):=by
  rw [Xs (fun e=>nur e.symm),XF (by simpa using hul)]
 have h4:(((σ.set t (.var [.str key])).set u (.var [.sl r (g+1) 0 (n+1)])).set r (.bag (g+1) 3 (ZaA q [Zc ⟨p,key,v⟩])))[t]?=some (.var [.str key]):=by
  rw [Xs (fun e=>ntr e.symm),Xs (fun e=>htu e.symm),XF htl]
 have h5:(((σ.set t (.var [.str key])).set u (.var [.sl r (g+1) 0 (n+1)])).set r (.bag (g+1) 3 (ZaA q [Zc ⟨p,key,v⟩])))[r]?=some (.bag (g+1) 3 (ZaA q [Zc ⟨p,key,v⟩])):=by
  rw [XF (by simpa using (Xd.1 hq).1)]
 simp [ZaK,h3,h4,h5]
theorem ZLE (hs:σ[u]?=some (.var [.lst true []])) (hk0:(k == key)=false) (hff:Zai σ sq 4=true):Zr E BY σ sq 44 4 false [.str p,.str k,.int .i64 v,.ref t 0,.ref u 0]=some (.tup [],σ,{ any:=true,upd:=[(t,[.str key]),(u,[.lst true []])] }):=by
 have h1:σ.getD t .free=.var [.str key]:=by simp [Xf,ht]
 have h2:σ.getD u .free=.var [.lst true []]:=by simp [Xf,hs]
 have c1:([t]:List Nat).contains u=false:=by simp;exact fun e=>htu e.symm
 have hre:Zi σ 1000 [t,u] []=[t,u]:=by
  simp only [Zi,XU,Xg,if_false,h1,h2,c1,Zp,Zx,ZS,Xp,XA,XaP]
 have hρ:Ze σ 0 [t,u] t 0=some (0,0):=by simp [Ze,Zv,ht,Zb,Zu]
 have hρ2:Ze σ 0 [t,u] u 0=some (1,0):=by simp [Ze,Zv,hs,Zb,Zu,htu]
 have hvs:Zo (Ze σ 0 [t,u]) [.str p,.str k,.int .i64 v,.ref t 0,.ref u 0]=[.str p,.str k,.int .i64 v,.ref 0 0,.ref 1 0]:=by
  simp only [Zo,Zf,hρ,hρ2]
 have hh:Zg σ 0 [t,u] (Ze σ 0 [t,u]) [t,u] 0=[.var [.str key],.var [.lst true []]]:=by simp only [Zg,h1,h2,Zm,Zo,Zf]
 have hall:([t,u].all fun t=>okB (σ.getD t .free))=true:=by simp only [X8,WC,h1,h2,okB,Wm]
 have hk:Z5 σ [t,u] [.var [.str key],.var [.lst true []]] 0=true:=by simp [Z5,okB,Za1,Zb,hs,ht]
 have hlay:ZW σ [t,u] sq [.var [.str key],.var [.lst true []]] 0 σ=σ:=by
  simp only [ZW,ZT,XD,XL,Zm,Zo,Zf]
  rw [Zdu ht,Zdu hs]
 exact Zb7 (r:=.tup []) (view:=false) (by kernel_rfl) rfl hre rfl hall hvs hh (Zst key p k v hk0 _ [] (Xm ⟨rfl,rfl⟩)) rfl (by simp) (by simp) hk hff rfl hlay (by simp [ZaK,hs,ht])
theorem ZAd {r g n:Nat} {q:Bag} (hs:σ[u]?=some (.var [.sl r g 0 n])) (hq:σ[r]?=some (.bag g 3 q)) (hk0:(k == key)=false) (hg:g < 1000) (hff:Zai σ sq 4=true):Zr E BY σ sq 44 4 false [.str p,.str k,.int .i64 v,.ref t 0,.ref u 0]=some (.tup [],σ,{ any:=true,upd:=[(t,[.str key]),(u,[.sl r g 0 n])] }):=by
 obtain ⟨hre,hvs,hh,hall⟩:=Zuz (p:=p) (v:=v) htu ht hs hq hg k
 have hg':¬1000<=g:=by omega
 have hk:Z5 σ [t,u,r] [.var [.str key],.var [.sl 2 0 0 n],.bag 0 3 q] 0=true:=by simp [Z5,okB,Za1,Zb,hs,hq,ht,hg']
 have hlay:ZW σ [t,u,r] sq [.var [.str key],.var [.sl 2 0 0 n],.bag 0 3 q] 0 σ=σ:=by
  have e1:Zaf σ [t,u,r] sq 2 0=some (r,g):=by simp [Zaf,Zb,hq,hg']
  have e2:ZaP σ [t,u,r] 2 (.bag 0 3 q)=g:=by simp [ZaP,hq,Zb,hg']
  simp only [ZW,ZT,XD,XL,Zm,Zo,Zf,e1,e2,XC,Xj]
  rw [Zdu ht,Zdu hs,Zdu hq]
 exact Zb7 (r:=.tup []) (view:=false) (by kernel_rfl) rfl hre rfl hall hvs hh (Zst key p k v hk0 _ _ (Xr ⟨n,q,rfl,rfl⟩)) rfl (by simp) (by simp) hk hff rfl hlay (by simp [ZaK,hs,ht,hq])
end
end
section
def Zdq (A:ZF) (B:Zk):Prop:=B=.arena A\/B=.rarena A
def hU (B:Zk) (key:Tx) (s:Option Bag) (g:Nat):Za:=match s with
 | none=>[B,.var [.str key],.var [.lst true []]]
 | some q=>[B,.var [.str key],.var [.sl 3 g 0 (Zy q)],.bag g 3 q]
abbrev uFn:AVal:=.fn 44 [.ref 1 0,.ref 2 0]
def uT1 (j:Nat) (p:Tx):Tms:=[(13,.mapg 0 j false),(2,uFn),(1,.str p),(0,.nref 0 j 0)]
def Zdm:List AOp:=[oI 18 (.ext (.t 17) 0),oI 19 (.ext (.t 17) 1),oM 6 18,oM 7 19]
noncomputable abbrev Zjk:Nat->Tms->Za->Option (ZA×Tms×Za):=fun m'=>evC FC PR BY m' Zmm
noncomputable abbrev ZcT (B:Zk):=ZaE BY 13 17 1 true Zdm Zjk 0 B
section
variable {A:ZF} {B:Zk} (hB:Zdq A B) (j:Nat) (key p k:Tx) (v:Int)
include hB
theorem ZBN:(ZcT B (.str key,.int .i64 v) (uT1 j p) (hU B key none 0)).map (fun q=>(keepL [13,2,1,0] q.1,q.2)) =
  some (uT1 j p,[B,.var [.str key],.var [.sl 3 0 0 1],.bag 0 3 (WZ _ [Zc ⟨p,key,v⟩]),.free,.free,.free]):=by
 have hc:=fun {σ:Za} {sq:Nat} h1 h2 h3 h4=>ZAD (p:=p) (v:=v) (σ:=σ) (t:=1) (u:=2) (sq:=sq) (key:=key) (by decide) h1 h2 h3 h4
 generalize Zc ⟨p,key,v⟩=x at *
 rcases hB with rfl | rfl
 ·unfold ZcT ZaE uT1 hU Zdm
  simp -implicitDefEqProofs only [EQA,Xj,Xe,Xc,Xk,reduceCtorEq,↓reduceIte,ZeU,Zeb,hc,ZaU,roB,Zbv,Zbj,ZbM,Zby,Zbl,Zbc,Zai,WA,Xz]
 ·unfold ZcT ZaE uT1 hU Zdm
  simp -implicitDefEqProofs only [EQA,Xj,Xe,Xc,Xk,reduceCtorEq,↓reduceIte,ZeU,Zeb,hc,ZaU,roB,Zbv,Zbj,ZbM,Zby,Zbl,Zbc,Zai,WA,Xz]
theorem ZIW (q:Bag) (g:Nat) (hg:g < 1000) (hq0:Zy q<=1000000):(ZcT B (.str key,.int .i64 v) (uT1 j p) (hU B key (some q) g)).map (fun q=>(keepL [13,2,1,0] q.1,q.2)) =
  some (uT1 j p,[B,.var [.str key],.var [.sl 3 (g+1) 0 (Zy q+1)],.bag (g+1) 3 (ZaA q [Zc ⟨p,key,v⟩]),.free,.free,.free,.free]):=by
 have hc:=fun {σ:Za} {sq:Nat} h1 h2 h3 h4=>ZAS (p:=p) (v:=v) (σ:=σ) (t:=1) (u:=2) (sq:=sq) (key:=key) (r:=3) (g:=g) (n:=Zy q) (q:=q) (by decide) h1 h2 h3 rfl hq0 hg h4
 simp only [hU]
 generalize ZaA q [Zc ⟨p,key,v⟩]=q2 at *
 generalize Zy q=n at *
 rcases hB with rfl | rfl
 ·unfold ZcT ZaE uT1 Zdm
  simp -implicitDefEqProofs only [EQA,Xj,Xe,Xc,Xk,reduceCtorEq,↓reduceIte,ZeU,Zeb,hc,ZaU,roB,Zbv,Zbj,ZbM,Zby,Zbl,Zbc,Zai,WA,Xz]
 ·unfold ZcT ZaE uT1 Zdm
  simp -implicitDefEqProofs only [EQA,Xj,Xe,Xc,Xk,reduceCtorEq,↓reduceIte,ZeU,Zeb,hc,ZaU,roB,Zbv,Zbj,ZbM,Zby,Zbl,Zbc,Zai,WA,Xz]
theorem ZFc (hk:(k == key)=false):(ZcT B (.str k,.int .i64 v) (uT1 j p) (hU B key none 0)).map (fun q=>(keepL [13,2,1,0] q.1,q.2)) =
  some (uT1 j p,[B,.var [.str key],.var [.lst true []],.free,.free,.free,.free]):=by
 have hc:=fun {σ:Za} {sq:Nat} h1 h2 h3=>ZLE (p:=p) (v:=v) (σ:=σ) (t:=1) (u:=2) (sq:=sq) (key:=key) (by decide) h1 h2 hk h3
 rcases hB with rfl | rfl
 ·unfold ZcT ZaE uT1 hU Zdm
  simp -implicitDefEqProofs only [EQA,Xj,Xe,Xc,Xk,reduceCtorEq,↓reduceIte,ZeU,Zeb,hc,ZaU,roB,Zbv,Zbj,ZbM,Zby,Zbl,Zbc,Zai,WA,Xz]
 ·unfold ZcT ZaE uT1 hU Zdm
  simp -implicitDefEqProofs only [EQA,Xj,Xe,Xc,Xk,reduceCtorEq,↓reduceIte,ZeU,Zeb,hc,ZaU,roB,Zbv,Zbj,ZbM,Zby,Zbl,Zbc,Zai,WA,Xz]
theorem ZHB (hk:(k == key)=false) (q:Bag) (g:Nat) (hg:g < 1000):(ZcT B (.str k,.int .i64 v) (uT1 j p) (hU B key (some q) g)).map (fun q=>(keepL [13,2,1,0] q.1,q.2)) =
  some (uT1 j p,[B,.var [.str key],.var [.sl 3 g 0 (Zy q)],.bag g 3 q,.free,.free,.free,.free]):=by
 have hc:=fun {σ:Za} {sq:Nat} h1 h2 h3 h4=>ZAd (p:=p) (v:=v) (σ:=σ) (t:=1) (u:=2) (sq:=sq) (key:=key) (r:=3) (g:=g) (n:=Zy q) (q:=q) (by decide) h1 h2 h3 hk hg h4
 simp only [hU]
 generalize Zy q=n at *
 rcases hB with rfl | rfl
 ·unfold ZcT ZaE uT1 Zdm
  simp -implicitDefEqProofs only [EQA,Xj,Xe,Xc,Xk,reduceCtorEq,↓reduceIte,ZeU,Zeb,hc,ZaU,roB,Zbv,Zbj,ZbM,Zby,Zbl,Zbc,Zai,WA,Xz]
 ·unfold ZcT ZaE uT1 Zdm
  simp -implicitDefEqProofs only [EQA,Xj,Xe,Xc,Xk,reduceCtorEq,↓reduceIte,ZeU,Zeb,hc,ZaU,roB,Zbv,Zbj,ZbM,Zby,Zbl,Zbc,Zai,WA,Xz]
end
theorem Zhf {σ:Za} {m t:Nat} {A:ZF} {B:Zk} (hB:Zdq A B) {ids:List Nat} (hs:σ[t]?=some B) {i:Nat} (hi:Zv t ids 0=some i) {g:Nat} (hg:1000<=g):Ze σ m ids t g=some (i,g):=by
 rcases hB with rfl | rfl
 ·exact ZdQ (j:=0) hs hi hg
 ·have hb:1000<=Zb (.rarena A):=by simp [Zb]
  unfold Ze
  simp only [hi,hs]
  rw [if_pos hb,if_pos hg]
theorem Zln {A:ZF} {B:Zk} (hB:Zdq A B):Zp B=[]:=by rcases hB with rfl | rfl <;> rfl
theorem Zq2 {A:ZF} {B:Zk} (hB:Zdq A B) (ρ:Rho) (g:Nat):Zm ρ g B=B:=by rcases hB with rfl | rfl <;> rfl
theorem Zqp:∀ tm:Tms,(tm.map (·.1)).zip (tm.map (·.2))=tm
 | []=>rfl
 | p::tm=>by simp only [Xx,X5,Zqp tm]
def UR (vs:List AVal):Prop:=(Zx vs=[0,1,2,0]\/Zx vs=[0,1,2]\/Zx vs=[])/\∀ ρ:Rho,(∀ g,1000<=g->ρ 0 g=some (0,g))->ρ 1 0=some (1,0)->ρ 2 0=some (2,0)->Zo ρ vs=vs
theorem ZeN (j:Nat) (p:Tx):UR ((uT1 j p).map (·.2)):=by
 refine ⟨Xm rfl,fun ρ h0 h1 h2=>?_⟩
 have e1:∀ o x,ρ 0 (ZC o x)=some (0,ZC o x):=fun o x=>h0 _ (by unfold ZC;omega)
 simp only [uT1,Xx,XW,Zo,Zf,h1,h2,h0 (1001+3*j) (by omega),e1,if_true]
theorem Zml:UR [.tup []]:=⟨Xr (Xr rfl),fun _ _ _ _=>rfl⟩
section
variable {A:ZF} {B:Zk} (hB:Zdq A B) (key:Tx) {vs:List AVal} (hv:UR vs) (F:Za)
include hB hv
theorem Ziq:gcA 3 vs (B::.var [.str key]::.var [.lst true []]::F)=(vs,hU B key none 0):=by
 obtain ⟨hr,hn⟩:=hv
 have hR:Wn 3=[0,1,2]:=rfl
 have g0:(B::.var [.str key]::.var [.lst true []]::F).getD 0 .free=B:=rfl
 have g1:(B::.var [.str key]::.var [.lst true []]::F).getD 1 .free=.var [.str key]:=rfl
 have g2:(B::.var [.str key]::.var [.lst true []]::F).getD 2 .free=.var [.lst true []]:=rfl
 have b1:Zp (.var [.str key])=[]:=rfl
 have b2:Zp (.var [.lst true []])=[]:=rfl
 have hi:Zn 3 vs (B::.var [.str key]::.var [.lst true []]::F)=[0,1,2]:=by
  unfold Zn
  refine Zpg _ _ _ fun t ht=>?_
  rw [hR] at ht ⊢
  simp only [XI,X7,g0,g1,g2,Zln hB,b1,b2,XA] at ht
  rcases hr with hr | hr | hr <;> rw [hr] at ht <;> simp at ht ⊢ <;> omega
 have h0:∀ g,1000<=g->Ze (B::.var [.str key]::.var [.lst true []]::F) 3 [0,1,2] 0 g=some (0,g):=fun g hg=>Zhf hB rfl rfl hg
 unfold gcA
 rw [hi,hn _ h0 rfl rfl]
 simp only [Zg,g0,g1,g2,Zq2 hB]
 rfl
theorem ZHO {m g n:Nat} {q:Bag} (hm:m=3\/m=4):Zn m vs (B::.var [.str key]::.var [.sl 3 g 0 n]::.bag g 3 q::F)=[0,1,2,3]:=by
 obtain ⟨hr,_⟩:=hv
 have g0:(B::.var [.str key]::.var [.sl 3 g 0 n]::.bag g 3 q::F).getD 0 .free=B:=rfl
 have g1:(B::.var [.str key]::.var [.sl 3 g 0 n]::.bag g 3 q::F).getD 1 .free=.var [.str key]:=rfl
 have g2:(B::.var [.str key]::.var [.sl 3 g 0 n]::.bag g 3 q::F).getD 2 .free=.var [.sl 3 g 0 n]:=rfl
 have g3:(B::.var [.str key]::.var [.sl 3 g 0 n]::.bag g 3 q::F).getD 3 .free=.bag g 3 q:=rfl
 have b1:Zp (.var [.str key])=[]:=rfl
 have b2:Zp (.var [.sl 3 g 0 n])=[3]:=rfl
 have b3:Zp (.bag g 3 q)=[]:=rfl
 unfold Zn
 rcases hm with rfl | rfl
 ·have hR:Wn 3=[0,1,2]:=rfl
  rw [hR]
  simp only [XI,X7,g0,g1,g2,Zln hB,b1,b2,XA,Xp]
  have k0:([0,1,2]:List Nat).contains 0=true:=rfl
  have k1:([0,1,2]:List Nat).contains 1=true:=rfl
  have k2:([0,1,2]:List Nat).contains 2=true:=rfl
  have k3:([0,1,2]:List Nat).contains 3=false:=rfl
  rcases hr with hr | hr | hr <;> rw [hr] <;> simp only [XH,Xp,Zi,k0,k1,k2,k3,if_true,Xg,if_false,g3,b3]
 ·have hR:Wn 4=[0,1,2,3]:=rfl
  refine (Zpg _ _ _ fun t ht=>?_).trans hR
  rw [hR] at ht ⊢
  simp only [XI,X7,g0,g1,g2,g3,Zln hB,b1,b2,b3,XA,Xp] at ht
  rcases hr with hr | hr | hr <;> rw [hr] at ht <;> simp at ht ⊢ <;> omega
theorem Zc4 {m g:Nat} {q:Bag} (hm:m=3\/m=4) (hg:g < 1000):gcA m vs (B::.var [.str key]::.var [.sl 3 g 0 (Zy q)]::.bag g 3 q::F)=(vs,hU B key (some q) (if m=4/\g≠0 then 1 else 0)):=by
 have hi:=ZHO hB key hv F (g:=g) (n:=Zy q) (q:=q) hm
 obtain ⟨_,hn⟩:=hv
 have ng:¬1000<=g:=by omega
 have g0:(B::.var [.str key]::.var [.sl 3 g 0 (Zy q)]::.bag g 3 q::F).getD 0 .free=B:=rfl
 have g1:(B::.var [.str key]::.var [.sl 3 g 0 (Zy q)]::.bag g 3 q::F).getD 1 .free=.var [.str key]:=rfl
 have g2:(B::.var [.str key]::.var [.sl 3 g 0 (Zy q)]::.bag g 3 q::F).getD 2 .free=.var [.sl 3 g 0 (Zy q)]:=rfl
 have g3:(B::.var [.str key]::.var [.sl 3 g 0 (Zy q)]::.bag g 3 q::F).getD 3 .free=.bag g 3 q:=rfl
 have h0:∀ x,1000<=x->Ze (B::.var [.str key]::.var [.sl 3 g 0 (Zy q)]::.bag g 3 q::F) m [0,1,2,3] 0 x=some (0,x):=fun x hx=>Zhf hB rfl rfl hx
 have h1:Ze (B::.var [.str key]::.var [.sl 3 g 0 (Zy q)]::.bag g 3 q::F) m [0,1,2,3] 1 0=some (1,0):=by simp [Ze,Zv,Zb,Zu]
 have h2:Ze (B::.var [.str key]::.var [.sl 3 g 0 (Zy q)]::.bag g 3 q::F) m [0,1,2,3] 2 0=some (2,0):=by simp [Ze,Zv,Zb,Zu]
 have e:Zu m 3 (.bag g 3 q)=if m=4/\g≠0 then 1 else 0:=by
  rcases hm with rfl | rfl <;> simp [Zu,Zb,ng]
 have h3:Ze (B::.var [.str key]::.var [.sl 3 g 0 (Zy q)]::.bag g 3 q::F) m [0,1,2,3] 3 g=some (3,if m=4/\g≠0 then 1 else 0):=by
  rw [<-e]
  simp [Ze,Zv,Zb,ng]
 unfold gcA
 rw [hi,hn _ h0 h1 h2]
 simp only [Zg,g0,g1,g2,g3,Zq2 hB]
 simp only [Zm,Zo,Zf,h3,hU]
 rw [e]
end
theorem Zcw {m:Nat} {tm:Tms} {σ σ':Za} (h:gcA m (tm.map (·.2)) σ=(tm.map (·.2),σ')):gcT m tm σ=(tm,σ'):=by
 unfold gcT
 rw [h,Zqp]
def ZaQ (p key:Tx) (M:List (Tx×Int)):List AVal:=Za7 p (M.filter fun q=>q.1 == key)
theorem Zmr {α:Type} (m g:Nat) (M N:List α):ZZ m (ZZ m g M) N=ZZ m g (M++N):=by
 cases N with
 | nil=>rw [XA];rfl
 | cons x N=>cases M <;> rfl
section
variable {A:ZF} {B:Zk} (hB:Zdq A B) (j:Nat) (key p:Tx)
include hB
theorem ZIF {m:Nat} {s:Option Bag} {g:Nat} (ho:okS m s g) (hsz:Za3 s<=1000000) (k:Tx) (v:Int) :
  ∃ tm' σ',ZcT B (.str k,.int .i64 v) (uT1 j p) (hU B key s g)=some (tm',σ')/\gcT (m+1) (keepL [13,2,1,0] tm') σ'=(uT1 j p,hU B key (ZB s (ZaQ p key [(k,v)])) (ZZ m g (ZaQ p key [(k,v)]))):=by
 cases hk:(k == key) with
 | false =>
  have e:ZaQ p key [(k,v)]=[]:=by simp [ZaQ,Za7,hk]
  rw [e]
  cases s with
  | none =>
   rcases ho with ⟨rfl,rfl⟩ | ⟨_,h,_⟩
   ·obtain ⟨⟨tm',σ'⟩,h1,h2⟩:=Xh.1 (ZFc hB j key p k v hk)
    simp only [Xb] at h2
    refine ⟨tm',σ',h1,?_⟩
    rw [h2.1,h2.2]
    exact Zcw (Ziq hB key (ZeN j p) _)
   ·exact absurd rfl h
  | some q =>
   have hg:=ZgB ho
   obtain ⟨⟨tm',σ'⟩,h1,h2⟩:=Xh.1 (ZHB hB j key p k v hk q g (by omega))
   simp only [Xb] at h2
   refine ⟨tm',σ',h1,?_⟩
   rw [h2.1,h2.2]
   rcases ho with ⟨rfl,rfl⟩ | ⟨rfl,_,hg1⟩
   ·exact Zcw (Zc4 hB key (ZeN j p) _ (Xm rfl) (by omega))
   ·have:=Zc4 hB key (ZeN j p) [.free,.free,.free,.free] (q:=q) (g:=g) (Xr rfl) (by omega)
    have e2:(if (4:Nat)=4/\g≠0 then 1 else 0)=g:=by
     have : g=0\/g=1:=by omega
     rcases this with rfl | rfl <;> rfl
    rw [e2] at this
    exact Zcw this
 | true =>
  have ek:k=key:=by simpa using hk
  subst ek
  have e:ZaQ p k [(k,v)]=[Zc ⟨p,k,v⟩]:=by simp [ZaQ,Za7]
  rw [e]
  cases s with
  | none =>
   rcases ho with ⟨rfl,rfl⟩ | ⟨_,h,_⟩
   ·obtain ⟨⟨tm',σ'⟩,h1,h2⟩:=Xh.1 (ZBN hB j k p v)
    simp only [Xb] at h2
    refine ⟨tm',σ',h1,?_⟩
    rw [h2.1,h2.2]
    exact Zcw (Zc4 hB k (ZeN j p) [.free,.free,.free] (q:=WZ _ [Zc ⟨p,k,v⟩]) (g:=0) (Xm rfl) (by omega))
   ·exact absurd rfl h
  | some q =>
   have hg:=ZgB ho
   obtain ⟨⟨tm',σ'⟩,h1,h2⟩:=Xh.1 (ZIW hB j k p v q g (by omega) hsz)
   simp only [Xb] at h2
   refine ⟨tm',σ',h1,?_⟩
   have hn:Zy q+1=Zy (ZaA q [Zc ⟨p,k,v⟩]):=by rw [ZjM];rfl
   rw [h2.1,h2.2,hn]
   rcases ho with ⟨rfl,_⟩ | ⟨rfl,_,_⟩
   ·exact Zcw (Zc4 hB k (ZeN j p) _ (Xm rfl) (by omega))
   ·have:=Zc4 hB k (ZeN j p) [.free,.free,.free,.free] (q:=ZaA q [Zc ⟨p,k,v⟩]) (g:=g+1) (Xr rfl) (by omega)
    rw [if_pos ⟨rfl,by omega⟩] at this
    exact Zcw this
end
theorem ZH7 (p key:Tx) (q:Tx×Int) (r:List (Tx×Int)):ZaQ p key (q::r)=ZaQ p key [q]++ZaQ p key r:=by
 unfold ZaQ Za7
 rw [<-X0,<-List.filter_append];rfl
theorem ZpM {ns:List TN} {B:Zk} (hB:Zdq (eNs ns) B) {j:Nat} {d:TN} (hd:ns[j]?=some d) (key:Tx) (s:Option Bag) (g:Nat) (b:Bool):ZdG (hU B key s g) (.mapg 0 j b)=some (0,B,Zbm 0 (eN d) b):=by
 have h0:(hU B key s g)[0]?=some B:=by cases s <;> rfl
 rcases hB with rfl | rfl
 ·simp only [ZdG,h0,ZaV hd]
 ·simp only [ZdG,h0,ZaV hd]
section
variable {ns:List TN} {B:Zk} (hB:Zdq (eNs ns) B) (j:Nat) (d:TN) (hd:ns[j]?=some d) (key p:Tx)
include hB hd
theorem uh1 {m g:Nat} {s:Option Bag} {tm:Tms} {σ:Za} (h:gcT (m+1) (keepL [13,2,1,0] tm) σ=(uT1 j p,hU B key s g)) :
  ZcW (m+1) [13,2,1,0] 13 tm σ=some (0,B,eV d.1,uT1 j p,hU B key s g):=by
 unfold ZcW
 rw [h]
 simp only [show tget (uT1 j p) 13=.mapg 0 j false from rfl,ZpM hB hd]
 rw [show Zbm 0 (eN d) false=eV d.1 from rfl,if_pos (Znl _ d.1)]
theorem uf1 {m:Nat}:∀ (r:List (Tx×Int)) (s:Option Bag) (g:Nat) (tm:Tms) (σ:Za),okS m s g->Za3 s+(ZaQ p key r).length<=1000000->gcT (m+1) (keepL [13,2,1,0] tm) σ=(uT1 j p,hU B key s g) ->
  ∃ tm' σ',ZaT BY (m+1) [13,2,1,0] 13 17 1 true Zdm Zjk (eV d.1) (eV r) tm σ=some (tm',σ')/\gcT (m+1) (keepL [13,2,1,0] tm') σ'=(uT1 j p,hU B key (ZB s (ZaQ p key r)) (ZZ m g (ZaQ p key r)))
 | [],s,g,tm,σ,ho,hb,h=>⟨tm,σ,rfl,h⟩
 | (k,v)::r,s,g,tm,σ,ho,hb,h=>by
  have ec:=ZH7 p key (k,v) r
  rw [ec,Xy] at hb
  obtain ⟨tm1,σ1,h1,h2⟩:=ZIF hB j key p ho (by omega) k v
  obtain ⟨tm',σ',h3,h4⟩:=uf1 r (ZB s (ZaQ p key [(k,v)])) (ZZ m g (ZaQ p key [(k,v)])) tm1 σ1 (ZiR ho _) (by rw [Zfj];omega) h2
  refine ⟨tm',σ',?_,?_⟩
  ·rw [show eV ((k,v)::r)=(.str k,.int .i64 v)::eV r from rfl]
   simp only [ZaT,uh1 hB j d hd key p h,if_true]
   unfold ZcT at h1
   rw [h1]
   exact h3
  ·rw [h4,ZgR,Zmr,<-ec]
theorem ux1 {m:Nat} {s:Option Bag} {g:Nat} {tm:Tms} {σ:Za} {fin:Nat->Tms->Za->Option (ZA×Tms×Za)} {out:ZA×Tms×Za} (ho:okS m s g) (hb:Za3 s+(ZaQ p key d.1).length<=1000000) (h:gcT (m+1) (keepL [13,2,1,0] tm) σ=(uT1 j p,hU B key s g))
  (hfin:fin (m+1) (uT1 j p) (hU B key (ZB s (ZaQ p key d.1)) (ZZ m g (ZaQ p key d.1)))=some out):Zb1 BY (m+1) [13,2,1,0] 13 17 1 true Zdm Zjk fin tm σ=some out:=by
 refine ZjN (uh1 hB j d hd key p h) fun es' hp2=>?_
 obtain ⟨l,hl,rfl⟩:=Zjb (fun p:Tx×Int=>(AVal.str p.1,AVal.int .i64 p.2)) (fun q=>(match q.1 with | .str s=>s | _=>[],match q.2 with | .int _ v=>v | _=>0)) (fun a=>rfl) hp2
 have hpm:(ZaQ p key l).Perm (ZaQ p key d.1):=(hl.filter _).map _
 obtain ⟨tm',σ',h1,h2⟩:=uf1 hB j d hd key p l s g tm σ ho (by rw [hpm.length_eq];exact hb) h
 have e1:ZB s (ZaQ p key l)=ZB s (ZaQ p key d.1):=Zi8 s hpm
 have e2:ZZ m g (ZaQ p key l)=ZZ m g (ZaQ p key d.1):=by
  cases h1:ZaQ p key l with
  | nil=>rw [h1] at hpm;rw [hpm.symm.eq_nil]
  | cons x r =>
   cases h2:ZaQ p key d.1 with
   | nil=>rw [h1,h2] at hpm;exact absurd hpm.eq_nil (by simp)
   | cons y r'=>rfl
 unfold Zbi
 rw [show l.map (fun p:Tx×Int=>(AVal.str p.1,AVal.int .i64 p.2))=eV l from rfl,h1]
 simp only [ZdE]
 rw [h2,e1,e2]
 exact hfin
end
end
section
abbrev Zba (i:Nat) (p:Tx):List AVal:=[.nref 0 i 0,.str p,uFn]
section
variable {A:ZF} {key p:Tx} {i:Nat}
theorem Zwx (hE:E 43 (Zba i p) (hU (.rarena A) key none 0)=some (.tup [],hU (.rarena A) key none 0)) :
  Zr E BY [.rarena A,.var [.str key],.var [.lst true []],.free] 3 43 1 false (Zba i p)=some (.tup [],[.rarena A,.var [.str key],.var [.lst true []],.free],{ any:=true,upd:=[(1,[.str key]),(2,[.lst true []])] }):=by
 have hρ:Ze [.rarena A,.var [.str key],.var [.lst true []],.free] 0 [0,1,2] 0 (1001+3*i)=some (0,1001+3*i):=Zhf (Xr rfl) rfl rfl (by omega)
 have hvs:Zo (Ze [.rarena A,.var [.str key],.var [.lst true []],.free] 0 [0,1,2]) (Zba i p)=Zba i p:=by
  simp only [Zba,Zo,Zf,hρ,if_true]
  rfl
 exact Zb7 (σ:=[.rarena A,.var [.str key],.var [.lst true []],.free]) (ids:=[0,1,2]) (vs:=Zba i p) (r:=.tup []) (r':=.tup []) (view:=false) (by kernel_rfl) rfl rfl rfl rfl hvs rfl hE rfl (by simp [hU]) (by simp [hU]) (by simp [hU,Z5,okB,Za1,Zb]) rfl rfl (by simp [hU,ZW,ZT,Zm,Zo,Zf]) (by simp [ZaK])
theorem ZMt {q:Bag} (hE:E 43 (Zba i p) (hU (.rarena A) key none 0)=some (.tup [],hU (.rarena A) key (some q) 0)) :
  Zr E BY [.rarena A,.var [.str key],.var [.lst true []],.free] 3 43 1 false (Zba i p)=some (.tup [],[.rarena A,.var [.str key],.var [.sl 3 0 0 (Zy q)],.bag 0 3 q],{ any:=true,upd:=[(1,[.str key]),(2,[.sl 3 0 0 (Zy q)])] }):=by
 have hρ:Ze [.rarena A,.var [.str key],.var [.lst true []],.free] 0 [0,1,2] 0 (1001+3*i)=some (0,1001+3*i):=Zhf (Xr rfl) rfl rfl (by omega)
 have hvs:Zo (Ze [.rarena A,.var [.str key],.var [.lst true []],.free] 0 [0,1,2]) (Zba i p)=Zba i p:=by
  simp only [Zba,Zo,Zf,hρ,if_true]
  rfl
 exact Zb7 (σ:=[.rarena A,.var [.str key],.var [.lst true []],.free]) (ids:=[0,1,2]) (vs:=Zba i p) (r:=.tup []) (r':=.tup []) (view:=false) (by kernel_rfl) rfl rfl rfl rfl hvs rfl hE rfl (by simp [hU]) (by simp [hU]) (by simp [hU,Z5,okB,Za1,Zb]) rfl rfl (by simp [hU,ZW,ZT,ZaP,Zaf,Zm,Zo,Zf,Zb]) (by simp [ZaK])
theorem cu1 {q q':Bag} {g g':Nat} (hg:g < 1000) (hg':g'<=1) (hE:E 43 (Zba i p) (hU (.rarena A) key (some q) 0)=some (.tup [],hU (.rarena A) key (some q') g')) :
  Zr E BY [.rarena A,.var [.str key],.var [.sl 3 g 0 (Zy q)],.bag g 3 q,.free] 4 43 1 false (Zba i p)=some (.tup [],[.rarena A,.var [.str key],.var [.sl 3 (g+g') 0 (Zy q')],.bag (g+g') 3 q',.free],{ any:=true,upd:=[(1,[.str key]),(2,[.sl 3 (g+g') 0 (Zy q')])] }):=by
 have ng:¬1000<=g:=by omega
 have hρ:Ze [.rarena A,.var [.str key],.var [.sl 3 g 0 (Zy q)],.bag g 3 q,.free] 0 [0,1,2,3] 0 (1001+3*i)=some (0,1001+3*i):=Zhf (Xr rfl) rfl rfl (by omega)
 have hρ3:Ze [.rarena A,.var [.str key],.var [.sl 3 g 0 (Zy q)],.bag g 3 q,.free] 0 [0,1,2,3] 3 g=some (3,0):=by simp [Ze,Zv,Zb,Zu,ng]
 have hvs:Zo (Ze [.rarena A,.var [.str key],.var [.sl 3 g 0 (Zy q)],.bag g 3 q,.free] 0 [0,1,2,3]) (Zba i p)=Zba i p:=by
  simp only [Zba,Zo,Zf,hρ,if_true]
  rfl
 have hh:Zg [.rarena A,.var [.str key],.var [.sl 3 g 0 (Zy q)],.bag g 3 q,.free] 0 [0,1,2,3] (Ze [.rarena A,.var [.str key],.var [.sl 3 g 0 (Zy q)],.bag g 3 q,.free] 0 [0,1,2,3]) [0,1,2,3] 0=hU (.rarena A) key (some q) 0:=by
  simp only [Zg,XD,XL,Zm,Zo,Zf,hρ3,hU]
  simp [Zu,Zb,ng]
 exact Zb7 (σ:=[.rarena A,.var [.str key],.var [.sl 3 g 0 (Zy q)],.bag g 3 q,.free]) (ids:=[0,1,2,3]) (vs:=Zba i p) (r:=.tup []) (r':=.tup []) (view:=false) (by kernel_rfl) rfl rfl rfl rfl hvs hh hE rfl (by simp [hU]) (by simp [hU]) (by simp [hU,Z5,okB,Za1,Zb,ng,hg']) rfl rfl (by simp [hU,ZW,ZT,ZaP,Zaf,Zm,Zo,Zf,Zb,ng]) (by simp [ZaK])
end
def uT2 (j:Nat) (p:Tx):Tms:=[(28,.mapg 0 j true),(2,uFn),(1,.str p)]
def ZdZ:List AOp:=[oI 33 (.ext (.t 32) 0),oI 34 (.ext (.t 32) 1),oM 8 33,oM 9 34]
noncomputable abbrev Zkw:Nat->Tms->Za->Option (ZA×Tms×Za):=fun m'=>evC FC PR BY m' ZnG
noncomputable abbrev ZdA (B:Zk):=ZaE BY 28 32 3 true ZdZ Zkw 0 B
theorem Zfu (j:Nat) (p:Tx):UR ((uT2 j p).map (·.2)):=by
 refine ⟨Xr (Xm rfl),fun ρ h0 h1 h2=>?_⟩
 have e1:∀ o x,ρ 0 (ZC o x)=some (0,ZC o x):=fun o x=>h0 _ (by unfold ZC;omega)
 simp only [uT2,Xx,XW,Zo,Zf,h1,h2,e1,if_true]
section
variable {A:ZF} {B:Zk} (hB:Zdq A B) (j:Nat) (key p l:Tx) (i:Nat) (hp:p.length+l.length<=1000000000000)
include hB hp
theorem ZBK (hE:E 43 (Zba i (ZH p l)) (hU (.rarena A) key none 0)=some (.tup [],hU (.rarena A) key none 0)) :
  (ZdA B (.str l,.nref 0 i 0) (uT2 j p) (hU B key none 0)).map (fun q=>(keepL [28,2,1] q.1,q.2))=some (uT2 j p,[B,.var [.str key],.var [.lst true []],.free]):=by
 have hq:=fun σ sq own view=>ZfY σ sq own view p l hp
 have hc:=Zwx hE
 generalize ZH p l=p2 at *
 rcases hB with rfl | rfl
 ·unfold ZdA ZaE uT2 hU ZdZ
  simp -implicitDefEqProofs only [EQA,Zad,Xj,Xe,Xc,Xk,↓reduceIte,Zgz,Ze2,hq,hc,ZaU,roB,Zbv,Zbj,ZbM,Zby,Zbl,Zbc,WA,Xz]
 ·unfold ZdA ZaE uT2 hU ZdZ
  simp -implicitDefEqProofs only [EQA,Zad,Xj,Xe,Xc,Xk,↓reduceIte,Zgz,Ze2,hq,hc,ZaU,roB,Zbv,Zbj,ZbM,Zby,Zbl,Zbc,WA,Xz]
theorem ZH4 {q:Bag} (hE:E 43 (Zba i (ZH p l)) (hU (.rarena A) key none 0)=some (.tup [],hU (.rarena A) key (some q) 0)) :
  (ZdA B (.str l,.nref 0 i 0) (uT2 j p) (hU B key none 0)).map (fun q=>(keepL [28,2,1] q.1,q.2))=some (uT2 j p,[B,.var [.str key],.var [.sl 3 0 0 (Zy q)],.bag 0 3 q]):=by
 have hq:=fun σ sq own view=>ZfY σ sq own view p l hp
 have hc:=ZMt hE
 clear hE
 generalize Zy q=n at *
 generalize ZH p l=p2 at *
 rcases hB with rfl | rfl
 ·unfold ZdA ZaE uT2 hU ZdZ
  simp -implicitDefEqProofs only [EQA,Zad,Xj,Xe,Xc,Xk,↓reduceIte,Zgz,Ze2,hq,hc,ZaU,roB,Zbv,Zbj,ZbM,Zby,Zbl,Zbc,WA,Xz]
 ·unfold ZdA ZaE uT2 hU ZdZ
  simp -implicitDefEqProofs only [EQA,Zad,Xj,Xe,Xc,Xk,↓reduceIte,Zgz,Ze2,hq,hc,ZaU,roB,Zbv,Zbj,ZbM,Zby,Zbl,Zbc,WA,Xz]
theorem ZH5 {q q':Bag} {g g':Nat} (hg:g < 1000) (hg':g'<=1) (hE:E 43 (Zba i (ZH p l)) (hU (.rarena A) key (some q) 0)=some (.tup [],hU (.rarena A) key (some q') g')) :
  (ZdA B (.str l,.nref 0 i 0) (uT2 j p) (hU B key (some q) g)).map (fun q=>(keepL [28,2,1] q.1,q.2))=some (uT2 j p,[B,.var [.str key],.var [.sl 3 (g+g') 0 (Zy q')],.bag (g+g') 3 q',.free]):=by
 have hq:=fun σ sq own view=>ZfY σ sq own view p l hp
 have hc:=cu1 hg hg' hE
 clear hE
 simp only [hU]
 generalize Zy q=n at *
 generalize Zy q'=n' at *
 generalize g+g'=g2 at *
 generalize ZH p l=p2 at *
 rcases hB with rfl | rfl
 ·unfold ZdA ZaE uT2 ZdZ
  simp -implicitDefEqProofs only [EQA,Zad,Xj,Xe,Xc,Xk,↓reduceIte,Zgz,Ze2,hq,hc,ZaU,roB,Zbv,Zbj,ZbM,Zby,Zbl,Zbc,WA,Xz]
 ·unfold ZdA ZaE uT2 ZdZ
  simp -implicitDefEqProofs only [EQA,Zad,Xj,Xe,Xc,Xk,↓reduceIte,Zgz,Ze2,hq,hc,ZaU,roB,Zbv,Zbj,ZbM,Zby,Zbl,Zbc,WA,Xz]
def Zg4 (A:ZF) (key:Tx) (i:Nat) (p:Tx) (R:List AVal) (B:Zk):Prop:=∀ (s:Option Bag),Za3 s+R.length<=1000000->E 43 (Zba i p) (hU B key s 0)=some (.tup [],hU B key (ZB s R) (ZZ (mS s) 0 R))
theorem ZFQ {m:Nat} {s:Option Bag} {g:Nat} (ho:okS m s g) {R:List AVal} (hsz:Za3 s+R.length<=1000000) (hE:Zg4 A key i (ZH p l) R (.rarena A)) :
  ∃ tm' σ',ZdA B (.str l,.nref 0 i 0) (uT2 j p) (hU B key s g)=some (tm',σ')/\gcT (m+1) (keepL [28,2,1] tm') σ'=(uT2 j p,hU B key (ZB s R) (ZZ m g R)):=by
 have h0:=hE s hsz
 cases s with
 | none =>
  rcases ho with ⟨rfl,rfl⟩ | ⟨_,h,_⟩
  ·cases R with
   | nil =>
    obtain ⟨⟨tm',σ'⟩,h1,h2⟩:=Xh.1 (ZBK hB j key p l i hp h0)
    simp only [Xb] at h2
    refine ⟨tm',σ',h1,?_⟩
    rw [h2.1,h2.2]
    exact Zcw (Ziq hB key (Zfu j p) _)
   | cons x r =>
    obtain ⟨⟨tm',σ'⟩,h1,h2⟩:=Xh.1 (ZH4 hB j key p l i hp (q:=WZ _ (x::r)) h0)
    simp only [Xb] at h2
    refine ⟨tm',σ',h1,?_⟩
    rw [h2.1,h2.2]
    exact Zcw (Zc4 hB key (Zfu j p) [] (q:=WZ _ (x::r)) (g:=0) (Xm rfl) (by omega))
  ·exact absurd rfl h
 | some q =>
  have hg:=ZgB ho
  obtain ⟨q',hq'⟩:∃ q',ZB (some q) R=some q':=by cases R <;> exact ⟨_,rfl⟩
  have hd:dR R<=1:=by cases R <;> simp [dR]
  rw [show mS (some q)=3 from rfl,ZmF,hq'] at h0
  obtain ⟨⟨tm',σ'⟩,h1,h2⟩:=Xh.1 (ZH5 hB j key p l i hp (g:=g) (by omega) hd h0)
  simp only [Xb] at h2
  refine ⟨tm',σ',h1,?_⟩
  rw [h2.1,h2.2,hq']
  rcases ho with ⟨rfl,rfl⟩ | ⟨rfl,_,hg1⟩
  ·have:=Zc4 hB key (Zfu j p) [.free] (q:=q') (g:=0+dR R) (Xm rfl) (by omega)
   have e:ZZ 2 0 R=0:=by cases R <;> rfl
   rw [e]
   exact Zcw this
  ·have:=Zc4 hB key (Zfu j p) [.free] (q:=q') (g:=g+dR R) (Xr rfl) (by omega)
   have e:ZZ 3 g R=if (4:Nat)=4/\g+dR R≠0 then 1 else 0:=by
    have hg01:g=0\/g=1:=by omega
    clear this
    cases R with
    | nil=>rcases hg01 with rfl | rfl <;> rfl
    | cons x r=>simp [ZZ,ZbB,dR]
   rw [e]
   exact Zcw this
end
def eY (r:List (Tx×Nat)):List (AVal×AVal):=r.map fun p=>(AVal.str p.1,AVal.nref 0 p.2 0)
theorem ZLP (n:Nat) (hn:0 < n) (M:List (Tx×Nat)):((eY M).all fun p=>ZeR n p.2)=true:=by
 rw [List.all_eq_true]
 unfold eY
 intro p hp
 obtain ⟨x,_,rfl⟩:=Xv.1 hp
 simp [ZeR,Zdo,hn]
section
variable {ns:List TN} {B:Zk} (hB:Zdq (eNs ns) B) (j:Nat) (d:TN) (hd:ns[j]?=some d) (key p:Tx)
include hB hd
theorem uh2 {m g:Nat} {s:Option Bag} {tm:Tms} {σ:Za} (h:gcT (m+1) (keepL [28,2,1] tm) σ=(uT2 j p,hU B key s g)) :
  ZcW (m+1) [28,2,1] 28 tm σ=some (0,B,eY d.2,uT2 j p,hU B key s g):=by
 unfold ZcW
 rw [h]
 simp only [show tget (uT2 j p) 28=.mapg 0 j true from rfl,ZpM hB hd]
 rw [ZsK]
 have hl:0 < (hU B key s g).length:=by cases s <;> simp [hU]
 exact if_pos (ZLP _ hl d.2)
section
variable (f:Tx×Nat->List AVal)
theorem uf2 {m:Nat}:∀ (r:List (Tx×Nat)) (s:Option Bag) (g:Nat) (tm:Tms) (σ:Za),(∀ q ∈ r,p.length+q.1.length<=1000000000000/\Zg4 (eNs ns) key q.2 (ZH p q.1) (f q) (.rarena (eNs ns)))->okS m s g->Za3 s+(r.flatMap f).length<=1000000->gcT (m+1) (keepL [28,2,1] tm) σ=(uT2 j p,hU B key s g) ->
  ∃ tm' σ',ZaT BY (m+1) [28,2,1] 28 32 3 true ZdZ Zkw (eY d.2) (eY r) tm σ=some (tm',σ')/\gcT (m+1) (keepL [28,2,1] tm') σ'=(uT2 j p,hU B key (ZB s (r.flatMap f)) (ZZ m g (r.flatMap f)))
 | [],s,g,tm,σ,hi,ho,hb,h=>⟨tm,σ,rfl,h⟩
 | q::r,s,g,tm,σ,hi,ho,hb,h=>by
  rw [XI,Xy] at hb
  obtain ⟨i1,i2⟩:=hi q (by simp)
  obtain ⟨tm1,σ1,h1,h2⟩:=ZFQ hB j key p q.1 q.2 i1 ho (by omega) i2
  obtain ⟨tm',σ',h3,h4⟩:=uf2 r (ZB s (f q)) (ZZ m g (f q)) tm1 σ1 (fun x hx=>hi x (by simp [hx])) (ZiR ho _) (by rw [Zfj];omega) h2
  refine ⟨tm',σ',?_,?_⟩
  ·rw [show eY (q::r)=(.str q.1,.nref 0 q.2 0)::eY r from rfl]
   simp only [ZaT,uh2 hB j d hd key p h,if_true]
   unfold ZdA at h1
   rw [h1]
   exact h3
  ·rw [h4,ZgR,Zmr,XI]
theorem ux2 {m:Nat} {s:Option Bag} {g:Nat} {tm:Tms} {σ:Za} {fin:Nat->Tms->Za->Option (ZA×Tms×Za)} {out:ZA×Tms×Za} (hi:∀ q ∈ d.2,p.length+q.1.length<=1000000000000/\Zg4 (eNs ns) key q.2 (ZH p q.1) (f q) (.rarena (eNs ns))) (ho:okS m s g) (hb:Za3 s+(d.2.flatMap f).length<=1000000) (h:gcT (m+1) (keepL [28,2,1] tm) σ=(uT2 j p,hU B key s g))
  (hfin:fin (m+1) (uT2 j p) (hU B key (ZB s (d.2.flatMap f)) (ZZ m g (d.2.flatMap f)))=some out):Zb1 BY (m+1) [28,2,1] 28 32 3 true ZdZ Zkw fin tm σ=some out:=by
 refine ZjN (uh2 hB j d hd key p h) fun es' hp2=>?_
 obtain ⟨l,hl,rfl⟩:=Zjb (fun p:Tx×Nat=>(AVal.str p.1,AVal.nref 0 p.2 0)) (fun q=>(match q.1 with | .str s=>s | _=>[],match q.2 with | .nref _ i _=>i | _=>0)) (fun a=>rfl) hp2
 have hpm:(l.flatMap f).Perm (d.2.flatMap f):=hl.flatMap_right f
 obtain ⟨tm',σ',h1,h2⟩:=uf2 hB j d hd key p f l s g tm σ (fun q hq=>hi q (hl.mem_iff.1 hq)) ho (by rw [hpm.length_eq];exact hb) h
 have e1:ZB s (l.flatMap f)=ZB s (d.2.flatMap f):=Zi8 s hpm
 have e2:ZZ m g (l.flatMap f)=ZZ m g (d.2.flatMap f):=by
  generalize l.flatMap f=X at *
  generalize d.2.flatMap f=Y at *
  cases X with
  | nil=>rw [hpm.symm.eq_nil]
  | cons x r =>
   cases Y with
   | nil=>exact absurd hpm.eq_nil (by simp)
   | cons y r'=>rfl
 unfold Zbi
 rw [show l.map (fun p:Tx×Nat=>(AVal.str p.1,AVal.nref 0 p.2 0))=eY l from rfl,h1]
 simp only [ZdE]
 rw [h2,e1,e2]
 exact hfin
end
end
def ZcU (ns:List TN) (key:Tx):Nat->Tx->Nat->List AVal
 | 0,_,_=>[]
 | n+1,p,j=>match ns[j]? with
  | some d=>ZaQ p key d.1++d.2.flatMap fun q=>ZcU ns key n (ZH p q.1) q.2
  | none=>[]
def KeyB (ns:List TN):Prop:=∀ (j:Nat) (d:TN),ns[j]?=some d->∀ q ∈ d.2,q.1.length<=64
section
variable {ns:List TN} {B:Zk} (hB:Zdq (eNs ns) B) (j:Nat) (d:TN) (hd:ns[j]?=some d) (key p:Tx)
include hB hd
theorem ue1 (f:Tx×Nat->List AVal) {m:Nat} {s:Option Bag} {g:Nat} (hi:∀ q ∈ d.2,p.length+q.1.length<=1000000000000/\Zg4 (eNs ns) key q.2 (ZH p q.1) (f q) (.rarena (eNs ns))) (ho:okS m s g) (hb:Za3 s+(d.2.flatMap f).length<=1000000) :
  evC FC PR BY (m+1) ZjZ (uT1 j p) (hU B key s g)=some (.normal,uT2 j p,hU B key (ZB s (d.2.flatMap f)) (ZZ m g (d.2.flatMap f))):=by
 have hs:ZY (hU B key s g) 0=some (eNs ns):=by rcases hB with rfl | rfl <;> cases s <;> rfl
 have q1:=ZaV hd
 have hrun:=fun tm σ h=>ux2 hB j d hd key p f (m:=m) (s:=s) (g:=g) (tm:=tm) (σ:=σ) (fin:=fun m'=>evC FC PR BY m' ZtV) (out:=(.normal,uT2 j p,hU B key (ZB s (d.2.flatMap f)) (ZZ m g (d.2.flatMap f)))) hi ho hb h (Zlr _ _)
 have hg:gcT (m+1) (uT2 j p) (hU B key s g)=(uT2 j p,hU B key s g):=by
  rcases ho with ⟨rfl,rfl⟩ | ⟨rfl,h,hg⟩
  ·cases s with
   | none=>exact Zcw (Ziq hB key (Zfu j p) [])
   | some q=>exact Zcw (Zc4 hB key (Zfu j p) [] (Xm rfl) (by omega))
  ·cases s with
   | none=>exact absurd rfl h
   | some q =>
    have:=Zc4 hB key (Zfu j p) [] (q:=q) (g:=g) (Xr rfl) (by omega)
    have e:(if (4:Nat)=4/\g≠0 then 1 else 0)=g:=by
     have : g=0\/g=1:=by omega
     rcases this with rfl | rfl <;> rfl
    rw [e] at this
    exact Zcw this
 unfold uT1
 generalize hU B key (ZB s (d.2.flatMap f)) (ZZ m g (d.2.flatMap f))=H2 at *
 generalize hU B key s g=H at *
 generalize eN d=D at *
 generalize eNs ns=A at *
 rw [ZIy]
 unfold Zlc
 simp -implicitDefEqProofs only [EQA,Zad,Xe,reduceCtorEq,↓reduceIte,ZhN,ZaU,Zfp,hs,q1]
 have h5:=hrun [(28,.mapg 0 j true),(27,.nref 0 j 1),(26,.nref 0 j 0),(25,.nref 0 j 0),(13,.mapg 0 j false),(2,uFn),(1,.str p),(0,.nref 0 j 0)] H hg
 unfold Zkw at h5
 simp only [ZdZ,oI,oM,oF,oL] at h5
 rw [h5]
end
theorem ZkX (ns:List TN) (hC:Closed ns) (hK:KeyB ns) (key:Tx):∀ (n j:Nat),j < ns.length->ns.length<=j+n->∀ (p:Tx),p.length+100*n<=1000000000->∀ (B:Zk),Zdq (eNs ns) B->Zg4 (eNs ns) key j p (ZcU ns key n p j) B
 | 0,j,hj,hn,_,_,_,_=>by omega
 | n+1,j,hj,hn,p,hp,B,hB=>by
  intro s hb
  obtain ⟨d,hd⟩:∃ d,ns[j]?=some d:=⟨_,Xl hj⟩
  have em:ZcU ns key (n+1) p j=ZaQ p key d.1++d.2.flatMap fun q=>ZcU ns key n (ZH p q.1) q.2:=by simp only [ZcU,hd]
  rw [em] at hb ⊢
  rw [Xy] at hb
  have ho:=Zn8 s
  have hs:ZY (hU B key s 0) 0=some (eNs ns):=by rcases hB with rfl | rfl <;> cases s <;> rfl
  have hlen:(hU B key s 0).length=mS s+1:=by cases s <;> rfl
  have q1:=ZaV hd
  have hi:∀ q ∈ d.2,p.length+q.1.length<=1000000000000/\Zg4 (eNs ns) key q.2 (ZH p q.1) (ZcU ns key n (ZH p q.1) q.2) (.rarena (eNs ns)):=by
   intro q hq
   have h1:=hK j d hd q hq
   have h2:=hC j d hd q hq
   have h3:=Zod p q.1
   exact ⟨by omega,ZkX ns hC hK key n q.2 h2.2 (by omega) (ZH p q.1) (by omega) _ (Xr rfl)⟩
  have hfin:=ue1 hB j d hd key p (fun q=>ZcU ns key n (ZH p q.1) q.2) hi (ZiR ho (ZaQ p key d.1)) (by rw [Zfj];omega)
  rw [ZgR,Zmr] at hfin
  have hrun:=fun tm σ h=>ux1 hB j d hd key p (m:=mS s) (s:=s) (g:=0) (tm:=tm) (σ:=σ) (fin:=fun m'=>evC FC PR BY m' ZjZ) ho (by omega) h hfin
  have hg:gcT (mS s+1) (uT1 j p) (hU B key s 0)=(uT1 j p,hU B key s 0):=by
   cases s with
   | none=>exact Zcw (Ziq hB key (ZeN j p) [])
   | some q=>exact Zcw (Zc4 hB key (ZeN j p) [] (q:=q) (g:=0) (Xr rfl) (by omega))
  have ho2:=ZiR ho (ZaQ p key d.1++d.2.flatMap fun q=>ZcU ns key n (ZH p q.1) q.2)
  generalize (ZaQ p key d.1++d.2.flatMap fun q=>ZcU ns key n (ZH p q.1) q.2)=W at *
  have hout:Zaw (mS s+1) (hU B key (ZB s W) (ZZ (mS s) 0 W)) (.tup [])=some (.tup [],hU B key (ZB s W) (ZZ (mS s) 0 W)):=by
   have hgc:gcA (mS s+1) [.tup []] (hU B key (ZB s W) (ZZ (mS s) 0 W))=([.tup []],hU B key (ZB s W) (ZZ (mS s) 0 W)):=by
    generalize ZB s W=s' at *
    generalize ZZ (mS s) 0 W=g at *
    rcases ho2 with ⟨e,rfl⟩ | ⟨e,h,hg⟩
    ·rw [e]
     cases s' with
     | none=>exact Ziq hB key Zml []
     | some q=>exact Zc4 hB key Zml [] (Xm rfl) (by omega)
    ·rw [e]
     cases s' with
     | none=>exact absurd rfl h
     | some q =>
      have:=Zc4 hB key Zml [] (q:=q) (g:=g) (Xr rfl) (by omega)
      have e:(if (4:Nat)=4/\g≠0 then 1 else 0)=g:=by
       have : g=0\/g=1:=by omega
       rcases this with rfl | rfl <;> rfl
      rw [e] at this
      exact this
   unfold Zaw
   rw [hgc]
  unfold Zba
  generalize hU B key (ZB s W) (ZZ (mS s) 0 W)=H2 at *
  generalize hU B key s 0=H at *
  generalize eN d=D at *
  generalize eNs ns=A at *
  rw [ZQ (by rfl) ZJA,Zx3,hlen]
  unfold ZnF
  simp -implicitDefEqProofs only [EQA,Zad,Xj,Xe,reduceCtorEq,↓reduceIte,ZhN,ZaU,Zfp,hs,q1]
  have h5:=hrun [(13,.mapg 0 j false),(12,.nref 0 j 0),(11,.nref 0 j 0),(10,.nref 0 j 0),(2,uFn),(1,.str p),(0,.nref 0 j 0)] H hg
  unfold Zjk at h5
  simp only [Zdm,oI,oM,oF,oL] at h5
  rw [h5]
  exact hout
end
section
def ZvY:Zd:=(.seq (.region [oI 4 (.mov (.c (.int .i64 (-1))))] none [4]) .ret)
def ZAM:Zd:=ZvY
def Zv5:Zd:=(.seq (.seq (.region [oM 57 8,oM 58 9,oI 59 (.bin .lss (.t 57) (.t 58))] none [59,10,9,8,7,6,5,1,0]) (.cond (.t 59) .skip (.exit 1))) (.block 2 (.seq (.seq (.region [oM 60 0,oM 61 8,oI 62 (.sindex (.t 60) (.t 61)),oM 63 6,oI 64 (.bin .neq (.t 62) (.t 63))] none [64,10,9,8,7,6,5,1,0]) (.cond (.t 64) (.seq (.region [oM 65 0,oM 66 8,oI 67 (.bin .add (.t 66) (.c (.int .i64 1))),oM 68 9,oI 69 (.sslice (.t 65) (some (.t 67)) (some (.t 68))),oM 70 6,oI 71 (.call 92 0 true [(.t 69),(.t 70)]),oM 11 71] none [11,10,8,7,5,1,0]) (.seq (.seq (.region [oM 72 11,oI 73 (.bin .lss (.t 72) (.c (.int .i64 0)))] none [73,11,10,8,7,5,1,0]) (.cond (.t 73) (.seq (.region [oI 4 (.mov (.c (.int .i64 (-1))))] none [4]) .ret) .skip)) (.region [oM 74 8,oM 75 11,oI 76 (.bin .add (.t 75) (.c (.int .i64 1))),oI 77 (.bin .add (.t 74) (.t 76)),oM 8 77] none [10,8,7,5,1,0]))) .skip)) (.seq (.seq (.region [oM 78 0,oM 79 8,oI 80 (.bin .add (.t 79) (.c (.int .i64 1))),oI 81 (.sindex (.t 78) (.t 80)),oM 82 7,oI 83 (.bin .eql (.t 81) (.t 82)),oM 84 83,⟨(some 85),(.mov (.t 0)),(some (84,true)),[]⟩,⟨(some 86),(.mov (.t 8)),(some (84,true)),[]⟩,⟨(some 87),(.mov (.t 8)),(some (84,true)),[]⟩,⟨(some 88),(.mov (.t 5)),(some (84,true)),[]⟩,⟨(some 89),(.bin .add (.t 87) (.t 88)),(some (84,true)),[]⟩,⟨(some 90),(.sslice (.t 85) (some (.t 86)) (some (.t 89))),(some (84,true)),[]⟩,⟨(some 91),(.mov (.t 1)),(some (84,true)),[]⟩,⟨(some 92),(.bin .eql (.t 90) (.t 91)),(some (84,true)),[]⟩,oI 93 (.pick (.t 84) (.t 92) (.c (.bool false)))] none [93,10,8]) (.cond (.t 93) (.seq (.region [oM 94 8,oM 4 94] none [4]) .ret) .skip)) (.seq (.region [oM 95 8,oI 96 (.bin .add (.t 95) (.c (.int .i64 1))),oM 8 96] none [10]) (.seq (.region [oM 97 10,oI 98 (.bin .add (.t 97) (.c (.int .i64 1))),oM 10 98] none []) (.seq .stuck (.cond (.t 107) (.seq (.region [oM 108 0,oM 109 8,oI 110 (.sslice (.t 108) (some (.t 109)) none),oM 111 1,oI 112 (.call 81 0 true [(.t 110),(.t 111)]),oM 12 112] none [12,8]) (.seq (.seq (.region [oM 113 12,oI 114 (.bin .geq (.t 113) (.c (.int .i64 0)))] none [114,12,8]) (.cond (.t 114) (.seq (.region [oM 115 12,oM 116 8,oI 117 (.bin .add (.t 115) (.t 116)),oM 4 117] none [4]) .ret) .skip)) (.seq (.region [oI 4 (.mov (.c (.int .i64 (-1))))] none [4]) .ret))) (.seq .stuck (.cond (.t 132) (.seq (.region [oM 133 0,oM 134 8,oI 135 (.sslice (.t 133) (some (.t 134)) none),oM 136 1,oI 137 (.call 94 0 true [(.t 135),(.t 136)]),oM 13 137] none [13,8]) (.seq (.seq (.region [oM 138 13,oI 139 (.bin .lss (.t 138) (.c (.int .i64 0)))] none [139,13,8]) (.cond (.t 139) (.seq (.region [oI 4 (.mov (.c (.int .i64 (-1))))] none [4]) .ret) .skip)) (.seq (.region [oM 140 8,oM 141 13,oI 142 (.bin .add (.t 140) (.t 141)),oM 4 142] none [4]) .ret))) .skip))))))))))
def ZII:Zd:=Zv5
def ZmH:Zd:=(.seq (.region [oI 4 (.mov (.c (.int .i64 0)))] none [1,0]) (.seq (.region [oM 14 1,oI 15 (.slen (.t 14)),oM 5 15] none [5,1,0]) (.seq (.block 0 (.seq (.region [oM 17 5,oI 18 (.bin .eql (.t 17) (.c (.int .i64 0))),oM 19 18,⟨(some 20),(.mov (.t 1)),(some (19,false)),[]⟩,⟨(some 21),(.mov (.t 0)),(some (19,false)),[]⟩,⟨(some 22),(.bin .eql (.t 20) (.t 21)),(some (19,false)),[]⟩,oI 23 (.pick (.t 19) (.c (.bool true)) (.t 22)),oM 16 23] none [16,5,1,0]) (.cond (.t 16) (.seq (.region [oI 4 (.mov (.c (.int .i64 0)))] none [4]) .ret) (.seq (.region [oM 25 5,oI 26 (.bin .eql (.t 25) (.c (.int .i64 1))),oM 24 26] none [24,5,1,0]) (.cond (.t 24) (.seq (.region [oM 27 0,oM 28 1,oI 29 (.sindex (.t 28) (.c (.int .i64 0))),oI 30 (.call 92 0 true [(.t 27),(.t 29)]),oM 4 30] none [4]) .ret) (.seq (.region [oM 32 5,oM 33 0,oI 34 (.slen (.t 33)),oI 35 (.bin .geq (.t 32) (.t 34)),oM 31 35] none [31]) (.cond (.t 31) (.seq (.region [oI 4 (.mov (.c (.int .i64 (-1))))] none [4]) .ret) (.seq .stuck (.cond (.t 36) (.seq (.region [oM 45 0,oM 46 1,oI 47 (.call 81 0 true [(.t 45),(.t 46)]),oM 4 47] none [4]) .ret) .skip))))))))) (.seq (.region [oM 48 1,oI 49 (.sindex (.t 48) (.c (.int .i64 0))),oM 6 49] none [6,5,1,0]) (.seq (.region [oM 50 1,oI 51 (.sindex (.t 50) (.c (.int .i64 1))),oM 7 51] none [7,6,5,1,0]) (.seq (.region [oI 8 (.mov (.c (.int .i64 0)))] none [8,7,6,5,1,0]) (.seq (.region [oM 52 0,oI 53 (.slen (.t 52)),oM 54 5,oI 55 (.bin .sub (.t 53) (.t 54)),oI 56 (.bin .add (.t 55) (.c (.int .i64 1))),oM 9 56] none [9,8,7,6,5,1,0]) (.seq (.region [oI 10 (.mov (.c (.int .i64 0)))] none [10,9,8,7,6,5,1,0]) (.seq (.block 1 (.loop [10,9,8,7,6,5,1,0] ZII)) ZAM)))))))))
def Zpk:ZN:=⟨[(.tmp 4)],ZmH⟩
theorem Zys:FC 86=some Zpk:=by kernel_rfl
theorem ZCM:Zpk.body=ZmH:=rfl
theorem ZDy:Zpk.res=[(.tmp 4)]:=rfl
def ZnH:Zd:=(.seq (.region [oI 4 (.mov (.c (.int .i64 0)))] none [1,0]) (.seq (.region [oM 5 0,oM 6 1,oI 7 (.call 86 0 true [(.t 5),(.t 6)]),oM 4 7] none [4]) .ret))
def Zm6:ZN:=⟨[(.tmp 4)],ZnH⟩
theorem Zwf:FC 67=some Zm6:=by kernel_rfl
theorem Zu5:Zm6.body=ZnH:=rfl
theorem ZI7:Zm6.res=[(.tmp 4)]:=rfl
def Zoe:Zd:=(.seq (.region [oI 4 (.mov (.c (.lst true [])))] none [1,0]) (.seq (.region [oM 5 0,oM 6 1,oI 7 (.call 55 0 true [(.t 5),(.t 6),(.c (.int .i64 0)),(.c (.int .i64 (-1)))]),oM 4 7] none [4]) .ret))
def Zmg:ZN:=⟨[(.tmp 4)],Zoe⟩
theorem ZzN:FC 47=some Zmg:=by kernel_rfl
theorem Zvm:Zmg.body=Zoe:=rfl
theorem ZA2:Zmg.res=[(.tmp 4)]:=rfl
def ZlW:Zd:=(.seq (.region [oM 58 9,oM 59 10,oM 60 0,oI 61 (.iaddr 1 (.t 58) (.t 59)),oN (.st 1 (.t 61) (.t 60))] none [10,9]) (.seq (.region [oM 62 9,oM 63 10,oI 64 (.bin .add (.t 63) (.c (.int .i64 1))),oI 65 (.slice 1 (.t 62) none (some (.t 64)) none),oM 8 65] none [8]) .ret))
def ZmD:Zd:=ZlW
def ZyP:=xw ZmD ZlW rfl
def Ziv:Zd:=(.seq (.seq (.region [oM 34 10,oM 35 3,oI 36 (.bin .lss (.t 34) (.t 35))] none [36,10,9,3,2,1,0]) (.cond (.t 36) .skip (.exit 0))) (.block 1 (.seq (.region [oM 37 0,oM 38 1,oI 39 (.call 67 0 true [(.t 37),(.t 38)]),oM 11 39] none [11,10,9,3,2,1,0]) (.seq (.seq (.region [oM 40 11,oI 41 (.bin .lss (.t 40) (.c (.int .i64 0)))] none [41,11,10,9,3,2,1,0]) (.cond (.t 41) (.exit 0) .skip)) (.seq (.region [oM 42 9,oM 43 10,oM 44 0,oM 45 11,oM 46 2,oI 47 (.bin .add (.t 45) (.t 46)),oI 48 (.sslice (.t 44) none (some (.t 47))),oI 49 (.iaddr 1 (.t 42) (.t 43)),oN (.st 1 (.t 49) (.t 48))] none [11,10,9,3,2,1,0]) (.seq (.region [oM 50 0,oM 51 11,oM 52 1,oI 53 (.slen (.t 52)),oI 54 (.bin .add (.t 51) (.t 53)),oI 55 (.sslice (.t 50) (some (.t 54)) none),oM 0 55] none [10,9,3,2,1,0]) (.region [oM 56 10,oI 57 (.bin .add (.t 56) (.c (.int .i64 1))),oM 10 57] none [10,9,3,2,1,0])))))))
def ZmK:Zd:=Ziv
def ZtX:=xw ZmK Ziv rfl
def Zlq:Zd:=(.seq (.region [oI 8 (.mov (.c (.lst true [])))] none [3,2,1,0]) (.seq (.seq (.region [oM 12 3,oI 13 (.bin .eql (.t 12) (.c (.int .i64 0)))] none [13,3,2,1,0]) (.cond (.t 13) (.seq (.region [oI 8 (.mov (.c (.lst true [])))] none [8]) .ret) .skip)) (.seq (.seq (.region [oM 14 1,oI 15 (.bin .eql (.t 14) (.c (.str [])))] none [15,3,2,1,0]) (.cond (.t 15) (.seq (.region [oM 16 0,oM 17 3,oI 18 (.call 65 0 true [(.t 16),(.t 17)]),oM 8 18] none [8]) .ret) .skip)) (.seq (.seq (.region [oM 19 3,oI 20 (.bin .lss (.t 19) (.c (.int .i64 0)))] none [20,3,2,1,0]) (.cond (.t 20) (.region [oM 21 0,oM 22 1,oI 23 (.call 66 0 true [(.t 21),(.t 22)]),oI 24 (.bin .add (.t 23) (.c (.int .i64 1))),oM 3 24] none [3,2,1,0]) .skip)) (.seq (.region [oM 25 3,oM 26 0,oI 27 (.slen (.t 26)),oI 28 (.bin .add (.t 27) (.c (.int .i64 1))),oI 29 (.mm false [(.t 25),(.t 28)]),oM 3 29] none [3,2,1,0]) (.seq (.region [oM 30 3,oI 31 (.mkslice 1 16 (.str []) (.t 30) (.t 30)),oM 9 31] none [9,3,2,1,0]) (.seq (.region [oM 32 3,oI 33 (.bin .sub (.t 32) (.c (.int .i64 1))),oM 3 33] none [9,3,2,1,0]) (.seq (.region [oI 10 (.mov (.c (.int .i64 0)))] none [10,9,3,2,1,0]) (.seq (.block 0 (.loop [10,9,3,2,1,0] ZmK)) ZmD)))))))))
def ZkG:ZN:=⟨[(.tmp 8)],Zlq⟩
theorem ZAI:FC 55=some ZkG:=by kernel_rfl
theorem ZDZ:ZkG.body=Zlq:=rfl
theorem ZKf:ZkG.res=[(.tmp 8)]:=rfl
noncomputable def ZjQ (m:Nat) (tm:Tms) (σ:Za):Option (AVal×Za):=(ZaC m ZkG (Zbf FC PR BY m ZmD (Option.map (ZaL 0) (evL FC PR BY m [10,9,3,2,1,0] ZmK tm σ))))
end
section
def Zh:List UInt8->List (List UInt8)
 | []=>[[]]
 | b::r=>if b=47 then []::Zh r else match Zh r with
  | h::t=>(b::h)::t
  | []=>[[b]]
theorem Zfb (s:List UInt8):Zh s≠[]:=by
 cases s with
 | nil=>simp [Zh]
 | cons b r=>simp only [Zh];split <;> (try split) <;> simp
theorem ZxL {s:List UInt8} (h:s.count 47=0):Zh s=[s]:=by
 induction s with
 | nil=>rfl
 | cons b r ih =>
  rw [XbH] at h
  have hb:¬b=47:=by rintro rfl;simp at h
  simp only [Zh]
  rw [if_neg hb,ih (by omega)]
theorem ZLS {s:List UInt8} {k:Nat} (h:s.count 47=k+1):∃ p t,s=p++47::t/\t.count 47=k/\Zh s=p::Zh t/\Lib.indexByte s 47=p.length:=by
 induction s with
 | nil=>simp at h
 | cons b r ih =>
  rw [XbH] at h
  by_cases hb:b=47
  ·subst hb
   exact ⟨[],r,rfl,by simpa using h,by simp [Zh],by simp [Lib.indexByte]⟩
  ·have hb':(b == 47)=false:=by simpa using hb
   rw [hb'] at h
   obtain ⟨p,t,rfl,h2,h3,h4⟩:=ih (by simpa using h)
   refine ⟨b::p,t,rfl,h2,?_,?_⟩
   ·simp only [Zh]
    rw [if_neg hb,h3]
   ·simp only [Lib.indexByte,hb',h4]
    simp
    try omega
theorem Ze9 (s:List UInt8):(Zh s).length=s.count 47+1:=by
 induction s with
 | nil=>rfl
 | cons b r ih =>
  simp only [Zh]
  rw [XbH]
  split
  ·rename_i h;subst h;simp [ih]
  ·rename_i h
   have h0:=Zfb r
   split
   ·rename_i e;rw [e] at ih;simp [h];simp at ih;omega
   ·rename_i e;exact absurd e h0
theorem ZIY (l:List UInt8) (c:UInt8):E 92 [.str l,.int .u8 c.toNat] []=some (.int .i64 (Lib.indexByte l c),[]):=by
 have : ((c.toNat:Int).toNat.toUInt8)=c:=by simp
 have h:=(Zce (fs:=FC) (prim:=PR) (bf:=BY) (f:=92) (args:=[.str l,.int .u8 c.toNat]) (σ:=[])).2 ⟨1,rfl⟩
 rw [this] at h
 exact h
theorem ZCu (σ:Za) (sq own:Nat) (view:Bool) (l:List UInt8) (c:UInt8):Zr E BY σ sq 92 own view [.str l,.int .u8 c.toNat]=some (.int .i64 (Lib.indexByte l c),σ,{}) :=
 Za6 (ZIY l c) (by kernel_rfl) (by simp -implicitDefEqProofs only [Zbe,ZD,eq_self]) (by simp -implicitDefEqProofs only [Zab,ZD,eq_self]) rfl (fun _=>rfl) _ _ _ _
theorem ZH3 (l:List UInt8) (c:UInt8):E 86 [.str l,.str [c]] []=some (.int .i64 (Lib.indexByte l c),[]):=by
 rw [ZQ (by rfl) Zys]
 have e0:(((1:Nat):Int) == 0)=false:=rfl
 have e1:(((1:Nat):Int) == 1)=true:=rfl
 have hi:(if ([c] == l)=true then (0:Int) else Lib.indexByte l c)=Lib.indexByte l c:=by
  split
  ·rename_i h
   have : [c]=l:=by simpa using h
   subst this
   simp [Lib.indexByte]
  ·rfl
 simp -implicitDefEqProofs only [EQA,ZCC,Xe,Xc,Z7,Zs,unG,reduceCtorEq,ite_self,↓reduceIte,ZCM,ZmH,ZDy,e0,e1,ZCu,Z3,WB,Ws]
 rw [hi]
theorem ZwY (σ:Za) (sq own:Nat) (view:Bool) (l:List UInt8) (c:UInt8):Zr E BY σ sq 86 own view [.str l,.str [c]]=some (.int .i64 (Lib.indexByte l c),σ,{}) :=
 Za6 (ZH3 l c) (by kernel_rfl) (by simp -implicitDefEqProofs only [Zbe,ZD,eq_self]) (by simp -implicitDefEqProofs only [Zab,ZD,eq_self]) rfl (fun _=>rfl) _ _ _ _
theorem ZA6 (l:List UInt8) (c:UInt8):E 67 [.str l,.str [c]] []=some (.int .i64 (Lib.indexByte l c),[]):=by
 rw [ZQ (by rfl) Zwf]
 simp -implicitDefEqProofs only [EQA,Xe,Xc,reduceCtorEq,↓reduceIte,Zu5,ZnH,ZI7,ZwY]
theorem ZzR (σ:Za) (sq own:Nat) (view:Bool) (l:List UInt8) (c:UInt8):Zr E BY σ sq 67 own view [.str l,.str [c]]=some (.int .i64 (Lib.indexByte l c),σ,{}) :=
 Za6 (ZA6 l c) (by kernel_rfl) (by simp -implicitDefEqProofs only [Zbe,ZD,eq_self]) (by simp -implicitDefEqProofs only [Zab,ZD,eq_self]) rfl (fun _=>rfl) _ _ _ _
theorem ZJY (l:List UInt8) (c:UInt8):E 66 [.str l,.str [c]] []=some (.int .i64 (Lib.countByte l c),[]):=Zce.2 ⟨1,rfl⟩
theorem ZMI (σ:Za) (sq own:Nat) (view:Bool) (l:List UInt8) (c:UInt8):Zr E BY σ sq 66 own view [.str l,.str [c]]=some (.int .i64 (Lib.countByte l c),σ,{}) :=
 Za6 (ZJY l c) (by kernel_rfl) (by simp -implicitDefEqProofs only [Zbe,ZD,eq_self]) (by simp -implicitDefEqProofs only [Zab,ZD,eq_self]) rfl (fun _=>rfl) _ _ _ _
theorem ZMN {σ:Za} {t g k n:Nat} {xs:List AVal} (hs:σ[t]?=some (.row g k xs)) (hn:n<=xs.length) {h:Int} (h0:0<=h) (h1:h<=(xs.length:Int)) (kk:IntKind):ZbN σ k (.sl t g 0 n) none (some (.int kk h)) none=some (.sl t g 0 h.toNat,σ,{ rd:=[t] }):=by
 have he:Zag σ (.sl t g 0 n)=some ((xs.drop 0).take n,[t]):=by simp [Zag,hs,hn]
 simp [ZbN,he,hs,ZaF,Zcr,h0,h1]
theorem Zrg (k n:Nat) (xs:List AVal) (σ:Za):Zaw 0 (.row 0 k xs::σ) (.sl 0 0 0 n)=some (.sl 0 0 0 n,[.row 0 k xs]):=by
 rfl
theorem ZqN {done:List (List UInt8)} {n m:Nat} (hn:n=done.length+m+1):(done.map AVal.str++Xq (n - done.length) (AVal.str []))[done.length]?=some (AVal.str []):=by
 rw [Wh (by simp),Wd,WW,show n - done.length=m+1 by omega,Xak]
 rfl
theorem ZrH {done:List (List UInt8)} {n m:Nat} (hn:n=done.length+m+1) (p:List UInt8):(done.map AVal.str++Xq (n - done.length) (AVal.str [])).set done.length (AVal.str p)=(done++[p]).map AVal.str++Xq (n - (done++[p]).length) (AVal.str []):=by
 rw [Xbb _ _ (by simp),Wd,WW,show n - done.length=m+1 by omega,Xak,List.set_cons_zero,X0,List.append_assoc,Xy]
 simp only [Xx,XW,XH,Xp,XE,XP]
 rw [show n - (done.length+(0+1))=m by omega]
theorem ZpH (N:Nat) (hN:N<=9223372036854775807):∀ (k:Nat) (s:List UInt8) (done:List (List UInt8)),s.count 47=k->N=done.length+k+1->s.length<=9223372036854775807 ->
  ZjQ 0 [(10,.int .i64 done.length),(9,.sl 0 0 0 N),(3,.int .i64 (N - 1:Int)),(2,.int .i64 0),(1,.str [47]),(0,.str s)] [.row 0 1 (done.map AVal.str++Xq (N - done.length) (AVal.str []))] =
   some (.sl 0 0 0 N,[.row 0 1 ((done++Zh s).map AVal.str)])
 | 0,s,done,hk,hNd,hs=>by
  have h1:¬((done.length:Int) < (N - 1:Int)):=by omega
  have i0:(0:Int)<=(done.length:Int):=by omega
  have i1:done.length < N:=by omega
  have hg:=ZqN (done:=done) (n:=N) (m:=0) (by omega)
  have hst:=ZrH (done:=done) (n:=N) (m:=0) (by omega) s
  have hw:IntKind.i64.wrap ((done.length:Int)+1)=(N:Int):=by rw [Zbx (by omega) (by omega)];omega
  rw [ZxL hk]
  have he:(done++[s]).map AVal.str++Xq (N - (done++[s]).length) (AVal.str [])=(done++[s]).map AVal.str:=by
   have : N - (done++[s]).length=0:=by simp;omega
   rw [this];simp
  rw [he] at hst
  have hl:((done++[s]).map AVal.str).length=N:=by simp;omega
  have hl0:(done.map AVal.str++Xq (N - done.length) (AVal.str [])).length=N:=by simp;omega
  generalize hX:done.map AVal.str++Xq (N - done.length) (AVal.str [])=X at *
  generalize hY:(done++[s]).map AVal.str=Y at *
  have hsl:ZbN [Zk.row 0 1 Y] 1 (.sl 0 0 0 N) none (some (.int .i64 (N:Int))) none=some (.sl 0 0 0 N,[Zk.row 0 1 Y],{ rd:=[0] }):=by
   have:=ZMN (σ:=[Zk.row 0 1 Y]) (t:=0) (g:=0) (k:=1) (n:=N) (xs:=Y) rfl (by omega) (h:=(N:Int)) (by omega) (by omega) .i64
   simpa using this
  unfold ZjQ
  rw [ZO]
  simp -implicitDefEqProofs only [EQA,Zab,Xe,Xc,reduceCtorEq,↓reduceIte,ZKf,ZyP,ZlW,ZtX,Ziv,h1,i0,i1,hg,hst,hw,hsl,Zrg,XY,Zbd,ZbZ,Za0,Ze5,Zt]
 | k+1,s,done,hk,hNd,hs=>by
  obtain ⟨p,t,rfl,ht,hsp,hidx⟩:=ZLS hk
  have hlen:(p++47::t).length=p.length+t.length+1:=by simp;omega
  have ih:=ZpH N hN k t (done++[p]) ht (by simp;omega) (by omega)
  have h1:((done.length:Int) < (N - 1:Int)):=by omega
  have i0:(0:Int)<=(done.length:Int):=by omega
  have i1:done.length < N:=by omega
  have hg:=ZqN (done:=done) (n:=N) (m:=k+1) (by omega)
  have hst:=ZrH (done:=done) (n:=N) (m:=k+1) (by omega) p
  have hw:IntKind.i64.wrap ((done.length:Int)+1)=(((done++[p]).length:Nat):Int):=by rw [Zbx (by omega) (by omega)];simp
  rw [hsp,show done++p::Zh t=(done++[p])++Zh t by simp]
  have hi:Lib.indexByte (p++47::t) 47=p.length:=hidx
  have n1:¬((p.length:Int) < 0):=by omega
  have w1:IntKind.i64.wrap ((p.length:Int)+0)=p.length:=by rw [Zbx (by omega) (by omega)];omega
  have w2:IntKind.i64.wrap ((p.length:Int)+((1:Nat):Int))=p.length+1:=by rw [Zbx (by omega) (by omega)];rfl
  have p0:(0:Int)<=(p.length:Int):=by omega
  have p1:(0:Int)<=(p.length:Int)+1:=by omega
  have e1:((p++47::t).take p.length)=p:=by simp
  have e2:((p++47::t).drop (p.length+1))=t:=by rw [List.drop_append];simp
  have e3:((p++47::t).take (p++47::t).length)=p++47::t:=List.take_length
  have t1:((p.length:Int)+1).toNat=p.length+1:=by omega
  have l1:(p.length:Int)<=(((p++47::t).length:Nat):Int):=by omega
  have l2:(p.length:Int)+1<=(((p++47::t).length:Nat):Int):=by omega
  have hl0:(done.map AVal.str++Xq (N - done.length) (AVal.str [])).length=N:=by simp;omega
  generalize hX:done.map AVal.str++Xq (N - done.length) (AVal.str [])=X at *
  generalize hY:(done++[p]).map AVal.str++Xq (N - (done++[p]).length) (AVal.str [])=Y at *
  generalize hS:p++47::t=S at *
  generalize hD:(done++[p]).length=D at *
  unfold ZjQ at ih ⊢
  rw [ZO]
  simp -implicitDefEqProofs only [EQA,Zab,ZE,ZaH,Xe,Xo,Xc,reduceCtorEq,↓reduceIte,gcT,gcA,Zn,Zi,Ze,Zg,Zv,Zb,Zu,Zm,Zp,ZtX,Ziv,h1,i0,i1,hg,hst,hw,ZzR,hi,n1,w1,w2,p0,p1,e1,e2,e3,t1,l1,l2,ZaF,Zcr,XY,Zbd,ZbZ,Za0,Ze5,Zt]
  exact ih
theorem ZzD (s:List UInt8) (hs:s.length*16<=140737488355328 - 16):E 55 [.str s,.str [47],.int .i64 0,.int .i64 (-1)] []=some (.sl 0 0 0 (s.count 47+1),[.row 0 1 ((Zh s).map AVal.str)]):=by
 have hc:=WV (a:=(47:UInt8)) (l:=s)
 have key:=ZpH (s.count 47+1) (by omega) (s.count 47) s [] rfl (by simp) (by omega)
 rw [ZQ (by rfl) ZAI]
 unfold ZjQ at key
 have e0:(((-1:Int)) == 0)=false:=rfl
 have e1:(([47]:List UInt8) == [])=false:=rfl
 have e2:((-1:Int) < 0)=True:=by simp
 have w1:IntKind.i64.wrap (((Lib.countByte s 47:Nat):Int)+1)=((s.count 47+1:Nat):Int):=by
  show IntKind.i64.wrap (((s.count 47:Nat):Int)+1)=_
  rw [Zbx (by omega) (by omega)];rfl
 have w2:IntKind.i64.wrap (((s.length:Nat):Int)+1)=((s.length+1:Nat):Int):=by rw [Zbx (by omega) (by omega)];rfl
 have w3:IntKind.i64.wrap (((s.count 47+1:Nat):Int) - 1)=((s.count 47+1:Nat):Int) - 1:=by rw [Zbx (by omega) (by omega)]
 have n1:¬(((s.count 47+1:Nat):Int) > ((s.length+1:Nat):Int)):=by omega
 have m1:(0:Int)<=((s.count 47+1:Nat):Int):=by omega
 have m2:((s.count 47+1:Nat):Int)<=9223372036854775807:=by omega
 have m3:((16:Nat):Int)*((s.count 47+1:Nat):Int)<=140737488355328:=by omega
 simp only [XW,Xp,XP,Nat.sub_zero] at key
 have z0:((0:Nat):Int)=0:=rfl
 rw [z0] at key
 simp -implicitDefEqProofs only [EQA,Zab,ZE,ZaH,Xj,Xe,Xo,Xc,Xk,Z7,reduceCtorEq,↓reduceIte,gcT,gcA,Zn,Zi,Ze,Zg,Zv,Zb,Zu,Zm,Zp,ZDZ,Zlq,e0,e1,e2,w1,w2,w3,n1,m1,m2,m3,ZMI,XY,Ws]
 rw [Xak] at key
 exact key
theorem Ztm {O:ZG} {bf:Nat->Bool} {f:Nat} {args:List AVal} {k n:Nat} {xs:List AVal} (h:O f args []=some (.sl 0 0 0 n,[.row 0 k xs])) (hn:xs.length=n) (hb:bf f=false) (hp:args.all Z6=true) (hm:args.map ZV=args) (σ:Za) (sq own:Nat):Zr O bf σ sq f own true args=some (.lst false xs,σ,{}):=by
 rw [Zol hb hp,hm,h]
 have : Zaj true 0 (some (.sl 0 0 0 n,[.row 0 k xs]))=some (.lst false xs,[]):=by
  unfold Zaj
  rw [if_pos rfl,Zpu (k:=k) (g:=0) (t:=0) (xs:=xs) rfl (by omega),Wi (by omega)]
 rw [this,ZlO _ _ _ _ rfl]
def ZiD (l:List (List UInt8)):AVal:=.lst false (l.map AVal.str)
theorem ZI3 (s:List UInt8) (hs:s.length*16<=140737488355328 - 16):E 47 [.str s,.str [47]] []=some (ZiD (Zh s),[]):=by
 have hC:=fun σ sq own=>Ztm (bf:=BY) (ZzD s hs) (by rw [Wd,Ze9]) (by kernel_rfl) rfl rfl σ sq own
 rw [ZQ (by rfl) ZzN]
 simp -implicitDefEqProofs only [EQA,ZbK,Xe,Xc,reduceCtorEq,↓reduceIte,Zvm,Zoe,ZA2,hC,ZiD]
theorem ZAO (σ:Za) (sq own:Nat) (view:Bool) (s:List UInt8) (hs:s.length*16<=140737488355328 - 16):Zr E BY σ sq 47 own view [.str s,.str [47]]=some (.lst false ((Zh s).map AVal.str),σ,{}) :=
 Za6 (ZI3 s hs) (by kernel_rfl) (by simp -implicitDefEqProofs only [Zbe,ZD,eq_self]) (by simp -implicitDefEqProofs only [Zab,ZD,eq_self]) rfl (fun _=>rfl) _ _ _ _
theorem ZA3 (s:List UInt8) (hs:s.length*16<=140737488355328 - 16):E 31 [.str s] []=some (ZiD (Zh s),[]):=by
 have hC:=fun σ sq own view=>ZAO σ sq own view s hs
 rw [ZQ (by rfl) ZKv]
 simp -implicitDefEqProofs only [EQA,ZbK,Xe,Xc,reduceCtorEq,↓reduceIte,Zvk,ZoZ,ZE7,hC,ZiD]
theorem Zgc (σ:Za) (sq own:Nat) (view:Bool) (s:List UInt8) (hs:s.length*16<=140737488355328 - 16):Zr E BY σ sq 31 own view [.str s]=some (.lst false ((Zh s).map AVal.str),σ,{}) :=
 Za6 (ZA3 s hs) (by kernel_rfl) (by simp -implicitDefEqProofs only [Zbe,ZD,eq_self]) (by simp -implicitDefEqProofs only [Zab,ZD,eq_self]) rfl (fun _=>rfl) _ _ _ _
section
theorem ZD5 (k n:Nat) (xs:List AVal) (σ:Za):Zaw 0 (.row 1 k xs::σ) (.sl 0 1 0 n)=some (.sl 0 0 0 n,[.row 0 k xs]):=by
 rfl
def Zde (now:List UInt8):List (List UInt8)->List (List UInt8)
 | h::t=>(now++h)::t
 | []=>[now]
theorem ZJL (now r:List UInt8):Zde now (Zh (47::r))=now::Zh r:=by simp [Zh,Zde]
theorem Zw0 (now r:List UInt8) (b:UInt8) (h:¬b=47):Zde now (Zh (b::r))=Zde (now++[b]) (Zh r):=by
 simp only [Zh]
 rw [if_neg h]
 have:=Zfb r
 split
 ·rename_i e;simp [e,Zde]
 ·rename_i e;exact absurd e this
theorem Zqf (l:List (List UInt8)) (h:l≠[]):Zde [] l=l:=by
 cases l with
 | nil=>exact absurd rfl h
 | cons a l=>rfl
theorem Zi3 (s:List UInt8) (hs:s.length*16<=140737488355328 - 64):∀ (r:List UInt8) (i:Nat) (now:List UInt8) (done:List (List UInt8)),s.drop i=r->i<=s.length->done.length<=i->now.length<=i ->
  (ZfK 0 [(5,.int .i64 i),(4,.str now),(3,.lst true []),(0,.str s)] []=some (.sl 0 0 0 (Zde now (Zh r)).length,[.row 0 1 ((Zde now (Zh r)).map AVal.str)])) /\
  (ZfK 0 [(5,.int .i64 i),(4,.str now),(3,.sl 0 0 0 done.length),(0,.str s)] [.row 0 1 (done.map AVal.str)]=some (.sl 0 0 0 (done++Zde now (Zh r)).length,[.row 0 1 ((done++Zde now (Zh r)).map AVal.str)]))
 | [],i,now,done,h,hi,hd,hn=>by
  have h1:=ZcS h
  have g1:Zde now (Zh [])=[now]:=by simp [Zh,Zde]
  have b2:(done.length+1)*16<=140737488355328:=by omega
  have hlen:(done.map AVal.str).length=done.length:=Wd ..
  have hm:(done++[now]).map AVal.str=done.map AVal.str++[.str now]:=by simp
  have hl2:(done++[now]).length=done.length+1:=by simp
  rw [g1,hm,hl2]
  generalize done.map AVal.str=X at *
  constructor
  ·unfold ZfK
   rw [ZO]
   simp -implicitDefEqProofs only [EQA,Zab,Xe,Xo,Xc,Xk,reduceCtorEq,Zag,↓reduceIte,ZpB,ZqG,Zjl,Zgq,Zfg,h1,Zaz,kOk,viewAs,ZbI,Za0,Zt,Nat.one_mul,Zrg]
  ·unfold ZfK
   rw [ZO]
   simp -implicitDefEqProofs only [EQA,Zab,Xj,Xe,Xc,Xk,reduceCtorEq,Zag,↓reduceIte,ZpB,ZqG,Zjl,Zgq,Zfg,h1,Zaz,kOk,viewAs,ZbI,Za0,Zt,ZD5,b2,hlen]
 | b::r,i,now,done,h,hi,hd,hn=>by
  have hlt:=(Zau h).2.2
  have h1:(i:Int) < s.length:=by omega
  have h2:=(Zau h).1
  have h3:=ZbG (i:=i) (n:=s.length) h1 (by omega)
  have i0:(0:Int)<=(i:Int):=by omega
  have b2:(done.length+1)*16<=140737488355328:=by omega
  have hlen:(done.map AVal.str).length=done.length:=Wd ..
  have hm:(done++[now]).map AVal.str=done.map AVal.str++[.str now]:=by simp
  by_cases hb:b=47
  ·subst hb
   have hbi:(((47:UInt8).toNat:Int) == 47)=true:=rfl
   obtain ⟨ih1,ih2⟩:=Zi3 s hs r (i+1) [] (done++[now]) (Zau h).2.1 (by omega) (by simp;omega) (by simp)
   have ih1':=(Zi3 s hs r (i+1) [] [now] (Zau h).2.1 (by omega) (by simp) (by simp)).2
   have hl2:(done++[now]).length=done.length+1:=by simp
   have gn:=Zqf (Zh r) (Zfb r)
   rw [gn] at ih2 ih1'
   rw [ZJL]
   simp only [Xx,XW,XE,XP,XC,XH,Xp] at ih1'
   rw [hm,hl2,show (done++[now]++Zh r)=done++now::Zh r by simp] at ih2
   generalize done.map AVal.str=X at *
   unfold ZfK at ih1' ih2 ⊢
   constructor
   ·rw [ZO]
    simp -implicitDefEqProofs only [EQA,Zab,ZE,ZaH,Xe,Xo,Xc,Xk,reduceCtorEq,Zag,↓reduceIte,gcT,gcA,Zn,Zi,Ze,Zg,Zv,Zb,Zu,Zm,Zp,Zgq,Zfg,h1,h2,h3,i0,hbi,Z3,Zaz,kOk,viewAs,ZbI,Za0,Zt,Nat.one_mul,XY]
    exact ih1'
   ·rw [ZO]
    simp -implicitDefEqProofs only [EQA,Zab,ZE,ZaH,Xj,Xe,Xo,Xc,Xk,reduceCtorEq,Zag,↓reduceIte,gcT,gcA,Zn,Zi,Ze,Zg,Zv,Zb,Zu,Zm,Zp,Zgq,Zfg,h1,h2,h3,i0,hbi,Z3,Zaz,kOk,viewAs,ZbI,Za0,Zt,XY,b2,hlen]
    exact ih2
  ·have hbi:((b.toNat:Int) == 47)=false:=by
    rw [beq_eq_false_iff_ne]
    intro e
    apply hb
    rw [<-Xam]
    have : (47:UInt8).toNat=47:=rfl
    omega
   obtain ⟨ih1,ih2⟩:=Zi3 s hs r (i+1) (now++[b]) done (Zau h).2.1 (by omega) (by omega) (by simp;omega)
   rw [<-Zw0 now r b hb] at ih1 ih2
   have hsl:((s.take (i+1)).drop i)=[b]:=by
    rw [List.drop_take,show i+1 - i=1 by omega,List.drop_eq_getElem_cons hlt]
    have : s[i]=b:=by rw [Xl hlt] at h2;injection h2
    rw [this];rfl
   have hc:now.length+1<=9223372036854775807:=by omega
   have k0:(0:Int)<=((i+1:Nat):Int):=by omega
   have k1:((i+1:Nat):Int)<=((s.length:Nat):Int):=by omega
   have k2:(i:Int)<=((i+1:Nat):Int):=by omega
   unfold ZfK at ih1 ih2 ⊢
   constructor
   ·rw [ZO]
    simp -implicitDefEqProofs only [EQA,ZE,Xe,Xc,Z7,reduceCtorEq,↓reduceIte,gcT,gcA,Zn,Zi,Zg,Zp,Zgq,Zfg,h1,h2,h3,i0,hbi,Z3,hsl,hc,k0,k1,k2,ZaF,Zcr,XY]
    exact ih1
   ·rw [ZO]
    simp -implicitDefEqProofs only [EQA,ZE,ZaH,Xe,Xo,Xc,Z7,reduceCtorEq,↓reduceIte,gcT,gcA,Zn,Zi,Ze,Zg,Zv,Zb,Zu,Zm,Zp,Zgq,Zfg,h1,h2,h3,i0,hbi,Z3,hsl,hc,k0,k1,k2,ZaF,Zcr,XY]
    exact ih2
theorem Zx4 (s:List UInt8) (hs:s.length*16<=140737488355328 - 64):E 41 [.str s] []=some (.sl 0 0 0 (Zh s).length,[.row 0 1 ((Zh s).map AVal.str)]):=by
 have key:=(Zi3 s hs s 0 [] [] rfl (by omega) (by simp) (by simp)).1
 rw [Zqf _ (Zfb s)] at key
 rw [ZQ (by rfl) ZMn]
 unfold ZfK at key
 have z0:((0:Nat):Int)=0:=rfl
 rw [z0] at key
 simp -implicitDefEqProofs only [EQA,ZE,Xe,Xc,reduceCtorEq,↓reduceIte,gcT,gcA,Zn,Zi,Zg,Zp,ZJQ,Zlh]
 exact key
theorem ZlD (σ:Za) (sq own:Nat) (s:List UInt8) (hs:s.length*16<=140737488355328 - 64):Zr E BY σ sq 41 own true [.str s]=some (.lst false ((Zh s).map AVal.str),σ,{}) :=
 Ztm (Zx4 s hs) (Wd ..) (by kernel_rfl) rfl rfl σ sq own
end
end
section
theorem Zk0 (s:List UInt8):∀ x ∈ Zh s,x.length<=s.length:=by
 induction s with
 | nil=>simp [Zh]
 | cons b r ih =>
  simp only [Zh]
  split
  ·intro x hx
   rcases XB.1 hx with rfl | hx
   ·simp
   ·have:=ih x hx;simp;omega
  ·split
   ·rename_i h t e
    intro x hx
    rw [e] at ih
    rcases XB.1 hx with rfl | hx
    ·have:=ih h (by simp);simp;omega
    ·have:=ih x (by simp [hx]);simp;omega
   ·intro x hx
    have : x=[b]:=by simpa using hx
    subst this;simp
def ZfC (last:Bool) (x:List UInt8):Bool:=x == [43] || (x == [35] && last) || !Zax x
def Zdb:List (List UInt8)->Bool
 | []=>true
 | x::r=>ZfC r.isEmpty x && Zdb r
def ZaW (s:List UInt8):Bool:=Zdb (Zh s) && Zcm s
theorem Zrk {α:Type} {l:List α} {i:Nat} {x:α} {r:List α} (h:l.drop i=x::r):((i:Int) == ((l.length:Int) - 1))=r.isEmpty:=by
 have h1:=congrArg Xa5 h
 simp only [Wv,XE] at h1
 cases r with
 | nil=>simp at h1 ⊢;omega
 | cons y r=>simp at h1 ⊢;omega
theorem ZsO (s:List UInt8) (L:List (List UInt8)) (hL:L.length<=9223372036854775807) (hx:∀ x ∈ L,x.length<=9223372036854775807):∀ (r:List (List UInt8)) (i:Nat),L.drop i=r ->
  ZkB 0 [(11,.int .i64 i),(10,.int .i64 L.length),(9,.lst false (L.map AVal.str)),(3,.lst false (L.map AVal.str)),(0,.str s)] []=some (.bool (Zdb r && Zcm s),[])
 | [],i,h=>by
  have h1:=ZcS h
  unfold ZkB
  rw [ZO]
  simp -implicitDefEqProofs only [EQA,Xe,Xc,reduceCtorEq,↓reduceIte,Zlw,ZBV,Zng,Zft,Zep,h1,ZkJ]
  rfl
 | x::r,i,h=>by
  have ih:=ZsO s L hL hx r (i+1) (Zau h).2.1
  have hlt:=(Zau h).2.2
  have h1:(i:Int) < L.length:=by omega
  have e1:=iad (Zau h).1 AVal.str (k:=1) rfl
  have h3:=ZbG h1 hL
  have hmem:x ∈ L:=Xu (Zau h).1
  have hC:=fun σ sq own view=>ZqK σ sq own view x (hx x hmem)
  have w1:IntKind.i64.wrap ((L.length:Int) - 1)=(L.length:Int) - 1:=Zbx (by omega) (by omega)
  have hla:=Zrk h
  have ee:Zdb (x::r)=(ZfC r.isEmpty x && Zdb r):=rfl
  rw [ee]
  unfold ZfC
  unfold ZkB at ih ⊢
  rw [ZO]
  cases hp:(x == [43])
  ·cases hq:(x == [35])
   ·cases hz:Zax x
    ·simp -implicitDefEqProofs only [EQA,Zab,ZE,Xe,Xc,Z7,unA,Zs,Z4,unG,reduceCtorEq,↓reduceIte,gcT,gcA,Zn,Zi,Zg,Zp,Zft,Zep,h1,e1,h3,hC,hp,hq,hz]
     exact ih
    ·simp -implicitDefEqProofs only [EQA,Zab,Xe,Xc,Z7,unA,Zs,Z4,unG,reduceCtorEq,↓reduceIte,Zlw,Zft,Zep,h1,e1,hC,hp,hq,hz]
   ·cases hr:r.isEmpty
    ·cases hz:Zax x
     ·simp -implicitDefEqProofs only [EQA,Zab,ZE,Xe,Xc,Z7,unA,Zs,unG,reduceCtorEq,↓reduceIte,gcT,gcA,Zn,Zi,Zg,Zp,Zft,Zep,h1,e1,h3,hC,w1,hla,hp,hq,hz,hr]
      exact ih
     ·simp -implicitDefEqProofs only [EQA,Zab,Xe,Xc,Z7,unA,Zs,unG,reduceCtorEq,↓reduceIte,Zlw,Zft,Zep,h1,e1,hC,w1,hla,hp,hq,hz,hr]
    ·simp -implicitDefEqProofs only [EQA,Zab,ZE,Xe,Xc,Z7,unA,Zs,Z4,unG,reduceCtorEq,↓reduceIte,gcT,gcA,Zn,Zi,Zg,Zp,Zft,Zep,h1,e1,h3,w1,hla,hp,hq,hr]
     exact ih
  ·simp -implicitDefEqProofs only [EQA,Zab,ZE,Xe,Xc,Z7,unA,Zs,Z4,reduceCtorEq,↓reduceIte,gcT,gcA,Zn,Zi,Zg,Zp,Zft,Zep,h1,e1,h3,hp]
   exact ih
theorem Zyq (s:List UInt8) (hs:s.length*16<=140737488355328 - 64):E 29 [.str s] []=some (.bool (ZaW s),[]):=by
 have hC:=fun σ sq own view=>Zgc σ sq own view s (by omega)
 have hlen:=Ze9 s
 have hcl:=WV (a:=(47:UInt8)) (l:=s)
 have key:=ZsO s (Zh s) (by omega) (fun x hx=>by have:=Zk0 s x hx;omega) (Zh s) 0 rfl
 rw [ZQ (by rfl) Zyi]
 unfold ZkB at key
 have z0:((0:Nat):Int)=0:=rfl
 rw [z0] at key
 simp -implicitDefEqProofs only [EQA,ZE,Xe,Xc,reduceCtorEq,↓reduceIte,gcT,gcA,Zn,Zi,Zg,Zp,ZG7,Zm5,hC]
 exact key
theorem ZF8 (σ:Za) (sq own:Nat) (view:Bool) (s:List UInt8) (hs:s.length*16<=140737488355328 - 64):Zr E BY σ sq 29 own view [.str s]=some (.bool (ZaW s),σ,{}) :=
 Za6 (Zyq s hs) (by kernel_rfl) (by simp -implicitDefEqProofs only [Zbe,ZD,eq_self]) (by simp -implicitDefEqProofs only [Zab,ZD,eq_self]) rfl (fun _=>rfl) _ _ _ _
theorem ZGn (last:Bool) (x:List UInt8):ZfC last x=!((Zcs x 35 && (!(x == [35]) || !last)) || (Zcs x 43 && !(x == [43]))):=by
 unfold ZfC
 rw [ZtI]
 by_cases h1:x=[43]
 ·subst h1;cases last <;> rfl
 ·by_cases h2:x=[35]
  ·subst h2;cases last <;> rfl
  ·have e1:(x == [43])=false:=by simpa using h1
   have e2:(x == [35])=false:=by simpa using h2
   rw [e1,e2]
   cases Zcs x 43 <;> cases Zcs x 35 <;> rfl
theorem Zqq (L:List (List UInt8)) (hL:L.length<=9223372036854775807) (hx:∀ x ∈ L,x.length<=9223372036854775807):∀ (r:List (List UInt8)) (i:Nat),L.drop i=r ->
  Zky 0 [(4,.int .i64 i),(3,.lst false (L.map AVal.str))] []=some (.bool (Zdb r),[])
 | [],i,h=>by
  have h1:=ZcS h
  unfold Zky
  rw [ZO]
  simp -implicitDefEqProofs only [EQA,Xe,Xc,↓reduceIte,ZlQ,Zxn,Zli,Zmj,Zht,h1]
  rfl
 | x::r,i,h=>by
  have ih:=Zqq L hL hx r (i+1) (Zau h).2.1
  have hlt:=(Zau h).2.2
  have h1:(i:Int) < L.length:=by omega
  have e1:=iad (Zau h).1 AVal.str (k:=1) rfl
  have h3:=ZbG h1 hL
  have hmem:x ∈ L:=Xu (Zau h).1
  have hC1:=fun σ sq own view=>Zkc σ sq own view x 43 (hx x hmem)
  have hC2:=fun σ sq own view=>Zkc σ sq own view x 35 (hx x hmem)
  simp only [show (((43:UInt8).toNat:Nat):Int)=43 from rfl] at hC1
  simp only [show (((35:UInt8).toNat:Nat):Int)=35 from rfl] at hC2
  have w1:IntKind.i64.wrap ((L.length:Int) - 1)=(L.length:Int) - 1:=Zbx (by omega) (by omega)
  have hla:((i:Int) != ((L.length:Int) - 1))=!r.isEmpty:=by rw [bne,Zrk h]
  have ee:Zdb (x::r)=(ZfC r.isEmpty x && Zdb r):=rfl
  rw [ee,ZGn]
  unfold Zky at ih ⊢
  rw [ZO]
  cases ha:Zcs x 35 <;> cases hb:Zcs x 43 <;> cases hp:(x == [43]) <;> cases hq:(x == [35]) <;> cases hr:r.isEmpty
  all_goals first
   | (simp -implicitDefEqProofs only [EQA,Zab,ZE,Xe,Xc,Z7,Zs,Z4,unG,reduceCtorEq,↓reduceIte,gcT,gcA,Zn,Zi,Zg,Zp,ZlQ,Zmj,Zht,h1,e1,h3,hC1,hC2,w1,hla,hp,hq,hr,ha,hb];done)
   | (simp -implicitDefEqProofs only [EQA,Zab,ZE,Xe,Xc,Z7,Zs,Z4,unG,reduceCtorEq,↓reduceIte,gcT,gcA,Zn,Zi,Zg,Zp,Zmj,Zht,h1,e1,h3,hC1,hC2,w1,hla,hp,hq,hr,ha,hb];exact ih)
theorem ZEW (s:List UInt8):E 25 [.str s] []=some (.bool (ZaW s),[]):=by
 rw [ZQ (by rfl) ZFP]
 unfold ZaW
 cases h:Zcm s
 ·simp -implicitDefEqProofs only [EQA,Xe,Xc,unA,reduceCtorEq,↓reduceIte,ZuP,ZjL,ZlQ,h,Zhr]
 ·have hl:=ZfZ h
  have hC:=fun σ sq own=>ZlD σ sq own s (by omega)
  have hlen:=Ze9 s
  have hcl:=WV (a:=(47:UInt8)) (l:=s)
  have key:=Zqq (Zh s) (by omega) (fun x hx=>by have:=Zk0 s x hx;omega) (Zh s) 0 rfl
  unfold Zky at key
  have z0:((0:Nat):Int)=0:=rfl
  rw [z0] at key
  simp -implicitDefEqProofs only [EQA,ZE,Xe,Xc,unA,reduceCtorEq,↓reduceIte,gcT,gcA,Zn,Zi,Zg,Zp,ZuP,ZjL,h,Zhr,hC]
  exact key
theorem ZeK (σ:Za) (sq own:Nat) (view:Bool) (s:List UInt8):Zr E BY σ sq 25 own view [.str s]=some (.bool (ZaW s),σ,{}) :=
 Za6 (ZEW s) (by kernel_rfl) (by simp -implicitDefEqProofs only [Zbe,ZD,eq_self]) (by simp -implicitDefEqProofs only [Zab,ZD,eq_self]) rfl (fun _=>rfl) _ _ _ _
end
section
def trH (ns:List TN) (n:Int):Za:=[.var [.nref 1 0 0,.int .i64 n],.arena (eNs ns)]
theorem ZHH:E 7 [] []=some (.ref 0 0,trH [([],[])] 0):=Zce.2 ⟨3,by kernel_rfl⟩
theorem ZH0 (ns:List TN) (n:Int):E 12 [.ref 0 0] (trH ns n)=some (.int .i64 n,trH ns n):=by
 unfold trH
 generalize eNs ns=A at *
 rw [ZQ (by rfl) ZMd]
 simp -implicitDefEqProofs only [EQA,Xj,Xe,Xc,reduceCtorEq,↓reduceIte,Zzn,ZoG,ZFe]
 simp -implicitDefEqProofs only [Zaw,gcA,Zn,Zx,XA,Xp,X6,Xal,XI,X7,XD,XL,Zo,Zi,Zp,ZS,Zg,Zm,Zf,XO,XU,Ze,Zv,Zb,ZD,eq_self,Xo,Xk,W4,beq_self_eq_true,reduceCtorEq,↓reduceIte,gcA,Zn,Zi,Ze,Zg,Zv,Zb,Zm,Zp,XO,X6,ZaR]
theorem Zdx {r:AVal} (hr:Zac r=true) (ns:List TN) (n:Int) (σ:Za):Zaw 2 (.var [.nref 1 0 0,.int .i64 n]::.arena (eNs ns)::σ) r=some (r,trH ns n):=by
 have hR:Wn 2=[0,1]:=rfl
 have h0:(Zk.var [.nref 1 0 0,.int .i64 n]::.arena (eNs ns)::σ).getD 0 .free=.var [.nref 1 0 0,.int .i64 n]:=rfl
 have h1:(Zk.var [.nref 1 0 0,.int .i64 n]::.arena (eNs ns)::σ).getD 1 .free=.arena (eNs ns):=rfl
 have hb0:Zp (.var [.nref 1 0 0,.int .i64 n])=[1]:=rfl
 have hb1:Zp (.arena (eNs ns))=[]:=rfl
 have hi:Zn 2 [r] (.var [.nref 1 0 0,.int .i64 n]::.arena (eNs ns)::σ)=[0,1]:=by
  simp only [Zn,Zx,(ZdJ (fun _ _=>none) r hr).2,Xp,hR,XI,X7,XA,h0,h1,hb0,hb1]
  rfl
 have hρ:Ze (.var [.nref 1 0 0,.int .i64 n]::.arena (eNs ns)::σ) 2 [0,1] 1 (1001+3*0)=some (1,1001+3*0):=ZdQ (j:=0) (by rfl) (by rfl) (by omega)
 simp only [Zaw,gcA,hi,Zg,Zo,(ZdJ _ r hr).1,h0,h1,Zm,Zf,hρ,if_true,trH]
theorem ZvI (ns:List TN) (hC:Closed ns) (hS:Small ns) (hj:0 < ns.length) (n:Int) (hn:-1000000<=n/\n<=1000000) (f k:Tx) (hf:f.length<=1048576) (hl:(Zh f).length<=2000000) :
  E 10 [.ref 0 0,.str f,.str k] (trH ns n)=some (.bool (ZL k (Zh f) ns 0).2,trH (ZL k (Zh f) ns 0).1 (if (ZL k (Zh f) ns 0).2 then n - 1 else n)):=by
 have hq:=Zqj k (Zh f) hl ns hC hS 0 hj
 have hlen:=ZhU k (Zh f) ns 0
 generalize (ZL k (Zh f) ns 0).1=ns' at *
 generalize (ZL k (Zh f) ns 0).2=b at *
 have hc:=fun {σ:Za} {sq:Nat} hs=>Zru (σ:=σ) (t:=1) (sq:=sq) hq (by rw [Ze7,Ze7,hlen];exact Xz _) (by simp [Z6,Zan]) hs
 have hlv:=fun σ sq own view=>Zgc σ sq own view f (by omega)
 have w:IntKind.i64.wrap (n - 1)=n - 1:=Zbx (by omega) (by omega)
 have ho:=fun n σ=>Zdx (r:=.bool b) rfl ns' n σ
 unfold trH at *
 generalize (Zh f).map AVal.str=S at *
 generalize eNs ns=A at *
 generalize eNs ns'=A' at *
 rw [ZQ (by rfl) ZFf]
 cases b with
 | true =>
  simp -implicitDefEqProofs only [EQA,Zad,Xj,Xe,Xo,Xc,Xk,reduceCtorEq,↓reduceIte,Zqr,Zkl,Zsn,hc,hlv,w,ho,AVal.cells,Zat,Zay,ZaM,Za9,Zbr,Zbp,ZbA,ZbE,ZaS,WG]
 | false =>
  simp -implicitDefEqProofs only [EQA,Zad,Xj,Xe,Xc,Xk,reduceCtorEq,↓reduceIte,Zqr,Zkl,Zsn,hc,hlv,ho,Zat,Zay,ZaM,Za9,Zbr,Zbp,ZbA,ZbE,ZaS,WG]
theorem ZHI {A A':ZF} {b:Bool} {S:List AVal} {k:Tx} {v:Int} {j:Nat} (h:E 30 [.nref 0 j 0,.lst false S,.str k,.int .i64 v] [.arena A]=some (.bool b,[.arena A'])) (hlen:A.length<=A'.length) (hp:[AVal.lst false S,.str k,.int .i64 v].all Z6=true) {σ:Za} {t sq:Nat} (hs:σ[t]?=some (.arena A)) :
  Zr E BY σ sq 30 0 true [.nref t j 0,.lst false S,.str k,.int .i64 v]=some (.bool b,σ.set t (.arena A'),{ any:=true }) :=
 Zke (q:=.bool b) (r:=.bool b) h (Zsv (Xm rfl) rfl) (by kernel_rfl) hp rfl hs hlen rfl rfl
theorem ZuU (ns:List TN) (hC:Closed ns) (hj:0 < ns.length) (n:Int) (hn:-1000000<=n/\n<=1000000) (f k:Tx) (v:Int) (hf:f.length<=1048576) (hl:(Zh f).length<=2000000) :
  E 9 [.ref 0 0,.str f,.str k,.int .i64 v] (trH ns n)=some (if ZaW f then (.int .i64 0,trH (Z0 k v (Zh f) ns 0).1 (if (Z0 k v (Zh f) ns 0).2 then n else n+1)) else (.int .i64 150,trH ns n)):=by
 have hq:=ZGF ns hC (Zh f) hl 0 hj k v
 have hlen:=Zka k v (Zh f) ns 0
 have hfl:=fun σ sq own view=>ZF8 σ sq own view f (by omega)
 cases hb:ZaW f with
 | false =>
  simp only [hb] at hfl
  simp only [Xg,if_false]
  have ho:=fun σ=>Zdx (r:=.int .i64 150) rfl ns n σ
  unfold trH at *
  generalize eNs ns=A at *
  rw [ZQ (by rfl) ZsD]
  simp -implicitDefEqProofs only [EQA,Xj,Xe,Xc,unA,reduceCtorEq,↓reduceIte,Zpc,ZhE,Zog,hfl,ho]
 | true =>
  simp only [hb] at hfl
  simp only [if_true]
  generalize (Z0 k v (Zh f) ns 0).1=ns' at *
  generalize (Z0 k v (Zh f) ns 0).2=b at *
  have hc:=fun {σ:Za} {sq:Nat} hs=>ZHI (σ:=σ) (t:=1) (sq:=sq) hq (by rw [Ze7,Ze7];exact hlen) (by simp [Z6,Zan]) hs
  have hlv:=fun σ sq own view=>Zgc σ sq own view f (by omega)
  have w:IntKind.i64.wrap (n+1)=n+1:=Zbx (by omega) (by omega)
  have ho:=fun n σ=>Zdx (r:=.int .i64 0) rfl ns' n σ
  unfold trH at *
  generalize (Zh f).map AVal.str=S at *
  generalize eNs ns=A at *
  generalize eNs ns'=A' at *
  rw [ZQ (by rfl) ZsD]
  cases b with
  | true =>
   simp -implicitDefEqProofs only [EQA,Zad,Xj,Xe,Xc,Xk,unA,reduceCtorEq,↓reduceIte,Zpc,ZhE,Zog,hfl,hc,hlv,ho,Zat,Zay,ZaM,Za9,Zbr,Zbp,ZbA,ZbE,ZaS,WG]
  | false =>
   simp -implicitDefEqProofs only [EQA,Zad,Xj,Xe,Xo,Xc,Xk,unA,reduceCtorEq,↓reduceIte,Zpc,ZhE,Zog,hfl,hc,hlv,w,ho,AVal.cells,Zat,Zay,ZaM,Za9,Zbr,Zbp,ZbA,ZbE,ZaS,WG]
theorem ZLx {A:ZF} {S:List AVal} {o:Option Nat} (h:E 42 [.nref 0 0 0,.lst false S] [.arena A]=some (nxV 0 o,[.arena A])) (hp:[AVal.lst false S].all Z6=true) {σ:Za} {t sq:Nat} (hs:σ[t]?=some (.arena A)) :
  Zr E BY σ sq 42 0 false [.nref t 0 0,.lst false S]=some (nxV t o,σ.set t (.arena A),{ any:=true }):=by
 cases o with
 | none=>exact Zke (q0:=.nilp) (q:=.nilp) (r:=.nilp) h rfl (by kernel_rfl) hp rfl hs (Xz _) rfl rfl
 | some i=>exact Zke (q0:=.nref 0 i 0) (q:=.nref 0 i 0) (r:=.nref t i 0) h rfl (by kernel_rfl) hp rfl hs (Xz _) rfl (ZJF hs)
def Zal (ns:List TN) (ls:List Tx) (k:Tx):Option Int:=match goT ns 0 ls with
 | some i=>match ns[i]? with
  | some d=>Zq k d.1
  | none=>none
 | none=>none
theorem ZfB {ns:List TN} (hC:Closed ns):∀ (ls:List Tx) (j i:Nat),j < ns.length->goT ns j ls=some i->i < ns.length
 | [],j,i,hj,h=>by simp only [goT,Xa] at h;omega
 | l::r,j,i,hj,h=>by
  obtain ⟨d,hd⟩:∃ d,ns[j]?=some d:=⟨_,Xl hj⟩
  simp only [goT,hd] at h
  cases hk:Zq l d.2 with
  | none=>rw [hk] at h;cases h
  | some i'=>rw [hk] at h;exact ZfB hC r i' i (hC.next hd hk).2 h
theorem ZDH (ns:List TN) (hC:Closed ns) (hj:0 < ns.length) (n:Int) (f k:Tx) (hf:f.length<=1048576) (hl:(Zh f).length<=2000000) :
  E 26 [.ref 0 0,.str f,.str k] (trH ns n)=some (.tup [.int .i64 ((Zal ns (Zh f) k).getD 0),.bool (Zal ns (Zh f) k).isSome],trH ns n):=by
 have hq:=ZMa ns hC (Zh f) hl 0 hj
 have hlv:=fun σ sq own view=>Zgc σ sq own view f (by omega)
 have hc:=fun {σ:Za} {sq:Nat} hs=>ZLx (σ:=σ) (t:=1) (sq:=sq) hq (by simp [Z6,Zan]) hs
 cases hg:goT ns 0 (Zh f) with
 | none =>
  have e:Zal ns (Zh f) k=none:=by simp only [Zal,hg]
  rw [e]
  simp only [hg,nxV] at hc
  have ho:=fun σ=>Zdx (r:=.tup [.int .i64 0,.bool false]) rfl ns n σ
  unfold trH at *
  simp only [Option.getD_none,Option.isSome_none]
  generalize (Zh f).map AVal.str=S at *
  generalize eNs ns=A at *
  rw [ZQ (by rfl) ZpF]
  simp -implicitDefEqProofs only [EQA,Zad,Xj,Xe,Xc,Xk,reduceCtorEq,↓reduceIte,Ztw,Zkg,ZqZ,hc,hlv,ho,Zat,Zay,ZaM,Za9,Zbr,Zbp,ZbA,ZbE,ZaS,WG]
 | some i =>
  have hi:=ZfB hC _ _ _ hj hg
  obtain ⟨d,hd⟩:∃ d,ns[i]?=some d:=⟨_,Xl hi⟩
  have e:Zal ns (Zh f) k=Zq k d.1:=by simp only [Zal,hg,hd]
  rw [e]
  simp only [hg,nxV] at hc
  have hs:∀ x σ,ZY (x::.arena (eNs ns)::σ) 1=some (eNs ns):=fun _ _=>rfl
  have q1:=ZaV hd
  have q2:=fun x σ=>Zm3 (hs x σ) hd k
  have ho:=fun σ=>Zdx (r:=.tup [.int .i64 ((Zq k d.1).getD 0),.bool (Zq k d.1).isSome]) rfl ns n σ
  unfold trH at *
  generalize (Zh f).map AVal.str=S at *
  generalize eN d=D at *
  generalize eNs ns=A at *
  generalize (Zq k d.1).getD 0=x1 at *
  generalize (Zq k d.1).isSome=x2 at *
  rw [ZQ (by rfl) ZpF]
  simp -implicitDefEqProofs only [EQA,Zad,Xj,Xe,Xc,Xk,reduceCtorEq,↓reduceIte,Ztw,Zkg,ZqZ,hc,hlv,hs,q1,q2,ho,Zat,Zay,ZaM,Za9,Zbr,Zbp,ZbA,ZbE,ZaS,WG]
end
section
def kyR (r:Zl):List UInt8×List UInt8:=(r.f,r.k)
def ltR (a b:Zl):Prop:=lt2 (kyR a) (kyR b)
theorem ZgN (a b:Zl):ZcK a b=true↔ltR a b:=by
 unfold ZcK ltR lt2 kyR
 simp
theorem Zsy:∀ L:List Zl,Zb4 Zc2 (L.map Zc)=some (L.map kyR)
 | []=>rfl
 | x::L=>by
  show (Zb4 Zc2 (L.map Zc)).map ((x.f,x.k)::·)=_
  rw [Zsy L];rfl
theorem ZmY {x y:List UInt8×List UInt8} (h:lt2 x y):leC ZaD x y=true:=by
 unfold leC
 have : ¬lt2 y x:=fun h'=>ZdV _ (Zev h h')
 simp only [Zea,this,decide_false,XaH]
theorem Zkh {x y:List UInt8×List UInt8} (h:leC ZaD x y=true):¬lt2 y x:=by
 unfold leC at h
 simpa only [Zea,We,decide_eq_false_iff_not] using h
theorem ZAc {L S:List Zl} (hp:S.Perm L) (hs:S.Pairwise ltR):ZdD ZaD (L.map Zc) (L.map kyR)=S.map Zc/\(L.map kyR).Nodup:=by
 have hnd:(S.map kyR).Nodup:=by
  rw [List.Nodup,Xby]
  exact hs.imp fun h e=>by unfold ltR at h;rw [e] at h;exact ZdV _ h
 have hndL:(L.map kyR).Nodup:=(hp.map kyR).nodup_iff.1 hnd
 refine ⟨?_,hndL⟩
 have hms:(L.map kyR).mergeSort (leC ZaD)=S.map kyR:=by
  have ht:∀ a b c,leC ZaD a b=true->leC ZaD b c=true->leC ZaD a c=true:=by
   intro a b c h1 h2
   have h1:=Zkh h1
   have h2:=Zkh h2
   by_cases e:lt2 a c
   ·exact ZmY e
   ·by_cases e2:lt2 c a
    ·exfalso
     by_cases e3:lt2 a b
     ·exact h2 (Zev e2 e3)
     ·have:=ZdS e3 h1;subst this;exact h2 e2
    ·have:=ZdS e e2;subst this
     unfold leC;simp [Zea,ZdV]
  have hto:∀ a b,(leC ZaD a b || leC ZaD b a)=true:=by
   intro a b
   by_cases e:lt2 a b
   ·simp [ZmY e]
   ·have : leC ZaD b a=true:=by unfold leC;simp [Zea,e]
    simp [this]
  have h1:=List.pairwise_mergeSort ht hto (L.map kyR)
  have h2:(S.map kyR).Pairwise fun a b=>leC ZaD a b=true:=by
   rw [Xby];exact hs.imp fun h=>ZmY h
  exact (((List.mergeSort_perm _ _).trans (hp.map kyR).symm)).eq_of_pairwise (fun a b _ _ h1 h2=>ZdS (Zkh h2) (Zkh h1)) h1 h2
 unfold ZdD
 rw [ZeM,hms,Wb]
 apply List.map_congr_left
 intro s hsS
 have hsL:=hp.mem_iff.1 hsS
 obtain ⟨i,hi⟩:=List.mem_iff_getElem?.1 hsL
 simp only [Function.comp]
 rw [Zf6 (i:=i) (y:=Zc s) hndL (by rw [XM,hi];rfl) (by rw [XM,hi];rfl)]
 rfl
end
section
theorem ZEe {L S:List Zl} (hp:S.Perm L) (hs:S.Pairwise ltR):ZeZ (L.map Zc)=some (S.map Zc):=by
 obtain ⟨h1,h2⟩:=ZAc hp hs
 unfold ZeZ
 rw [Zsy]
 simp only [h2,if_true,h1]
theorem ZDu {L S:List Zl} (hp:S.Perm L) (hs:S.Pairwise ltR) (hl:L.length < 4611686018427387904):E 49 [.sl 0 0 0 L.length,.fn 50 []] [.bag 0 3 (WZ _ (L.map Zc))]=some (.tup [],[.row 0 3 (S.map Zc)]):=by
 have h:=ZEe hp hs
 refine Zce.2 ⟨1,?_⟩
 show ZfN 50 [.sl 0 0 0 L.length,.fn 50 []] [.bag 0 3 (WZ _ (L.map Zc))]=_
 have h2:Zuc (WZ _ (L.map Zc))=some (S.map Zc):=h
 have h3:L.length=Zy (WZ _ (L.map Zc)):=by show L.length=(L.map Zc).length;simp
 simp only [ZfN,h2]
 rw [if_pos ⟨h3,hl,trivial,trivial⟩]
theorem ZGZ {O:ZG} {bf:Nat->Bool} {σ:Za} {t sq f own k:Nat} {view:Bool} {args args':List AVal} {q:Bag} {xs':List AVal} {r:AVal} (hs:σ[t]?=some (.bag 0 k q)) (hb:bf f=true) (hff:Zai σ sq own=true)
  (href:Zx args=[t]) (hren:∀ ρ:Rho,ρ t 0=some (0,0)->Zo ρ args=args') (hr:∀ ρ:Rho,Zf ρ r=r)
  (h:Zaj view 1 (O f args' [.bag 0 k q])=some (r,[.row 0 k xs'])):Zr O bf σ sq f own view args=some (r,σ.set t (.row 0 k xs'),{ any:=true }):=by
 have hd:σ.getD t .free=.bag 0 k q:=by simp [Xf,hs]
 have hf0:Zt σ []=σ:=rfl
 unfold Zr Zcd
 rw [hb]
 simp only [if_true,hf0,href]
 have hreach:Zi σ 1000 [t] []=[t]:=by
  simp only [Zi,XU,Xg,if_false,hd,Zp,Xp]
 rw [hreach]
 unfold ZbH
 have hall:([t].all fun t=>okB (σ.getD t .free))=true:=by simp [X8,WC,hs,okB]
 rw [if_pos hall]
 have hρ:Ze σ 0 [t] t 0=some (0,0):=by simp [Ze,Zv,hs,Zb,Zu]
 have hheap:Zg σ 0 [t] (Ze σ 0 [t]) [t] 0=[.bag 0 k q]:=by
  simp only [Zg,hd,Zu,Zb,Zm,Nat.not_lt_zero,false_and,if_false,Xo]
 rw [hren _ hρ,hheap]
 simp only [XE,XP,XC]
 rw [h]
 have hk:Z5 σ [t] [.row 0 k xs'] 0=true:=by simp [Z5,okB,hs,Za1,Zb]
 have hren':∀ ρ,Zm ρ (ZaP σ [t] 0 (.row 0 k xs')) (.row 0 k xs')=.row 0 k xs':=by
  intro ρ
  simp [ZaP,hs,Zb,Zm]
 simp only [Zar,Xa7,Xg,if_false,XE,XP,XC,Nat.le_add_right,Xz,decide_true,hk,hff,Wm,if_true,ZW,ZaK,ZT,XD,hr,hren']
 have htl:t < σ.length:=(Xd.1 hs).1
 have hg:(σ.set t (.row 0 k xs'))[t]?=some (.row 0 k xs'):=by simp [htl]
 simp only [hg]
theorem ZIn {L S:List Zl} (hp:S.Perm L) (hs:S.Pairwise ltR) (hl:L.length < 4611686018427387904) {σ:Za} {t sq:Nat} (hσ:σ[t]?=some (.bag 0 3 (WZ _ (L.map Zc)))):Zr E BY σ sq 49 0 true [.sl t 0 0 L.length,.fn 50 []]=some (.tup [],σ.set t (.row 0 3 (S.map Zc)),{ any:=true }):=by
 refine ZGZ (args':=[.sl 0 0 0 L.length,.fn 50 []]) hσ (by kernel_rfl) rfl rfl (fun ρ h=>by simp only [Zo,Zf,h]) (fun ρ=>rfl) ?_
 rw [ZDu hp hs hl]
 rfl
theorem Zq4 {L S:List Zl} (hp:S.Perm L) (hs:S.Pairwise ltR) (hl:L.length < 4611686018427387904):E 36 [.sl 0 0 0 L.length] [.bag 0 3 (WZ _ (L.map Zc))]=some (.sl 0 0 0 L.length,[.row 0 3 (S.map Zc)]):=by
 have h:=fun {σ:Za} {sq:Nat} hσ=>ZIn hp hs hl (σ:=σ) (t:=0) (sq:=sq) hσ
 generalize S.map Zc=X at *
 generalize (WZ _ (L.map Zc):Bag)=Y at *
 rw [ZQ (by rfl) ZIu]
 simp -implicitDefEqProofs only [EQA,Xe,Xc,reduceCtorEq,↓reduceIte,ZEM,ZnR,ZCQ,h]
 simp -implicitDefEqProofs only [Zaw,gcA,Zn,Zx,XA,Xp,X6,Xal,XI,X7,XD,Zo,Zi,Zp,ZS,Zg,Zm,Zf,XO,XU,Ze,Zv,Zb,Zu,ZD,eq_self,Xe,Xo,beq_self_eq_true,ne_eq,↓reduceIte,gcA,Zn,Zi,Ze,Zg,Zv,Zb,Zu,Zm,Zp,XO,X6]
theorem Zqu {O:ZG} {bf:Nat->Bool} {σ:Za} {t sq f own k lo n:Nat} {args args' xs':List AVal} {xs:Bag} (hs:σ[t]?=some (.bag 0 k xs)) (hb:bf f=true) (hff:Zai σ sq own=true)
  (href:Zx args=[t]) (hren:∀ ρ:Rho,ρ t 0=some (0,0)->Zo ρ args=args')
  (h:O f args' [.bag 0 k xs]=some (.sl 0 0 lo n,[.row 0 k xs'])):Zr O bf σ sq f own false args=some (.sl t 0 lo n,σ.set t (.row 0 k xs'),{ any:=true }):=by
 have hd:σ.getD t .free=.bag 0 k xs:=by simp [Xf,hs]
 have hf0:Zt σ []=σ:=rfl
 unfold Zr Zcd
 rw [hb]
 simp only [if_true,hf0,href]
 have hreach:Zi σ 1000 [t] []=[t]:=by
  simp only [Zi,XU,Xg,if_false,hd,Zp,Xp]
 rw [hreach]
 unfold ZbH
 have hall:([t].all fun t=>okB (σ.getD t .free))=true:=by simp [X8,WC,hs,okB]
 rw [if_pos hall]
 have hρ:Ze σ 0 [t] t 0=some (0,0):=by simp [Ze,Zv,hs,Zb,Zu]
 have hheap:Zg σ 0 [t] (Ze σ 0 [t]) [t] 0=[.bag 0 k xs]:=by
  simp only [Zg,hd,Zu,Zb,Zm,Nat.not_lt_zero,false_and,if_false,Xo]
 rw [hren _ hρ,hheap]
 simp only [XE,XP,XC]
 rw [h]
 have hk:Z5 σ [t] [.row 0 k xs'] 0=true:=by simp [Z5,okB,hs,Za1,Zb]
 have hren':∀ ρ,Zm ρ (ZaP σ [t] 0 (.row 0 k xs')) (.row 0 k xs')=.row 0 k xs':=by
  intro ρ
  simp [ZaP,hs,Zb,Zm]
 have hr:Zf (Zaf σ [t] sq) (.sl 0 0 lo n)=.sl t 0 lo n:=by
  simp [Zf,Zaf,Zb,hs]
 simp only [Zaj,Xg,if_false,Zar,Xa7,XE,XP,XC,Nat.le_add_right,Xz,decide_true,hk,hff,Wm,if_true,ZW,ZaK,ZT,XD,hr,hren']
 have htl:t < σ.length:=(Xd.1 hs).1
 have hg:(σ.set t (.row 0 k xs'))[t]?=some (.row 0 k xs'):=by simp [htl]
 simp only [hg]
end
section
def Zcz:List (List UInt8)->List (List UInt8)->Bool
 | [],n=>n.isEmpty
 | x::f,n=>x == [35] || (match n with
  | []=>false
  | y::n=>(x == [43] || x == y) && Zcz f n)
def Zh9 (x:List UInt8):Bool:=x == [43] || x == [35]
def ZaY (f s:List UInt8):Bool:=ZaW f && ZbD s && !((s.headD 0 == 36) && Zh9 ((Zh f).headD [])) && Zcz (Zh f) (Zh s)
theorem ZkI {s:List UInt8} (h:ZbD s=true):∃ b t,s=b::t:=by
 cases s with
 | nil=>simp [ZbD,Zcm] at h
 | cons b t=>exact ⟨b,t,rfl⟩
theorem ZnP {s:List UInt8} (h:ZbD s=true):s.length<=64:=by
 simp only [ZbD,Xi] at h;exact ZfZ h.1
theorem ZFE (x:List UInt8) (r:List (List UInt8)) (σ:Za) (kk:IntKind):Zbd σ 1 (.lst false ((x::r).map AVal.str)) (.int kk 0)=some (.iptr [.str x] 0,σ,{}):=by
 exact iad (l:=x::r) (i:=0) (x:=x) rfl AVal.str (k:=1) rfl σ false kk
theorem Zqy (F S:List (List UInt8)) (hF:F.length<=9223372036854775807) (hS:S.length<=9223372036854775807):∀ (r n:List (List UInt8)) (i:Nat),F.drop i=r->S.drop i=n->i<=F.length->i<=S.length ->
  Zha 0 [(7,.int .i64 i),(6,.lst false (S.map AVal.str)),(5,.lst false (F.map AVal.str))] []=some (.bool (Zcz r n),[])
 | [],n,i,h,hn,hi,hi'=>by
  have h1:=ZcS h
  have he:(((F.length:Int)) == ((S.length:Int)))=n.isEmpty:=by
   have hfi:F.length=i:=by have:=Wq.1 h;omega
   have h2:=congrArg Xa5 hn
   simp only [Wv] at h2
   cases n with
   | nil=>simp at h2 ⊢;omega
   | cons y n=>simp at h2 ⊢;omega
  unfold Zha
  rw [ZO]
  simp -implicitDefEqProofs only [EQA,Xe,Xc,↓reduceIte,Zen,ZIf,Zlz,ZfE,Zez,h1,he]
  rfl
 | x::r,[],i,h,hn,hi,hi'=>by
  have hlt:=(Zau h).2.2
  have h1:(i:Int) < F.length:=by omega
  have e1:=iad (Zau h).1 AVal.str (k:=1) rfl
  have he:(i:Int)>=((S.length:Int)):=by have:=Wq.1 hn;omega
  have he':((S.length:Int))>=(i:Int):=by omega
  unfold Zha
  rw [ZO]
  cases hp:(x == [35])
  ·have ee:Zcz (x::r) []=false:=by simp [Zcz,hp]
   rw [ee]
   simp -implicitDefEqProofs only [EQA,Zab,Xe,Xc,Xk,Z7,Zs,Z4,reduceCtorEq,↓reduceIte,Zen,ZfE,Zez,h1,e1,he,hp]
  ·have ee:Zcz (x::r) []=true:=by simp [Zcz,hp]
   rw [ee]
   simp -implicitDefEqProofs only [EQA,Zab,Xe,Xc,Z7,↓reduceIte,Zen,ZfE,Zez,h1,e1,he',hp]
 | x::r,y::n,i,h,hn,hi,hi'=>by
  have hlt:=(Zau h).2.2
  have hlt':=(Zau hn).2.2
  have ih:=Zqy F S hF hS r n (i+1) (Zau h).2.1 (Zau hn).2.1 (by omega) (by omega)
  have h1:(i:Int) < F.length:=by omega
  have h3:=ZbG h1 hF
  have e1:=iad (Zau h).1 AVal.str (k:=1) rfl
  have e2:=iad (Zau hn).1 AVal.str (k:=1) rfl
  have he:¬(i:Int)>=((S.length:Int)):=by omega
  have he':((S.length:Int))>=(i:Int):=by omega
  have ee:Zcz (x::r) (y::n)=(x == [35] || ((x == [43] || x == y) && Zcz r n)):=rfl
  rw [ee]
  unfold Zha at ih ⊢
  rw [ZO]
  cases hp:(x == [35])
  ·cases hq:(x == [43])
   ·cases hz:(x == y)
    ·simp -implicitDefEqProofs only [EQA,Zab,Xe,Xc,Xk,Z7,Zs,unG,reduceCtorEq,↓reduceIte,Zen,ZfE,Zez,h1,e1,e2,he,hp,hq,hz]
    ·simp -implicitDefEqProofs only [EQA,Zab,ZE,Xe,Xc,Xk,Z7,Zs,unG,reduceCtorEq,↓reduceIte,gcT,gcA,Zn,Zi,Zg,Zp,ZfE,Zez,h1,h3,e1,e2,he,hp,hq,hz]
     exact ih
   ·simp -implicitDefEqProofs only [EQA,Zab,ZE,Xe,Xc,Xk,Z7,Zs,Z4,unG,reduceCtorEq,↓reduceIte,gcT,gcA,Zn,Zi,Zg,Zp,ZfE,Zez,h1,h3,e1,he,hp,hq]
    exact ih
  ·simp -implicitDefEqProofs only [EQA,Zab,Xe,Xc,Z7,↓reduceIte,Zen,ZfE,Zez,h1,e1,he',hp]
theorem ZK5 {s:List UInt8} (h:ZaW s=true):s.length<=64:=by
 simp only [ZaW,Xi] at h;exact ZfZ h.2
theorem ZJv (f s:List UInt8):E 22 [.str f,.str s] []=some (.bool (ZaY f s),[]):=by
 rw [ZQ (by rfl) ZLL]
 unfold ZaY
 cases h1:ZaW f
 ·simp -implicitDefEqProofs only [EQA,Xe,Xc,unA,Zs,Z4,reduceCtorEq,↓reduceIte,Zfz,ZeH,Zen,ZeK,h1]
 cases h2:ZbD s
 ·simp -implicitDefEqProofs only [EQA,Xe,Xc,unA,Zs,unG,reduceCtorEq,↓reduceIte,Zfz,ZeH,Zen,ZeK,h1,Zgp,h2]
 have hlf:=ZK5 h1
 have hLf:=fun σ sq own=>ZlD σ sq own f (by omega)
 have hl:=ZnP h2
 have hLs:=fun σ sq own=>ZlD σ sq own s (by omega)
 obtain ⟨b,t,rfl⟩:=ZkI h2
 have hlenf:=Ze9 f
 have hlens:=Ze9 (b::t)
 have hcf:=WV (a:=(47:UInt8)) (l:=f)
 have hcs:=WV (a:=(47:UInt8)) (l:=b::t)
 have key:=Zqy (Zh f) (Zh (b::t)) (by omega) (by omega) (Zh f) (Zh (b::t)) 0 rfl rfl (by omega) (by omega)
 obtain ⟨x0,r0,hx⟩:∃ x r,Zh f=x::r:=by
  cases h:Zh f with
  | nil=>exact absurd h (Zfb f)
  | cons x r=>exact ⟨x,r,rfl⟩
 rw [hx] at key hLf ⊢
 have hdol:((b.toNat:Int) == 36)=(b == 36):=by
  rw [Xac]
  simp only [beq_iff_eq,<-Xam]
  have : (36:UInt8).toNat=36:=rfl
  omega
 unfold Zha at key
 have z0:((0:Nat):Int)=0:=rfl
 rw [z0] at key
 simp only [Xas,Zh9]
 generalize Zh (b::t)=S at *
 have hi0:=fun σ kk=>ZFE x0 r0 σ kk
 simp only [Xx] at key hLf hi0
 cases h4:(x0 == [43])
 ·cases h5:(x0 == [35])
  ·simp -implicitDefEqProofs only [EQA,ZE,Xe,Xc,Z7,unA,Zs,Z4,unG,reduceCtorEq,↓reduceIte,gcT,gcA,Zn,Zi,Zg,Zp,Zfz,ZeH,ZeK,h1,Zgp,h2,hLf,hLs,h4,h5,hi0]
   exact key
  ·cases h3:(b == 36)
   ·simp -implicitDefEqProofs only [EQA,ZE,Xe,Xc,Z7,unA,Zs,unG,reduceCtorEq,↓reduceIte,gcT,gcA,Zn,Zi,Zg,Zp,Zfz,ZeH,ZeK,h1,Zgp,h2,hLf,hLs,hdol,h3,h4,h5,Z3,WB,Ws,hi0]
    exact key
   ·simp -implicitDefEqProofs only [EQA,Xe,Xc,Z7,unA,Zs,unG,reduceCtorEq,↓reduceIte,Zfz,ZeH,Zen,ZeK,h1,Zgp,h2,hLf,hLs,hdol,h3,h4,h5,Z3,WB,Ws,hi0]
 ·cases h3:(b == 36)
  ·simp -implicitDefEqProofs only [EQA,ZE,Xe,Xc,Z7,unA,Zs,Z4,unG,reduceCtorEq,↓reduceIte,gcT,gcA,Zn,Zi,Zg,Zp,Zfz,ZeH,ZeK,h1,Zgp,h2,hLf,hLs,hdol,h3,h4,Z3,WB,Ws,hi0]
   exact key
  ·simp -implicitDefEqProofs only [EQA,Xe,Xc,Z7,unA,Zs,Z4,unG,reduceCtorEq,↓reduceIte,Zfz,ZeH,Zen,ZeK,h1,Zgp,h2,hLf,hLs,hdol,h3,h4,Z3,WB,Ws,hi0]
theorem ZGQ (σ:Za) (sq own:Nat) (view:Bool) (f s:List UInt8):Zr E BY σ sq 22 own view [.str f,.str s]=some (.bool (ZaY f s),σ,{}) :=
 Za6 (ZJv f s) (by kernel_rfl) (by simp -implicitDefEqProofs only [Zbe,ZD,eq_self]) (by simp -implicitDefEqProofs only [Zab,ZD,eq_self]) rfl (fun _=>rfl) _ _ _ _
end
section
theorem Zpy (σ:Za) (sq:Nat):Zr E BY σ sq 36 0 false [.lst true []]=some (.lst true [],σ,{}):=by
 have h:E 36 [.lst true []] []=some (.lst true [],[]):=Zce.2 ⟨3,by kernel_rfl⟩
 unfold Zr Zcd
 rw [show BY 36=true by kernel_rfl]
 simp only [if_true,show Zx [AVal.lst true []]=[] from rfl,show Zt σ []=σ from rfl]
 rw [show Zi σ 1000 [] []=[] from rfl]
 unfold ZbH
 rw [if_pos (by rfl),show Zo (Ze σ 0 []) [AVal.lst true []]=[.lst true []] from rfl,show Zg σ 0 [] (Ze σ 0 []) [] 0=[] from rfl,h]
 rfl
abbrev Zd0 (a u:Nat) (p:Tx) (S:List AVal) (b:Bool):List AVal:=[.nref a 0 0,.str p,.lst false S,.bool b,.fn 35 [.ref u 0]]
section
variable {A:ZF} {a u sq:Nat} {p:Tx} {S:List AVal} {b:Bool} {σ:Za} (hau:a≠u) (h0:σ[a]?=some (.arena A)) (h1:σ[u]?=some (.var [.lst true []])) (hff:Zai σ sq 1=true)
include hau h0 h1
theorem Zpt:Zi σ 1000 (Zx (Zd0 a u p S b)) []=[a,u]/\Zo (Ze σ 0 [a,u]) (Zd0 a u p S b)=Zd0 0 1 p S b/\Zg σ 0 [a,u] (Ze σ 0 [a,u]) [a,u] 0=hM (.arena A) none 0/\([a,u].all fun t=>okB (σ.getD t .free))=true:=by
 have g0:σ.getD a .free=.arena A:=by simp [Xf,h0]
 have g1:σ.getD u .free=.var [.lst true []]:=by simp [Xf,h1]
 have href:Zx (Zd0 a u p S b)=[a,u]:=rfl
 have hρ:Ze σ 0 [a,u] a 1001=some (0,1001):=ZdQ (j:=0) h0 (by simp [Zv]) (by omega)
 have hρ1:Ze σ 0 [a,u] u 0=some (1,0):=by simp [Ze,Zv,h1,Zb,Zu,hau]
 refine ⟨?_,?_,?_,?_⟩
 ·rw [href]
  have c2:([a]:List Nat).contains u=false:=by simp;exact fun e=>hau e.symm
  simp only [Zi,XU,Xg,if_false,g0,g1,c2,Zp,Zx,ZS,Xp,XA,XH]
 ·simp only [Zd0,Zo,Zf,hρ,hρ1,if_true,Nat.mul_zero,Nat.add_zero]
 ·simp only [Zg,g0,g1,Zm,Zo,Zf];rfl
 ·simp only [X8,WC,g0,g1,okB,Wm]
include hff
theorem ZBZ (hE:E 34 (Zd0 0 1 p S b) (hM (.arena A) none 0)=some (.tup [],hM (.arena A) none 0)) :
  Zr E BY σ sq 34 1 false (Zd0 a u p S b)=some (.tup [],σ,{ any:=true,upd:=[(u,[.lst true []])] }):=by
 obtain ⟨hre,hvs,hh,hall⟩:=Zpt (p:=p) (S:=S) (b:=b) hau h0 h1
 have hk:Z5 σ [a,u] (hM (.arena A) none 0) 0=true:=by simp [hM,Z5,okB,Za1,Zb,h0,h1]
 refine Zb7 (r:=.tup []) (r':=.tup []) (view:=false) (by kernel_rfl) rfl hre rfl hall hvs hh hE rfl (by simp [hM]) (by simp [hM]) hk hff rfl (σ':=σ) ?_ (by simp [ZaK,h0,h1])
 simp only [hM,ZW,ZT,XD,XL,Zm,Zo,Zf]
 rw [Zdu h0,Zdu h1]
theorem ZFj {q:Bag} (hE:E 34 (Zd0 0 1 p S b) (hM (.arena A) none 0)=some (.tup [],hM (.arena A) (some q) 0)) :
  Zr E BY σ sq 34 1 false (Zd0 a u p S b)=some (.tup [],(σ.set u (.var [.sl sq 0 0 (Zy q)])).set sq (.bag 0 3 q),{ any:=true,upd:=[(u,[.sl sq 0 0 (Zy q)])] }):=by
 obtain ⟨hre,hvs,hh,hall⟩:=Zpt (p:=p) (S:=S) (b:=b) hau h0 h1
 have hlu:u < σ.length:=(Xd.1 h1).1
 have hst:σ[sq]?=some .free:=by
  have:=Zes (i:=0) hff (by omega)
  simpa using this
 have hsl:sq < σ.length:=(Xd.1 hst).1
 have nu:sq≠u:=by rintro rfl;rw [h1] at hst;cases hst
 have na:sq≠a:=by rintro rfl;rw [h0] at hst;cases hst
 have hk:Z5 σ [a,u] (hM (.arena A) (some q) 0) 0=true:=by simp [hM,Z5,okB,Za1,Zb,h0,h1]
 have hlay:ZW σ [a,u] sq (hM (.arena A) (some q) 0) 0 σ=(σ.set u (.var [.sl sq 0 0 (Zy q)])).set sq (.bag 0 3 q):=by
  simp only [hM,ZW,ZT,XD,XL,Zm,Zo]
  rw [Zdu h0]
  simp [ZaP,Zaf,Zf,Zb,Xf]
 have h3:((σ.set u (.var [.sl sq 0 0 (Zy q)])).set sq (.bag 0 3 q))[u]?=some (.var [.sl sq 0 0 (Zy q)]):=by
  rw [Xs nu,XF hlu]
 have h4:((σ.set u (.var [.sl sq 0 0 (Zy q)])).set sq (.bag 0 3 q))[a]?=some (.arena A):=by
  rw [Xs na,Xs (fun e=>hau e.symm)];exact h0
 exact Zb7 (r:=.tup []) (r':=.tup []) (view:=false) (by kernel_rfl) rfl hre rfl hall hvs hh hE rfl (by simp [hM]) (by simp [hM]) hk hff rfl hlay (by simp [ZaK,h3,h4])
end
theorem ZpD (s:Tx):ZdC (Zh s)<=3*s.length+2:=by
 have h1:=Ze9 s
 have h2:=WV (a:=(47:UInt8)) (l:=s)
 have h3:∀ l:Tx,ZdC (Zh l)+47<=3*l.length+49:=by
  intro l
  induction l with
  | nil=>simp [Zh,ZdC]
  | cons b r ih =>
   simp only [Zh]
   split
   ·simp only [ZdC,Xx,XbL,XP,XE] at ih ⊢;omega
   ·split
    ·rename_i h t e
     rw [e] at ih
     simp only [ZdC,Xx,XbL,XE] at ih ⊢;omega
    ·simp [ZdC];omega
 have:=h3 s
 omega
theorem Zul {σ:Za} {r k:Nat} {Y:List AVal} (ns:List TN) (n:Int) (h0:σ[0]?=some (.var [.nref 1 0 0,.int .i64 n])) (h1:σ[1]?=some (.arena (eNs ns))) (h2:σ[r]?=some (.row 0 3 Y)) (hr:2<=r):Zaw 2 σ (.sl r 0 0 k)=some (.sl 2 0 0 k,trH ns n++[.row 0 3 Y]):=by
 have hR:Wn 2=[0,1]:=rfl
 have g0:σ.getD 0 .free=.var [.nref 1 0 0,.int .i64 n]:=by simp [Xf,h0]
 have g1:σ.getD 1 .free=.arena (eNs ns):=by simp [Xf,h1]
 have g2:σ.getD r .free=.row 0 3 Y:=by simp [Xf,h2]
 have n0:¬0=r:=by omega
 have n1:¬1=r:=by omega
 have m0:¬r=0:=by omega
 have m1:¬r=1:=by omega
 have nr:¬r < 2:=by omega
 have c2:([0,1]:List Nat).contains r=false:=by simp [m0,m1]
 have hi:Zn 2 [.sl r 0 0 k] σ=[0,1,r]:=by
  simp only [Zn,Zx,ZS,hR,XI,X7,XA,g0,g1,Zp]
  have c3:([0,1,r]:List Nat).contains 1=true:=by simp
  simp only [Zi,c2,c3,Xg,if_false,if_true,g2,Zp,Xp,XH]
 have hρ:Ze σ 2 [0,1,r] r 0=some (2,0):=by simp [Ze,Zv,h2,Zb,Zu,n0,n1]
 have hρ1:Ze σ 2 [0,1,r] 1 (1001+3*0)=some (1,1001+3*0):=ZdQ (j:=0) h1 (by rfl) (by omega)
 simp only [Zaw,gcA,hi,Zo,Zf,Zg,g0,g1,g2,Zm,hρ,hρ1,trH,if_true]
 simp [Zu,Zb]
theorem Zzz (ns:List TN) (n:Int) (name:Tx) (hn:ZbD name=false):E 11 [.ref 0 0,.str name] (trH ns n)=some (.lst true [],trH ns n):=by
 have ho:=fun σ=>Zdx (r:=.lst true []) rfl ns n σ
 have q1:=fun σ sq own view=>ZlA σ sq own view name
 rw [hn] at q1
 unfold trH at *
 generalize eNs ns=A at *
 rw [ZQ (by rfl) ZnO]
 simp -implicitDefEqProofs only [EQA,Xj,Xe,Xc,unA,reduceCtorEq,↓reduceIte,Znn,Zh8,Zmk,q1,ho]
theorem ZHF (ns:List TN) (hC:Closed ns) (hj:0 < ns.length) (n:Int) (name:Tx) (hn:ZbD name=true) (hR:Zbk ns (Zh name) (name.headD 0 == 36) [0] 0=[]):E 11 [.ref 0 0,.str name] (trH ns n)=some (.lst true [],trH ns n):=by
 have hl:=ZnP hn
 have hq:=ZrR ns hC (Zh name) (name.headD 0 == 36) [0] 0 hj (by have:=ZpD name;simp only [Wz];omega) none (by rw [hR];simp [Za3])
 rw [hR] at hq
 have hc:=fun {σ:Za} {sq:Nat} h0 h1 hff=>ZBZ (A:=eNs ns) (a:=1) (u:=2) (sq:=sq) (p:=[0]) (S:=(Zh name).map AVal.str) (b:=name.headD 0 == 36) (σ:=σ) (by decide) h0 h1 hff hq
 have ho:=fun σ=>Zdx (r:=.lst true []) rfl ns n σ
 have q1:=fun σ sq own view=>ZlA σ sq own view name
 have q2:=fun σ sq own view=>Zgc σ sq own view name (by omega)
 have q3:=Zpy
 rw [hn] at q1
 obtain ⟨b,t,rfl⟩:=ZkI hn
 have hdol:((b.toNat:Int) == 36)=(b == 36):=by
  rw [Xac]
  simp only [beq_iff_eq,<-Xam]
  have : (36:UInt8).toNat=36:=rfl
  omega
 simp only [Xas] at hc
 unfold trH at *
 generalize Zh (b::t)=S at *
 generalize S.map AVal.str=S' at *
 generalize eNs ns=A at *
 rw [ZQ (by rfl) ZnO]
 simp -implicitDefEqProofs only [EQA,Zad,Xj,Xe,Xc,Xk,unA,reduceCtorEq,↓reduceIte,Znn,Zh8,Zmk,q1,q2,q3,hc,hdol,ho,Z3,WB,Ws,Zai,Zat,Zay,ZaM,Za9,Zbr,Zbp,ZbA,ZbE,ZaS,WG]
theorem ZCp (ns:List TN) (hC:Closed ns) (hj:0 < ns.length) (n:Int) (name:Tx) (hn:ZbD name=true) (x:Zl) (d:List Zl) (hR:Zbk ns (Zh name) (name.headD 0 == 36) [0] 0=(x::d).map Zc) (hlen:(x::d).length<=1000000) {S:List Zl} (hp:S.Perm (x::d)) (hs:S.Pairwise ltR) :
  E 11 [.ref 0 0,.str name] (trH ns n)=some (.sl 2 0 0 (x::d).length,trH ns n++[.row 0 3 (S.map Zc)]):=by
 have hl:=ZnP hn
 have hq:=ZrR ns hC (Zh name) (name.headD 0 == 36) [0] 0 hj (by have:=ZpD name;simp only [Wz];omega) none (by rw [hR];simp only [Za3,Wd];omega)
 rw [hR] at hq
 have hq:E 34 (Zd0 0 1 [0] ((Zh name).map AVal.str) (name.headD 0 == 36)) (hM (.arena (eNs ns)) none 0)=some (.tup [],hM (.arena (eNs ns)) (some (WZ _ ((x::d).map Zc))) 0):=hq
 have hc:=fun {σ:Za} {sq:Nat} h0 h1 hff=>ZFj (A:=eNs ns) (a:=1) (u:=2) (sq:=sq) (p:=[0]) (S:=(Zh name).map AVal.str) (b:=name.headD 0 == 36) (σ:=σ) (by decide) h0 h1 hff hq
 rw [show Zy (WZ _ ((x::d).map Zc))=(x::d).length from by show ((x::d).map Zc).length=_;simp] at hc
 have hso:=Zq4 hp hs (by omega)
 have q3:=fun {σ:Za} {t sq:Nat} hσ=>Zqu (O:=E) (bf:=BY) (σ:=σ) (t:=t) (sq:=sq) (own:=0) (args:=[.sl t 0 0 (x::d).length]) hσ (by kernel_rfl) rfl rfl (fun ρ h=>by simp only [Zo,Zf,h]) hso
 have ho:=fun {σ:Za} {r k:Nat} h0 h1 h2 hr=>Zul (σ:=σ) (r:=r) (k:=k) (Y:=S.map Zc) ns n h0 h1 h2 hr
 have q1:=fun σ sq own view=>ZlA σ sq own view name
 have q2:=fun σ sq own view=>Zgc σ sq own view name (by omega)
 rw [hn] at q1
 obtain ⟨b,t,rfl⟩:=ZkI hn
 have hdol:((b.toNat:Int) == 36)=(b == 36):=by
  rw [Xac]
  simp only [beq_iff_eq,<-Xam]
  have : (36:UInt8).toNat=36:=rfl
  omega
 simp only [Xas] at hc
 unfold trH at *
 generalize Zh (b::t)=T at *
 generalize T.map AVal.str=T' at *
 generalize eNs ns=A at *
 generalize (x::d).length=k at *
 generalize (WZ _ ((x::d).map Zc):Bag)=Q at *
 generalize S.map Zc=Y at *
 rw [ZQ (by rfl) ZnO]
 simp -implicitDefEqProofs only [EQA,Zad,Xj,Xe,Xo,Xc,Xk,unA,reduceCtorEq,↓reduceIte,Znn,Zh8,Zmk,q1,q2,q3,hc,hdol,ho,Z3,WB,Ws,Zai,Zat,Zay,ZaM,Za9,Zbr,Zbp,ZbA,ZbE,ZaS,WG]
end
section
def ksK {α:Type} (M:List (Tx×α)):List Tx:=M.map (·.1)
theorem Zon {α:Type} (n:Tx) (v:α):∀ M:List (Tx×α),(ksK M).Nodup->(ksK (ZaI n v M)).Nodup
 | [],_=>by simp [ZaI,ksK]
 | p::M,h=>by
  obtain ⟨h1,h2⟩:=X1.1 h
  simp only [ZaI]
  split
  ·rename_i e
   refine X1.2 ⟨?_,h2⟩
   rw [e];exact h1
  ·rename_i e
   refine X1.2 ⟨?_,Zon n v M h2⟩
   intro hm
   obtain ⟨q,hq,hqe⟩:=Xv.1 hm
   rcases Zjf hq with rfl | hq
   ·exact e hqe
   ·exact h1 (Xv.2 ⟨q,hq,hqe⟩)
theorem ZoD {α:Type} (n:Tx):∀ M:List (Tx×α),(ksK M).Nodup->(ksK (Zav n M)).Nodup
 | [],_=>by simp [Zav,ksK]
 | p::M,h=>by
  obtain ⟨h1,h2⟩:=X1.1 h
  simp only [Zav]
  split
  ·exact h2
  ·refine X1.2 ⟨?_,ZoD n M h2⟩
   intro hm
   obtain ⟨q,hq,hqe⟩:=Xv.1 hm
   exact h1 (Xv.2 ⟨q,Zkf hq,hqe⟩)
theorem Zq8 {α:Type} {n:Tx}:∀ {M:List (Tx×α)},n ∉ ksK M->Zq n M=none
 | [],_=>rfl
 | p::M,h=>by
  simp only [ksK,Xx,XB,not_or] at h
  simp only [Zq,if_neg h.1]
  exact Zq8 h.2
theorem ZoF {α:Type} (n m:Tx):∀ M:List (Tx×α),(ksK M).Nodup->Zq m (Zav n M)=if m=n then none else Zq m M
 | [],_=>by simp [Zav,Zq]
 | p::M,h=>by
  obtain ⟨h1,h2⟩:=X1.1 h
  simp only [Zav]
  split
  ·rename_i e
   by_cases hm:m=n
   ·rw [if_pos hm,hm,e];exact Zq8 h1
   ·rw [if_neg hm]
    simp only [Zq]
    rw [if_neg (fun e2=>hm (e2.trans e.symm))]
  ·rename_i e
   simp only [Zq]
   rw [ZoF n m M h2]
   by_cases hm:m=p.1
   ·rw [if_pos hm,if_pos hm,if_neg (fun e2=>e (e2.symm.trans hm))]
   ·rw [if_neg hm,if_neg hm]
theorem Zhz {α:Type} {n:Tx} {v:α}:∀ {M:List (Tx×α)},(ksK M).Nodup->((n,v) ∈ M↔Zq n M=some v)
 | [],_=>by simp [Zq]
 | p::M,h=>by
  obtain ⟨h1,h2⟩:=X1.1 h
  simp only [Zq,XB]
  by_cases e:n=p.1
  ·rw [if_pos e]
   constructor
   ·rintro (rfl | hm)
    ·rfl
    ·exact absurd (Xv.2 ⟨_,hm,e⟩) h1
   ·rintro hv
    left
    injection hv with hv
    rw [e,<-hv]
  ·rw [if_neg e]
   constructor
   ·rintro (rfl | hm)
    ·exact absurd rfl e
    ·exact (Zhz h2).1 hm
   ·intro hv
    exact Xr ((Zhz h2).2 hv)
theorem Zdv (ns:List TN) (x:Tx):∀ (q:List Tx) (j:Nat),goT ns j (q++[x])=(goT ns j q).bind fun i=>(ns[i]?).bind fun d=>Zq x d.2
 | [],j=>by
  simp only [Xp,goT,XK]
  cases ns[j]? with
  | none=>rfl
  | some d=>simp only [XK];cases Zq x d.2 <;> rfl
 | l::q,j=>by
  simp only [XH,goT]
  cases ns[j]? with
  | none=>rfl
  | some d =>
   cases h:Zq l d.2 with
   | none=>simp [h]
   | some i=>simp only [h];exact Zdv ns x q i
theorem Ztc {P:List Tx->Prop} (h0:P []) (h1:∀ q x,P q->P (q++[x])) (q:List Tx):P q:=by
 have : ∀ r:List Tx,P r.reverse:=by
  intro r
  induction r with
  | nil=>exact h0
  | cons x r ih=>rw [List.reverse_cons];exact h1 _ _ ih
 have h:=this q.reverse
 rwa [List.reverse_reverse] at h
theorem Zqz (ns:List TN):∀ (p q:List Tx) (j:Nat),goT ns j (p++q)=(goT ns j p).bind fun i=>goT ns i q
 | [],q,j=>rfl
 | l::p,q,j=>by
  simp only [XH,goT]
  cases ns[j]? with
  | none=>rfl
  | some d =>
   cases h:Zq l d.2 with
   | none=>simp [h]
   | some i=>simp only [h];exact Zqz ns p q i
structure WF (ns:List TN):Prop where
 cl:Closed ns
 pos:0 < ns.length
 kv:∀ (j:Nat) (d:TN),ns[j]?=some d->(ksK d.1).Nodup
 kx:∀ (j:Nat) (d:TN),ns[j]?=some d->(ksK d.2).Nodup
 inj:∀ (q q':List Tx) (i:Nat),goT ns 0 q=some i->goT ns 0 q'=some i->q=q'
theorem WF.nil:WF [([],[])]:=by
 refine ⟨?_,by simp,?_,?_,?_⟩
 ·intro j d h p hp
  cases j with
  | zero=>simp at h;subst h;simp at hp
  | succ j=>simp at h
 ·intro j d h
  cases j with
  | zero=>simp at h;subst h;simp [ksK]
  | succ j=>simp at h
 ·intro j d h
  cases j with
  | zero=>simp at h;subst h;simp [ksK]
  | succ j=>simp at h
 ·have : ∀ q i,goT [(([]:List (Tx×Int)),([]:List (Tx×Nat)))] 0 q=some i->q=[]:=by
   intro q i h
   cases q with
   | nil=>rfl
   | cons l q=>simp [goT,Zq] at h
  intro q q' i h h'
  rw [this q i h,this q' i h']
theorem WF.at {ns:List TN} (h:WF ns) {q:List Tx} {i:Nat} (hi:goT ns 0 q=some i):∃ d,ns[i]?=some d :=
 ⟨_,Xl (ZfB h.cl q 0 i h.pos hi)⟩
theorem ZlN {ns:List TN} (h:WF ns) {pre:List Tx} {j:Nat} {d:TN} {l:Tx} (hp:goT ns 0 pre=some j) (hd:ns[j]?=some d) (hl:Zq l d.2=none) (q:List Tx) :
  goT (newN ns j d l) 0 q=if q=pre++[l] then some ns.length else goT ns 0 q:=by
 have hj:j < ns.length:=(Xd.1 hd).1
 induction q using Ztc with
 | h0=>rw [if_neg (by simp)];rfl
 | h1 q x ih =>
  rw [Zdv,ih,Zdv]
  by_cases e:q=pre++[l]
  ·subst e
   have hg:goT ns 0 (pre++[l])=none:=by rw [Zdv,hp];simp [hd,hl]
   rw [if_pos rfl,hg,if_neg (by simp)]
   simp [Zfw,Zq]
  ·rw [if_neg e]
   cases hq:goT ns 0 q with
   | none =>
    rw [if_neg]
    ·rfl
    ·intro e2
     have:=(Xbg e2 rfl).1
     rw [this,hp] at hq;cases hq
   | some i =>
    have hi:=ZfB h.cl q 0 i h.pos hq
    simp only [XK]
    by_cases e3:i=j
    ·subst e3
     have:=h.inj q pre i hq hp
     subst this
     rw [ZfH hj,hd]
     simp only [XK,ZiF,List.append_cancel_left_eq,WJ,and_true]
    ·rw [Zil d l hi e3,if_neg]
     intro e2
     have:=(Xbg e2 rfl).1
     rw [this,hp] at hq;injection hq with hq;exact e3 hq.symm
theorem WF.newNode {ns:List TN} (h:WF ns) {pre:List Tx} {j:Nat} {d:TN} {l:Tx} (hp:goT ns 0 pre=some j) (hd:ns[j]?=some d) (hl:Zq l d.2=none):WF (newN ns j d l):=by
 have hj:j < ns.length:=(Xd.1 hd).1
 have hat:∀ (i:Nat) (e:TN),(newN ns j d l)[i]?=some e->(i=j/\e=(d.1,ZaI l ns.length d.2))\/(i=ns.length/\e=([],[]))\/ns[i]?=some e:=by
  intro i e he
  by_cases h1:i=j
  ·subst h1;rw [ZfH hj] at he;injection he with he;exact Xm ⟨rfl,he.symm⟩
  ·by_cases h2:i < ns.length
   ·rw [Zil d l h2 h1] at he;exact Xr (Xr he)
   ·have hlt:=(Xd.1 he).1
    rw [Zd7] at hlt
    have : i=ns.length:=by omega
    subst this
    rw [Zfw] at he;injection he with he
    exact Xr (Xm ⟨rfl,he.symm⟩)
 refine ⟨h.cl.newN hd l,by rw [Zd7];omega,?_,?_,?_⟩
 ·intro i e he
  rcases hat i e he with ⟨_,rfl⟩ | ⟨_,rfl⟩ | he
  ·exact h.kv j d hd
  ·simp [ksK]
  ·exact h.kv i e he
 ·intro i e he
  rcases hat i e he with ⟨_,rfl⟩ | ⟨_,rfl⟩ | he
  ·exact Zon l _ _ (h.kx j d hd)
  ·simp [ksK]
  ·exact h.kx i e he
 ·intro q q' i hq hq'
  rw [ZlN h hp hd hl] at hq hq'
  split at hq
  ·rename_i e1
   split at hq'
   ·rename_i e2;rw [e1,e2]
   ·injection hq with hq;subst hq
    have:=ZfB h.cl q' 0 _ h.pos hq'
    omega
  ·split at hq'
   ·injection hq' with hq';subst hq'
    have:=ZfB h.cl q 0 _ h.pos hq
    omega
   ·exact h.inj q q' i hq hq'
theorem ZGv {ns:List TN} (h:WF ns) {pre:List Tx} {j:Nat} {d:TN} {l:Tx} (hp:goT ns 0 pre=some j) (hd:ns[j]?=some d) (hl:Zq l d.2=none) (q:List Tx) (k:Tx) :
  Zal (newN ns j d l) q k=Zal ns q k:=by
 have hj:j < ns.length:=(Xd.1 hd).1
 unfold Zal
 rw [ZlN h hp hd hl]
 by_cases e:q=pre++[l]
 ·subst e
  have hg:goT ns 0 (pre++[l])=none:=by rw [Zdv,hp];simp [hd,hl]
  rw [if_pos rfl,hg]
  simp [Zfw,Zq]
 ·rw [if_neg e]
  cases hq:goT ns 0 q with
  | none=>rfl
  | some i =>
   have hi:=ZfB h.cl q 0 i h.pos hq
   simp only
   by_cases e3:i=j
   ·subst e3;rw [ZfH hj,hd]
   ·rw [Zil d l hi e3]
theorem ZhB {ns:List TN} {j:Nat} {d:TN} (hd:ns[j]?=some d) (M:List (Tx×Int)):∀ (q:List Tx) (i:Nat),goT (ns.set j (M,d.2)) i q=goT ns i q
 | [],i=>rfl
 | l::q,i=>by
  have hj:j < ns.length:=(Xd.1 hd).1
  simp only [goT]
  by_cases e:i=j
  ·subst e
   rw [XF hj,hd]
   simp only
   cases Zq l d.2 with
   | none=>rfl
   | some i=>exact ZhB hd M q i
  ·rw [Xs (fun e2=>e e2.symm)]
   cases ns[i]? with
   | none=>rfl
   | some d' =>
    simp only
    cases Zq l d'.2 with
    | none=>rfl
    | some i=>exact ZhB hd M q i
theorem WF.vals {ns:List TN} (h:WF ns) {j:Nat} {d:TN} (hd:ns[j]?=some d) {M:List (Tx×Int)} (hM:(ksK M).Nodup):WF (ns.set j (M,d.2)):=by
 have hj:j < ns.length:=(Xd.1 hd).1
 refine ⟨h.cl.vals hd M,by simpa using h.pos,?_,?_,?_⟩
 ·intro i e he
  by_cases e1:i=j
  ·subst e1;rw [XF hj] at he;injection he with he;subst he;exact hM
  ·rw [Xs (fun e2=>e1 e2.symm)] at he;exact h.kv i e he
 ·intro i e he
  by_cases e1:i=j
  ·subst e1;rw [XF hj] at he;injection he with he;subst he;exact h.kx i d hd
  ·rw [Xs (fun e2=>e1 e2.symm)] at he;exact h.kx i e he
 ·intro q q' i hq hq'
  rw [ZhB hd] at hq hq'
  exact h.inj q q' i hq hq'
theorem Zsc {ns:List TN} (h:WF ns) {pre:List Tx} {j:Nat} {d:TN} (hp:goT ns 0 pre=some j) (hd:ns[j]?=some d) (M:List (Tx×Int)) (q:List Tx) (k:Tx) :
  Zal (ns.set j (M,d.2)) q k=if q=pre then Zq k M else Zal ns q k:=by
 have hj:j < ns.length:=(Xd.1 hd).1
 unfold Zal
 rw [ZhB hd]
 by_cases e:q=pre
 ·subst e
  rw [if_pos rfl,hp]
  simp [XF hj]
 ·rw [if_neg e]
  cases hq:goT ns 0 q with
  | none=>rfl
  | some i =>
   have : i≠j:=by rintro rfl;exact e (h.inj q pre i hq hp)
   simp only
   rw [Xs (fun e2=>this e2.symm)]
theorem ZlC (k:Tx) (v:Int):∀ (r:List Tx) (ns:List TN) (j:Nat) (pre:List Tx),WF ns->goT ns 0 pre=some j ->
  WF (Z0 k v r ns j).1/\(Z0 k v r ns j).2=(Zal ns (pre++r) k).isSome/\∀ q k',Zal (Z0 k v r ns j).1 q k'=if q=pre++r/\k'=k then some v else Zal ns q k'
 | [],ns,j,pre,h,hp=>by
  obtain ⟨d,hd⟩:=h.at hp
  have e:Z0 k v [] ns j=(ns.set j (ZaI k v d.1,d.2),(Zq k d.1).isSome):=by simp only [Z0,hd]
  have hg:Zal ns pre k=Zq k d.1:=by simp only [Zal,hp,hd]
  rw [e,XA,hg]
  refine ⟨h.vals hd (Zon k v _ (h.kv j d hd)),rfl,fun q k'=>?_⟩
  rw [Zsc h hp hd]
  by_cases e1:q=pre
  ·subst e1
   rw [if_pos rfl,ZiF]
   simp only [true_and]
   split
   ·rfl
   ·simp only [Zal,hp,hd]
  ·rw [if_neg e1,if_neg (fun e2=>e1 e2.1)]
 | l::r,ns,j,pre,h,hp=>by
  obtain ⟨d,hd⟩:=h.at hp
  cases hk:Zq l d.2 with
  | some i =>
   have e:Z0 k v (l::r) ns j=Z0 k v r ns i:=by simp only [Z0,hd,hk]
   have hi:goT ns 0 (pre++[l])=some i:=by rw [Zdv,hp];simp [hd,hk]
   have:=ZlC k v r ns i (pre++[l]) h hi
   rw [e]
   simpa using this
  | none =>
   have e:Z0 k v (l::r) ns j=Z0 k v r (newN ns j d l) ns.length:=by simp only [Z0,hd,hk,newN]
   have hi:goT (newN ns j d l) 0 (pre++[l])=some ns.length:=by rw [ZlN h hp hd hk,if_pos rfl]
   have:=ZlC k v r (newN ns j d l) ns.length (pre++[l]) (h.newNode hp hd hk) hi
   rw [e]
   simp only [ZGv h hp hd hk] at this
   simpa using this
theorem Zoz {ns:List TN} (h:WF ns) {pre:List Tx} {j i:Nat} {d di:TN} {l:Tx} (hp:goT ns 0 pre=some j) (hd:ns[j]?=some d) (hl:Zq l d.2=some i) (hdi:ns[i]?=some di) (he:di.2=[]) (q:List Tx) :
  goT (ns.set j (d.1,Zav l d.2)) 0 q=if q=pre++[l] then none else goT ns 0 q:=by
 have hj:j < ns.length:=(Xd.1 hd).1
 have hi:goT ns 0 (pre++[l])=some i:=by rw [Zdv,hp];simp [hd,hl]
 induction q using Ztc with
 | h0=>rw [if_neg (by simp)];rfl
 | h1 q x ih =>
  rw [Zdv,ih,Zdv]
  by_cases e:q=pre++[l]
  ·subst e
   rw [if_pos rfl,hi,if_neg (by simp)]
   simp [hdi,he,Zq]
  ·rw [if_neg e]
   cases hq:goT ns 0 q with
   | none =>
    rw [if_neg]
    ·rfl
    ·intro e2
     have:=(Xbg e2 rfl).1
     rw [this,hp] at hq;cases hq
   | some i' =>
    simp only [XK]
    by_cases e3:i'=j
    ·subst e3
     have:=h.inj q pre i' hq hp
     subst this
     rw [XF hj,hd]
     simp only [XK,ZoF l x _ (h.kx i' d hd),List.append_cancel_left_eq,WJ,and_true]
    ·rw [Xs (fun e2=>e3 e2.symm),if_neg]
     intro e2
     have:=(Xbg e2 rfl).1
     rw [this,hp] at hq;injection hq with hq;exact e3 hq.symm
theorem WF.cut {ns:List TN} (h:WF ns) {pre:List Tx} {j i:Nat} {d di:TN} {l:Tx} (hp:goT ns 0 pre=some j) (hd:ns[j]?=some d) (hl:Zq l d.2=some i) (hdi:ns[i]?=some di) (he:di.2=[]):WF (ns.set j (d.1,Zav l d.2)):=by
 have hj:j < ns.length:=(Xd.1 hd).1
 refine ⟨h.cl.next1 hd l,by simpa using h.pos,?_,?_,?_⟩
 ·intro i' e he'
  by_cases e1:i'=j
  ·subst e1;rw [XF hj] at he';injection he' with he';subst he';exact h.kv i' d hd
  ·rw [Xs (fun e2=>e1 e2.symm)] at he';exact h.kv i' e he'
 ·intro i' e he'
  by_cases e1:i'=j
  ·subst e1;rw [XF hj] at he';injection he' with he';subst he';exact ZoD l _ (h.kx i' d hd)
  ·rw [Xs (fun e2=>e1 e2.symm)] at he';exact h.kx i' e he'
 ·intro q q' i' hq hq'
  rw [Zoz h hp hd hl hdi he] at hq hq'
  split at hq
  ·cases hq
  ·split at hq'
   ·cases hq'
   ·exact h.inj q q' i' hq hq'
theorem ZBz {ns:List TN} (h:WF ns) {pre:List Tx} {j i:Nat} {d di:TN} {l:Tx} (hp:goT ns 0 pre=some j) (hd:ns[j]?=some d) (hl:Zq l d.2=some i) (hdi:ns[i]?=some di) (he1:di.1=[]) (he:di.2=[]) (q:List Tx) (k:Tx) :
  Zal (ns.set j (d.1,Zav l d.2)) q k=Zal ns q k:=by
 have hj:j < ns.length:=(Xd.1 hd).1
 have hi:goT ns 0 (pre++[l])=some i:=by rw [Zdv,hp];simp [hd,hl]
 unfold Zal
 rw [Zoz h hp hd hl hdi he]
 by_cases e:q=pre++[l]
 ·subst e
  rw [if_pos rfl,hi]
  simp [hdi,he1,Zq]
 ·rw [if_neg e]
  cases hq:goT ns 0 q with
  | none=>rfl
  | some i' =>
   simp only
   by_cases e3:i'=j
   ·subst e3;rw [XF hj,hd]
   ·rw [Xs (fun e2=>e3 e2.symm)]
theorem ZtS (k : Tx) : ∀ (r : List Tx) (ns : List TN) (j : Nat) (pre : List Tx), WF ns -> goT ns 0 pre = some j ->
    WF (ZL k r ns j).1 /\ (ZL k r ns j).2 = (Zal ns (pre ++ r) k).isSome /\ (∀ q k', Zal (ZL k r ns j).1 q k' = if q = pre ++ r /\ k' = k then none else Zal ns q k') /\ ∀ q, q.length <= pre.length -> goT (ZL k r ns j).1 0 q = goT ns 0 q
  | [], ns, j, pre, h, hp => by
    obtain ⟨d, hd⟩ := h.at hp
    have e : ZL k [] ns j = (ns.set j (Zav k d.1, d.2), (Zq k d.1).isSome) := by simp only [ZL, hd]
    have hg : Zal ns pre k = Zq k d.1 := by simp only [Zal, hp, hd]
    rw [e, XA, hg]
    refine ⟨h.vals hd (ZoD k _ (h.kv j d hd)), rfl, fun q k' => ?_, fun q _ => ZhB hd _ q 0⟩
    rw [Zsc h hp hd]
    by_cases e1 : q = pre
    . subst e1
      rw [if_pos rfl, ZoF k k' _ (h.kv j d hd)]
      simp only [true_and]
      split
      . rfl
      . simp only [Zal, hp, hd]
    . rw [if_neg e1, if_neg (fun e2 => e1 e2.1)]
  | l :: r, ns, j, pre, h, hp => by
    obtain ⟨d, hd⟩ := h.at hp
    cases hk : Zq l d.2 with
    | none =>
      have e : ZL k (l :: r) ns j = (ns, false) := by simp only [ZL, hd, hk]
      have hg : Zal ns (pre ++ l :: r) k = none := by
        simp only [Zal, Zqz, hp, XK, goT, hd, hk]
      rw [e, hg]
      refine ⟨h, rfl, fun q k' => ?_, fun q _ => rfl⟩
      split
      . rename_i e1; rw [e1.1, e1.2]; exact hg
      . rfl
    | some i =>
      have hi : goT ns 0 (pre ++ [l]) = some i := by rw [Zdv, hp]; simp [hd, hk]
      obtain ⟨i1, i2, i3, i4⟩ := ZtS k r ns i (pre ++ [l]) h hi
      have ea : pre ++ [l] ++ r = pre ++ l :: r := by simp
      rw [ea] at i2 i3
      simp only [Xy, Wz] at i4
      have e : ZL k (l :: r) ns j = if (ZL k r ns i).2 then
          match (ZL k r ns i).1[i]?, (ZL k r ns i).1[j]? with
          | some di, some dj => if di.1.length + di.2.length = 0 then ((ZL k r ns i).1.set j (dj.1, Zav l dj.2), true) else ((ZL k r ns i).1, true)
          | _, _ => (ns, false)
        else ((ZL k r ns i).1, false) := by
        simp only [ZL, hd, hk]
        rfl
      cases hb : (ZL k r ns i).2 with
      | false =>
        rw [hb] at e i2
        rw [if_neg (by simp)] at e
        rw [e]
        exact ⟨i1, i2, i3, fun q hq => i4 q (by omega)⟩
      | true =>
        rw [hb] at e i2
        rw [if_pos rfl] at e
        have hp' : goT (ZL k r ns i).1 0 pre = some j := by rw [i4 pre (by omega)]; exact hp
        have hi' : goT (ZL k r ns i).1 0 (pre ++ [l]) = some i := by rw [i4 _ (by simp)]; exact hi
        obtain ⟨dj, hdj⟩ := i1.at hp'
        obtain ⟨di, hdi⟩ := i1.at hi'
        have hk' : Zq l dj.2 = some i := by
          rw [Zdv, hp'] at hi'
          simpa [hdj] using hi'
        rw [hdi, hdj] at e
        simp only at e
        by_cases hz : di.1.length + di.2.length = 0
        . rw [if_pos hz] at e
          have z1 : di.1 = [] := W7.1 (by omega)
          have z2 : di.2 = [] := W7.1 (by omega)
          rw [e]
          refine ⟨i1.cut hp' hdj hk' hdi z2, i2, fun q k' => ?_, fun q hq => ?_⟩
          . show Zal (((ZL k r ns i).1).set j (dj.1, Zav l dj.2)) q k' = _
            rw [ZBz i1 hp' hdj hk' hdi z1 z2, i3]
          . show goT (((ZL k r ns i).1).set j (dj.1, Zav l dj.2)) 0 q = _
            rw [Zoz i1 hp' hdj hk' hdi z2, if_neg, i4 q (by omega)]
            rintro rfl
            simp at hq
            omega
        . rw [if_neg hz] at e
          rw [e]
          exact ⟨i1, i2, i3, fun q hq => i4 q (by omega)⟩
end
section
end
section
end
section
end
section
end
section
def Zc0:List (List UInt8)->List UInt8
 | []=>[]
 | x::r=>47::(x++Zc0 r)
theorem ZrO:∀ s:List UInt8,Zc0 (Zh s)=47::s
 | []=>by simp [Zh,Zc0]
 | b::s=>by
  have ih:=ZrO s
  by_cases h:b=47
  ·subst h;rw [Zh];simp only [if_true,Zc0,ih,Xp]
  ·cases e:Zh s with
   | nil=>exact absurd e (Zfb s)
   | cons p r =>
    rw [e,Zc0] at ih
    simp only [WJ,true_and] at ih
    have : Zh (b::s)=(b::p)::r:=by rw [Zh];simp [h,e]
    rw [this,Zc0,XH,ih]
def tG:Nat->List UInt8->Bool
 | 0,_=>true
 | n+1,l=>if l=[] then true else if (Lib.decodeL l).1=0\/((Lib.decodeL l).1=65533/\(Lib.decodeL l).2=1) then false else tG n (l.drop (Lib.decodeL l).2)
theorem Zpp:∀ (n:Nat) (l:List UInt8),(zfG n l && Lib.validGoD n l)=tG n l
 | 0,_=>rfl
 | n+1,l=>by
  have ih:=Zpp n (l.drop (Lib.decodeL l).2)
  simp only [zfG,Lib.validGoD,tG]
  by_cases h:l=[]
  ·simp [h]
  ·by_cases h1:(Lib.decodeL l).1=0
   ·simp [h,h1]
   ·by_cases h2:(Lib.decodeL l).1=65533/\(Lib.decodeL l).2=1
    ·simp [h,h2]
    ·simp only [h,h1,h2,if_false,false_or,ih]
theorem ZmJ (l:List UInt8):ZcP l=tG l.length l:=Zpp _ _
theorem ZqD {l:List UInt8} (h:l≠[]):1<=(Lib.decodeL l).2:=by
 have:=Lib.decodeL_width l;omega
theorem Ztl:∀ (n m:Nat) (l:List UInt8),l.length<=n->l.length<=m->tG n l=tG m l
 | 0,m,l,h,_=>by
  obtain rfl:l=[]:=W7.1 (by omega)
  cases m <;> simp [tG]
 | n+1,0,l,_,h=>by
  obtain rfl:l=[]:=W7.1 (by omega)
  simp [tG]
 | n+1,m+1,l,h,h'=>by
  simp only [tG]
  by_cases h0:l=[]
  ·simp [h0]
  ·have:=ZqD h0
   rw [Ztl n m (l.drop (Lib.decodeL l).2) (by rw [Wv];omega) (by rw [Wv];omega)]
theorem Zyr (p:List UInt8) (b:UInt8) (q:List UInt8) (hp:p≠[]) (hb:b.toNat < 128):Lib.decodeL (p++b::q)=Lib.decodeL p:=by
 rw [Lib.decodeL_N,Lib.decodeL_N]
 match p,hp with
 | [b0],_ =>
  simp only [XH,Xp,XE,XP,XD,XL,XbN]
  by_cases h:b0.toNat < 128
  ·simp only [Lib.decodeN,h,if_true]
  ·rw [Lib.decodeN_alone _ _ _ _ _ (by omega) (Xr (by omega)),Lib.decodeN_alone _ _ _ _ _ (by omega) (Xm (by omega))]
 | [b0,b1],_ =>
  simp only [XH,Xp,XE,XP,XD,XL,XbN]
  generalize b0.toNat=x0 at *
  generalize b1.toNat=x1 at *
  generalize b.toNat=x2 at *
  generalize (q.getD 0 0).toNat=x3 at *
  generalize q.length=k at *
  unfold Lib.decodeN
  have e1:¬(x2 / 64=2):=by omega
  have e2:(1 < k+1+1+1):=by omega
  simp only [e1,e2,and_false,false_and,if_false,true_and,Xj,Xe,Xaw]
 | [b0,b1,b2],_ =>
  simp only [XH,Xp,XE,XP,XD,XL,XbN]
  generalize b0.toNat=x0 at *
  generalize b1.toNat=x1 at *
  generalize b2.toNat=x2 at *
  generalize b.toNat=x3 at *
  generalize q.length=k at *
  unfold Lib.decodeN
  have e1:¬(x3 / 64=2):=by omega
  have e2:(1 < k+1+1+1+1):=by omega
  have e3:(2 < k+1+1+1+1):=by omega
  simp only [e1,e2,e3,and_false,false_and,if_false,true_and,Xj,Xe,Xaw]
 | b0::b1::b2::b3::t,_ =>
  simp only [XH,XE,Xy,XD,XL]
  unfold Lib.decodeN
  have e1:(1 < t.length+1+1+1+1):=by omega
  have e2:(2 < t.length+1+1+1+1):=by omega
  have e3:(3 < t.length+1+1+1+1):=by omega
  have f1:(1 < t.length+(q.length+1)+1+1+1+1):=by omega
  have f2:(2 < t.length+(q.length+1)+1+1+1+1):=by omega
  have f3:(3 < t.length+(q.length+1)+1+1+1+1):=by omega
  simp only [e1,e2,e3,f1,f2,f3,true_and]
theorem ZLh (n:Nat) (b:UInt8) (q:List UInt8) (hb:b.toNat < 128) (h0:b.toNat≠0):tG (n+1) (b::q)=tG n q:=by
 have h1:¬(b.toNat=65533):=by omega
 simp only [tG,Lib.decodeL_ascii b q hb,h0,h1,reduceCtorEq,if_false,false_and,or_self,Xax,XaF]
theorem Zq1 (n:Nat) (l:List UInt8) (h:l≠[]):tG (n+1) l=if (Lib.decodeL l).1=0\/((Lib.decodeL l).1=65533/\(Lib.decodeL l).2=1) then false else tG n (l.drop (Lib.decodeL l).2):=by
 simp only [tG,h,if_false]
theorem ZtP (b:UInt8) (q:List UInt8) (hb:b.toNat < 128):∀ (n:Nat) (p:List UInt8),p.length<=n->tG (n+(q.length+1)) (p++b::q)=(tG n p && tG (q.length+1) (b::q))
 | n,[],_=>by
  have : tG n []=true:=by cases n <;> simp [tG]
  rw [this,Xp,Xbz]
  exact Ztl _ _ _ (by simp) (by simp)
 | 0,c::p,h=>by simp at h
 | n+1,c::p,h=>by
  have hne:c::p≠[]:=by simp
  have hw:=ZqD hne
  have hle:=Lib.decodeL_le (c::p) hne
  have ih:=ZtP b q hb n ((c::p).drop (Lib.decodeL (c::p)).2) (by rw [Wv];simp only [XE] at h ⊢;omega)
  have e:n+1+(q.length+1)=(n+(q.length+1))+1:=by omega
  have hne2:c::p++b::q≠[]:=by simp
  generalize tG (q.length+1) (b::q)=R at ih ⊢
  rw [e,Zq1 _ _ hne2,Zq1 _ _ hne,Zyr (c::p) b q hne hb]
  by_cases h1:(Lib.decodeL (c::p)).1=0\/((Lib.decodeL (c::p)).1=65533/\(Lib.decodeL (c::p)).2=1)
  ·rw [if_pos h1,if_pos h1,Xai]
  ·rw [if_neg h1,if_neg h1,List.drop_append_of_le_length hle,ih]
theorem ZDm (p q:List UInt8):ZcP (p++47::q)=(ZcP p && ZcP q):=by
 rw [ZmJ,ZmJ,ZmJ]
 have:=ZtP 47 q (by decide) p.length p (Xz _)
 rw [ZLh q.length 47 q (by decide) (by decide)] at this
 rw [<-this]
 congr 1
 simp
def ZdY (M:List (List UInt8)):List UInt8:=(Zc0 M).drop 1
theorem Zug (x:List UInt8):ZdY [x]=x:=by simp [ZdY,Zc0]
theorem Zs8 (x y:List UInt8) (M:List (List UInt8)):ZdY (x::y::M)=x++47::ZdY (y::M):=by simp [ZdY,Zc0]
theorem ZhP (s:List UInt8):ZdY (Zh s)=s:=by simp [ZdY,ZrO]
theorem ZlZ:∀ M:List (List UInt8),ZcP (ZdY M)=M.all ZcP
 | []=>rfl
 | [x]=>by simp [Zug]
 | x::y::M=>by rw [Zs8,ZDm,ZlZ (y::M)];simp only [X8]
theorem ZCx (p q:List UInt8):Zax (p++47::q)=(Zax p || Zax q):=by simp [Zax,Zcc]
theorem Zrx:∀ M:List (List UInt8),Zax (ZdY M)=M.any Zax
 | []=>rfl
 | [x]=>by simp [Zug]
 | x::y::M=>by rw [Zs8,ZCx,Zrx (y::M)];simp only [Xaz]
theorem Zzu {s:List UInt8} (h:ZbD s=true):(Zh s).all ZcP=true/\(Zh s).any Zax=false/\1<=s.length/\s.length<=64:=by
 simp only [ZbD,Zcm,Xi,decide_eq_true_eq,We] at h
 obtain ⟨⟨⟨h1,h2⟩,h3⟩,h4⟩:=h
 have e:=ZhP s
 exact ⟨by rw [<-ZlZ,e];exact h3,by rw [<-Zrx,e];exact h4,h1,h2⟩
end
section
theorem ZgP {α β:Type} {f:α->β}:∀ {l:List α},(∀ a ∈ l,∀ b ∈ l,f a=f b->a=b)->l.Nodup->(l.map f).Nodup
 | [],_,_=>WL
 | x::l,h,hn=>by
  obtain ⟨h1,h2⟩:=X1.1 hn
  refine X1.2 ⟨?_,ZgP (fun a ha b hb=>h a (by simp [ha]) b (by simp [hb])) h2⟩
  intro hm
  obtain ⟨y,hy,he⟩:=Xv.1 hm
  have:=h y (by simp [hy]) x (by simp) he
  subst this;exact h1 hy
def ZfL:Tx->List Tx->Tx
 | p,[]=>p
 | p,l::q=>ZfL (ZH p l) q
abbrev PR3:=List Tx×Tx×Int
def Zeg (d:TN):List PR3:=d.1.map fun q=>([],q.1,q.2)
def ZdI (o:Option Nat) (l:Tx) (f:Nat->List PR3):List PR3:=match o with
 | some i=>(f i).map fun x=>(l::x.1,x.2)
 | none=>[]
def Zgi (ns:List TN) (i:Nat):List PR3:=match ns[i]? with
 | some di=>Zeg di
 | none=>[]
def ZdU (ns:List TN) (b:Bool) (d:TN):List PR3:=if b then [] else ZdI (Zq [35] d.2) [35] (Zgi ns)
def Zcy (ns:List TN):List Tx->Bool->Nat->List PR3
 | [],b,j=>match ns[j]? with
  | some d=>ZdU ns b d++Zeg d
  | none=>[]
 | l::r,b,j=>match ns[j]? with
  | some d=>ZdU ns b d++(ZdI (Zq l d.2) l (fun i=>Zcy ns r false i)++(if b then [] else ZdI (Zq [43] d.2) [43] (fun i=>Zcy ns r false i)))
  | none=>[]
def Zdr (p:Tx) (x:PR3):Zl:=⟨ZfL p x.1,x.2.1,x.2.2⟩
theorem ZnE (o:Option Nat) (l p:Tx) (f:Nat->List PR3) (g:Nat->List AVal) (h:∀ i,o=some i->g i=(f i).map fun x=>Zc (Zdr (ZH p l) x)):ZaN o g=(ZdI o l f).map fun x=>Zc (Zdr p x):=by
 cases o with
 | none=>rfl
 | some i =>
  simp only [ZaN,ZdI,Wb]
  rw [h i rfl]
  rfl
theorem Zto (p:Tx) (d:TN):Za7 p d.1=(Zeg d).map fun x=>Zc (Zdr p x):=by
 simp only [Za7,Zeg,Wb]
 rfl
theorem ZpQ (ns:List TN) (b:Bool) (p:Tx) (d:TN):Zbg ns b p d=(ZdU ns b d).map fun x=>Zc (Zdr p x):=by
 unfold Zbg ZdU
 cases b with
 | true=>rfl
 | false =>
  simp only [Xg,if_false]
  refine ZnE _ [35] p _ _ fun i _=>?_
  unfold Zgi
  cases ns[i]? with
  | none=>rfl
  | some di=>exact Zto _ di
theorem Zmt (ns:List TN):∀ (name:List Tx) (b:Bool) (p:Tx) (j:Nat),Zbk ns name b p j=(Zcy ns name b j).map fun x=>Zc (Zdr p x)
 | [],b,p,j=>by
  simp only [Zbk,Zcy]
  cases ns[j]? with
  | none=>rfl
  | some d=>simp only [X0,ZpQ,Zto]
 | l::r,b,p,j=>by
  simp only [Zbk,Zcy]
  cases ns[j]? with
  | none=>rfl
  | some d =>
   simp only [X0,ZpQ]
   congr 1
   congr 1
   ·exact ZnE _ l p _ _ fun i _=>Zmt ns r false (ZH p l) i
   ·cases b with
    | true=>rfl
    | false =>
     simp only [Xg,if_false]
     exact ZnE _ [43] p _ _ fun i _=>Zmt ns r false (ZH p [43]) i
def atT (ns:List TN) (j:Nat) (q:List Tx) (k:Tx) (v:Int):Prop:=∃ i d,goT ns j q=some i/\ns[i]?=some d/\(k,v) ∈ d.1
theorem ZiB {ns:List TN} {j:Nat} {d:TN} (hd:ns[j]?=some d) (k:Tx) (v:Int):atT ns j [] k v↔(k,v) ∈ d.1:=by
 constructor
 ·rintro ⟨i,d',h1,h2,h3⟩
  simp only [goT,Xa] at h1
  subst h1
  rw [hd] at h2;injection h2 with h2;subst h2;exact h3
 ·intro h;exact ⟨j,d,rfl,hd,h⟩
theorem Zfv {ns:List TN} {j:Nat} {d:TN} (hd:ns[j]?=some d) (l:Tx) (q:List Tx) (k:Tx) (v:Int):atT ns j (l::q) k v↔∃ i,Zq l d.2=some i/\atT ns i q k v:=by
 constructor
 ·rintro ⟨i,d',h1,h2,h3⟩
  simp only [goT,hd] at h1
  cases hk:Zq l d.2 with
  | none=>rw [hk] at h1;cases h1
  | some i'=>rw [hk] at h1;exact ⟨i',rfl,i,d',h1,h2,h3⟩
 ·rintro ⟨i,h1,i',d',h2,h3,h4⟩
  exact ⟨i',d',by simp only [goT,hd,h1];exact h2,h3,h4⟩
theorem Zhd {ns:List TN} {j:Nat} (hd:ns[j]?=none) (q:List Tx) (k:Tx) (v:Int):¬atT ns j q k v:=by
 rintro ⟨i,d,h1,h2,_⟩
 cases q with
 | nil=>simp only [goT,Xa] at h1;subst h1;rw [hd] at h2;cases h2
 | cons l q=>simp only [goT,hd] at h1;cases h1
def mt:Bool->List Tx->List Tx->Bool
 | _,[],n=>n.isEmpty
 | b,l::q,n=>(l == [35] && q.isEmpty && !b) || (match n with
  | []=>false
  | y::r=>(l == y || (l == [43] && !b)) && mt false q r)
theorem Zfk (o:Option Nat) (l:Tx) (f:Nat->List PR3) (x:PR3):x ∈ ZdI o l f↔∃ i q,o=some i/\x.1=l::q/\(q,x.2) ∈ f i:=by
 cases o with
 | none=>simp [ZdI]
 | some i =>
  simp only [ZdI,Xv]
  constructor
  ·rintro ⟨y,hy,rfl⟩;exact ⟨i,y.1,rfl,rfl,hy⟩
  ·rintro ⟨i',q,h1,h2,h3⟩
   injection h1 with h1;subst h1
   exact ⟨(q,x.2),h3,by obtain ⟨a,b⟩:=x;simp only at h2;subst h2;rfl⟩
theorem Zhg (d:TN) (x:PR3):x ∈ Zeg d↔x.1=[]/\x.2 ∈ d.1:=by
 simp only [Zeg,Xv]
 constructor
 ·rintro ⟨y,hy,rfl⟩;exact ⟨rfl,hy⟩
 ·rintro ⟨h1,h2⟩;exact ⟨x.2,h2,by obtain ⟨a,b⟩:=x;simp only at h1;subst h1;rfl⟩
theorem Zsp (ns:List TN) (i:Nat) (q:List Tx) (k:Tx) (v:Int):(q,k,v) ∈ Zgi ns i↔q=[]/\atT ns i q k v:=by
 unfold Zgi
 cases hd:ns[i]? with
 | none =>
  simp only [Xah,false_iff,not_and]
  intro _;exact Zhd hd q k v
 | some d =>
  simp only [Zhg]
  constructor
  ·rintro ⟨rfl,h⟩;exact ⟨rfl,(ZiB hd k v).2 h⟩
  ·rintro ⟨rfl,h⟩;exact ⟨rfl,(ZiB hd k v).1 h⟩
theorem ZuG (ns:List TN) (b:Bool) {j:Nat} {d:TN} (hd:ns[j]?=some d) (q:List Tx) (k:Tx) (v:Int):(q,k,v) ∈ ZdU ns b d↔b=false/\q=[[35]]/\atT ns j q k v:=by
 unfold ZdU
 cases b with
 | true=>simp
 | false =>
  simp only [Xg,if_false,Zfk,true_and]
  constructor
  ·rintro ⟨i,q',h1,rfl,h3⟩
   obtain ⟨rfl,h4⟩:=(Zsp ns i q' k v).1 h3
   exact ⟨rfl,(Zfv hd _ _ k v).2 ⟨i,h1,h4⟩⟩
  ·rintro ⟨rfl,h⟩
   obtain ⟨i,h1,h2⟩:=(Zfv hd _ _ k v).1 h
   exact ⟨i,[],h1,rfl,(Zsp ns i [] k v).2 ⟨rfl,h2⟩⟩
theorem Zgn (ns:List TN) (k:Tx) (v:Int):∀ (name:List Tx) (b:Bool) (j:Nat) (q:List Tx),(q,k,v) ∈ Zcy ns name b j↔atT ns j q k v/\mt b q name=true
 | [],b,j,q=>by
  simp only [Zcy]
  cases hd:ns[j]? with
  | none =>
   simp only [Xah,false_iff,not_and]
   intro h;exact absurd h (Zhd hd q k v)
  | some d =>
   simp only [Xt,ZuG ns b hd,Zhg]
   cases q with
   | nil =>
    rw [ZiB hd]
    simp [mt]
   | cons l q =>
    simp only [mt,Xay,Xi,beq_iff_eq,Xaf,We]
    constructor
    ·rintro (⟨h1,h2,h3⟩ | ⟨h1,_⟩)
     ·injection h2 with h4 h5
      exact ⟨h3,⟨h4,h5⟩,h1⟩
     ·cases h1
    ·rintro ⟨h1,⟨rfl,rfl⟩,h3⟩
     exact Xm ⟨h3,rfl,h1⟩
 | y::r,b,j,q=>by
  simp only [Zcy]
  cases hd:ns[j]? with
  | none =>
   simp only [Xah,false_iff,not_and]
   intro h;exact absurd h (Zhd hd q k v)
  | some d =>
   have hplus:(q,k,v) ∈ (if b then [] else ZdI (Zq [43] d.2) [43] (fun i=>Zcy ns r false i))↔b=false/\∃ q',q=[43]::q'/\atT ns j q k v/\mt false q' r=true:=by
    cases b with
    | true=>simp
    | false =>
     simp only [Xg,if_false,Zfk,true_and]
     constructor
     ·rintro ⟨i,q',h1,rfl,h3⟩
      obtain ⟨h4,h5⟩:=(Zgn ns k v r false i q').1 h3
      exact ⟨q',rfl,(Zfv hd _ _ k v).2 ⟨i,h1,h4⟩,h5⟩
     ·rintro ⟨q',rfl,h1,h2⟩
      obtain ⟨i,h3,h4⟩:=(Zfv hd _ _ k v).1 h1
      exact ⟨i,q',h3,rfl,(Zgn ns k v r false i q').2 ⟨h4,h2⟩⟩
   have hex:(q,k,v) ∈ ZdI (Zq y d.2) y (fun i=>Zcy ns r false i)↔∃ q',q=y::q'/\atT ns j q k v/\mt false q' r=true:=by
    simp only [Zfk]
    constructor
    ·rintro ⟨i,q',h1,rfl,h3⟩
     obtain ⟨h4,h5⟩:=(Zgn ns k v r false i q').1 h3
     exact ⟨q',rfl,(Zfv hd _ _ k v).2 ⟨i,h1,h4⟩,h5⟩
    ·rintro ⟨q',rfl,h1,h2⟩
     obtain ⟨i,h3,h4⟩:=(Zfv hd _ _ k v).1 h1
     exact ⟨i,q',h3,rfl,(Zgn ns k v r false i q').2 ⟨h4,h2⟩⟩
   rw [Xt,Xt,ZuG ns b hd,hplus,hex]
   cases q with
   | nil=>simp [mt]
   | cons l q =>
    simp only [mt,WR,Xi,beq_iff_eq,Xaf,We]
    constructor
    ·rintro (⟨h1,h2,h3⟩ | ⟨q',h2,h3,h4⟩ | ⟨h1,q',h2,h3,h4⟩)
     ·injection h2 with h4 h5
      exact ⟨h3,Xm ⟨⟨h4,h5⟩,h1⟩⟩
     ·injection h2 with h5 h6
      subst h6
      exact ⟨h3,Xr ⟨Xm h5,h4⟩⟩
     ·injection h2 with h5 h6
      subst h6
      exact ⟨h3,Xr ⟨Xr ⟨h5,h1⟩,h4⟩⟩
    ·rintro ⟨h1,⟨⟨rfl,rfl⟩,h3⟩ | ⟨rfl | ⟨rfl,h3⟩,h4⟩⟩
     ·exact Xm ⟨h3,rfl,h1⟩
     ·exact Xr (Xm ⟨q,rfl,h1,h4⟩)
     ·exact Xr (Xr ⟨h3,q,rfl,h1,h4⟩)
theorem Zny {d:TN} (h:(ksK d.1).Nodup):(Zeg d).Nodup:=by
 unfold Zeg
 refine ZgP ?_ ?_
 ·rintro ⟨a1,a2⟩ _ ⟨b1,b2⟩ _ he
  simp only [Xb,true_and] at he
  rw [he.1,he.2]
 ·unfold ksK at h
  rw [List.Nodup,Xby] at h
  exact h.imp fun h e=>h (by rw [e])
theorem ZlI {o:Option Nat} {l:Tx} {f:Nat->List PR3} (h:∀ i,o=some i->(f i).Nodup):(ZdI o l f).Nodup:=by
 cases o with
 | none=>exact WL
 | some i =>
  refine ZgP ?_ (h i rfl)
  rintro ⟨a1,a2⟩ _ ⟨b1,b2⟩ _ he
  simp only [Xb,WJ,true_and] at he
  rw [he.1,he.2]
theorem ZB0 {ns:List TN} (h:WF ns) (i:Nat):(Zgi ns i).Nodup:=by
 unfold Zgi
 cases hd:ns[i]? with
 | none=>exact WL
 | some d=>exact Zny (h.kv i d hd)
theorem ZtK {ns:List TN} (h:WF ns) (b:Bool) (d:TN):(ZdU ns b d).Nodup:=by
 unfold ZdU
 split
 ·exact WL
 ·exact ZlI fun i _=>ZB0 h i
theorem ZqM (ns:List TN) (b:Bool) (d:TN) (x:PR3) (h:x ∈ ZdU ns b d):∃ q,x.1=[35]::q:=by
 unfold ZdU at h
 split at h
 ·simp at h
 ·obtain ⟨i,q,_,h2,_⟩:=(Zfk _ _ _ x).1 h
  exact ⟨q,h2⟩
theorem ZlX {ns:List TN} (h:WF ns):∀ (name:List Tx) (b:Bool) (j:Nat),(∀ y ∈ name,y≠[35]/\y≠[43])->(Zcy ns name b j).Nodup
 | [],b,j,_=>by
  simp only [Zcy]
  cases hd:ns[j]? with
  | none=>exact WL
  | some d =>
   refine WK.2 ⟨ZtK h b d,Zny (h.kv j d hd),?_⟩
   rintro x hx y hy rfl
   obtain ⟨q,hq⟩:=ZqM ns b d x hx
   have:=((Zhg d x).1 hy).1
   rw [this] at hq;cases hq
 | y::r,b,j,hy=>by
  simp only [Zcy]
  have hr:∀ z ∈ r,z≠[35]/\z≠[43]:=fun z hz=>hy z (by simp [hz])
  obtain ⟨y1,y2⟩:=hy y (by simp)
  cases hd:ns[j]? with
  | none=>exact WL
  | some d =>
   refine WK.2 ⟨ZtK h b d,WK.2 ⟨ZlI fun i _=>ZlX h r false i hr,?_,?_⟩,?_⟩
   ·split
    ·exact WL
    ·exact ZlI fun i _=>ZlX h r false i hr
   ·rintro x hx z hz rfl
    obtain ⟨_,q,_,h2,_⟩:=(Zfk _ _ _ x).1 hx
    split at hz
    ·simp at hz
    ·obtain ⟨_,q',_,h3,_⟩:=(Zfk _ _ _ x).1 hz
     rw [h2] at h3;injection h3 with h3;exact y2 h3
   ·rintro x hx z hz rfl
    obtain ⟨q,hq⟩:=ZqM ns b d x hx
    rcases Xt.1 hz with hz | hz
    ·obtain ⟨_,q',_,h3,_⟩:=(Zfk _ _ _ x).1 hz
     rw [hq] at h3;injection h3 with h3;exact y1 h3.symm
    ·split at hz
     ·simp at hz
     ·obtain ⟨_,q',_,h3,_⟩:=(Zfk _ _ _ x).1 hz
      rw [hq] at h3;injection h3 with h3;cases h3
theorem ZiW {ns:List TN} (h:WF ns) (q:List Tx) (k:Tx) (v:Int):Zal ns q k=some v↔atT ns 0 q k v:=by
 unfold Zal atT
 cases hg:goT ns 0 q with
 | none=>simp
 | some i =>
  obtain ⟨d,hd⟩:=h.at hg
  simp only [hd]
  rw [<-Zhz (h.kv i d hd)]
  constructor
  ·intro h1;exact ⟨i,d,rfl,hd,h1⟩
  ·rintro ⟨i',d',h1,h2,h3⟩
   injection h1 with h1;subst h1
   rw [hd] at h2;injection h2 with h2;subst h2;exact h3
theorem Ztj:∀ (q:List Tx) (p:Tx),p≠[0]->ZfL p q=p++Zc0 q
 | [],p,_=>by simp [ZfL,Zc0]
 | l::q,p,h=>by
  have h1:ZH p l=p++[47]++l:=by simp [ZH,h]
  have h2:p++[47]++l≠[0]:=by
   intro e
   have : (47:UInt8) ∈ ([0]:Tx):=by rw [<-e];simp
   simp at this
  rw [ZfL,h1,Ztj q _ h2,Zc0]
  simp
theorem Zq9 {f:Tx} (h:(Zh f).headD []≠[0]):ZfL [0] (Zh f)=f:=by
 have e:=ZhP f
 cases hs:Zh f with
 | nil=>exact absurd hs (Zfb f)
 | cons l q =>
  rw [hs] at h e
  simp only [Xas] at h
  rw [ZfL,show ZH [0] l=l from by simp [ZH],Ztj q l h,<-e]
  simp [ZdY,Zc0]
theorem Zw9:ZcP [0]=false:=by decide
theorem Zuv {f:Tx} (h:ZaW f=true):(Zh f).headD []≠[0]:=by
 simp only [ZaW,Zcm,Xi] at h
 have h1:=ZlZ (Zh f)
 rw [ZhP,h.2.2] at h1
 cases hs:Zh f with
 | nil=>simp
 | cons l q =>
  rw [hs] at h1
  simp only [Xas]
  rintro rfl
  rw [X8,Zw9] at h1
  cases h1
theorem Zjd {f g:Tx} (h:Zh f=Zh g):f=g:=by
 rw [<-ZhP f,<-ZhP g,h]
theorem ZoN:∀ (q n:List Tx),Zdb q=true->(∀ y ∈ n,y≠[35]/\y≠[43])->mt false q n=Zcz q n
 | [],n,_,_=>rfl
 | l::q,n,hq,hn=>by
  simp only [Zdb,ZfC,Xi,WR,beq_iff_eq,We] at hq
  cases n with
  | nil =>
   simp only [mt,Zcz,XaH,XbA,Xay]
   by_cases e:l=[35]
   ·subst e
    have : q.isEmpty=true:=by
     rcases hq.1 with (h1 | h1) | h1
     ·cases h1
     ·exact h1.2
     ·simp [Zax,Zcc] at h1
    simp [this]
   ·have : (l == [35])=false:=by simpa using e
    simp [this]
  | cons y r =>
   have ih:=ZoN q r hq.2 fun z hz=>hn z (by simp [hz])
   simp only [mt,Zcz,XaH,XbA,ih]
   by_cases e:l=[35]
   ·subst e
    have : q.isEmpty=true:=by
     rcases hq.1 with (h1 | h1) | h1
     ·cases h1
     ·exact h1.2
     ·simp [Zax,Zcc] at h1
    simp [this]
   ·have : (l == [35])=false:=by simpa using e
    simp only [this,Xai,XbB]
    rw [Bool.or_comm]
theorem Zyw (b:Bool) (q:List Tx) (y:Tx) (r:List Tx) (hq:Zdb q=true) (hn:∀ z ∈ y::r,z≠[35]/\z≠[43]):mt b q (y::r)=(!(b && Zh9 (q.headD [])) && Zcz q (y::r)):=by
 cases b with
 | false=>rw [ZoN q _ hq hn];simp
 | true =>
  cases q with
  | nil=>simp [mt,Zcz,Zh9]
  | cons l q =>
   simp only [Zdb,Xi] at hq
   have ih:=ZoN q r hq.2 fun z hz=>hn z (by simp [hz])
   obtain ⟨h1,h2⟩:=hn y (by simp)
   simp only [mt,Zcz,Xbi,Xbt,XbB,Xay,ih,Xas,Zh9,Xbz]
   by_cases e1:l=[43]
   ·subst e1
    have : (([43]:Tx) == y)=false:=by simpa using fun e=>h2 e.symm
    simp [this]
   ·by_cases e2:l=[35]
    ·subst e2
     have : (([35]:Tx) == y)=false:=by simpa using fun e=>h1 e.symm
     simp [this]
    ·have a1:(l == [43])=false:=by simpa using e1
     have a2:(l == [35])=false:=by simpa using e2
     simp [a1,a2]
theorem Zuu {n:Tx} (h:ZbD n=true):∀ y ∈ Zh n,y≠[35]/\y≠[43]:=by
 have h1:=(Zzu h).2.1
 intro y hy
 have h2:Zax y=false:=by
  cases e:Zax y with
  | false=>rfl
  | true =>
   have : (Zh n).any Zax=true:=XaD.2 ⟨y,hy,e⟩
   rw [h1] at this;cases this
 constructor
 ·rintro rfl;simp [Zax,Zcc] at h2
 ·rintro rfl;simp [Zax,Zcc] at h2
theorem Zpw {f n:Tx} (hf:ZaW f=true) (hn:ZbD n=true):mt (n.headD 0 == 36) (Zh f) (Zh n)=ZaY f n:=by
 have h1:Zdb (Zh f)=true:=by simp only [ZaW,Xi] at hf;exact hf.1
 have h2:=Zuu hn
 cases hs:Zh n with
 | nil=>exact absurd hs (Zfb n)
 | cons y r =>
  rw [hs] at h2
  rw [Zyw _ _ y r h1 h2]
  simp [ZaY,hf,hn,hs]
end
section
def Za8 (f k:List UInt8):List Zl->Option Nat
 | []=>none
 | x::r=>if x.f=f/\x.k=k then some 0 else (Za8 f k r).map (·+1)
def Zfo (l:List Zl):Option Nat->AVal×Za
 | none=>(.tup [.lst false (l.map Zc),.bool false],[])
 | some j=>(.tup [.sl 0 0 0 (l.take j++l.drop (j+1)).length,.bool true],[.row 0 3 ((l.take j++l.drop (j+1)).map Zc)])
theorem Zqb (l:List Zl) (f k:List UInt8) (hl:l.length<=1000000):∀ (r:List Zl) (i:Nat),l.drop i=r ->
  Zh0 0 [(8,.int .i64 (i:Int)),(2,.str k),(1,.str f),(0,.lst false (l.map Zc))] []=some (Zfo l ((Za8 f k r).map (i+·)))
 | [],i,h=>by
  have h1:=ZcS h
  have hm:(l.map Zc).length=l.length:=by simp
  simp only [Za8,XbG,Zfo]
  unfold Zh0
  generalize l.map Zc=S at *
  rw [ZO]
  simp -implicitDefEqProofs only [EQA,ZbK,Xe,Xc,reduceCtorEq,↓reduceIte,ZaB,Zr4,ZBf,Znd,Ziy,Zgh,h1,hm]
 | x::r,i,h=>by
  obtain ⟨g1,d1,l1⟩:=Zau h
  have h1:(i:Int) < l.length:=by omega
  have hm:(l.map Zc).length=l.length:=by simp
  have e1:=iad g1 Zc (k:=3) rfl
  have hc:(Zc x).cells=[.str x.f,.str x.k,.int .i64 x.v]:=rfl
  rw [hc] at e1
  have e3:=ZbG h1 (by omega)
  have ih:=Zqb l f k hl r (i+1) d1
  by_cases hx:x.f=f/\x.k=k
  ·obtain ⟨hf,hk⟩:=hx
   have e0:(Za8 f k (x::r)).map (i+·)=some i:=by
    unfold Za8;rw [if_pos ⟨hf,hk⟩];rfl
   rw [e0]
   have hf':(x.f == f)=true:=by simpa using hf
   have hk':(x.k == k)=true:=by simpa using hk
   have g2:=fun σ=>Ztq σ l i (by omega)
   have g3:=fun σ=>Zik σ l (i+1) (by omega)
   have k1:(l.take i).length=i:=by simp;omega
   have A1:=fun {σ:Za} {sq:Nat}=>Zrr (σ:=σ) (sq:=sq) (l.take i) (by omega)
   have A2:=fun {σ:Za} {sq t g:Nat} hs=>Zlo (b:=false) (σ:=σ) (sq:=sq) (t:=t) (g:=g) (l.take i) (l.drop (i+1)) (by omega) (by simp;omega) hs
   rw [k1] at A1 A2
   clear ih
   simp only [Zfo]
   generalize (l.take i++l.drop (i+1)).length=n at *
   generalize (l.take i++l.drop (i+1)).map Zc=W at *
   generalize (l.take i).map Zc=P at *
   generalize (l.drop (i+1)).map Zc=Q at *
   unfold Zh0
   generalize l.map Zc=S at *
   rw [ZO]
   simp -implicitDefEqProofs only [EQA,Xj,Xe,Xc,Xk,Z7,Zs,unG,reduceCtorEq,↓reduceIte,Zr4,Ziy,Zgh,h1,hm,e1,e3,hf',hk',g2,g3,A1,A2,Zat,Zay,ZaM,Za9,Zbr,Zbp,ZbA,ZbE,ZaS]
   simp -implicitDefEqProofs only [Zaw,gcA,Zn,Zx,XA,Xp,Xal,X7,XD,Zo,Zi,Zp,ZS,Zg,Zm,Zf,XU,Ze,Zv,Zb,Zu,ZD,ZaH,eq_self,Xo,Xg,ne_eq,reduceCtorEq,↓reduceIte,gcA,Zn,Zi,Ze,Zg,Zv,Zb,Zu,Zm,Zp]
  ·have e0:(Za8 f k (x::r)).map (i+·)=(Za8 f k r).map (i+1+·):=by
    have : Za8 f k (x::r)=(Za8 f k r).map (·+1):=by rw [Za8,if_neg hx]
    rw [this,Option.map_map]
    congr 1;funext z;simp only [Function.comp];omega
   rw [e0]
   generalize Zfo l ((Za8 f k r).map (i+1+·))=W at *
   unfold Zh0 at *
   generalize l.map Zc=S at *
   rw [ZO]
   cases hf:(x.f == f) with
   | false =>
    simp -implicitDefEqProofs only [EQA,ZE,Xe,Xc,Z7,Zs,Z4,reduceCtorEq,↓reduceIte,gcT,gcA,Zn,Zi,Zg,Zp,Ziy,Zgh,h1,hm,e1,e3,hf]
    exact ih
   | true =>
    have hk:(x.k == k)=false:=by
     simp at hf
     simpa using fun e=>hx ⟨hf,e⟩
    simp -implicitDefEqProofs only [EQA,ZE,Xe,Xc,Z7,Zs,unG,reduceCtorEq,↓reduceIte,gcT,gcA,Zn,Zi,Zg,Zp,Ziy,Zgh,h1,hm,e1,e3,hf,hk]
    exact ih
theorem Zxp (l:List Zl) (f k:List UInt8) (hl:l.length<=1000000):E 19 [.lst false (l.map Zc),.str f,.str k] []=some (Zfo l (Za8 f k l)):=by
 have h:=Zqb l f k hl l 0 rfl
 have e0:(Za8 f k l).map (0+·)=Za8 f k l:=by
  cases Za8 f k l <;> simp
 rw [e0] at h
 have z0:((0:Nat):Int)=0:=rfl
 rw [z0] at h
 generalize Zfo l (Za8 f k l)=W at *
 unfold Zh0 at h
 generalize l.map Zc=S at *
 rw [ZQ (by rfl) ZyK]
 simp -implicitDefEqProofs only [EQA,ZE,Xj,Xe,Xc,reduceCtorEq,↓reduceIte,gcT,gcA,Zn,Zi,Zg,Zp,ZLo,ZlJ]
 exact h
def Zbh (l:List Zl) (f k:List UInt8):List Zl×Bool:=match Za8 f k l with
 | none=>(l,false)
 | some j=>(l.take j++l.drop (j+1),true)
theorem Zzc (l:List Zl) (f k:List UInt8) (hl:l.length<=1000000):Zaj true 0 (E 19 [.lst false (l.map Zc),.str f,.str k] [])=some (.tup [.lst false ((Zbh l f k).1.map Zc),.bool (Zbh l f k).2],[]):=by
 rw [Zxp l f k hl]
 unfold Zbh
 cases Za8 f k l with
 | none=>rfl
 | some j =>
  simp only [Zfo]
  generalize l.take j++l.drop (j+1)=Q
  rw [<-Wd (f:=Zc)]
  generalize Q.map Zc=W
  simp [Zaj,ZcE,viewR,viewAs,ZbI,Za0,Zag,Zt,gcA,Zn,Zi,Zx,ZS,Zo,Zf,Zg]
theorem ZE6 (l:List Zl) (b:Bool) (f k:List UInt8) (hl:l.length<=1000000) (σ:Za) (sq own:Nat):Zr E BY σ sq 19 own true [.lst b (l.map Zc),.str f,.str k]=some (.tup [.lst false ((Zbh l f k).1.map Zc),.bool (Zbh l f k).2],σ,{}) :=
 ZrT (Zzc l f k hl) (by kernel_rfl) rfl rfl (fun _=>rfl) σ sq own
def Zcf:List Zl->List (Zl×Bool)->Bool
 | t,[]=>t.isEmpty
 | t,(_,false)::r=>Zcf t r
 | [],(_,true)::_=>false
 | y::t,(x,true)::r=>decide (y=x) && Zcf t r
theorem ZLq {α β:Type} {l:List α} {o:List β} {i:Nat} {x:α} {r:List α} (hlo:o.length=l.length) (h:l.drop i=x::r):∃ b q,o.drop i=b::q/\q.length=r.length:=by
 obtain ⟨g1,d1,l1⟩:=Zau h
 cases ho:o.drop i with
 | nil=>have:=Wq.1 ho;omega
 | cons b q =>
  refine ⟨b,q,rfl,?_⟩
  have h1:=congrArg Xa5 h
  have h2:=congrArg Xa5 ho
  simp at h1 h2
  omega
theorem Znb (T l:List Zl) (o:List Bool) (hT:T.length<=1000000) (hl:l.length<=1000000) (hlo:o.length=l.length):∀ (r:List Zl) (q:List Bool) (t:List Zl) (i j:Nat),l.drop i=r->o.drop i=q->T.drop j=t->j<=T.length ->
  ZgI 0 [(8,.int .i64 (i:Int)),(7,.int .i64 (j:Int)),(2,.lst false (o.map AVal.bool)),(1,.lst false (l.map Zc)),(0,.lst false (T.map Zc))] []=some (.bool (Zcf t (r.zip q)),[])
 | [],q,t,i,j,h,ho,ht,hj=>by
  have h1:=ZcS h
  have hm:(l.map Zc).length=l.length:=by simp
  have hm2:(T.map Zc).length=T.length:=by simp
  have hjt:((j:Int) == (T.length:Int))=Zcf t []:=by
   have h2:=congrArg Xa5 ht
   rw [Wv] at h2
   cases t with
   | nil=>simp [Zcf] at h2 ⊢;omega
   | cons y t=>simp [Zcf] at h2 ⊢;omega
  simp only [List.zip_nil_left]
  rw [<-hjt]
  unfold ZgI
  generalize o.map AVal.bool=O at *
  generalize l.map Zc=S at *
  generalize T.map Zc=U at *
  rw [ZO]
  simp -implicitDefEqProofs only [EQA,Xe,Xc,reduceCtorEq,↓reduceIte,ZhM,Zw5,Zld,Zf3,Zek,h1,hm,hm2]
 | x::r,q,t,i,j,h,ho,ht,hj=>by
  obtain ⟨b,q,hq,hql⟩:=ZLq hlo h
  rw [ho] at hq
  subst hq
  obtain ⟨g1,d1,l1⟩:=Zau h
  obtain ⟨g2,d2,l2⟩:=Zau ho
  have h1:(i:Int) < l.length:=by omega
  have hm:(l.map Zc).length=l.length:=by simp
  have hm2:(T.map Zc).length=T.length:=by simp
  have e1:=iad g1 Zc (k:=3) rfl
  have hc:(Zc x).cells=[.str x.f,.str x.k,.int .i64 x.v]:=rfl
  rw [hc] at e1
  have e2:=iad g2 AVal.bool (k:=1) rfl
  have hc2:(AVal.bool b).cells=[.bool b]:=rfl
  rw [hc2] at e2
  have e3:=ZbG h1 (by omega)
  cases b with
  | false =>
   have ih:=Znb T l o hT hl hlo r q t (i+1) j d1 d2 ht hj
   simp only [X5]
   have ea:Zcf t ((x,false)::r.zip q)=Zcf t (r.zip q):=by cases t <;> rfl
   rw [ea]
   unfold ZgI at *
   generalize o.map AVal.bool=O at *
   generalize l.map Zc=S at *
   generalize T.map Zc=U at *
   rw [ZO]
   simp -implicitDefEqProofs only [EQA,ZE,Xe,Xc,unA,reduceCtorEq,↓reduceIte,gcT,gcA,Zn,Zi,Zg,Zp,Zf3,Zek,h1,hm,e2,e3]
   exact ih
  | true =>
   simp only [X5]
   cases t with
   | nil =>
    have h4:(j:Int)>=T.length:=by have:=Wq.1 ht;omega
    have ea:Zcf [] ((x,true)::r.zip q)=false:=rfl
    rw [ea]
    unfold ZgI at *
    generalize o.map AVal.bool=O at *
    generalize l.map Zc=S at *
    generalize T.map Zc=U at *
    rw [ZO]
    simp -implicitDefEqProofs only [EQA,Xe,Xc,Xk,unA,Zs,Z4,reduceCtorEq,↓reduceIte,Zf3,Zek,ZhM,h1,h4,hm,hm2,e2]
   | cons y t =>
    obtain ⟨g3,d3,l3⟩:=Zau ht
    have h4:¬(j:Int)>=T.length:=by omega
    have h5:(j:Int) < T.length:=by omega
    have e4:=iad g3 Zc (k:=3) rfl
    have hc3:(Zc y).cells=[.str y.f,.str y.k,.int .i64 y.v]:=rfl
    rw [hc3] at e4
    have e5:=ZbG h5 (by omega)
    have ih:=Znb T l o hT hl hlo r q t (i+1) (j+1) d1 d2 d3 (by omega)
    have ea:Zcf (y::t) ((x,true)::r.zip q)=(decide (y=x) && Zcf t (r.zip q)):=rfl
    rw [ea]
    unfold ZgI at *
    generalize o.map AVal.bool=O at *
    generalize l.map Zc=S at *
    generalize T.map Zc=U at *
    rw [ZO]
    have fin:∀ b1 b2 b3:Bool,(y.f == x.f)=b1->(y.k == x.k)=b2->(y.v == x.v)=b3->decide (y=x)=(b1 && (b2 && b3)):=by
     rintro b1 b2 b3 rfl rfl rfl
     obtain ⟨a1,a2,a3⟩:=y
     obtain ⟨c1,c2,c3⟩:=x
     simp only [Zl.mk.injEq]
     by_cases u1:a1=c1 <;> by_cases u2:a2=c2 <;> by_cases u3:a3=c3 <;> simp [u1,u2,u3]
    cases u1:(y.f == x.f) with
    | false =>
     have:=fin _ _ _ u1 rfl rfl
     rw [this]
     simp -implicitDefEqProofs only [EQA,Zey,Xj,Xe,Xo,Xc,Xk,unA,Zs,unG,reduceCtorEq,↓reduceIte,Zf3,Zek,ZhM,h1,h4,hm,hm2,e1,e2,e4,u1,Zdk,Zcb,ZdR,ZU,ZcB,AVal.cells]
    | true =>
     cases u2:(y.k == x.k) with
     | false =>
      have:=fin _ _ _ u1 u2 rfl
      rw [this]
      simp -implicitDefEqProofs only [EQA,Zey,Xj,Xe,Xo,Xc,Xk,unA,Zs,unG,reduceCtorEq,↓reduceIte,Zf3,Zek,ZhM,h1,h4,hm,hm2,e1,e2,e4,u1,u2,Zdk,Zcb,ZdR,ZU,ZcB,AVal.cells]
     | true =>
      cases u3:(y.v == x.v) with
      | false =>
       have:=fin _ _ _ u1 u2 u3
       rw [this]
       simp -implicitDefEqProofs only [EQA,Zey,Xj,Xe,Xo,Xc,Xk,unA,Zs,unG,reduceCtorEq,↓reduceIte,Zf3,Zek,ZhM,h1,h4,hm,hm2,e1,e2,e4,u1,u2,u3,Zdk,Zcb,ZdR,ZU,ZcB,AVal.cells]
      | true =>
       have:=fin _ _ _ u1 u2 u3
       rw [this]
       simp -implicitDefEqProofs only [EQA,Zey,ZE,Xj,Xe,Xo,Xc,Xk,unA,Zs,unG,reduceCtorEq,↓reduceIte,gcT,gcA,Zn,Zi,Zg,Zp,Zf3,Zek,h1,h4,hm,hm2,e1,e2,e3,e4,e5,u1,u2,u3,Zdk,Zcb,ZdR,ZU,ZcB,AVal.cells]
       exact ih
theorem ZAq (T l:List Zl) (o:List Bool) (hT:T.length<=1000000) (hl:l.length<=1000000) (hlo:o.length=l.length):E 23 [.lst false (T.map Zc),.lst false (l.map Zc),.lst false (o.map AVal.bool)] []=some (.bool (Zcf T (l.zip o)),[]):=by
 have h:=Znb T l o hT hl hlo l o T 0 0 rfl rfl rfl (XaM _)
 have z0:((0:Nat):Int)=0:=rfl
 rw [z0] at h
 unfold ZgI at h
 generalize o.map AVal.bool=O at *
 generalize l.map Zc=S at *
 generalize T.map Zc=U at *
 rw [ZQ (by rfl) ZEv]
 simp -implicitDefEqProofs only [EQA,ZE,Xj,Xe,Xc,reduceCtorEq,↓reduceIte,gcT,gcA,Zn,Zi,Zg,Zp,ZDd,Zne]
 exact h
end
section
theorem Zk7 {a b c:Zl} (h:ltR a b) (h':ltR b c):ltR a c:=Zev h h'
theorem Zyn (a:Zl):¬ltR a a:=ZdV _
theorem ZcG (a b:Zl):ZaG a b=true↔kyR a=kyR b:=by
 unfold ZaG kyR;simp
theorem ZoP {a b:Zl} (h:¬ltR a b) (h':ZaG a b=false):ltR b a:=by
 by_cases e:ltR b a
 ·exact e
 ·have:=ZdS h e
  rw [(ZcG a b).2 this] at h';cases h'
theorem Zfd {a b:Zl} (h:ltR a b):ZaG a b=false:=by
 cases e:ZaG a b with
 | false=>rfl
 | true=>have:=(ZcG a b).1 e;unfold ltR at h;rw [this] at h;exact absurd h (ZdV _)
theorem ZkT (a b:Zl):ZaG a b=ZaG b a:=by
 cases e:ZaG b a with
 | true=>exact (ZcG a b).2 ((ZcG b a).1 e).symm
 | false =>
  cases e':ZaG a b with
  | false=>rfl
  | true=>rw [(ZcG b a).2 ((ZcG a b).1 e').symm] at e;cases e
def ZcX (s:Zl):List Zl->List Zl
 | []=>[s]
 | x::r=>if ZcK x s then x::ZcX s r else if ZaG x s then s::r else s::x::r
theorem Zt7 (s:Zl):∀ L:List Zl,ZbW L s=ZcX s L
 | []=>rfl
 | x::r=>by
  have ih:=Zt7 s r
  unfold ZbW putAt at *
  unfold ZcX
  by_cases h:ZcK x s=true
  ·rw [if_pos h,<-ih]
   have e:Zb2 s (x::r)=Zb2 s r+1:=by rw [Zb2,if_pos h]
   rw [e]
   rfl
  ·rw [if_neg h]
   have e:Zb2 s (x::r)=0:=by rw [Zb2,if_neg h]
   rw [e]
   by_cases h2:ZaG x s=true
   ·rw [if_pos h2];simp [ZcI,h2]
   ·rw [if_neg h2];simp [ZcI,h2]
theorem Zs5 (s:Zl):∀ L:List Zl,L.Pairwise ltR->(ZcX s L).Perm (s::L.filter fun x=>!ZaG x s)
 | [],_=>List.Perm.refl _
 | x::r,h=>by
  obtain ⟨h1,h2⟩:=Wk.1 h
  unfold ZcX
  by_cases hl:ZcK x s=true
  ·rw [if_pos hl]
   have:=Zfd ((ZgN x s).1 hl)
   rw [XaW,this]
   simp only [XaH,if_true]
   exact ((Zs5 s r h2).cons x).trans (List.Perm.swap _ _ _)
  ·have hnl:¬ltR x s:=fun e=>hl ((ZgN x s).2 e)
   rw [if_neg hl]
   by_cases hs:ZaG x s=true
   ·rw [if_pos hs,XaW,hs]
    simp only [Xbi,Xg,if_false]
    rw [Xbo.2]
    intro y hy
    have h3:=h1 y hy
    have e:kyR x=kyR s:=(ZcG x s).1 hs
    have : ZaG y s=false:=by
     rw [ZkT]
     refine Zfd ?_
     unfold ltR at h3 ⊢
     rw [<-e];exact h3
    simp [this]
   ·rw [if_neg hs,Xbo.2]
    intro y hy
    have hsx:=ZoP hnl (by simpa using hs)
    rcases XB.1 hy with rfl | hy
    ·simpa using hs
    ·have:=Zfd (Zk7 hsx (h1 y hy))
     rw [ZkT] at this
     simp [this]
theorem ZuK (s:Zl):∀ (L:List Zl) (y:Zl),y ∈ ZcX s L->y=s\/y ∈ L
 | [],y,h=>by simpa [ZcX] using h
 | x::r,y,h=>by
  unfold ZcX at h
  split at h
  ·rcases XB.1 h with rfl | h
   ·simp
   ·rcases ZuK s r y h with h | h <;> simp [h]
  ·split at h
   ·rcases XB.1 h with h | h <;> simp [h]
   ·rcases XB.1 h with h | h
    ·simp [h]
    ·exact Xr h
theorem Zsh (s:Zl):∀ L:List Zl,L.Pairwise ltR->(ZcX s L).Pairwise ltR
 | [],_=>by simp [ZcX]
 | x::r,h=>by
  obtain ⟨h1,h2⟩:=Wk.1 h
  unfold ZcX
  by_cases hl:ZcK x s=true
  ·rw [if_pos hl]
   refine Wk.2 ⟨fun y hy=>?_,Zsh s r h2⟩
   rcases ZuK s r y hy with rfl | hy
   ·exact (ZgN _ _).1 hl
   ·exact h1 y hy
  ·have hnl:¬ltR x s:=fun e=>hl ((ZgN x s).2 e)
   rw [if_neg hl]
   by_cases hs:ZaG x s=true
   ·rw [if_pos hs]
    refine Wk.2 ⟨fun y hy=>?_,h2⟩
    have:=h1 y hy
    unfold ltR at this ⊢
    rw [<-(ZcG x s).1 hs];exact this
   ·rw [if_neg hs]
    have hsx:=ZoP hnl (by simpa using hs)
    refine Wk.2 ⟨fun y hy=>?_,h⟩
    rcases XB.1 hy with rfl | hy
    ·exact hsx
    ·exact Zk7 hsx (h1 y hy)
def Zeu (f k:List UInt8):Zl:=⟨f,k,0⟩
theorem Zly (f k:List UInt8):∀ L:List Zl,L.Pairwise ltR->Zbh L f k=(L.filter (fun x=>!ZaG x (Zeu f k)),L.any fun x=>ZaG x (Zeu f k))
 | [],_=>rfl
 | x::r,h=>by
  obtain ⟨h1,h2⟩:=Wk.1 h
  have ih:=Zly f k r h2
  have hk:(x.f=f/\x.k=k)↔ZaG x (Zeu f k)=true:=by
   rw [ZcG];unfold kyR Zeu;simp
  unfold Zbh at *
  by_cases hx:x.f=f/\x.k=k
  ·have e:Za8 f k (x::r)=some 0:=by rw [Za8,if_pos hx]
   have hs:=hk.1 hx
   rw [e]
   simp only [List.take_zero,Xp,XC,Xax,XaF]
   rw [XaW,hs,Xaz,hs]
   simp only [Xbi,Xg,if_false,Bool.true_or]
   rw [Xbo.2]
   intro y hy
   have:=Zfd (h1 y hy)
   have e2:=(ZcG x _).1 hs
   have : ZaG y (Zeu f k)=false:=by
    cases e3:ZaG y (Zeu f k) with
    | false=>rfl
    | true =>
     have:=(ZcG y _).1 e3
     rw [(ZcG x y).2 (e2.trans this.symm)] at *
     cases ‹true=false›
   simp [this]
  ·have hs:ZaG x (Zeu f k)=false:=by
    cases e3:ZaG x (Zeu f k) with
    | false=>rfl
    | true=>exact absurd (hk.2 e3) hx
   have e:Za8 f k (x::r)=(Za8 f k r).map (·+1):=by rw [Za8,if_neg hx]
   rw [e,XaW,hs,Xaz,hs]
   simp only [XaH,if_true,XbB]
   cases hf:Za8 f k r with
   | none=>rw [hf] at ih;simp only [Xb] at ih;simp only [XbG,Xb];exact ⟨by rw [<-ih.1],ih.2⟩
   | some j=>rw [hf] at ih;simp only [Xb] at ih;simp only [Option.map_some,Xb,List.take_succ_cons,Xax,XH];exact ⟨by rw [<-ih.1],ih.2⟩
theorem Zmn (g:Zl->Bool):∀ L:List Zl,Zcf (L.filter g) (L.zip (L.map g))=true
 | []=>rfl
 | x::r=>by
  have ih:=Zmn g r
  rw [XaW,Xx,X5]
  cases hg:g x with
  | true =>
   rw [if_pos rfl]
   show (decide (x=x) && Zcf (r.filter g) (r.zip (r.map g)))=true
   simp [ih]
  | false =>
   rw [if_neg (by simp)]
   have : Zcf (r.filter g) ((x,false)::r.zip (r.map g))=Zcf (r.filter g) (r.zip (r.map g)):=by cases r.filter g <;> rfl
   rw [this];exact ih
end
section
structure TInv (ns:List TN) (L:List Zl):Prop where
 wf:WF ns
 sort:L.Pairwise ltR
 tab:∀ x:Zl,x ∈ L↔ZaW x.f=true/\Zal ns (Zh x.f) x.k=some x.v
 ok:∀ q k v,Zal ns q k=some v->∃ f,ZaW f=true/\q=Zh f
theorem Zud (q:List Tx) (k:Tx):Zal [([],[])] q k=none:=by
 cases q with
 | nil=>rfl
 | cons l q=>simp [Zal,goT,Zq]
theorem TInv.nil:TInv [([],[])] [] :=
 ⟨WF.nil,WL,fun x=>by rw [Zud];simp,fun q k v h=>by rw [Zud] at h;cases h⟩
theorem TInv.nodup {ns:List TN} {L:List Zl} (h:TInv ns L):L.Nodup:=h.sort.imp fun h e=>by subst e;exact Zyn _ h
theorem Ze4 (x:Zl) (f k:Tx) (v:Int):ZaG x ⟨f,k,v⟩=true↔x.f=f/\x.k=k:=by
 rw [ZcG];unfold kyR;simp
theorem TInv.any {ns:List TN} {L:List Zl} (h:TInv ns L) (f k:Tx) (v:Int):(L.any fun x=>ZaG x ⟨f,k,v⟩)=(Zal ns (Zh f) k).isSome:=by
 rw [Xac,XaD]
 constructor
 ·rintro ⟨x,hx,hs⟩
  obtain ⟨rfl,rfl⟩:=(Ze4 x f k v).1 hs
  rw [((h.tab x).1 hx).2];rfl
 ·intro hg
  obtain ⟨v',hv⟩:=Option.isSome_iff_exists.1 hg
  obtain ⟨f',hf,he⟩:=h.ok _ _ _ hv
  have:=Zjd he
  subst this
  exact ⟨⟨f,k,v'⟩,(h.tab _).2 ⟨hf,hv⟩,(Ze4 _ f k v).2 ⟨rfl,rfl⟩⟩
theorem Zpo (s:Zl):∀ L:List Zl,L.Pairwise ltR->(ZcX s L).length=if L.any (fun x=>ZaG x s) then L.length else L.length+1
 | [],_=>rfl
 | x::r,h=>by
  obtain ⟨h1,h2⟩:=Wk.1 h
  unfold ZcX
  by_cases hl:ZcK x s=true
  ·have hs:=Zfd ((ZgN x s).1 hl)
   rw [if_pos hl,XE,Zpo s r h2,Xaz,hs,XbB]
   split <;> simp
  ·have hnl:¬ltR x s:=fun e=>hl ((ZgN x s).2 e)
   rw [if_neg hl]
   by_cases hs:ZaG x s=true
   ·rw [if_pos hs,Xaz,hs];simp
   ·rw [if_neg hs]
    have hsx:=ZoP hnl (by simpa using hs)
    have : (r.any fun x=>ZaG x s)=false:=by
     rw [Bool.eq_false_iff]
     intro e
     obtain ⟨y,hy,he⟩:=XaD.1 e
     have:=Zfd (Zk7 hsx (h1 y hy))
     rw [ZkT] at this
     rw [this] at he;cases he
    have hs':ZaG x s=false:=by simpa using hs
    rw [Xaz,this,hs']
    simp
theorem ZJ1 (s:Zl) {L:List Zl} (h:L.Pairwise ltR) (x:Zl):x ∈ ZcX s L↔x=s\/(x ∈ L/\ZaG x s=false):=by
 rw [(Zs5 s L h).mem_iff,XB,Wj]
 simp
theorem TInv.put {ns:List TN} {L:List Zl} (h:TInv ns L) {f:Tx} (hf:ZaW f=true) (k:Tx) (v:Int):TInv (Z0 k v (Zh f) ns 0).1 (ZbW L ⟨f,k,v⟩) /\
  ((ZbW L ⟨f,k,v⟩).length:Int)=if (Z0 k v (Zh f) ns 0).2 then (L.length:Int) else L.length+1:=by
 obtain ⟨p1,p2,p3⟩:=ZlC k v (Zh f) ns 0 [] h.wf rfl
 rw [Xp] at p2 p3
 rw [Zt7]
 refine ⟨⟨p1,Zsh _ L h.sort,fun x=>?_,fun q k' v' hg=>?_⟩,?_⟩
 ·rw [ZJ1 _ h.sort,p3,h.tab]
  constructor
  ·rintro (rfl | ⟨h1,h2⟩)
   ·exact ⟨hf,by simp⟩
   ·refine ⟨h1.1,?_⟩
    rw [if_neg,h1.2]
    rintro ⟨e1,e2⟩
    rw [(Ze4 x f k v).2 ⟨Zjd e1,e2⟩] at h2;cases h2
  ·rintro ⟨h1,h2⟩
   split at h2
   ·rename_i e
    left
    injection h2 with h2
    obtain ⟨xf,xk,xv⟩:=x
    simp only at e h2
    rw [Zjd e.1,e.2,h2]
   ·rename_i e
    right
    refine ⟨⟨h1,h2⟩,?_⟩
    cases hs:ZaG x ⟨f,k,v⟩ with
    | false=>rfl
    | true =>
     obtain ⟨e1,e2⟩:=(Ze4 x f k v).1 hs
     exact absurd ⟨by rw [e1],e2⟩ e
 ·rw [p3] at hg
  split at hg
  ·rename_i e;exact ⟨f,hf,e.1⟩
  ·exact h.ok q k' v' hg
 ·rw [Zpo _ L h.sort,h.any,p2]
  split <;> simp
theorem ZEc (f k:Tx) (L:List Zl) (h:L.Pairwise ltR):((Zbh L f k).1.length:Int)=if (Zbh L f k).2 then (L.length:Int) - 1 else L.length:=by
 have hj:∀ (L:List Zl) (j:Nat),Za8 f k L=some j->j < L.length:=by
  intro L
  induction L with
  | nil=>intro j h;simp [Za8] at h
  | cons x r ih =>
   intro j h
   unfold Za8 at h
   split at h
   ·injection h with h;subst h;simp
   ·obtain ⟨i,hi,rfl⟩:=Xh.1 h
    have:=ih i hi
    simp;omega
 unfold Zbh
 cases hf:Za8 f k L with
 | none=>rfl
 | some j =>
  have:=hj L j hf
  simp only [if_true,Xy,List.length_take,Wv]
  omega
theorem TInv.drop {ns:List TN} {L:List Zl} (h:TInv ns L) (f k:Tx):TInv (ZL k (Zh f) ns 0).1 (Zbh L f k).1/\(ZL k (Zh f) ns 0).2=(Zbh L f k).2 /\
  ((Zbh L f k).1.length:Int)=if (Zbh L f k).2 then (L.length:Int) - 1 else L.length:=by
 obtain ⟨p1,p2,p3,_⟩:=ZtS k (Zh f) ns 0 [] h.wf rfl
 rw [Xp] at p2 p3
 refine ⟨?_,?_,ZEc f k L h.sort⟩
 ·rw [Zly f k L h.sort]
  refine ⟨p1,h.sort.filter _,fun x=>?_,fun q k' v' hg=>?_⟩
  ·rw [Wj,p3,h.tab]
   unfold Zeu
   constructor
   ·rintro ⟨h1,h2⟩
    refine ⟨h1.1,?_⟩
    rw [if_neg,h1.2]
    rintro ⟨e1,e2⟩
    rw [(Ze4 x f k 0).2 ⟨Zjd e1,e2⟩] at h2;cases h2
   ·rintro ⟨h1,h2⟩
    split at h2
    ·cases h2
    ·rename_i e
     refine ⟨⟨h1,h2⟩,?_⟩
     cases hs:ZaG x ⟨f,k,0⟩ with
     | false=>rfl
     | true =>
      obtain ⟨e1,e2⟩:=(Ze4 x f k 0).1 hs
      exact absurd ⟨by rw [e1],e2⟩ e
  ·rw [p3] at hg
   split at hg
   ·cases hg
   ·exact h.ok q k' v' hg
 ·rw [p2,Zly f k L h.sort]
  exact (h.any f k 0).symm
def ZbJ (f k:Tx) (a:Int×Bool) (l:List Zl):Int×Bool:=l.foldl (fun a x=>if x.f=f/\x.k=k then (x.v,true) else a) a
theorem ZoS (f k:Tx):∀ (L:List Zl) (a:Int×Bool),(∀ x ∈ L,¬(x.f=f/\x.k=k))->ZbJ f k a L=a
 | [],a,_=>rfl
 | x::r,a,h=>by
  have:=h x (by simp)
  unfold ZbJ
  rw [Xa0,if_neg this]
  exact ZoS f k r a fun y hy=>h y (by simp [hy])
theorem ZqP (f k:Tx):∀ (L:List Zl) (a:Int×Bool) (x:Zl),L.Pairwise ltR->x ∈ L->x.f=f->x.k=k->ZbJ f k a L=(x.v,true)
 | y::r,a,x,hn,hx,he,hk=>by
  obtain ⟨h1,h2⟩:=Wk.1 hn
  unfold ZbJ
  rw [Xa0]
  rcases XB.1 hx with rfl | hx
  ·rw [if_pos ⟨he,hk⟩]
   refine ZoS f k r _ fun z hz e=>?_
   have:=Zfd (h1 z hz)
   rw [(ZcG x z).2 (by unfold kyR;rw [he,hk,e.1,e.2])] at this;cases this
  ·rw [if_neg]
   ·exact ZqP f k r a x h2 hx he hk
   ·rintro ⟨e1,e2⟩
    have:=Zfd (h1 x hx)
    rw [(ZcG y x).2 (by unfold kyR;rw [he,hk,e1,e2])] at this;cases this
theorem TInv.want {ns:List TN} {L:List Zl} (h:TInv ns L) (f k:Tx):ZbJ f k (0,false) L=((Zal ns (Zh f) k).getD 0,(Zal ns (Zh f) k).isSome):=by
 have ha:=h.any f k 0
 cases hg:Zal ns (Zh f) k with
 | none =>
  rw [hg] at ha
  refine ZoS f k L _ fun x hx e=>?_
  have : (L.any fun x=>ZaG x ⟨f,k,0⟩)=true:=XaD.2 ⟨x,hx,(Ze4 x f k 0).2 e⟩
  rw [ha] at this;cases this
 | some v =>
  rw [hg] at ha
  obtain ⟨x,hx,hs⟩:=XaD.1 ha
  obtain ⟨rfl,rfl⟩:=(Ze4 x f k 0).1 hs
  have:=((h.tab x).1 hx).2
  rw [hg] at this;injection this with this;subst this
  exact ZqP x.f x.k L _ x h.sort hx rfl rfl
theorem TInv.hit {ns:List TN} {L:List Zl} (h:TInv ns L) {n:Tx} (hn:ZbD n=true) :
  ∃ R:List Zl,Zbk ns (Zh n) (n.headD 0 == 36) [0] 0=R.map Zc/\(L.filter fun x=>ZaY x.f n).Perm R:=by
 refine ⟨(Zcy ns (Zh n) (n.headD 0 == 36) 0).map (Zdr [0]),?_,?_⟩
 ·rw [Zmt,Wb];rfl
 ·have hm:∀ x:PR3,x ∈ Zcy ns (Zh n) (n.headD 0 == 36) 0->∃ f,ZaW f=true/\x.1=Zh f/\Zal ns (Zh f) x.2.1=some x.2.2/\mt (n.headD 0 == 36) (Zh f) (Zh n)=true:=by
   rintro ⟨q,k,v⟩ hx
   obtain ⟨h1,h2⟩:=(Zgn ns k v _ _ _ _).1 hx
   have h3:=(ZiW h.wf q k v).2 h1
   obtain ⟨f,hf,rfl⟩:=h.ok _ _ _ h3
   exact ⟨f,hf,rfl,h3,h2⟩
  have hr:∀ (x:PR3) (f:Tx),ZaW f=true->x.1=Zh f->Zdr [0] x=⟨f,x.2.1,x.2.2⟩:=by
   intro x f hf he
   unfold Zdr
   rw [he,Zq9 (Zuv hf)]
  refine (List.perm_ext_iff_of_nodup (Xbh _ h.nodup) (ZgP ?_ (ZlX h.wf _ _ _ (Zuu hn)))).2 fun x=>?_
  ·intro a ha b hb he
   obtain ⟨f,hf,h1,_⟩:=hm a ha
   obtain ⟨g,hg,h2,_⟩:=hm b hb
   rw [hr a f hf h1,hr b g hg h2] at he
   simp only [Zl.mk.injEq] at he
   obtain ⟨a1,a2,a3⟩:=a
   obtain ⟨b1,b2,b3⟩:=b
   simp only at *
   rw [h1,h2,he.1,he.2.1,he.2.2]
  ·rw [Wj,h.tab,Xv]
   constructor
   ·rintro ⟨⟨h1,h2⟩,h3⟩
    refine ⟨(Zh x.f,x.k,x.v),(Zgn ns _ _ _ _ _ _).2 ⟨(ZiW h.wf _ _ _).1 h2,?_⟩,?_⟩
    ·rw [Zpw h1 hn];exact h3
    ·rw [hr _ x.f h1 rfl]
   ·rintro ⟨y,hy,rfl⟩
    obtain ⟨f,hf,h1,h2,h3⟩:=hm y hy
    rw [hr y f hf h1]
    rw [Zpw hf hn] at h3
    exact ⟨⟨hf,h2⟩,h3⟩
end
section
abbrev trV (u:Nat) (n:Int):List AVal:=[.nref u 0 0,.int .i64 n]
theorem ZhJ {view:Bool} {ns:List TN} {n:Int} {q:AVal} (hq:Zac q=true) (hv:viewR (trH ns n) q=some (q,[])):Zaj view 2 (some (q,trH ns n))=some (q,trH ns n):=by
 unfold Zaj
 split
 ·have hnp:∀ x,q=.pan x->False:=by rintro x rfl;simp [viewR,ZbI,Za0] at hv
  have : ZcE 2 (some (q,trH ns n))=(match viewR (trH ns n) q with
   | some (r',ts)=>match gcA 2 [r'] (Zt (trH ns n) ts) with
    | ([r''],σ')=>some (r'',σ')
    | _=>none
   | none=>none):=by
   cases q <;> first | rfl | exact (hnp _ rfl).elim
  rw [this,hv]
  exact Zdx hq ns n []
 ·rfl
theorem Zd1 {O:ZG} {f own:Nat} {view:Bool} {args:List AVal} {ns ns':List TN} {n n':Int} {q r0:AVal} {h0:Za} (hq:Zac q=true) (h:O f (.ref 0 0::args) (trH ns n)=some (r0,h0)) (hask:Zaj view 2 (some (r0,h0))=some (q,trH ns' n')) (hb:BY f=false) (hp:args.all Z6=true) (hn:args.map ZV=args)
  (hlen:ns.length<=ns'.length) {σ:Za} {t u sq:Nat} (htu:t≠u) (hs:σ[t]?=some (.var (trV u n))) (hm:σ[u]?=some (.arena (eNs ns))) (hff:Zai σ sq own=true) :
  Zr O BY σ sq f own view (.ref t 0::args)=some (q,(σ.set t (.var (trV u n'))).set u (.arena (eNs ns')),{ any:=true,upd:=[(t,trV u n')] }):=by
 have htl:t < σ.length:=(Xd.1 hs).1
 have hul:u < σ.length:=(Xd.1 hm).1
 have h1:σ.getD t .free=.var (trV u n):=by simp [Xf,hs]
 have h2:σ.getD u .free=.arena (eNs ns):=by simp [Xf,hm]
 have hsh:showAs σ (.ref t 0::args)=some (.ref t 0::args.map ZV,[]):=by
  rw [showAs,show showA σ (.ref t 0)=some (.ref t 0,[]) from rfl,Zhx hp]
  rfl
 have href:Zx (.ref t 0::args.map ZV)=[t]:=by
  rw [Zx,Zgy hp];rfl
 have hre:Zi σ 1000 (Zx (.ref t 0::args.map ZV)) []=[t,u]:=by
  have e0:([]:List Nat).contains t=false:=rfl
  have e1:([t]:List Nat).contains u=false:=by simp;exact fun e=>htu e.symm
  rw [href,show (1000:Nat)=997+1+1+1 from rfl]
  have hb0:Zp (.var (trV u n))=[u]:=rfl
  have hb1:Zp (.arena (eNs ns))=[]:=rfl
  simp only [Zi,e0,h1,hb0,hb1,XA,Xp,Xg,if_false,e1,h2,XH]
 have hρt:Ze σ 0 [t,u] t 0=some (0,0):=by simp [Ze,Zv,hs,Zb,Zu]
 have hρu:Ze σ 0 [t,u] u (1001+3*0)=some (1,1001+3*0):=ZdQ (j:=0) hm (by simp [Zv,htu]) (by omega)
 have hvs:Zo (Ze σ 0 [t,u]) (.ref t 0::args.map ZV)=.ref 0 0::args:=by
  rw [Zo,Zgf hp,hn]
  simp only [Zf,hρt]
 have hh:Zg σ 0 [t,u] (Ze σ 0 [t,u]) [t,u] 0=trH ns n:=by
  simp only [Zg,h1,h2,Zm,Zo,Zf,hρu,if_true,trH]
 have hall:([t,u].all fun t=>okB (σ.getD t .free))=true:=by simp only [X8,WC,h1,h2,okB,Wm]
 have hk:Z5 σ [t,u] (trH ns' n') 0=true:=by simp [trH,Z5,okB,Za1,Zb,hs,hm,Ze7,hlen]
 have hρb:Zaf σ [t,u] sq 1 (1001+3*0)=some (u,1001+3*0):=by
  simp [Zaf,Zb,hm]
 have hlay:ZW σ [t,u] sq (trH ns' n') 0 σ=(σ.set t (.var (trV u n'))).set u (.arena (eNs ns')):=by
  simp only [trH,ZW,ZT,XD,XL,Zm,Zo,Zf,hρb,if_true]
 refine Zb7 hb hsh hre rfl hall hvs hh h hask (by simp [trH]) (by simp [trH]) hk hff (ZdJ _ q hq).1 hlay ?_
 have h3:((σ.set t (.var (trV u n'))).set u (.arena (eNs ns')))[t]?=some (.var (trV u n')):=by
  rw [Xn,if_neg (fun e=>htu e.symm),Xn,if_pos rfl,if_pos htl]
 have h4:((σ.set t (.var (trV u n'))).set u (.arena (eNs ns')))[u]?=some (.arena (eNs ns')):=by
  rw [Xn,if_pos rfl,if_pos (by simpa using hul)]
 simp [ZaK,h3,h4]
theorem ZKU {σ:Za} {sq:Nat} (hff:Zai σ sq 2=true) :
  Zr E BY σ sq 7 2 false []=some (.ref sq 0,(σ.set sq (.var (trV (sq+1) 0))).set (sq+1) (.arena (eNs [([],[])])),{ any:=true }):=by
 have hd:Zf8 2 (.ref 0 0) (trH [([],[])] 0)=none:=rfl
 have hk:Z5 σ [] (trH [([],[])] 0) 0=true:=rfl
 unfold Zr Zcd
 rw [show BY 7=false from by kernel_rfl]
 simp only [Xg,if_false,show showAs σ []=some ([],[]) from rfl,show Zt σ []=σ from rfl,Zx]
 have h2:∀ σ,Zi σ 1000 [] []=[]:=fun _=>rfl
 rw [h2]
 unfold ZbH
 simp only [WC,if_true,Zo,Zg,XP,ZHH]
 have hk2:decide ((trH [([],[])] 0).length<=0+2)=true:=rfl
 simp only [Zaj,Xg,if_false,Zar,List.isEmpty_nil,show (trH [([],[])] 0).isEmpty=false from rfl,Xbt,if_true,hd,XP,hk2,XaM,decide_true,hk,hff,Wm]
 simp [trH,ZW,ZT,Zaf,Zm,Zo,Zf,ZaK]
theorem Zjr {f:Tx} (hf:f.length<=1048576):(Zh f).length<=2000000:=by
 have h1:=Ze9 f
 have h2:=WV (a:=(47:UInt8)) (l:=f)
 omega
section
variable {ns:List TN} {L:List Zl} (hI:TInv ns L) (hL:L.length<=1000) {σ:Za} {t u sq:Nat} (htu:t≠u) (hs:σ[t]?=some (.var (trV u (L.length:Int)))) (hm:σ[u]?=some (.arena (eNs ns)))
include hI hL htu hs hm
theorem ZvK (f k:Tx) (v:Int) (hf:f.length<=1048576) (hb:ZaW f=true):Zr E BY σ sq 9 0 true [.ref t 0,.str f,.str k,.int .i64 v] =
  some (.int .i64 0,(σ.set t (.var (trV u ((ZbW L ⟨f,k,v⟩).length:Int)))).set u (.arena (eNs (Z0 k v (Zh f) ns 0).1)),{ any:=true,upd:=[(t,trV u ((ZbW L ⟨f,k,v⟩).length:Int))] }):=by
 have hq:=ZuU ns hI.wf.cl hI.wf.pos (L.length:Int) (by omega) f k v hf (Zjr hf)
 rw [if_pos hb,<-(hI.put hb k v).2] at hq
 exact Zd1 rfl hq (ZhJ rfl rfl) (by kernel_rfl) rfl rfl (Zka k v _ ns 0) htu hs hm rfl
theorem ZBI (f k:Tx) (v:Int) (hf:f.length<=1048576) (hb:ZaW f=false):Zr E BY σ sq 9 0 true [.ref t 0,.str f,.str k,.int .i64 v] =
  some (.int .i64 150,(σ.set t (.var (trV u (L.length:Int)))).set u (.arena (eNs ns)),{ any:=true,upd:=[(t,trV u (L.length:Int))] }):=by
 have hq:=ZuU ns hI.wf.cl hI.wf.pos (L.length:Int) (by omega) f k v hf (Zjr hf)
 rw [if_neg (by simp [hb])] at hq
 exact Zd1 rfl hq (ZhJ rfl rfl) (by kernel_rfl) rfl rfl (Xz _) htu hs hm rfl
theorem ZJC (hS:Small ns) (f k:Tx) (hf:f.length<=1048576):Zr E BY σ sq 10 0 true [.ref t 0,.str f,.str k] =
  some (.bool (Zbh L f k).2,(σ.set t (.var (trV u ((Zbh L f k).1.length:Int)))).set u (.arena (eNs (ZL k (Zh f) ns 0).1)),{ any:=true,upd:=[(t,trV u ((Zbh L f k).1.length:Int))] }):=by
 have hq:=ZvI ns hI.wf.cl hS hI.wf.pos (L.length:Int) (by omega) f k hf (Zjr hf)
 obtain ⟨_,h2,h3⟩:=hI.drop f k
 rw [h2,<-h3] at hq
 exact Zd1 rfl hq (ZhJ rfl rfl) (by kernel_rfl) rfl rfl (Nat.le_of_eq (ZhU k _ ns 0).symm) htu hs hm rfl
omit hL in
theorem ZHT (f k:Tx) (hf:f.length<=1048576):Zr E BY σ sq 26 0 true [.ref t 0,.str f,.str k] =
  some (.tup [.int .i64 (ZbJ f k (0,false) L).1,.bool (ZbJ f k (0,false) L).2],(σ.set t (.var (trV u (L.length:Int)))).set u (.arena (eNs ns)),{ any:=true,upd:=[(t,trV u (L.length:Int))] }):=by
 have hq:=ZDH ns hI.wf.cl hI.wf.pos (L.length:Int) f k hf (Zjr hf)
 rw [hI.want f k]
 exact Zd1 rfl hq (ZhJ rfl rfl) (by kernel_rfl) rfl rfl (Xz _) htu hs hm rfl
omit hI hL in
theorem Zgb:Zr E BY σ sq 12 0 true [.ref t 0] =
  some (.int .i64 (L.length:Int),(σ.set t (.var (trV u (L.length:Int)))).set u (.arena (eNs ns)),{ any:=true,upd:=[(t,trV u (L.length:Int))] }) :=
 Zd1 rfl (ZH0 ns (L.length:Int)) (ZhJ rfl rfl) (by kernel_rfl) rfl rfl (Xz _) htu hs hm rfl
end
def Zit (n:Tx) (L:List Zl):List Zl:=if ZbD n then L.filter fun x=>ZaY x.f n else []
theorem ZpN (ns:List TN) (n:Int) (k:Nat) (Y:List AVal) (hk:k=Y.length):Zaj true 2 (some (.sl 2 0 0 k,trH ns n++[.row 0 3 Y]))=some (.lst false Y,trH ns n):=by
 have hv:viewR (trH ns n++[.row 0 3 Y]) (.sl 2 0 0 k)=some (.lst false Y,[2]):=by
  unfold trH
  simp only [viewR,ZbI,Za0,Zag,XH,Xp,List.getElem?_cons_succ,List.getElem?_cons_zero,XC]
  rw [if_pos ⟨trivial,by omega⟩]
  simp [hk]
 have e:Zaj true 2 (some (.sl 2 0 0 k,trH ns n++[.row 0 3 Y]))=(match viewR (trH ns n++[.row 0 3 Y]) (.sl 2 0 0 k) with
  | some (r',ts)=>match gcA 2 [r'] (Zt (trH ns n++[.row 0 3 Y]) ts) with
   | ([r''],σ')=>some (r'',σ')
   | _=>none
  | none=>none):=rfl
 rw [e,hv]
 exact Zdx (r:=.lst false Y) rfl ns n [.frow 0 3 Y]
theorem ZnW (ns:List TN) (n:Int):Zaj true 2 (some (.lst true [],trH ns n))=some (.lst false [],trH ns n) :=
 Zdx (r:=.lst false []) rfl ns n []
theorem ZLG {ns:List TN} {L:List Zl} (hI:TInv ns L) (hL:L.length<=1000) {σ:Za} {t u sq:Nat} (htu:t≠u) (hs:σ[t]?=some (.var (trV u (L.length:Int)))) (hm:σ[u]?=some (.arena (eNs ns))) (name:Tx) :
  Zr E BY σ sq 11 0 true [.ref t 0,.str name]=some (.lst false ((Zit name L).map Zc),(σ.set t (.var (trV u (L.length:Int)))).set u (.arena (eNs ns)),{ any:=true,upd:=[(t,trV u (L.length:Int))] }):=by
 unfold Zit
 cases hn:ZbD name with
 | false=>exact Zd1 rfl (Zzz ns (L.length:Int) name hn) (ZnW ns _) (by kernel_rfl) rfl rfl (Xz _) htu hs hm rfl
 | true =>
  rw [if_pos rfl]
  obtain ⟨R,h1,h2⟩:=hI.hit hn
  have hsr:(L.filter fun x=>ZaY x.f name).Pairwise ltR:=hI.sort.filter _
  generalize hSd:(L.filter fun x=>ZaY x.f name)=S at *
  have hSl:S.length<=L.length:=by rw [<-hSd];exact XaQ _ _
  cases R with
  | nil =>
   have : S=[]:=h2.eq_nil
   subst this
   exact Zd1 rfl (ZHF ns hI.wf.cl hI.wf.pos (L.length:Int) name hn h1) (ZnW ns _) (by kernel_rfl) rfl rfl (Xz _) htu hs hm rfl
  | cons x d =>
   have hl:=h2.length_eq
   exact Zd1 rfl (ZCp ns hI.wf.cl hI.wf.pos (L.length:Int) name hn x d h1 (by omega) h2 hsr) (ZpN ns _ _ _ (by rw [Wd,<-hl])) (by kernel_rfl) rfl rfl (Xz _) htu hs hm rfl
def Bnd (c:Nat) (ns:List TN):Prop:=∀ (j:Nat) (d:TN),ns[j]?=some d->d.1.length+d.2.length<=c
theorem Bnd.set {c:Nat} {ns:List TN} (h:Bnd c ns) {j:Nat} {d:TN} (hd:d.1.length+d.2.length<=c):Bnd c (ns.set j d):=by
 intro i d' hi
 rw [Xn] at hi
 by_cases e:j=i
 ·rw [if_pos e] at hi
  split at hi
  ·injection hi with hi;subst hi;exact hd
  ·cases hi
 ·rw [if_neg e] at hi;exact h i d' hi
theorem Bnd.mono {c c':Nat} {ns:List TN} (h:Bnd c ns) (hc:c<=c'):Bnd c' ns:=fun j d hd=>Xat (h j d hd) hc
theorem ZmZ {α:Type} (n:Tx) (v:α):∀ M:List (Tx×α),(ZaI n v M).length<=M.length+1
 | []=>Xz _
 | p::M=>by
  simp only [ZaI]
  split
  ·simp
  ·have:=ZmZ n v M;simp only [XE];omega
theorem ZoT (k:Tx) (v:Int) (c:Nat):∀ (r:List Tx) (ns:List TN) (j:Nat),Closed ns->Bnd (c+1) ns->(∀ (i:Nat) (d:TN),j<=i->ns[i]?=some d->d.1.length+d.2.length<=c)->Bnd (c+1) (Z0 k v r ns j).1
 | [],ns,j,hC,h,h2=>by
  simp only [Z0]
  split
  ·rename_i d hd
   refine h.set ?_
   have:=h2 j d (Xz _) hd
   have:=ZmZ k v d.1
   simp only;omega
  ·exact h
 | l::r,ns,j,hC,h,h2=>by
  simp only [Z0]
  split
  ·rename_i d hd
   have hj:=(Xd.1 hd).1
   split
   ·rename_i i hi
    have:=hC.next hd hi
    exact ZoT k v c r ns i hC h fun i' d' hi' hd'=>h2 i' d' (by omega) hd'
   ·have hN:Bnd (c+1) (newN ns j d l):=by
     intro i' d' hd'
     by_cases e1:i'=j
     ·subst e1
      rw [ZfH hj] at hd'
      injection hd' with hd';subst hd'
      have:=h2 i' d (Xz _) hd
      have:=ZmZ l ns.length d.2
      simp only;omega
     ·by_cases e2:i' < ns.length
      ·rw [Zil d l e2 e1] at hd';exact h i' d' hd'
      ·have hlt:=(Xd.1 hd').1
       rw [Zd7] at hlt
       have : i'=ns.length:=by omega
       subst this
       rw [Zfw] at hd';injection hd' with hd';subst hd';simp
    refine ZoT k v c r (newN ns j d l) ns.length (hC.newN hd l) hN fun i' d' hi' hd'=>?_
    have hlt:=(Xd.1 hd').1
    rw [Zd7] at hlt
    have : i'=ns.length:=by omega
    subst this
    rw [Zfw] at hd';injection hd' with hd';subst hd';simp
  ·exact h
theorem Bnd.put {c:Nat} {ns:List TN} (h:Bnd c ns) (hC:Closed ns) (k:Tx) (v:Int) (r:List Tx) (j:Nat):Bnd (c+1) (Z0 k v r ns j).1 :=
 ZoT k v c r ns j hC (h.mono (Nat.le_succ _)) fun i d _ hd=>h i d hd
theorem Bnd.drop {c:Nat} (k:Tx):∀ (r:List Tx) (ns:List TN) (j:Nat),Bnd c ns->Bnd c (ZL k r ns j).1
 | [],ns,j,h=>by
  simp only [ZL]
  split
  ·rename_i d hd
   refine h.set ?_
   have:=h j d hd
   have:=Zhe k d.1
   simp only;omega
  ·exact h
 | l::r,ns,j,h=>by
  simp only [ZL]
  split
  ·split
   ·rename_i i hi
    have h0:=Bnd.drop k r ns i h
    split
    ·split
     ·rename_i di dj h1 h2
      split
      ·refine h0.set ?_
       have:=h0 j dj h2
       have:=Zhe l dj.2
       simp only;omega
      ·exact h0
     ·exact h
    ·exact h0
   ·exact h
  ·exact h
theorem Bnd.nil:Bnd 0 [([],[])]:=by
 intro j d h
 cases j with
 | zero=>simp at h;subst h;simp
 | succ j=>simp at h
end
section
section
variable {A:ZF} {key:Tx} {n:Int}
abbrev ZfT:List AVal:=[.nref 1 0 0,.str [0],.fn 44 [.ref 2 0,.ref 3 0]]
theorem ZpZ:Zo (Ze [.var (trV 1 n),.arena A,.var [.str key],.var [.lst true []],.free] 0 [1,2,3]) ZfT=Zba 0 [0]:=by
 have hρ:Ze [.var (trV 1 n),.arena A,.var [.str key],.var [.lst true []],.free] 0 [1,2,3] 1 (1001+3*0)=some (0,1001+3*0):=ZdQ (j:=0) rfl rfl (by omega)
 simp only [Zba,Zo,Zf,hρ,if_true]
 rfl
theorem cv0 (hE:E 43 (Zba 0 [0]) (hU (.arena A) key none 0)=some (.tup [],hU (.arena A) key none 0)) :
  Zr E BY [.var (trV 1 n),.arena A,.var [.str key],.var [.lst true []],.free] 4 43 1 false ZfT=some (.tup [],[.var (trV 1 n),.arena A,.var [.str key],.var [.lst true []],.free],{ any:=true,upd:=[(2,[.str key]),(3,[.lst true []])] }):=by
 exact Zb7 (σ:=[.var (trV 1 n),.arena A,.var [.str key],.var [.lst true []],.free]) (ids:=[1,2,3]) (vs:=ZfT) (r:=.tup []) (r':=.tup []) (view:=false) (by kernel_rfl) rfl rfl rfl rfl ZpZ rfl hE rfl (by simp [hU]) (by simp [hU]) (by simp [hU,Z5,okB,Za1,Zb]) rfl rfl (by simp [hU,ZW,ZT,Zm,Zo,Zf]) (by simp [ZaK])
theorem cv1 {q:Bag} (hE:E 43 (Zba 0 [0]) (hU (.arena A) key none 0)=some (.tup [],hU (.arena A) key (some q) 0)) :
  Zr E BY [.var (trV 1 n),.arena A,.var [.str key],.var [.lst true []],.free] 4 43 1 false ZfT=some (.tup [],[.var (trV 1 n),.arena A,.var [.str key],.var [.sl 4 0 0 (Zy q)],.bag 0 3 q],{ any:=true,upd:=[(2,[.str key]),(3,[.sl 4 0 0 (Zy q)])] }):=by
 exact Zb7 (σ:=[.var (trV 1 n),.arena A,.var [.str key],.var [.lst true []],.free]) (ids:=[1,2,3]) (vs:=ZfT) (r:=.tup []) (r':=.tup []) (view:=false) (by kernel_rfl) rfl rfl rfl rfl ZpZ rfl hE rfl (by simp [hU]) (by simp [hU]) (by simp [hU,Z5,okB,Za1,Zb]) rfl rfl (by simp [hU,ZW,ZT,ZaP,Zaf,Zm,Zo,Zf,Zb]) (by simp [ZaK])
end
section
variable (ns:List TN) (hC:Closed ns) (hK:KeyB ns) (hj:0 < ns.length) (hl:ns.length<=1000000) (n:Int) (key:Tx)
include hC hK hj hl
theorem ZF0 (hR:ZcU ns key ns.length [0] 0=[]):E 27 [.ref 0 0,.str key] (trH ns n)=some (.lst true [],trH ns n):=by
 have hq:=ZkX ns hC hK key ns.length 0 hj (by omega) [0] (by simp;omega) (.arena (eNs ns)) (Xm rfl) none (by rw [hR];simp [Za3])
 rw [hR] at hq
 have hc:=cv0 (n:=n) hq
 have ho:=fun σ=>Zdx (r:=.lst true []) rfl ns n σ
 have q3:=Zpy
 clear hq
 unfold trV ZfT at hc
 unfold trH at *
 generalize eNs ns=A at *
 rw [ZQ (by rfl) ZqW]
 simp -implicitDefEqProofs only [EQA,Zad,Xj,Xe,Xc,Xk,reduceCtorEq,↓reduceIte,Zql,ZkF,Zt5,q3,hc,ho,AVal.cells]
theorem Zyv (x:Zl) (d:List Zl) (hR:ZcU ns key ns.length [0] 0=(x::d).map Zc) (hlen:(x::d).length<=1000000) {S:List Zl} (hp:S.Perm (x::d)) (hs:S.Pairwise ltR) :
  E 27 [.ref 0 0,.str key] (trH ns n)=some (.sl 2 0 0 (x::d).length,trH ns n++[.row 0 3 (S.map Zc)]):=by
 have hq:=ZkX ns hC hK key ns.length 0 hj (by omega) [0] (by simp;omega) (.arena (eNs ns)) (Xm rfl) none (by rw [hR];simp only [Za3,Wd];omega)
 rw [hR] at hq
 have hq:E 43 (Zba 0 [0]) (hU (.arena (eNs ns)) key none 0)=some (.tup [],hU (.arena (eNs ns)) key (some (WZ _ ((x::d).map Zc))) 0):=hq
 have hc:=cv1 (n:=n) hq
 rw [show Zy (WZ _ ((x::d).map Zc))=(x::d).length from by show ((x::d).map Zc).length=_;simp] at hc
 have hso:=Zq4 hp hs (by omega)
 have q3:=fun {σ:Za} {t sq:Nat} hσ=>Zqu (O:=E) (bf:=BY) (σ:=σ) (t:=t) (sq:=sq) (own:=0) (args:=[.sl t 0 0 (x::d).length]) hσ (by kernel_rfl) rfl rfl (fun ρ h=>by simp only [Zo,Zf,h]) hso
 have ho:=fun {σ:Za} {r k:Nat} h0 h1 h2 hr=>Zul (σ:=σ) (r:=r) (k:=k) (Y:=S.map Zc) ns n h0 h1 h2 hr
 clear hq hso
 unfold trV ZfT at hc
 unfold trH at *
 generalize eNs ns=A at *
 generalize (x::d).length=k at *
 generalize (WZ _ ((x::d).map Zc):Bag)=Q at *
 generalize S.map Zc=Y at *
 rw [ZQ (by rfl) ZqW]
 simp -implicitDefEqProofs only [EQA,Zad,Xj,Xe,Xo,Xc,Xk,reduceCtorEq,↓reduceIte,Zql,ZkF,Zt5,q3,hc,ho,AVal.cells]
end
def ZdL (ns:List TN) (key:Tx):Nat->Nat->List PR3
 | 0,_=>[]
 | n+1,j=>match ns[j]? with
  | some d=>((Zeg d).filter fun x=>x.2.1 == key)++d.2.flatMap fun q=>(ZdL ns key n q.2).map fun x=>(q.1::x.1,x.2)
  | none=>[]
theorem ZqS (ns:List TN) (key:Tx):∀ (n:Nat) (p:Tx) (j:Nat),ZcU ns key n p j=(ZdL ns key n j).map fun x=>Zc (Zdr p x)
 | 0,_,_=>rfl
 | n+1,p,j=>by
  simp only [ZcU,ZdL]
  cases ns[j]? with
  | none=>rfl
  | some d =>
   simp only [X0]
   congr 1
   ·unfold ZaQ Za7 Zeg
    rw [List.filter_map,Wb]
    rfl
   ·rw [List.map_flatMap]
    congr 1
    funext q
    rw [ZqS ns key n,Wb]
    rfl
theorem ZiV {ns:List TN} (h:WF ns) (key k:Tx) (v:Int):∀ (n j:Nat) (q:List Tx),ns.length<=j+n->((q,k,v) ∈ ZdL ns key n j↔atT ns j q k v/\k=key)
 | 0,j,q,hn=>by
  have hd:ns[j]?=none:=List.getElem?_eq_none (by omega)
  simp only [ZdL,Xah,false_iff,not_and]
  intro h;exact absurd h (Zhd hd q k v)
 | n+1,j,q,hn=>by
  simp only [ZdL]
  cases hd:ns[j]? with
  | none =>
   simp only [Xah,false_iff,not_and]
   intro h;exact absurd h (Zhd hd q k v)
  | some d =>
   simp only [Xt,Wj,Zhg,Wf,Xv,beq_iff_eq]
   cases q with
   | nil =>
    rw [ZiB hd]
    constructor
    ·rintro (⟨⟨_,h1⟩,h2⟩ | ⟨x,_,y,_,h3⟩)
     ·exact ⟨h1,h2⟩
     ·simp at h3
    ·rintro ⟨h1,h2⟩;exact Xm ⟨⟨rfl,h1⟩,h2⟩
   | cons l q =>
    rw [Zfv hd]
    constructor
    ·rintro (⟨⟨h1,_⟩,_⟩ | ⟨x,hx,⟨a,b,c⟩,hy,h3⟩)
     ·cases h1
     ·simp only [Xb,WJ] at h3
      obtain ⟨⟨rfl,rfl⟩,rfl,rfl⟩:=h3
      have hlt:=h.cl j d hd x hx
      obtain ⟨h4,h5⟩:=(ZiV h key b c n x.2 a (by omega)).1 hy
      exact ⟨⟨x.2,(Zhz (h.kx j d hd)).1 hx,h4⟩,h5⟩
    ·rintro ⟨⟨i,h1,h2⟩,h3⟩
     have hx:=(Zhz (h.kx j d hd)).2 h1
     have hlt:=h.cl j d hd _ hx
     exact Xr ⟨(l,i),hx,(q,k,v),(ZiV h key k v n i q (by simp only at hlt;omega)).2 ⟨h2,h3⟩,rfl⟩
theorem ZuT (g:Tx×Nat->List PR3):∀ M:List (Tx×Nat),(ksK M).Nodup->(∀ q ∈ M,(g q).Nodup)->(M.flatMap fun q=>(g q).map fun x=>(q.1::x.1,x.2)).Nodup
 | [],_,_=>WL
 | q::M,h,hg=>by
  obtain ⟨h1,h2⟩:=X1.1 h
  rw [XI]
  refine WK.2 ⟨ZgP ?_ (hg q (by simp)),ZuT g M h2 fun x hx=>hg x (by simp [hx]),?_⟩
  ·rintro ⟨a1,a2⟩ _ ⟨b1,b2⟩ _ he
   simp only [Xb,WJ,true_and] at he
   rw [he.1,he.2]
  ·rintro x hx y hy rfl
   obtain ⟨a,_,rfl⟩:=Xv.1 hx
   obtain ⟨q',hq',hy'⟩:=Wf.1 hy
   obtain ⟨b,_,hb⟩:=Xv.1 hy'
   simp only [Xb,WJ] at hb
   exact h1 (Xv.2 ⟨q',hq',hb.1.1⟩)
theorem ZsP {ns:List TN} (h:WF ns) (key:Tx):∀ (n j:Nat),(ZdL ns key n j).Nodup
 | 0,_=>WL
 | n+1,j=>by
  simp only [ZdL]
  cases hd:ns[j]? with
  | none=>exact WL
  | some d =>
   refine WK.2 ⟨Xbh _ (Zny (h.kv j d hd)),ZuT (fun q=>ZdL ns key n q.2) d.2 (h.kx j d hd) fun q _=>ZsP h key n q.2,?_⟩
   rintro x hx y hy rfl
   have h1:=((Zhg d x).1 (Wj.1 hx).1).1
   obtain ⟨q',_,hy'⟩:=Wf.1 hy
   obtain ⟨b,_,hb⟩:=Xv.1 hy'
   rw [<-hb] at h1;cases h1
theorem TInv.under {ns:List TN} {L:List Zl} (h:TInv ns L) (key:Tx) :
  ∃ R:List Zl,ZcU ns key ns.length [0] 0=R.map Zc/\(L.filter fun x=>x.k == key).Perm R:=by
 refine ⟨(ZdL ns key ns.length 0).map (Zdr [0]),?_,?_⟩
 ·rw [ZqS,Wb];rfl
 ·have hm:∀ x:PR3,x ∈ ZdL ns key ns.length 0->∃ f,ZaW f=true/\x.1=Zh f/\Zal ns (Zh f) x.2.1=some x.2.2/\x.2.1=key:=by
   rintro ⟨q,k,v⟩ hx
   obtain ⟨h1,h2⟩:=(ZiV h.wf key k v _ _ _ (by omega)).1 hx
   have h3:=(ZiW h.wf q k v).2 h1
   obtain ⟨f,hf,rfl⟩:=h.ok _ _ _ h3
   exact ⟨f,hf,rfl,h3,h2⟩
  have hr:∀ (x:PR3) (f:Tx),ZaW f=true->x.1=Zh f->Zdr [0] x=⟨f,x.2.1,x.2.2⟩:=by
   intro x f hf he
   unfold Zdr
   rw [he,Zq9 (Zuv hf)]
  refine (List.perm_ext_iff_of_nodup (Xbh _ h.nodup) (ZgP ?_ (ZsP h.wf key _ _))).2 fun x=>?_
  ·intro a ha b hb he
   obtain ⟨f,hf,h1,_⟩:=hm a ha
   obtain ⟨g,hg,h2,_⟩:=hm b hb
   rw [hr a f hf h1,hr b g hg h2] at he
   simp only [Zl.mk.injEq] at he
   obtain ⟨a1,a2,a3⟩:=a
   obtain ⟨b1,b2,b3⟩:=b
   simp only at *
   rw [h1,h2,he.1,he.2.1,he.2.2]
  ·rw [Wj,h.tab,Xv]
   constructor
   ·rintro ⟨⟨h1,h2⟩,h3⟩
    refine ⟨(Zh x.f,x.k,x.v),(ZiV h.wf key _ _ _ _ _ (by omega)).2 ⟨(ZiW h.wf _ _ _).1 h2,by simpa using h3⟩,?_⟩
    rw [hr _ x.f h1 rfl]
   ·rintro ⟨y,hy,rfl⟩
    obtain ⟨f,hf,h1,h2,h3⟩:=hm y hy
    rw [hr y f hf h1]
    exact ⟨⟨hf,h2⟩,by simpa using h3⟩
theorem KeyB.set {ns:List TN} (h:KeyB ns) {j:Nat} {d:TN} (hd:∀ q ∈ d.2,q.1.length<=64):KeyB (ns.set j d):=by
 intro i d' hi
 rw [Xn] at hi
 by_cases e:j=i
 ·rw [if_pos e] at hi
  split at hi
  ·injection hi with hi;subst hi;exact hd
  ·cases hi
 ·rw [if_neg e] at hi;exact h i d' hi
theorem KeyB.put (k:Tx) (v:Int):∀ (r:List Tx) (ns:List TN) (j:Nat),(∀ l ∈ r,l.length<=64)->KeyB ns->KeyB (Z0 k v r ns j).1/\(Z0 k v r ns j).1.length<=ns.length+r.length
 | [],ns,j,hr,h=>by
  simp only [Z0]
  split
  ·rename_i d hd
   exact ⟨h.set (h j d hd),by simp⟩
  ·exact ⟨h,by simp⟩
 | l::r,ns,j,hr,h=>by
  have hr2:∀ x ∈ r,x.length<=64:=fun x hx=>hr x (by simp [hx])
  simp only [Z0]
  split
  ·rename_i d hd
   split
   ·obtain ⟨h1,h2⟩:=KeyB.put k v r ns _ hr2 h
    exact ⟨h1,by simp only [XE];omega⟩
   ·have hN:KeyB (newN ns j d l):=by
     intro i' d' hd'
     by_cases e:i' < ns.length
     ·have : (ns.set j (d.1,ZaI l ns.length d.2))[i']?=some d':=by
       unfold newN at hd'
       rw [List.getElem?_append_left (by simpa using e)] at hd';exact hd'
      refine (h.set (j:=j) (d:=(d.1,ZaI l ns.length d.2)) ?_) i' d' this
      intro q hq
      rcases Zjf hq with rfl | hq
      ·exact hr l (by simp)
      ·exact h j d hd q hq
     ·have hlt:=(Xd.1 hd').1
      rw [Zd7] at hlt
      have : i'=ns.length:=by omega
      subst this
      rw [Zfw] at hd';injection hd' with hd';subst hd';simp
    obtain ⟨h1,h2⟩:=KeyB.put k v r (newN ns j d l) ns.length hr2 hN
    rw [Zd7] at h2
    exact ⟨h1,by simp only [XE];unfold newN at h2;omega⟩
  ·exact ⟨h,by simp⟩
theorem KeyB.drop (k:Tx):∀ (r:List Tx) (ns:List TN) (j:Nat),KeyB ns->KeyB (ZL k r ns j).1
 | [],ns,j,h=>by
  simp only [ZL]
  split
  ·rename_i d hd
   exact h.set (h j d hd)
  ·exact h
 | l::r,ns,j,h=>by
  simp only [ZL]
  split
  ·split
   ·rename_i i hi
    have h0:=KeyB.drop k r ns i h
    split
    ·split
     ·rename_i di dj h1 h2
      split
      ·exact h0.set fun q hq=>h0 j dj h2 q (Zkf hq)
      ·exact h0
     ·exact h
    ·exact h0
   ·exact h
  ·exact h
theorem KeyB.nil:KeyB [([],[])]:=by
 intro j d h
 cases j with
 | zero=>simp at h;subst h;simp
 | succ j=>simp at h
theorem ZKL {f:Tx} (h:ZaW f=true):(Zh f).length<=65/\∀ l ∈ Zh f,l.length<=64:=by
 simp only [ZaW,Xi] at h
 have h1:=ZfZ h.2
 have h2:=Ze9 f
 have h3:=WV (a:=(47:UInt8)) (l:=f)
 exact ⟨by omega,fun l hl=>Xat (Zk0 f l hl) h1⟩
theorem ZyR {ns:List TN} {L:List Zl} (hI:TInv ns L) (hK:KeyB ns) (hn:ns.length<=1000000) (hL:L.length<=1000) {σ:Za} {t u sq:Nat} (htu:t≠u) (hs:σ[t]?=some (.var (trV u (L.length:Int)))) (hm:σ[u]?=some (.arena (eNs ns))) (key:Tx) :
  Zr E BY σ sq 27 0 true [.ref t 0,.str key]=some (.lst false ((L.filter fun x=>x.k == key).map Zc),(σ.set t (.var (trV u (L.length:Int)))).set u (.arena (eNs ns)),{ any:=true,upd:=[(t,trV u (L.length:Int))] }):=by
 obtain ⟨R,h1,h2⟩:=hI.under key
 have hsr:(L.filter fun x=>x.k == key).Pairwise ltR:=hI.sort.filter _
 generalize hSd:(L.filter fun x=>x.k == key)=S at *
 have hSl:S.length<=L.length:=by rw [<-hSd];exact XaQ _ _
 cases R with
 | nil =>
  have : S=[]:=h2.eq_nil
  subst this
  exact Zd1 rfl (ZF0 ns hI.wf.cl hK hI.wf.pos hn (L.length:Int) key h1) (ZnW ns _) (by kernel_rfl) rfl rfl (Xz _) htu hs hm rfl
 | cons x d =>
  have hl:=h2.length_eq
  exact Zd1 rfl (Zyv ns hI.wf.cl hK hI.wf.pos hn (L.length:Int) key x d h1 (by omega) h2 hsr) (ZpN ns _ _ _ (by rw [Wd,<-hl])) (by kernel_rfl) rfl rfl (Xz _) htu hs hm rfl
end
section
end
section
set_option maxRecDepth 100000
theorem ZA7:E 8 [] []=some (.bool true,[]):=Zce.2 ⟨30,by kernel_rfl⟩
end
section
structure ZcR where
 d:Int
 v:Int
 f:List UInt8
 k:List UInt8
 deriving Inhabited
def ZaX (s:ZcR):AVal:=.agg [.int .i64 s.d,.int .i64 s.v,.str s.f,.str s.k]
theorem Zrs (σ:Za) (sq own:Nat) (view:Bool) (e:Int):Zr E BY σ sq 18 own view [.int .i64 e]=some (.int .i64 e,σ,{}):=by
 have h:E 18 [.int .i64 e] []=some (.int .i64 e,[]):=by
  rw [ZQ (by rfl) ZFB]
  simp -implicitDefEqProofs only [EQA,Xe,Xc,reduceCtorEq,↓reduceIte,ZzZ,Zla,ZIP]
 exact Za6 (h) (by kernel_rfl) (by simp -implicitDefEqProofs only [Zbe,ZD,eq_self,]) (by simp -implicitDefEqProofs only [Zab,ZD,eq_self,]) rfl (fun _=>rfl) _ _ _ _
theorem ZtL (T L:List Zl) (bn:Bool) (o:List Bool) (hT:T.length<=1000000) (hl:L.length<=1000000) (hlo:o.length=L.length) {σ:Za} {t sq:Nat} (hs:σ[t]?=some (.row 0 1 (o.map AVal.bool))) :
  Zr E BY σ sq 23 0 true [.lst false (T.map Zc),.lst bn (L.map Zc),.sl t 0 0 L.length]=some (.bool (Zcf T (L.zip o)),σ,{ rd:=[t] }):=by
 refine ZGX (vs:=[.lst false (T.map Zc),.lst false (L.map Zc),.lst false (o.map AVal.bool)]) (by kernel_rfl) ?_ rfl rfl (ZAq T L o hT hl hlo) rfl rfl _ _
 have hn:0+L.length<=(o.map AVal.bool).length:=by simp [hlo]
 have ht:(o.map AVal.bool).take L.length=o.map AVal.bool:=Wi (by simp [hlo])
 simp only [showAs,showA,ZcD,Zag,hs,hn,and_self,if_true,XaF,ht,XA,Xp]
theorem Zu4 (σ:Za) (sq own:Nat) (view:Bool):Zr E BY σ sq 8 own view []=some (.bool true,σ,{}) :=
 Za6 (ZA7) (by kernel_rfl) (by simp -implicitDefEqProofs only [ZD,eq_self,]) (by simp -implicitDefEqProofs only [ZD,eq_self,]) rfl (fun _=>rfl) _ _ _ _
end
section
section
variable (sc od:List ZcR) (nm:Tx)
variable {R:Option (AVal×Za)}
theorem Zga (x:ZcR):(ZaX x).cells=[.int .i64 x.d,.int .i64 x.v,.str x.f,.str x.k]:=rfl
section
variable {i:Nat} {x:ZcR} (hx:sc[i]?=some x) (hsc:sc.length<=40) (hf:x.f.length<=1048576) (B A:List TN)
include hx hsc hf
end
section
variable {i:Nat} {x:ZcR} (hx:od[i]?=some x) (hod:od.length<=20) (hf:x.f.length<=1048576) (B A:List TN)
include hx hod hf
end
section
variable (B A:List TN) (nb na:Int) {i:Nat}
end
end
end
section
structure St (c:Nat) (ns:List TN) (L:List Zl):Prop where
 inv:TInv ns L
 bnd:Bnd c ns
 len:L.length<=c
theorem St.nil:St 0 [([],[])] []:=⟨TInv.nil,Bnd.nil,Xz _⟩
theorem St.put {c:Nat} {ns:List TN} {L:List Zl} (h:St c ns L) {f:Tx} (hf:ZaW f=true) (k:Tx) (v:Int):St (c+1) (Z0 k v (Zh f) ns 0).1 (ZbW L ⟨f,k,v⟩):=by
 obtain ⟨h1,h2⟩:=h.inv.put hf k v
 refine ⟨h1,h.bnd.put h.inv.wf.cl k v _ 0,?_⟩
 have:=h.len
 split at h2 <;> omega
theorem St.mono {c c':Nat} {ns:List TN} {L:List Zl} (h:St c ns L) (hc:c<=c'):St c' ns L:=⟨h.inv,h.bnd.mono hc,Xat h.len hc⟩
theorem St.drop {c:Nat} {ns:List TN} {L:List Zl} (h:St c ns L) (f k:Tx):St c (ZL k (Zh f) ns 0).1 (Zbh L f k).1:=by
 obtain ⟨h1,_,h2⟩:=h.inv.drop f k
 refine ⟨h1,Bnd.drop k _ ns 0 h.bnd,?_⟩
 have:=h.len
 split at h2 <;> omega
theorem St.small {c:Nat} {ns:List TN} {L:List Zl} (h:St c ns L) (hc:c<=1000):Small ns:=fun j d hd=>Xat (h.bnd j d hd) (by omega)
section
variable (sc od:List ZcR) (nm:Tx) {R:Option (AVal×Za)} (hsc:sc.length<=40) (hod:od.length<=20) (hf1:∀ x ∈ sc,x.f.length<=1048576) (hf2:∀ x ∈ od,x.f.length<=1048576)
section
include hsc hf1
end
include hod hf2
end
end
section
section
variable (ns:List TN) (L:List Zl) (hl:L.length<=1000000) (f ky:List UInt8) (i v dd vv n0:Int) (ok bn:Bool) (sc:List AVal)
include hl
theorem ZkK:∀ (r:List Zl) (k:Nat) (a:Int×Bool),L.drop k=r->k<=L.length ->
  evL FC PR BY 0 [14,13,12,11,10,6,5,4,3,0] Zn4 [(14,.int .i64 (k:Int)),(13,.bool a.2),(12,.int .i64 a.1),(11,.bool ok),(10,.int .i64 v),(6,.ref 0 0),(5,.int .i64 i),(4,.lst bn (L.map Zc)),(3,.ref 1 0),(0,.lst false sc)] [.var [.int .i64 dd,.int .i64 vv,.str f,.str ky],.var (trV 2 n0),.arena (eNs ns)]
  =some (.exit 5,[(131,.bool false),(14,.int .i64 (L.length:Int)),(13,.bool (ZbJ f ky a r).2),(12,.int .i64 (ZbJ f ky a r).1),(11,.bool ok),(10,.int .i64 v),(6,.ref 0 0),(5,.int .i64 i),(4,.lst bn (L.map Zc)),(3,.ref 1 0),(0,.lst false sc)],[.var [.int .i64 dd,.int .i64 vv,.str f,.str ky],.var (trV 2 n0),.arena (eNs ns)])
 | [],k,a,h,hk=>by
  have h1:=ZcS h
  have hm:(L.map Zc).length=L.length:=by simp
  have e:ZbJ f ky a []=a:=rfl
  have ek:(L.length:Int)=k:=by have:=Wq.1 h;omega
  rw [e]
  unfold trV
  generalize eNs ns=X at *
  generalize L.map Zc=S at *
  rw [ZO]
  simp -implicitDefEqProofs only [EQA,Xj,Xe,Xc,reduceCtorEq,↓reduceIte,ZiE,Zg5,h1,hm]
  rw [ek]
 | x::r,k,a,h,hk=>by
  obtain ⟨g1,d1,l1⟩:=Zau h
  have h1:(k:Int) < L.length:=by omega
  have hm:(L.map Zc).length=L.length:=by simp
  have e1:=iad g1 Zc (k:=3) rfl
  have hc:(Zc x).cells=[.str x.f,.str x.k,.int .i64 x.v]:=rfl
  rw [hc] at e1
  have e3:=ZbG h1 (by omega)
  by_cases hx:x.f=f/\x.k=ky
  ·have e:ZbJ f ky a (x::r)=ZbJ f ky (x.v,true) r:=by simp [ZbJ,hx]
   have ih:=ZkK r (k+1) (x.v,true) d1 (by omega)
   rw [e]
   obtain ⟨hx1,hx2⟩:=hx
   generalize ZbJ f ky (x.v,true) r=W at *
   unfold trV at *
   generalize eNs ns=X at *
   generalize L.map Zc=S at *
   subst hx1 hx2
   rw [ZO]
   simp -implicitDefEqProofs only [EQA,ZE,ZaH,Xj,Xe,Xo,Xc,Xk,W4,Z7,Zs,unG,reduceCtorEq,↓reduceIte,gcT,gcA,Zn,Zi,Ze,Zg,Zv,Zb,Zu,Zm,Zp,ZiE,Zg5,h1,hm,e1,e3,ZaR]
   exact ih
  ·have e:ZbJ f ky a (x::r)=ZbJ f ky a r:=by
    unfold ZbJ;rw [Xa0,if_neg hx]
   have ih:=ZkK r (k+1) a d1 (by omega)
   rw [e]
   generalize ZbJ f ky a r=W at *
   unfold trV at *
   generalize eNs ns=X at *
   generalize L.map Zc=S at *
   cases hf:(x.f == f) with
   | false =>
    rw [ZO]
    simp -implicitDefEqProofs only [EQA,ZE,ZaH,Xj,Xe,Xo,Xc,Xk,W4,Z7,Zs,Z4,reduceCtorEq,↓reduceIte,gcT,gcA,Zn,Zi,Ze,Zg,Zv,Zb,Zu,Zm,Zp,ZiE,Zg5,h1,hm,e1,e3,hf,ZaR]
    exact ih
   | true =>
    have hf2:(x.k == ky)=false:=by
     simp only [beq_iff_eq] at hf
     simpa using fun e=>hx ⟨hf,e⟩
    rw [ZO]
    simp -implicitDefEqProofs only [EQA,ZE,ZaH,Xj,Xe,Xo,Xc,Xk,W4,Z7,Zs,unG,reduceCtorEq,↓reduceIte,gcT,gcA,Zn,Zi,Ze,Zg,Zv,Zb,Zu,Zm,Zp,ZiE,Zg5,h1,hm,e1,e3,hf,hf2,ZaR]
    exact ih
theorem ZuS:∀ (r:List Zl) (k:Nat) (P:List Bool),L.drop k=r->k<=L.length->P.length=k ->
  evL FC PR BY 0 [16,15,6,5,4,3,0] ZnV [(16,.int .i64 (k:Int)),(15,.sl 0 0 0 L.length),(6,.ref 1 0),(5,.int .i64 i),(4,.lst bn (L.map Zc)),(3,.ref 2 0),(0,.lst false sc)] [.row 0 1 ((P++Xq r.length false).map AVal.bool),.var [.int .i64 dd,.int .i64 vv,.str f,.str ky],.var (trV 3 n0),.arena (eNs ns)]
  =some (.exit 7,[(173,.bool false),(16,.int .i64 (L.length:Int)),(15,.sl 0 0 0 L.length),(6,.ref 1 0),(5,.int .i64 i),(4,.lst bn (L.map Zc)),(3,.ref 2 0),(0,.lst false sc)],[.row 0 1 ((P++r.map fun x=>ZaY x.f f).map AVal.bool),.var [.int .i64 dd,.int .i64 vv,.str f,.str ky],.var (trV 3 n0),.arena (eNs ns)])
 | [],k,P,h,hk,hP=>by
  have h1:=ZcS h
  have hm:(L.map Zc).length=L.length:=by simp
  have ek:(L.length:Int)=k:=by have:=Wq.1 h;omega
  simp only [XP,List.replicate_zero,XW,XA]
  unfold trV
  generalize eNs ns=X at *
  generalize P.map AVal.bool=O at *
  generalize L.map Zc=S at *
  rw [ZO]
  simp -implicitDefEqProofs only [EQA,Xj,Xe,Xc,reduceCtorEq,↓reduceIte,Zpm,ZiS,h1,hm]
  rw [ek]
 | x::r,k,P,h,hk,hP=>by
  obtain ⟨g1,d1,l1⟩:=Zau h
  have h1:(k:Int) < L.length:=by omega
  have hm:(L.map Zc).length=L.length:=by simp
  have e1:=iad g1 Zc (k:=3) rfl
  have hc:(Zc x).cells=[.str x.f,.str x.k,.int .i64 x.v]:=rfl
  rw [hc] at e1
  have e3:=ZbG h1 (by omega)
  have hq:=fun σ sq own view=>ZGQ σ sq own view x.f f
  have ih:=ZuS r (k+1) (P++[ZaY x.f f]) d1 (by omega) (by simp [hP])
  have eA:P++[ZaY x.f f]++Xq r.length false=P++(ZaY x.f f)::Xq r.length false:=by simp
  have eB:P++[ZaY x.f f]++r.map (fun x=>ZaY x.f f)=P++(x::r).map (fun x=>ZaY x.f f):=by simp
  rw [eA,eB] at ih
  have eC:P++Xq (x::r).length false=P++false::Xq r.length false:=by rw [XE,Xak]
  rw [eC]
  have hget:((P++false::Xq r.length false).map AVal.bool)[k]?=some (.bool false):=by
   rw [XM,Wh (by omega),hP,WW];rfl
  have hset:((P++false::Xq r.length false).map AVal.bool).set k (.bool (ZaY x.f f))=(P++(ZaY x.f f)::Xq r.length false).map AVal.bool:=by
   rw [<-Xav,Xbb _ _ (by omega),hP,WW];rfl
  have hk0:(0:Int)<=(k:Int):=by omega
  have hia:∀ (σ:Za),σ[0]?=some (.row 0 1 ((P++false::Xq r.length false).map AVal.bool))->Zbd σ 1 (.sl 0 0 0 L.length) (.int .i64 (k:Int))=some (.eref 0 0 k 0,σ,{ rd:=[0] }):=by
   intro σ hs
   simp only [Zbd,hk0,if_true,XY,l1,hs,and_self,XC]
  generalize (P++(ZaY x.f f)::Xq r.length false).map AVal.bool=O2 at *
  generalize (P++false::Xq r.length false).map AVal.bool=O at *
  generalize (P++(x::r).map fun x=>ZaY x.f f).map AVal.bool=O3 at *
  generalize hmb:(ZaY x.f f)=mb at *
  unfold trV at *
  generalize eNs ns=X at *
  generalize L.map Zc=S at *
  rw [ZO]
  simp -implicitDefEqProofs only [EQA,ZE,ZaH,Xj,Xe,Xo,Xc,Xk,W4,reduceCtorEq,↓reduceIte,gcT,gcA,Zn,Zi,Ze,Zg,Zv,Zb,Zu,Zm,Zp,Zpm,ZiS,h1,hm,e1,e3,hq,hget,hset,hia,Ze5,ZbZ,Za0,Zt,ZJ,ZaR,AVal.cells,Zat,Zay,ZaM,Za9,Zbr,Zbp,ZbA,ZbE,ZaS,WG]
  exact ih
theorem ZrP:∀ (r:List Zl) (k:Nat) (P:List Bool),L.drop k=r->k<=L.length->P.length=k ->
  evL FC PR BY 0 [18,17,6,5,4,3,0] ZnI [(18,.int .i64 (k:Int)),(17,.sl 0 0 0 L.length),(6,.ref 1 0),(5,.int .i64 i),(4,.lst bn (L.map Zc)),(3,.ref 2 0),(0,.lst false sc)] [.row 0 1 ((P++Xq r.length false).map AVal.bool),.var [.int .i64 dd,.int .i64 vv,.str f,.str ky],.var (trV 3 n0),.arena (eNs ns)]
  =some (.exit 3,[(49,.bool false),(18,.int .i64 (L.length:Int)),(17,.sl 0 0 0 L.length),(6,.ref 1 0),(5,.int .i64 i),(4,.lst bn (L.map Zc)),(3,.ref 2 0),(0,.lst false sc)],[.row 0 1 ((P++r.map fun x=>x.k == ky).map AVal.bool),.var [.int .i64 dd,.int .i64 vv,.str f,.str ky],.var (trV 3 n0),.arena (eNs ns)])
 | [],k,P,h,hk,hP=>by
  have h1:=ZcS h
  have hm:(L.map Zc).length=L.length:=by simp
  have ek:(L.length:Int)=k:=by have:=Wq.1 h;omega
  simp only [XP,List.replicate_zero,XW,XA]
  unfold trV
  generalize eNs ns=X at *
  generalize P.map AVal.bool=O at *
  generalize L.map Zc=S at *
  rw [ZO]
  simp -implicitDefEqProofs only [EQA,Xj,Xe,Xc,reduceCtorEq,↓reduceIte,Zts,ZjA,h1,hm]
  rw [ek]
 | x::r,k,P,h,hk,hP=>by
  obtain ⟨g1,d1,l1⟩:=Zau h
  have h1:(k:Int) < L.length:=by omega
  have hm:(L.map Zc).length=L.length:=by simp
  have e1:=iad g1 Zc (k:=3) rfl
  have hc:(Zc x).cells=[.str x.f,.str x.k,.int .i64 x.v]:=rfl
  rw [hc] at e1
  have e3:=ZbG h1 (by omega)
  have ih:=ZrP r (k+1) (P++[x.k == ky]) d1 (by omega) (by simp [hP])
  have eA:P++[x.k == ky]++Xq r.length false=P++(x.k == ky)::Xq r.length false:=by simp
  have eB:P++[x.k == ky]++r.map (fun x=>x.k == ky)=P++(x::r).map (fun x=>x.k == ky):=by simp
  rw [eA,eB] at ih
  have eC:P++Xq (x::r).length false=P++false::Xq r.length false:=by rw [XE,Xak]
  rw [eC]
  have hget:((P++false::Xq r.length false).map AVal.bool)[k]?=some (.bool false):=by
   rw [XM,Wh (by omega),hP,WW];rfl
  have hset:((P++false::Xq r.length false).map AVal.bool).set k (.bool (x.k == ky))=(P++(x.k == ky)::Xq r.length false).map AVal.bool:=by
   rw [<-Xav,Xbb _ _ (by omega),hP,WW];rfl
  have hk0:(0:Int)<=(k:Int):=by omega
  have hia:∀ (σ:Za),σ[0]?=some (.row 0 1 ((P++false::Xq r.length false).map AVal.bool))->Zbd σ 1 (.sl 0 0 0 L.length) (.int .i64 (k:Int))=some (.eref 0 0 k 0,σ,{ rd:=[0] }):=by
   intro σ hs
   simp only [Zbd,hk0,if_true,XY,l1,hs,and_self,XC]
  generalize (P++(x.k == ky)::Xq r.length false).map AVal.bool=O2 at *
  generalize (P++false::Xq r.length false).map AVal.bool=O at *
  generalize (P++(x::r).map fun x=>x.k == ky).map AVal.bool=O3 at *
  generalize hmb:(x.k == ky)=mb at *
  unfold trV at *
  generalize eNs ns=X at *
  generalize L.map Zc=S at *
  rw [ZO]
  simp -implicitDefEqProofs only [EQA,ZE,ZaH,Xj,Xe,Xo,Xc,Xk,W4,Z7,reduceCtorEq,↓reduceIte,gcT,gcA,Zn,Zi,Ze,Zg,Zv,Zb,Zu,Zm,Zp,Zts,ZjA,h1,hm,e1,e3,hmb,hget,hset,hia,Ze5,ZbZ,Za0,Zt,ZJ,ZaR,AVal.cells,Zat,Zay,ZaM,Za9,Zbr,Zbp,ZbA,ZbE,ZaS,WG]
  exact ih
end
theorem ZMQ (n:Tx) (L:List Zl):Zit n L=L.filter fun x=>ZaY x.f n:=by
 unfold Zit
 cases hn:ZbD n with
 | true=>rw [if_pos rfl]
 | false =>
  rw [if_neg (by simp)]
  symm
  rw [List.filter_eq_nil_iff]
  intro x _
  simp [ZaY,hn]
theorem ZJ8 {ns:List TN} {L:List Zl} (hI:TInv ns L) (hL:L.length<=1000) {σ:Za} {t u sq:Nat} (htu:t≠u) (hs:σ[t]?=some (.var (trV u (L.length:Int)))) (hm:σ[u]?=some (.arena (eNs ns))) (name:Tx) :
  Zr E BY σ sq 11 0 true [.ref t 0,.str name]=some (.lst false ((L.filter fun x=>ZaY x.f name).map Zc),(σ.set t (.var (trV u (L.length:Int)))).set u (.arena (eNs ns)),{ any:=true,upd:=[(t,trV u (L.length:Int))] }):=by
 rw [<-ZMQ]
 exact ZLG hI hL htu hs hm name
section
variable (sc:List ZcR) (i:Nat) {ns:List TN} (L:List Zl) (bn:Bool) (x:ZcR) (hx:sc[i]?=some x) (hi:i < 120) (hI:TInv ns L) (hl:L.length<=1000)
include hx hi hI hl
noncomputable abbrev kPl (sc:List ZcR) (i:Nat) (bn:Bool) (L:List Zl) (ns:List TN):=ZeL 0 [(5,.int .i64 (i:Int)),(4,.lst bn (L.map Zc)),(3,.ref 0 0),(0,.lst false (sc.map ZaX))] [.var (trV 1 (L.length:Int)),.arena (eNs ns)]
theorem ZJE (hf:x.f.length<=1048576) (hn:ZaW x.f=true) (h0:(x.d.tmod 5 == 0)=true) {R:Option (AVal×Za)} (hR:kPl sc (i+1) false (ZbW L ⟨x.f,x.k,x.v⟩) (Z0 x.k x.v (Zh x.f) ns 0).1=R):kPl sc i bn L ns=R:=by
 have hil:i < sc.length:=(Xd.1 hx).1
 have h1:(i:Int) < sc.length:=by omega
 have h2:(i:Int) < 120:=by omega
 have hm:(sc.map ZaX).length=sc.length:=by simp
 have e1:=iad hx ZaX (k:=4) rfl
 rw [Zga] at e1
 have e3:IntKind.i64.wrap ((i:Int)+1)=((i+1:Nat):Int):=ZbG (n:=120) (by omega) (by decide)
 have d5:¬(5:Int)=0:=by decide
 have q1:=fun σ sq own view=>ZeK σ sq own view x.f
 rw [hn] at q1
 have q2:=fun σ sq own=>ZML L bn ⟨x.f,x.k,x.v⟩ (by omega) σ sq own
 dsimp only at q2
 have q3:=fun {σ:Za} {sq:Nat} hs hm=>ZvK hI hl (σ:=σ) (t:=0) (u:=1) (sq:=sq) (by decide) hs hm x.f x.k x.v hf hn
 have q4:=Zrs
 have q5:=fun {σ:Za} {sq:Nat} hs hm=>Zgb (ns:=(Z0 x.k x.v (Zh x.f) ns 0).1) (L:=ZbW L ⟨x.f,x.k,x.v⟩) (σ:=σ) (t:=0) (u:=1) (sq:=sq) (by decide) hs hm
 have hm2:((ZbW L ⟨x.f,x.k,x.v⟩).map Zc).length=(ZbW L ⟨x.f,x.k,x.v⟩).length:=by simp
 subst hR
 unfold kPl trV at *
 generalize (ZbW L ⟨x.f,x.k,x.v⟩).map Zc=P2 at *
 generalize (ZbW L ⟨x.f,x.k,x.v⟩).length=n2 at *
 generalize eNs (Z0 x.k x.v (Zh x.f) ns 0).1=X2 at *
 generalize eNs ns=X at *
 generalize L.map Zc=P at *
 generalize L.length=n0 at *
 generalize sc.map ZaX=SC at *
 unfold ZeL
 rw [ZO]
 simp -implicitDefEqProofs only [EQA,Zey,ZE,ZaH,Xj,Xe,Xo,Xc,Xk,W4,unA,Zs,unG,reduceCtorEq,↓reduceIte,gcT,gcA,Zn,Zi,Ze,Zg,Zv,Zb,Zu,Zm,Zp,ZgM,Ze0,Zgo,ZeV,Zfe,Zd8,d5,h1,h2,hm,e1,e3,h0,hm2,q1,q2,q3,q4,q5,bne_self_eq_false,ZcB,ZJ,ZaR,AVal.cells]
theorem ZAW (hf:x.f.length<=1048576) (hn:ZaW x.f=false) (h0:(x.d.tmod 5 == 0)=true) {R:Option (AVal×Za)} (hR:kPl sc (i+1) bn L ns=R):kPl sc i bn L ns=R:=by
 have hil:i < sc.length:=(Xd.1 hx).1
 have h1:(i:Int) < sc.length:=by omega
 have h2:(i:Int) < 120:=by omega
 have hm:(sc.map ZaX).length=sc.length:=by simp
 have e1:=iad hx ZaX (k:=4) rfl
 rw [Zga] at e1
 have e3:IntKind.i64.wrap ((i:Int)+1)=((i+1:Nat):Int):=ZbG (n:=120) (by omega) (by decide)
 have d5:¬(5:Int)=0:=by decide
 have q1:=fun σ sq own view=>ZeK σ sq own view x.f
 rw [hn] at q1
 have q3:=fun {σ:Za} {sq:Nat} hs hm=>ZBI hI hl (σ:=σ) (t:=0) (u:=1) (sq:=sq) (by decide) hs hm x.f x.k x.v hf hn
 have q4:=Zrs
 have q5:=fun {σ:Za} {sq:Nat} hs hm=>Zgb (ns:=ns) (L:=L) (σ:=σ) (t:=0) (u:=1) (sq:=sq) (by decide) hs hm
 have hm2:(L.map Zc).length=L.length:=by simp
 subst hR
 unfold kPl trV at *
 generalize eNs ns=X at *
 generalize L.map Zc=P at *
 generalize L.length=n0 at *
 generalize sc.map ZaX=SC at *
 unfold ZeL
 rw [ZO]
 simp -implicitDefEqProofs only [EQA,ZE,ZaH,Xj,Xe,Xo,Xc,Xk,W4,unA,Zs,unG,reduceCtorEq,↓reduceIte,gcT,gcA,Zn,Zi,Ze,Zg,Zv,Zb,Zu,Zm,Zp,ZgM,Ze0,Zgo,ZeV,Zfe,Zd8,d5,h1,h2,hm,e1,e3,h0,hm2,q1,q3,q4,q5,bne_self_eq_false,ZJ,ZaR,AVal.cells]
theorem ZE5 (hf:x.f.length<=1048576) (hS:Small ns) (h0:(x.d.tmod 5 == 0)=false) (h01:(x.d.tmod 5 == 1)=true) {R:Option (AVal×Za)} (hR:kPl sc (i+1) false (Zbh L x.f x.k).1 (ZL x.k (Zh x.f) ns 0).1=R):kPl sc i bn L ns=R:=by
 have hil:i < sc.length:=(Xd.1 hx).1
 have h1:(i:Int) < sc.length:=by omega
 have h2:(i:Int) < 120:=by omega
 have hm:(sc.map ZaX).length=sc.length:=by simp
 have e1:=iad hx ZaX (k:=4) rfl
 rw [Zga] at e1
 have e3:IntKind.i64.wrap ((i:Int)+1)=((i+1:Nat):Int):=ZbG (n:=120) (by omega) (by decide)
 have d5:¬(5:Int)=0:=by decide
 have q2:=fun σ sq own=>ZE6 L bn x.f x.k (by omega) σ sq own
 have q3:=fun {σ:Za} {sq:Nat} hs hm=>ZJC hI hl (σ:=σ) (t:=0) (u:=1) (sq:=sq) (by decide) hs hm hS x.f x.k hf
 have q5:=fun {σ:Za} {sq:Nat} hs hm=>Zgb (ns:=(ZL x.k (Zh x.f) ns 0).1) (L:=(Zbh L x.f x.k).1) (σ:=σ) (t:=0) (u:=1) (sq:=sq) (by decide) hs hm
 have hm2:((Zbh L x.f x.k).1.map Zc).length=(Zbh L x.f x.k).1.length:=by simp
 subst hR
 unfold kPl trV at *
 generalize (Zbh L x.f x.k).2=bb at *
 generalize (Zbh L x.f x.k).1.map Zc=P2 at *
 generalize (Zbh L x.f x.k).1.length=n2 at *
 generalize eNs (ZL x.k (Zh x.f) ns 0).1=X2 at *
 generalize eNs ns=X at *
 generalize L.map Zc=P at *
 generalize L.length=n0 at *
 generalize sc.map ZaX=SC at *
 unfold ZeL
 rw [ZO]
 simp -implicitDefEqProofs only [EQA,ZE,ZaH,Xj,Xe,Xo,Xc,Xk,W4,Zs,unG,reduceCtorEq,↓reduceIte,gcT,gcA,Zn,Zi,Ze,Zg,Zv,Zb,Zu,Zm,Zp,ZgM,Ze0,Zgo,ZeV,Zfe,Zd8,d5,h1,h2,hm,e1,e3,h0,h01,hm2,q2,q3,q5,bne_self_eq_false,ZJ,ZaR,AVal.cells]
theorem ZBH (hf:x.f.length<=1048576) (h0:(x.d.tmod 5 == 0)=false) (h01:(x.d.tmod 5 == 1)=false) (h02:(x.d.tmod 5 == 2)=true) {R:Option (AVal×Za)} (hR:kPl sc (i+1) bn L ns=R):kPl sc i bn L ns=R:=by
 have hil:i < sc.length:=(Xd.1 hx).1
 have h1:(i:Int) < sc.length:=by omega
 have h2:(i:Int) < 120:=by omega
 have hm:(sc.map ZaX).length=sc.length:=by simp
 have e1:=iad hx ZaX (k:=4) rfl
 rw [Zga] at e1
 have e3:IntKind.i64.wrap ((i:Int)+1)=((i+1:Nat):Int):=ZbG (n:=120) (by omega) (by decide)
 have d5:¬(5:Int)=0:=by decide
 have q3:=fun {σ:Za} {sq:Nat} hs hm=>ZHT hI (σ:=σ) (t:=0) (u:=1) (sq:=sq) (by decide) hs hm x.f x.k hf
 have q5:=fun {σ:Za} {sq:Nat} hs hm=>Zgb (ns:=ns) (L:=L) (σ:=σ) (t:=1) (u:=2) (sq:=sq) (by decide) hs hm
 have hE:=ZkK ns L (by omega) x.f x.k i (ZbJ x.f x.k (0,false) L).1 x.d x.v (L.length:Int) (ZbJ x.f x.k (0,false) L).2 bn (sc.map ZaX) L 0 (0,false) rfl (XaM _)
 have z0:((0:Nat):Int)=0:=rfl
 rw [z0] at hE
 dsimp only at hE
 have hm2:(L.map Zc).length=L.length:=by simp
 subst hR
 unfold kPl trV at *
 generalize (ZbJ x.f x.k (0,false) L).2=bb at *
 generalize (ZbJ x.f x.k (0,false) L).1=gg at *
 generalize eNs ns=X at *
 generalize L.map Zc=P at *
 generalize L.length=n0 at *
 generalize sc.map ZaX=SC at *
 unfold ZeL
 rw [ZO]
 simp -implicitDefEqProofs only [EQA,ZE,ZaH,Xj,Xe,Xo,Xc,Xk,W4,Zs,unG,reduceCtorEq,↓reduceIte,gcT,gcA,Zn,Zi,Ze,Zg,Zv,Zb,Zu,Zm,Zp,ZgM,Ze0,Zgo,ZeV,Zvi,Zn0,Zfe,Zd8,d5,h1,h2,hm,e1,e3,h0,h01,h02,hm2,q3,q5,hE,bne_self_eq_false,ZJ,ZaR,AVal.cells]
theorem ZG4 (h0:(x.d.tmod 5 == 0)=false) (h01:(x.d.tmod 5 == 1)=false) (h02:(x.d.tmod 5 == 2)=false) (h03:(x.d.tmod 5 == 3)=true) {R:Option (AVal×Za)} (hR:kPl sc (i+1) bn L ns=R):kPl sc i bn L ns=R:=by
 have hil:i < sc.length:=(Xd.1 hx).1
 have h1:(i:Int) < sc.length:=by omega
 have h2:(i:Int) < 120:=by omega
 have hm:(sc.map ZaX).length=sc.length:=by simp
 have e1:=iad hx ZaX (k:=4) rfl
 rw [Zga] at e1
 have e3:IntKind.i64.wrap ((i:Int)+1)=((i+1:Nat):Int):=ZbG (n:=120) (by omega) (by decide)
 have d5:¬(5:Int)=0:=by decide
 have q3:=fun {σ:Za} {sq:Nat} hs hm=>ZJ8 hI hl (σ:=σ) (t:=2) (u:=3) (sq:=sq) (by decide) hs hm x.f
 have q5:=fun {σ:Za} {sq:Nat} hs hm=>Zgb (ns:=ns) (L:=L) (σ:=σ) (t:=2) (u:=3) (sq:=sq) (by decide) hs hm
 have hE:=ZuS ns L (by omega) x.f x.k i x.d x.v (L.length:Int) bn (sc.map ZaX) L 0 [] rfl (XaM _) rfl
 have hfl:(L.filter fun y=>ZaY y.f x.f).length<=1000000:=by have:=XaQ (fun y=>ZaY y.f x.f) L;omega
 have q4:=fun {σ:Za} {sq:Nat} hs=>ZtL (L.filter fun y=>ZaY y.f x.f) L bn (L.map fun y=>ZaY y.f x.f) hfl (by omega) (by simp) (σ:=σ) (t:=0) (sq:=sq) hs
 rw [Zmn (fun y=>ZaY y.f x.f) L] at q4
 have z0:((0:Nat):Int)=0:=rfl
 rw [z0,Xp,Xp,List.map_replicate] at hE
 have hm2:(L.map Zc).length=L.length:=by simp
 have b1:(0:Int)<=(L.length:Int):=by omega
 have b2:(L.length:Int)<=9223372036854775807:=by omega
 have b3:((1:Nat):Int)*(L.length:Int)<=140737488355328:=by omega
 subst hR
 unfold kPl trV at *
 generalize (L.filter fun y=>ZaY y.f x.f).map Zc=F at *
 generalize (L.map fun y=>ZaY y.f x.f).map AVal.bool=O at *
 generalize eNs ns=X at *
 generalize L.map Zc=P at *
 generalize L.length=n0 at *
 generalize sc.map ZaX=SC at *
 unfold ZeL
 rw [ZO]
 simp -implicitDefEqProofs only [EQA,ZE,ZaH,Xj,Xe,Xo,Xc,Xk,W4,unA,Zs,unG,reduceCtorEq,↓reduceIte,gcT,gcA,Zn,Zi,Ze,Zg,Zv,Zb,Zu,Zm,Zp,ZgM,Ze0,Zgo,ZeV,ZMV,ZkM,Zfe,Zd8,d5,h1,h2,hm,e1,e3,h0,h01,h02,h03,hm2,q3,q4,q5,hE,b1,b2,b3,Ws,XY,bne_self_eq_false,ZJ,ZaR,AVal.cells]
theorem ZDW (hK:KeyB ns) (hn:ns.length<=1000000) (h0:(x.d.tmod 5 == 0)=false) (h01:(x.d.tmod 5 == 1)=false) (h02:(x.d.tmod 5 == 2)=false) (h03:(x.d.tmod 5 == 3)=false) {R:Option (AVal×Za)} (hR:kPl sc (i+1) bn L ns=R):kPl sc i bn L ns=R:=by
 have hil:i < sc.length:=(Xd.1 hx).1
 have h1:(i:Int) < sc.length:=by omega
 have h2:(i:Int) < 120:=by omega
 have hm:(sc.map ZaX).length=sc.length:=by simp
 have e1:=iad hx ZaX (k:=4) rfl
 rw [Zga] at e1
 have e3:IntKind.i64.wrap ((i:Int)+1)=((i+1:Nat):Int):=ZbG (n:=120) (by omega) (by decide)
 have d5:¬(5:Int)=0:=by decide
 have q3:=fun {σ:Za} {sq:Nat} hs hm=>ZyR hI hK hn hl (σ:=σ) (t:=2) (u:=3) (sq:=sq) (by decide) hs hm x.k
 have q5:=fun {σ:Za} {sq:Nat} hs hm=>Zgb (ns:=ns) (L:=L) (σ:=σ) (t:=2) (u:=3) (sq:=sq) (by decide) hs hm
 have hE:=ZrP ns L (by omega) x.f x.k i x.d x.v (L.length:Int) bn (sc.map ZaX) L 0 [] rfl (XaM _) rfl
 have hfl:(L.filter fun y=>y.k == x.k).length<=1000000:=by have:=XaQ (fun y=>y.k == x.k) L;omega
 have q4:=fun {σ:Za} {sq:Nat} hs=>ZtL (L.filter fun y=>y.k == x.k) L bn (L.map fun y=>y.k == x.k) hfl (by omega) (by simp) (σ:=σ) (t:=0) (sq:=sq) hs
 rw [Zmn (fun y=>y.k == x.k) L] at q4
 have z0:((0:Nat):Int)=0:=rfl
 rw [z0,Xp,Xp,List.map_replicate] at hE
 have hm2:(L.map Zc).length=L.length:=by simp
 have b1:(0:Int)<=(L.length:Int):=by omega
 have b2:(L.length:Int)<=9223372036854775807:=by omega
 have b3:((1:Nat):Int)*(L.length:Int)<=140737488355328:=by omega
 subst hR
 unfold kPl trV at *
 generalize (L.filter fun y=>y.k == x.k).map Zc=F at *
 generalize (L.map fun y=>y.k == x.k).map AVal.bool=O at *
 generalize eNs ns=X at *
 generalize L.map Zc=P at *
 generalize L.length=n0 at *
 generalize sc.map ZaX=SC at *
 unfold ZeL
 rw [ZO]
 simp -implicitDefEqProofs only [EQA,ZE,ZaH,Xj,Xe,Xo,Xc,Xk,W4,unA,Zs,unG,reduceCtorEq,↓reduceIte,gcT,gcA,Zn,Zi,Ze,Zg,Zv,Zb,Zu,Zm,Zp,ZgM,Ze0,Zgo,ZeV,ZGl,ZkS,Zfe,Zd8,d5,h1,h2,hm,e1,e3,h0,h01,h02,h03,hm2,q3,q4,q5,hE,b1,b2,b3,Ws,XY,bne_self_eq_false,ZJ,ZaR,AVal.cells]
end
end
end Go.Proofs.YtbjflkbenobjjaaDoor
