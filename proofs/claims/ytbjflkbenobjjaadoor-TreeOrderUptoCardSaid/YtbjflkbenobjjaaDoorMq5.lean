/- The card of TreeOrder: for every input the law returns true, and each argument reads afterwards as it read before, where what it reads is of bulk at most 1048576. No other condition; the tables of unicode/utf8 are tied to the program. -/
import Derived.Test.YtbjflkbenobjjaaDoorMq4
import Derived.Test.YtbjflkbenobjjaaDoorMq3
import Derived.Test.YtbjflkbenobjjaaDoorProg
import Derived.Shelf.Unicode.ValidAny
import Derived.Lib.LaidU8T
import Derived.Test.YtbjflkbenobjjaaDoorRows
import Derived.Deep.Slices
import Derived.Shelf.SlSortCmp.NoneTotal
import Derived.Test.YtbjflkbenobjjaaDoorChecked
import Derived.Deep.RegionHeld3
import Derived.Laws.Cover1
import Derived.Shelf.Small.Strs
import Derived.Shelf.Strings.Search1
import Derived.Shelf.Strings.Count
import Derived.Test.YtbjflkbenobjjaaDoorCards
import Derived.Test.YtbjflkbenobjjaaDoorTie
import Derived.WalkKit
import Derived.ProofKit
import Derived.OpenShut
import Derived.ShutString
import Derived.ChangeOld
import Derived.Below
import Derived.SevenTiedAt
import Derived.LaidByTextLater
import Derived.Lib.LaidIn
import Derived.Deep.DeepHandedRow
import Derived.MakeChecks
set_option linter.defProp false
set_option linter.unusedSimpArgs false
set_option linter.unusedVariables false
open Option.some renaming injEq→Xa,inj→XbC
open Prod.mk renaming injEq→Xb
open List renaming getElem?_eq_some_iff→Xc,getD_eq_getElem?_getD→Xe,range_succ→Xj,all_cons→Xr,getD_cons_zero→Xs,getElem?_set→Xt,getElem?_eq_getElem→Xu,length_cons→Xv,getD_cons_succ→Xx,all_nil→Xy,mem_append→Xz,mem_of_getElem?→XA,contains_nil→XB,length_nil→XC,nil_append→XE,getElem?_set_ne→XF,mem_cons→XH,map_cons→XI,mem_map→XJ,replicate→XK,length_append→XL,lookup_cons→XN,cons_append→XP,flatMap_cons→XT,append_nil→XU,getElem?_set_self→XV,lookup_nil→XW,any_cons→XX,getElem?_map→XY,set_cons_zero→X5,any_nil→X6,map_nil→X9,nodup_cons→Wb,map_append→Wd,pairwise_cons→Wj,map_map→Wm,foldl_cons→Wn,mem_of_mem_take→Wp,mem_filter→Wq,range→Wt,flatMap_nil→Wu,length_map→WC,length_singleton→WD,set_cons_succ→WJ,mem_range→WV,length_drop→WX,nodup_append→WZ,length_eq_zero_iff→W6,isEmpty_iff→Xai,singleton_append→Xan,drop_succ_cons→Xax,any_eq_true→XaB,not_mem_nil→XaC,headD_cons→XaM,count_le_length→XaP,drop_zero→XaR,replicate_succ→XaT,not_lt→XaW,isEmpty_cons→Xa5,append_inj'→Xbf,filter_cons→Xbg,filter_eq_self→Xbo,pairwise_map→Xbw,range_zero→XbD,count_cons→XbE,sum_cons→XbK,getD_nil→XbM
open Bool renaming decide_eq_true→Xd,not_eq_true→Xh,false_eq_true→Xi,and_eq_true→Xp,not_eq_true'→Wg,and_self→Wy,or_eq_true→WR,or_false→WY,not_false→W3,false_and→Xac,not_true→Xaj,eq_iff_iff→Xau,true_and→Xbh,and_true→Xbi,false_or→Xby,and_false→XbG
open Nat renaming reduceLeDiff→Xf,reduceEqDiff→Xg,reduceAdd→Xk,reduceBEq→Xl,reduceSub→Xm,reduceMul→Xn,reduceLT→Xo,zero_add→XM,le_refl→XQ,sub_self→Xak,lt_irrefl→Xaw,le_trans→XaI,zero_le→Xbx
open Option renaming map_eq_some_iff→Xq,bind_some→XR
open Or renaming inl→Xw,inr→XD
open List.Pairwise renaming nil→WH
open List.cons renaming injEq→W7
open Int renaming toNat_natCast→Xaa,le_refl→Xay,toNat_zero→XbH
open Quot renaming mk→Xag
open ByteArray renaming empty→XaY
open UInt8 renaming toNat_inj→Xa2
namespace Go.Proofs.YtbjflkbenobjjaaDoor
set_option maxHeartbeats 16000000
set_option maxRecDepth 10000
section
def ZM:List UInt8->List (List UInt8)
 | []=>[[]]
 | b::r=>if b=47 then []::ZM r else match ZM r with
  | h::t=>(b::h)::t
  | []=>[[b]]
theorem Zi8 (s:List UInt8):ZM s≠[]:=by
 cases s with
 | nil=>simp [ZM]
 | cons b r=>simp only [ZM];split <;> (try split) <;> simp
theorem ZxE {s:List UInt8} (h:s.count 47=0):ZM s=[s]:=by
 induction s with
 | nil=>rfl
 | cons b r ih =>
  rw [XbE] at h
  have hb:¬b=47:=by rintro rfl;simp at h
  simp only [ZM]
  rw [if_neg hb,ih (by omega)]
theorem Zyx {s:List UInt8} {k:Nat} (h:s.count 47=k+1):∃ p t,s=p++47::t/\t.count 47=k/\ZM s=p::ZM t/\Lib.indexByte s 47=p.length:=by
 induction s with
 | nil=>simp at h
 | cons b r ih =>
  rw [XbE] at h
  by_cases hb:b=47
  ·subst hb
   exact ⟨[],r,rfl,by simpa using h,by simp [ZM],by simp [Lib.indexByte]⟩
  ·have hb':(b == 47)=false:=by simpa using hb
   rw [hb'] at h
   obtain ⟨p,t,rfl,h2,h3,h4⟩:=ih (by simpa using h)
   refine ⟨b::p,t,rfl,h2,?_,?_⟩
   ·simp only [ZM]
    rw [if_neg hb,h3]
   ·simp only [Lib.indexByte,hb',h4]
    simp
    try omega
theorem Zjd (s:List UInt8):(ZM s).length=s.count 47+1:=by
 induction s with
 | nil=>rfl
 | cons b r ih =>
  simp only [ZM]
  rw [XbE]
  split
  ·rename_i h;subst h;simp [ih]
  ·rename_i h
   have h0:=Zi8 r
   split
   ·rename_i e;rw [e] at ih;simp [h];simp at ih;omega
   ·rename_i e;exact absurd e h0
theorem ZAC (l:List UInt8) (c:UInt8):E 92 [.str l,.int .u8 c.toNat] []=some (.int .i64 (Lib.indexByte l c),[]):=by
 have : ((c.toNat:Int).toNat.toUInt8)=c:=by simp
 have h:=(ZcL (fs:=FC) (prim:=PR) (bf:=BY) (f:=92) (args:=[.str l,.int .u8 c.toNat]) (σ:=[])).2 ⟨1,rfl⟩
 rw [this] at h
 exact h
theorem ZGu (σ:Za) (sq own:Nat) (view:Bool) (l:List UInt8) (c:UInt8):ZX E BY σ sq 92 own view [.str l,.int .u8 c.toNat]=some (.int .i64 (Lib.indexByte l c),σ,{}) :=
 Zcc (ZAC l c) (by kernel_rfl) (by simp -implicitDefEqProofs only [Za7,Za3,Zm,Zr,Zq,Za4,Zn,Zs,Zo,Za2,Zp,eq_self,implies_true,Xi,Zj,ZA,ZD,ZB,ZC,Zj]) (by simp -implicitDefEqProofs only [Za7,Za3,Zm,Zr,Zq,Za4,Zn,Zs,Zo,Za2,Zp,eq_self,implies_true,Xi,Zj,ZA,ZD,ZB,ZC,Zj]) rfl (fun _=>rfl) _ _ _ _
theorem ZBm (l:List UInt8) (c:UInt8):E 86 [.str l,.str [c]] []=some (.int .i64 (Lib.indexByte l c),[]):=by
 rw [ZaY (by rfl) ZHZ]
 have e0:(((1:Nat):Int) == 0)=false:=rfl
 have e1:(((1:Nat):Int) == 1)=true:=rfl
 have hi:(if ([c] == l)=true then (0:Int) else Lib.indexByte l c)=Lib.indexByte l c:=by
  split
  ·rename_i h
   have : [c]=l:=by simpa using h
   subst this
   simp [Lib.indexByte]
  ·rfl
 simp -implicitDefEqProofs only [EQA,Zm,Zr,Zq,Zn,Zs,Zo,Zp,ZJ,ZN,ZO,ZL,ZI,ZP,ZK,ZH,ZQ,implies_true,forall_const,Xk,Xm,Xo,Xf,Xg,Xl,Xn,ZF,ZG,unA,Zx,Zz,unG,reduceCtorEq,Zl,decide_eq_true_eq,Xh,Xd,ite_self,↓reduceIte,Zw,ZE,gcT,gcA,Zh,Zf,Zc,Ze,Zt,Zb,Zi,Zd,Zu,Xj,ZtE,Zmr,Zzh,ZBN,ZmZ,ZCn,Zl5,Zj,ZA,ZD,ZB,ZC,ZV,e0,e1,ZGu,Zby,XbH,Xay]
 rw [hi]
theorem ZFY (σ:Za) (sq own:Nat) (view:Bool) (l:List UInt8) (c:UInt8):ZX E BY σ sq 86 own view [.str l,.str [c]]=some (.int .i64 (Lib.indexByte l c),σ,{}) :=
 Zcc (ZBm l c) (by kernel_rfl) (by simp -implicitDefEqProofs only [Za7,Za3,Zm,Zr,Zq,Za4,Zn,Zs,Zo,Za2,Zp,eq_self,implies_true,Xi,Zj,ZA,ZD,ZB,ZC,Zj]) (by simp -implicitDefEqProofs only [Za7,Za3,Zm,Zr,Zq,Za4,Zn,Zs,Zo,Za2,Zp,eq_self,implies_true,Xi,Zj,ZA,ZD,ZB,ZC,Zj]) rfl (fun _=>rfl) _ _ _ _
theorem ZtI (l:List UInt8) (c:UInt8):E 67 [.str l,.str [c]] []=some (.int .i64 (Lib.indexByte l c),[]):=by
 rw [ZaY (by rfl) ZCT]
 simp -implicitDefEqProofs only [EQA,Zm,Zr,Zq,Zn,Zs,Zo,Zp,ZJ,ZN,ZO,ZL,ZI,ZP,ZK,ZH,ZQ,implies_true,forall_const,Xk,Xm,Xo,Xf,Xg,Xl,Xn,ZF,ZG,unA,Zx,Zz,unG,reduceCtorEq,Zl,decide_eq_true_eq,Xh,Xd,ite_self,↓reduceIte,Zw,ZE,gcT,gcA,Zh,Zf,Zc,Ze,Zt,Zb,Zi,Zd,Zu,Xj,ZEg,Zky,ZwZ,Zj,ZA,ZD,ZB,ZC,ZV,ZFY]
theorem ZyD (σ:Za) (sq own:Nat) (view:Bool) (l:List UInt8) (c:UInt8):ZX E BY σ sq 67 own view [.str l,.str [c]]=some (.int .i64 (Lib.indexByte l c),σ,{}) :=
 Zcc (ZtI l c) (by kernel_rfl) (by simp -implicitDefEqProofs only [Za7,Za3,Zm,Zr,Zq,Za4,Zn,Zs,Zo,Za2,Zp,eq_self,implies_true,Xi,Zj,ZA,ZD,ZB,ZC,Zj]) (by simp -implicitDefEqProofs only [Za7,Za3,Zm,Zr,Zq,Za4,Zn,Zs,Zo,Za2,Zp,eq_self,implies_true,Xi,Zj,ZA,ZD,ZB,ZC,Zj]) rfl (fun _=>rfl) _ _ _ _
theorem ZtH (l:List UInt8) (c:UInt8):E 66 [.str l,.str [c]] []=some (.int .i64 (Lib.countByte l c),[]):=ZcL.2 ⟨1,rfl⟩
theorem ZDA (σ:Za) (sq own:Nat) (view:Bool) (l:List UInt8) (c:UInt8):ZX E BY σ sq 66 own view [.str l,.str [c]]=some (.int .i64 (Lib.countByte l c),σ,{}) :=
 Zcc (ZtH l c) (by kernel_rfl) (by simp -implicitDefEqProofs only [Za7,Za3,Zm,Zr,Zq,Za4,Zn,Zs,Zo,Za2,Zp,eq_self,implies_true,Xi,Zj,ZA,ZD,ZB,ZC,Zj]) (by simp -implicitDefEqProofs only [Za7,Za3,Zm,Zr,Zq,Za4,Zn,Zs,Zo,Za2,Zp,eq_self,implies_true,Xi,Zj,ZA,ZD,ZB,ZC,Zj]) rfl (fun _=>rfl) _ _ _ _
theorem ZF9 {σ:Za} {t g k n:Nat} {xs:List AVal} (hs:σ[t]?=some (.row g k xs)) (hn:n<=xs.length) {h:Int} (h0:0<=h) (h1:h<=(xs.length:Int)) (kk:IntKind):Zcn σ k (.sl t g 0 n) none (some (.int kk h)) none=some (.sl t g 0 h.toNat,σ,{ rd:=[t] }):=by
 have he:Zl σ (.sl t g 0 n)=some ((xs.drop 0).take n,[t]):=by simp [Zl,hs,hn]
 simp [Zcn,he,hs,Zbm,Zdr,h0,h1]
theorem Zyh (k n:Nat) (xs:List AVal) (σ:Za):Zbq 0 (.row 0 k xs::σ) (.sl 0 0 0 n)=some (.sl 0 0 0 n,[.row 0 k xs]):=by
 rfl
theorem Zqc {done:List (List UInt8)} {n m:Nat} (hn:n=done.length+m+1):(done.map AVal.str++XK (n - done.length) (AVal.str []))[done.length]?=some (AVal.str []):=by
 rw [List.getElem?_append_right (by simp),WC,Xak,show n - done.length=m+1 by omega,XaT]
 rfl
theorem ZqF {done:List (List UInt8)} {n m:Nat} (hn:n=done.length+m+1) (p:List UInt8):(done.map AVal.str++XK (n - done.length) (AVal.str [])).set done.length (AVal.str p)=(done++[p]).map AVal.str++XK (n - (done++[p]).length) (AVal.str []):=by
 rw [List.set_append_right _ _ (by simp),WC,Xak,show n - done.length=m+1 by omega,XaT,X5,Wd,List.append_assoc,XL]
 simp only [XI,X9,XP,XE,Xv,XC]
 rw [show n - (done.length+(0+1))=m by omega]
theorem Zoj (N:Nat) (hN:N<=9223372036854775807):∀ (k:Nat) (s:List UInt8) (done:List (List UInt8)),s.count 47=k->N=done.length+k+1->s.length<=9223372036854775807 ->
  Zjv 0 [(10,.int .i64 done.length),(9,.sl 0 0 0 N),(3,.int .i64 (N - 1:Int)),(2,.int .i64 0),(1,.str [47]),(0,.str s)] [.row 0 1 (done.map AVal.str++XK (N - done.length) (AVal.str []))] =
   some (.sl 0 0 0 N,[.row 0 1 ((done++ZM s).map AVal.str)])
 | 0,s,done,hk,hNd,hs=>by
  have h1:¬((done.length:Int) < (N - 1:Int)):=by omega
  have i0:(0:Int)<=(done.length:Int):=by omega
  have i1:done.length < N:=by omega
  have hg:=Zqc (done:=done) (n:=N) (m:=0) (by omega)
  have hst:=ZqF (done:=done) (n:=N) (m:=0) (by omega) s
  have hw:IntKind.i64.wrap ((done.length:Int)+1)=(N:Int):=by rw [ZcW (by omega) (by omega)];omega
  rw [ZxE hk]
  have he:(done++[s]).map AVal.str++XK (N - (done++[s]).length) (AVal.str [])=(done++[s]).map AVal.str:=by
   have : N - (done++[s]).length=0:=by simp;omega
   rw [this];simp
  rw [he] at hst
  have hl:((done++[s]).map AVal.str).length=N:=by simp;omega
  have hl0:(done.map AVal.str++XK (N - done.length) (AVal.str [])).length=N:=by simp;omega
  generalize hX:done.map AVal.str++XK (N - done.length) (AVal.str [])=X at *
  generalize hY:(done++[s]).map AVal.str=Y at *
  have hsl:Zcn [Zy.row 0 1 Y] 1 (.sl 0 0 0 N) none (some (.int .i64 (N:Int))) none=some (.sl 0 0 0 N,[Zy.row 0 1 Y],{ rd:=[0] }):=by
   have:=ZF9 (σ:=[Zy.row 0 1 Y]) (t:=0) (g:=0) (k:=1) (n:=N) (xs:=Y) rfl (by omega) (h:=(N:Int)) (by omega) (by omega) .i64
   simpa using this
  unfold Zjv
  rw [Zbn]
  simp -implicitDefEqProofs only [EQA,Zm,Zr,Zq,Zn,Zs,Zo,Zp,ZJ,ZN,ZO,ZL,ZI,ZP,ZK,ZH,ZQ,implies_true,forall_const,Xk,Xm,Xo,Xf,Xg,Xl,Xn,ZF,ZG,unA,Zx,Zz,unG,reduceCtorEq,Zl,decide_eq_true_eq,Xh,Xd,ite_self,↓reduceIte,Zw,ZE,gcT,gcA,Zh,Zf,Zc,Ze,Zt,Zb,Zi,Zd,Zu,Xj,Zl8,Zh3,ZkO,ZlG,ZhO,ZkN,Zij,Zj,ZA,ZD,ZB,ZC,ZV,h1,i0,i1,hg,hst,hw,hl,hl0,hsl,Zyh,Xaa,ZbY,XM,Zcr,ZbH,Zhc,ZU]
 | k+1,s,done,hk,hNd,hs=>by
  obtain ⟨p,t,rfl,ht,hsp,hidx⟩:=Zyx hk
  have hlen:(p++47::t).length=p.length+t.length+1:=by simp;omega
  have ih:=Zoj N hN k t (done++[p]) ht (by simp;omega) (by omega)
  have h1:((done.length:Int) < (N - 1:Int)):=by omega
  have i0:(0:Int)<=(done.length:Int):=by omega
  have i1:done.length < N:=by omega
  have hg:=Zqc (done:=done) (n:=N) (m:=k+1) (by omega)
  have hst:=ZqF (done:=done) (n:=N) (m:=k+1) (by omega) p
  have hw:IntKind.i64.wrap ((done.length:Int)+1)=(((done++[p]).length:Nat):Int):=by rw [ZcW (by omega) (by omega)];simp
  rw [hsp,show done++p::ZM t=(done++[p])++ZM t by simp]
  have hi:Lib.indexByte (p++47::t) 47=p.length:=hidx
  have n1:¬((p.length:Int) < 0):=by omega
  have w1:IntKind.i64.wrap ((p.length:Int)+0)=p.length:=by rw [ZcW (by omega) (by omega)];omega
  have w2:IntKind.i64.wrap ((p.length:Int)+((1:Nat):Int))=p.length+1:=by rw [ZcW (by omega) (by omega)];rfl
  have p0:(0:Int)<=(p.length:Int):=by omega
  have p1:(0:Int)<=(p.length:Int)+1:=by omega
  have e1:((p++47::t).take p.length)=p:=by simp
  have e2:((p++47::t).drop (p.length+1))=t:=by rw [List.drop_append];simp
  have e3:((p++47::t).take (p++47::t).length)=p++47::t:=List.take_length
  have t1:((p.length:Int)+1).toNat=p.length+1:=by omega
  have l1:(p.length:Int)<=(((p++47::t).length:Nat):Int):=by omega
  have l2:(p.length:Int)+1<=(((p++47::t).length:Nat):Int):=by omega
  have hl0:(done.map AVal.str++XK (N - done.length) (AVal.str [])).length=N:=by simp;omega
  generalize hX:done.map AVal.str++XK (N - done.length) (AVal.str [])=X at *
  generalize hY:(done++[p]).map AVal.str++XK (N - (done++[p]).length) (AVal.str [])=Y at *
  generalize hS:p++47::t=S at *
  generalize hD:(done++[p]).length=D at *
  unfold Zjv at ih ⊢
  rw [Zbn]
  simp -implicitDefEqProofs only [EQA,Zm,Zr,Zq,Zn,Zs,Zo,Zp,ZJ,ZN,ZO,ZL,ZI,ZP,ZK,ZH,ZQ,implies_true,forall_const,Xk,Xm,Xo,Xf,Xg,Xl,Xn,ZF,ZG,unA,Zx,Zz,unG,reduceCtorEq,Zl,decide_eq_true_eq,Xh,Xd,ite_self,↓reduceIte,Zw,ZE,gcT,gcA,Zh,Zf,Zc,Ze,Zt,Zb,Zi,Zd,Zu,Xj,Zl8,Zh3,ZkO,ZlG,ZhO,ZkN,Zij,Zj,ZA,ZD,ZB,ZC,ZV,h1,i0,i1,hg,hst,hw,hl0,ZyD,hi,n1,w1,w2,p0,p1,e1,e2,e3,t1,l1,l2,Zbm,Zdr,Xaa,ZbY,XM,Zcr,ZbH,Zhc,ZU]
  exact ih
theorem ZGP (s:List UInt8) (hs:s.length*16<=140737488355328 - 16):E 55 [.str s,.str [47],.int .i64 0,.int .i64 (-1)] []=some (.sl 0 0 0 (s.count 47+1),[.row 0 1 ((ZM s).map AVal.str)]):=by
 have hc:=XaP (a:=(47:UInt8)) (l:=s)
 have key:=Zoj (s.count 47+1) (by omega) (s.count 47) s [] rfl (by simp) (by omega)
 rw [ZaY (by rfl) ZuK]
 unfold Zjv at key
 have e0:(((-1:Int)) == 0)=false:=rfl
 have e1:(([47]:List UInt8) == [])=false:=rfl
 have e2:((-1:Int) < 0)=True:=by simp
 have w1:IntKind.i64.wrap (((Lib.countByte s 47:Nat):Int)+1)=((s.count 47+1:Nat):Int):=by
  show IntKind.i64.wrap (((s.count 47:Nat):Int)+1)=_
  rw [ZcW (by omega) (by omega)];rfl
 have w2:IntKind.i64.wrap (((s.length:Nat):Int)+1)=((s.length+1:Nat):Int):=by rw [ZcW (by omega) (by omega)];rfl
 have w3:IntKind.i64.wrap (((s.count 47+1:Nat):Int) - 1)=((s.count 47+1:Nat):Int) - 1:=by rw [ZcW (by omega) (by omega)]
 have n1:¬(((s.count 47+1:Nat):Int) > ((s.length+1:Nat):Int)):=by omega
 have m1:(0:Int)<=((s.count 47+1:Nat):Int):=by omega
 have m2:((s.count 47+1:Nat):Int)<=9223372036854775807:=by omega
 have m3:((16:Nat):Int)*((s.count 47+1:Nat):Int)<=140737488355328:=by omega
 simp only [X9,XE,XC,Nat.sub_zero] at key
 have z0:((0:Nat):Int)=0:=rfl
 rw [z0] at key
 simp -implicitDefEqProofs only [EQA,Zm,Zr,Zq,Zn,Zs,Zo,Zp,ZJ,ZN,ZO,ZL,ZI,ZP,ZK,ZH,ZQ,implies_true,forall_const,Xk,Xm,Xo,Xf,Xg,Xl,Xn,ZF,ZG,unA,Zx,Zz,unG,reduceCtorEq,Zl,decide_eq_true_eq,Xh,Xd,ite_self,↓reduceIte,Zw,ZE,gcT,gcA,Zh,Zf,Zc,Ze,Zt,Zb,Zi,Zd,Zu,Xj,Zl8,Zh3,ZkO,ZlG,ZhO,ZkN,Zij,Zj,ZA,ZD,ZB,ZC,ZV,e0,e1,e2,w1,w2,w3,n1,m1,m2,m3,ZDA,Xaa,Xay]
 rw [XaT] at key
 exact key
theorem ZBK {O:Z7} {bf:Nat->Bool} {f:Nat} {args:List AVal} {k n:Nat} {xs:List AVal} (h:O f args []=some (.sl 0 0 0 n,[.row 0 k xs])) (hn:xs.length=n) (hb:bf f=false) (hp:args.all ZaD=true) (hm:args.map Zak=args) (σ:Za) (sq own:Nat):ZX O bf σ sq f own true args=some (.lst false xs,σ,{}):=by
 rw [ZqN hb hp,hm,h]
 have : Zba true 0 (some (.sl 0 0 0 n,[.row 0 k xs]))=some (.lst false xs,[]):=by
  unfold Zba
  rw [if_pos rfl,ZtF (k:=k) (g:=0) (t:=0) (xs:=xs) rfl (by omega),List.take_of_length_le (by omega)]
 rw [this,Zqg _ _ _ _ rfl]
def Zf1 (l:List (List UInt8)):AVal:=.lst false (l.map AVal.str)
theorem Zui (s:List UInt8) (hs:s.length*16<=140737488355328 - 16):E 47 [.str s,.str [47]] []=some (Zf1 (ZM s),[]):=by
 have hC:=fun σ sq own=>ZBK (bf:=BY) (ZGP s hs) (by rw [WC,Zjd]) (by kernel_rfl) rfl rfl σ sq own
 rw [ZaY (by rfl) ZxZ]
 simp -implicitDefEqProofs only [EQA,Zm,Zr,Zq,Zn,Zs,Zo,Zp,ZJ,ZN,ZO,ZL,ZI,ZP,ZK,ZH,ZQ,implies_true,forall_const,Xk,Xm,Xo,Xf,Xg,Xl,Xn,ZF,ZG,unA,Zx,Zz,unG,reduceCtorEq,Zl,decide_eq_true_eq,Xh,Xd,ite_self,↓reduceIte,Zw,ZE,gcT,gcA,Zh,Zf,Zc,Ze,Zt,Zb,Zi,Zd,Zu,Xj,ZtM,Znl,ZEz,Zj,ZA,ZD,ZB,ZC,ZV,hC,Zf1]
theorem Zvx (σ:Za) (sq own:Nat) (view:Bool) (s:List UInt8) (hs:s.length*16<=140737488355328 - 16):ZX E BY σ sq 47 own view [.str s,.str [47]]=some (.lst false ((ZM s).map AVal.str),σ,{}) :=
 Zcc (Zui s hs) (by kernel_rfl) (by simp -implicitDefEqProofs only [Za7,Za3,Zm,Zr,Zq,Za4,Zn,Zs,Zo,Za2,Zp,eq_self,implies_true,Xi,Zj,ZA,ZD,ZB,ZC,Zf1]) (by simp -implicitDefEqProofs only [Za7,Za3,Zm,Zr,Zq,Za4,Zn,Zs,Zo,Za2,Zp,eq_self,implies_true,Xi,Zj,ZA,ZD,ZB,ZC,Zf1]) rfl (fun _=>rfl) _ _ _ _
theorem ZC0 (s:List UInt8) (hs:s.length*16<=140737488355328 - 16):E 31 [.str s] []=some (Zf1 (ZM s),[]):=by
 have hC:=fun σ sq own view=>Zvx σ sq own view s hs
 rw [ZaY (by rfl) ZBz]
 simp -implicitDefEqProofs only [EQA,Zm,Zr,Zq,Zn,Zs,Zo,Zp,ZJ,ZN,ZO,ZL,ZI,ZP,ZK,ZH,ZQ,implies_true,forall_const,Xk,Xm,Xo,Xf,Xg,Xl,Xn,ZF,ZG,unA,Zx,Zz,unG,reduceCtorEq,Zl,decide_eq_true_eq,Xh,Xd,ite_self,↓reduceIte,Zw,ZE,gcT,gcA,Zh,Zf,Zc,Ze,Zt,Zb,Zi,Zd,Zu,Xj,Zza,ZmY,Zxx,Zj,ZA,ZD,ZB,ZC,ZV,hC,Zf1]
theorem Zip (σ:Za) (sq own:Nat) (view:Bool) (s:List UInt8) (hs:s.length*16<=140737488355328 - 16):ZX E BY σ sq 31 own view [.str s]=some (.lst false ((ZM s).map AVal.str),σ,{}) :=
 Zcc (ZC0 s hs) (by kernel_rfl) (by simp -implicitDefEqProofs only [Za7,Za3,Zm,Zr,Zq,Za4,Zn,Zs,Zo,Za2,Zp,eq_self,implies_true,Xi,Zj,ZA,ZD,ZB,ZC,Zf1]) (by simp -implicitDefEqProofs only [Za7,Za3,Zm,Zr,Zq,Za4,Zn,Zs,Zo,Za2,Zp,eq_self,implies_true,Xi,Zj,ZA,ZD,ZB,ZC,Zf1]) rfl (fun _=>rfl) _ _ _ _
section
end
end
section
theorem ZxM (s:List UInt8):∀ x ∈ ZM s,x.length<=s.length:=by
 induction s with
 | nil=>simp [ZM]
 | cons b r ih =>
  simp only [ZM]
  split
  ·intro x hx
   rcases XH.1 hx with rfl | hx
   ·simp
   ·have:=ih x hx;simp;omega
  ·split
   ·rename_i h t e
    intro x hx
    rw [e] at ih
    rcases XH.1 hx with rfl | hx
    ·have:=ih h (by simp);simp;omega
    ·have:=ih x (by simp [hx]);simp;omega
   ·intro x hx
    have : x=[b]:=by simpa using hx
    subst this;simp
def Zjp (last:Bool) (x:List UInt8):Bool:=x == [43] || (x == [35] && last) || !Zbb x
def ZeD:List (List UInt8)->Bool
 | []=>true
 | x::r=>Zjp r.isEmpty x && ZeD r
def Zbi (s:List UInt8):Bool:=ZeD (ZM s) && Zdx s
theorem ZDI {α:Type} {l:List α} {i:Nat} {x:α} {r:List α} (h:l.drop i=x::r):((i:Int) == ((l.length:Int) - 1))=r.isEmpty:=by
 have h1:=congrArg List.length h
 simp only [WX,Xv] at h1
 cases r with
 | nil=>simp at h1 ⊢;omega
 | cons y r=>simp at h1 ⊢;omega
theorem Zrv (s:List UInt8) (L:List (List UInt8)) (hL:L.length<=9223372036854775807) (hx:∀ x ∈ L,x.length<=9223372036854775807):∀ (r:List (List UInt8)) (i:Nat),L.drop i=r ->
  ZjS 0 [(11,.int .i64 i),(10,.int .i64 L.length),(9,.lst false (L.map AVal.str)),(3,.lst false (L.map AVal.str)),(0,.str s)] []=some (.bool (ZeD r && Zdx s),[])
 | [],i,h=>by
  have h1:=Zgw h
  unfold ZjS
  rw [Zbn]
  simp -implicitDefEqProofs only [EQA,Zm,Zr,Zq,Zn,Zs,Zo,Zp,ZJ,ZN,ZO,ZL,ZI,ZP,ZK,ZH,ZQ,implies_true,forall_const,Xk,Xm,Xo,Xf,Xg,Xl,Xn,ZF,ZG,unA,Zx,Zz,unG,reduceCtorEq,Zl,decide_eq_true_eq,Xh,Xd,ite_self,↓reduceIte,Zw,ZE,gcT,gcA,Zh,Zf,Zc,Ze,Zt,Zb,Zi,Zd,Zu,Xj,Zft,Zeq,ZfM,Zfs,ZeC,ZfC,ZeS,Zj,ZA,ZD,ZB,ZC,ZV,h1,ZnS]
  rfl
 | x::r,i,h=>by
  have ih:=Zrv s L hL hx r (i+1) (ZdU h).2.1
  have hlt:=(ZdU h).2.2
  have h1:(i:Int) < L.length:=by omega
  have e1:=iad (ZdU h).1 AVal.str (k:=1) rfl
  have h3:=Zfi h1 hL
  have hmem:x ∈ L:=XA (ZdU h).1
  have hC:=fun σ sq own view=>ZrG σ sq own view x (hx x hmem)
  have w1:IntKind.i64.wrap ((L.length:Int) - 1)=(L.length:Int) - 1:=ZcW (by omega) (by omega)
  have hla:=ZDI h
  have ee:ZeD (x::r)=(Zjp r.isEmpty x && ZeD r):=rfl
  rw [ee]
  unfold Zjp
  unfold ZjS at ih ⊢
  rw [Zbn]
  cases hp:(x == [43])
  ·cases hq:(x == [35])
   ·cases hz:Zbb x
    ·simp -implicitDefEqProofs only [EQA,Zm,Zr,Zq,Zn,Zs,Zo,Zp,ZJ,ZN,ZO,ZL,ZI,ZP,ZK,ZH,ZQ,implies_true,forall_const,Xk,Xm,Xo,Xf,Xg,Xl,Xn,ZF,ZG,unA,Zx,Zz,unG,reduceCtorEq,Zl,decide_eq_true_eq,Xh,Xd,ite_self,↓reduceIte,Zw,ZE,gcT,gcA,Zh,Zf,Zc,Ze,Zt,Zb,Zi,Zd,Zu,Xj,Zft,Zeq,ZfM,Zfs,ZeC,ZfC,ZeS,Zj,ZA,ZD,ZB,ZC,ZV,h1,e1,h3,hC,w1,hla,hp,hq,hz]
     exact ih
    ·simp -implicitDefEqProofs only [EQA,Zm,Zr,Zq,Zn,Zs,Zo,Zp,ZJ,ZN,ZO,ZL,ZI,ZP,ZK,ZH,ZQ,implies_true,forall_const,Xk,Xm,Xo,Xf,Xg,Xl,Xn,ZF,ZG,unA,Zx,Zz,unG,reduceCtorEq,Zl,decide_eq_true_eq,Xh,Xd,ite_self,↓reduceIte,Zw,ZE,gcT,gcA,Zh,Zf,Zc,Ze,Zt,Zb,Zi,Zd,Zu,Xj,Zft,Zeq,ZfM,Zfs,ZeC,ZfC,ZeS,Zj,ZA,ZD,ZB,ZC,ZV,h1,e1,h3,hC,w1,hla,hp,hq,hz]
   ·cases hr:r.isEmpty
    ·cases hz:Zbb x
     ·simp -implicitDefEqProofs only [EQA,Zm,Zr,Zq,Zn,Zs,Zo,Zp,ZJ,ZN,ZO,ZL,ZI,ZP,ZK,ZH,ZQ,implies_true,forall_const,Xk,Xm,Xo,Xf,Xg,Xl,Xn,ZF,ZG,unA,Zx,Zz,unG,reduceCtorEq,Zl,decide_eq_true_eq,Xh,Xd,ite_self,↓reduceIte,Zw,ZE,gcT,gcA,Zh,Zf,Zc,Ze,Zt,Zb,Zi,Zd,Zu,Xj,Zft,Zeq,ZfM,Zfs,ZeC,ZfC,ZeS,Zj,ZA,ZD,ZB,ZC,ZV,h1,e1,h3,hC,w1,hla,hp,hq,hz,hr]
      exact ih
     ·simp -implicitDefEqProofs only [EQA,Zm,Zr,Zq,Zn,Zs,Zo,Zp,ZJ,ZN,ZO,ZL,ZI,ZP,ZK,ZH,ZQ,implies_true,forall_const,Xk,Xm,Xo,Xf,Xg,Xl,Xn,ZF,ZG,unA,Zx,Zz,unG,reduceCtorEq,Zl,decide_eq_true_eq,Xh,Xd,ite_self,↓reduceIte,Zw,ZE,gcT,gcA,Zh,Zf,Zc,Ze,Zt,Zb,Zi,Zd,Zu,Xj,Zft,Zeq,ZfM,Zfs,ZeC,ZfC,ZeS,Zj,ZA,ZD,ZB,ZC,ZV,h1,e1,h3,hC,w1,hla,hp,hq,hz,hr]
    ·simp -implicitDefEqProofs only [EQA,Zm,Zr,Zq,Zn,Zs,Zo,Zp,ZJ,ZN,ZO,ZL,ZI,ZP,ZK,ZH,ZQ,implies_true,forall_const,Xk,Xm,Xo,Xf,Xg,Xl,Xn,ZF,ZG,unA,Zx,Zz,unG,reduceCtorEq,Zl,decide_eq_true_eq,Xh,Xd,ite_self,↓reduceIte,Zw,ZE,gcT,gcA,Zh,Zf,Zc,Ze,Zt,Zb,Zi,Zd,Zu,Xj,Zft,Zeq,ZfM,Zfs,ZeC,ZfC,ZeS,Zj,ZA,ZD,ZB,ZC,ZV,h1,e1,h3,hC,w1,hla,hp,hq,hr]
     exact ih
  ·simp -implicitDefEqProofs only [EQA,Zm,Zr,Zq,Zn,Zs,Zo,Zp,ZJ,ZN,ZO,ZL,ZI,ZP,ZK,ZH,ZQ,implies_true,forall_const,Xk,Xm,Xo,Xf,Xg,Xl,Xn,ZF,ZG,unA,Zx,Zz,unG,reduceCtorEq,Zl,decide_eq_true_eq,Xh,Xd,ite_self,↓reduceIte,Zw,ZE,gcT,gcA,Zh,Zf,Zc,Ze,Zt,Zb,Zi,Zd,Zu,Xj,Zft,Zeq,ZfM,Zfs,ZeC,ZfC,ZeS,Zj,ZA,ZD,ZB,ZC,ZV,h1,e1,h3,hC,w1,hla,hp]
   exact ih
theorem ZvF (s:List UInt8) (hs:s.length*16<=140737488355328 - 64):E 29 [.str s] []=some (.bool (Zbi s),[]):=by
 have hC:=fun σ sq own view=>Zip σ sq own view s (by omega)
 have hlen:=Zjd s
 have hcl:=XaP (a:=(47:UInt8)) (l:=s)
 have key:=Zrv s (ZM s) (by omega) (fun x hx=>by have:=ZxM s x hx;omega) (ZM s) 0 rfl
 rw [ZaY (by rfl) ZIK]
 unfold ZjS at key
 have z0:((0:Nat):Int)=0:=rfl
 rw [z0] at key
 simp -implicitDefEqProofs only [EQA,Zm,Zr,Zq,Zn,Zs,Zo,Zp,ZJ,ZN,ZO,ZL,ZI,ZP,ZK,ZH,ZQ,implies_true,forall_const,Xk,Xm,Xo,Xf,Xg,Xl,Xn,ZF,ZG,unA,Zx,Zz,unG,reduceCtorEq,Zl,decide_eq_true_eq,Xh,Xd,ite_self,↓reduceIte,Zw,ZE,gcT,gcA,Zh,Zf,Zc,Ze,Zt,Zb,Zi,Zd,Zu,Xj,Zft,Zeq,ZfM,Zfs,ZeC,ZfC,ZeS,Zj,ZA,ZD,ZB,ZC,ZV,hC]
 exact key
theorem ZCh (σ:Za) (sq own:Nat) (view:Bool) (s:List UInt8) (hs:s.length*16<=140737488355328 - 64):ZX E BY σ sq 29 own view [.str s]=some (.bool (Zbi s),σ,{}) :=
 Zcc (ZvF s hs) (by kernel_rfl) (by simp -implicitDefEqProofs only [Za7,Za3,Zm,Zr,Zq,Za4,Zn,Zs,Zo,Za2,Zp,eq_self,implies_true,Xi,Zj,ZA,ZD,ZB,ZC,Zj]) (by simp -implicitDefEqProofs only [Za7,Za3,Zm,Zr,Zq,Za4,Zn,Zs,Zo,Za2,Zp,eq_self,implies_true,Xi,Zj,ZA,ZD,ZB,ZC,Zj]) rfl (fun _=>rfl) _ _ _ _
end
section
def trH (ns:List TN) (n:Int):Za:=[.var [.nref 1 0 0,.int .i64 n],.arena (eNs ns)]
theorem ZII:E 7 [] []=some (.ref 0 0,trH [([],[])] 0):=ZcL.2 ⟨3,by kernel_rfl⟩
theorem ZHj (ns:List TN) (n:Int):E 12 [.ref 0 0] (trH ns n)=some (.int .i64 n,trH ns n):=by
 unfold trH
 generalize eNs ns=A at *
 rw [ZaY (by rfl) ZH5]
 simp -implicitDefEqProofs only [EQA,Zm,Zr,Zq,Zn,Zs,Zo,Zp,ZJ,ZN,ZO,ZL,ZI,ZP,ZK,ZH,ZQ,implies_true,forall_const,Xk,Xm,Xo,Xf,Xg,Xl,Xn,ZF,ZG,unA,Zx,Zz,unG,reduceCtorEq,Zl,decide_eq_true_eq,Xh,Xd,ite_self,↓reduceIte,Zw,ZE,gcT,gcA,Zh,Zf,Zc,Ze,Zt,Zb,Zi,Zd,Zu,Xj,ZtG,Zkz,ZF2,Zj,ZA,ZD,ZB,ZC,ZV,Z5,Z2,Z4,Z3,AVal.cells]
 simp -implicitDefEqProofs only [EQA,Zbq,gcA,Zh,ZZ,XU,XE,Xj,XbD,List.flatMap_append,XT,Wu,Xs,Xx,id_eq,ZW,Zf,Zu,Zav,Ze,Zd,Zv,XB,Zc,Zt,Zb,Zi,Zm,Zr,Zq,Zn,Zs,Zo,Zp,ZJ,ZN,ZO,ZL,ZI,ZP,ZK,ZH,ZQ,implies_true,forall_const,Xk,Xm,Xo,Xf,Xg,Xl,Xn,ZF,ZG,unA,Zx,Zz,unG,reduceCtorEq,Zl,decide_eq_true_eq,Xh,Xd,ite_self,↓reduceIte,Zw,ZE,gcT,gcA,Zh,Zf,Zc,Ze,Zt,Zb,Zi,Zd,Zu,Xj,or_false,Z5,Z2,Z4,Z3,AVal.cells]
theorem ZfB {r:AVal} (hr:Zay r=true) (ns:List TN) (n:Int) (σ:Za):Zbq 2 (.var [.nref 1 0 0,.int .i64 n]::.arena (eNs ns)::σ) r=some (r,trH ns n):=by
 have hR:Wt 2=[0,1]:=rfl
 have h0:(Zy.var [.nref 1 0 0,.int .i64 n]::.arena (eNs ns)::σ).getD 0 .free=.var [.nref 1 0 0,.int .i64 n]:=rfl
 have h1:(Zy.var [.nref 1 0 0,.int .i64 n]::.arena (eNs ns)::σ).getD 1 .free=.arena (eNs ns):=rfl
 have hb0:Zu (.var [.nref 1 0 0,.int .i64 n])=[1]:=rfl
 have hb1:Zu (.arena (eNs ns))=[]:=rfl
 have hi:Zh 2 [r] (.var [.nref 1 0 0,.int .i64 n]::.arena (eNs ns)::σ)=[0,1]:=by
  simp only [Zh,ZZ,(Zec (fun _ _=>none) r hr).2,XE,hR,XT,Wu,XU,h0,h1,hb0,hb1]
  rfl
 have hρ:Zc (.var [.nref 1 0 0,.int .i64 n]::.arena (eNs ns)::σ) 2 [0,1] 1 (1001+3*0)=some (1,1001+3*0):=ZfT (j:=0) (by rfl) (by rfl) (by omega)
 simp only [Zbq,gcA,hi,Ze,ZW,(Zec _ r hr).1,h0,h1,Zd,Zv,hρ,if_true,trH]
theorem Zw3 (ns:List TN) (hC:Closed ns) (hS:Small ns) (hj:0 < ns.length) (n:Int) (hn:-1000000<=n/\n<=1000000) (f k:Tx) (hf:f.length<=1048576) (hl:(ZM f).length<=2000000) :
  E 10 [.ref 0 0,.str f,.str k] (trH ns n)=some (.bool (Zab k (ZM f) ns 0).2,trH (Zab k (ZM f) ns 0).1 (if (Zab k (ZM f) ns 0).2 then n - 1 else n)):=by
 have hq:=Zsv k (ZM f) hl ns hC hS 0 hj
 have hlen:=Zkl k (ZM f) ns 0
 generalize (Zab k (ZM f) ns 0).1=ns' at *
 generalize (Zab k (ZM f) ns 0).2=b at *
 have hc:=fun {σ:Za} {sq:Nat} hs=>Zrl (σ:=σ) (t:=1) (sq:=sq) hq (by rw [ZfK,ZfK,hlen];exact XQ _) (by simp [ZaD,ZaQ]) hs
 have hlv:=fun σ sq own view=>Zip σ sq own view f (by omega)
 have w:IntKind.i64.wrap (n - 1)=n - 1:=ZcW (by omega) (by omega)
 have ho:=fun n σ=>ZfB (r:=.bool b) rfl ns' n σ
 unfold trH at *
 generalize (ZM f).map AVal.str=S at *
 generalize eNs ns=A at *
 generalize eNs ns'=A' at *
 rw [ZaY (by rfl) Zt9]
 cases b with
 | true =>
  simp -implicitDefEqProofs only [EQA,Zm,Zr,Zq,Zn,Zs,Zo,Zp,ZJ,ZN,ZO,ZL,ZI,ZP,ZK,ZH,ZQ,implies_true,forall_const,Xk,Xm,Xo,Xf,Xg,Xl,Xn,ZF,ZG,unA,Zx,Zz,unG,reduceCtorEq,Zl,decide_eq_true_eq,Xh,Xd,ite_self,↓reduceIte,Zw,ZE,gcT,gcA,Zh,Zf,Zc,Ze,Zt,Zb,Zi,Zd,Zu,Xj,ZpR,ZjB,ZsI,Zj,ZA,ZD,ZB,ZC,ZV,hc,hlv,w,ho,X5,WJ,Z5,Z2,Z4,Z3,AVal.cells,Za0,ZaX,Zbd,ZaG,XX,X6,Xr,Xy,Xv,XC,Za5,Za8,Za9,Za1,Za6,Xs,Xx,Zai,Zan,Zas,ZaF,ZaO,ZaM,ZaT,ZaU,Zax,ZaR,XN,XW,Xr,Xy,XB]
 | false =>
  simp -implicitDefEqProofs only [EQA,Zm,Zr,Zq,Zn,Zs,Zo,Zp,ZJ,ZN,ZO,ZL,ZI,ZP,ZK,ZH,ZQ,implies_true,forall_const,Xk,Xm,Xo,Xf,Xg,Xl,Xn,ZF,ZG,unA,Zx,Zz,unG,reduceCtorEq,Zl,decide_eq_true_eq,Xh,Xd,ite_self,↓reduceIte,Zw,ZE,gcT,gcA,Zh,Zf,Zc,Ze,Zt,Zb,Zi,Zd,Zu,Xj,ZpR,ZjB,ZsI,Zj,ZA,ZD,ZB,ZC,ZV,hc,hlv,w,ho,X5,WJ,Z5,Z2,Z4,Z3,AVal.cells,Za0,ZaX,Zbd,ZaG,XX,X6,Xr,Xy,Xv,XC,Za5,Za8,Za9,Za1,Za6,Xs,Xx,Zai,Zan,Zas,ZaF,ZaO,ZaM,ZaT,ZaU,Zax,ZaR,XN,XW,Xr,Xy,XB]
theorem Zt8 {A A':Zad} {b:Bool} {S:List AVal} {k:Tx} {v:Int} {j:Nat} (h:E 30 [.nref 0 j 0,.lst false S,.str k,.int .i64 v] [.arena A]=some (.bool b,[.arena A'])) (hlen:A.length<=A'.length) (hp:[AVal.lst false S,.str k,.int .i64 v].all ZaD=true) {σ:Za} {t sq:Nat} (hs:σ[t]?=some (.arena A)) :
  ZX E BY σ sq 30 0 true [.nref t j 0,.lst false S,.str k,.int .i64 v]=some (.bool b,σ.set t (.arena A'),{ any:=true }) :=
 Zo1 (q:=.bool b) (r:=.bool b) h (Zsn (Xw rfl) rfl) (by kernel_rfl) hp rfl hs hlen rfl rfl
theorem ZqM (ns:List TN) (hC:Closed ns) (hj:0 < ns.length) (n:Int) (hn:-1000000<=n/\n<=1000000) (f k:Tx) (v:Int) (hf:f.length<=1048576) (hl:(ZM f).length<=2000000) :
  E 9 [.ref 0 0,.str f,.str k,.int .i64 v] (trH ns n)=some (if Zbi f then (.int .i64 0,trH (Zap k v (ZM f) ns 0).1 (if (Zap k v (ZM f) ns 0).2 then n else n+1)) else (.int .i64 150,trH ns n)):=by
 have hq:=ZtV ns hC (ZM f) hl 0 hj k v
 have hlen:=Zjq k v (ZM f) ns 0
 have hfl:=fun σ sq own view=>ZCh σ sq own view f (by omega)
 cases hb:Zbi f with
 | false =>
  simp only [hb] at hfl
  simp only [Xi,if_false]
  have ho:=fun σ=>ZfB (r:=.int .i64 150) rfl ns n σ
  unfold trH at *
  generalize eNs ns=A at *
  rw [ZaY (by rfl) ZoS]
  simp -implicitDefEqProofs only [EQA,Zm,Zr,Zq,Zn,Zs,Zo,Zp,ZJ,ZN,ZO,ZL,ZI,ZP,ZK,ZH,ZQ,implies_true,forall_const,Xk,Xm,Xo,Xf,Xg,Xl,Xn,ZF,ZG,unA,Zx,Zz,unG,reduceCtorEq,Zl,decide_eq_true_eq,Xh,Xd,ite_self,↓reduceIte,Zw,ZE,gcT,gcA,Zh,Zf,Zc,Ze,Zt,Zb,Zi,Zd,Zu,Xj,Zmb,Ziz,Zls,Zj,ZA,ZD,ZB,ZC,ZV,hfl,ho,Z5,Z2,Z4,Z3,AVal.cells]
 | true =>
  simp only [hb] at hfl
  simp only [if_true]
  generalize (Zap k v (ZM f) ns 0).1=ns' at *
  generalize (Zap k v (ZM f) ns 0).2=b at *
  have hc:=fun {σ:Za} {sq:Nat} hs=>Zt8 (σ:=σ) (t:=1) (sq:=sq) hq (by rw [ZfK,ZfK];exact hlen) (by simp [ZaD,ZaQ]) hs
  have hlv:=fun σ sq own view=>Zip σ sq own view f (by omega)
  have w:IntKind.i64.wrap (n+1)=n+1:=ZcW (by omega) (by omega)
  have ho:=fun n σ=>ZfB (r:=.int .i64 0) rfl ns' n σ
  unfold trH at *
  generalize (ZM f).map AVal.str=S at *
  generalize eNs ns=A at *
  generalize eNs ns'=A' at *
  rw [ZaY (by rfl) ZoS]
  cases b with
  | true =>
   simp -implicitDefEqProofs only [EQA,Zm,Zr,Zq,Zn,Zs,Zo,Zp,ZJ,ZN,ZO,ZL,ZI,ZP,ZK,ZH,ZQ,implies_true,forall_const,Xk,Xm,Xo,Xf,Xg,Xl,Xn,ZF,ZG,unA,Zx,Zz,unG,reduceCtorEq,Zl,decide_eq_true_eq,Xh,Xd,ite_self,↓reduceIte,Zw,ZE,gcT,gcA,Zh,Zf,Zc,Ze,Zt,Zb,Zi,Zd,Zu,Xj,Zmb,Ziz,Zls,Zj,ZA,ZD,ZB,ZC,ZV,hfl,hc,hlv,w,ho,X5,WJ,Z5,Z2,Z4,Z3,AVal.cells,Za0,ZaX,Zbd,ZaG,XX,X6,Xr,Xy,Xv,XC,Za5,Za8,Za9,Za1,Za6,Xs,Xx,Zai,Zan,Zas,ZaF,ZaO,ZaM,ZaT,ZaU,Zax,ZaR,XN,XW,Xr,Xy,XB]
  | false =>
   simp -implicitDefEqProofs only [EQA,Zm,Zr,Zq,Zn,Zs,Zo,Zp,ZJ,ZN,ZO,ZL,ZI,ZP,ZK,ZH,ZQ,implies_true,forall_const,Xk,Xm,Xo,Xf,Xg,Xl,Xn,ZF,ZG,unA,Zx,Zz,unG,reduceCtorEq,Zl,decide_eq_true_eq,Xh,Xd,ite_self,↓reduceIte,Zw,ZE,gcT,gcA,Zh,Zf,Zc,Ze,Zt,Zb,Zi,Zd,Zu,Xj,Zmb,Ziz,Zls,Zj,ZA,ZD,ZB,ZC,ZV,hfl,hc,hlv,w,ho,X5,WJ,Z5,Z2,Z4,Z3,AVal.cells,Za0,ZaX,Zbd,ZaG,XX,X6,Xr,Xy,Xv,XC,Za5,Za8,Za9,Za1,Za6,Xs,Xx,Zai,Zan,Zas,ZaF,ZaO,ZaM,ZaT,ZaU,Zax,ZaR,XN,XW,Xr,Xy,XB]
def Zbf (ns:List TN) (ls:List Tx) (k:Tx):Option Int:=match goT ns 0 ls with
 | some i=>match ns[i]? with
  | some d=>ZS k d.1
  | none=>none
 | none=>none
theorem Zg4 {ns:List TN} (hC:Closed ns):∀ (ls:List Tx) (j i:Nat),j < ns.length->goT ns j ls=some i->i < ns.length
 | [],j,i,hj,h=>by simp only [goT,Xa] at h;omega
 | l::r,j,i,hj,h=>by
  obtain ⟨d,hd⟩:∃ d,ns[j]?=some d:=⟨_,Xu hj⟩
  simp only [goT,hd] at h
  cases hk:ZS l d.2 with
  | none=>rw [hk] at h;cases h
  | some i'=>rw [hk] at h;exact Zg4 hC r i' i (hC.next hd hk).2 h
end
section
def kyR (r:ZR):List UInt8×List UInt8:=(r.f,r.k)
def ltR (a b:ZR):Prop:=lt2 (kyR a) (kyR b)
theorem ZhA (a b:ZR):ZfG a b=true↔ltR a b:=by
 unfold ZfG ltR lt2 kyR
 simp
theorem ZsJ:∀ L:List ZR,Zcv Zds (L.map ZY)=some (L.map kyR)
 | []=>rfl
 | x::L=>by
  show (Zcv Zds (L.map ZY)).map ((x.f,x.k)::·)=_
  rw [ZsJ L];rfl
theorem Zlf {x y:List UInt8×List UInt8} (h:lt2 x y):leC Zbc x y=true:=by
 unfold leC
 have : ¬lt2 y x:=fun h'=>ZeR _ (Zfe h h')
 simp only [ZeE,this,decide_false,W3]
theorem Zjc {x y:List UInt8×List UInt8} (h:leC Zbc x y=true):¬lt2 y x:=by
 unfold leC at h
 simpa only [ZeE,Wg,decide_eq_false_iff_not] using h
theorem Zvu {L S:List ZR} (hp:S.Perm L) (hs:S.Pairwise ltR):Zd9 Zbc (L.map ZY) (L.map kyR)=S.map ZY/\(L.map kyR).Nodup:=by
 have hnd:(S.map kyR).Nodup:=by
  rw [List.Nodup,Xbw]
  exact hs.imp fun h e=>by unfold ltR at h;rw [e] at h;exact ZeR _ h
 have hndL:(L.map kyR).Nodup:=(hp.map kyR).nodup_iff.1 hnd
 refine ⟨?_,hndL⟩
 have hms:(L.map kyR).mergeSort (leC Zbc)=S.map kyR:=by
  have ht:∀ a b c,leC Zbc a b=true->leC Zbc b c=true->leC Zbc a c=true:=by
   intro a b c h1 h2
   have h1:=Zjc h1
   have h2:=Zjc h2
   by_cases e:lt2 a c
   ·exact Zlf e
   ·by_cases e2:lt2 c a
    ·exfalso
     by_cases e3:lt2 a b
     ·exact h2 (Zfe e2 e3)
     ·have:=Zep e3 h1;subst this;exact h2 e2
    ·have:=Zep e e2;subst this
     unfold leC;simp [ZeE,ZeR]
  have hto:∀ a b,(leC Zbc a b || leC Zbc b a)=true:=by
   intro a b
   by_cases e:lt2 a b
   ·simp [Zlf e]
   ·have : leC Zbc b a=true:=by unfold leC;simp [ZeE,e]
    simp [this]
  have h1:=List.pairwise_mergeSort ht hto (L.map kyR)
  have h2:(S.map kyR).Pairwise fun a b=>leC Zbc a b=true:=by
   rw [Xbw];exact hs.imp fun h=>Zlf h
  exact (((List.mergeSort_perm _ _).trans (hp.map kyR).symm)).eq_of_pairwise (fun a b _ _ h1 h2=>Zep (Zjc h2) (Zjc h1)) h1 h2
 unfold Zd9
 rw [ZeZ,hms,Wm]
 apply List.map_congr_left
 intro s hsS
 have hsL:=hp.mem_iff.1 hsS
 obtain ⟨i,hi⟩:=List.mem_iff_getElem?.1 hsL
 simp only [Function.comp]
 rw [ZhD (i:=i) (y:=ZY s) hndL (by rw [XY,hi];rfl) (by rw [XY,hi];rfl)]
 rfl
end
section
theorem ZCI {L S:List ZR} (hp:S.Perm L) (hs:S.Pairwise ltR):ZfQ (L.map ZY)=some (S.map ZY):=by
 obtain ⟨h1,h2⟩:=Zvu hp hs
 unfold ZfQ
 rw [ZsJ]
 simp only [h2,if_true,h1]
theorem ZxU {L S:List ZR} (hp:S.Perm L) (hs:S.Pairwise ltR) (hl:L.length < 4611686018427387904):E 49 [.sl 0 0 0 L.length,.fn 50 []] [.bag 0 3 (Xag _ (L.map ZY))]=some (.tup [],[.row 0 3 (S.map ZY)]):=by
 have h:=ZCI hp hs
 refine ZcL.2 ⟨1,?_⟩
 show Zgf 50 [.sl 0 0 0 L.length,.fn 50 []] [.bag 0 3 (Xag _ (L.map ZY))]=_
 have h2:Zp2 (Xag _ (L.map ZY))=some (S.map ZY):=h
 have h3:L.length=ZaB (Xag _ (L.map ZY)):=by show L.length=(L.map ZY).length;simp
 simp only [Zgf,h2]
 rw [if_pos ⟨h3,hl,trivial,trivial⟩]
theorem ZD5 {O:Z7} {bf:Nat->Bool} {σ:Za} {t sq f own k:Nat} {view:Bool} {args args':List AVal} {q:Bag} {xs':List AVal} {r:AVal} (hs:σ[t]?=some (.bag 0 k q)) (hb:bf f=true) (hff:Zbe σ sq own=true)
  (href:ZZ args=[t]) (hren:∀ ρ:Rho,ρ t 0=some (0,0)->ZW ρ args=args') (hr:∀ ρ:Rho,Zv ρ r=r)
  (h:Zba view 1 (O f args' [.bag 0 k q])=some (r,[.row 0 k xs'])):ZX O bf σ sq f own view args=some (r,σ.set t (.row 0 k xs'),{ any:=true }):=by
 have hd:σ.getD t .free=.bag 0 k q:=by simp [Xe,hs]
 have hf0:ZU σ []=σ:=rfl
 unfold ZX ZcZ
 rw [hb]
 simp only [if_true,hf0,href]
 have hreach:Zf σ 1000 [t] []=[t]:=by
  simp only [Zf,XB,Xi,if_false,hd,Zu,XE]
 rw [hreach]
 unfold Zb0
 have hall:([t].all fun t=>okB (σ.getD t .free))=true:=by simp [Xr,Xy,hs,okB]
 rw [if_pos hall]
 have hρ:Zc σ 0 [t] t 0=some (0,0):=by simp [Zc,Zt,hs,Zb,Zi]
 have hheap:Ze σ 0 [t] (Zc σ 0 [t]) [t] 0=[.bag 0 k q]:=by
  simp only [Ze,hd,Zi,Zb,Zd,Nat.not_lt_zero,false_and,if_false,Xf]
 rw [hren _ hρ,hheap]
 simp only [Xv,XC,XM]
 rw [h]
 have hk:ZaW σ [t] [.row 0 k xs'] 0=true:=by simp [ZaW,okB,hs,Zb6,Zb]
 have hren':∀ ρ,Zd ρ (ZbC σ [t] 0 (.row 0 k xs')) (.row 0 k xs')=.row 0 k xs':=by
  intro ρ
  simp [ZbC,hs,Zb,Zd]
 simp only [ZaV,Xa5,Xac,Xi,if_false,Xv,XC,XM,Nat.le_add_right,XQ,decide_true,hk,hff,Wy,if_true,ZaI,ZbP,Zaw,Xs,hr,hren']
 have htl:t < σ.length:=(Xc.1 hs).1
 have hg:(σ.set t (.row 0 k xs'))[t]?=some (.row 0 k xs'):=by simp [htl]
 simp only [XT,Wu,XU,hg]
theorem Ztn {L S:List ZR} (hp:S.Perm L) (hs:S.Pairwise ltR) (hl:L.length < 4611686018427387904) {σ:Za} {t sq:Nat} (hσ:σ[t]?=some (.bag 0 3 (Xag _ (L.map ZY)))):ZX E BY σ sq 49 0 true [.sl t 0 0 L.length,.fn 50 []]=some (.tup [],σ.set t (.row 0 3 (S.map ZY)),{ any:=true }):=by
 refine ZD5 (args':=[.sl 0 0 0 L.length,.fn 50 []]) hσ (by kernel_rfl) rfl rfl (fun ρ h=>by simp only [ZW,Zv,h]) (fun ρ=>rfl) ?_
 rw [ZxU hp hs hl]
 rfl
theorem ZES {L S:List ZR} (hp:S.Perm L) (hs:S.Pairwise ltR) (hl:L.length < 4611686018427387904):E 36 [.sl 0 0 0 L.length] [.bag 0 3 (Xag _ (L.map ZY))]=some (.sl 0 0 0 L.length,[.row 0 3 (S.map ZY)]):=by
 have h:=fun {σ:Za} {sq:Nat} hσ=>Ztn hp hs hl (σ:=σ) (t:=0) (sq:=sq) hσ
 generalize S.map ZY=X at *
 generalize (Xag _ (L.map ZY):Bag)=Y at *
 rw [ZaY (by rfl) Zxh]
 simp -implicitDefEqProofs only [EQA,Zm,Zr,Zq,Zn,Zs,Zo,Zp,ZJ,ZN,ZO,ZL,ZI,ZP,ZK,ZH,ZQ,implies_true,forall_const,Xk,Xm,Xo,Xf,Xg,Xl,Xn,ZF,ZG,unA,Zx,Zz,unG,reduceCtorEq,Zl,decide_eq_true_eq,Xh,Xd,ite_self,↓reduceIte,Zw,ZE,gcT,gcA,Zh,Zf,Zc,Ze,Zt,Zb,Zi,Zd,Zu,Xj,ZG8,Znx,ZAU,Zj,ZA,ZD,ZB,ZC,ZV,h]
 simp -implicitDefEqProofs only [EQA,Zbq,gcA,Zh,ZZ,XU,XE,Xj,XbD,List.flatMap_append,XT,Wu,Xs,Xx,id_eq,ZW,Zf,Zu,Zav,Ze,Zd,Zv,XB,Zc,Zt,Zb,Zi,Zm,Zr,Zq,Zn,Zs,Zo,Zp,ZJ,ZN,ZO,ZL,ZI,ZP,ZK,ZH,ZQ,implies_true,forall_const,Xk,Xm,Xo,Xf,Xg,Xl,Xn,ZF,ZG,unA,Zx,Zz,unG,reduceCtorEq,Zl,decide_eq_true_eq,Xh,Xd,ite_self,↓reduceIte,Zw,ZE,gcT,gcA,Zh,Zf,Zc,Ze,Zt,Zb,Zi,Zd,Zu,Xj,or_false]
theorem Zvb {O:Z7} {bf:Nat->Bool} {σ:Za} {t sq f own k lo n:Nat} {args args' xs':List AVal} {xs:Bag} (hs:σ[t]?=some (.bag 0 k xs)) (hb:bf f=true) (hff:Zbe σ sq own=true)
  (href:ZZ args=[t]) (hren:∀ ρ:Rho,ρ t 0=some (0,0)->ZW ρ args=args')
  (h:O f args' [.bag 0 k xs]=some (.sl 0 0 lo n,[.row 0 k xs'])):ZX O bf σ sq f own false args=some (.sl t 0 lo n,σ.set t (.row 0 k xs'),{ any:=true }):=by
 have hd:σ.getD t .free=.bag 0 k xs:=by simp [Xe,hs]
 have hf0:ZU σ []=σ:=rfl
 unfold ZX ZcZ
 rw [hb]
 simp only [if_true,hf0,href]
 have hreach:Zf σ 1000 [t] []=[t]:=by
  simp only [Zf,XB,Xi,if_false,hd,Zu,XE]
 rw [hreach]
 unfold Zb0
 have hall:([t].all fun t=>okB (σ.getD t .free))=true:=by simp [Xr,Xy,hs,okB]
 rw [if_pos hall]
 have hρ:Zc σ 0 [t] t 0=some (0,0):=by simp [Zc,Zt,hs,Zb,Zi]
 have hheap:Ze σ 0 [t] (Zc σ 0 [t]) [t] 0=[.bag 0 k xs]:=by
  simp only [Ze,hd,Zi,Zb,Zd,Nat.not_lt_zero,false_and,if_false,Xf]
 rw [hren _ hρ,hheap]
 simp only [Xv,XC,XM]
 rw [h]
 have hk:ZaW σ [t] [.row 0 k xs'] 0=true:=by simp [ZaW,okB,hs,Zb6,Zb]
 have hren':∀ ρ,Zd ρ (ZbC σ [t] 0 (.row 0 k xs')) (.row 0 k xs')=.row 0 k xs':=by
  intro ρ
  simp [ZbC,hs,Zb,Zd]
 have hr:Zv (Zbg σ [t] sq) (.sl 0 0 lo n)=.sl t 0 lo n:=by
  simp [Zv,Zbg,Zb,hs]
 simp only [Zba,Xi,if_false,ZaV,Xa5,Xac,Xv,XC,XM,Nat.le_add_right,XQ,decide_true,hk,hff,Wy,if_true,ZaI,ZbP,Zaw,Xs,hr,hren']
 have htl:t < σ.length:=(Xc.1 hs).1
 have hg:(σ.set t (.row 0 k xs'))[t]?=some (.row 0 k xs'):=by simp [htl]
 simp only [XT,Wu,XU,hg]
end
section
def Zfo:List (List UInt8)->List (List UInt8)->Bool
 | [],n=>n.isEmpty
 | x::f,n=>x == [35] || (match n with
  | []=>false
  | y::n=>(x == [43] || x == y) && Zfo f n)
def Zjg (x:List UInt8):Bool:=x == [43] || x == [35]
def Zgi (f s:List UInt8):Bool:=Zbi f && Zcy s && !((s.headD 0 == 36) && Zjg ((ZM f).headD [])) && Zfo (ZM f) (ZM s)
theorem Zp6 {s:List UInt8} (h:Zcy s=true):∃ b t,s=b::t:=by
 cases s with
 | nil=>simp [Zcy,Zdx] at h
 | cons b t=>exact ⟨b,t,rfl⟩
theorem Zoe {s:List UInt8} (h:Zcy s=true):s.length<=64:=by
 simp only [Zcy,Xp] at h;exact ZsF h.1
end
section
theorem Zwg (σ:Za) (sq:Nat):ZX E BY σ sq 36 0 false [.lst true []]=some (.lst true [],σ,{}):=by
 have h:E 36 [.lst true []] []=some (.lst true [],[]):=ZcL.2 ⟨3,by kernel_rfl⟩
 unfold ZX ZcZ
 rw [show BY 36=true by kernel_rfl]
 simp only [if_true,show ZZ [AVal.lst true []]=[] from rfl,show ZU σ []=σ from rfl]
 rw [show Zf σ 1000 [] []=[] from rfl]
 unfold Zb0
 rw [if_pos (by rfl),show ZW (Zc σ 0 []) [AVal.lst true []]=[.lst true []] from rfl,show Ze σ 0 [] (Zc σ 0 []) [] 0=[] from rfl,h]
 rfl
abbrev ZeO (a u:Nat) (p:Tx) (S:List AVal) (b:Bool):List AVal:=[.nref a 0 0,.str p,.lst false S,.bool b,.fn 35 [.ref u 0]]
section
variable {A:Zad} {a u sq:Nat} {p:Tx} {S:List AVal} {b:Bool} {σ:Za} (hau:a≠u) (h0:σ[a]?=some (.arena A)) (h1:σ[u]?=some (.var [.lst true []])) (hff:Zbe σ sq 1=true)
include hau h0 h1
theorem ZpE:Zf σ 1000 (ZZ (ZeO a u p S b)) []=[a,u]/\ZW (Zc σ 0 [a,u]) (ZeO a u p S b)=ZeO 0 1 p S b/\Ze σ 0 [a,u] (Zc σ 0 [a,u]) [a,u] 0=hM (.arena A) none 0/\([a,u].all fun t=>okB (σ.getD t .free))=true:=by
 have g0:σ.getD a .free=.arena A:=by simp [Xe,h0]
 have g1:σ.getD u .free=.var [.lst true []]:=by simp [Xe,h1]
 have href:ZZ (ZeO a u p S b)=[a,u]:=rfl
 have hρ:Zc σ 0 [a,u] a 1001=some (0,1001):=ZfT (j:=0) h0 (by simp [Zt]) (by omega)
 have hρ1:Zc σ 0 [a,u] u 0=some (1,0):=by simp [Zc,Zt,h1,Zb,Zi,hau]
 refine ⟨?_,?_,?_,?_⟩
 ·rw [href]
  have c2:([a]:List Nat).contains u=false:=by simp;exact fun e=>hau e.symm
  simp only [Zf,XB,Xi,if_false,g0,g1,c2,Zu,ZZ,Zav,XE,XU,Xan,XP]
 ·simp only [ZeO,ZW,Zv,hρ,hρ1,if_true,Nat.mul_zero,Nat.add_zero]
 ·simp only [Ze,g0,g1,Zd,ZW,Zv];rfl
 ·simp only [Xr,Xy,g0,g1,okB,Wy]
include hff
theorem ZzL (hE:E 34 (ZeO 0 1 p S b) (hM (.arena A) none 0)=some (.tup [],hM (.arena A) none 0)) :
  ZX E BY σ sq 34 1 false (ZeO a u p S b)=some (.tup [],σ,{ any:=true,upd:=[(u,[.lst true []])] }):=by
 obtain ⟨hre,hvs,hh,hall⟩:=ZpE (p:=p) (S:=S) (b:=b) hau h0 h1
 have hk:ZaW σ [a,u] (hM (.arena A) none 0) 0=true:=by simp [hM,ZaW,okB,Zb6,Zb,h0,h1]
 refine Zfg (r:=.tup []) (r':=.tup []) (view:=false) (by kernel_rfl) rfl hre rfl hall hvs hh hE rfl (by simp [hM]) (by simp [hM]) hk hff rfl (σ':=σ) ?_ (by simp [ZbP,h0,h1])
 simp only [hM,ZaI,Zaw,Xs,Xx,Zd,ZW,Zv]
 rw [Zgp h0,Zgp h1]
theorem ZDy {q:Bag} (hE:E 34 (ZeO 0 1 p S b) (hM (.arena A) none 0)=some (.tup [],hM (.arena A) (some q) 0)) :
  ZX E BY σ sq 34 1 false (ZeO a u p S b)=some (.tup [],(σ.set u (.var [.sl sq 0 0 (ZaB q)])).set sq (.bag 0 3 q),{ any:=true,upd:=[(u,[.sl sq 0 0 (ZaB q)])] }):=by
 obtain ⟨hre,hvs,hh,hall⟩:=ZpE (p:=p) (S:=S) (b:=b) hau h0 h1
 have hlu:u < σ.length:=(Xc.1 h1).1
 have hst:σ[sq]?=some .free:=by
  have:=ZfV (i:=0) hff (by omega)
  simpa using this
 have hsl:sq < σ.length:=(Xc.1 hst).1
 have nu:sq≠u:=by rintro rfl;rw [h1] at hst;cases hst
 have na:sq≠a:=by rintro rfl;rw [h0] at hst;cases hst
 have hk:ZaW σ [a,u] (hM (.arena A) (some q) 0) 0=true:=by simp [hM,ZaW,okB,Zb6,Zb,h0,h1]
 have hlay:ZaI σ [a,u] sq (hM (.arena A) (some q) 0) 0 σ=(σ.set u (.var [.sl sq 0 0 (ZaB q)])).set sq (.bag 0 3 q):=by
  simp only [hM,ZaI,Zaw,Xs,Xx,Zd,ZW]
  rw [Zgp h0]
  simp [ZbC,Zbg,Zv,Zb,Xe]
 have h3:((σ.set u (.var [.sl sq 0 0 (ZaB q)])).set sq (.bag 0 3 q))[u]?=some (.var [.sl sq 0 0 (ZaB q)]):=by
  rw [XF nu,XV hlu]
 have h4:((σ.set u (.var [.sl sq 0 0 (ZaB q)])).set sq (.bag 0 3 q))[a]?=some (.arena A):=by
  rw [XF na,XF (fun e=>hau e.symm)];exact h0
 exact Zfg (r:=.tup []) (r':=.tup []) (view:=false) (by kernel_rfl) rfl hre rfl hall hvs hh hE rfl (by simp [hM]) (by simp [hM]) hk hff rfl hlay (by simp [ZbP,h3,h4])
end
theorem Zo0 (s:Tx):Zee (ZM s)<=3*s.length+2:=by
 have h1:=Zjd s
 have h2:=XaP (a:=(47:UInt8)) (l:=s)
 have h3:∀ l:Tx,Zee (ZM l)+47<=3*l.length+49:=by
  intro l
  induction l with
  | nil=>simp [ZM,Zee]
  | cons b r ih =>
   simp only [ZM]
   split
   ·simp only [Zee,XI,XbK,XC,Xv] at ih ⊢;omega
   ·split
    ·rename_i h t e
     rw [e] at ih
     simp only [Zee,XI,XbK,Xv] at ih ⊢;omega
    ·simp [Zee];omega
 have:=h3 s
 omega
theorem ZEU {σ:Za} {r k:Nat} {Y:List AVal} (ns:List TN) (n:Int) (h0:σ[0]?=some (.var [.nref 1 0 0,.int .i64 n])) (h1:σ[1]?=some (.arena (eNs ns))) (h2:σ[r]?=some (.row 0 3 Y)) (hr:2<=r):Zbq 2 σ (.sl r 0 0 k)=some (.sl 2 0 0 k,trH ns n++[.row 0 3 Y]):=by
 have hR:Wt 2=[0,1]:=rfl
 have g0:σ.getD 0 .free=.var [.nref 1 0 0,.int .i64 n]:=by simp [Xe,h0]
 have g1:σ.getD 1 .free=.arena (eNs ns):=by simp [Xe,h1]
 have g2:σ.getD r .free=.row 0 3 Y:=by simp [Xe,h2]
 have n0:¬0=r:=by omega
 have n1:¬1=r:=by omega
 have m0:¬r=0:=by omega
 have m1:¬r=1:=by omega
 have nr:¬r < 2:=by omega
 have c2:([0,1]:List Nat).contains r=false:=by simp [m0,m1]
 have hi:Zh 2 [.sl r 0 0 k] σ=[0,1,r]:=by
  simp only [Zh,ZZ,Zav,hR,XT,Wu,XU,XE,g0,g1,Zu]
  have c3:([0,1,r]:List Nat).contains 1=true:=by simp
  simp only [Zf,c2,c3,Xi,if_false,if_true,g2,Zu,XE,XP]
 have hρ:Zc σ 2 [0,1,r] r 0=some (2,0):=by simp [Zc,Zt,h2,Zb,Zi,n0,n1]
 have hρ1:Zc σ 2 [0,1,r] 1 (1001+3*0)=some (1,1001+3*0):=ZfT (j:=0) h1 (by rfl) (by omega)
 simp only [Zbq,gcA,hi,ZW,Zv,Ze,g0,g1,g2,Zd,hρ,hρ1,trH,if_true]
 simp [Zi,Zb]
theorem ZCE (ns:List TN) (n:Int) (name:Tx) (hn:Zcy name=false):E 11 [.ref 0 0,.str name] (trH ns n)=some (.lst true [],trH ns n):=by
 have ho:=fun σ=>ZfB (r:=.lst true []) rfl ns n σ
 have q1:=fun σ sq own view=>Zlp σ sq own view name
 rw [hn] at q1
 unfold trH at *
 generalize eNs ns=A at *
 rw [ZaY (by rfl) ZnK]
 simp -implicitDefEqProofs only [EQA,Zm,Zr,Zq,Zn,Zs,Zo,Zp,ZJ,ZN,ZO,ZL,ZI,ZP,ZK,ZH,ZQ,implies_true,forall_const,Xk,Xm,Xo,Xf,Xg,Xl,Xn,ZF,ZG,unA,Zx,Zz,unG,reduceCtorEq,Zl,decide_eq_true_eq,Xh,Xd,ite_self,↓reduceIte,Zw,ZE,gcT,gcA,Zh,Zf,Zc,Ze,Zt,Zb,Zi,Zd,Zu,Xj,Znj,Zh8,Zmj,Zj,ZA,ZD,ZB,ZC,ZV,q1,ho,Z5,Z2,Z4,Z3,AVal.cells]
theorem Zvl (ns:List TN) (hC:Closed ns) (hj:0 < ns.length) (n:Int) (name:Tx) (hn:Zcy name=true) (hR:ZbE ns (ZM name) (name.headD 0 == 36) [0] 0=[]):E 11 [.ref 0 0,.str name] (trH ns n)=some (.lst true [],trH ns n):=by
 have hl:=Zoe hn
 have hq:=Zsm ns hC (ZM name) (name.headD 0 == 36) [0] 0 hj (by have:=Zo0 name;simp only [WD];omega) none (by rw [hR];simp [Zcp])
 rw [hR] at hq
 have hc:=fun {σ:Za} {sq:Nat} h0 h1 hff=>ZzL (A:=eNs ns) (a:=1) (u:=2) (sq:=sq) (p:=[0]) (S:=(ZM name).map AVal.str) (b:=name.headD 0 == 36) (σ:=σ) (by decide) h0 h1 hff hq
 have ho:=fun σ=>ZfB (r:=.lst true []) rfl ns n σ
 have q1:=fun σ sq own view=>Zlp σ sq own view name
 have q2:=fun σ sq own view=>Zip σ sq own view name (by omega)
 have q3:=Zwg
 rw [hn] at q1
 obtain ⟨b,t,rfl⟩:=Zp6 hn
 have hdol:((b.toNat:Int) == 36)=(b == 36):=by
  rw [Xau]
  simp only [beq_iff_eq,<-Xa2]
  have : (36:UInt8).toNat=36:=rfl
  omega
 simp only [XaM] at hc
 unfold trH at *
 generalize ZM (b::t)=S at *
 generalize S.map AVal.str=S' at *
 generalize eNs ns=A at *
 rw [ZaY (by rfl) ZnK]
 simp -implicitDefEqProofs only [EQA,Zm,Zr,Zq,Zn,Zs,Zo,Zp,ZJ,ZN,ZO,ZL,ZI,ZP,ZK,ZH,ZQ,implies_true,forall_const,Xk,Xm,Xo,Xf,Xg,Xl,Xn,ZF,ZG,unA,Zx,Zz,unG,reduceCtorEq,Zl,decide_eq_true_eq,Xh,Xd,ite_self,↓reduceIte,Zw,ZE,gcT,gcA,Zh,Zf,Zc,Ze,Zt,Zb,Zi,Zd,Zu,Xj,Znj,Zh8,Zmj,Zj,ZA,ZD,ZB,ZC,ZV,q1,q2,q3,hc,hdol,ho,Zby,XbH,Xay,Zbe,X5,WJ,Z5,Z2,Z4,Z3,AVal.cells,Za0,ZaX,Zbd,ZaG,XX,X6,Xr,Xy,Xv,XC,Za5,Za8,Za9,Za1,Za6,Xs,Xx,Zai,Zan,Zas,ZaF,ZaO,ZaM,ZaT,ZaU,Zax,ZaR,XN,XW,Xr,Xy,XB]
theorem Ztj (ns:List TN) (hC:Closed ns) (hj:0 < ns.length) (n:Int) (name:Tx) (hn:Zcy name=true) (x:ZR) (d:List ZR) (hR:ZbE ns (ZM name) (name.headD 0 == 36) [0] 0=(x::d).map ZY) (hlen:(x::d).length<=1000000) {S:List ZR} (hp:S.Perm (x::d)) (hs:S.Pairwise ltR) :
  E 11 [.ref 0 0,.str name] (trH ns n)=some (.sl 2 0 0 (x::d).length,trH ns n++[.row 0 3 (S.map ZY)]):=by
 have hl:=Zoe hn
 have hq:=Zsm ns hC (ZM name) (name.headD 0 == 36) [0] 0 hj (by have:=Zo0 name;simp only [WD];omega) none (by rw [hR];simp only [Zcp,WC];omega)
 rw [hR] at hq
 have hq:E 34 (ZeO 0 1 [0] ((ZM name).map AVal.str) (name.headD 0 == 36)) (hM (.arena (eNs ns)) none 0)=some (.tup [],hM (.arena (eNs ns)) (some (Xag _ ((x::d).map ZY))) 0):=hq
 have hc:=fun {σ:Za} {sq:Nat} h0 h1 hff=>ZDy (A:=eNs ns) (a:=1) (u:=2) (sq:=sq) (p:=[0]) (S:=(ZM name).map AVal.str) (b:=name.headD 0 == 36) (σ:=σ) (by decide) h0 h1 hff hq
 rw [show ZaB (Xag _ ((x::d).map ZY))=(x::d).length from by show ((x::d).map ZY).length=_;simp] at hc
 have hso:=ZES hp hs (by omega)
 have q3:=fun {σ:Za} {t sq:Nat} hσ=>Zvb (O:=E) (bf:=BY) (σ:=σ) (t:=t) (sq:=sq) (own:=0) (args:=[.sl t 0 0 (x::d).length]) hσ (by kernel_rfl) rfl rfl (fun ρ h=>by simp only [ZW,Zv,h]) hso
 have ho:=fun {σ:Za} {r k:Nat} h0 h1 h2 hr=>ZEU (σ:=σ) (r:=r) (k:=k) (Y:=S.map ZY) ns n h0 h1 h2 hr
 have q1:=fun σ sq own view=>Zlp σ sq own view name
 have q2:=fun σ sq own view=>Zip σ sq own view name (by omega)
 rw [hn] at q1
 obtain ⟨b,t,rfl⟩:=Zp6 hn
 have hdol:((b.toNat:Int) == 36)=(b == 36):=by
  rw [Xau]
  simp only [beq_iff_eq,<-Xa2]
  have : (36:UInt8).toNat=36:=rfl
  omega
 simp only [XaM] at hc
 unfold trH at *
 generalize ZM (b::t)=T at *
 generalize T.map AVal.str=T' at *
 generalize eNs ns=A at *
 generalize (x::d).length=k at *
 generalize (Xag _ ((x::d).map ZY):Bag)=Q at *
 generalize S.map ZY=Y at *
 rw [ZaY (by rfl) ZnK]
 simp -implicitDefEqProofs only [EQA,Zm,Zr,Zq,Zn,Zs,Zo,Zp,ZJ,ZN,ZO,ZL,ZI,ZP,ZK,ZH,ZQ,implies_true,forall_const,Xk,Xm,Xo,Xf,Xg,Xl,Xn,ZF,ZG,unA,Zx,Zz,unG,reduceCtorEq,Zl,decide_eq_true_eq,Xh,Xd,ite_self,↓reduceIte,Zw,ZE,gcT,gcA,Zh,Zf,Zc,Ze,Zt,Zb,Zi,Zd,Zu,Xj,Znj,Zh8,Zmj,Zj,ZA,ZD,ZB,ZC,ZV,q1,q2,q3,hc,hdol,ho,Zby,XbH,Xay,Zbe,X5,WJ,Z5,Z2,Z4,Z3,AVal.cells,Za0,ZaX,Zbd,ZaG,XX,X6,Xr,Xy,Xv,XC,Za5,Za8,Za9,Za1,Za6,Xs,Xx,Zai,Zan,Zas,ZaF,ZaO,ZaM,ZaT,ZaU,Zax,ZaR,XN,XW,Xr,Xy,XB]
end
section
def ksK {α:Type} (M:List (Tx×α)):List Tx:=M.map (·.1)
theorem Zli {α:Type} (n:Tx) (v:α):∀ M:List (Tx×α),(ksK M).Nodup->(ksK (Zbl n v M)).Nodup
 | [],_=>by simp [Zbl,ksK]
 | p::M,h=>by
  obtain ⟨h1,h2⟩:=Wb.1 h
  simp only [Zbl]
  split
  ·rename_i e
   refine Wb.2 ⟨?_,h2⟩
   rw [e];exact h1
  ·rename_i e
   refine Wb.2 ⟨?_,Zli n v M h2⟩
   intro hm
   obtain ⟨q,hq,hqe⟩:=XJ.1 hm
   rcases ZmJ hq with rfl | hq
   ·exact e hqe
   ·exact h1 (XJ.2 ⟨q,hq,hqe⟩)
theorem ZkP {α:Type} (n:Tx):∀ M:List (Tx×α),(ksK M).Nodup->(ksK (ZaZ n M)).Nodup
 | [],_=>by simp [ZaZ,ksK]
 | p::M,h=>by
  obtain ⟨h1,h2⟩:=Wb.1 h
  simp only [ZaZ]
  split
  ·exact h2
  ·refine Wb.2 ⟨?_,ZkP n M h2⟩
   intro hm
   obtain ⟨q,hq,hqe⟩:=XJ.1 hm
   exact h1 (XJ.2 ⟨q,ZmS hq,hqe⟩)
theorem ZpQ {α:Type} {n:Tx}:∀ {M:List (Tx×α)},n ∉ ksK M->ZS n M=none
 | [],_=>rfl
 | p::M,h=>by
  simp only [ksK,XI,XH,not_or] at h
  simp only [ZS,if_neg h.1]
  exact ZpQ h.2
theorem Zme {α:Type} (n m:Tx):∀ M:List (Tx×α),(ksK M).Nodup->ZS m (ZaZ n M)=if m=n then none else ZS m M
 | [],_=>by simp [ZaZ,ZS]
 | p::M,h=>by
  obtain ⟨h1,h2⟩:=Wb.1 h
  simp only [ZaZ]
  split
  ·rename_i e
   by_cases hm:m=n
   ·rw [if_pos hm,hm,e];exact ZpQ h1
   ·rw [if_neg hm]
    simp only [ZS]
    rw [if_neg (fun e2=>hm (e2.trans e.symm))]
  ·rename_i e
   simp only [ZS]
   rw [Zme n m M h2]
   by_cases hm:m=p.1
   ·rw [if_pos hm,if_pos hm,if_neg (fun e2=>e (e2.symm.trans hm))]
   ·rw [if_neg hm,if_neg hm]
theorem Zl4 {α:Type} {n:Tx} {v:α}:∀ {M:List (Tx×α)},(ksK M).Nodup->((n,v) ∈ M↔ZS n M=some v)
 | [],_=>by simp [ZS]
 | p::M,h=>by
  obtain ⟨h1,h2⟩:=Wb.1 h
  simp only [ZS,XH]
  by_cases e:n=p.1
  ·rw [if_pos e]
   constructor
   ·rintro (rfl | hm)
    ·rfl
    ·exact absurd (XJ.2 ⟨_,hm,e⟩) h1
   ·rintro hv
    left
    injection hv with hv
    rw [e,<-hv]
  ·rw [if_neg e]
   constructor
   ·rintro (rfl | hm)
    ·exact absurd rfl e
    ·exact (Zl4 h2).1 hm
   ·intro hv
    exact XD ((Zl4 h2).2 hv)
theorem ZdX (ns:List TN) (x:Tx):∀ (q:List Tx) (j:Nat),goT ns j (q++[x])=(goT ns j q).bind fun i=>(ns[i]?).bind fun d=>ZS x d.2
 | [],j=>by
  simp only [XE,goT,XR]
  cases ns[j]? with
  | none=>rfl
  | some d=>simp only [XR];cases ZS x d.2 <;> rfl
 | l::q,j=>by
  simp only [XP,goT]
  cases ns[j]? with
  | none=>rfl
  | some d =>
   cases h:ZS l d.2 with
   | none=>simp [h]
   | some i=>simp only [h];exact ZdX ns x q i
theorem ZoG {P:List Tx->Prop} (h0:P []) (h1:∀ q x,P q->P (q++[x])) (q:List Tx):P q:=by
 have : ∀ r:List Tx,P r.reverse:=by
  intro r
  induction r with
  | nil=>exact h0
  | cons x r ih=>rw [List.reverse_cons];exact h1 _ _ ih
 have h:=this q.reverse
 rwa [List.reverse_reverse] at h
theorem Zq4 (ns:List TN):∀ (p q:List Tx) (j:Nat),goT ns j (p++q)=(goT ns j p).bind fun i=>goT ns i q
 | [],q,j=>rfl
 | l::p,q,j=>by
  simp only [XP,goT]
  cases ns[j]? with
  | none=>rfl
  | some d =>
   cases h:ZS l d.2 with
   | none=>simp [h]
   | some i=>simp only [h];exact Zq4 ns p q i
structure WF (ns:List TN):Prop where
 cl:Closed ns
 pos:0 < ns.length
 kv:∀ (j:Nat) (d:TN),ns[j]?=some d->(ksK d.1).Nodup
 kx:∀ (j:Nat) (d:TN),ns[j]?=some d->(ksK d.2).Nodup
 inj:∀ (q q':List Tx) (i:Nat),goT ns 0 q=some i->goT ns 0 q'=some i->q=q'
theorem WF.nil:WF [([],[])]:=by
 refine ⟨?_,by simp,?_,?_,?_⟩
 ·intro j d h p hp
  cases j with
  | zero=>simp at h;subst h;simp at hp
  | succ j=>simp at h
 ·intro j d h
  cases j with
  | zero=>simp at h;subst h;simp [ksK]
  | succ j=>simp at h
 ·intro j d h
  cases j with
  | zero=>simp at h;subst h;simp [ksK]
  | succ j=>simp at h
 ·have : ∀ q i,goT [(([]:List (Tx×Int)),([]:List (Tx×Nat)))] 0 q=some i->q=[]:=by
   intro q i h
   cases q with
   | nil=>rfl
   | cons l q=>simp [goT,ZS] at h
  intro q q' i h h'
  rw [this q i h,this q' i h']
theorem WF.at {ns:List TN} (h:WF ns) {q:List Tx} {i:Nat} (hi:goT ns 0 q=some i):∃ d,ns[i]?=some d :=
 ⟨_,Xu (Zg4 h.cl q 0 i h.pos hi)⟩
theorem Znw {ns:List TN} (h:WF ns) {pre:List Tx} {j:Nat} {d:TN} {l:Tx} (hp:goT ns 0 pre=some j) (hd:ns[j]?=some d) (hl:ZS l d.2=none) (q:List Tx) :
  goT (newN ns j d l) 0 q=if q=pre++[l] then some ns.length else goT ns 0 q:=by
 have hj:j < ns.length:=(Xc.1 hd).1
 induction q using ZoG with
 | h0=>rw [if_neg (by simp)];rfl
 | h1 q x ih =>
  rw [ZdX,ih,ZdX]
  by_cases e:q=pre++[l]
  ·subst e
   have hg:goT ns 0 (pre++[l])=none:=by rw [ZdX,hp];simp [hd,hl]
   rw [if_pos rfl,hg,if_neg (by simp)]
   simp [Zhx,ZS]
  ·rw [if_neg e]
   cases hq:goT ns 0 q with
   | none =>
    rw [if_neg]
    ·rfl
    ·intro e2
     have:=(Xbf e2 rfl).1
     rw [this,hp] at hq;cases hq
   | some i =>
    have hi:=Zg4 h.cl q 0 i h.pos hq
    simp only [XR]
    by_cases e3:i=j
    ·subst e3
     have:=h.inj q pre i hq hp
     subst this
     rw [Zgv hj,hd]
     simp only [XR,ZjR,List.append_cancel_left_eq,W7,and_true]
    ·rw [ZhZ d l hi e3,if_neg]
     intro e2
     have:=(Xbf e2 rfl).1
     rw [this,hp] at hq;injection hq with hq;exact e3 hq.symm
theorem WF.newNode {ns:List TN} (h:WF ns) {pre:List Tx} {j:Nat} {d:TN} {l:Tx} (hp:goT ns 0 pre=some j) (hd:ns[j]?=some d) (hl:ZS l d.2=none):WF (newN ns j d l):=by
 have hj:j < ns.length:=(Xc.1 hd).1
 have hat:∀ (i:Nat) (e:TN),(newN ns j d l)[i]?=some e->(i=j/\e=(d.1,Zbl l ns.length d.2))\/(i=ns.length/\e=([],[]))\/ns[i]?=some e:=by
  intro i e he
  by_cases h1:i=j
  ·subst h1;rw [Zgv hj] at he;injection he with he;exact Xw ⟨rfl,he.symm⟩
  ·by_cases h2:i < ns.length
   ·rw [ZhZ d l h2 h1] at he;exact XD (XD he)
   ·have hlt:=(Xc.1 he).1
    rw [ZfP] at hlt
    have : i=ns.length:=by omega
    subst this
    rw [Zhx] at he;injection he with he
    exact XD (Xw ⟨rfl,he.symm⟩)
 refine ⟨h.cl.newN hd l,by rw [ZfP];omega,?_,?_,?_⟩
 ·intro i e he
  rcases hat i e he with ⟨_,rfl⟩ | ⟨_,rfl⟩ | he
  ·exact h.kv j d hd
  ·simp [ksK]
  ·exact h.kv i e he
 ·intro i e he
  rcases hat i e he with ⟨_,rfl⟩ | ⟨_,rfl⟩ | he
  ·exact Zli l _ _ (h.kx j d hd)
  ·simp [ksK]
  ·exact h.kx i e he
 ·intro q q' i hq hq'
  rw [Znw h hp hd hl] at hq hq'
  split at hq
  ·rename_i e1
   split at hq'
   ·rename_i e2;rw [e1,e2]
   ·injection hq with hq;subst hq
    have:=Zg4 h.cl q' 0 _ h.pos hq'
    omega
  ·split at hq'
   ·injection hq' with hq';subst hq'
    have:=Zg4 h.cl q 0 _ h.pos hq
    omega
   ·exact h.inj q q' i hq hq'
theorem Zxc {ns:List TN} (h:WF ns) {pre:List Tx} {j:Nat} {d:TN} {l:Tx} (hp:goT ns 0 pre=some j) (hd:ns[j]?=some d) (hl:ZS l d.2=none) (q:List Tx) (k:Tx) :
  Zbf (newN ns j d l) q k=Zbf ns q k:=by
 have hj:j < ns.length:=(Xc.1 hd).1
 unfold Zbf
 rw [Znw h hp hd hl]
 by_cases e:q=pre++[l]
 ·subst e
  have hg:goT ns 0 (pre++[l])=none:=by rw [ZdX,hp];simp [hd,hl]
  rw [if_pos rfl,hg]
  simp [Zhx,ZS]
 ·rw [if_neg e]
  cases hq:goT ns 0 q with
  | none=>rfl
  | some i =>
   have hi:=Zg4 h.cl q 0 i h.pos hq
   simp only
   by_cases e3:i=j
   ·subst e3;rw [Zgv hj,hd]
   ·rw [ZhZ d l hi e3]
theorem Zih {ns:List TN} {j:Nat} {d:TN} (hd:ns[j]?=some d) (M:List (Tx×Int)):∀ (q:List Tx) (i:Nat),goT (ns.set j (M,d.2)) i q=goT ns i q
 | [],i=>rfl
 | l::q,i=>by
  have hj:j < ns.length:=(Xc.1 hd).1
  simp only [goT]
  by_cases e:i=j
  ·subst e
   rw [XV hj,hd]
   simp only
   cases ZS l d.2 with
   | none=>rfl
   | some i=>exact Zih hd M q i
  ·rw [XF (fun e2=>e e2.symm)]
   cases ns[i]? with
   | none=>rfl
   | some d' =>
    simp only
    cases ZS l d'.2 with
    | none=>rfl
    | some i=>exact Zih hd M q i
theorem WF.vals {ns:List TN} (h:WF ns) {j:Nat} {d:TN} (hd:ns[j]?=some d) {M:List (Tx×Int)} (hM:(ksK M).Nodup):WF (ns.set j (M,d.2)):=by
 have hj:j < ns.length:=(Xc.1 hd).1
 refine ⟨h.cl.vals hd M,by simpa using h.pos,?_,?_,?_⟩
 ·intro i e he
  by_cases e1:i=j
  ·subst e1;rw [XV hj] at he;injection he with he;subst he;exact hM
  ·rw [XF (fun e2=>e1 e2.symm)] at he;exact h.kv i e he
 ·intro i e he
  by_cases e1:i=j
  ·subst e1;rw [XV hj] at he;injection he with he;subst he;exact h.kx i d hd
  ·rw [XF (fun e2=>e1 e2.symm)] at he;exact h.kx i e he
 ·intro q q' i hq hq'
  rw [Zih hd] at hq hq'
  exact h.inj q q' i hq hq'
theorem Zqy {ns:List TN} (h:WF ns) {pre:List Tx} {j:Nat} {d:TN} (hp:goT ns 0 pre=some j) (hd:ns[j]?=some d) (M:List (Tx×Int)) (q:List Tx) (k:Tx) :
  Zbf (ns.set j (M,d.2)) q k=if q=pre then ZS k M else Zbf ns q k:=by
 have hj:j < ns.length:=(Xc.1 hd).1
 unfold Zbf
 rw [Zih hd]
 by_cases e:q=pre
 ·subst e
  rw [if_pos rfl,hp]
  simp [XV hj]
 ·rw [if_neg e]
  cases hq:goT ns 0 q with
  | none=>rfl
  | some i =>
   have : i≠j:=by rintro rfl;exact e (h.inj q pre i hq hp)
   simp only
   rw [XF (fun e2=>this e2.symm)]
theorem ZlX (k:Tx) (v:Int):∀ (r:List Tx) (ns:List TN) (j:Nat) (pre:List Tx),WF ns->goT ns 0 pre=some j ->
  WF (Zap k v r ns j).1/\(Zap k v r ns j).2=(Zbf ns (pre++r) k).isSome/\∀ q k',Zbf (Zap k v r ns j).1 q k'=if q=pre++r/\k'=k then some v else Zbf ns q k'
 | [],ns,j,pre,h,hp=>by
  obtain ⟨d,hd⟩:=h.at hp
  have e:Zap k v [] ns j=(ns.set j (Zbl k v d.1,d.2),(ZS k d.1).isSome):=by simp only [Zap,hd]
  have hg:Zbf ns pre k=ZS k d.1:=by simp only [Zbf,hp,hd]
  rw [e,XU,hg]
  refine ⟨h.vals hd (Zli k v _ (h.kv j d hd)),rfl,fun q k'=>?_⟩
  rw [Zqy h hp hd]
  by_cases e1:q=pre
  ·subst e1
   rw [if_pos rfl,ZjR]
   simp only [true_and]
   split
   ·rfl
   ·simp only [Zbf,hp,hd]
  ·rw [if_neg e1,if_neg (fun e2=>e1 e2.1)]
 | l::r,ns,j,pre,h,hp=>by
  obtain ⟨d,hd⟩:=h.at hp
  cases hk:ZS l d.2 with
  | some i =>
   have e:Zap k v (l::r) ns j=Zap k v r ns i:=by simp only [Zap,hd,hk]
   have hi:goT ns 0 (pre++[l])=some i:=by rw [ZdX,hp];simp [hd,hk]
   have:=ZlX k v r ns i (pre++[l]) h hi
   rw [e]
   simpa using this
  | none =>
   have e:Zap k v (l::r) ns j=Zap k v r (newN ns j d l) ns.length:=by simp only [Zap,hd,hk,newN]
   have hi:goT (newN ns j d l) 0 (pre++[l])=some ns.length:=by rw [Znw h hp hd hk,if_pos rfl]
   have:=ZlX k v r (newN ns j d l) ns.length (pre++[l]) (h.newNode hp hd hk) hi
   rw [e]
   simp only [Zxc h hp hd hk] at this
   simpa using this
theorem ZkK {ns:List TN} (h:WF ns) {pre:List Tx} {j i:Nat} {d di:TN} {l:Tx} (hp:goT ns 0 pre=some j) (hd:ns[j]?=some d) (hl:ZS l d.2=some i) (hdi:ns[i]?=some di) (he:di.2=[]) (q:List Tx) :
  goT (ns.set j (d.1,ZaZ l d.2)) 0 q=if q=pre++[l] then none else goT ns 0 q:=by
 have hj:j < ns.length:=(Xc.1 hd).1
 have hi:goT ns 0 (pre++[l])=some i:=by rw [ZdX,hp];simp [hd,hl]
 induction q using ZoG with
 | h0=>rw [if_neg (by simp)];rfl
 | h1 q x ih =>
  rw [ZdX,ih,ZdX]
  by_cases e:q=pre++[l]
  ·subst e
   rw [if_pos rfl,hi,if_neg (by simp)]
   simp [hdi,he,ZS]
  ·rw [if_neg e]
   cases hq:goT ns 0 q with
   | none =>
    rw [if_neg]
    ·rfl
    ·intro e2
     have:=(Xbf e2 rfl).1
     rw [this,hp] at hq;cases hq
   | some i' =>
    simp only [XR]
    by_cases e3:i'=j
    ·subst e3
     have:=h.inj q pre i' hq hp
     subst this
     rw [XV hj,hd]
     simp only [XR,Zme l x _ (h.kx i' d hd),List.append_cancel_left_eq,W7,and_true]
    ·rw [XF (fun e2=>e3 e2.symm),if_neg]
     intro e2
     have:=(Xbf e2 rfl).1
     rw [this,hp] at hq;injection hq with hq;exact e3 hq.symm
theorem WF.cut {ns:List TN} (h:WF ns) {pre:List Tx} {j i:Nat} {d di:TN} {l:Tx} (hp:goT ns 0 pre=some j) (hd:ns[j]?=some d) (hl:ZS l d.2=some i) (hdi:ns[i]?=some di) (he:di.2=[]):WF (ns.set j (d.1,ZaZ l d.2)):=by
 have hj:j < ns.length:=(Xc.1 hd).1
 refine ⟨h.cl.next1 hd l,by simpa using h.pos,?_,?_,?_⟩
 ·intro i' e he'
  by_cases e1:i'=j
  ·subst e1;rw [XV hj] at he';injection he' with he';subst he';exact h.kv i' d hd
  ·rw [XF (fun e2=>e1 e2.symm)] at he';exact h.kv i' e he'
 ·intro i' e he'
  by_cases e1:i'=j
  ·subst e1;rw [XV hj] at he';injection he' with he';subst he';exact ZkP l _ (h.kx i' d hd)
  ·rw [XF (fun e2=>e1 e2.symm)] at he';exact h.kx i' e he'
 ·intro q q' i' hq hq'
  rw [ZkK h hp hd hl hdi he] at hq hq'
  split at hq
  ·cases hq
  ·split at hq'
   ·cases hq'
   ·exact h.inj q q' i' hq hq'
theorem Zu7 {ns:List TN} (h:WF ns) {pre:List Tx} {j i:Nat} {d di:TN} {l:Tx} (hp:goT ns 0 pre=some j) (hd:ns[j]?=some d) (hl:ZS l d.2=some i) (hdi:ns[i]?=some di) (he1:di.1=[]) (he:di.2=[]) (q:List Tx) (k:Tx) :
  Zbf (ns.set j (d.1,ZaZ l d.2)) q k=Zbf ns q k:=by
 have hj:j < ns.length:=(Xc.1 hd).1
 have hi:goT ns 0 (pre++[l])=some i:=by rw [ZdX,hp];simp [hd,hl]
 unfold Zbf
 rw [ZkK h hp hd hl hdi he]
 by_cases e:q=pre++[l]
 ·subst e
  rw [if_pos rfl,hi]
  simp [hdi,he1,ZS]
 ·rw [if_neg e]
  cases hq:goT ns 0 q with
  | none=>rfl
  | some i' =>
   simp only
   by_cases e3:i'=j
   ·subst e3;rw [XV hj,hd]
   ·rw [XF (fun e2=>e3 e2.symm)]
theorem Zos (k : Tx) : ∀ (r : List Tx) (ns : List TN) (j : Nat) (pre : List Tx), WF ns -> goT ns 0 pre = some j ->
    WF (Zab k r ns j).1 /\ (Zab k r ns j).2 = (Zbf ns (pre ++ r) k).isSome /\ (∀ q k', Zbf (Zab k r ns j).1 q k' = if q = pre ++ r /\ k' = k then none else Zbf ns q k') /\ ∀ q, q.length <= pre.length -> goT (Zab k r ns j).1 0 q = goT ns 0 q
  | [], ns, j, pre, h, hp => by
    obtain ⟨d, hd⟩ := h.at hp
    have e : Zab k [] ns j = (ns.set j (ZaZ k d.1, d.2), (ZS k d.1).isSome) := by simp only [Zab, hd]
    have hg : Zbf ns pre k = ZS k d.1 := by simp only [Zbf, hp, hd]
    rw [e, XU, hg]
    refine ⟨h.vals hd (ZkP k _ (h.kv j d hd)), rfl, fun q k' => ?_, fun q _ => Zih hd _ q 0⟩
    rw [Zqy h hp hd]
    by_cases e1 : q = pre
    . subst e1
      rw [if_pos rfl, Zme k k' _ (h.kv j d hd)]
      simp only [true_and]
      split
      . rfl
      . simp only [Zbf, hp, hd]
    . rw [if_neg e1, if_neg (fun e2 => e1 e2.1)]
  | l :: r, ns, j, pre, h, hp => by
    obtain ⟨d, hd⟩ := h.at hp
    cases hk : ZS l d.2 with
    | none =>
      have e : Zab k (l :: r) ns j = (ns, false) := by simp only [Zab, hd, hk]
      have hg : Zbf ns (pre ++ l :: r) k = none := by
        simp only [Zbf, Zq4, hp, XR, goT, hd, hk]
      rw [e, hg]
      refine ⟨h, rfl, fun q k' => ?_, fun q _ => rfl⟩
      split
      . rename_i e1; rw [e1.1, e1.2]; exact hg
      . rfl
    | some i =>
      have hi : goT ns 0 (pre ++ [l]) = some i := by rw [ZdX, hp]; simp [hd, hk]
      obtain ⟨i1, i2, i3, i4⟩ := Zos k r ns i (pre ++ [l]) h hi
      have ea : pre ++ [l] ++ r = pre ++ l :: r := by simp
      rw [ea] at i2 i3
      simp only [XL, WD] at i4
      have e : Zab k (l :: r) ns j = if (Zab k r ns i).2 then
          match (Zab k r ns i).1[i]?, (Zab k r ns i).1[j]? with
          | some di, some dj => if di.1.length + di.2.length = 0 then ((Zab k r ns i).1.set j (dj.1, ZaZ l dj.2), true) else ((Zab k r ns i).1, true)
          | _, _ => (ns, false)
        else ((Zab k r ns i).1, false) := by
        simp only [Zab, hd, hk]
        rfl
      cases hb : (Zab k r ns i).2 with
      | false =>
        rw [hb] at e i2
        rw [if_neg (by simp)] at e
        rw [e]
        exact ⟨i1, i2, i3, fun q hq => i4 q (by omega)⟩
      | true =>
        rw [hb] at e i2
        rw [if_pos rfl] at e
        have hp' : goT (Zab k r ns i).1 0 pre = some j := by rw [i4 pre (by omega)]; exact hp
        have hi' : goT (Zab k r ns i).1 0 (pre ++ [l]) = some i := by rw [i4 _ (by simp)]; exact hi
        obtain ⟨dj, hdj⟩ := i1.at hp'
        obtain ⟨di, hdi⟩ := i1.at hi'
        have hk' : ZS l dj.2 = some i := by
          rw [ZdX, hp'] at hi'
          simpa [hdj] using hi'
        rw [hdi, hdj] at e
        simp only at e
        by_cases hz : di.1.length + di.2.length = 0
        . rw [if_pos hz] at e
          have z1 : di.1 = [] := W6.1 (by omega)
          have z2 : di.2 = [] := W6.1 (by omega)
          rw [e]
          refine ⟨i1.cut hp' hdj hk' hdi z2, i2, fun q k' => ?_, fun q hq => ?_⟩
          . show Zbf (((Zab k r ns i).1).set j (dj.1, ZaZ l dj.2)) q k' = _
            rw [Zu7 i1 hp' hdj hk' hdi z1 z2, i3]
          . show goT (((Zab k r ns i).1).set j (dj.1, ZaZ l dj.2)) 0 q = _
            rw [ZkK i1 hp' hdj hk' hdi z2, if_neg, i4 q (by omega)]
            rintro rfl
            simp at hq
            omega
        . rw [if_neg hz] at e
          rw [e]
          exact ⟨i1, i2, i3, fun q hq => i4 q (by omega)⟩
end
section
end
section
end
section
end
section
end
section
def ZdE:List (List UInt8)->List UInt8
 | []=>[]
 | x::r=>47::(x++ZdE r)
theorem Zrt:∀ s:List UInt8,ZdE (ZM s)=47::s
 | []=>by simp [ZM,ZdE]
 | b::s=>by
  have ih:=Zrt s
  by_cases h:b=47
  ·subst h;rw [ZM];simp only [beq_self_eq_true,if_true,ZdE,ih,XE]
  ·cases e:ZM s with
   | nil=>exact absurd e (Zi8 s)
   | cons p r =>
    rw [e,ZdE] at ih
    simp only [W7,true_and] at ih
    have : ZM (b::s)=(b::p)::r:=by rw [ZM];simp [h,e]
    rw [this,ZdE,XP,ih]
def tG:Nat->List UInt8->Bool
 | 0,_=>true
 | n+1,l=>if l=[] then true else if (Lib.decodeL l).1=0\/((Lib.decodeL l).1=65533/\(Lib.decodeL l).2=1) then false else tG n (l.drop (Lib.decodeL l).2)
theorem Zrn:∀ (n:Nat) (l:List UInt8),(zfG n l && Lib.validGoD n l)=tG n l
 | 0,_=>rfl
 | n+1,l=>by
  have ih:=Zrn n (l.drop (Lib.decodeL l).2)
  simp only [zfG,Lib.validGoD,tG]
  by_cases h:l=[]
  ·simp [h]
  ·by_cases h1:(Lib.decodeL l).1=0
   ·simp [h,h1]
   ·by_cases h2:(Lib.decodeL l).1=65533/\(Lib.decodeL l).2=1
    ·simp [h,h2]
    ·simp only [h,h1,h2,if_false,false_or,ih]
theorem Znk (l:List UInt8):ZdW l=tG l.length l:=Zrn _ _
theorem ZqX {l:List UInt8} (h:l≠[]):1<=(Lib.decodeL l).2:=by
 have:=Lib.decodeL_width l;omega
theorem Zp4:∀ (n m:Nat) (l:List UInt8),l.length<=n->l.length<=m->tG n l=tG m l
 | 0,m,l,h,_=>by
  obtain rfl:l=[]:=W6.1 (by omega)
  cases m <;> simp [tG]
 | n+1,0,l,_,h=>by
  obtain rfl:l=[]:=W6.1 (by omega)
  simp [tG]
 | n+1,m+1,l,h,h'=>by
  simp only [tG]
  by_cases h0:l=[]
  ·simp [h0]
  ·have:=ZqX h0
   rw [Zp4 n m (l.drop (Lib.decodeL l).2) (by rw [WX];omega) (by rw [WX];omega)]
theorem ZDO (p:List UInt8) (b:UInt8) (q:List UInt8) (hp:p≠[]) (hb:b.toNat < 128):Lib.decodeL (p++b::q)=Lib.decodeL p:=by
 rw [Lib.decodeL_N,Lib.decodeL_N]
 match p,hp with
 | [b0],_ =>
  simp only [XP,XE,Xv,XC,Xs,Xx,XbM]
  by_cases h:b0.toNat < 128
  ·simp only [Lib.decodeN,h,if_true]
  ·rw [Lib.decodeN_alone _ _ _ _ _ (by omega) (XD (by omega)),Lib.decodeN_alone _ _ _ _ _ (by omega) (Xw (by omega))]
 | [b0,b1],_ =>
  simp only [XP,XE,Xv,XC,Xs,Xx,XbM]
  generalize b0.toNat=x0 at *
  generalize b1.toNat=x1 at *
  generalize b.toNat=x2 at *
  generalize (q.getD 0 0).toNat=x3 at *
  generalize q.length=k at *
  unfold Lib.decodeN
  have e1:¬(x2 / 64=2):=by omega
  have e2:(1 < k+1+1+1):=by omega
  simp only [e1,e2,and_false,false_and,if_false,true_and,Xk,Xo,Xaw]
 | [b0,b1,b2],_ =>
  simp only [XP,XE,Xv,XC,Xs,Xx,XbM]
  generalize b0.toNat=x0 at *
  generalize b1.toNat=x1 at *
  generalize b2.toNat=x2 at *
  generalize b.toNat=x3 at *
  generalize q.length=k at *
  unfold Lib.decodeN
  have e1:¬(x3 / 64=2):=by omega
  have e2:(1 < k+1+1+1+1):=by omega
  have e3:(2 < k+1+1+1+1):=by omega
  simp only [e1,e2,e3,and_false,false_and,if_false,true_and,Xk,Xo,Xaw]
 | b0::b1::b2::b3::t,_ =>
  simp only [XP,Xv,XL,Xs,Xx]
  unfold Lib.decodeN
  have e1:(1 < t.length+1+1+1+1):=by omega
  have e2:(2 < t.length+1+1+1+1):=by omega
  have e3:(3 < t.length+1+1+1+1):=by omega
  have f1:(1 < t.length+(q.length+1)+1+1+1+1):=by omega
  have f2:(2 < t.length+(q.length+1)+1+1+1+1):=by omega
  have f3:(3 < t.length+(q.length+1)+1+1+1+1):=by omega
  simp only [e1,e2,e3,f1,f2,f3,true_and]
theorem ZzK (n:Nat) (b:UInt8) (q:List UInt8) (hb:b.toNat < 128) (h0:b.toNat≠0):tG (n+1) (b::q)=tG n q:=by
 have h1:¬(b.toNat=65533):=by omega
 simp only [tG,Lib.decodeL_ascii b q hb,h0,h1,reduceCtorEq,if_false,false_and,or_self,Xax,XaR]
theorem Zq9 (n:Nat) (l:List UInt8) (h:l≠[]):tG (n+1) l=if (Lib.decodeL l).1=0\/((Lib.decodeL l).1=65533/\(Lib.decodeL l).2=1) then false else tG n (l.drop (Lib.decodeL l).2):=by
 simp only [tG,h,if_false]
theorem ZqY (b:UInt8) (q:List UInt8) (hb:b.toNat < 128):∀ (n:Nat) (p:List UInt8),p.length<=n->tG (n+(q.length+1)) (p++b::q)=(tG n p && tG (q.length+1) (b::q))
 | n,[],_=>by
  have : tG n []=true:=by cases n <;> simp [tG]
  rw [this,XE,Xbh]
  exact Zp4 _ _ _ (by simp) (by simp)
 | 0,c::p,h=>by simp at h
 | n+1,c::p,h=>by
  have hne:c::p≠[]:=by simp
  have hw:=ZqX hne
  have hle:=Lib.decodeL_le (c::p) hne
  have ih:=ZqY b q hb n ((c::p).drop (Lib.decodeL (c::p)).2) (by rw [WX];simp only [Xv] at h ⊢;omega)
  have e:n+1+(q.length+1)=(n+(q.length+1))+1:=by omega
  have hne2:c::p++b::q≠[]:=by simp
  generalize tG (q.length+1) (b::q)=R at ih ⊢
  rw [e,Zq9 _ _ hne2,Zq9 _ _ hne,ZDO (c::p) b q hne hb]
  by_cases h1:(Lib.decodeL (c::p)).1=0\/((Lib.decodeL (c::p)).1=65533/\(Lib.decodeL (c::p)).2=1)
  ·rw [if_pos h1,if_pos h1,Xac]
  ·rw [if_neg h1,if_neg h1,List.drop_append_of_le_length hle,ih]
theorem Zt5 (p q:List UInt8):ZdW (p++47::q)=(ZdW p && ZdW q):=by
 rw [Znk,Znk,Znk]
 have:=ZqY 47 q (by decide) p.length p (XQ _)
 rw [ZzK q.length 47 q (by decide) (by decide)] at this
 rw [<-this]
 congr 1
 simp
def ZeW (M:List (List UInt8)):List UInt8:=(ZdE M).drop 1
theorem Zrg (x:List UInt8):ZeW [x]=x:=by simp [ZeW,ZdE]
theorem Zrs (x y:List UInt8) (M:List (List UInt8)):ZeW (x::y::M)=x++47::ZeW (y::M):=by simp [ZeW,ZdE]
theorem ZhT (s:List UInt8):ZeW (ZM s)=s:=by simp [ZeW,Zrt]
theorem Zmm:∀ M:List (List UInt8),ZdW (ZeW M)=M.all ZdW
 | []=>rfl
 | [x]=>by simp [Zrg]
 | x::y::M=>by rw [Zrs,Zt5,Zmm (y::M)];simp only [Xr]
theorem ZIp (p q:List UInt8):Zbb (p++47::q)=(Zbb p || Zbb q):=by simp [Zbb,ZcO]
theorem Zpp:∀ M:List (List UInt8),Zbb (ZeW M)=M.any Zbb
 | []=>rfl
 | [x]=>by simp [Zrg]
 | x::y::M=>by rw [Zrs,ZIp,Zpp (y::M)];simp only [XX]
theorem ZxD {s:List UInt8} (h:Zcy s=true):(ZM s).all ZdW=true/\(ZM s).any Zbb=false/\1<=s.length/\s.length<=64:=by
 simp only [Zcy,Zdx,Xp,decide_eq_true_eq,Wg] at h
 obtain ⟨⟨⟨h1,h2⟩,h3⟩,h4⟩:=h
 have e:=ZhT s
 exact ⟨by rw [<-Zmm,e];exact h3,by rw [<-Zpp,e];exact h4,h1,h2⟩
end
section
theorem ZjG {α β:Type} {f:α->β}:∀ {l:List α},(∀ a ∈ l,∀ b ∈ l,f a=f b->a=b)->l.Nodup->(l.map f).Nodup
 | [],_,_=>WH
 | x::l,h,hn=>by
  obtain ⟨h1,h2⟩:=Wb.1 hn
  refine Wb.2 ⟨?_,ZjG (fun a ha b hb=>h a (by simp [ha]) b (by simp [hb])) h2⟩
  intro hm
  obtain ⟨y,hy,he⟩:=XJ.1 hm
  have:=h y (by simp [hy]) x (by simp) he
  subst this;exact h1 hy
def ZgA:Tx->List Tx->Tx
 | p,[]=>p
 | p,l::q=>ZgA (Zam p l) q
abbrev PR3:=List Tx×Tx×Int
def Zfq (d:TN):List PR3:=d.1.map fun q=>([],q.1,q.2)
def Zek (o:Option Nat) (l:Tx) (f:Nat->List PR3):List PR3:=match o with
 | some i=>(f i).map fun x=>(l::x.1,x.2)
 | none=>[]
def Zhl (ns:List TN) (i:Nat):List PR3:=match ns[i]? with
 | some di=>Zfq di
 | none=>[]
def ZeM (ns:List TN) (b:Bool) (d:TN):List PR3:=if b then [] else Zek (ZS [35] d.2) [35] (Zhl ns)
def Zc4 (ns:List TN):List Tx->Bool->Nat->List PR3
 | [],b,j=>match ns[j]? with
  | some d=>ZeM ns b d++Zfq d
  | none=>[]
 | l::r,b,j=>match ns[j]? with
  | some d=>ZeM ns b d++(Zek (ZS l d.2) l (fun i=>Zc4 ns r false i)++(if b then [] else Zek (ZS [43] d.2) [43] (fun i=>Zc4 ns r false i)))
  | none=>[]
def Zfp (p:Tx) (x:PR3):ZR:=⟨ZgA p x.1,x.2.1,x.2.2⟩
theorem Zlx (o:Option Nat) (l p:Tx) (f:Nat->List PR3) (g:Nat->List AVal) (h:∀ i,o=some i->g i=(f i).map fun x=>ZY (Zfp (Zam p l) x)):Zbj o g=(Zek o l f).map fun x=>ZY (Zfp p x):=by
 cases o with
 | none=>rfl
 | some i =>
  simp only [Zbj,Zek,Wm]
  rw [h i rfl]
  rfl
theorem ZpU (p:Tx) (d:TN):ZbQ p d.1=(Zfq d).map fun x=>ZY (Zfp p x):=by
 simp only [ZbQ,Zfq,Wm]
 rfl
theorem Zqe (ns:List TN) (b:Bool) (p:Tx) (d:TN):ZbA ns b p d=(ZeM ns b d).map fun x=>ZY (Zfp p x):=by
 unfold ZbA ZeM
 cases b with
 | true=>rfl
 | false =>
  simp only [Xi,if_false]
  refine Zlx _ [35] p _ _ fun i _=>?_
  unfold Zhl
  cases ns[i]? with
  | none=>rfl
  | some di=>exact ZpU _ di
theorem Zlh (ns:List TN):∀ (name:List Tx) (b:Bool) (p:Tx) (j:Nat),ZbE ns name b p j=(Zc4 ns name b j).map fun x=>ZY (Zfp p x)
 | [],b,p,j=>by
  simp only [ZbE,Zc4]
  cases ns[j]? with
  | none=>rfl
  | some d=>simp only [Wd,Zqe,ZpU]
 | l::r,b,p,j=>by
  simp only [ZbE,Zc4]
  cases ns[j]? with
  | none=>rfl
  | some d =>
   simp only [Wd,Zqe]
   congr 1
   congr 1
   ·exact Zlx _ l p _ _ fun i _=>Zlh ns r false (Zam p l) i
   ·cases b with
    | true=>rfl
    | false =>
     simp only [Xi,if_false]
     exact Zlx _ [43] p _ _ fun i _=>Zlh ns r false (Zam p [43]) i
def atT (ns:List TN) (j:Nat) (q:List Tx) (k:Tx) (v:Int):Prop:=∃ i d,goT ns j q=some i/\ns[i]?=some d/\(k,v) ∈ d.1
theorem Zm1 {ns:List TN} {j:Nat} {d:TN} (hd:ns[j]?=some d) (k:Tx) (v:Int):atT ns j [] k v↔(k,v) ∈ d.1:=by
 constructor
 ·rintro ⟨i,d',h1,h2,h3⟩
  simp only [goT,Xa] at h1
  subst h1
  rw [hd] at h2;injection h2 with h2;subst h2;exact h3
 ·intro h;exact ⟨j,d,rfl,hd,h⟩
theorem Zhh {ns:List TN} {j:Nat} {d:TN} (hd:ns[j]?=some d) (l:Tx) (q:List Tx) (k:Tx) (v:Int):atT ns j (l::q) k v↔∃ i,ZS l d.2=some i/\atT ns i q k v:=by
 constructor
 ·rintro ⟨i,d',h1,h2,h3⟩
  simp only [goT,hd] at h1
  cases hk:ZS l d.2 with
  | none=>rw [hk] at h1;cases h1
  | some i'=>rw [hk] at h1;exact ⟨i',rfl,i,d',h1,h2,h3⟩
 ·rintro ⟨i,h1,i',d',h2,h3,h4⟩
  exact ⟨i',d',by simp only [goT,hd,h1];exact h2,h3,h4⟩
theorem ZnF {ns:List TN} {j:Nat} (hd:ns[j]?=none) (q:List Tx) (k:Tx) (v:Int):¬atT ns j q k v:=by
 rintro ⟨i,d,h1,h2,_⟩
 cases q with
 | nil=>simp only [goT,Xa] at h1;subst h1;rw [hd] at h2;cases h2
 | cons l q=>simp only [goT,hd] at h1;cases h1
def mt:Bool->List Tx->List Tx->Bool
 | _,[],n=>n.isEmpty
 | b,l::q,n=>(l == [35] && q.isEmpty && !b) || (match n with
  | []=>false
  | y::r=>(l == y || (l == [43] && !b)) && mt false q r)
theorem Zfz (o:Option Nat) (l:Tx) (f:Nat->List PR3) (x:PR3):x ∈ Zek o l f↔∃ i q,o=some i/\x.1=l::q/\(q,x.2) ∈ f i:=by
 cases o with
 | none=>simp [Zek]
 | some i =>
  simp only [Zek,XJ]
  constructor
  ·rintro ⟨y,hy,rfl⟩;exact ⟨i,y.1,rfl,rfl,hy⟩
  ·rintro ⟨i',q,h1,h2,h3⟩
   injection h1 with h1;subst h1
   exact ⟨(q,x.2),h3,by obtain ⟨a,b⟩:=x;simp only at h2;subst h2;rfl⟩
theorem Zl2 (d:TN) (x:PR3):x ∈ Zfq d↔x.1=[]/\x.2 ∈ d.1:=by
 simp only [Zfq,XJ]
 constructor
 ·rintro ⟨y,hy,rfl⟩;exact ⟨rfl,hy⟩
 ·rintro ⟨h1,h2⟩;exact ⟨x.2,h2,by obtain ⟨a,b⟩:=x;simp only at h1;subst h1;rfl⟩
theorem Zqa (ns:List TN) (i:Nat) (q:List Tx) (k:Tx) (v:Int):(q,k,v) ∈ Zhl ns i↔q=[]/\atT ns i q k v:=by
 unfold Zhl
 cases hd:ns[i]? with
 | none =>
  simp only [XaC,false_iff,not_and]
  intro _;exact ZnF hd q k v
 | some d =>
  simp only [Zl2]
  constructor
  ·rintro ⟨rfl,h⟩;exact ⟨rfl,(Zm1 hd k v).2 h⟩
  ·rintro ⟨rfl,h⟩;exact ⟨rfl,(Zm1 hd k v).1 h⟩
theorem ZoA (ns:List TN) (b:Bool) {j:Nat} {d:TN} (hd:ns[j]?=some d) (q:List Tx) (k:Tx) (v:Int):(q,k,v) ∈ ZeM ns b d↔b=false/\q=[[35]]/\atT ns j q k v:=by
 unfold ZeM
 cases b with
 | true=>simp
 | false =>
  simp only [Xi,if_false,Zfz,true_and]
  constructor
  ·rintro ⟨i,q',h1,rfl,h3⟩
   obtain ⟨rfl,h4⟩:=(Zqa ns i q' k v).1 h3
   exact ⟨rfl,(Zhh hd _ _ k v).2 ⟨i,h1,h4⟩⟩
  ·rintro ⟨rfl,h⟩
   obtain ⟨i,h1,h2⟩:=(Zhh hd _ _ k v).1 h
   exact ⟨i,[],h1,rfl,(Zqa ns i [] k v).2 ⟨rfl,h2⟩⟩
theorem ZgE (ns:List TN) (k:Tx) (v:Int):∀ (name:List Tx) (b:Bool) (j:Nat) (q:List Tx),(q,k,v) ∈ Zc4 ns name b j↔atT ns j q k v/\mt b q name=true
 | [],b,j,q=>by
  simp only [Zc4]
  cases hd:ns[j]? with
  | none =>
   simp only [XaC,false_iff,not_and]
   intro h;exact absurd h (ZnF hd q k v)
  | some d =>
   simp only [Xz,ZoA ns b hd,Zl2]
   cases q with
   | nil =>
    rw [Zm1 hd]
    simp [mt]
   | cons l q =>
    simp only [mt,WY,Xp,beq_iff_eq,Xai,Wg]
    constructor
    ·rintro (⟨h1,h2,h3⟩ | ⟨h1,_⟩)
     ·injection h2 with h4 h5
      exact ⟨h3,⟨h4,h5⟩,h1⟩
     ·cases h1
    ·rintro ⟨h1,⟨rfl,rfl⟩,h3⟩
     exact Xw ⟨h3,rfl,h1⟩
 | y::r,b,j,q=>by
  simp only [Zc4]
  cases hd:ns[j]? with
  | none =>
   simp only [XaC,false_iff,not_and]
   intro h;exact absurd h (ZnF hd q k v)
  | some d =>
   have hplus:(q,k,v) ∈ (if b then [] else Zek (ZS [43] d.2) [43] (fun i=>Zc4 ns r false i))↔b=false/\∃ q',q=[43]::q'/\atT ns j q k v/\mt false q' r=true:=by
    cases b with
    | true=>simp
    | false =>
     simp only [Xi,if_false,Zfz,true_and]
     constructor
     ·rintro ⟨i,q',h1,rfl,h3⟩
      obtain ⟨h4,h5⟩:=(ZgE ns k v r false i q').1 h3
      exact ⟨q',rfl,(Zhh hd _ _ k v).2 ⟨i,h1,h4⟩,h5⟩
     ·rintro ⟨q',rfl,h1,h2⟩
      obtain ⟨i,h3,h4⟩:=(Zhh hd _ _ k v).1 h1
      exact ⟨i,q',h3,rfl,(ZgE ns k v r false i q').2 ⟨h4,h2⟩⟩
   have hex:(q,k,v) ∈ Zek (ZS y d.2) y (fun i=>Zc4 ns r false i)↔∃ q',q=y::q'/\atT ns j q k v/\mt false q' r=true:=by
    simp only [Zfz]
    constructor
    ·rintro ⟨i,q',h1,rfl,h3⟩
     obtain ⟨h4,h5⟩:=(ZgE ns k v r false i q').1 h3
     exact ⟨q',rfl,(Zhh hd _ _ k v).2 ⟨i,h1,h4⟩,h5⟩
    ·rintro ⟨q',rfl,h1,h2⟩
     obtain ⟨i,h3,h4⟩:=(Zhh hd _ _ k v).1 h1
     exact ⟨i,q',h3,rfl,(ZgE ns k v r false i q').2 ⟨h4,h2⟩⟩
   rw [Xz,Xz,ZoA ns b hd,hplus,hex]
   cases q with
   | nil=>simp [mt]
   | cons l q =>
    simp only [mt,WR,Xp,beq_iff_eq,Xai,Wg]
    constructor
    ·rintro (⟨h1,h2,h3⟩ | ⟨q',h2,h3,h4⟩ | ⟨h1,q',h2,h3,h4⟩)
     ·injection h2 with h4 h5
      exact ⟨h3,Xw ⟨⟨h4,h5⟩,h1⟩⟩
     ·injection h2 with h5 h6
      subst h6
      exact ⟨h3,XD ⟨Xw h5,h4⟩⟩
     ·injection h2 with h5 h6
      subst h6
      exact ⟨h3,XD ⟨XD ⟨h5,h1⟩,h4⟩⟩
    ·rintro ⟨h1,⟨⟨rfl,rfl⟩,h3⟩ | ⟨rfl | ⟨rfl,h3⟩,h4⟩⟩
     ·exact Xw ⟨h3,rfl,h1⟩
     ·exact XD (Xw ⟨q,rfl,h1,h4⟩)
     ·exact XD (XD ⟨h3,q,rfl,h1,h4⟩)
theorem ZpI {d:TN} (h:(ksK d.1).Nodup):(Zfq d).Nodup:=by
 unfold Zfq
 refine ZjG ?_ ?_
 ·rintro ⟨a1,a2⟩ _ ⟨b1,b2⟩ _ he
  simp only [Xb,true_and] at he
  rw [he.1,he.2]
 ·unfold ksK at h
  rw [List.Nodup,Xbw] at h
  exact h.imp fun h e=>h (by rw [e])
theorem ZkQ {o:Option Nat} {l:Tx} {f:Nat->List PR3} (h:∀ i,o=some i->(f i).Nodup):(Zek o l f).Nodup:=by
 cases o with
 | none=>exact WH
 | some i =>
  refine ZjG ?_ (h i rfl)
  rintro ⟨a1,a2⟩ _ ⟨b1,b2⟩ _ he
  simp only [Xb,W7,true_and] at he
  rw [he.1,he.2]
theorem ZHF {ns:List TN} (h:WF ns) (i:Nat):(Zhl ns i).Nodup:=by
 unfold Zhl
 cases hd:ns[i]? with
 | none=>exact WH
 | some d=>exact ZpI (h.kv i d hd)
theorem Zn5 {ns:List TN} (h:WF ns) (b:Bool) (d:TN):(ZeM ns b d).Nodup:=by
 unfold ZeM
 split
 ·exact WH
 ·exact ZkQ fun i _=>ZHF h i
theorem Zon (ns:List TN) (b:Bool) (d:TN) (x:PR3) (h:x ∈ ZeM ns b d):∃ q,x.1=[35]::q:=by
 unfold ZeM at h
 split at h
 ·simp at h
 ·obtain ⟨i,q,_,h2,_⟩:=(Zfz _ _ _ x).1 h
  exact ⟨q,h2⟩
theorem ZnQ {ns:List TN} (h:WF ns):∀ (name:List Tx) (b:Bool) (j:Nat),(∀ y ∈ name,y≠[35]/\y≠[43])->(Zc4 ns name b j).Nodup
 | [],b,j,_=>by
  simp only [Zc4]
  cases hd:ns[j]? with
  | none=>exact WH
  | some d =>
   refine WZ.2 ⟨Zn5 h b d,ZpI (h.kv j d hd),?_⟩
   rintro x hx y hy rfl
   obtain ⟨q,hq⟩:=Zon ns b d x hx
   have:=((Zl2 d x).1 hy).1
   rw [this] at hq;cases hq
 | y::r,b,j,hy=>by
  simp only [Zc4]
  have hr:∀ z ∈ r,z≠[35]/\z≠[43]:=fun z hz=>hy z (by simp [hz])
  obtain ⟨y1,y2⟩:=hy y (by simp)
  cases hd:ns[j]? with
  | none=>exact WH
  | some d =>
   refine WZ.2 ⟨Zn5 h b d,WZ.2 ⟨ZkQ fun i _=>ZnQ h r false i hr,?_,?_⟩,?_⟩
   ·split
    ·exact WH
    ·exact ZkQ fun i _=>ZnQ h r false i hr
   ·rintro x hx z hz rfl
    obtain ⟨_,q,_,h2,_⟩:=(Zfz _ _ _ x).1 hx
    split at hz
    ·simp at hz
    ·obtain ⟨_,q',_,h3,_⟩:=(Zfz _ _ _ x).1 hz
     rw [h2] at h3;injection h3 with h3;exact y2 h3
   ·rintro x hx z hz rfl
    obtain ⟨q,hq⟩:=Zon ns b d x hx
    rcases Xz.1 hz with hz | hz
    ·obtain ⟨_,q',_,h3,_⟩:=(Zfz _ _ _ x).1 hz
     rw [hq] at h3;injection h3 with h3;exact y1 h3.symm
    ·split at hz
     ·simp at hz
     ·obtain ⟨_,q',_,h3,_⟩:=(Zfz _ _ _ x).1 hz
      rw [hq] at h3;injection h3 with h3;cases h3
theorem ZpZ {ns:List TN} (h:WF ns) (q:List Tx) (k:Tx) (v:Int):Zbf ns q k=some v↔atT ns 0 q k v:=by
 unfold Zbf atT
 cases hg:goT ns 0 q with
 | none=>simp
 | some i =>
  obtain ⟨d,hd⟩:=h.at hg
  simp only [hd]
  rw [<-Zl4 (h.kv i d hd)]
  constructor
  ·intro h1;exact ⟨i,d,rfl,hd,h1⟩
  ·rintro ⟨i',d',h1,h2,h3⟩
   injection h1 with h1;subst h1
   rw [hd] at h2;injection h2 with h2;subst h2;exact h3
theorem ZoT:∀ (q:List Tx) (p:Tx),p≠[0]->ZgA p q=p++ZdE q
 | [],p,_=>by simp [ZgA,ZdE]
 | l::q,p,h=>by
  have h1:Zam p l=p++[47]++l:=by simp [Zam,h]
  have h2:p++[47]++l≠[0]:=by
   intro e
   have : (47:UInt8) ∈ ([0]:Tx):=by rw [<-e];simp
   simp at this
  rw [ZgA,h1,ZoT q _ h2,ZdE]
  simp
theorem Zyu {f:Tx} (h:(ZM f).headD []≠[0]):ZgA [0] (ZM f)=f:=by
 have e:=ZhT f
 cases hs:ZM f with
 | nil=>exact absurd hs (Zi8 f)
 | cons l q =>
  rw [hs] at h e
  simp only [XaM] at h
  rw [ZgA,show Zam [0] l=l from by simp [Zam],ZoT q l h,<-e]
  simp [ZeW,ZdE]
theorem ZBH:ZdW [0]=false:=by decide
theorem Zwb {f:Tx} (h:Zbi f=true):(ZM f).headD []≠[0]:=by
 simp only [Zbi,Zdx,Xp] at h
 have h1:=Zmm (ZM f)
 rw [ZhT,h.2.2] at h1
 cases hs:ZM f with
 | nil=>simp
 | cons l q =>
  rw [hs] at h1
  simp only [XaM]
  rintro rfl
  rw [Xr,ZBH] at h1
  cases h1
theorem ZiP {f g:Tx} (h:ZM f=ZM g):f=g:=by
 rw [<-ZhT f,<-ZhT g,h]
theorem Zlq:∀ (q n:List Tx),ZeD q=true->(∀ y ∈ n,y≠[35]/\y≠[43])->mt false q n=Zfo q n
 | [],n,_,_=>rfl
 | l::q,n,hq,hn=>by
  simp only [ZeD,Zjp,Xp,WR,beq_iff_eq,Wg] at hq
  cases n with
  | nil =>
   simp only [mt,Zfo,W3,Xbi,WY]
   by_cases e:l=[35]
   ·subst e
    have : q.isEmpty=true:=by
     rcases hq.1 with (h1 | h1) | h1
     ·cases h1
     ·exact h1.2
     ·simp [Zbb,ZcO] at h1
    simp [this]
   ·have : (l == [35])=false:=by simpa using e
    simp [this]
  | cons y r =>
   have ih:=Zlq q r hq.2 fun z hz=>hn z (by simp [hz])
   simp only [mt,Zfo,W3,Xbi,ih]
   by_cases e:l=[35]
   ·subst e
    have : q.isEmpty=true:=by
     rcases hq.1 with (h1 | h1) | h1
     ·cases h1
     ·exact h1.2
     ·simp [Zbb,ZcO] at h1
    simp [this]
   ·have : (l == [35])=false:=by simpa using e
    simp only [this,Xac,Xby]
    rw [Bool.or_comm]
theorem ZvY (b:Bool) (q:List Tx) (y:Tx) (r:List Tx) (hq:ZeD q=true) (hn:∀ z ∈ y::r,z≠[35]/\z≠[43]):mt b q (y::r)=(!(b && Zjg (q.headD [])) && Zfo q (y::r)):=by
 cases b with
 | false=>rw [Zlq q _ hq hn];simp
 | true =>
  cases q with
  | nil=>simp [mt,Zfo,Zjg]
  | cons l q =>
   simp only [ZeD,Xp] at hq
   have ih:=Zlq q r hq.2 fun z hz=>hn z (by simp [hz])
   obtain ⟨h1,h2⟩:=hn y (by simp)
   simp only [mt,Zfo,Xaj,XbG,Xby,WY,ih,XaM,Zjg,Xbh]
   by_cases e1:l=[43]
   ·subst e1
    have : (([43]:Tx) == y)=false:=by simpa using fun e=>h2 e.symm
    simp [this]
   ·by_cases e2:l=[35]
    ·subst e2
     have : (([35]:Tx) == y)=false:=by simpa using fun e=>h1 e.symm
     simp [this]
    ·have a1:(l == [43])=false:=by simpa using e1
     have a2:(l == [35])=false:=by simpa using e2
     simp [a1,a2]
theorem Zqk {n:Tx} (h:Zcy n=true):∀ y ∈ ZM n,y≠[35]/\y≠[43]:=by
 have h1:=(ZxD h).2.1
 intro y hy
 have h2:Zbb y=false:=by
  cases e:Zbb y with
  | false=>rfl
  | true =>
   have : (ZM n).any Zbb=true:=XaB.2 ⟨y,hy,e⟩
   rw [h1] at this;cases this
 constructor
 ·rintro rfl;simp [Zbb,ZcO] at h2
 ·rintro rfl;simp [Zbb,ZcO] at h2
theorem Zqh {f n:Tx} (hf:Zbi f=true) (hn:Zcy n=true):mt (n.headD 0 == 36) (ZM f) (ZM n)=Zgi f n:=by
 have h1:ZeD (ZM f)=true:=by simp only [Zbi,Xp] at hf;exact hf.1
 have h2:=Zqk hn
 cases hs:ZM n with
 | nil=>exact absurd hs (Zi8 n)
 | cons y r =>
  rw [hs] at h2
  rw [ZvY _ _ y r h1 h2]
  simp [Zgi,hf,hn,hs]
end
section
def Zd3 (f k:List UInt8):List ZR->Option Nat
 | []=>none
 | x::r=>if x.f=f/\x.k=k then some 0 else (Zd3 f k r).map (·+1)
def Zcd (l:List ZR) (f k:List UInt8):List ZR×Bool:=match Zd3 f k l with
 | none=>(l,false)
 | some j=>(l.take j++l.drop (j+1),true)
end
section
theorem ZiK {a b c:ZR} (h:ltR a b) (h':ltR b c):ltR a c:=Zfe h h'
theorem Zjt (a:ZR):¬ltR a a:=ZeR _
theorem Zda (a b:ZR):ZaH a b=true↔kyR a=kyR b:=by
 unfold ZaH kyR;simp
theorem Zms {a b:ZR} (h:¬ltR a b) (h':ZaH a b=false):ltR b a:=by
 by_cases e:ltR b a
 ·exact e
 ·have:=Zep h e
  rw [(Zda a b).2 this] at h';cases h'
theorem ZfL {a b:ZR} (h:ltR a b):ZaH a b=false:=by
 cases e:ZaH a b with
 | false=>rfl
 | true=>have:=(Zda a b).1 e;unfold ltR at h;rw [this] at h;exact absurd h (ZeR _)
theorem Zla (a b:ZR):ZaH a b=ZaH b a:=by
 cases e:ZaH b a with
 | true=>exact (Zda a b).2 ((Zda b a).1 e).symm
 | false =>
  cases e':ZaH a b with
  | false=>rfl
  | true=>rw [(Zda b a).2 ((Zda a b).1 e').symm] at e;cases e
def Zdq (s:ZR):List ZR->List ZR
 | []=>[s]
 | x::r=>if ZfG x s then x::Zdq s r else if ZaH x s then s::r else s::x::r
theorem Zjh (s:ZR):∀ L:List ZR,ZcH L s=Zdq s L
 | []=>rfl
 | x::r=>by
  have ih:=Zjh s r
  unfold ZcH putAt at *
  unfold Zdq
  by_cases h:ZfG x s=true
  ·rw [if_pos h,<-ih]
   have e:Zf5 s (x::r)=Zf5 s r+1:=by rw [Zf5,if_pos h]
   rw [e]
   rfl
  ·rw [if_neg h]
   have e:Zf5 s (x::r)=0:=by rw [Zf5,if_neg h]
   rw [e]
   by_cases h2:ZaH x s=true
   ·rw [if_pos h2];simp [Zl9,h2]
   ·rw [if_neg h2];simp [Zl9,h2]
theorem ZoW (s:ZR):∀ L:List ZR,L.Pairwise ltR->(Zdq s L).Perm (s::L.filter fun x=>!ZaH x s)
 | [],_=>List.Perm.refl _
 | x::r,h=>by
  obtain ⟨h1,h2⟩:=Wj.1 h
  unfold Zdq
  by_cases hl:ZfG x s=true
  ·rw [if_pos hl]
   have:=ZfL ((ZhA x s).1 hl)
   rw [Xbg,this]
   simp only [W3,if_true]
   exact ((ZoW s r h2).cons x).trans (List.Perm.swap _ _ _)
  ·have hnl:¬ltR x s:=fun e=>hl ((ZhA x s).2 e)
   rw [if_neg hl]
   by_cases hs:ZaH x s=true
   ·rw [if_pos hs,Xbg,hs]
    simp only [Xaj,Xi,if_false]
    rw [Xbo.2]
    intro y hy
    have h3:=h1 y hy
    have e:kyR x=kyR s:=(Zda x s).1 hs
    have : ZaH y s=false:=by
     rw [Zla]
     refine ZfL ?_
     unfold ltR at h3 ⊢
     rw [<-e];exact h3
    simp [this]
   ·rw [if_neg hs,Xbo.2]
    intro y hy
    have hsx:=Zms hnl (by simpa using hs)
    rcases XH.1 hy with rfl | hy
    ·simpa using hs
    ·have:=ZfL (ZiK hsx (h1 y hy))
     rw [Zla] at this
     simp [this]
theorem Zsa (s:ZR):∀ (L:List ZR) (y:ZR),y ∈ Zdq s L->y=s\/y ∈ L
 | [],y,h=>by simpa [Zdq] using h
 | x::r,y,h=>by
  unfold Zdq at h
  split at h
  ·rcases XH.1 h with rfl | h
   ·simp
   ·rcases Zsa s r y h with h | h <;> simp [h]
  ·split at h
   ·rcases XH.1 h with h | h <;> simp [h]
   ·rcases XH.1 h with h | h
    ·simp [h]
    ·exact XD h
theorem Zn1 (s:ZR):∀ L:List ZR,L.Pairwise ltR->(Zdq s L).Pairwise ltR
 | [],_=>by simp [Zdq]
 | x::r,h=>by
  obtain ⟨h1,h2⟩:=Wj.1 h
  unfold Zdq
  by_cases hl:ZfG x s=true
  ·rw [if_pos hl]
   refine Wj.2 ⟨fun y hy=>?_,Zn1 s r h2⟩
   rcases Zsa s r y hy with rfl | hy
   ·exact (ZhA _ _).1 hl
   ·exact h1 y hy
  ·have hnl:¬ltR x s:=fun e=>hl ((ZhA x s).2 e)
   rw [if_neg hl]
   by_cases hs:ZaH x s=true
   ·rw [if_pos hs]
    refine Wj.2 ⟨fun y hy=>?_,h2⟩
    have:=h1 y hy
    unfold ltR at this ⊢
    rw [<-(Zda x s).1 hs];exact this
   ·rw [if_neg hs]
    have hsx:=Zms hnl (by simpa using hs)
    refine Wj.2 ⟨fun y hy=>?_,h⟩
    rcases XH.1 hy with rfl | hy
    ·exact hsx
    ·exact ZiK hsx (h1 y hy)
def Zd5 (f k:List UInt8):ZR:=⟨f,k,0⟩
theorem Zjo (f k:List UInt8):∀ L:List ZR,L.Pairwise ltR->Zcd L f k=(L.filter (fun x=>!ZaH x (Zd5 f k)),L.any fun x=>ZaH x (Zd5 f k))
 | [],_=>rfl
 | x::r,h=>by
  obtain ⟨h1,h2⟩:=Wj.1 h
  have ih:=Zjo f k r h2
  have hk:(x.f=f/\x.k=k)↔ZaH x (Zd5 f k)=true:=by
   rw [Zda];unfold kyR Zd5;simp
  unfold Zcd at *
  by_cases hx:x.f=f/\x.k=k
  ·have e:Zd3 f k (x::r)=some 0:=by rw [Zd3,if_pos hx]
   have hs:=hk.1 hx
   rw [e]
   simp only [List.take_zero,XE,XM,Xax,XaR]
   rw [Xbg,hs,XX,hs]
   simp only [Xaj,Xi,if_false,Bool.true_or]
   rw [Xbo.2]
   intro y hy
   have:=ZfL (h1 y hy)
   have e2:=(Zda x _).1 hs
   have : ZaH y (Zd5 f k)=false:=by
    cases e3:ZaH y (Zd5 f k) with
    | false=>rfl
    | true =>
     have:=(Zda y _).1 e3
     rw [(Zda x y).2 (e2.trans this.symm)] at *
     cases ‹true=false›
   simp [this]
  ·have hs:ZaH x (Zd5 f k)=false:=by
    cases e3:ZaH x (Zd5 f k) with
    | false=>rfl
    | true=>exact absurd (hk.2 e3) hx
   have e:Zd3 f k (x::r)=(Zd3 f k r).map (·+1):=by rw [Zd3,if_neg hx]
   rw [e,Xbg,hs,XX,hs]
   simp only [W3,if_true,Xby]
   cases hf:Zd3 f k r with
   | none=>rw [hf] at ih;simp only [Xb] at ih;simp only [Option.map_none,Xb];exact ⟨by rw [<-ih.1],ih.2⟩
   | some j=>rw [hf] at ih;simp only [Xb] at ih;simp only [Option.map_some,Xb,List.take_succ_cons,Xax,XP];exact ⟨by rw [<-ih.1],ih.2⟩
end
section
structure TInv (ns:List TN) (L:List ZR):Prop where
 wf:WF ns
 sort:L.Pairwise ltR
 tab:∀ x:ZR,x ∈ L↔Zbi x.f=true/\Zbf ns (ZM x.f) x.k=some x.v
 ok:∀ q k v,Zbf ns q k=some v->∃ f,Zbi f=true/\q=ZM f
theorem ZsL (q:List Tx) (k:Tx):Zbf [([],[])] q k=none:=by
 cases q with
 | nil=>rfl
 | cons l q=>simp [Zbf,goT,ZS]
theorem TInv.nil:TInv [([],[])] [] :=
 ⟨WF.nil,WH,fun x=>by rw [ZsL];simp,fun q k v h=>by rw [ZsL] at h;cases h⟩
theorem TInv.nodup {ns:List TN} {L:List ZR} (h:TInv ns L):L.Nodup:=h.sort.imp fun h e=>by subst e;exact Zjt _ h
theorem Zei (x:ZR) (f k:Tx) (v:Int):ZaH x ⟨f,k,v⟩=true↔x.f=f/\x.k=k:=by
 rw [Zda];unfold kyR;simp
theorem TInv.any {ns:List TN} {L:List ZR} (h:TInv ns L) (f k:Tx) (v:Int):(L.any fun x=>ZaH x ⟨f,k,v⟩)=(Zbf ns (ZM f) k).isSome:=by
 rw [Xau,XaB]
 constructor
 ·rintro ⟨x,hx,hs⟩
  obtain ⟨rfl,rfl⟩:=(Zei x f k v).1 hs
  rw [((h.tab x).1 hx).2];rfl
 ·intro hg
  obtain ⟨v',hv⟩:=Option.isSome_iff_exists.1 hg
  obtain ⟨f',hf,he⟩:=h.ok _ _ _ hv
  have:=ZiP he
  subst this
  exact ⟨⟨f,k,v'⟩,(h.tab _).2 ⟨hf,hv⟩,(Zei _ f k v).2 ⟨rfl,rfl⟩⟩
theorem Zqj (s:ZR):∀ L:List ZR,L.Pairwise ltR->(Zdq s L).length=if L.any (fun x=>ZaH x s) then L.length else L.length+1
 | [],_=>rfl
 | x::r,h=>by
  obtain ⟨h1,h2⟩:=Wj.1 h
  unfold Zdq
  by_cases hl:ZfG x s=true
  ·have hs:=ZfL ((ZhA x s).1 hl)
   rw [if_pos hl,Xv,Zqj s r h2,XX,hs,Xby]
   split <;> simp
  ·have hnl:¬ltR x s:=fun e=>hl ((ZhA x s).2 e)
   rw [if_neg hl]
   by_cases hs:ZaH x s=true
   ·rw [if_pos hs,XX,hs];simp
   ·rw [if_neg hs]
    have hsx:=Zms hnl (by simpa using hs)
    have : (r.any fun x=>ZaH x s)=false:=by
     rw [Bool.eq_false_iff]
     intro e
     obtain ⟨y,hy,he⟩:=XaB.1 e
     have:=ZfL (ZiK hsx (h1 y hy))
     rw [Zla] at this
     rw [this] at he;cases he
    have hs':ZaH x s=false:=by simpa using hs
    rw [XX,this,hs']
    simp
theorem Zqn (s:ZR) {L:List ZR} (h:L.Pairwise ltR) (x:ZR):x ∈ Zdq s L↔x=s\/(x ∈ L/\ZaH x s=false):=by
 rw [(ZoW s L h).mem_iff,XH,Wq]
 simp
theorem TInv.put {ns:List TN} {L:List ZR} (h:TInv ns L) {f:Tx} (hf:Zbi f=true) (k:Tx) (v:Int):TInv (Zap k v (ZM f) ns 0).1 (ZcH L ⟨f,k,v⟩) /\
  ((ZcH L ⟨f,k,v⟩).length:Int)=if (Zap k v (ZM f) ns 0).2 then (L.length:Int) else L.length+1:=by
 obtain ⟨p1,p2,p3⟩:=ZlX k v (ZM f) ns 0 [] h.wf rfl
 rw [XE] at p2 p3
 rw [Zjh]
 refine ⟨⟨p1,Zn1 _ L h.sort,fun x=>?_,fun q k' v' hg=>?_⟩,?_⟩
 ·rw [Zqn _ h.sort,p3,h.tab]
  constructor
  ·rintro (rfl | ⟨h1,h2⟩)
   ·exact ⟨hf,by simp⟩
   ·refine ⟨h1.1,?_⟩
    rw [if_neg,h1.2]
    rintro ⟨e1,e2⟩
    rw [(Zei x f k v).2 ⟨ZiP e1,e2⟩] at h2;cases h2
  ·rintro ⟨h1,h2⟩
   split at h2
   ·rename_i e
    left
    injection h2 with h2
    obtain ⟨xf,xk,xv⟩:=x
    simp only at e h2
    rw [ZiP e.1,e.2,h2]
   ·rename_i e
    right
    refine ⟨⟨h1,h2⟩,?_⟩
    cases hs:ZaH x ⟨f,k,v⟩ with
    | false=>rfl
    | true =>
     obtain ⟨e1,e2⟩:=(Zei x f k v).1 hs
     exact absurd ⟨by rw [e1],e2⟩ e
 ·rw [p3] at hg
  split at hg
  ·rename_i e;exact ⟨f,hf,e.1⟩
  ·exact h.ok q k' v' hg
 ·rw [Zqj _ L h.sort,h.any,p2]
  split <;> simp
theorem ZwN (f k:Tx) (L:List ZR) (h:L.Pairwise ltR):((Zcd L f k).1.length:Int)=if (Zcd L f k).2 then (L.length:Int) - 1 else L.length:=by
 have hj:∀ (L:List ZR) (j:Nat),Zd3 f k L=some j->j < L.length:=by
  intro L
  induction L with
  | nil=>intro j h;simp [Zd3] at h
  | cons x r ih =>
   intro j h
   unfold Zd3 at h
   split at h
   ·injection h with h;subst h;simp
   ·obtain ⟨i,hi,rfl⟩:=Xq.1 h
    have:=ih i hi
    simp;omega
 unfold Zcd
 cases hf:Zd3 f k L with
 | none=>rfl
 | some j =>
  have:=hj L j hf
  simp only [if_true,XL,List.length_take,WX]
  omega
theorem TInv.drop {ns:List TN} {L:List ZR} (h:TInv ns L) (f k:Tx):TInv (Zab k (ZM f) ns 0).1 (Zcd L f k).1/\(Zab k (ZM f) ns 0).2=(Zcd L f k).2 /\
  ((Zcd L f k).1.length:Int)=if (Zcd L f k).2 then (L.length:Int) - 1 else L.length:=by
 obtain ⟨p1,p2,p3,_⟩:=Zos k (ZM f) ns 0 [] h.wf rfl
 rw [XE] at p2 p3
 refine ⟨?_,?_,ZwN f k L h.sort⟩
 ·rw [Zjo f k L h.sort]
  refine ⟨p1,h.sort.filter _,fun x=>?_,fun q k' v' hg=>?_⟩
  ·rw [Wq,p3,h.tab]
   unfold Zd5
   constructor
   ·rintro ⟨h1,h2⟩
    refine ⟨h1.1,?_⟩
    rw [if_neg,h1.2]
    rintro ⟨e1,e2⟩
    rw [(Zei x f k 0).2 ⟨ZiP e1,e2⟩] at h2;cases h2
   ·rintro ⟨h1,h2⟩
    split at h2
    ·cases h2
    ·rename_i e
     refine ⟨⟨h1,h2⟩,?_⟩
     cases hs:ZaH x ⟨f,k,0⟩ with
     | false=>rfl
     | true =>
      obtain ⟨e1,e2⟩:=(Zei x f k 0).1 hs
      exact absurd ⟨by rw [e1],e2⟩ e
  ·rw [p3] at hg
   split at hg
   ·cases hg
   ·exact h.ok q k' v' hg
 ·rw [p2,Zjo f k L h.sort]
  exact (h.any f k 0).symm
def ZiH (f k:Tx) (a:Int×Bool) (l:List ZR):Int×Bool:=l.foldl (fun a x=>if x.f=f/\x.k=k then (x.v,true) else a) a
theorem ZnP (f k:Tx):∀ (L:List ZR) (a:Int×Bool),(∀ x ∈ L,¬(x.f=f/\x.k=k))->ZiH f k a L=a
 | [],a,_=>rfl
 | x::r,a,h=>by
  have:=h x (by simp)
  unfold ZiH
  rw [Wn,if_neg this]
  exact ZnP f k r a fun y hy=>h y (by simp [hy])
theorem ZpM (f k:Tx):∀ (L:List ZR) (a:Int×Bool) (x:ZR),L.Pairwise ltR->x ∈ L->x.f=f->x.k=k->ZiH f k a L=(x.v,true)
 | y::r,a,x,hn,hx,he,hk=>by
  obtain ⟨h1,h2⟩:=Wj.1 hn
  unfold ZiH
  rw [Wn]
  rcases XH.1 hx with rfl | hx
  ·rw [if_pos ⟨he,hk⟩]
   refine ZnP f k r _ fun z hz e=>?_
   have:=ZfL (h1 z hz)
   rw [(Zda x z).2 (by unfold kyR;rw [he,hk,e.1,e.2])] at this;cases this
  ·rw [if_neg]
   ·exact ZpM f k r a x h2 hx he hk
   ·rintro ⟨e1,e2⟩
    have:=ZfL (h1 x hx)
    rw [(Zda y x).2 (by unfold kyR;rw [he,hk,e1,e2])] at this;cases this
theorem TInv.want {ns:List TN} {L:List ZR} (h:TInv ns L) (f k:Tx):ZiH f k (0,false) L=((Zbf ns (ZM f) k).getD 0,(Zbf ns (ZM f) k).isSome):=by
 have ha:=h.any f k 0
 cases hg:Zbf ns (ZM f) k with
 | none =>
  rw [hg] at ha
  refine ZnP f k L _ fun x hx e=>?_
  have : (L.any fun x=>ZaH x ⟨f,k,0⟩)=true:=XaB.2 ⟨x,hx,(Zei x f k 0).2 e⟩
  rw [ha] at this;cases this
 | some v =>
  rw [hg] at ha
  obtain ⟨x,hx,hs⟩:=XaB.1 ha
  obtain ⟨rfl,rfl⟩:=(Zei x f k 0).1 hs
  have:=((h.tab x).1 hx).2
  rw [hg] at this;injection this with this;subst this
  exact ZpM x.f x.k L _ x h.sort hx rfl rfl
theorem TInv.hit {ns:List TN} {L:List ZR} (h:TInv ns L) {n:Tx} (hn:Zcy n=true) :
  ∃ R:List ZR,ZbE ns (ZM n) (n.headD 0 == 36) [0] 0=R.map ZY/\(L.filter fun x=>Zgi x.f n).Perm R:=by
 refine ⟨(Zc4 ns (ZM n) (n.headD 0 == 36) 0).map (Zfp [0]),?_,?_⟩
 ·rw [Zlh,Wm];rfl
 ·have hm:∀ x:PR3,x ∈ Zc4 ns (ZM n) (n.headD 0 == 36) 0->∃ f,Zbi f=true/\x.1=ZM f/\Zbf ns (ZM f) x.2.1=some x.2.2/\mt (n.headD 0 == 36) (ZM f) (ZM n)=true:=by
   rintro ⟨q,k,v⟩ hx
   obtain ⟨h1,h2⟩:=(ZgE ns k v _ _ _ _).1 hx
   have h3:=(ZpZ h.wf q k v).2 h1
   obtain ⟨f,hf,rfl⟩:=h.ok _ _ _ h3
   exact ⟨f,hf,rfl,h3,h2⟩
  have hr:∀ (x:PR3) (f:Tx),Zbi f=true->x.1=ZM f->Zfp [0] x=⟨f,x.2.1,x.2.2⟩:=by
   intro x f hf he
   unfold Zfp
   rw [he,Zyu (Zwb hf)]
  refine (List.perm_ext_iff_of_nodup (List.Pairwise.filter _ h.nodup) (ZjG ?_ (ZnQ h.wf _ _ _ (Zqk hn)))).2 fun x=>?_
  ·intro a ha b hb he
   obtain ⟨f,hf,h1,_⟩:=hm a ha
   obtain ⟨g,hg,h2,_⟩:=hm b hb
   rw [hr a f hf h1,hr b g hg h2] at he
   simp only [ZR.mk.injEq] at he
   obtain ⟨a1,a2,a3⟩:=a
   obtain ⟨b1,b2,b3⟩:=b
   simp only at *
   rw [h1,h2,he.1,he.2.1,he.2.2]
  ·rw [Wq,h.tab,XJ]
   constructor
   ·rintro ⟨⟨h1,h2⟩,h3⟩
    refine ⟨(ZM x.f,x.k,x.v),(ZgE ns _ _ _ _ _ _).2 ⟨(ZpZ h.wf _ _ _).1 h2,?_⟩,?_⟩
    ·rw [Zqh h1 hn];exact h3
    ·rw [hr _ x.f h1 rfl]
   ·rintro ⟨y,hy,rfl⟩
    obtain ⟨f,hf,h1,h2,h3⟩:=hm y hy
    rw [hr y f hf h1]
    rw [Zqh hf hn] at h3
    exact ⟨⟨hf,h2⟩,h3⟩
end
section
abbrev trV (u:Nat) (n:Int):List AVal:=[.nref u 0 0,.int .i64 n]
theorem Zjb {view:Bool} {ns:List TN} {n:Int} {q:AVal} (hq:Zay q=true) (hv:viewR (trH ns n) q=some (q,[])):Zba view 2 (some (q,trH ns n))=some (q,trH ns n):=by
 unfold Zba
 split
 ·have hnp:∀ x,q=.pan x->False:=by rintro x rfl;simp [viewR,Zco,ZbH] at hv
  have : Zd6 2 (some (q,trH ns n))=(match viewR (trH ns n) q with
   | some (r',ts)=>match gcA 2 [r'] (ZU (trH ns n) ts) with
    | ([r''],σ')=>some (r'',σ')
    | _=>none
   | none=>none):=by
   cases q <;> first | rfl | exact (hnp _ rfl).elim
  rw [this,hv]
  exact ZfB hq ns n []
 ·rfl
theorem Zgt {O:Z7} {f own:Nat} {view:Bool} {args:List AVal} {ns ns':List TN} {n n':Int} {q r0:AVal} {h0:Za} (hq:Zay q=true) (h:O f (.ref 0 0::args) (trH ns n)=some (r0,h0)) (hask:Zba view 2 (some (r0,h0))=some (q,trH ns' n')) (hb:BY f=false) (hp:args.all ZaD=true) (hn:args.map Zak=args)
  (hlen:ns.length<=ns'.length) {σ:Za} {t u sq:Nat} (htu:t≠u) (hs:σ[t]?=some (.var (trV u n))) (hm:σ[u]?=some (.arena (eNs ns))) (hff:Zbe σ sq own=true) :
  ZX O BY σ sq f own view (.ref t 0::args)=some (q,(σ.set t (.var (trV u n'))).set u (.arena (eNs ns')),{ any:=true,upd:=[(t,trV u n')] }):=by
 have htl:t < σ.length:=(Xc.1 hs).1
 have hul:u < σ.length:=(Xc.1 hm).1
 have h1:σ.getD t .free=.var (trV u n):=by simp [Xe,hs]
 have h2:σ.getD u .free=.arena (eNs ns):=by simp [Xe,hm]
 have hsh:showAs σ (.ref t 0::args)=some (.ref t 0::args.map Zak,[]):=by
  rw [showAs,show showA σ (.ref t 0)=some (.ref t 0,[]) from rfl,ZhQ hp]
  rfl
 have href:ZZ (.ref t 0::args.map Zak)=[t]:=by
  rw [ZZ,ZiD hp];rfl
 have hre:Zf σ 1000 (ZZ (.ref t 0::args.map Zak)) []=[t,u]:=by
  have e0:([]:List Nat).contains t=false:=rfl
  have e1:([t]:List Nat).contains u=false:=by simp;exact fun e=>htu e.symm
  rw [href,show (1000:Nat)=997+1+1+1 from rfl]
  have hb0:Zu (.var (trV u n))=[u]:=rfl
  have hb1:Zu (.arena (eNs ns))=[]:=rfl
  simp only [Zf,e0,h1,hb0,hb1,XU,XE,Xan,Xi,if_false,e1,h2,XP]
 have hρt:Zc σ 0 [t,u] t 0=some (0,0):=by simp [Zc,Zt,hs,Zb,Zi]
 have hρu:Zc σ 0 [t,u] u (1001+3*0)=some (1,1001+3*0):=ZfT (j:=0) hm (by simp [Zt,htu]) (by omega)
 have hvs:ZW (Zc σ 0 [t,u]) (.ref t 0::args.map Zak)=.ref 0 0::args:=by
  rw [ZW,ZiG hp,hn]
  simp only [Zv,hρt]
 have hh:Ze σ 0 [t,u] (Zc σ 0 [t,u]) [t,u] 0=trH ns n:=by
  simp only [Ze,h1,h2,Zd,ZW,Zv,hρu,if_true,trH]
 have hall:([t,u].all fun t=>okB (σ.getD t .free))=true:=by simp only [Xr,Xy,h1,h2,okB,Wy]
 have hk:ZaW σ [t,u] (trH ns' n') 0=true:=by simp [trH,ZaW,okB,Zb6,Zb,hs,hm,ZfK,hlen]
 have hρb:Zbg σ [t,u] sq 1 (1001+3*0)=some (u,1001+3*0):=by
  simp [Zbg,Zb,hm]
 have hlay:ZaI σ [t,u] sq (trH ns' n') 0 σ=(σ.set t (.var (trV u n'))).set u (.arena (eNs ns')):=by
  simp only [trH,ZaI,Zaw,Xs,Xx,Zd,ZW,Zv,hρb,if_true]
 refine Zfg hb hsh hre rfl hall hvs hh h hask (by simp [trH]) (by simp [trH]) hk hff (Zec _ q hq).1 hlay ?_
 have h3:((σ.set t (.var (trV u n'))).set u (.arena (eNs ns')))[t]?=some (.var (trV u n')):=by
  rw [Xt,if_neg (fun e=>htu e.symm),Xt,if_pos rfl,if_pos htl]
 have h4:((σ.set t (.var (trV u n'))).set u (.arena (eNs ns')))[u]?=some (.arena (eNs ns')):=by
  rw [Xt,if_pos rfl,if_pos (by simpa using hul)]
 simp [ZbP,h3,h4]
theorem ZFa {σ:Za} {sq:Nat} (hff:Zbe σ sq 2=true) :
  ZX E BY σ sq 7 2 false []=some (.ref sq 0,(σ.set sq (.var (trV (sq+1) 0))).set (sq+1) (.arena (eNs [([],[])])),{ any:=true }):=by
 have hd:ZgM 2 (.ref 0 0) (trH [([],[])] 0)=none:=rfl
 have hk:ZaW σ [] (trH [([],[])] 0) 0=true:=rfl
 unfold ZX ZcZ
 rw [show BY 7=false from by kernel_rfl]
 simp only [Xi,if_false,show showAs σ []=some ([],[]) from rfl,show ZU σ []=σ from rfl,ZZ]
 have h2:∀ σ,Zf σ 1000 [] []=[]:=fun _=>rfl
 rw [h2]
 unfold Zb0
 simp only [Xy,if_true,ZW,Ze,XC,ZII]
 have hk2:decide ((trH [([],[])] 0).length<=0+2)=true:=rfl
 simp only [Zba,Xi,if_false,ZaV,List.isEmpty_nil,show (trH [([],[])] 0).isEmpty=false from rfl,XbG,if_true,hd,XC,hk2,Xbx,decide_true,hk,hff,Wy]
 simp [trH,ZaI,Zaw,Zbg,Zd,ZW,Zv,ZbP]
theorem Zlg {f:Tx} (hf:f.length<=1048576):(ZM f).length<=2000000:=by
 have h1:=Zjd f
 have h2:=XaP (a:=(47:UInt8)) (l:=f)
 omega
section
variable {ns:List TN} {L:List ZR} (hI:TInv ns L) (hL:L.length<=1000) {σ:Za} {t u sq:Nat} (htu:t≠u) (hs:σ[t]?=some (.var (trV u (L.length:Int)))) (hm:σ[u]?=some (.arena (eNs ns)))
include hI hL htu hs hm
theorem Zmz (f k:Tx) (v:Int) (hf:f.length<=1048576) (hb:Zbi f=true):ZX E BY σ sq 9 0 true [.ref t 0,.str f,.str k,.int .i64 v] =
  some (.int .i64 0,(σ.set t (.var (trV u ((ZcH L ⟨f,k,v⟩).length:Int)))).set u (.arena (eNs (Zap k v (ZM f) ns 0).1)),{ any:=true,upd:=[(t,trV u ((ZcH L ⟨f,k,v⟩).length:Int))] }):=by
 have hq:=ZqM ns hI.wf.cl hI.wf.pos (L.length:Int) (by omega) f k v hf (Zlg hf)
 rw [if_pos hb,<-(hI.put hb k v).2] at hq
 exact Zgt rfl hq (Zjb rfl rfl) (by kernel_rfl) rfl rfl (Zjq k v _ ns 0) htu hs hm rfl
theorem Zmn (f k:Tx) (v:Int) (hf:f.length<=1048576) (hb:Zbi f=false):ZX E BY σ sq 9 0 true [.ref t 0,.str f,.str k,.int .i64 v] =
  some (.int .i64 150,(σ.set t (.var (trV u (L.length:Int)))).set u (.arena (eNs ns)),{ any:=true,upd:=[(t,trV u (L.length:Int))] }):=by
 have hq:=ZqM ns hI.wf.cl hI.wf.pos (L.length:Int) (by omega) f k v hf (Zlg hf)
 rw [if_neg (by simp [hb])] at hq
 exact Zgt rfl hq (Zjb rfl rfl) (by kernel_rfl) rfl rfl (XQ _) htu hs hm rfl
theorem ZoM (hS:Small ns) (f k:Tx) (hf:f.length<=1048576):ZX E BY σ sq 10 0 true [.ref t 0,.str f,.str k] =
  some (.bool (Zcd L f k).2,(σ.set t (.var (trV u ((Zcd L f k).1.length:Int)))).set u (.arena (eNs (Zab k (ZM f) ns 0).1)),{ any:=true,upd:=[(t,trV u ((Zcd L f k).1.length:Int))] }):=by
 have hq:=Zw3 ns hI.wf.cl hS hI.wf.pos (L.length:Int) (by omega) f k hf (Zlg hf)
 obtain ⟨_,h2,h3⟩:=hI.drop f k
 rw [h2,<-h3] at hq
 exact Zgt rfl hq (Zjb rfl rfl) (by kernel_rfl) rfl rfl (Nat.le_of_eq (Zkl k _ ns 0).symm) htu hs hm rfl
omit hI hL in
theorem ZoB:ZX E BY σ sq 12 0 true [.ref t 0] =
  some (.int .i64 (L.length:Int),(σ.set t (.var (trV u (L.length:Int)))).set u (.arena (eNs ns)),{ any:=true,upd:=[(t,trV u (L.length:Int))] }) :=
 Zgt rfl (ZHj ns (L.length:Int)) (Zjb rfl rfl) (by kernel_rfl) rfl rfl (XQ _) htu hs hm rfl
end
def ZgC (n:Tx) (L:List ZR):List ZR:=if Zcy n then L.filter fun x=>Zgi x.f n else []
theorem Zxo (ns:List TN) (n:Int) (k:Nat) (Y:List AVal) (hk:k=Y.length):Zba true 2 (some (.sl 2 0 0 k,trH ns n++[.row 0 3 Y]))=some (.lst false Y,trH ns n):=by
 have hv:viewR (trH ns n++[.row 0 3 Y]) (.sl 2 0 0 k)=some (.lst false Y,[2]):=by
  unfold trH
  simp only [viewR,Zco,ZbH,Zl,XP,XE,List.getElem?_cons_succ,List.getElem?_cons_zero,XM]
  rw [if_pos ⟨trivial,by omega⟩]
  simp [hk]
 have e:Zba true 2 (some (.sl 2 0 0 k,trH ns n++[.row 0 3 Y]))=(match viewR (trH ns n++[.row 0 3 Y]) (.sl 2 0 0 k) with
  | some (r',ts)=>match gcA 2 [r'] (ZU (trH ns n++[.row 0 3 Y]) ts) with
   | ([r''],σ')=>some (r'',σ')
   | _=>none
  | none=>none):=rfl
 rw [e,hv]
 exact ZfB (r:=.lst false Y) rfl ns n [.frow 0 3 Y]
theorem ZpK (ns:List TN) (n:Int):Zba true 2 (some (.lst true [],trH ns n))=some (.lst false [],trH ns n) :=
 ZfB (r:=.lst false []) rfl ns n []
theorem Zrc {ns:List TN} {L:List ZR} (hI:TInv ns L) (hL:L.length<=1000) {σ:Za} {t u sq:Nat} (htu:t≠u) (hs:σ[t]?=some (.var (trV u (L.length:Int)))) (hm:σ[u]?=some (.arena (eNs ns))) (name:Tx) :
  ZX E BY σ sq 11 0 true [.ref t 0,.str name]=some (.lst false ((ZgC name L).map ZY),(σ.set t (.var (trV u (L.length:Int)))).set u (.arena (eNs ns)),{ any:=true,upd:=[(t,trV u (L.length:Int))] }):=by
 unfold ZgC
 cases hn:Zcy name with
 | false=>exact Zgt rfl (ZCE ns (L.length:Int) name hn) (ZpK ns _) (by kernel_rfl) rfl rfl (XQ _) htu hs hm rfl
 | true =>
  rw [if_pos rfl]
  obtain ⟨R,h1,h2⟩:=hI.hit hn
  have hsr:(L.filter fun x=>Zgi x.f name).Pairwise ltR:=hI.sort.filter _
  generalize hSd:(L.filter fun x=>Zgi x.f name)=S at *
  have hSl:S.length<=L.length:=by rw [<-hSd];exact List.length_filter_le _ _
  cases R with
  | nil =>
   have : S=[]:=h2.eq_nil
   subst this
   exact Zgt rfl (Zvl ns hI.wf.cl hI.wf.pos (L.length:Int) name hn h1) (ZpK ns _) (by kernel_rfl) rfl rfl (XQ _) htu hs hm rfl
  | cons x d =>
   have hl:=h2.length_eq
   exact Zgt rfl (Ztj ns hI.wf.cl hI.wf.pos (L.length:Int) name hn x d h1 (by omega) h2 hsr) (Zxo ns _ _ _ (by rw [WC,<-hl])) (by kernel_rfl) rfl rfl (XQ _) htu hs hm rfl
def Bnd (c:Nat) (ns:List TN):Prop:=∀ (j:Nat) (d:TN),ns[j]?=some d->d.1.length+d.2.length<=c
theorem Bnd.set {c:Nat} {ns:List TN} (h:Bnd c ns) {j:Nat} {d:TN} (hd:d.1.length+d.2.length<=c):Bnd c (ns.set j d):=by
 intro i d' hi
 rw [Xt] at hi
 by_cases e:j=i
 ·rw [if_pos e] at hi
  split at hi
  ·injection hi with hi;subst hi;exact hd
  ·cases hi
 ·rw [if_neg e] at hi;exact h i d' hi
theorem Bnd.mono {c c':Nat} {ns:List TN} (h:Bnd c ns) (hc:c<=c'):Bnd c' ns:=fun j d hd=>XaI (h j d hd) hc
theorem ZnU {α:Type} (n:Tx) (v:α):∀ M:List (Tx×α),(Zbl n v M).length<=M.length+1
 | []=>XQ _
 | p::M=>by
  simp only [Zbl]
  split
  ·simp
  ·have:=ZnU n v M;simp only [Xv];omega
theorem ZmP (k:Tx) (v:Int) (c:Nat):∀ (r:List Tx) (ns:List TN) (j:Nat),Closed ns->Bnd (c+1) ns->(∀ (i:Nat) (d:TN),j<=i->ns[i]?=some d->d.1.length+d.2.length<=c)->Bnd (c+1) (Zap k v r ns j).1
 | [],ns,j,hC,h,h2=>by
  simp only [Zap]
  split
  ·rename_i d hd
   refine h.set ?_
   have:=h2 j d (XQ _) hd
   have:=ZnU k v d.1
   simp only;omega
  ·exact h
 | l::r,ns,j,hC,h,h2=>by
  simp only [Zap]
  split
  ·rename_i d hd
   have hj:=(Xc.1 hd).1
   split
   ·rename_i i hi
    have:=hC.next hd hi
    exact ZmP k v c r ns i hC h fun i' d' hi' hd'=>h2 i' d' (by omega) hd'
   ·have hN:Bnd (c+1) (newN ns j d l):=by
     intro i' d' hd'
     by_cases e1:i'=j
     ·subst e1
      rw [Zgv hj] at hd'
      injection hd' with hd';subst hd'
      have:=h2 i' d (XQ _) hd
      have:=ZnU l ns.length d.2
      simp only;omega
     ·by_cases e2:i' < ns.length
      ·rw [ZhZ d l e2 e1] at hd';exact h i' d' hd'
      ·have hlt:=(Xc.1 hd').1
       rw [ZfP] at hlt
       have : i'=ns.length:=by omega
       subst this
       rw [Zhx] at hd';injection hd' with hd';subst hd';simp
    refine ZmP k v c r (newN ns j d l) ns.length (hC.newN hd l) hN fun i' d' hi' hd'=>?_
    have hlt:=(Xc.1 hd').1
    rw [ZfP] at hlt
    have : i'=ns.length:=by omega
    subst this
    rw [Zhx] at hd';injection hd' with hd';subst hd';simp
  ·exact h
theorem Bnd.put {c:Nat} {ns:List TN} (h:Bnd c ns) (hC:Closed ns) (k:Tx) (v:Int) (r:List Tx) (j:Nat):Bnd (c+1) (Zap k v r ns j).1 :=
 ZmP k v c r ns j hC (h.mono (Nat.le_succ _)) fun i d _ hd=>h i d hd
theorem Bnd.drop {c:Nat} (k:Tx):∀ (r:List Tx) (ns:List TN) (j:Nat),Bnd c ns->Bnd c (Zab k r ns j).1
 | [],ns,j,h=>by
  simp only [Zab]
  split
  ·rename_i d hd
   refine h.set ?_
   have:=h j d hd
   have:=ZhU k d.1
   simp only;omega
  ·exact h
 | l::r,ns,j,h=>by
  simp only [Zab]
  split
  ·split
   ·rename_i i hi
    have h0:=Bnd.drop k r ns i h
    split
    ·split
     ·rename_i di dj h1 h2
      split
      ·refine h0.set ?_
       have:=h0 j dj h2
       have:=ZhU l dj.2
       simp only;omega
      ·exact h0
     ·exact h
    ·exact h0
   ·exact h
  ·exact h
theorem Bnd.nil:Bnd 0 [([],[])]:=by
 intro j d h
 cases j with
 | zero=>simp at h;subst h;simp
 | succ j=>simp at h
end
section
end
section
set_option maxRecDepth 100000
theorem ZGj:E 8 [] []=some (.bool true,[]):=ZcL.2 ⟨30,by kernel_rfl⟩
end
section
structure Zbs where
 d:Int
 v:Int
 f:List UInt8
 k:List UInt8
 deriving Inhabited
def Zag (s:Zbs):AVal:=.agg [.int .i64 s.d,.int .i64 s.v,.str s.f,.str s.k]
theorem Zz7 (σ:Za) (sq own:Nat) (view:Bool):ZX E BY σ sq 8 own view []=some (.bool true,σ,{}) :=
 Zcc (ZGj) (by kernel_rfl) (by simp -implicitDefEqProofs only [Za7,Za3,Zm,Zr,Zq,Za4,Zn,Zs,Zo,Za2,Zp,eq_self,implies_true,Xi,Zj,ZA,ZD,ZB,ZC,]) (by simp -implicitDefEqProofs only [Za7,Za3,Zm,Zr,Zq,Za4,Zn,Zs,Zo,Za2,Zp,eq_self,implies_true,Xi,Zj,ZA,ZD,ZB,ZC,]) rfl (fun _=>rfl) _ _ _ _
end
section
abbrev Zcw (B A:List TN) (nb na:Int):Za:=[.var (trV 1 nb),.arena (eNs B),.var (trV 3 na),.arena (eNs A)]
def Zbp:Tx:=[111,100,100,32,111,110,101]
section
variable (sc od:List Zbs) (nm:Tx)
noncomputable abbrev kO9 (i:Nat) (B A:List TN) (nb na:Int):=Zfu 0 [(9,.int .i64 (i:Int)),(8,.ref 0 0),(7,.ref 2 0),(2,.lst false (od.map Zag)),(1,.str nm),(0,.lst false (sc.map Zag))] (Zcw B A nb na)
noncomputable abbrev Zd4 (i:Nat) (B A:List TN) (nb na:Int):=Zib 0 [(10,.int .i64 (i:Int)),(8,.ref 0 0),(7,.ref 2 0),(2,.lst false (od.map Zag)),(1,.str nm),(0,.lst false (sc.map Zag))] (Zcw B A nb na)
noncomputable abbrev Zd2 (i:Int) (B A:List TN) (nb na:Int):=ZhX 0 [(11,.int .i64 i),(8,.ref 0 0),(7,.ref 2 0),(2,.lst false (od.map Zag)),(1,.str nm),(0,.lst false (sc.map Zag))] (Zcw B A nb na)
noncomputable abbrev Zfk (i:Nat) (B A:List TN) (nb na:Int):=Zkj 0 [(12,.int .i64 (i:Int)),(8,.ref 0 0),(7,.ref 2 0),(2,.lst false (od.map Zag)),(1,.str nm)] (Zcw B A nb na)
variable {R:Option (AVal×Za)}
theorem Zea (l:List Zbs):(l.map Zag).length=l.length:=by simp
theorem Zgc (x:Zbs):(Zag x).cells=[.int .i64 x.d,.int .i64 x.v,.str x.f,.str x.k]:=rfl
section
variable {i:Nat} {x:Zbs} (hx:sc[i]?=some x) (hsc:sc.length<=40) (hf:x.f.length<=1048576) (B A:List TN)
include hx hsc hf
theorem ZwB (nb:Int) {LA:List ZR} (hI:TInv A LA) (hLA:LA.length<=1000) (hb:Zbi x.f=true) (hR:kO9 sc od nm (i+1) B (Zap x.k x.f.length (ZM x.f) A 0).1 nb ((ZcH LA ⟨x.f,x.k,x.f.length⟩).length)=R):kO9 sc od nm i B A nb LA.length=R:=by
 have hil:i < sc.length:=(Xc.1 hx).1
 have h1:(i:Int) < sc.length:=by omega
 have hm:=Zea sc
 have e1:=iad hx Zag (k:=4) rfl
 rw [Zgc] at e1
 have e3:IntKind.i64.wrap ((i:Int)+1)=((i+1:Nat):Int):=Zfi (n:=120) (by omega) (by decide)
 have q1:=fun {σ:Za} {sq:Nat} hs hm=>Zmz hI hLA (σ:=σ) (t:=2) (u:=3) (sq:=sq) (by decide) hs hm x.f x.k x.f.length hf hb
 subst hR
 unfold kO9 Zcw trV at *
 generalize eNs (Zap x.k x.f.length (ZM x.f) A 0).1=A' at *
 generalize (ZcH LA ⟨x.f,x.k,x.f.length⟩).length=na' at *
 generalize (LA.length:Int)=na at *
 generalize eNs A=EA at *
 generalize eNs B=EB at *
 generalize sc.map Zag=SC at *
 generalize od.map Zag=OD at *
 unfold Zfu
 rw [Zbn]
 simp -implicitDefEqProofs only [EQA,Zm,Zr,Zq,Zn,Zs,Zo,Zp,ZJ,ZN,ZO,ZL,ZI,ZP,ZK,ZH,ZQ,implies_true,forall_const,Xk,Xm,Xo,Xf,Xg,Xl,Xn,ZF,ZG,unA,Zx,Zz,unG,reduceCtorEq,Zl,decide_eq_true_eq,Xh,Xd,ite_self,↓reduceIte,Zw,ZE,gcT,gcA,Zh,Zf,Zc,Ze,Zt,Zb,Zi,Zd,Zu,Xj,ZcN,Zcs,ZcR,ZdB,Zdh,Zdw,Zdg,ZdO,Zc1,Zdu,Zc9,ZdN,Zc8,ZdD,Zdi,ZdP,Zc3,ZdL,Zc7,ZdK,Zdc,ZdH,Zc2,Zj,ZA,ZD,ZB,ZC,ZV,h1,hm,e1,e3,q1,Z5,Z2,Z4,Z3,AVal.cells,Za0,ZaX,Zbd,ZaG,XX,X6,Xr,Xy,Xv,XC,Za5,Za8,Za9,Za1,Za6,Xs,Xx,Zai,Zan,Zas,ZaF,ZaO,ZaM,ZaT,ZaU,Zax,ZaR,XN,XW,Xr,Xy,XB]
theorem ZuE (nb:Int) {LA:List ZR} (hI:TInv A LA) (hLA:LA.length<=1000) (hb:Zbi x.f=false) (hR:kO9 sc od nm (i+1) B A nb LA.length=R):kO9 sc od nm i B A nb LA.length=R:=by
 have hil:i < sc.length:=(Xc.1 hx).1
 have h1:(i:Int) < sc.length:=by omega
 have hm:=Zea sc
 have e1:=iad hx Zag (k:=4) rfl
 rw [Zgc] at e1
 have e3:IntKind.i64.wrap ((i:Int)+1)=((i+1:Nat):Int):=Zfi (n:=120) (by omega) (by decide)
 have q1:=fun {σ:Za} {sq:Nat} hs hm=>Zmn hI hLA (σ:=σ) (t:=2) (u:=3) (sq:=sq) (by decide) hs hm x.f x.k x.f.length hf hb
 subst hR
 unfold kO9 Zcw trV at *
 generalize (LA.length:Int)=na at *
 generalize eNs A=EA at *
 generalize eNs B=EB at *
 generalize sc.map Zag=SC at *
 generalize od.map Zag=OD at *
 unfold Zfu
 rw [Zbn]
 simp -implicitDefEqProofs only [EQA,Zm,Zr,Zq,Zn,Zs,Zo,Zp,ZJ,ZN,ZO,ZL,ZI,ZP,ZK,ZH,ZQ,implies_true,forall_const,Xk,Xm,Xo,Xf,Xg,Xl,Xn,ZF,ZG,unA,Zx,Zz,unG,reduceCtorEq,Zl,decide_eq_true_eq,Xh,Xd,ite_self,↓reduceIte,Zw,ZE,gcT,gcA,Zh,Zf,Zc,Ze,Zt,Zb,Zi,Zd,Zu,Xj,ZcN,Zcs,ZcR,ZdB,Zdh,Zdw,Zdg,ZdO,Zc1,Zdu,Zc9,ZdN,Zc8,ZdD,Zdi,ZdP,Zc3,ZdL,Zc7,ZdK,Zdc,ZdH,Zc2,Zj,ZA,ZD,ZB,ZC,ZV,h1,hm,e1,e3,q1,Z5,Z2,Z4,Z3,AVal.cells,Za0,ZaX,Zbd,ZaG,XX,X6,Xr,Xy,Xv,XC,Za5,Za8,Za9,Za1,Za6,Xs,Xx,Zai,Zan,Zas,ZaF,ZaO,ZaM,ZaT,ZaU,Zax,ZaR,XN,XW,Xr,Xy,XB]
theorem ZIq (na:Int) {LB:List ZR} (hI:TInv B LB) (hLB:LB.length<=1000) (hb:Zbi x.f=true) (hR:Zd2 sc od nm ((i:Int) - 1) (Zap x.k x.f.length (ZM x.f) B 0).1 A ((ZcH LB ⟨x.f,x.k,x.f.length⟩).length) na=R):Zd2 sc od nm (i:Int) B A LB.length na=R:=by
 have hil:i < sc.length:=(Xc.1 hx).1
 have h1:(0:Int)<=(i:Int):=by omega
 have e1:=iad hx Zag (k:=4) rfl
 rw [Zgc] at e1
 have e3:IntKind.i64.wrap ((i:Int) - 1)=(i:Int) - 1:=ZcW (by omega) (by omega)
 have q1:=fun {σ:Za} {sq:Nat} hs hm=>Zmz hI hLB (σ:=σ) (t:=0) (u:=1) (sq:=sq) (by decide) hs hm x.f x.k x.f.length hf hb
 subst hR
 unfold Zd2 Zcw trV at *
 generalize eNs (Zap x.k x.f.length (ZM x.f) B 0).1=A' at *
 generalize (ZcH LB ⟨x.f,x.k,x.f.length⟩).length=na' at *
 generalize (LB.length:Int)=nb at *
 generalize eNs A=EA at *
 generalize eNs B=EB at *
 generalize sc.map Zag=SC at *
 generalize od.map Zag=OD at *
 unfold ZhX
 rw [Zbn]
 simp -implicitDefEqProofs only [EQA,Zm,Zr,Zq,Zn,Zs,Zo,Zp,ZJ,ZN,ZO,ZL,ZI,ZP,ZK,ZH,ZQ,implies_true,forall_const,Xk,Xm,Xo,Xf,Xg,Xl,Xn,ZF,ZG,unA,Zx,Zz,unG,reduceCtorEq,Zl,decide_eq_true_eq,Xh,Xd,ite_self,↓reduceIte,Zw,ZE,gcT,gcA,Zh,Zf,Zc,Ze,Zt,Zb,Zi,Zd,Zu,Xj,ZcN,Zcs,ZcR,ZdB,Zdh,Zdw,Zdg,ZdO,Zc1,Zdu,Zc9,ZdN,Zc8,ZdD,Zdi,ZdP,Zc3,ZdL,Zc7,ZdK,Zdc,ZdH,Zc2,Zj,ZA,ZD,ZB,ZC,ZV,h1,e1,e3,q1,ge_iff_le,Z5,Z2,Z4,Z3,AVal.cells,Za0,ZaX,Zbd,ZaG,XX,X6,Xr,Xy,Xv,XC,Za5,Za8,Za9,Za1,Za6,Xs,Xx,Zai,Zan,Zas,ZaF,ZaO,ZaM,ZaT,ZaU,Zax,ZaR,XN,XW,Xr,Xy,XB]
theorem Zxm (na:Int) {LB:List ZR} (hI:TInv B LB) (hLB:LB.length<=1000) (hb:Zbi x.f=false) (hR:Zd2 sc od nm ((i:Int) - 1) B A LB.length na=R):Zd2 sc od nm (i:Int) B A LB.length na=R:=by
 have hil:i < sc.length:=(Xc.1 hx).1
 have h1:(0:Int)<=(i:Int):=by omega
 have e1:=iad hx Zag (k:=4) rfl
 rw [Zgc] at e1
 have e3:IntKind.i64.wrap ((i:Int) - 1)=(i:Int) - 1:=ZcW (by omega) (by omega)
 have q1:=fun {σ:Za} {sq:Nat} hs hm=>Zmn hI hLB (σ:=σ) (t:=0) (u:=1) (sq:=sq) (by decide) hs hm x.f x.k x.f.length hf hb
 subst hR
 unfold Zd2 Zcw trV at *
 generalize (LB.length:Int)=nb at *
 generalize eNs A=EA at *
 generalize eNs B=EB at *
 generalize sc.map Zag=SC at *
 generalize od.map Zag=OD at *
 unfold ZhX
 rw [Zbn]
 simp -implicitDefEqProofs only [EQA,Zm,Zr,Zq,Zn,Zs,Zo,Zp,ZJ,ZN,ZO,ZL,ZI,ZP,ZK,ZH,ZQ,implies_true,forall_const,Xk,Xm,Xo,Xf,Xg,Xl,Xn,ZF,ZG,unA,Zx,Zz,unG,reduceCtorEq,Zl,decide_eq_true_eq,Xh,Xd,ite_self,↓reduceIte,Zw,ZE,gcT,gcA,Zh,Zf,Zc,Ze,Zt,Zb,Zi,Zd,Zu,Xj,ZcN,Zcs,ZcR,ZdB,Zdh,Zdw,Zdg,ZdO,Zc1,Zdu,Zc9,ZdN,Zc8,ZdD,Zdi,ZdP,Zc3,ZdL,Zc7,ZdK,Zdc,ZdH,Zc2,Zj,ZA,ZD,ZB,ZC,ZV,h1,e1,e3,q1,ge_iff_le,Z5,Z2,Z4,Z3,AVal.cells,Za0,ZaX,Zbd,ZaG,XX,X6,Xr,Xy,Xv,XC,Za5,Za8,Za9,Za1,Za6,Xs,Xx,Zai,Zan,Zas,ZaF,ZaO,ZaM,ZaT,ZaU,Zax,ZaR,XN,XW,Xr,Xy,XB]
end
section
variable {i:Nat} {x:Zbs} (hx:od[i]?=some x) (hod:od.length<=20) (hf:x.f.length<=1048576) (B A:List TN)
include hx hod hf
theorem ZB1 (na:Int) {LB:List ZR} (hI:TInv B LB) (hLB:LB.length<=1000) (hb:Zbi x.f=true) (hR:Zd4 sc od nm (i+1) (Zap Zbp 1 (ZM x.f) B 0).1 A ((ZcH LB ⟨x.f,Zbp,1⟩).length) na=R):Zd4 sc od nm i B A LB.length na=R:=by
 have hil:i < od.length:=(Xc.1 hx).1
 have h1:(i:Int) < od.length:=by omega
 have hm:=Zea od
 have e1:=iad hx Zag (k:=4) rfl
 rw [Zgc] at e1
 have e3:IntKind.i64.wrap ((i:Int)+1)=((i+1:Nat):Int):=Zfi (n:=120) (by omega) (by decide)
 have q1:=fun {σ:Za} {sq:Nat} hs hm=>Zmz hI hLB (σ:=σ) (t:=0) (u:=1) (sq:=sq) (by decide) hs hm x.f Zbp 1 hf hb
 subst hR
 unfold Zd4 Zcw trV at *
 generalize eNs (Zap Zbp 1 (ZM x.f) B 0).1=A' at *
 generalize (ZcH LB ⟨x.f,Zbp,1⟩).length=na' at *
 generalize (LB.length:Int)=nb at *
 generalize eNs A=EA at *
 generalize eNs B=EB at *
 generalize sc.map Zag=SC at *
 generalize od.map Zag=OD at *
 unfold Zbp at q1
 unfold Zib
 rw [Zbn]
 simp -implicitDefEqProofs only [EQA,Zm,Zr,Zq,Zn,Zs,Zo,Zp,ZJ,ZN,ZO,ZL,ZI,ZP,ZK,ZH,ZQ,implies_true,forall_const,Xk,Xm,Xo,Xf,Xg,Xl,Xn,ZF,ZG,unA,Zx,Zz,unG,reduceCtorEq,Zl,decide_eq_true_eq,Xh,Xd,ite_self,↓reduceIte,Zw,ZE,gcT,gcA,Zh,Zf,Zc,Ze,Zt,Zb,Zi,Zd,Zu,Xj,ZcN,Zcs,ZcR,ZdB,Zdh,Zdw,Zdg,ZdO,Zc1,Zdu,Zc9,ZdN,Zc8,ZdD,Zdi,ZdP,Zc3,ZdL,Zc7,ZdK,Zdc,ZdH,Zc2,Zj,ZA,ZD,ZB,ZC,ZV,h1,hm,e1,e3,q1,Z5,Z2,Z4,Z3,AVal.cells,Za0,ZaX,Zbd,ZaG,XX,X6,Xr,Xy,Xv,XC,Za5,Za8,Za9,Za1,Za6,Xs,Xx,Zai,Zan,Zas,ZaF,ZaO,ZaM,ZaT,ZaU,Zax,ZaR,XN,XW,Xr,Xy,XB]
theorem ZBC (na:Int) {LB:List ZR} (hI:TInv B LB) (hLB:LB.length<=1000) (hb:Zbi x.f=false) (hR:Zd4 sc od nm (i+1) B A LB.length na=R):Zd4 sc od nm i B A LB.length na=R:=by
 have hil:i < od.length:=(Xc.1 hx).1
 have h1:(i:Int) < od.length:=by omega
 have hm:=Zea od
 have e1:=iad hx Zag (k:=4) rfl
 rw [Zgc] at e1
 have e3:IntKind.i64.wrap ((i:Int)+1)=((i+1:Nat):Int):=Zfi (n:=120) (by omega) (by decide)
 have q1:=fun {σ:Za} {sq:Nat} hs hm=>Zmn hI hLB (σ:=σ) (t:=0) (u:=1) (sq:=sq) (by decide) hs hm x.f Zbp 1 hf hb
 subst hR
 unfold Zd4 Zcw trV at *
 generalize (LB.length:Int)=nb at *
 generalize eNs A=EA at *
 generalize eNs B=EB at *
 generalize sc.map Zag=SC at *
 generalize od.map Zag=OD at *
 unfold Zbp at q1
 unfold Zib
 rw [Zbn]
 simp -implicitDefEqProofs only [EQA,Zm,Zr,Zq,Zn,Zs,Zo,Zp,ZJ,ZN,ZO,ZL,ZI,ZP,ZK,ZH,ZQ,implies_true,forall_const,Xk,Xm,Xo,Xf,Xg,Xl,Xn,ZF,ZG,unA,Zx,Zz,unG,reduceCtorEq,Zl,decide_eq_true_eq,Xh,Xd,ite_self,↓reduceIte,Zw,ZE,gcT,gcA,Zh,Zf,Zc,Ze,Zt,Zb,Zi,Zd,Zu,Xj,ZcN,Zcs,ZcR,ZdB,Zdh,Zdw,Zdg,ZdO,Zc1,Zdu,Zc9,ZdN,Zc8,ZdD,Zdi,ZdP,Zc3,ZdL,Zc7,ZdK,Zdc,ZdH,Zc2,Zj,ZA,ZD,ZB,ZC,ZV,h1,hm,e1,e3,q1,Z5,Z2,Z4,Z3,AVal.cells,Za0,ZaX,Zbd,ZaG,XX,X6,Xr,Xy,Xv,XC,Za5,Za8,Za9,Za1,Za6,Xs,Xx,Zai,Zan,Zas,ZaF,ZaO,ZaM,ZaT,ZaU,Zax,ZaR,XN,XW,Xr,Xy,XB]
theorem ZwK {LA LB:List ZR} (hI:TInv A LA) (hLA:LA.length<=1000) (hS:Small A) (hI2:TInv B LB) (hLB:LB.length<=1000) (hS2:Small B) (hR:Zfk od nm (i+1) (Zab Zbp (ZM x.f) B 0).1 (Zab Zbp (ZM x.f) A 0).1 ((Zcd LB x.f Zbp).1.length) ((Zcd LA x.f Zbp).1.length)=R):Zfk od nm i B A LB.length LA.length=R:=by
 have hil:i < od.length:=(Xc.1 hx).1
 have h1:(i:Int) < od.length:=by omega
 have hm:=Zea od
 have e1:=iad hx Zag (k:=4) rfl
 rw [Zgc] at e1
 have e3:IntKind.i64.wrap ((i:Int)+1)=((i+1:Nat):Int):=Zfi (n:=120) (by omega) (by decide)
 have q1:=fun {σ:Za} {sq:Nat} hs hm=>ZoM hI hLA (σ:=σ) (t:=2) (u:=3) (sq:=sq) (by decide) hs hm hS x.f Zbp hf
 have q2:=fun {σ:Za} {sq:Nat} hs hm=>ZoM hI2 hLB (σ:=σ) (t:=0) (u:=1) (sq:=sq) (by decide) hs hm hS2 x.f Zbp hf
 subst hR
 unfold Zfk Zcw trV at *
 generalize eNs (Zab Zbp (ZM x.f) A 0).1=A' at *
 generalize eNs (Zab Zbp (ZM x.f) B 0).1=B' at *
 generalize (Zcd LB x.f Zbp).1.length=nb' at *
 generalize (Zcd LA x.f Zbp).1.length=na' at *
 generalize (Zcd LB x.f Zbp).2=bb at *
 generalize (Zcd LA x.f Zbp).2=ba at *
 generalize (LB.length:Int)=nb at *
 generalize (LA.length:Int)=na at *
 generalize eNs A=EA at *
 generalize eNs B=EB at *
 generalize od.map Zag=OD at *
 unfold Zbp at q1 q2
 unfold Zkj
 rw [Zbn]
 simp -implicitDefEqProofs only [EQA,Zm,Zr,Zq,Zn,Zs,Zo,Zp,ZJ,ZN,ZO,ZL,ZI,ZP,ZK,ZH,ZQ,implies_true,forall_const,Xk,Xm,Xo,Xf,Xg,Xl,Xn,ZF,ZG,unA,Zx,Zz,unG,reduceCtorEq,Zl,decide_eq_true_eq,Xh,Xd,ite_self,↓reduceIte,Zw,ZE,gcT,gcA,Zh,Zf,Zc,Ze,Zt,Zb,Zi,Zd,Zu,Xj,ZcN,Zcs,ZcR,ZdB,Zdh,Zdw,Zdg,ZdO,Zc1,Zdu,Zc9,ZdN,Zc8,ZdD,Zdi,ZdP,Zc3,ZdL,Zc7,ZdK,Zdc,ZdH,Zc2,Zj,ZA,ZD,ZB,ZC,ZV,h1,hm,e1,e3,q1,q2,Z5,Z2,Z4,Z3,AVal.cells,Za0,ZaX,Zbd,ZaG,XX,X6,Xr,Xy,Xv,XC,Za5,Za8,Za9,Za1,Za6,Xs,Xx,Zai,Zan,Zas,ZaF,ZaO,ZaM,ZaT,ZaU,Zax,ZaR,XN,XW,Xr,Xy,XB]
end
section
variable (B A:List TN) (nb na:Int) {i:Nat}
theorem ZuN (h1:¬(i:Int) < sc.length) (hR:Zd4 sc od nm 0 B A nb na=R):kO9 sc od nm i B A nb na=R:=by
 have hm:=Zea sc
 have z0:((0:Nat):Int)=0:=rfl
 subst hR
 unfold kO9 Zd4 Zcw trV at *
 rw [z0]
 generalize eNs A=EA at *
 generalize eNs B=EB at *
 generalize sc.map Zag=SC at *
 generalize od.map Zag=OD at *
 unfold Zfu Zib
 rw [Zbn]
 simp -implicitDefEqProofs only [EQA,Zm,Zr,Zq,Zn,Zs,Zo,Zp,ZJ,ZN,ZO,ZL,ZI,ZP,ZK,ZH,ZQ,implies_true,forall_const,Xk,Xm,Xo,Xf,Xg,Xl,Xn,ZF,ZG,unA,Zx,Zz,unG,reduceCtorEq,Zl,decide_eq_true_eq,Xh,Xd,ite_self,↓reduceIte,Zw,ZE,gcT,gcA,Zh,Zf,Zc,Ze,Zt,Zb,Zi,Zd,Zu,Xj,ZcN,Zcs,ZcR,ZdB,Zdh,Zdw,Zdg,ZdO,Zc1,Zdu,Zc9,ZdN,Zc8,ZdD,Zdi,ZdP,Zc3,ZdL,Zc7,ZdK,Zdc,ZdH,Zc2,Zj,ZA,ZD,ZB,ZC,ZV,h1,hm,Z5,Z2,Z4,Z3,AVal.cells,Za0,ZaX,Zbd,ZaG,XX,X6,Xr,Xy,Xv,XC,Za5,Za8,Za9,Za1,Za6,Xs,Xx,Zai,Zan,Zas,ZaF,ZaO,ZaM,ZaT,ZaU,Zax,ZaR,XN,XW,Xr,Xy,XB]
theorem ZxH (h1:¬(i:Int) < od.length) (hsc:sc.length<=40) (hR:Zd2 sc od nm ((sc.length:Int) - 1) B A nb na=R):Zd4 sc od nm i B A nb na=R:=by
 have hm:=Zea od
 have hm2:=Zea sc
 have e3:IntKind.i64.wrap ((sc.length:Int) - 1)=(sc.length:Int) - 1:=ZcW (by omega) (by omega)
 subst hR
 unfold Zd2 Zd4 Zcw trV at *
 generalize eNs A=EA at *
 generalize eNs B=EB at *
 generalize sc.map Zag=SC at *
 generalize od.map Zag=OD at *
 unfold Zib ZhX
 rw [Zbn]
 simp -implicitDefEqProofs only [EQA,Zm,Zr,Zq,Zn,Zs,Zo,Zp,ZJ,ZN,ZO,ZL,ZI,ZP,ZK,ZH,ZQ,implies_true,forall_const,Xk,Xm,Xo,Xf,Xg,Xl,Xn,ZF,ZG,unA,Zx,Zz,unG,reduceCtorEq,Zl,decide_eq_true_eq,Xh,Xd,ite_self,↓reduceIte,Zw,ZE,gcT,gcA,Zh,Zf,Zc,Ze,Zt,Zb,Zi,Zd,Zu,Xj,ZcN,Zcs,ZcR,ZdB,Zdh,Zdw,Zdg,ZdO,Zc1,Zdu,Zc9,ZdN,Zc8,ZdD,Zdi,ZdP,Zc3,ZdL,Zc7,ZdK,Zdc,ZdH,Zc2,Zj,ZA,ZD,ZB,ZC,ZV,h1,hm,hm2,e3,Z5,Z2,Z4,Z3,AVal.cells,Za0,ZaX,Zbd,ZaG,XX,X6,Xr,Xy,Xv,XC,Za5,Za8,Za9,Za1,Za6,Xs,Xx,Zai,Zan,Zas,ZaF,ZaO,ZaM,ZaT,ZaU,Zax,ZaR,XN,XW,Xr,Xy,XB]
theorem Zvs {i:Int} (h1:¬0<=i) (hR:Zfk od nm 0 B A nb na=R):Zd2 sc od nm i B A nb na=R:=by
 have z0:((0:Nat):Int)=0:=rfl
 subst hR
 unfold Zd2 Zfk Zcw trV at *
 rw [z0]
 generalize eNs A=EA at *
 generalize eNs B=EB at *
 generalize sc.map Zag=SC at *
 generalize od.map Zag=OD at *
 unfold ZhX Zkj
 rw [Zbn]
 simp -implicitDefEqProofs only [EQA,Zm,Zr,Zq,Zn,Zs,Zo,Zp,ZJ,ZN,ZO,ZL,ZI,ZP,ZK,ZH,ZQ,implies_true,forall_const,Xk,Xm,Xo,Xf,Xg,Xl,Xn,ZF,ZG,unA,Zx,Zz,unG,reduceCtorEq,Zl,decide_eq_true_eq,Xh,Xd,ite_self,↓reduceIte,Zw,ZE,gcT,gcA,Zh,Zf,Zc,Ze,Zt,Zb,Zi,Zd,Zu,Xj,ZcN,Zcs,ZcR,ZdB,Zdh,Zdw,Zdg,ZdO,Zc1,Zdu,Zc9,ZdN,Zc8,ZdD,Zdi,ZdP,Zc3,ZdL,Zc7,ZdK,Zdc,ZdH,Zc2,Zj,ZA,ZD,ZB,ZC,ZV,h1,ge_iff_le,Z5,Z2,Z4,Z3,AVal.cells,Za0,ZaX,Zbd,ZaG,XX,X6,Xr,Xy,Xv,XC,Za5,Za8,Za9,Za1,Za6,Xs,Xx,Zai,Zan,Zas,ZaF,ZaO,ZaM,ZaT,ZaU,Zax,ZaR,XN,XW,Xr,Xy,XB]
end
theorem o29 (X:List ZR) (hX:X.length<=1000):∀ (r:List ZR) (i:Nat),X.drop i=r->i<=X.length ->
  Zjj 0 [(15,.int .i64 (i:Int)),(14,.lst false (X.map ZY)),(13,.lst false (X.map ZY))] []=some (.bool true,[])
 | [],i,h,hi=>by
  have h1:=Zgw h
  have hm:(X.map ZY).length=X.length:=by simp
  generalize X.map ZY=S at *
  unfold Zjj
  rw [Zbn]
  simp -implicitDefEqProofs only [EQA,Zm,Zr,Zq,Zn,Zs,Zo,Zp,ZJ,ZN,ZO,ZL,ZI,ZP,ZK,ZH,ZQ,implies_true,forall_const,Xk,Xm,Xo,Xf,Xg,Xl,Xn,ZF,ZG,unA,Zx,Zz,unG,reduceCtorEq,Zl,decide_eq_true_eq,Xh,Xd,ite_self,↓reduceIte,Zw,ZE,gcT,gcA,Zh,Zf,Zc,Ze,Zt,Zb,Zi,Zd,Zu,Xj,ZcN,Zcs,ZcR,ZdB,Zdh,Zdw,Zdg,ZdO,Zc1,Zdu,Zc9,ZdN,Zc8,ZdD,Zdi,ZdP,Zc3,ZdL,Zc7,ZdK,Zdc,ZdH,Zc2,Zj,ZA,ZD,ZB,ZC,ZV,h1,hm,AVal.cells]
 | x::r,i,h,hi=>by
  obtain ⟨g1,d1,l1⟩:=ZdU h
  have h1:(i:Int) < X.length:=by omega
  have hm:(X.map ZY).length=X.length:=by simp
  have e1:=iad g1 ZY (k:=3) rfl
  have hc:(ZY x).cells=[.str x.f,.str x.k,.int .i64 x.v]:=rfl
  rw [hc] at e1
  have e3:=Zfi h1 (by omega)
  have ih:=o29 X hX r (i+1) d1 (by omega)
  generalize X.map ZY=S at *
  unfold Zjj at ih ⊢
  rw [Zbn]
  simp -implicitDefEqProofs only [EQA,Zm,Zr,Zq,Zn,Zs,Zo,Zp,ZJ,ZN,ZO,ZL,ZI,ZP,ZK,ZH,ZQ,implies_true,forall_const,Xk,Xm,Xo,Xf,Xg,Xl,Xn,ZF,ZG,unA,Zx,Zz,unG,reduceCtorEq,Zl,decide_eq_true_eq,Xh,Xd,ite_self,↓reduceIte,Zw,ZE,gcT,gcA,Zh,Zf,Zc,Ze,Zt,Zb,Zi,Zd,Zu,Xj,ZcN,Zcs,ZcR,ZdB,Zdh,Zdw,Zdg,ZdO,Zc1,Zdu,Zc9,ZdN,Zc8,ZdD,Zdi,ZdP,Zc3,ZdL,Zc7,ZdK,Zdc,ZdH,Zc2,Zj,ZA,ZD,ZB,ZC,ZV,h1,hm,e1,e3,Zfh,Zc5,Zgq,Zaj,Wy,Xbi,Xaj,AVal.cells,Za0,ZaX,Zbd,ZaG,XX,X6,Xr,Xy,Xv,XC,Za5,Za8,Za9,Za1,Za6,Xs,Xx,Zai,Zan,Zas,ZaF,ZaO,ZaM,ZaT,ZaU,Zax,ZaR,XN,XW,Xr,Xy,XB]
  exact ih
theorem ZAn (B A:List TN) {LA LB:List ZR} (hI:TInv A LA) (hLA:LA.length<=1000) (hI2:TInv B LB) (hL:LA=LB) {i:Nat} (h1:¬(i:Int) < od.length):Zfk od nm i B A LB.length LA.length=some (.bool true,[]):=by
 subst hL
 have hm:=Zea od
 have hlen:(ZgC nm LA).length<=1000:=by
  unfold ZgC
  split
  ·have:=List.length_filter_le (fun x=>Zgi x.f nm) LA;omega
  ·simp
 have h29:=o29 (ZgC nm LA) hlen (ZgC nm LA) 0 rfl (Xbx _)
 have z0:((0:Nat):Int)=0:=rfl
 rw [z0] at h29
 have q1:=fun {σ:Za} {sq:Nat} hs hm=>Zrc hI hLA (σ:=σ) (t:=2) (u:=3) (sq:=sq) (by decide) hs hm nm
 have q2:=fun {σ:Za} {sq:Nat} hs hm=>Zrc hI2 hLA (σ:=σ) (t:=0) (u:=1) (sq:=sq) (by decide) hs hm nm
 have q3:=fun {σ:Za} {sq:Nat} hs hm=>ZoB (ns:=A) (L:=LA) (σ:=σ) (t:=2) (u:=3) (sq:=sq) (by decide) hs hm
 have q4:=fun {σ:Za} {sq:Nat} hs hm=>ZoB (ns:=B) (L:=LA) (σ:=σ) (t:=0) (u:=1) (sq:=sq) (by decide) hs hm
 unfold Zfk Zcw trV at *
 generalize (LA.length:Int)=na at *
 generalize (ZgC nm LA).map ZY=X at *
 generalize eNs A=EA at *
 generalize eNs B=EB at *
 generalize od.map Zag=OD at *
 unfold Zjj at h29
 unfold Zkj
 rw [Zbn]
 simp -implicitDefEqProofs only [EQA,Zm,Zr,Zq,Zn,Zs,Zo,Zp,ZJ,ZN,ZO,ZL,ZI,ZP,ZK,ZH,ZQ,implies_true,forall_const,Xk,Xm,Xo,Xf,Xg,Xl,Xn,ZF,ZG,unA,Zx,Zz,unG,reduceCtorEq,Zl,decide_eq_true_eq,Xh,Xd,ite_self,↓reduceIte,Zw,ZE,gcT,gcA,Zh,Zf,Zc,Ze,Zt,Zb,Zi,Zd,Zu,Xj,ZcN,Zcs,ZcR,ZdB,Zdh,Zdw,Zdg,ZdO,Zc1,Zdu,Zc9,ZdN,Zc8,ZdD,Zdi,ZdP,Zc3,ZdL,Zc7,ZdK,Zdc,ZdH,Zc2,Zj,ZA,ZD,ZB,ZC,ZV,h1,hm,q1,q2,q3,q4,bne_self_eq_false,Z5,Z2,Z4,Z3,AVal.cells,Za0,ZaX,Zbd,ZaG,XX,X6,Xr,Xy,Xv,XC,Za5,Za8,Za9,Za1,Za6,Xs,Xx,Zai,Zan,Zas,ZaF,ZaO,ZaM,ZaT,ZaU,Zax,ZaR,XN,XW,Xr,Xy,XB]
 exact h29
end
end
section
structure St (c:Nat) (ns:List TN) (L:List ZR):Prop where
 inv:TInv ns L
 bnd:Bnd c ns
 len:L.length<=c
theorem St.nil:St 0 [([],[])] []:=⟨TInv.nil,Bnd.nil,XQ _⟩
theorem St.put {c:Nat} {ns:List TN} {L:List ZR} (h:St c ns L) {f:Tx} (hf:Zbi f=true) (k:Tx) (v:Int):St (c+1) (Zap k v (ZM f) ns 0).1 (ZcH L ⟨f,k,v⟩):=by
 obtain ⟨h1,h2⟩:=h.inv.put hf k v
 refine ⟨h1,h.bnd.put h.inv.wf.cl k v _ 0,?_⟩
 have:=h.len
 split at h2 <;> omega
theorem St.mono {c c':Nat} {ns:List TN} {L:List ZR} (h:St c ns L) (hc:c<=c'):St c' ns L:=⟨h.inv,h.bnd.mono hc,XaI h.len hc⟩
theorem St.drop {c:Nat} {ns:List TN} {L:List ZR} (h:St c ns L) (f k:Tx):St c (Zab k (ZM f) ns 0).1 (Zcd L f k).1:=by
 obtain ⟨h1,_,h2⟩:=h.inv.drop f k
 refine ⟨h1,Bnd.drop k _ ns 0 h.bnd,?_⟩
 have:=h.len
 split at h2 <;> omega
theorem St.small {c:Nat} {ns:List TN} {L:List ZR} (h:St c ns L) (hc:c<=1000):Small ns:=fun j d hd=>XaI (h.bnd j d hd) (by omega)
def pG (g:Zbs->ZR) (L:List ZR) (s:Zbs):List ZR:=if Zbi (g s).f then ZcH L (g s) else L
def gA (s:Zbs):ZR:=⟨s.f,s.k,s.f.length⟩
def gO (s:Zbs):ZR:=⟨s.f,Zbp,1⟩
def dO (L:List ZR) (s:Zbs):List ZR:=(Zcd L s.f Zbp).1
section
variable (sc od:List Zbs) (nm:Tx) {R:Option (AVal×Za)} (hsc:sc.length<=40) (hod:od.length<=20) (hf1:∀ x ∈ sc,x.f.length<=1048576) (hf2:∀ x ∈ od,x.f.length<=1048576)
section
include hsc hf1
theorem Znz (B:List TN) (nb:Int):∀ (r:List Zbs) (i c:Nat) (A:List TN) (LA:List ZR),sc.drop i=r->St c A LA->c+r.length<=900 ->
  (∀ A',St (c+r.length) A' (r.foldl (pG gA) LA)->Zd4 sc od nm 0 B A' nb (r.foldl (pG gA) LA).length=R)->kO9 sc od nm i B A nb LA.length=R
 | [],i,c,A,LA,h,hS,hc,hR=>ZuN sc od nm B A nb _ (Zgw h) (hR A hS)
 | x::r,i,c,A,LA,h,hS,hc,hR=>by
  obtain ⟨g1,d1,l1⟩:=ZdU h
  simp only [Xv] at hc hR
  have hx:=hf1 x (XA g1)
  have hl:=hS.len
  cases hb:Zbi x.f with
  | true =>
   have e:pG gA LA x=ZcH LA ⟨x.f,x.k,x.f.length⟩:=by simp [pG,gA,hb]
   refine ZwB sc od nm g1 hsc hx B A nb hS.inv (by omega) hb ?_
   refine Znz B nb r (i+1) (c+1) _ _ d1 (hS.put hb _ _) (by omega) fun A' hA=>?_
   have:=hR A' (by rw [Wn,e];exact hA.mono (by omega))
   rw [Wn,e] at this
   exact this
  | false =>
   have e:pG gA LA x=LA:=by simp [pG,gA,hb]
   refine ZuE sc od nm g1 hsc hx B A nb hS.inv (by omega) hb ?_
   refine Znz B nb r (i+1) c _ _ d1 hS (by omega) fun A' hA=>?_
   have:=hR A' (by rw [Wn,e];exact hA.mono (by omega))
   rw [Wn,e] at this
   exact this
theorem ZnA (A:List TN) (na:Int):∀ (k c:Nat) (B:List TN) (LB:List ZR),k<=sc.length->St c B LB->c+k<=900 ->
  (∀ B',St (c+k) B' ((sc.take k).reverse.foldl (pG gA) LB)->Zfk od nm 0 B' A ((sc.take k).reverse.foldl (pG gA) LB).length na=R)->Zd2 sc od nm ((k:Int) - 1) B A LB.length na=R
 | 0,c,B,LB,h,hS,hc,hR=>Zvs sc od nm B A _ na (by omega) (by simpa using hR B (by simpa using hS))
 | k+1,c,B,LB,h,hS,hc,hR=>by
  obtain ⟨x,g1⟩:∃ x,sc[k]?=some x:=⟨_,Xu (by omega)⟩
  have hx:=hf1 x (XA g1)
  have hl:=hS.len
  have ei:((k+1:Nat):Int) - 1=(k:Int):=by omega
  have et:(sc.take (k+1)).reverse=x::(sc.take k).reverse:=by
   rw [List.take_add_one,g1];simp
  rw [et] at hR
  rw [ei]
  cases hb:Zbi x.f with
  | true =>
   have e:pG gA LB x=ZcH LB ⟨x.f,x.k,x.f.length⟩:=by simp [pG,gA,hb]
   refine ZIq sc od nm g1 hsc hx B A na hS.inv (by omega) hb ?_
   refine ZnA A na k (c+1) _ _ (by omega) (hS.put hb _ _) (by omega) fun B' hB=>?_
   have:=hR B' (by rw [Wn,e];exact hB.mono (by omega))
   rw [Wn,e] at this
   exact this
  | false =>
   have e:pG gA LB x=LB:=by simp [pG,gA,hb]
   refine Zxm sc od nm g1 hsc hx B A na hS.inv (by omega) hb ?_
   refine ZnA A na k c _ _ (by omega) hS (by omega) fun B' hB=>?_
   have:=hR B' (by rw [Wn,e];exact hB.mono (by omega))
   rw [Wn,e] at this
   exact this
end
include hod hf2
omit sc in
theorem Zpq:∀ (r:List Zbs) (i c:Nat) (B A:List TN) (LB LA:List ZR),od.drop i=r->St c A LA->St c B LB->c<=900 ->
  r.foldl dO LA=r.foldl dO LB->Zfk od nm i B A LB.length LA.length=some (.bool true,[])
 | [],i,c,B,A,LB,LA,h,hA,hB,hc,he=>ZAn od nm B A hA.inv (by have:=hA.len;omega) hB.inv he (Zgw h)
 | x::r,i,c,B,A,LB,LA,h,hA,hB,hc,he=>by
  obtain ⟨g1,d1,l1⟩:=ZdU h
  have hx:=hf2 x (XA g1)
  have h1:=hA.len
  have h2:=hB.len
  refine ZwK od nm g1 hod hx B A hA.inv (by omega) (hA.small (by omega)) hB.inv (by omega) (hB.small (by omega)) ?_
  exact Zpq r (i+1) c _ _ _ _ d1 (hA.drop _ _) (hB.drop _ _) hc he
theorem Zk5 (hsc:sc.length<=40) (A:List TN) (na:Int):∀ (r:List Zbs) (i c:Nat) (B:List TN) (LB:List ZR),od.drop i=r->St c B LB->c+r.length<=900 ->
  (∀ B',St (c+r.length) B' (r.foldl (pG gO) LB)->Zd2 sc od nm ((sc.length:Int) - 1) B' A (r.foldl (pG gO) LB).length na=R)->Zd4 sc od nm i B A LB.length na=R
 | [],i,c,B,LB,h,hS,hc,hR=>ZxH sc od nm B A _ na (Zgw h) hsc (hR B hS)
 | x::r,i,c,B,LB,h,hS,hc,hR=>by
  obtain ⟨g1,d1,l1⟩:=ZdU h
  simp only [Xv] at hc hR
  have hx:=hf2 x (XA g1)
  have hl:=hS.len
  cases hb:Zbi x.f with
  | true =>
   have e:pG gO LB x=ZcH LB ⟨x.f,Zbp,1⟩:=by simp [pG,gO,hb]
   refine ZB1 sc od nm g1 hod hx B A na hS.inv (by omega) hb ?_
   refine Zk5 hsc A na r (i+1) (c+1) _ _ d1 (hS.put hb _ _) (by omega) fun B' hB=>?_
   have:=hR B' (by rw [Wn,e];exact hB.mono (by omega))
   rw [Wn,e] at this
   exact this
  | false =>
   have e:pG gO LB x=LB:=by simp [pG,gO,hb]
   refine ZBC sc od nm g1 hod hx B A na hS.inv (by omega) hb ?_
   refine Zk5 hsc A na r (i+1) c _ _ d1 hS (by omega) fun B' hB=>?_
   have:=hR B' (by rw [Wn,e];exact hB.mono (by omega))
   rw [Wn,e] at this
   exact this
end
theorem Zql (g:Zbs->ZR) (s:Zbs) {L:List ZR} (h:L.Pairwise ltR):(pG g L s).Pairwise ltR:=by
 unfold pG
 split
 ·rw [Zjh];exact Zn1 _ L h
 ·exact h
theorem Zke (g:Zbs->ZR):∀ (r:List Zbs) (L:List ZR),L.Pairwise ltR->(r.foldl (pG g) L).Pairwise ltR
 | [],_,h=>h
 | s::r,L,h=>Zke g r _ (Zql g s h)
theorem Zj7 (g:Zbs->ZR) (hg:∀ s t,ZaH (g s) (g t)=true->g s=g t):∀ (r:List Zbs) (L:List ZR) (x:ZR),L.Pairwise ltR ->
  (x ∈ r.foldl (pG g) L↔(∃ s ∈ r,Zbi (g s).f=true/\x=g s)\/(x ∈ L/\∀ s ∈ r,Zbi (g s).f=true->ZaH x (g s)=false))
 | [],L,x,_=>by simp
 | s::r,L,x,h=>by
  rw [Wn,Zj7 g hg r _ x (Zql g s h)]
  have hm:x ∈ pG g L s↔(Zbi (g s).f=true/\x=g s)\/(x ∈ L/\(Zbi (g s).f=true->ZaH x (g s)=false)):=by
   unfold pG
   cases hb:Zbi (g s).f with
   | true=>rw [if_pos rfl,Zjh,Zqn _ h];simp
   | false=>rw [if_neg (by simp)];simp
  rw [hm]
  constructor
  ·rintro (⟨t,ht,h1⟩ | ⟨⟨h1,h2⟩ | ⟨h1,h2⟩,h3⟩)
   ·exact Xw ⟨t,by simp [ht],h1⟩
   ·exact Xw ⟨s,by simp,h1,h2⟩
   ·refine XD ⟨h1,fun t ht=>?_⟩
    rcases XH.1 ht with rfl | ht
    ·exact h2
    ·exact h3 t ht
  ·rintro (⟨t,ht,h1,h2⟩ | ⟨h1,h2⟩)
   ·rcases XH.1 ht with rfl | ht
    ·by_cases e:∃ u ∈ r,Zbi (g u).f=true/\ZaH x (g u)=true
     ·obtain ⟨u,hu,h3,h4⟩:=e
      left
      refine ⟨u,hu,h3,?_⟩
      rw [h2] at h4 ⊢
      exact hg _ _ h4
     ·right
      refine ⟨Xw ⟨h1,h2⟩,fun u hu h3=>?_⟩
      cases h4:ZaH x (g u) with
      | false=>rfl
      | true=>exact absurd ⟨u,hu,h3,h4⟩ e
    ·exact Xw ⟨t,ht,h1,h2⟩
   ·exact XD ⟨XD ⟨h1,h2 s (by simp)⟩,fun u hu=>h2 u (by simp [hu])⟩
theorem ZqD (s:Zbs) {L:List ZR} (h:L.Pairwise ltR):dO L s=L.filter fun x=>!ZaH x (Zd5 s.f Zbp):=by
 unfold dO
 rw [Zjo _ _ L h]
theorem ZmO:∀ (r:List Zbs) (L:List ZR),L.Pairwise ltR->(r.foldl dO L).Pairwise ltR/\∀ x,x ∈ r.foldl dO L↔x ∈ L/\∀ s ∈ r,¬(x.f=s.f/\x.k=Zbp)
 | [],L,h=>⟨h,by simp⟩
 | s::r,L,h=>by
  have h1:(dO L s).Pairwise ltR:=by rw [ZqD s h];exact h.filter _
  obtain ⟨h2,h3⟩:=ZmO r _ h1
  refine ⟨h2,fun x=>?_⟩
  rw [Wn,h3,ZqD s h,Wq]
  have e:(!ZaH x (Zd5 s.f Zbp))=true↔¬(x.f=s.f/\x.k=Zbp):=by
   have:=Zei x s.f Zbp 0
   unfold Zd5
   rw [<-this]
   cases ZaH x ⟨s.f,Zbp,0⟩ <;> simp
  rw [e]
  constructor
  ·rintro ⟨⟨h4,h5⟩,h6⟩
   refine ⟨h4,fun t ht=>?_⟩
   rcases XH.1 ht with rfl | ht
   ·exact h5
   ·exact h6 t ht
  ·rintro ⟨h4,h5⟩
   exact ⟨⟨h4,h5 s (by simp)⟩,fun t ht=>h5 t (by simp [ht])⟩
theorem Zum {L M:List ZR} (hL:L.Pairwise ltR) (hM:M.Pairwise ltR) (h:∀ x,x ∈ L↔x ∈ M):L=M:=by
 have n1:L.Nodup:=hL.imp fun h e=>by subst e;exact Zjt _ h
 have n2:M.Nodup:=hM.imp fun h e=>by subst e;exact Zjt _ h
 exact ((List.perm_ext_iff_of_nodup n1 n2).2 h).eq_of_pairwise (fun a b _ _ h1 h2=>absurd (ZiK h1 h2) (Zjt _)) hL hM
theorem Zod (s t:Zbs) (h:ZaH (gA s) (gA t)=true):gA s=gA t:=by
 have:=(Zei (gA s) _ _ _).1 h
 simp only [gA] at this ⊢
 rw [this.1,this.2]
theorem ZBl (s t:Zbs) (h:ZaH (gO s) (gO t)=true):gO s=gO t:=by
 have:=(Zei (gO s) _ _ _).1 h
 simp only [gO] at this ⊢
 rw [this.1]
theorem ZH1 (sc od:List Zbs):od.foldl dO (sc.foldl (pG gA) [])=od.foldl dO (sc.reverse.foldl (pG gA) (od.foldl (pG gO) [])):=by
 have s1:(sc.foldl (pG gA) []).Pairwise ltR:=Zke gA sc [] WH
 have s0:(od.foldl (pG gO) []).Pairwise ltR:=Zke gO od [] WH
 have s2:(sc.reverse.foldl (pG gA) (od.foldl (pG gO) [])).Pairwise ltR:=Zke gA _ _ s0
 obtain ⟨a1,a2⟩:=ZmO od _ s1
 obtain ⟨b1,b2⟩:=ZmO od _ s2
 refine Zum a1 b1 fun x=>?_
 rw [a2,b2,Zj7 gA Zod _ _ _ WH,Zj7 gA Zod _ _ _ s0,Zj7 gO ZBl _ _ _ WH]
 constructor
 ·rintro ⟨⟨s,hs,h1⟩ | ⟨h1,_⟩,h2⟩
  ·exact ⟨Xw ⟨s,by simpa using hs,h1⟩,h2⟩
  ·simp at h1
 ·rintro ⟨⟨s,hs,h1⟩ | ⟨⟨s,hs,h1,h3⟩ | ⟨h1,_⟩,_⟩,h2⟩
  ·exact ⟨Xw ⟨s,by simpa using hs,h1⟩,h2⟩
  ·refine absurd ?_ (h2 s hs)
   rw [h3];exact ⟨rfl,rfl⟩
  ·simp at h1
theorem ZjA (sc od:List Zbs) (nm:Tx) (hsc:sc.length<=40) (hod:od.length<=20) (hf1:∀ x ∈ sc,x.f.length<=1048576) (hf2:∀ x ∈ od,x.f.length<=1048576):kO9 sc od nm 0 [([],[])] [([],[])] 0 0=some (.bool true,[]):=by
 refine Znz sc od nm hsc hf1 _ 0 sc 0 0 _ [] rfl St.nil (by omega) fun A' hA=>?_
 refine Zk5 sc od nm hod hf2 hsc A' _ od 0 0 _ [] rfl St.nil (by omega) fun B1 hB1=>?_
 refine ZnA sc od nm hsc hf1 A' _ sc.length _ B1 _ (XQ _) hB1 (by omega) fun B2 hB2=>?_
 rw [List.take_length] at hB2 ⊢
 exact Zpq od nm hod hf2 od 0 100 B2 A' _ _ rfl (hA.mono (by omega)) (hB2.mono (by omega)) (by omega) (ZH1 sc od)
theorem ZEL (sc od:List Zbs) (nm:Tx) (hf1:∀ x ∈ sc,x.f.length<=1048576) (hf2:∀ x ∈ od,x.f.length<=1048576):E 3 [.lst false (sc.map Zag),.str nm,.lst false (od.map Zag)] []=some (.bool true,[]):=by
 have q0:=fun {σ:Za} {sq:Nat} hff=>ZFa (σ:=σ) (sq:=sq) hff
 have q2:=Zz7
 have z0:((0:Nat):Int)=0:=rfl
 have m1:=Zea sc
 have m2:=Zea od
 have s1:=fun (σ:Za) (kk:IntKind) h=>ZsH σ 4 sc Zag kk 40 (by decide) h
 have s2:=fun (σ:Za) (kk:IntKind) h=>ZsH σ 4 od Zag kk 20 (by decide) h
 have t40:(40:Int).toNat=40:=rfl
 have t20:(20:Int).toNat=20:=rfl
 rw [t40] at s1
 rw [t20] at s2
 rw [ZaY (by rfl) ZBV]
 by_cases c1:(sc.length:Int) > 40
 ·have d1:=s1
  by_cases c2:(od.length:Int) > 20
  ·have h:=ZjA (sc.take 40) (od.take 20) nm (by simp;omega) (by simp;omega) (fun x hx=>hf1 x (Wp hx)) (fun x hx=>hf2 x (Wp hx))
   unfold kO9 Zcw Zfu at h
   rw [z0] at h
   have g1:=fun (σ:Za) (kk:IntKind)=>s1 σ kk (by omega)
   have g2:=fun (σ:Za) (kk:IntKind)=>s2 σ kk (by omega)
   clear s1 s2 d1
   generalize (sc.take 40).map Zag=SC2 at *
   generalize (od.take 20).map Zag=OD2 at *
   generalize sc.map Zag=SC at *
   generalize od.map Zag=OD at *
   simp -implicitDefEqProofs only [EQA,Zm,Zr,Zq,Zn,Zs,Zo,Zp,ZJ,ZN,ZO,ZL,ZI,ZP,ZK,ZH,ZQ,implies_true,forall_const,Xk,Xm,Xo,Xf,Xg,Xl,Xn,ZF,ZG,unA,Zx,Zz,unG,reduceCtorEq,Zl,decide_eq_true_eq,Xh,Xd,ite_self,↓reduceIte,Zw,ZE,gcT,gcA,Zh,Zf,Zc,Ze,Zt,Zb,Zi,Zd,Zu,Xj,ZcN,Zcs,ZcR,q0,q2,m1,m2,c1,c2,g1,g2,Zbe,AVal.cells,Z5,Z2,Z4,Z3,AVal.cells]
   exact h
  ·have h:=ZjA (sc.take 40) od nm (by simp;omega) (by omega) (fun x hx=>hf1 x (Wp hx)) hf2
   unfold kO9 Zcw Zfu at h
   rw [z0] at h
   have g1:=fun (σ:Za) (kk:IntKind)=>s1 σ kk (by omega)
   clear s1 s2 d1
   generalize (sc.take 40).map Zag=SC2 at *
   generalize sc.map Zag=SC at *
   generalize od.map Zag=OD at *
   simp -implicitDefEqProofs only [EQA,Zm,Zr,Zq,Zn,Zs,Zo,Zp,ZJ,ZN,ZO,ZL,ZI,ZP,ZK,ZH,ZQ,implies_true,forall_const,Xk,Xm,Xo,Xf,Xg,Xl,Xn,ZF,ZG,unA,Zx,Zz,unG,reduceCtorEq,Zl,decide_eq_true_eq,Xh,Xd,ite_self,↓reduceIte,Zw,ZE,gcT,gcA,Zh,Zf,Zc,Ze,Zt,Zb,Zi,Zd,Zu,Xj,ZcN,Zcs,ZcR,q0,q2,m1,m2,c1,c2,g1,Zbe,AVal.cells,Z5,Z2,Z4,Z3,AVal.cells]
   exact h
 ·by_cases c2:(od.length:Int) > 20
  ·have h:=ZjA sc (od.take 20) nm (by omega) (by simp;omega) hf1 (fun x hx=>hf2 x (Wp hx))
   unfold kO9 Zcw Zfu at h
   rw [z0] at h
   have g2:=fun (σ:Za) (kk:IntKind)=>s2 σ kk (by omega)
   clear s1 s2
   generalize (od.take 20).map Zag=OD2 at *
   generalize sc.map Zag=SC at *
   generalize od.map Zag=OD at *
   simp -implicitDefEqProofs only [EQA,Zm,Zr,Zq,Zn,Zs,Zo,Zp,ZJ,ZN,ZO,ZL,ZI,ZP,ZK,ZH,ZQ,implies_true,forall_const,Xk,Xm,Xo,Xf,Xg,Xl,Xn,ZF,ZG,unA,Zx,Zz,unG,reduceCtorEq,Zl,decide_eq_true_eq,Xh,Xd,ite_self,↓reduceIte,Zw,ZE,gcT,gcA,Zh,Zf,Zc,Ze,Zt,Zb,Zi,Zd,Zu,Xj,ZcN,Zcs,ZcR,q0,q2,m1,m2,c1,c2,g2,Zbe,AVal.cells,Z5,Z2,Z4,Z3,AVal.cells]
   exact h
  ·have h:=ZjA sc od nm (by omega) (by omega) hf1 hf2
   unfold kO9 Zcw Zfu at h
   rw [z0] at h
   clear s1 s2
   generalize sc.map Zag=SC at *
   generalize od.map Zag=OD at *
   simp -implicitDefEqProofs only [EQA,Zm,Zr,Zq,Zn,Zs,Zo,Zp,ZJ,ZN,ZO,ZL,ZI,ZP,ZK,ZH,ZQ,implies_true,forall_const,Xk,Xm,Xo,Xf,Xg,Xl,Xn,ZF,ZG,unA,Zx,Zz,unG,reduceCtorEq,Zl,decide_eq_true_eq,Xh,Xd,ite_self,↓reduceIte,Zw,ZE,gcT,gcA,Zh,Zf,Zc,Ze,Zt,Zb,Zi,Zd,Zu,Xj,ZcN,Zcs,ZcR,q0,q2,m1,m2,c1,c2,Zbe,AVal.cells,Z5,Z2,Z4,Z3,AVal.cells]
   exact h
end
section
open Go.RowKit
mutual
def TyR (R:Nat):Ty->List AVal->Prop
 | .bool,xs=>∃ b,xs=[.bool b]
 | .int k,xs=>∃ n,(Lit.int k n).wf=true/\xs=[.int k n]
 | .str,xs=>∃ l:List UInt8,l.length<=R/\xs=[.str l]
 | .slice s e,xs=>∃ ys:List (List AVal),xs=[.lst false (ys.map (ZcK s))]/\ys.length<=R/\∀ y ∈ ys,TyR R e y
 | .struct fs,xs=>Zgr R fs xs
def Zgr (R:Nat):List Ty->List AVal->Prop
 | [],xs=>xs=[]
 | f::fs,xs=>∃ a b,xs=a++b/\TyR R f a/\Zgr R fs b
end
section
variable {H:Type} {enc:TypeId×Value->H} {P:Program} {w:World} {spare:Nat->Bool} {held:Bool} {R:Nat}
theorem Zsh {n:Nat} {e:TypeId} {T:Ty} (hT:Zdz P n e=some T) (hs:ZdY (P.underlying e)=false) {xs:List AVal} (h:TyR R T xs):xs.length=1:=by
 cases n with
 | zero=>simp [Zdz] at hT
 | succ n =>
  simp only [Zdz] at hT
  split at hT
  ·injection hT with hT;subst hT;simp only [TyR] at h;obtain ⟨_,rfl⟩:=h;rfl
  ·injection hT with hT;subst hT;simp only [TyR] at h;obtain ⟨_,_,rfl⟩:=h;rfl
  ·injection hT with hT;subst hT;simp only [TyR] at h;obtain ⟨_,_,rfl⟩:=h;rfl
  ·split at hT
   ·simp only [Xq] at hT
    obtain ⟨T',_,rfl⟩:=hT
    simp only [TyR] at h;obtain ⟨_,rfl,_⟩:=h;rfl
   ·cases hT
  ·rename_i hu;rw [hu] at hs;simp [ZdY] at hs
  ·cases hT
def ZmM (R:Nat) (s:Bool) (T:Ty) (x:AVal):Prop:=∃ xs,TyR R T xs/\x=ZcK s xs
end
end
section
open Go.Shelf
def ZEm:Ren:=⟨fun | 196=>64 | 259=>82 | n=>n,fun | 9=>9 | 4=>4 | 3=>3 | 5=>5 | 12=>12 | 119=>111 | 0=>0 | 46=>84 | 139=>114 | 138=>113 | 53=>105 | n=>n,fun | 3=>0 | 4=>1 | n=>n⟩
theorem Zrj:Go.Proofs.Lays.n196 Tryd.prog ZEm:={ mixed:=by kernel_rfl,f196:=Tryd.func64.trans (congrArg some (by kernel_rfl)),f259:=Tryd.func82.trans (congrArg some (by kernel_rfl)),t0:=Tryd.underlying0,a0:=Tryd.isAgg0,z0:=Tryd.sizeOf0,v0:=Tryd.zeroValue0,t3:=Tryd.underlying3,a3:=Tryd.isAgg3,z3:=Tryd.sizeOf3,v3:=Tryd.zeroValue3,t4:=Tryd.underlying4,a4:=Tryd.isAgg4,z4:=Tryd.sizeOf4,v4:=Tryd.zeroValue4,t5:=Tryd.underlying5,a5:=Tryd.isAgg5,z5:=Tryd.sizeOf5,v5:=Tryd.zeroValue5,t9:=Tryd.underlying9,a9:=Tryd.isAgg9,z9:=Tryd.sizeOf9,v9:=Tryd.zeroValue9,t12:=Tryd.underlying12,a12:=Tryd.isAgg12,z12:=Tryd.sizeOf12,v12:=Tryd.zeroValue12,t46:=Tryd.underlying84,a46:=Tryd.isAgg84,z46:=Tryd.sizeOf84,v46:=Tryd.zeroValue84,t53:=Tryd.underlying105,a53:=Tryd.isAgg105,z53:=Tryd.sizeOf105,v53:=Tryd.zeroValue105,t119:=Tryd.underlying111,a119:=Tryd.isAgg111,z119:=Tryd.sizeOf111,t138:=Tryd.underlying113,a138:=Tryd.isAgg113,z138:=Tryd.sizeOf113,v138:=Tryd.zeroValue113,t139:=Tryd.underlying114,a139:=Tryd.isAgg114,z139:=Tryd.sizeOf114,v139:=Tryd.zeroValue114,g3:=by kernel_rfl,g4:=by kernel_rfl }
end
section
open Go.RowKit Go.Shelf Go.Lib
theorem ZBI {W:World} (h:Lib.Utf8Tabs 0 1 W):Gl.le (Imm.of W):=by
 intro b o u hu
 unfold Gl at hu
 unfold Imm.of
 split at hu
 ·rename_i e;subst e
  split at hu
  ·rename_i ho
   rw [h.1 o ho,<-hu]
  ·cases hu
 ·split at hu
  ·rename_i e;subst e
   split at hu
   ·rename_i ho
    rw [<-hu]
    obtain ⟨h1,h2⟩:=h.2 (o / 2) (by omega)
    by_cases hp:o % 2=0
    ·rw [if_pos hp,<-h1];congr 2;omega
    ·rw [if_neg hp,<-h2];congr 2;omega
   ·cases hu
  ·cases hu
section
open Go.RowKit
variable {H:Type} {enc:TypeId×Value->H} {P:Program} {w:World} {spare:Nat->Bool} {held:Bool}
theorem Zsu {d:DataW H} {l:List (DataW H)} (h:d ∈ l):Rows.uptoBulk d<=Rows.uptoBulkAll l:=by
 induction l with
 | nil=>cases h
 | cons x r ih =>
  simp only [Rows.uptoBulkAll]
  rcases XH.1 h with rfl | h
  ·omega
  ·have:=ih h;omega
theorem Zs1 {d:DataW H} {l m:List (DataW H)} (h:d ∈ l):Rows.uptoBulk d<=Rows.uptoBulk (.slice l m):=by
 have:=Zsu h
 simp only [Rows.uptoBulk];omega
theorem ZkA {d:DataW H} {l:List (DataW H)} (hb:Rows.uptoSmall H l=true) (h:d ∈ l):Rows.uptoBulk d<=1048576:=by
 have:=Zsu h
 have h2:Rows.uptoBulkAll l<=1048576:=by simpa [Rows.uptoSmall] using hb
 omega
end
end
section
open Go.RowKit
section
variable {H:Type} {enc:TypeId×Value->H} {P:Program} {w:World} {spare:Nat->Bool} {held:Bool} {R:Nat}
theorem ZAI (d:DataW H):1<=Rows.uptoBulk d:=by
 cases d with
 | lit l=>cases l <;> simp [Rows.uptoBulk]
 | _=>simp [Rows.uptoBulk]
theorem Zpn:∀ l:List (DataW H),l.length<=Rows.uptoBulkAll l
 | []=>by simp [Rows.uptoBulkAll]
 | d::l=>by
  have:=Zpn l
  have:=ZAI d
  simp only [Rows.uptoBulkAll,Xv];omega
theorem Zoo {n fuel:Nat} {cs:List Value} (ih:∀ (t:TypeId) (cs:List Value) (x:DataW H×List MemPlace) (T:Ty),Zdz P n t=some T->Rows.uptoBulk x.1<=R->DataW.trod enc P w 0 spare held fuel t cs=some x->∃ xs,TyR R T xs/\VRs (Imm.of w) B0 xs cs/\Zat xs=true) :
  ∀ (fs:List Field) (at':Nat) (Ts:List Ty) (ys:List (DataW H×List MemPlace)),Rows.uptoBulkAll (ys.map (·.1))<=R->ZiA P at' fs cs.length=true->fs.mapM (fun f=>Zdz P n f.type)=some Ts ->
   fs.mapM (fun f=>DataW.trod enc P w 0 spare held fuel f.type ((cs.drop f.offset).take (P.cellsOf f.type)))=some ys->∃ xs,Zgr R Ts xs/\VRs (Imm.of w) B0 xs (cs.drop at')/\Zat xs=true
 | [],at',Ts,ys,_,ho,hT,_=>by
  simp only [ZiA,beq_iff_eq] at ho
  simp only [List.mapM_nil,Option.pure_def,Xa] at hT
  subst hT ho
  exact ⟨[],by simp only [Zgr],by simp [VRs],rfl⟩
 | f::fs,at',Ts,ys,hwt,ho,hT,h=>by
  simp only [ZiA,Xp,beq_iff_eq] at ho
  obtain ⟨T,Ts',h1,h2,rfl⟩:=Zqv hT
  obtain ⟨y,ys',h3,h4,rfl⟩:=Zqv h
  simp only [XI,Rows.uptoBulkAll] at hwt
  obtain ⟨a,a1,a2,a3⟩:=ih _ _ _ _ h1 (by omega) h3
  obtain ⟨b,b1,b2,b3⟩:=Zoo ih fs _ _ _ (by omega) ho.2 h2 h4
  rw [ho.1] at a2
  refine ⟨a++b,by simp only [Zgr];exact ⟨a,b,rfl,a1,b1⟩,ZIH a2 (by rw [List.drop_drop];exact b2),ZAS a3 b3⟩
theorem Zmc:∀ (n fuel:Nat) (t:TypeId) (cs:List Value) (x:DataW H×List MemPlace) (T:Ty),Zdz P n t=some T->Rows.uptoBulk x.1<=R->DataW.trod enc P w 0 spare held fuel t cs=some x ->
  ∃ xs,TyR R T xs/\VRs (Imm.of w) B0 xs cs/\Zat xs=true
 | 0,fuel,t,cs,x,T,hT,_,_=>by simp [Zdz] at hT
 | n+1,0,t,cs,x,T,_,_,h=>by simp [DataW.trod] at h
 | n+1,fuel+1,t,cs,x,T,hT,hwt,h=>by
  have h0:=h
  simp only [Zdz] at hT
  unfold DataW.trod at h
  split at hT
  ·rename_i hu
   injection hT with hT;subst hT
   obtain ⟨b,rfl,_⟩:=DataW.trod_bool hu h0
   exact ⟨[.bool b],by simp only [TyR];exact ⟨b,rfl⟩,by simp [VRs,VR],rfl⟩
  ·rename_i k hu
   injection hT with hT;subst hT
   obtain ⟨n',rfl,_,hk⟩:=DataW.trod_int hu h0
   exact ⟨[.int k n'],by simp only [TyR];exact ⟨n',hk,rfl⟩,by simp [VRs,VR],rfl⟩
  ·rename_i hu
   injection hT with hT;subst hT
   obtain ⟨s,rfl,hx,hs⟩:=DataW.trod_string hu h0
   have hs':s.data.toList.length<=9223372036854775807:=by
    rw [Array.length_toList];exact XaI hs (by simp [maxLen])
   have hR:s.data.toList.length<=R:=by
    subst hx
    simp only [Rows.uptoBulk] at hwt
    omega
   exact ⟨[.str s.data.toList],by simp only [TyR];exact ⟨_,hR,rfl⟩,by simp only [VRs,VR];exact ⟨_,_,rfl,⟨by simp,hs'⟩,rfl⟩,rfl⟩
  ·rename_i e hu
   split at hT
   case isFalse=>cases hT
   rename_i hc
   simp only [Xq] at hT
   obtain ⟨T,hT,rfl⟩:=hT
   rcases Go.Deep.open_slice hu h0 with ⟨hcs,_⟩ | ⟨a,len,cap,m,n',D,Pl,hcs,_,hl,hm,hmm,hx,hi⟩
   ·subst hcs
    exact ⟨[.lst false []],by simp only [TyR];exact ⟨[],by simp,by simp,by simp⟩,by simp only [VRs,VR];exact ⟨_,_,rfl,⟨none,0,rfl,by simp,by simp,by simp,by simp,by simp [Zaa]⟩,rfl⟩,rfl⟩
   ·have hlm:len<=m:=by split at hmm <;> omega
    have hlR:len<=R:=by
     rw [hx] at hwt
     simp only [Rows.uptoBulk] at hwt
     have:=Zpn ((Wt len).map D)
     simp only [WC,List.length_range] at this
     omega
    have hspot:0 < len->a.spot=none:=by
     intro h0
     obtain ⟨cs',h1,h2⟩:=hi 0 (by omega)
     obtain ⟨_,h6,h7⟩:=World.cells?_some h1
     have h8:=h7 0 hc
     obtain ⟨u,hu⟩:∃ u,cs'[0]?=some u:=⟨cs'[0]'(by omega),by simp⟩
     rw [hu] at h8
     simp only [Nat.zero_mul,Addr.add,if_true] at h8
     exact Zt2 (b:=a.block) (off:=a.off) (s:=a.spot) (u:=u) h8
    have hall:∀ i,∃ xs,i < len->TyR R T xs/\(ZcK (ZdY (P.underlying e)) xs).cells=xs/\xs.length=P.cellsOf e/\CR (Imm.of w) B0 xs a.block (a.off+i*P.cellsOf e)/\Zat xs=true:=by
     intro i
     by_cases hlt:i < len
     ·obtain ⟨cs',h1,h2⟩:=hi i (by omega)
      obtain ⟨xs,h3,h4,h5⟩:=Zmc n n' e cs' _ T hT (XaI (by rw [hx];exact Zs1 (XJ.2 ⟨i,WV.2 hlt,rfl⟩)) hwt) h2
      obtain ⟨_,h6,h7⟩:=World.cells?_some h1
      have hlen:=Zao h4
      refine ⟨xs,fun _=>⟨h3,ZAR (fun hs=>Zsh hT hs h3) (fun _=>ZoK h5),by omega,Zso xs cs' _ h4 (fun j hj=>?_),h5⟩⟩
      have h8:=h7 j (by omega)
      rw [Go.Deep.add_add,Zt4 (hspot (by omega)),<-Nat.add_assoc] at h8
      exact h8
     ·exact ⟨[],fun h=>absurd h hlt⟩
    obtain ⟨Y,hY⟩:=Classical.axiomOfChoice hall
    subst hcs
    have hmx:maxLen=9223372036854775807:=by simp [maxLen]
    rw [hmx] at hm
    refine ⟨[.lst false ((Wt len).map fun i=>ZcK (ZdY (P.underlying e)) (Y i))],?_,?_,?_⟩
    ·simp only [TyR]
     refine ⟨(Wt len).map Y,by rw [Wm];rfl,by simpa using hlR,?_⟩
     intro y hy
     obtain ⟨i,hi',rfl⟩:=XJ.1 hy
     exact (hY i (WV.1 hi')).1
    ·simp only [VRs,VR,WC,List.length_range]
     refine ⟨_,_,rfl,⟨some a,cap,rfl,hl,hm,by simp,?_,ZnC len Y fun i hlt=>by rw [(hY i hlt).2.1];exact (hY i hlt).2.2.2.2⟩,rfl⟩
     cases len with
     | zero=>exact Xw (by simp)
     | succ len =>
      refine XD ⟨a.block,a.off,P.cellsOf e,?_,hc,Zp1 (len+1) a.off Y fun i hlt=>?_⟩
      ·have:=hspot (by omega)
       cases a;simp_all
      ·rw [(hY i hlt).2.1];exact ⟨(hY i hlt).2.2.1,(hY i hlt).2.2.2.1⟩
    ·simp only [Zat,Zaq,Xbi]
     exact ZnC len Y fun i hlt=>by rw [(hY i hlt).2.1];exact (hY i hlt).2.2.2.2
  ·rename_i fs hu
   split at hT
   case isFalse=>cases hT
   rename_i ho
   simp only [Xq] at hT
   obtain ⟨Ts,hT,rfl⟩:=hT
   rw [hu] at h
   simp only at h
   split at h
   ·rename_i hl
    simp only [Xq] at h
    obtain ⟨ys,hy,rfl⟩:=h
    simp only [Rows.uptoBulk] at hwt
    obtain ⟨xs,h1,h2,h3⟩:=Zoo (fun t cs x T h h1 h'=>Zmc n fuel t cs x T h h1 h') fs.toList 0 Ts ys (by omega) (by rw [hl];exact ho) hT hy
    exact ⟨xs,by simp only [TyR];exact h1,h2,h3⟩
   ·cases h
  ·cases hT
theorem Zk3 {n:Nat} {t:TypeId} {v:Value} {d:DataW H} {ps:List MemPlace} {T:Ty} {r:Reach} {b0:Nat} (hT:Zdz P n t=some T) (hwt:Rows.uptoBulk d<=R) (hv:Value.okWide P w r b0 t v) (h:DataW.Trod enc P w 0 spare held t v d ps) :
  ∃ x,ZmM R (ZdY (P.underlying t)) T x/\VR (Imm.of w) B0 x v/\Zat x.cells=true:=by
 obtain ⟨fuel,h⟩:=h
 obtain ⟨xs,h1,h2,h3⟩:=Zmc n fuel t _ _ T hT hwt h
 refine ⟨ZcK (ZdY (P.underlying t)) xs,⟨xs,h1,rfl⟩,?_⟩
 by_cases hs:ZdY (P.underlying t)=true
 ·have : ∃ cs,v=.agg cs:=by
   unfold Value.okWide at hv
   cases hu:P.underlying t with
   | none=>rw [hu] at hs;simp [ZdY] at hs
   | some dd =>
    rw [hu] at hv hs
    cases dd <;> first | (simp [ZdY] at hs;done) | (obtain ⟨cs,e,_⟩:=hv;exact ⟨cs,e⟩)
  obtain ⟨cs,rfl⟩:=this
  rw [hs]
  exact ⟨by simp only [ZcK,if_true,VR];exact ⟨cs,rfl,h2⟩,h3⟩
 ·have hs':ZdY (P.underlying t)=false:=by simpa using hs
  have hl:=Zsh hT hs' h1
  have hlen:=Zao h2
  rw [hs']
  match xs,hl with
  | [x],_ =>
   simp only [ZcK,Xi,if_false,XaM]
   have hvc:v.cells=#[v]:=by
    cases n with
    | zero=>simp [Zdz] at hT
    | succ n =>
     simp only [Zdz] at hT
     split at hT
     ·rename_i hu;obtain ⟨b,rfl⟩:=Go.WideShapes.okWide_bool hu hv;rfl
     ·rename_i k hu;obtain ⟨b,rfl⟩:=Go.WideShapes.okWide_int hu hv;rfl
     ·rename_i hu;obtain ⟨b,rfl⟩:=Go.WideShapes.okWide_string hu hv;rfl
     ·rename_i e hu;obtain ⟨a,l,c,rfl⟩:=Go.WideShapes.okWide_slice hu hv;rfl
     ·rename_i fs hu;rw [hu] at hs';simp [ZdY] at hs'
     ·cases hT
   rw [hvc] at h2
   simp only [VRs] at h2
   obtain ⟨v',vs',e,h2,_⟩:=h2
   simp only [W7] at e
   rw [e.1]
   refine ⟨h2,?_⟩
   have hok:=ZoK h3 x (by simp)
   have hx:x.cells=[x]:=by cases x <;> first | rfl | (simp [Zae] at hok;done)
   rw [hx];exact h3
end
end
section
open Go.RowKit
def ZjT:Ty:=.slice true (.struct [.int .i64,.int .i64,.str,.str])
theorem Zq1 {R:Nat} {x:AVal} (h:ZmM R false ZjT x):∃ l:List Zbs,(∀ s ∈ l,s.f.length<=R/\s.k.length<=R)/\x=.lst false (l.map Zag):=by
 obtain ⟨y,h,rfl⟩:=h
 simp only [ZjT,TyR] at h
 obtain ⟨ys,rfl,h1,h2⟩:=h
 have : ∀ ys:List (List AVal),(∀ y ∈ ys,Zgr R [.int .i64,.int .i64,.str,.str] y)->∃ l:List Zbs,(∀ s ∈ l,s.f.length<=R/\s.k.length<=R)/\ys.map (ZcK true)=l.map Zag:=by
  intro ys
  induction ys with
  | nil=>intro _;exact ⟨[],by simp,rfl⟩
  | cons y ys ih =>
   intro hy
   have hy0:=hy y (by simp)
   simp only [Zgr] at hy0
   obtain ⟨_,_,rfl,h1,_,_,rfl,h2,_,_,rfl,h3,_,_,rfl,h4,rfl⟩:=hy0
   simp only [TyR] at h1 h2 h3 h4
   obtain ⟨a,_,rfl⟩:=h1
   obtain ⟨d,_,rfl⟩:=h2
   obtain ⟨s,hs,rfl⟩:=h3
   obtain ⟨c,hc,rfl⟩:=h4
   obtain ⟨l,hok,hl⟩:=ih fun y' h'=>hy y' (by simp [h'])
   refine ⟨⟨a,d,s,c⟩::l,?_,by simp [hl,ZcK,Zag]⟩
   intro z hz
   rcases XH.1 hz with rfl | hz
   ·exact ⟨hs,hc⟩
   ·exact hok z hz
 obtain ⟨l,hok,hl⟩:=this ys (fun y hy=>by simpa only [TyR] using h2 y hy)
 exact ⟨l,hok,by simp [ZcK,hl]⟩
theorem ZE7 {R:Nat} {x:AVal} (h:ZmM R false .str x):∃ l:List UInt8,l.length<=R/\x=.str l:=by
 obtain ⟨y,h,rfl⟩:=h
 simp only [TyR] at h
 obtain ⟨l,hl,rfl⟩:=h
 exact ⟨l,hl,rfl⟩
end
section
theorem Zvo:Zau (Zhk Tryd.prog (fun _=>{ lr:=fun n=>if n=1 then [0] else [] })) (fun _=>none) (fun _=>false) 2 28 [] []=some (.ref 0 0,[.var [.map 1,.map 2],.map [],.map []]):=by kernel_rfl
theorem ZCb:Zkc Tryd.prog (fun _=>none):=by intro f g h;cases h
theorem ZD6 {args:List AVal} {σ σ':Za} {r:AVal} (hp:Zmu args σ=some (r,σ')) :
  (∃ fn,Tryd.prog.funcs[28]?=some fn/\fn.body.isSome=true/\(fn.name == "runtime.NumGoroutine")=false) /\
  ∀ base w0 I0 I β w (vs:Array Value),KLt base w0->Rel base w0 I0 I β σ w->VRs I β args vs.toList->Calls Tryd.prog 28 vs w (fun e w'=>∃ u,Ends r e u/\Zcm σ.length base w0 I0 I β r σ' u w'):=by
 unfold Zmu at hp
 split at hp
 case h_2=>cases hp
 simp only [Xa,Xb] at hp
 obtain ⟨rfl,rfl⟩:=hp
 obtain ⟨h1,h2⟩:=Zni (by kernel_rfl) ZCb _ _ 2 _ _ _ _ _ Zvo
 refine ⟨h1,fun base w0 I0 I β w vs hb R hv=>(h2 base w0 I0 I β w vs hb R hv).mono ?_⟩
 rintro e w' ⟨u,he,I',β',i1,i2,R',hv'⟩
 obtain ⟨β2,R2,hv2⟩:=R'.arena1
 exact ⟨u,he,I',β2,i1,fun t ht=>absurd ht (by simp),R2,hv2 _ hv'⟩
end
section
open Go.Shelf
def ZxI:Ren:=⟨fun | 6=>49 | 15=>57 | 14=>56 | 28=>76 | 29=>77 | 20=>68 | 21=>69 | 22=>70 | 23=>71 | 24=>72 | 25=>73 | 26=>74 | 27=>75 | 46=>87 | 47=>88 | 48=>89 | 49=>90 | 50=>91 | 57=>95 | n=>n,fun | 22=>31 | 24=>35 | 25=>80 | 3=>3 | 39=>84 | 0=>0 | 53=>103 | 55=>105 | 4=>4 | 46=>97 | 45=>96 | 50=>50 | 5=>5 | 9=>9 | 66=>118 | 70=>122 | 76=>124 | 77=>85 | n=>n,fun | n=>n⟩
theorem ZoH:Go.Proofs.SlLaysF0.n6 Tryd.prog ZxI:={ mixed:=by kernel_rfl,f6:=⟨"slices.SortFunc[[]tidings/trie.Row[int],tidings/trie.Row[int]]",by kernel_rfl,Tryd.func49.trans (congrArg some (by kernel_rfl))⟩,f14:=⟨"slices.pdqsortCmpFunc[tidings/trie.Row[int]]",by kernel_rfl,Tryd.func56.trans (congrArg some (by kernel_rfl))⟩,f15:=Tryd.func57.trans (congrArg some (by kernel_rfl)),f20:=⟨"slices.insertionSortCmpFunc[tidings/trie.Row[int]]",by kernel_rfl,Tryd.func68.trans (congrArg some (by kernel_rfl))⟩,f21:=⟨"slices.heapSortCmpFunc[tidings/trie.Row[int]]",by kernel_rfl,Tryd.func69.trans (congrArg some (by kernel_rfl))⟩,f22:=⟨"slices.breakPatternsCmpFunc[tidings/trie.Row[int]]",by kernel_rfl,Tryd.func70.trans (congrArg some (by kernel_rfl))⟩,f23:=⟨"slices.choosePivotCmpFunc[tidings/trie.Row[int]]",by kernel_rfl,Tryd.func71.trans (congrArg some (by kernel_rfl))⟩,f24:=⟨"slices.reverseRangeCmpFunc[tidings/trie.Row[int]]",by kernel_rfl,Tryd.func72.trans (congrArg some (by kernel_rfl))⟩,f25:=⟨"slices.partialInsertionSortCmpFunc[tidings/trie.Row[int]]",by kernel_rfl,Tryd.func73.trans (congrArg some (by kernel_rfl))⟩,f26:=⟨"slices.partitionEqualCmpFunc[tidings/trie.Row[int]]",by kernel_rfl,Tryd.func74.trans (congrArg some (by kernel_rfl))⟩,f27:=⟨"slices.partitionCmpFunc[tidings/trie.Row[int]]",by kernel_rfl,Tryd.func75.trans (congrArg some (by kernel_rfl))⟩,f28:=Tryd.func76.trans (congrArg some (by kernel_rfl)),f29:=Tryd.func77.trans (congrArg some (by kernel_rfl)),f46:=⟨"slices.siftDownCmpFunc[tidings/trie.Row[int]]",by kernel_rfl,Tryd.func87.trans (congrArg some (by kernel_rfl))⟩,f47:=Tryd.func88.trans (congrArg some (by kernel_rfl)),f48:=Tryd.func89.trans (congrArg some (by kernel_rfl)),f49:=⟨"slices.medianAdjacentCmpFunc[tidings/trie.Row[int]]",by kernel_rfl,Tryd.func90.trans (congrArg some (by kernel_rfl))⟩,f50:=⟨"slices.medianCmpFunc[tidings/trie.Row[int]]",by kernel_rfl,Tryd.func91.trans (congrArg some (by kernel_rfl))⟩,f57:=⟨"slices.order2CmpFunc[tidings/trie.Row[int]]",by kernel_rfl,Tryd.func95.trans (congrArg some (by kernel_rfl))⟩,t0:=Tryd.underlying0,a0:=Tryd.isAgg0,z0:=Tryd.sizeOf0,v0:=Tryd.zeroValue0,t3:=Tryd.underlying3,a3:=Tryd.isAgg3,z3:=Tryd.sizeOf3,v3:=Tryd.zeroValue3,t4:=Tryd.underlying4,a4:=Tryd.isAgg4,z4:=Tryd.sizeOf4,v4:=Tryd.zeroValue4,t5:=Tryd.underlying5,a5:=Tryd.isAgg5,z5:=Tryd.sizeOf5,v5:=Tryd.zeroValue5,t9:=Tryd.underlying9,a9:=Tryd.isAgg9,z9:=Tryd.sizeOf9,v9:=Tryd.zeroValue9,t22:=Tryd.underlying31,a22:=Tryd.isAgg31,z22:=Tryd.sizeOf31,v22:=Tryd.zeroValue31,t25:=Tryd.underlying80,a25:=Tryd.isAgg80,z25:=Tryd.sizeOf80,v25:=Tryd.zeroValue80,t39:=Tryd.underlying84,a39:=Tryd.isAgg84,z39:=Tryd.sizeOf84,v39:=Tryd.zeroValue84,t45:=Tryd.underlying96,a45:=Tryd.isAgg96,z45:=Tryd.sizeOf96,v45:=Tryd.zeroValue96,t46:=Tryd.underlying97,a46:=Tryd.isAgg97,z46:=Tryd.sizeOf97,v46:=Tryd.zeroValue97,t50:=Tryd.underlying50,a50:=Tryd.isAgg50,z50:=Tryd.sizeOf50,v50:=Tryd.zeroValue50,t53:=Tryd.underlying103,a53:=Tryd.isAgg103,z53:=Tryd.sizeOf103,v53:=Tryd.zeroValue103,t55:=Tryd.underlying105,a55:=Tryd.isAgg105,z55:=Tryd.sizeOf105,v55:=Tryd.zeroValue105,t66:=Tryd.underlying118,a66:=Tryd.isAgg118,z66:=Tryd.sizeOf118,v66:=Tryd.zeroValue118,t70:=Tryd.underlying122,a70:=Tryd.isAgg122,z70:=Tryd.sizeOf122,v70:=Tryd.zeroValue122,t76:=Tryd.underlying124,a76:=Tryd.isAgg124,z76:=Tryd.sizeOf124,v76:=Tryd.zeroValue124,t77:=Tryd.underlying85,a77:=Tryd.isAgg85,z77:=Tryd.sizeOf85,v77:=Tryd.zeroValue85 }
end
section
open Go.RowKit Go.Sort Go.Lib
set_option maxRecDepth 100000
theorem ZGG {I:Imm} {β:Bmap} (x:AVal) (a:List UInt8×List UInt8) (l:List Value) (h:Zds x=some a) (hv:VRs I β x.cells l):∃ t,l=[Value.string ⟨a.1.toArray⟩,Value.string ⟨a.2.toArray⟩]++t:=by
 unfold Zds at h
 split at h
 ·injection h with h;subst h
  simp only [AVal.cells,VRs] at hv
  obtain ⟨v,vs,rfl,h1,v2,vs2,rfl,h2,_⟩:=hv
  simp only [VR] at h1 h2
  exact ⟨vs2,by rw [h1.1,h2.1];rfl⟩
 ·cases h
theorem Zy0 (A:ByteArray) (W:World):Calls Tryd.prog 58 #[.string A] W fun e w'=>e=.returned (.bool false)/\w'=W:=by
 go_enter Tryd.func58,Tryd.ntmps58
 go_wp2
 go_ret
 simp
theorem ZxJ (a b:List UInt8) (W:World):Calls Tryd.prog 51 #[.string ⟨a.toArray⟩,.string ⟨b.toArray⟩] W fun e w'=>e=.returned (.int .i64 (ZcY a b))/\w'=W:=by
 have h1:Op.bytesLess (⟨a.toArray⟩:ByteArray).toList (⟨b.toArray⟩:ByteArray).toList=decide (a < b):=by
  rw [Go.Proofs.bytesLess_eq];simp
 have h3:((⟨a.toArray⟩:ByteArray).toList == (⟨b.toArray⟩:ByteArray).toList)=decide (a=b):=by
  by_cases h:a=b
  ·subst h;simp
  ·simp [h]
 have hn:=Zy0
 by_cases hab:a < b
 ·rw [decide_eq_true hab] at h1
  have hr:ZcY a b=-1:=by unfold ZcY;rw [if_pos hab]
  rw [hr]
  clear h3 hr hab
  generalize (⟨a.toArray⟩:ByteArray)=A1 at *
  generalize (⟨b.toArray⟩:ByteArray)=B1 at *
  go_enter Tryd.func51,Tryd.ntmps51
  go_wp2_with (go_at_call 58;refine (hn _ _).mono ?_;rintro e w' ⟨rfl,rfl⟩)
  go_ret
  simp
 ·rw [decide_eq_false hab] at h1
  by_cases hba:b < a
  ·have hne:a≠b:=by rintro rfl;exact List.lt_irrefl _ hba
   have hr:ZcY a b=1:=by unfold ZcY;rw [if_neg hab,if_pos hba]
   rw [decide_eq_false hne] at h3
   rw [hr]
   clear hr hab hba hne
   generalize (⟨a.toArray⟩:ByteArray)=A1 at *
   generalize (⟨b.toArray⟩:ByteArray)=B1 at *
   go_enter Tryd.func51,Tryd.ntmps51
   go_wp2_with (go_at_call 58;refine (hn _ _).mono ?_;rintro e w' ⟨rfl,rfl⟩)
   go_ret
   simp
  ·have he:a=b:=List.le_antisymm (XaW.1 hba) (XaW.1 hab)
   have hr:ZcY a b=0:=by unfold ZcY;rw [if_neg hab,if_neg hba]
   rw [decide_eq_true he] at h3
   rw [hr]
   clear hr hab hba he
   generalize (⟨a.toArray⟩:ByteArray)=A1 at *
   generalize (⟨b.toArray⟩:ByteArray)=B1 at *
   go_enter Tryd.func51,Tryd.ntmps51
   go_wp2_with (go_at_call 58;refine (hn _ _).mono ?_;rintro e w' ⟨rfl,rfl⟩)
   go_ret
   simp
theorem ZwJ (a b:List UInt8×List UInt8) (us vs:List Value) (W:World) (hu:2+us.length=3) (hv:2+vs.length=3):Calls Tryd.prog 50 #[.agg ([Value.string ⟨a.1.toArray⟩,Value.string ⟨a.2.toArray⟩]++us).toArray,.agg ([Value.string ⟨b.1.toArray⟩,Value.string ⟨b.2.toArray⟩]++vs).toArray] W fun e w'=>e=.returned (.int .i64 (Zbc a b))/\∃ q os',w'=grow (W.drewN q) os':=by
 obtain ⟨a1,a2⟩:=a
 obtain ⟨b1,b2⟩:=b
 obtain ⟨u1,rfl⟩:∃ u1,us=[u1]:=by
  match us,hu with
  | [u1],_=>exact ⟨u1,rfl⟩
  | _::_::_,h=>simp at h;omega
 obtain ⟨v1,rfl⟩:∃ v1,vs=[v1]:=by
  match vs,hv with
  | [v1],_=>exact ⟨v1,rfl⟩
  | _::_::_,h=>simp at h;omega
 clear hu hv
 have hc:=ZxJ
 unfold Zbc
 generalize ZcY=cf at *
 go_enter Tryd.func50,Tryd.ntmps50
 go_wp2_with (go_at_call 51;refine (hc _ _ _).mono ?_;rintro e w' ⟨rfl,rfl⟩)
 all_goals first
  | (go_ret;exact ⟨rfl,0,_,by rw [alloc_eq_grow,alloc_eq_grow,grow_grow];rfl⟩)
  | (exfalso;have h1:=‹(_ != _)=(_:Bool)›;simp only [bne_iff_ne,bne_eq_false_iff_eq] at h1;contradiction)
theorem ZHG {args:List AVal} {σ σ':Za} {r:AVal} (hp:Zfv 3 50 Zds Zbc args σ=some (r,σ')) :
  (∃ fn,Tryd.prog.funcs[49]?=some fn/\fn.body.isSome=true/\(fn.name == "runtime.NumGoroutine")=false) /\
  ∀ base w0 I0 I β w (vs:Array Value),KLt base w0->Rel base w0 I0 I β σ w->VRs I β args vs.toList ->
   Calls Tryd.prog 49 vs w (fun e w'=>∃ u,Ends r e u/\Zcm σ.length base w0 I0 I β r σ' u w') :=
 ZFV (κ:=List UInt8×List UInt8) (k:=3) (g:=50) (m:=2) (pre:=fun a=>[Value.string ⟨a.1.toArray⟩,Value.string ⟨a.2.toArray⟩]) ⟨_,Tryd.func49,by kernel_rfl,by kernel_rfl⟩ (by decide) (by decide) (by decide)
  (fun a=>⟨rfl,fun v hv=>by simp only [XH,XaC,or_false] at hv;rcases hv with rfl | rfl <;> rfl⟩) ZGG ZwJ
  (fun enc hk h1 blk off cap d w hcl hH hb hs=>AnyQ.slices_SortFunc_total ZoH 3 Tryd.isAgg35 Tryd.sizeOf35 enc hk h1 Zbc ZDY 50 #[] blk off cap d w (enters_of Tryd.func50 (by kernel_rfl) rfl) hcl hH hb hs ZDu)
  (fun p cap fv w=>AnyF.slices_SortFunc_none ZoH p cap fv w) hp
end
section
open Go.Shelf
def ZDs:Ren:=⟨fun | 137=>78 | 217=>92 | 266=>96 | n=>n,fun | 9=>9 | 5=>5 | 3=>3 | n=>n,fun | n=>n⟩
theorem ZFq:Go.Proofs.Lays.n137 Tryd.prog ZDs:={ mixed:=by kernel_rfl,f137:=Tryd.func78.trans (congrArg some (by kernel_rfl)),f217:=Tryd.func92.trans (congrArg some (by kernel_rfl)),f266:=Tryd.func96.trans (congrArg some (by kernel_rfl)),t3:=Tryd.underlying3,a3:=Tryd.isAgg3,z3:=Tryd.sizeOf3,v3:=Tryd.zeroValue3,t5:=Tryd.underlying5,a5:=Tryd.isAgg5,z5:=Tryd.sizeOf5,v5:=Tryd.zeroValue5,t9:=Tryd.underlying9,a9:=Tryd.isAgg9,z9:=Tryd.sizeOf9,v9:=Tryd.zeroValue9 }
def ZE0:Ren:=⟨fun | 217=>92 | 266=>96 | n=>n,fun | 9=>9 | 5=>5 | 3=>3 | n=>n,fun | n=>n⟩
theorem ZCK:Go.Proofs.Lays.n217 Tryd.prog ZE0:={ mixed:=by kernel_rfl,f217:=Tryd.func92.trans (congrArg some (by kernel_rfl)),f266:=Tryd.func96.trans (congrArg some (by kernel_rfl)),t3:=Tryd.underlying3,a3:=Tryd.isAgg3,z3:=Tryd.sizeOf3,v3:=Tryd.zeroValue3,t5:=Tryd.underlying5,a5:=Tryd.isAgg5,z5:=Tryd.sizeOf5,v5:=Tryd.zeroValue5,t9:=Tryd.underlying9,a9:=Tryd.isAgg9,z9:=Tryd.sizeOf9,v9:=Tryd.zeroValue9 }
section
open Go.Shelf
def ZCN:Ren:=⟨fun | 138=>66 | 195=>83 | 218=>85 | 143=>67 | 219=>86 | 217=>92 | 225=>81 | 224=>80 | 267=>94 | 266=>96 | 314=>97 | n=>n,fun | 9=>9 | 3=>3 | 4=>4 | 5=>5 | 0=>0 | 46=>84 | 146=>126 | 51=>103 | n=>n,fun | 1=>2 | n=>n⟩
theorem ZAg:Go.Proofs.Lays.n138 Tryd.prog ZCN:={ mixed:=by kernel_rfl,f138:=Tryd.func66.trans (congrArg some (by kernel_rfl)),f143:=Tryd.func67.trans (congrArg some (by kernel_rfl)),f195:=Tryd.func83.trans (congrArg some (by kernel_rfl)),f217:=Tryd.func92.trans (congrArg some (by kernel_rfl)),f218:=Tryd.func85.trans (congrArg some (by kernel_rfl)),f219:=Tryd.func86.trans (congrArg some (by kernel_rfl)),f224:=Tryd.func80.trans (congrArg some (by kernel_rfl)),f225:=Tryd.func81.trans (congrArg some (by kernel_rfl)),f266:=Tryd.func96.trans (congrArg some (by kernel_rfl)),f267:=Tryd.func94.trans (congrArg some (by kernel_rfl)),f314:=Tryd.func97.trans (congrArg some (by kernel_rfl)),t0:=Tryd.underlying0,a0:=Tryd.isAgg0,z0:=Tryd.sizeOf0,v0:=Tryd.zeroValue0,t3:=Tryd.underlying3,a3:=Tryd.isAgg3,z3:=Tryd.sizeOf3,v3:=Tryd.zeroValue3,t4:=Tryd.underlying4,a4:=Tryd.isAgg4,z4:=Tryd.sizeOf4,v4:=Tryd.zeroValue4,t5:=Tryd.underlying5,a5:=Tryd.isAgg5,z5:=Tryd.sizeOf5,v5:=Tryd.zeroValue5,t9:=Tryd.underlying9,a9:=Tryd.isAgg9,z9:=Tryd.sizeOf9,v9:=Tryd.zeroValue9,t46:=Tryd.underlying84,a46:=Tryd.isAgg84,z46:=Tryd.sizeOf84,v46:=Tryd.zeroValue84,t51:=Tryd.underlying103,a51:=Tryd.isAgg103,z51:=Tryd.sizeOf103,v51:=Tryd.zeroValue103,t146:=Tryd.underlying126,a146:=Tryd.isAgg126,z146:=Tryd.sizeOf126,v146:=Tryd.zeroValue126,g1:=by kernel_rfl }
end
end
section
set_option maxRecDepth 100000
theorem ZCq:Tryd.prog.follows .mixedOrders=true:=by kernel_rfl
theorem ZsE {α:Type} {d v:α}:∀ {l:List (Nat×α)} {n:Nat},Zeo d l n=v->v=d\/(n,v) ∈ l
 | [],n,h=>Xw h.symm
 | (k,w)::r,n,h=>by
  simp only [Zeo] at h
  split at h
  ·rename_i e;subst e h;exact XD (by simp)
  ·rcases ZsE h with h | h
   ·exact Xw h
   ·exact XD (by simp [h])
theorem ZE3:Zkc Tryd.prog PR:=by
 intro f g h args σ r σ' hg
 rcases ZsE h with h | h
 ·cases h
 unfold ZrJ at h
 simp only [XH,Xb,Xa,XaC,or_false] at h
 rcases h with ⟨rfl,rfl⟩ | h
 ·exact Zrh ⟨Tryd.f78,Tryd.func78,by kernel_rfl,by kernel_rfl⟩ (fun s c w=>Any.strings_IndexByte ZFq s c w) hg
 rcases h with ⟨rfl,rfl⟩ | h
 ·exact Zrh ⟨Tryd.f92,Tryd.func92,by kernel_rfl,by kernel_rfl⟩ (fun s c w=>Any.stringslite_IndexByte ZCK s c w) hg
 rcases h with ⟨rfl,rfl⟩ | h
 ·exact Zzm ⟨Tryd.f66,Tryd.func66,by kernel_rfl,by kernel_rfl⟩ (fun s c w=>Any.strings_Count_one ZAg s c w) hg
 rcases h with ⟨rfl,rfl⟩ | h
 ·exact Zzg ⟨Tryd.f64,Tryd.func64,by kernel_rfl,by kernel_rfl⟩ (fun s w hs hT=>Any.utf8_ValidString Zrj s w hs hT) hg
 rcases h with ⟨rfl,rfl⟩ | h
 ·exact ZCQ (fun h=>ZHG h) hg
 rcases h with ⟨rfl,rfl⟩ | h
 ·exact ZD6 hg
 exact absurd h.2 (by simp)
theorem ZtQ:ZaC Tryd.prog E:=by
 have h:E=EV CF PR BY:=ZFw CF PR BY
 rw [h]
 exact Zzu ZCq ZE3 ann BY
end
section
open Go.ChangeShapes Go.WideShapes Go.ChangeAt Go.RowKit Go.Deep
theorem ZDk:ownKnob Tryd.prog.godebug=none:=by kernel_rfl
theorem Znb:laidOutB Tryd.prog=true:=by kernel_rfl
theorem Zz1 {W:World} (hLH:laidMetH Tryd.prog Rows.treeOrderUptoRow.laid W):Gl.le (Imm.of W):=by
 have hL:laidMet Tryd.prog Rows.treeOrderUptoRow.laid W:=by rw [<-MakeChecks.laidMetH_plain _ _ _ (by kernel_rfl)];exact hLH
 have e1:Rows.laid_unicode_utf8_first=Lib.firstData:=by kernel_rfl
 have e2:(Rows.laid_unicode_utf8_acceptRanges:DataW Unit)=Lib.acceptData:=by kernel_rfl
 have h1:Lib.VarReads Tryd.prog W "unicode/utf8.first" Lib.firstData:=by rw [<-e1];exact Lib.laidMet.reads hL (.tail _ (.head _))
 have h2:Lib.VarReads Tryd.prog W "unicode/utf8.acceptRanges" Lib.acceptData:=by rw [<-e2];exact Lib.laidMet.reads hL (.head _)
 exact ZBI (utf8Tabs_of_readsT (U8Types.of196 Zrj) ⟨by kernel_rfl,by kernel_rfl,by kernel_rfl,by kernel_rfl,by kernel_rfl,by kernel_rfl,by kernel_rfl⟩ h1 h2)
set_option maxRecDepth 100000 in
theorem Zyk (H:Type) (enc:TypeId×Value->H) (W:World) (base:Nat) (args:Array Value) (ds gs:List (DataW H)) (before:List MemPlace)
  (hval0:∀ (j:Nat) t v,Tryd.f3.params[j]?=some t->args[j]?=some v->Value.okWide Tryd.prog W .any base t v)
  (hW:DataW.Whole enc Tryd.prog Tryd.f3.params.toList Rows.treeOrderSpec.vars false W args.toList ds gs before) (hL:laidMetH Tryd.prog Rows.treeOrderUptoRow.laid W) (hbulk:Rows.uptoSmall H (ds++gs)=true) :
  Calls Tryd.prog 3 args W fun e W'=>∃ v,e=.returned v/\Rows.treeOrderSpec.post enc Tryd.prog Tryd.f3 false true false false W args v W':=by
 have hW':=hW
 obtain ⟨p,q,hA0,hV,rfl,hfz,hnd⟩:=hW
 have hval:∀ (j:Nat) t v,Tryd.f3.params[j]?=some t->args[j]?=some v->Value.okWide Tryd.prog W .any base t v:=hval0
 have hA:DataW.TrodAll enc Tryd.prog W 0 (fun _=>true) true Tryd.f3.params.toList args.toList ds p:=hA0
 rw [Tryd.params3] at hA hval
 obtain ⟨v0,vs0,d0,ds0,p0,q0,hargs,rfl,rfl,h0,r0⟩:=trodAll_cons hA
 obtain ⟨v1,vs1,d1,ds1,p1,q1,rfl,rfl,rfl,h1,r1⟩:=trodAll_cons r0
 obtain ⟨v2,vs2,d2,ds2,p2,q2,rfl,rfl,rfl,h2,r2⟩:=trodAll_cons r1
 obtain ⟨rfl,rfl,rfl⟩:=trodAll_nil r2
 obtain rfl:args=#[v0,v1,v2]:=by cases args;simp_all
 obtain ⟨rfl,rfl⟩:=trodVars_none hV
 simp only [XU] at hbulk
 have k0:=h0
 have lt0:∀ x ∈ p0,x.block < W.heap.size:=by obtain ⟨m,hm⟩:=k0;exact DataW.trod_lt m _ _ _ hm
 obtain ⟨x0,y0,z0,_⟩:=Zk3 (R:=1048576) (n:=12) (T:=ZjT) (by kernel_rfl) (ZkA hbulk (by simp)) (hval 0 22 v0 rfl rfl) h0
 rw [Tryd.underlying22] at y0
 obtain ⟨a0,b0,rfl⟩:=Zq1 y0
 have k1:=h1
 have lt1:∀ x ∈ p1,x.block < W.heap.size:=by obtain ⟨m,hm⟩:=k1;exact DataW.trod_lt m _ _ _ hm
 obtain ⟨x1,y1,z1,_⟩:=Zk3 (R:=1048576) (n:=12) (T:=.str) (by kernel_rfl) (ZkA hbulk (by simp)) (hval 1 9 v1 rfl rfl) h1
 rw [Tryd.underlying9] at y1
 obtain ⟨a1,b1,rfl⟩:=ZE7 y1
 have k2:=h2
 have lt2:∀ x ∈ p2,x.block < W.heap.size:=by obtain ⟨m,hm⟩:=k2;exact DataW.trod_lt m _ _ _ hm
 obtain ⟨x2,y2,z2,_⟩:=Zk3 (R:=1048576) (n:=12) (T:=ZjT) (by kernel_rfl) (ZkA hbulk (by simp)) (hval 2 22 v2 rfl rfl) h2
 rw [Tryd.underlying22] at y2
 obtain ⟨a2,b2,rfl⟩:=Zq1 y2
 clear hA0 hval0
 refine (ZAo ZtQ (Zz1 hL) (args:=[.lst false (a0.map Zag),.str a1,.lst false (a2.map Zag)]) (by simp only [VRs];exact ⟨_,_,rfl,z0,_,_,rfl,z1,_,_,rfl,z2,rfl⟩) (ZEL a0 a2 a1 (fun x hx=>(b0 x hx).1) (fun x hx=>(b2 x hx).1))).mono fun e W' ⟨he,bel⟩=>?_
 subst he
 exact ⟨_,rfl,_,_,_,[],_,[],hW',trodAll_mk1 (shut_bool Tryd.underlying4 _),(trodAll_cons_mk (Below.trod Znb (by kernel_rfl) (of_decide_eq_true (by kernel_rfl)) k0 bel lt0) (trodAll_cons_mk (Below.trod Znb (by kernel_rfl) (of_decide_eq_true (by kernel_rfl)) k1 bel lt1) (trodAll_cons_mk (Below.trod Znb (by kernel_rfl) (of_decide_eq_true (by kernel_rfl)) k2 bel lt2) trodAll_mk0))),rfl,bel.frame _,fun h=>by cases h⟩
noncomputable def ZnB (os:Os):World :=
 let w0:=World.holding Tryd.prog os ⟨#[],#[],[]⟩
 let put (h:Array Obj) (g:Nat) (us:Array Value):Array Obj:=h.modify g fun
  | .cells _ t frozen=>.cells us t frozen
  | o=>o
 let h1:=put w0.heap 0 (Lib.firstTab.map fun z=>Value.int .u8 z).toArray
 let h2:=put h1 1 ((Wt 16).flatMap fun i=>[Value.int .u8 (Lib.accLo i),Value.int .u8 (Lib.accHi i)]).toArray
 { w0 with heap:=h2 }
theorem ZzR (os:Os):laidMet Tryd.prog Rows.treeOrderUptoRow.laid ((ZnB os).forCall (fun _ _=>0) ⟨#[],#[.slice none 0 0,.string XaY,.slice none 0 0],[]⟩).memory :=
 laidMet_of_run' 8 (by kernel_rfl) (by kernel_rfl)
theorem Zvq (os:Os) {H:Type} (enc:TypeId×Value->H):∃ ds places,DataW.whole enc Tryd.prog ((ZnB os).forCall (fun _ _=>0) ⟨#[],#[.slice none 0 0,.string XaY,.slice none 0 0],[]⟩).memory Tryd.f3.params.toList Rows.treeOrderSpec.vars false #[.slice none 0 0,.string XaY,.slice none 0 0].toList 8=some (ds,[],places)/\Rows.uptoSmall H ds=true :=
 ⟨[.nil,.lit (.string []),.nil],[],by kernel_rfl,by kernel_rfl⟩
set_option maxRecDepth 100000 in
theorem Zyy (os:Os) (started:os.Started) (H:Type) (enc:TypeId×Value->H) (F:Stop.Interp) :
  ReturnsInHanded {} Tryd.checked os 3 .any ((Rows.OpenSpec.upto Rows.treeOrderSpec).preRow enc Tryd.prog Tryd.f3 Rows.treeOrderUptoRow.domain false Rows.treeOrderUptoRow.laid) (((Rows.OpenSpec.upto Rows.treeOrderSpec).at F).post enc Tryd.prog Tryd.f3 false true false false):=by
 obtain ⟨ds,places,hx,hb⟩:=Zvq os enc
 refine returnsInHanded_of_row (C:=Tryd.checked) (s:=(Rows.OpenSpec.upto Rows.treeOrderSpec)) ZDk started (by kernel_rfl) Tryd.func3
  (witness_row_at (enc:=enc) (C:=Tryd.checked) false (ZnB os) #[.slice none 0 0,.string XaY,.slice none 0 0] rfl (by kernel_rfl) (by kernel_rfl) (by kernel_rfl)
   (OpenSpec.preRow_of_cond 8 hx (by kernel_rfl) (fun k hk=>by cases hk;rw [XU];exact hb) (by kernel_rfl) (ZzR os))) ?_
 intro W base args ds gs before hval hW _ hcond _ hL _ _
 exact Zyk H enc W base args ds gs before hval hW hL (hcond _ rfl)
theorem ZtK:Rows.TreeOrderUptoSaid :=
 OpenClaim.holds_of_cond 3 Tryd.f3 rfl rfl rfl rfl rfl rfl rfl ⟨rfl,rfl,rfl,rfl,rfl⟩ rfl rfl rfl rfl rfl (by kernel_rfl) Tryd.func3 (by kernel_rfl)
  (of_decide_eq_true (by kernel_rfl)) (by unfold Func.isWrapper;first | (rw [if_pos (by decide +kernel)];kernel_rfl) | (rw [if_neg (by decide +kernel)];exact ⟨rfl,rfl⟩))
  (fun os started H enc _ F=>by rw [OpenClaim.pre_eq_preRow];exact Zyy os started H enc F)
theorem ZB8 (f:FuncId) (fn:Func) (hf:Tryd.pinned.checked.prog.funcNamed "tidings/tidingslaw15.TreeOrder"=some f) (hfn:Tryd.pinned.checked.prog.funcs[f]?=some fn) :
  false=Tryd.pinned.checked.prog.looks []/\∀ (j:Nat) t,fn.params[j]?=some t->Tryd.pinned.checked.prog.wantsStandIn t=false:=by
 obtain rfl:f=3:=XbC ((show Tryd.prog.funcNamed "tidings/tidingslaw15.TreeOrder"=some 3 by kernel_rfl).symm.trans hf) |>.symm
 obtain rfl:fn=Tryd.f3:=(XbC (Tryd.func3.symm.trans hfn)).symm
 refine ⟨by kernel_rfl,fun j t ht=>?_⟩
 rw [Tryd.params3] at ht
 have hm:t=22\/t=9:=by
  have:=Array.mem_of_getElem? ht
  simp at this
  first | exact this | exact this.symm | omega | (rcases this with h | h | h <;> simp [h]) | (rcases this with h | h | h | h <;> simp [h]) | (rcases this with h | h | h | h | h <;> simp [h]) | (rcases this with h | h | h | h | h | h <;> simp [h]) | (rcases this with h | h | h | h | h | h | h <;> simp [h])
 rcases hm with rfl | rfl
 ·exact (show Tryd.prog.wantsStandIn 22=false by kernel_rfl)
 ·exact (show Tryd.prog.wantsStandIn 9=false by kernel_rfl)
theorem treeOrder_card:Rows.TreeOrderUptoCardSaid :=
 Claim7.holds_tied_plain_at .later [] _ _ _ _ ZtK (fun _ h=>by cases h) (by kernel_rfl) (fun _ h=>by cases h) treeOrderUpto_row_tie rfl ⟨rfl,rfl⟩ (by kernel_rfl) rfl ZB8 (by kernel_rfl)
#print axioms treeOrder_card
end
end Go.Proofs.YtbjflkbenobjjaaDoor
