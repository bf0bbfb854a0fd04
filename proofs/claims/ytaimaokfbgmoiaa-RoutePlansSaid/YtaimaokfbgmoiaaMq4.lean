/- packed -/
import Derived.Test.YtaimaokfbgmoiaaMq3
set_option linter.defProp false
set_option linter.unusedSectionVars false
set_option linter.unusedSimpArgs false
set_option linter.unusedVariables false
open Option.some renaming injEq→Xa
open Prod.mk renaming injEq→Xb
open Bool renaming decide_eq_true→Xc,not_eq_true→Xh,and_eq_true→Xt,false_eq_true→Xu,not_true→WD,not_false→WG,and_self→WX,false_and→W0,true_and→W3
open List renaming range_succ→Xd,getElem?_eq_some_iff→Xf,all_cons→Xi,getD_eq_getElem?_getD→Xn,all_nil→Xp,length_cons→Xq,replicate→Xr,getElem?_set→Xv,map_cons→Xw,mem_of_getElem?→Xx,length_nil→Xy,getElem?_eq_getElem→Xz,getD_cons_zero→XA,getElem?_cons_succ→XC,getD_cons_succ→XD,length_append→XE,contains_nil→XF,mem_append→XG,nil_append→XI,lookup_cons→XJ,length_map→XL,length_singleton→XM,getElem?_cons_zero→XN,mem_cons→XP,lookup_nil→XR,map_nil→XS,range'→XT,mem_singleton→XU,mem_map→XV,getElem?_eq_none→XX,getElem?_map→XY,any_cons→XZ,cons_append→X1,append_nil→X2,any_nil→X3,mem_range'_1→X6,getElem?_take→X8,length_take→X9,ext_getElem?→Wa,nodup_cons→Wc,mem_or_eq_of_mem_set→We,getElem?_append_left→Wf,getElem?_range'→Wg,take_succ_cons→Wh,take_of_length_le→Wk,map_append→Wl,getElem?_append_right→Wo,append_assoc→Wt,drop_eq_nil_iff→Wx,map_map→Wy,mem_iff_getElem?→WA,replicate_succ→WC,drop_zero→WF,nodup_append→WJ,length_replicate→WN,singleton_append→WO,nodup_range'→WS,map_congr_left→WZ,set_cons_succ→W8,drop_eq_getElem_cons→W9,foldl_cons→Xag,length_drop→Xam,set_append_right→Xaz,range'_succ→XaX,not_mem_nil→XaY,set_set→Xa1,length_range'→Xa6,map_set→Xa9,filter_cons→Xbe,getElem?_zipIdx→Xbg,Perm→Xby,map_drop→XbD
open Nat renaming reduceLeDiff→Xe,reduceEqDiff→Xg,reduceMul→Xj,reduceAdd→Xk,reduceSub→Xl,reduceBEq→Xm,reduceLT→Xo,zero_add→XK,le_refl→X0,one_mul→Wj,add_zero→Wm,add_comm→W6,not_lt_zero→Xa5,zero_le→Xbk
open Or renaming inl→XH,inr→XO
open Option renaming map_some→X4,getD_some→Wr,map→Xah
open BitVec renaming ofInt→Xac
open Int renaming toNat_natCast→Xau
open List.cons renaming injEq→XaF
open List.Perm renaming refl→Xbq
namespace Go.Proofs.Ytaimaokfbgmoiaa
set_option maxHeartbeats 16000000
set_option maxRecDepth 10000
section
def ZfG (c:UInt8):UInt8:=UInt8.ofNat (97+c.toNat % 26)
def Zc3 (b:Zt):Zt:=(b.take 30).map ZfG
theorem ZAI (c:UInt8):IntKind.u8.wrap (97+(c.toNat:Int).tmod 26)=((ZfG c).toNat:Int):=by
 have h:(c.toNat:Int).tmod 26=((c.toNat % 26:Nat):Int):=by rw [Int.tmod_eq_emod_of_nonneg (by omega)];omega
 rw [h,IntKind.wrap_u8,ZfG,UInt8.toNat_ofNat']
 omega
theorem ZyY (b:Zt) (hb:b.length<=9223372036854775807):∀ (r:Zt) (i:Nat) (acc:Zt),(b.take 30).drop i=r->acc.length<=i->i<=30 ->
  ZiZ 0 [(4,.int .i64 i),(3,.str acc),(0,.lst false (b.map Zn))] []=some (.str (acc++r.map ZfG),[])
 | [],i,acc,h,ha,hi=>by
  rw [Wx,X9] at h
  unfold ZiZ
  rw [Zbe]
  by_cases h1:(i:Int) < (b.length:Int)
  ·have h2:¬(i:Int) < 30:=by omega
   simp -implicitDefEqProofs only [EQA,ZE,ZB,ZG,ZC,ZF,ZD,ZP,ZS,ZQ,ZN,ZL,ZM,ZO,ZT,ZR,implies_true,forall_const,Xk,Xl,Xo,Xe,Xg,Xm,Xj,ZH,ZK,unA,Zu,Zz,unG,reduceCtorEq,Zo,decide_eq_true_eq,Xh,Xc,ite_self,↓reduceIte,Zy,ZI,gcT,gcA,Zm,Zf,Zd,Ze,Zk,Zc,Zl,Zg,Zp,Xd,Zkk,Zhn,Zj1,Zkq,ZgS,ZiX,Zha,Zr,Zh,Zi,Zb,Zx,ZJ,h1,h2]
  ·simp -implicitDefEqProofs only [EQA,ZE,ZB,ZG,ZC,ZF,ZD,ZP,ZS,ZQ,ZN,ZL,ZM,ZO,ZT,ZR,implies_true,forall_const,Xk,Xl,Xo,Xe,Xg,Xm,Xj,ZH,ZK,unA,Zu,Zz,unG,reduceCtorEq,Zo,decide_eq_true_eq,Xh,Xc,ite_self,↓reduceIte,Zy,ZI,gcT,gcA,Zm,Zf,Zd,Ze,Zk,Zc,Zl,Zg,Zp,Xd,Zkk,Zhn,Zj1,Zkq,ZgS,ZiX,Zha,Zr,Zh,Zi,Zb,Zx,ZJ,h1]
 | c::r,i,acc,h,ha,hi=>by
  have hd:=Zbn h
  have hlt:i < min 30 b.length:=by have:=hd.2.2;rwa [X9] at this
  have ih:=ZyY b hb r (i+1) (acc++[ZfG c]) hd.2.1 (by simp;omega) (by omega)
  have hat:b[i]?=some c:=by
   have:=hd.1
   rw [X8] at this
   rw [if_pos (by omega)] at this
   exact this
  have h1:(i:Int) < (b.length:Int):=by omega
  have h2:(i:Int) < 30:=by omega
  have e1:=iad hat Zn (k:=1) rfl
  have hw:IntKind.i64.wrap ((i:Int)+1)=((i+1:Nat):Int):=by rw [Zcm (by omega) (by omega)];rfl
  have hl:=ZAI c
  have hz:((26:Int)=0)=False:=by simp
  have k1:acc.length+1<=9223372036854775807:=by omega
  have hb2:Zfm [AVal.int .u8 ((ZfG c).toNat:Int)]=some [ZfG c]:=by
   have:=ZJ [ZfG c];exact this
  rw [Wt,WO,<-Xw] at ih
  unfold ZiZ at ih ⊢
  rw [Zbe]
  simp -implicitDefEqProofs only [EQA,ZE,ZB,ZG,ZC,ZF,ZD,ZP,ZS,ZQ,ZN,ZL,ZM,ZO,ZT,ZR,implies_true,forall_const,Xk,Xl,Xo,Xe,Xg,Xm,Xj,ZH,ZK,unA,Zu,Zz,unG,reduceCtorEq,Zo,decide_eq_true_eq,Xh,Xc,ite_self,↓reduceIte,Zy,ZI,gcT,gcA,Zm,Zf,Zd,Ze,Zk,Zc,Zl,Zg,Zp,Xd,Zkk,Zhn,Zj1,Zkq,ZgS,ZiX,Zha,Zr,Zh,Zi,Zb,Zx,ZJ,h1,h2,e1,hw,hl,hz,k1,hb2,Zn,AVal.cells,Zaj,viewAs,Zao,Zad,Zag,ZV,XM,Wj,X0]
  exact ih
theorem ZA8 (b:Zt) (hb:b.length<=9223372036854775807):E 18 [Zh b] []=some (.str (Zc3 b),[]):=by
 have key:=ZyY b hb (b.take 30) 0 [] rfl (X0 _) (by omega)
 have z0:((0:Nat):Int)=0:=rfl
 rw [z0] at key
 unfold ZiZ at key
 rw [ZcU (by rfl) ZEv]
 simp -implicitDefEqProofs only [EQA,ZE,ZB,ZG,ZC,ZF,ZD,ZP,ZS,ZQ,ZN,ZL,ZM,ZO,ZT,ZR,implies_true,forall_const,Xk,Xl,Xo,Xe,Xg,Xm,Xj,ZH,ZK,unA,Zu,Zz,unG,reduceCtorEq,Zo,decide_eq_true_eq,Xh,Xc,ite_self,↓reduceIte,Zy,ZI,gcT,gcA,Zm,Zf,Zd,Ze,Zk,Zc,Zl,Zg,Zp,Xd,Zkk,Zhn,Zj1,Zkq,ZgS,ZiX,Zha,Zr,Zh,Zi,Zb,Zx,ZJ,Zr]
 exact key
theorem ZgM (σ:Za) (sq own:Nat) (f:Bool) (b:Zt) (hb:b.length<=9223372036854775807):Z4 E BY σ sq 18 own true [.lst f (b.map Zn)]=some (.str (Zc3 b),σ,{}) :=
 Zwg (ZA8 b hb) (by kernel_rfl) rfl rfl rfl (fun _=>rfl) _ _ _
structure ZfC where
 fmt:Int
 content:Zt
 corr:Zt
 users:Zt
def Zyy (x:Int):Int:=IntKind.i64.wrap (((Xac IntKind.i64.bits x &&& Xac IntKind.i64.bits 1).toNat:Nat):Int)
def ZeX (u:Zt) (c:UInt8):Zb4:=⟨38,0,Zc3 [c],Zc3 u,[]⟩
def Zfq (p:ZfC):List Zb4 :=
 (if p.fmt>=0 then [⟨1,Zyy p.fmt,[],[],[]⟩] else [])++((if p.content.length > 0 then [⟨3,0,Zc3 p.content,[],[]⟩] else [])++(if p.corr.length > 0 then [⟨9,0,[],[],p.corr.take 30⟩] else []))
def ZeL (p:ZfC):List Zb4:=Zfq p++(p.users.take 4).map (ZeX p.users)
def lsT (i:Int):List AVal->Tms
 | []=>[(4,.int .i64 i),(3,.lst true []),(1,.ref 0 0)]
 | x::xs=>[(4,.int .i64 i),(3,.sl 0 0 0 (x::xs).length),(1,.ref 1 0)]
def lsH (b:Zq):List AVal->Za
 | []=>[b]
 | x::xs=>[.row 0 5 (x::xs),b]
def pC (p:ZfC):List AVal:=[.int .i64 p.fmt,.lst false (p.content.map Zn),.lst false (p.corr.map Zn),.lst false (p.users.map Zn)]
theorem ZmP (i:Int) {X:List AVal} (h:0 < X.length):lsT i X=[(4,.int .i64 i),(3,.sl 0 0 0 X.length),(1,.ref 1 0)]:=by
 cases X with
 | nil=>simp at h
 | cons x xs=>rfl
theorem Ztv (b:Zq) {X:List AVal} (h:0 < X.length):lsH b X=[.row 0 5 X,b]:=by
 cases X with
 | nil=>simp at h
 | cons x xs=>rfl
theorem Zzv (p:ZfC) (hu:p.users.length<=9223372036854775807):∀ (r:Zt) (i:Nat) (acc:List Zb4),(p.users.take 4).drop i=r->acc.length<=3+i->i<=4 ->
  Zi0 0 (lsT i (acc.map Zb)) (lsH (.var (pC p)) (acc.map Zb))=some (ZdQ ((acc++r.map (ZeX p.users)).map Zb),Zcl 5 ((acc++r.map (ZeX p.users)).map Zb))
 | [],i,acc,h,ha,hi=>by
  rw [Wx,X9] at h
  simp only [XS,X2]
  unfold Zi0 pC
  rw [Zbe]
  cases acc with
  | nil =>
   simp only [XS,ZpT,Zdp,lsT,lsH]
   by_cases h1:(i:Int) < (p.users.length:Int)
   ·have h2:¬(i:Int) < 4:=by omega
    simp -implicitDefEqProofs only [EQA,ZE,ZB,ZG,ZC,ZF,ZD,ZP,ZS,ZQ,ZN,ZL,ZM,ZO,ZT,ZR,implies_true,forall_const,Xk,Xl,Xo,Xe,Xg,Xm,Xj,ZH,ZK,unA,Zu,Zz,unG,reduceCtorEq,Zo,decide_eq_true_eq,Xh,Xc,ite_self,↓reduceIte,Zy,ZI,gcT,gcA,Zm,Zf,Zd,Ze,Zk,Zc,Zl,Zg,Zp,Xd,ZgC,Zfb,Zgs,Zgy,Zfl,ZfX,Zfj,Zr,Zh,Zi,Zb,Zx,ZJ,h1,h2]
    try (simp [Zay,gcA,Zm,Zf,ZZ,Z6,Zd,Ze,Zk,Zc,Zl,ZW,Zs,Zg,Zp,Xd])
   ·simp -implicitDefEqProofs only [EQA,ZE,ZB,ZG,ZC,ZF,ZD,ZP,ZS,ZQ,ZN,ZL,ZM,ZO,ZT,ZR,implies_true,forall_const,Xk,Xl,Xo,Xe,Xg,Xm,Xj,ZH,ZK,unA,Zu,Zz,unG,reduceCtorEq,Zo,decide_eq_true_eq,Xh,Xc,ite_self,↓reduceIte,Zy,ZI,gcT,gcA,Zm,Zf,Zd,Ze,Zk,Zc,Zl,Zg,Zp,Xd,ZgC,Zfb,Zgs,Zgy,Zfl,ZfX,Zfj,Zr,Zh,Zi,Zb,Zx,ZJ,h1]
    try (simp [Zay,gcA,Zm,Zf,ZZ,Z6,Zd,Ze,Zk,Zc,Zl,ZW,Zs,Zg,Zp,Xd])
  | cons a acc =>
   generalize hX:(a::acc).map Zb=X
   have hXp:0 < X.length:=by rw [<-hX];simp
   rw [ZyP hXp,Zde hXp,ZmP _ hXp,Ztv _ hXp]
   by_cases h1:(i:Int) < (p.users.length:Int)
   ·have h2:¬(i:Int) < 4:=by omega
    simp -implicitDefEqProofs only [EQA,ZE,ZB,ZG,ZC,ZF,ZD,ZP,ZS,ZQ,ZN,ZL,ZM,ZO,ZT,ZR,implies_true,forall_const,Xk,Xl,Xo,Xe,Xg,Xm,Xj,ZH,ZK,unA,Zu,Zz,unG,reduceCtorEq,Zo,decide_eq_true_eq,Xh,Xc,ite_self,↓reduceIte,Zy,ZI,gcT,gcA,Zm,Zf,Zd,Ze,Zk,Zc,Zl,Zg,Zp,Xd,ZgC,Zfb,Zgs,Zgy,Zfl,ZfX,Zfj,Zr,Zh,Zi,Zb,Zx,ZJ,h1,h2]
    try (simp [Zay,gcA,Zm,Zf,ZZ,Z6,Zd,Ze,Zk,Zc,Zl,ZW,Zs,Zg,Zp,Xd])
   ·simp -implicitDefEqProofs only [EQA,ZE,ZB,ZG,ZC,ZF,ZD,ZP,ZS,ZQ,ZN,ZL,ZM,ZO,ZT,ZR,implies_true,forall_const,Xk,Xl,Xo,Xe,Xg,Xm,Xj,ZH,ZK,unA,Zu,Zz,unG,reduceCtorEq,Zo,decide_eq_true_eq,Xh,Xc,ite_self,↓reduceIte,Zy,ZI,gcT,gcA,Zm,Zf,Zd,Ze,Zk,Zc,Zl,Zg,Zp,Xd,ZgC,Zfb,Zgs,Zgy,Zfl,ZfX,Zfj,Zr,Zh,Zi,Zb,Zx,ZJ,h1]
    try (simp [Zay,gcA,Zm,Zf,ZZ,Z6,Zd,Ze,Zk,Zc,Zl,ZW,Zs,Zg,Zp,Xd])
 | c::r,i,acc,h,ha,hi=>by
  have hd:=Zbn h
  have hlt:i < min 4 p.users.length:=by have:=hd.2.2;rwa [X9] at this
  have ih:=Zzv p hu r (i+1) (acc++[ZeX p.users c]) hd.2.1 (by simp;omega) (by omega)
  have hat:p.users[i]?=some c:=by
   have:=hd.1
   rw [X8] at this
   rw [if_pos (by omega)] at this
   exact this
  have hsl:(p.users.take (i+1)).drop i=[c]:=by
   rw [List.drop_take]
   have : i+1 - i=1:=by omega
   rw [this]
   obtain ⟨hl,he⟩:=Xf.1 hat
   rw [W9 hl,he]
   rfl
  have h1:(i:Int) < (p.users.length:Int):=by omega
  have h2:(i:Int) < 4:=by omega
  have hw:IntKind.i64.wrap ((i:Int)+1)=((i+1:Nat):Int):=by rw [Zcm (by omega) (by omega)];rfl
  have hs:=fun σ k1 k2=>ZFA σ p.users k1 k2 (i:Int) ((i+1:Nat):Int) (by omega) (by omega) (by omega)
  have t1:((i:Int)).toNat=i:=rfl
  have t2:(((i+1:Nat):Int)).toNat=i+1:=rfl
  rw [t1,t2,hsl] at hs
  have hP1:=fun σ sq own f=>ZgM σ sq own f [c] (by simp)
  have hP2:=fun σ sq own f=>ZgM σ sq own f p.users hu
  simp only [Xw,XS] at hP1 hs
  rw [Wt,WO,<-Xw] at ih
  generalize hR:acc++(c::r).map (ZeX p.users)=R at *
  unfold ZeX at ih
  unfold pC at ih ⊢
  generalize Zc3 [c]=U1 at *
  generalize Zc3 p.users=U2 at *
  unfold Zi0 at ih ⊢
  rw [Zbe]
  cases acc with
  | nil =>
   simp only [XI,XS,Xw,lsT,lsH,Zb,Zx,Zh,Xq,Xy,XK] at ih ⊢
   have hk:kOk 5 [AVal.agg [.int .i64 38,.int .i64 0,.str U1,.str U2,.lst false []]]=true:=rfl
   simp -implicitDefEqProofs only [EQA,ZE,ZB,ZG,ZC,ZF,ZD,ZP,ZS,ZQ,ZN,ZL,ZM,ZO,ZT,ZR,implies_true,forall_const,Xk,Xl,Xo,Xe,Xg,Xm,Xj,ZH,ZK,unA,Zu,Zz,unG,reduceCtorEq,Zo,decide_eq_true_eq,Xh,Xc,ite_self,↓reduceIte,Zy,ZI,gcT,gcA,Zm,Zf,Zd,Ze,Zk,Zc,Zl,Zg,Zp,Xd,ZgC,Zfb,Zgs,Zgy,Zfl,ZfX,Zfj,Zr,Zh,Zi,Zb,Zx,ZJ,h1,h2,hw,hs,hP1,hP2,hk,Zae,AVal.cells,Zap,Zat,ZaU,Zav,XZ,X3,Xi,Xp,Xq,Xy,ZaD,ZaE,ZaI,ZaJ,ZaL,XA,XD,Zaf,Zai,Zak,Zau,ZaA,Zaz,ZaH,ZaM,Zaq,ZaK,XJ,XR,Xi,Xp,XF,Zaj,viewAs,Zao,Zad,Zag,ZV,XM,Wj,X0,Xj,Xe]
   exact ih
  | cons a acc =>
   rw [Wl] at ih
   have hXl:((a::acc).map Zb).length=acc.length+1:=by simp
   simp only [Xq] at ha
   generalize hX:(a::acc).map Zb=X at *
   have hXp:0 < X.length:=by omega
   have hXq:0 < (X++[(⟨38,0,U1,U2,[]⟩:Zb4)].map Zb).length:=by rw [XE];omega
   rw [ZmP _ hXq,Ztv _ hXq] at ih
   rw [ZmP _ hXp,Ztv _ hXp]
   simp only [Xw,XS,Zb,Zx,Zh,XE,Xq,Xy,XK] at ih
   have hk:kOk 5 [AVal.agg [.int .i64 38,.int .i64 0,.str U1,.str U2,.lst false []]]=true:=rfl
   have k2:(X.length+1)*72<=140737488355328:=by omega
   simp -implicitDefEqProofs only [EQA,ZE,ZB,ZG,ZC,ZF,ZD,ZP,ZS,ZQ,ZN,ZL,ZM,ZO,ZT,ZR,implies_true,forall_const,Xk,Xl,Xo,Xe,Xg,Xm,Xj,ZH,ZK,unA,Zu,Zz,unG,reduceCtorEq,Zo,decide_eq_true_eq,Xh,Xc,ite_self,↓reduceIte,Zy,ZI,gcT,gcA,Zm,Zf,Zd,Ze,Zk,Zc,Zl,Zg,Zp,Xd,ZgC,Zfb,Zgs,Zgy,Zfl,ZfX,Zfj,Zr,Zh,Zi,Zb,Zx,ZJ,h1,h2,hw,hs,hP1,hP2,hk,k2,Zae,AVal.cells,Zap,Zat,ZaU,Zav,XZ,X3,Xi,Xp,Xq,Xy,ZaD,ZaE,ZaI,ZaJ,ZaL,XA,XD,Zaf,Zai,Zak,Zau,ZaA,Zaz,ZaH,ZaM,Zaq,ZaK,XJ,XR,Xi,Xp,XF,Zaj,viewAs,Zao,Zad,Zag,ZV,XM,Wj,X0]
   exact ih
theorem ZCW (p:ZfC) (h1:p.content.length<=9223372036854775807) (h3:p.users.length<=9223372036854775807):E 21 [.agg (pC p)] []=some (ZdQ ((ZeL p).map Zb),Zcl 5 ((ZeL p).map Zb)):=by
 have hlen:(Zfq p).length<=3:=by
  unfold Zfq
  repeat' split
  all_goals simp
 have key:=Zzv p h3 (p.users.take 4) 0 (Zfq p) rfl (by omega) (by omega)
 have hP:=fun σ sq own f=>ZgM σ sq own f p.content h1
 have hC:=fun σ sq own=>ZwF σ sq own true p.corr 30 (by omega)
 have z0:((0:Nat):Int)=0:=rfl
 have z30:(30:Int).toNat=30:=rfl
 rw [z30] at hC
 rw [z0] at key
 rw [show ZeL p=Zfq p++(p.users.take 4).map (ZeX p.users) from rfl]
 generalize hR:Zfq p++(p.users.take 4).map (ZeX p.users)=R at *
 unfold Zfq Zyy at key
 unfold pC at key ⊢
 generalize Zc3 p.content=U1 at *
 generalize p.corr.take 30=U2 at *
 unfold Zi0 at key
 have w1:kOk 5 [AVal.agg [.int .i64 1,.int .i64 (IntKind.i64.wrap (((Xac IntKind.i64.bits p.fmt &&& Xac IntKind.i64.bits 1).toNat:Nat):Int)),.str [],.str [],.lst false []]]=true:=rfl
 have w2:kOk 5 [AVal.agg [.int .i64 3,.int .i64 0,.str U1,.str [],.lst false []]]=true:=rfl
 have w3:kOk 5 [AVal.agg [.int .i64 9,.int .i64 0,.str [],.str [],.lst false (U2.map Zn)]]=true:=rfl
 by_cases c1:p.fmt>=0 <;> by_cases c2:(p.content.length:Int) > 0 <;> by_cases c3:(p.corr.length:Int) > 0
 all_goals (have d2:(p.content.length > 0)=((p.content.length:Int) > 0):=by simp)
 all_goals (have d3:(p.corr.length > 0)=((p.corr.length:Int) > 0):=by simp)
 all_goals simp only [c1,d2,c2,d3,c3,if_true,if_false,XI,X2,X1,Xw,XS,lsT,lsH,Zb,Zx,Zh,Xq,Xy,XK] at key
 all_goals clear d2 d3
 all_goals rw [ZcU (by rfl) ZFZ]
 all_goals simp -implicitDefEqProofs only [EQA,ZE,ZB,ZG,ZC,ZF,ZD,ZP,ZS,ZQ,ZN,ZL,ZM,ZO,ZT,ZR,implies_true,forall_const,Xk,Xl,Xo,Xe,Xg,Xm,Xj,ZH,ZK,unA,Zu,Zz,unG,reduceCtorEq,Zo,decide_eq_true_eq,Xh,Xc,ite_self,↓reduceIte,Zy,ZI,gcT,gcA,Zm,Zf,Zd,Ze,Zk,Zc,Zl,Zg,Zp,Xd,ZgC,Zfb,Zgs,Zgy,Zfl,ZfX,Zfj,Zr,Zh,Zi,Zb,Zx,ZJ,c1,c2,c3,hP,hC,w1,w2,w3,Zae,AVal.cells,Zap,Zat,ZaU,Zav,XZ,X3,Xi,Xp,Xq,Xy,ZaD,ZaE,ZaI,ZaJ,ZaL,XA,XD,Zaf,Zai,Zak,Zau,ZaA,Zaz,ZaH,ZaM,Zaq,ZaK,XJ,XR,Xi,Xp,XF,Zaj,viewAs,Zao,Zad,Zag,ZV,XM,Wj,X0,Xj,Xe]
 all_goals exact key
theorem ZC0 (σ:Za) (sq own:Nat) (p:ZfC) (h1:p.content.length<=9223372036854775807) (h3:p.users.length<=9223372036854775807):Z4 E BY σ sq 21 own true [.agg [.int .i64 p.fmt,.lst false (p.content.map Zn),.lst false (p.corr.map Zn),.lst false (p.users.map Zn)]]=some (.lst false ((ZeL p).map Zb),σ,{}) :=
 Zyi (k:=5) (ZCW p h1 h3) (by kernel_rfl) rfl rfl _ _ _
end
section
def ZBw (p:Zb4):Prop:=p.text.length<=9223372036854775807/\p.pair.length<=9223372036854775807/\p.data.length<=9223372036854775807
end
section
end
section
end
section
end
section
structure ZA9 (n:ZU):Prop where
 topic:n.topic.length<=9223372036854775807
 payload:n.payload.length<=9223372036854775807
 sender:n.sender.length<=9223372036854775807
 props:n.props.length<=700000000
 tx:∀ p ∈ n.props,ZBw p
 dat:∀ p ∈ n.props,p.data.length<=140737488355328
end
section
end
section
structure ZfF where
 b:Zt
 short:Bool
end
section
end
section
structure ZGj where
 r1:Zt×ZfF
 r2:Zt×ZfF
 r3:Zt×ZfF
 r4:Zt×ZfF
 r5:Zt×ZfF
 r6:Zt×ZfF
 r7:Zt×ZfF
 r8:Zt×ZfF
end
section
end
section
structure ZGk (it:Zcs):Prop where
 note:ZA9 it.note
 ids:it.ids.length<=1000000
 share:it.share.length<=9223372036854775807
end
section
def itC (n:ZU) (q:Int) (rt:Bool) (ids:AVal) (sh:Zt):List AVal:=[.str n.topic,.lst false (n.payload.map Zn),.int .i64 n.qos,.bool n.retain,.str n.sender,.int .i64 n.expires,.lst false (n.props.map Zb),.int .i64 n.origin,.int .i64 n.number,.int .i64 n.hops,.int .i64 q,.bool rt,ids,.str sh]
def itZ:List AVal:=[.str [],.lst true [],.int .i64 0,.bool false,.str [],.int .i64 0,.lst true [],.int .i64 0,.int .i64 0,.int .i64 0,.int .i64 0,.bool false,.lst true [],.str []]
end
section
def Zg2 (x k:Int):Int:=IntKind.i64.wrap (((Xac IntKind.i64.bits x &&& Xac IntKind.i64.bits k).toNat:Nat):Int)
structure ZcV where
 topic:Zt
 sender:Zt
 share:Zt
 payload:Zt
 qos:Int
 sub:Int
 retain:Bool
 keep:Bool
 life:Int
 p:ZfC
 ids:List Int
 origin:Int
 number:Int
def mC (m:ZcV):List AVal:=[.lst false (m.topic.map Zn),.lst false (m.sender.map Zn),.lst false (m.share.map Zn),.lst false (m.payload.map Zn),.int .i64 m.qos,.int .i64 m.sub,.bool m.retain,.bool m.keep,.int .i64 m.life,.int .i64 m.p.fmt,.lst false (m.p.content.map Zn),.lst false (m.p.corr.map Zn),.lst false (m.p.users.map Zn),.lst false (m.ids.map (AVal.int .i64)),.int .i64 m.origin,.int .i64 m.number]
structure ZdU (m:ZcV):Prop where
 topic:m.topic.length<=9223372036854775807
 sender:m.sender.length<=9223372036854775807
 share:m.share.length<=9223372036854775807
 content:m.p.content.length<=9223372036854775807
 users:m.p.users.length<=9223372036854775807
 ids:m.ids.length<=9223372036854775807
def Zft (x:Int):Int:=IntKind.i64.wrap (1+Zg2 x 16777215)
def ZhB (m:ZcV):ZU:=⟨116::Zc3 m.topic,m.payload.take 300,Zc9 m.qos 0 2,m.retain,Zc3 m.sender,if m.life > 0 then Zg2 m.life 65535 else 0,ZeL m.p,Zg2 m.origin 255,Zg2 m.number 16777215,0⟩
def ZfT (m:ZcV):Zt:=if (m.share.length:Int) > 0 then [36,115,104,97,114,101,47,103,47]++Zc3 m.share else []
def Zj (m:ZcV):Zcs:=⟨ZhB m,Zc9 m.sub 0 2,m.keep,(m.ids.take 4).map Zft,ZfT m⟩
def itO (it:Zcs):AVal×Za:=(.agg (itC it.note it.qos it.retain (ZdQ (it.ids.map (AVal.int .i64))) it.share),Zcl 1 (it.ids.map (AVal.int .i64)))
def miT (i:Int):List AVal->Tms
 | []=>[(5,.int .i64 i),(4,.ref 0 0),(2,.ref 1 0),(1,.ref 2 0)]
 | _::_=>[(5,.int .i64 i),(4,.ref 0 0),(2,.ref 2 0),(1,.ref 3 0)]
def miH (n:ZU) (q:Int) (rt:Bool) (z b:Zq):List AVal->Za
 | []=>[.var (itC n q rt (.lst true []) []),z,b]
 | x::xs=>[.var (itC n q rt (.sl 1 0 0 (x::xs).length) []),.row 0 1 (x::xs),z,b]
theorem ZnJ (i:Int) {X:List AVal} (h:0 < X.length):miT i X=[(5,.int .i64 i),(4,.ref 0 0),(2,.ref 2 0),(1,.ref 3 0)]:=by
 cases X with
 | nil=>simp at h
 | cons x xs=>rfl
theorem ZmS (n:ZU) (q:Int) (rt:Bool) (z b:Zq) {X:List AVal} (h:0 < X.length):miH n q rt z b X=[.var (itC n q rt (.sl 1 0 0 X.length) []),.row 0 1 X,z,b]:=by
 cases X with
 | nil=>simp at h
 | cons x xs=>rfl
theorem Zvx (b:Zt):(Zc3 b).length<=30:=by simp [Zc3];omega
theorem ZF9 (m:ZcV) (hm:ZdU m) (n:ZU) (q:Int) (rt:Bool) (ids:List Int) (i:Int) (h:¬i < (m.ids.length:Int)\/¬i < 4) :
  Zh6 0 (miT i (ids.map (AVal.int .i64))) (miH n q rt (.var itZ) (.var (mC m)) (ids.map (AVal.int .i64)))=some (itO ⟨n,q,rt,ids,ZfT m⟩):=by
 have hP:=fun σ sq own f=>ZgM σ sq own f m.share hm.share
 have hl:=Zvx m.share
 have k1:9+(Zc3 m.share).length<=9223372036854775807:=by omega
 unfold itO ZfT
 simp only
 have hh:(if i < (m.ids.length:Int) then decide (i < 4) else false)=false:=by
  split
  ·rename_i h1
   have : ¬i < 4:=h.resolve_left (by simpa using h1)
   simp [this]
  ·rfl
 unfold Zh6
 rw [Zbe]
 cases hids:ids.map (AVal.int .i64) with
 | nil =>
  rw [ZpT,Zdp]
  unfold miT miH itC itZ mC
  by_cases c0:i < (m.ids.length:Int)
  ·have c1:¬i < 4:=h.resolve_left (by simpa using c0)
   by_cases c2:(m.share.length:Int) > 0
   ·rw [if_pos c2]
    simp -implicitDefEqProofs only [EQA,ZE,ZB,ZG,ZC,ZF,ZD,ZP,ZS,ZQ,ZN,ZL,ZM,ZO,ZT,ZR,implies_true,forall_const,Xk,Xl,Xo,Xe,Xg,Xm,Xj,ZH,ZK,unA,Zu,Zz,unG,reduceCtorEq,Zo,decide_eq_true_eq,Xh,Xc,ite_self,↓reduceIte,Zy,ZI,gcT,gcA,Zm,Zf,Zd,Ze,Zk,Zc,Zl,Zg,Zp,Xd,Zd5,ZdC,Zd7,ZdZ,ZdE,Zeb,ZdJ,Zr,Zh,Zi,Zb,Zx,ZJ,c0,c1,c2,hP,k1,Zae,AVal.cells]
    try (simp [Zay,gcA,Zm,Zf,ZZ,Z6,Zd,Ze,Zk,Zc,Zl,ZW,Zs,Zg,Zp,Xd])
   ·rw [if_neg c2]
    simp -implicitDefEqProofs only [EQA,ZE,ZB,ZG,ZC,ZF,ZD,ZP,ZS,ZQ,ZN,ZL,ZM,ZO,ZT,ZR,implies_true,forall_const,Xk,Xl,Xo,Xe,Xg,Xm,Xj,ZH,ZK,unA,Zu,Zz,unG,reduceCtorEq,Zo,decide_eq_true_eq,Xh,Xc,ite_self,↓reduceIte,Zy,ZI,gcT,gcA,Zm,Zf,Zd,Ze,Zk,Zc,Zl,Zg,Zp,Xd,Zd5,ZdC,Zd7,ZdZ,ZdE,Zeb,ZdJ,Zr,Zh,Zi,Zb,Zx,ZJ,c0,c1,c2,Zae,AVal.cells]
    try (simp [Zay,gcA,Zm,Zf,ZZ,Z6,Zd,Ze,Zk,Zc,Zl,ZW,Zs,Zg,Zp,Xd])
  ·by_cases c2:(m.share.length:Int) > 0
   ·rw [if_pos c2]
    simp -implicitDefEqProofs only [EQA,ZE,ZB,ZG,ZC,ZF,ZD,ZP,ZS,ZQ,ZN,ZL,ZM,ZO,ZT,ZR,implies_true,forall_const,Xk,Xl,Xo,Xe,Xg,Xm,Xj,ZH,ZK,unA,Zu,Zz,unG,reduceCtorEq,Zo,decide_eq_true_eq,Xh,Xc,ite_self,↓reduceIte,Zy,ZI,gcT,gcA,Zm,Zf,Zd,Ze,Zk,Zc,Zl,Zg,Zp,Xd,Zd5,ZdC,Zd7,ZdZ,ZdE,Zeb,ZdJ,Zr,Zh,Zi,Zb,Zx,ZJ,c0,c2,hP,k1,Zae,AVal.cells]
    try (simp [Zay,gcA,Zm,Zf,ZZ,Z6,Zd,Ze,Zk,Zc,Zl,ZW,Zs,Zg,Zp,Xd])
   ·rw [if_neg c2]
    simp -implicitDefEqProofs only [EQA,ZE,ZB,ZG,ZC,ZF,ZD,ZP,ZS,ZQ,ZN,ZL,ZM,ZO,ZT,ZR,implies_true,forall_const,Xk,Xl,Xo,Xe,Xg,Xm,Xj,ZH,ZK,unA,Zu,Zz,unG,reduceCtorEq,Zo,decide_eq_true_eq,Xh,Xc,ite_self,↓reduceIte,Zy,ZI,gcT,gcA,Zm,Zf,Zd,Ze,Zk,Zc,Zl,Zg,Zp,Xd,Zd5,ZdC,Zd7,ZdZ,ZdE,Zeb,ZdJ,Zr,Zh,Zi,Zb,Zx,ZJ,c0,c2,Zae,AVal.cells]
    try (simp [Zay,gcA,Zm,Zf,ZZ,Z6,Zd,Ze,Zk,Zc,Zl,ZW,Zs,Zg,Zp,Xd])
 | cons x xs =>
  have hXp:0 < (x::xs).length:=by simp
  rw [ZyP hXp,Zde hXp,ZnJ _ hXp,ZmS _ _ _ _ _ hXp]
  generalize x::xs=X at *
  unfold itC itZ mC
  by_cases c0:i < (m.ids.length:Int)
  ·have c1:¬i < 4:=h.resolve_left (by simpa using c0)
   by_cases c2:(m.share.length:Int) > 0
   ·rw [if_pos c2]
    simp -implicitDefEqProofs only [EQA,ZE,ZB,ZG,ZC,ZF,ZD,ZP,ZS,ZQ,ZN,ZL,ZM,ZO,ZT,ZR,implies_true,forall_const,Xk,Xl,Xo,Xe,Xg,Xm,Xj,ZH,ZK,unA,Zu,Zz,unG,reduceCtorEq,Zo,decide_eq_true_eq,Xh,Xc,ite_self,↓reduceIte,Zy,ZI,gcT,gcA,Zm,Zf,Zd,Ze,Zk,Zc,Zl,Zg,Zp,Xd,Zd5,ZdC,Zd7,ZdZ,ZdE,Zeb,ZdJ,Zr,Zh,Zi,Zb,Zx,ZJ,c0,c1,c2,hP,k1,Zae,AVal.cells]
    try (simp [Zay,gcA,Zm,Zf,ZZ,Z6,Zd,Ze,Zk,Zc,Zl,ZW,Zs,Zg,Zp,Xd])
   ·rw [if_neg c2]
    simp -implicitDefEqProofs only [EQA,ZE,ZB,ZG,ZC,ZF,ZD,ZP,ZS,ZQ,ZN,ZL,ZM,ZO,ZT,ZR,implies_true,forall_const,Xk,Xl,Xo,Xe,Xg,Xm,Xj,ZH,ZK,unA,Zu,Zz,unG,reduceCtorEq,Zo,decide_eq_true_eq,Xh,Xc,ite_self,↓reduceIte,Zy,ZI,gcT,gcA,Zm,Zf,Zd,Ze,Zk,Zc,Zl,Zg,Zp,Xd,Zd5,ZdC,Zd7,ZdZ,ZdE,Zeb,ZdJ,Zr,Zh,Zi,Zb,Zx,ZJ,c0,c1,c2,Zae,AVal.cells]
    try (simp [Zay,gcA,Zm,Zf,ZZ,Z6,Zd,Ze,Zk,Zc,Zl,ZW,Zs,Zg,Zp,Xd])
  ·by_cases c2:(m.share.length:Int) > 0
   ·rw [if_pos c2]
    simp -implicitDefEqProofs only [EQA,ZE,ZB,ZG,ZC,ZF,ZD,ZP,ZS,ZQ,ZN,ZL,ZM,ZO,ZT,ZR,implies_true,forall_const,Xk,Xl,Xo,Xe,Xg,Xm,Xj,ZH,ZK,unA,Zu,Zz,unG,reduceCtorEq,Zo,decide_eq_true_eq,Xh,Xc,ite_self,↓reduceIte,Zy,ZI,gcT,gcA,Zm,Zf,Zd,Ze,Zk,Zc,Zl,Zg,Zp,Xd,Zd5,ZdC,Zd7,ZdZ,ZdE,Zeb,ZdJ,Zr,Zh,Zi,Zb,Zx,ZJ,c0,c2,hP,k1,Zae,AVal.cells]
    try (simp [Zay,gcA,Zm,Zf,ZZ,Z6,Zd,Ze,Zk,Zc,Zl,ZW,Zs,Zg,Zp,Xd])
   ·rw [if_neg c2]
    simp -implicitDefEqProofs only [EQA,ZE,ZB,ZG,ZC,ZF,ZD,ZP,ZS,ZQ,ZN,ZL,ZM,ZO,ZT,ZR,implies_true,forall_const,Xk,Xl,Xo,Xe,Xg,Xm,Xj,ZH,ZK,unA,Zu,Zz,unG,reduceCtorEq,Zo,decide_eq_true_eq,Xh,Xc,ite_self,↓reduceIte,Zy,ZI,gcT,gcA,Zm,Zf,Zd,Ze,Zk,Zc,Zl,Zg,Zp,Xd,Zd5,ZdC,Zd7,ZdZ,ZdE,Zeb,ZdJ,Zr,Zh,Zi,Zb,Zx,ZJ,c0,c2,Zae,AVal.cells]
    try (simp [Zay,gcA,Zm,Zf,ZZ,Z6,Zd,Ze,Zk,Zc,Zl,ZW,Zs,Zg,Zp,Xd])
theorem Zx4 (m:ZcV) (hm:ZdU m) (n:ZU) (q:Int) (rt:Bool):∀ (r:List Int) (i:Nat) (ids:List Int),(m.ids.take 4).drop i=r->ids.length<=i->i<=4 ->
  Zh6 0 (miT i (ids.map (AVal.int .i64))) (miH n q rt (.var itZ) (.var (mC m)) (ids.map (AVal.int .i64)))=some (itO ⟨n,q,rt,ids++r.map Zft,ZfT m⟩)
 | [],i,ids,h,ha,hi=>by
  rw [Wx,X9] at h
  rw [XS,X2]
  exact ZF9 m hm n q rt ids i (by omega)
 | x::r,i,ids,h,ha,hi=>by
  have hd:=Zbn h
  have hlt:i < min 4 m.ids.length:=by have:=hd.2.2;rwa [X9] at this
  have ih:=Zx4 m hm n q rt r (i+1) (ids++[Zft x]) hd.2.1 (by simp;omega) (by omega)
  have hat:m.ids[i]?=some x:=by
   have:=hd.1
   rw [X8] at this
   rw [if_pos (by omega)] at this
   exact this
  have h1:(i:Int) < (m.ids.length:Int):=by omega
  have h2:(i:Int) < 4:=by omega
  have e1:=iad hat (AVal.int .i64) (k:=1) rfl
  have hw:IntKind.i64.wrap ((i:Int)+1)=((i+1:Nat):Int):=by rw [Zcm (by omega) (by omega)];rfl
  have hk:kOk 1 [AVal.int .i64 (Zft x)]=true:=rfl
  rw [Wt,WO,<-Xw] at ih
  generalize hR:itO ⟨n,q,rt,ids++(x::r).map Zft,ZfT m⟩=R at *
  have hXl:(ids.map (AVal.int .i64)).length=ids.length:=by simp
  rw [Wl,Xw,XS] at ih
  unfold Zft Zg2 at ih hk
  unfold Zh6 at ih ⊢
  rw [Zbe]
  cases hids:ids.map (AVal.int .i64) with
  | nil =>
   rw [hids] at ih
   rw [XI] at ih
   unfold miT miH itC itZ mC at ih ⊢
   simp only [Xq,Xy,XK] at ih
   simp -implicitDefEqProofs only [EQA,ZE,ZB,ZG,ZC,ZF,ZD,ZP,ZS,ZQ,ZN,ZL,ZM,ZO,ZT,ZR,implies_true,forall_const,Xk,Xl,Xo,Xe,Xg,Xm,Xj,ZH,ZK,unA,Zu,Zz,unG,reduceCtorEq,Zo,decide_eq_true_eq,Xh,Xc,ite_self,↓reduceIte,Zy,ZI,gcT,gcA,Zm,Zf,Zd,Ze,Zk,Zc,Zl,Zg,Zp,Xd,Zd5,ZdC,Zd7,ZdZ,ZdE,Zeb,ZdJ,Zr,Zh,Zi,Zb,Zx,ZJ,h1,h2,e1,hw,hk,Zae,AVal.cells,Zap,Zat,ZaU,Zav,XZ,X3,Xi,Xp,Xq,Xy,ZaD,ZaE,ZaI,ZaJ,ZaL,XA,XD,Zaf,Zai,Zak,Zau,ZaA,Zaz,ZaH,ZaM,Zaq,ZaK,XJ,XR,Xi,Xp,XF,Zaj,viewAs,Zao,Zad,Zag,ZV,XM,Wj,X0,Xj,Xe]
   exact ih
  | cons y ys =>
   rw [hids] at ih hXl
   have hXp:0 < (y::ys).length:=by simp
   rw [ZnJ _ hXp,ZmS _ _ _ _ _ hXp]
   have hXq:∀ z:AVal,0 < (y::ys++[z]).length:=fun z=>by simp
   rw [ZnJ _ (hXq _),ZmS _ _ _ _ _ (hXq _)] at ih
   generalize y::ys=X at *
   have k2:(X.length+1)*8<=140737488355328:=by omega
   unfold itC itZ mC at ih ⊢
   simp only [XE,Xq,Xy,XK] at ih
   simp -implicitDefEqProofs only [EQA,ZE,ZB,ZG,ZC,ZF,ZD,ZP,ZS,ZQ,ZN,ZL,ZM,ZO,ZT,ZR,implies_true,forall_const,Xk,Xl,Xo,Xe,Xg,Xm,Xj,ZH,ZK,unA,Zu,Zz,unG,reduceCtorEq,Zo,decide_eq_true_eq,Xh,Xc,ite_self,↓reduceIte,Zy,ZI,gcT,gcA,Zm,Zf,Zd,Ze,Zk,Zc,Zl,Zg,Zp,Xd,Zd5,ZdC,Zd7,ZdZ,ZdE,Zeb,ZdJ,Zr,Zh,Zi,Zb,Zx,ZJ,h1,h2,e1,hw,hk,k2,Zae,AVal.cells,Zap,Zat,ZaU,Zav,XZ,X3,Xi,Xp,Xq,Xy,ZaD,ZaE,ZaI,ZaJ,ZaL,XA,XD,Zaf,Zai,Zak,Zau,ZaA,Zaz,ZaH,ZaM,Zaq,ZaK,XJ,XR,Xi,Xp,XF,Zaj,viewAs,Zao,Zad,Zag,ZV,XM,Wj,X0]
   exact ih
theorem ZAN (m:ZcV) (hm:ZdU m):E 6 [.agg (mC m)] []=some (itO (Zj m)):=by
 have key:=Zx4 m hm (ZhB m) (Zc9 m.sub 0 2) m.keep (m.ids.take 4) 0 [] rfl (X0 _) (by omega)
 rw [XI] at key
 rw [show Zj m=⟨ZhB m,Zc9 m.sub 0 2,m.keep,(m.ids.take 4).map Zft,ZfT m⟩ from rfl]
 generalize hR:itO ⟨ZhB m,Zc9 m.sub 0 2,m.keep,(m.ids.take 4).map Zft,ZfT m⟩=R at *
 have h1:=fun σ sq own f=>ZgM σ sq own f m.topic hm.topic
 have h2:=fun σ sq own=>ZwF σ sq own true m.payload 300 (by omega)
 have h3:=fun σ sq own=>ZnZ σ sq own true m.qos
 have h4:=fun σ sq own f=>ZgM σ sq own f m.sender hm.sender
 have h5:=fun σ sq own=>ZC0 σ sq own m.p hm.content hm.users
 have h6:=fun σ sq own=>ZnZ σ sq own true m.sub
 have z0:((0:Nat):Int)=0:=rfl
 have z300:(300:Int).toNat=300:=rfl
 rw [z300] at h2
 have hl:=Zvx m.topic
 have k1:1+(Zc3 m.topic).length<=9223372036854775807:=by omega
 rw [z0] at key
 simp only [XS] at key
 unfold miT miH ZhB Zg2 at key
 unfold itC itZ mC at key
 unfold mC
 unfold Zh6 at key
 generalize Zc3 m.topic=U1 at *
 generalize Zc3 m.sender=U2 at *
 generalize m.payload.take 300=U3 at *
 generalize ZeL m.p=U4 at *
 generalize Zc9 m.qos 0 2=U5 at *
 generalize Zc9 m.sub 0 2=U6 at *
 rw [ZcU (by rfl) ZAr]
 by_cases c:m.life > 0
 ·simp only [c,if_true] at key
  simp -implicitDefEqProofs only [EQA,ZE,ZB,ZG,ZC,ZF,ZD,ZP,ZS,ZQ,ZN,ZL,ZM,ZO,ZT,ZR,implies_true,forall_const,Xk,Xl,Xo,Xe,Xg,Xm,Xj,ZH,ZK,unA,Zu,Zz,unG,reduceCtorEq,Zo,decide_eq_true_eq,Xh,Xc,ite_self,↓reduceIte,Zy,ZI,gcT,gcA,Zm,Zf,Zd,Ze,Zk,Zc,Zl,Zg,Zp,Xd,Zd5,ZdC,Zd7,ZdZ,ZdE,Zeb,ZdJ,Zr,Zh,Zi,Zb,Zx,ZJ,h1,h2,h3,h4,h5,h6,k1,c,Zae,AVal.cells,Zap,Zat,ZaU,Zav,XZ,X3,Xi,Xp,Xq,Xy,ZaD,ZaE,ZaI,ZaJ,ZaL,XA,XD,Zaf,Zai,Zak,Zau,ZaA,Zaz,ZaH,ZaM,Zaq,ZaK,XJ,XR,Xi,Xp,XF,Zaj,viewAs,Zao,Zad,Zag,ZV,XM,Wj,X0]
  exact key
 ·simp only [c,if_false] at key
  simp -implicitDefEqProofs only [EQA,ZE,ZB,ZG,ZC,ZF,ZD,ZP,ZS,ZQ,ZN,ZL,ZM,ZO,ZT,ZR,implies_true,forall_const,Xk,Xl,Xo,Xe,Xg,Xm,Xj,ZH,ZK,unA,Zu,Zz,unG,reduceCtorEq,Zo,decide_eq_true_eq,Xh,Xc,ite_self,↓reduceIte,Zy,ZI,gcT,gcA,Zm,Zf,Zd,Ze,Zk,Zc,Zl,Zg,Zp,Xd,Zd5,ZdC,Zd7,ZdZ,ZdE,Zeb,ZdJ,Zr,Zh,Zi,Zb,Zx,ZJ,h1,h2,h3,h4,h5,h6,k1,c,Zae,AVal.cells,Zap,Zat,ZaU,Zav,XZ,X3,Xi,Xp,Xq,Xy,ZaD,ZaE,ZaI,ZaJ,ZaL,XA,XD,Zaf,Zai,Zak,Zau,ZaA,Zaz,ZaH,ZaM,Zaq,ZaK,XJ,XR,Xi,Xp,XF,Zaj,viewAs,Zao,Zad,Zag,ZV,XM,Wj,X0]
  exact key
theorem ZEe (it:Zcs):ZcO 0 (some (itO it))=some (.agg (itC it.note it.qos it.retain (.lst false (it.ids.map (AVal.int .i64))) it.share),[]):=by
 unfold itO
 cases it.ids with
 | nil =>
  simp [ZdQ,Zcl,itC,ZcO,viewR,Zao,Zag,Zad,ZV,gcA,Zm,Zf,ZZ,Z6,ZW,Zs,Ze]
 | cons a l =>
  simp only [Xw,Zoq,ZgI]
  generalize AVal.int .i64 a::l.map (AVal.int .i64)=X
  simp [itC,ZcO,viewR,Zao,Zag,Zad,Zo,ZV,gcA,Zm,Zf,ZZ,Z6,ZW,Zs,Ze]
theorem ZhP (σ:Za) (sq own:Nat) (m:ZcV) (hm:ZdU m):Z4 E BY σ sq 6 own true [.agg (mC m)]=some (.agg [.str (Zj m).note.topic,.lst false ((Zj m).note.payload.map Zn),.int .i64 (Zj m).note.qos,.bool (Zj m).note.retain,.str (Zj m).note.sender,.int .i64 (Zj m).note.expires,.lst false ((Zj m).note.props.map Zb),.int .i64 (Zj m).note.origin,.int .i64 (Zj m).note.number,.int .i64 (Zj m).note.hops,.int .i64 (Zj m).qos,.bool (Zj m).retain,.lst false ((Zj m).ids.map (.int .i64 ·)),.str (Zj m).share],σ,{}):=by
 rw [Zdr (by kernel_rfl) rfl]
 have hn:[AVal.agg (mC m)].map Zal=[.agg (mC m)]:=rfl
 rw [hn,ZAN m hm]
 have : ZaC true 0 (some (itO (Zj m)))=_:=(if_pos rfl).trans (ZEe _)
 rw [this]
 rw [ZhD _ _ _ _ rfl]
 rfl
end
section
def ZdX (a b:Int):Int:=if b > a then b else a
def Zcv (a b:Int):Int:=if b < a then b else a
def Zgb (n:ZU) (k:Bool) (s:Z5):Bool:=if k then true else if n.retain then s.asPublished else false
def ZcB (subs:List Z5):List Int:=(subs.filter fun s=>s.id != 0).map (·.id)
def idV (b:Nat):List AVal->AVal
 | []=>.lst true []
 | x::xs=>.sl b 0 0 (x::xs).length
theorem Zd6 {b:Nat} {X:List AVal} (h:0 < X.length):idV b X=.sl b 0 0 X.length:=by
 cases X with
 | nil=>simp at h
 | cons x xs=>rfl
def ZgE:=xwI ZjW Zbs rfl
def ZfV:=xwI ZjF Zbu rfl
noncomputable def Zhv (m:Nat) (tm:Tms) (σ:Za):Option (AVal×Za):=(Za4 m Zj8 (ZcK FC PRI BY m ZjW (Xah (Zbt 0) (evL FC PRI BY m [18,17,16,6,5,4,2] ZjF tm σ))))
def rbT (i:Int) (N:Nat) (S:AVal) (q:Int):List AVal->Tms
 | []=>[(18,.int .i64 i),(17,.int .i64 N),(16,S),(6,.int .i64 q),(5,.ref 0 0),(4,.ref 3 0),(2,.ref 4 0)]
 | _::_=>[(18,.int .i64 i),(17,.int .i64 N),(16,S),(6,.int .i64 q),(5,.ref 0 0),(4,.ref 4 0),(2,.ref 5 0)]
def rbI (n:ZU) (a b:Nat) (q:Int) (k:Bool) (x:AVal):List AVal:=[.str n.topic,.sl a 0 0 n.payload.length,.int .i64 n.qos,.bool n.retain,.str n.sender,.int .i64 n.expires,.sl b 0 0 n.props.length,.int .i64 n.origin,.int .i64 n.number,.int .i64 n.hops,.int .i64 q,.bool k,x,.str []]
def rbH (n:ZU) (k:Bool) (z:Zq):List AVal->Za
 | []=>[.var (rbI n 1 2 0 k (.lst true [])),.row 0 1 (n.payload.map Zn),.row 0 5 (n.props.map Zb),z,.var (ZX n)]
 | x::xs=>[.var (rbI n 1 2 0 k (.sl 3 0 0 (x::xs).length)),.row 0 1 (n.payload.map Zn),.row 0 5 (n.props.map Zb),.row 0 1 (x::xs),z,.var (ZX n)]
theorem Zj3 (i:Int) (N:Nat) (S:AVal) (q:Int) {X:List AVal} (h:0 < X.length):rbT i N S q X=[(18,.int .i64 i),(17,.int .i64 N),(16,S),(6,.int .i64 q),(5,.ref 0 0),(4,.ref 4 0),(2,.ref 5 0)]:=by
 cases X with
 | nil=>simp at h
 | cons x xs=>rfl
theorem ZjV (n:ZU) (k:Bool) (z:Zq) {X:List AVal} (h:0 < X.length):rbH n k z X=[.var (rbI n 1 2 0 k (.sl 3 0 0 X.length)),.row 0 1 (n.payload.map Zn),.row 0 5 (n.props.map Zb),.row 0 1 X,z,.var (ZX n)]:=by
 cases X with
 | nil=>simp at h
 | cons x xs=>rfl
def rbZ:List AVal:=[.str [],.lst true [],.int .i64 0,.bool false,.str [],.int .i64 0,.lst true [],.int .i64 0,.int .i64 0,.int .i64 0,.int .i64 0,.bool false,.lst true [],.str []]
def rbO (n:ZU) (q:Int) (k:Bool) (ids:List Int):AVal×Za:=(.agg (rbI n 0 1 (Zcv n.qos q) k (idV 2 ((ZcN ids).map (AVal.int .i64)))),.row 0 1 (n.payload.map Zn)::.row 0 5 (n.props.map Zb)::Zcl 1 ((ZcN ids).map (AVal.int .i64)))
theorem ZxU (l:List Int):(ZcN l).length=l.length:=List.length_mergeSort l
theorem ZCy (n:ZU) (S:AVal) (N:Nat) (i q:Int) (k:Bool) (ids:List Int) (hi:ids.length < 4611686018427387904) (h:¬i < (N:Int)) :
  Zhv 0 (rbT i N S q (ids.map (AVal.int .i64))) (rbH n k (.var rbZ) (ids.map (AVal.int .i64)))=some (rbO n q k ids):=by
 unfold rbO
 have hsl:=ZxU ids
 have hS:=fun {σ:Za} {t sq:Nat} hs=>ZnI (ZFj ids hi (σ:=σ) (t:=t) (sq:=sq) hs)
 unfold Zhv
 rw [Zbe]
 cases hids:ids.map (AVal.int .i64) with
 | nil =>
  have h0:ids=[]:=by simpa using hids
  subst h0
  rw [show ZcN []=[] from List.mergeSort_nil,XS,Zdp]
  unfold idV
  have hS0:=fun σ sq=>ZnI (ZDp σ sq)
  unfold rbT rbH rbI rbZ ZX Zcv
  generalize Zh n.payload=B1
  generalize Zi n.props=B2
  generalize n.payload.map Zn=L1
  generalize n.props.map Zb=L2
  simp -implicitDefEqProofs only [EQA,ZE,ZB,ZG,ZC,ZF,ZD,ZP,ZS,ZQ,ZN,ZL,ZM,ZO,ZT,ZR,implies_true,forall_const,Xk,Xl,Xo,Xe,Xg,Xm,Xj,ZH,ZK,unA,Zu,Zz,unG,reduceCtorEq,Zo,decide_eq_true_eq,Xh,Xc,ite_self,↓reduceIte,Zy,ZI,gcT,gcA,Zm,Zf,Zd,Ze,Zk,Zc,Zl,Zg,Zp,Xd,ZbW,ZbH,ZbX,ZbY,Zbs,ZbU,Zbu,Zr,Zh,Zi,Zb,Zx,ZJ,ZgE,ZfV,h,hS0,Zae,AVal.cells,Z1,Xi,Xp]
  try (simp [Zay,gcA,Zm,Zf,ZZ,Z6,Zd,Ze,Zk,Zc,Zl,ZW,Zs,Zg,Zp,Xd])
 | cons x xs =>
  have hXp:0 < (x::xs).length:=by simp
  have hXs:0 < ((ZcN ids).map (AVal.int .i64)).length:=by rw [XL,hsl,<-XL (f:=AVal.int .i64),hids];exact hXp
  rw [Zd6 hXs,Zde hXs,Zj3 _ _ _ _ hXp,ZjV _ _ _ hXp]
  have hl:(x::xs).length=ids.length:=by rw [<-hids,XL]
  rw [hids] at hS
  rw [XL,hsl,hl]
  generalize x::xs=X at *
  generalize (ZcN ids).map (AVal.int .i64)=Y at *
  unfold rbI rbZ ZX Zcv
  generalize Zh n.payload=B1
  generalize Zi n.props=B2
  generalize n.payload.map Zn=L1
  generalize n.props.map Zb=L2
  simp -implicitDefEqProofs only [EQA,ZE,ZB,ZG,ZC,ZF,ZD,ZP,ZS,ZQ,ZN,ZL,ZM,ZO,ZT,ZR,implies_true,forall_const,Xk,Xl,Xo,Xe,Xg,Xm,Xj,ZH,ZK,unA,Zu,Zz,unG,reduceCtorEq,Zo,decide_eq_true_eq,Xh,Xc,ite_self,↓reduceIte,Zy,ZI,gcT,gcA,Zm,Zf,Zd,Ze,Zk,Zc,Zl,Zg,Zp,Xd,ZbW,ZbH,ZbX,ZbY,Zbs,ZbU,Zbu,Zr,Zh,Zi,Zb,Zx,ZJ,ZgE,ZfV,h,hS,Zae,AVal.cells,Z1,Xi,Xp]
  try (simp [Zay,gcA,Zm,Zf,ZZ,Z6,Zd,Ze,Zk,Zc,Zl,ZW,Zs,Zg,Zp,Xd])
def byQ (q:Int) (r:List Z5):Int:=r.foldl (fun q s=>ZdX q s.qos) q
def byK (n:ZU) (k:Bool) (r:List Z5):Bool:=r.foldl (Zgb n) k
theorem ZzV (s:Z5) (r:List Z5):ZcB (s::r)=(if s.id != 0 then [s.id] else [])++ZcB r:=by
 unfold ZcB
 rw [Xbe]
 split
 ·rename_i h;simp
 ·rename_i h;simp
theorem Zzh (n:ZU) (subs:List Z5) (hN:subs.length<=1000000000):∀ (r:List Z5) (i:Nat) (q:Int) (k:Bool) (ids:List Int),subs.drop i=r->ids.length<=i->i<=subs.length ->
  Zhv 0 (rbT i subs.length (.lst false (subs.map Zas)) q (ids.map (AVal.int .i64))) (rbH n k (.var rbZ) (ids.map (AVal.int .i64)))=some (rbO n (byQ q r) (byK n k r) (ids++ZcB r))
 | [],i,q,k,ids,h,hl,hi=>by
  have h1:=Zf0 h
  rw [show ZcB []=[] from rfl,X2]
  have hb:ids.length < 4611686018427387904:=by omega
  exact ZCy n _ subs.length i q k ids hb h1
 | s::r,i,q,k,ids,h,hl,_=>by
  have hd:=Zbn h
  have ih:=Zzh n subs hN r (i+1) (ZdX q s.qos) (Zgb n k s) (ids++if s.id != 0 then [s.id] else []) hd.2.1 (by rw [XE];split <;> simp <;> omega) (by have:=hd.2.2;omega)
  rw [Wt,<-ZzV] at ih
  change _=some (rbO n (byQ q (s::r)) (byK n k (s::r)) (ids++ZcB (s::r))) at ih
  generalize hR:rbO n (byQ q (s::r)) (byK n k (s::r)) (ids++ZcB (s::r))=R at *
  have h1:(i:Int) < (subs.length:Int):=by have:=hd.2.2;omega
  have e1:∀ (σ:Za) (b:Bool) (kk:IntKind),ZaG σ 6 (.lst b (subs.map Zas)) (.int kk (i:Int))=some (.iptr [.str s.filter,.int .i64 s.qos,.bool s.noLocal,.bool s.asPublished,.int .i64 s.handling,.int .i64 s.id] 0,σ,{}):=fun σ b kk=>iad hd.1 Zas (k:=6) rfl σ b kk
  have hw:IntKind.i64.wrap ((i:Int)+1)=((i+1:Nat):Int):=by rw [Zcm (by omega) (by omega)];rfl
  have hXl:(ids.map (AVal.int .i64)).length=ids.length:=by simp
  have hk:∀ x:Int,kOk 1 [AVal.int .i64 x]=true:=fun _=>rfl
  unfold Zgb ZdX at ih
  have hil:i < subs.length:=hd.2.2
  clear hd h hR
  by_cases c:s.id=0
  ·have c1:(s.id != 0)=false:=by simp [c]
   simp only [c1,Xu,if_false,X2] at ih
   unfold Zhv at ih ⊢
   rw [Zbe]
   cases hids:ids.map (AVal.int .i64) with
   | nil =>
    rw [hids] at ih
    unfold rbT rbH rbI rbZ ZX Zh Zi at ih ⊢
    generalize n.payload.map Zn=L1 at *
    generalize n.props.map Zb=L2 at *
    generalize subs.map Zas=S at *
    generalize n.retain=rt at *
    cases k <;> cases rt
    all_goals
     simp only [if_true,Xu,if_false] at ih
     simp -implicitDefEqProofs only [EQA,ZE,ZB,ZG,ZC,ZF,ZD,ZP,ZS,ZQ,ZN,ZL,ZM,ZO,ZT,ZR,implies_true,forall_const,Xk,Xl,Xo,Xe,Xg,Xm,Xj,ZH,ZK,unA,Zu,Zz,unG,reduceCtorEq,Zo,decide_eq_true_eq,Xh,Xc,ite_self,↓reduceIte,Zy,ZI,gcT,gcA,Zm,Zf,Zd,Ze,Zk,Zc,Zl,Zg,Zp,Xd,ZbW,ZbH,ZbX,ZbY,Zbs,ZbU,Zbu,Zr,Zh,Zi,Zb,Zx,ZJ,ZgE,ZfV,h1,e1,hw,c1,Zae,AVal.cells,Z1,Xi,Xp,gt_iff_lt]
     exact ih
   | cons y ys =>
    rw [hids] at ih hXl
    have hXp:0 < (y::ys).length:=by simp
    rw [Zj3 _ _ _ _ hXp,ZjV _ _ _ hXp] at ih ⊢
    generalize y::ys=X at *
    unfold rbI rbZ ZX Zh Zi at ih ⊢
    generalize n.payload.map Zn=L1 at *
    generalize n.props.map Zb=L2 at *
    generalize subs.map Zas=S at *
    generalize n.retain=rt at *
    cases k <;> cases rt
    all_goals
     simp only [if_true,Xu,if_false] at ih
     simp -implicitDefEqProofs only [EQA,ZE,ZB,ZG,ZC,ZF,ZD,ZP,ZS,ZQ,ZN,ZL,ZM,ZO,ZT,ZR,implies_true,forall_const,Xk,Xl,Xo,Xe,Xg,Xm,Xj,ZH,ZK,unA,Zu,Zz,unG,reduceCtorEq,Zo,decide_eq_true_eq,Xh,Xc,ite_self,↓reduceIte,Zy,ZI,gcT,gcA,Zm,Zf,Zd,Ze,Zk,Zc,Zl,Zg,Zp,Xd,ZbW,ZbH,ZbX,ZbY,Zbs,ZbU,Zbu,Zr,Zh,Zi,Zb,Zx,ZJ,ZgE,ZfV,h1,e1,hw,c1,Zae,AVal.cells,Z1,Xi,Xp,gt_iff_lt]
     exact ih
  ·have c1:(s.id != 0)=true:=by simp [c]
   simp only [c1,if_true,Wl,Xw,XS] at ih
   unfold Zhv at ih ⊢
   rw [Zbe]
   cases hids:ids.map (AVal.int .i64) with
   | nil =>
    rw [hids,XI] at ih
    unfold rbT rbH rbI rbZ ZX Zh Zi at ih ⊢
    simp only [Xq,Xy,XK] at ih
    generalize n.payload.map Zn=L1 at *
    generalize n.props.map Zb=L2 at *
    generalize subs.map Zas=S at *
    generalize n.retain=rt at *
    cases k <;> cases rt
    all_goals
     simp only [if_true,Xu,if_false] at ih
     simp -implicitDefEqProofs only [EQA,ZE,ZB,ZG,ZC,ZF,ZD,ZP,ZS,ZQ,ZN,ZL,ZM,ZO,ZT,ZR,implies_true,forall_const,Xk,Xl,Xo,Xe,Xg,Xm,Xj,ZH,ZK,unA,Zu,Zz,unG,reduceCtorEq,Zo,decide_eq_true_eq,Xh,Xc,ite_self,↓reduceIte,Zy,ZI,gcT,gcA,Zm,Zf,Zd,Ze,Zk,Zc,Zl,Zg,Zp,Xd,ZbW,ZbH,ZbX,ZbY,Zbs,ZbU,Zbu,Zr,Zh,Zi,Zb,Zx,ZJ,ZgE,ZfV,h1,e1,hw,c1,hk,Zaj,viewAs,Zao,Zad,Zag,ZV,XM,Wj,X0,Xj,Xe,Zae,AVal.cells,Z1,Xi,Xp,gt_iff_lt]
     exact ih
   | cons y ys =>
    rw [hids] at ih hXl
    have hXp:0 < (y::ys).length:=by simp
    have hXq:∀ z:AVal,0 < (y::ys++[z]).length:=fun z=>by simp
    rw [Zj3 _ _ _ _ (hXq _),ZjV _ _ _ (hXq _)] at ih
    rw [Zj3 _ _ _ _ hXp,ZjV _ _ _ hXp]
    generalize y::ys=X at *
    have k2:(X.length+1)*8<=140737488355328:=by omega
    unfold rbI rbZ ZX Zh Zi at ih ⊢
    simp only [XE,Xq,Xy,XK] at ih
    generalize n.payload.map Zn=L1 at *
    generalize n.props.map Zb=L2 at *
    generalize subs.map Zas=S at *
    generalize n.retain=rt at *
    cases k <;> cases rt
    all_goals
     simp only [if_true,Xu,if_false] at ih
     simp -implicitDefEqProofs only [EQA,ZE,ZB,ZG,ZC,ZF,ZD,ZP,ZS,ZQ,ZN,ZL,ZM,ZO,ZT,ZR,implies_true,forall_const,Xk,Xl,Xo,Xe,Xg,Xm,Xj,ZH,ZK,unA,Zu,Zz,unG,reduceCtorEq,Zo,decide_eq_true_eq,Xh,Xc,ite_self,↓reduceIte,Zy,ZI,gcT,gcA,Zm,Zf,Zd,Ze,Zk,Zc,Zl,Zg,Zp,Xd,ZbW,ZbH,ZbX,ZbY,Zbs,ZbU,Zbu,Zr,Zh,Zi,Zb,Zx,ZJ,ZgE,ZfV,h1,e1,hw,c1,hk,k2,Zaj,viewAs,Zao,Zad,Zag,ZV,XM,Wj,X0,Zae,AVal.cells,Z1,Xi,Xp,gt_iff_lt]
     exact ih
def byI (n:ZU) (subs:List Z5):Zcs:=⟨n,Zcv n.qos (byQ ((subs.map (·.qos)).headD 0) subs),byK n false subs,ZcN (ZcB subs),[]⟩
theorem ZEf (n:ZU) (hn:Zc2 n) (s:Z5) (r:List Z5) (hN:(s::r).length<=1000000000):EI 22 [Za7 n,.lst false ((s::r).map Zas)] []=some (rbO n (byQ s.qos (s::r)) (byK n false (s::r)) (ZcB (s::r))):=by
 have h:=Zzh n (s::r) hN (s::r) 0 s.qos false [] rfl (by simp) (by simp)
 have z:((0:Nat):Int)=0:=rfl
 rw [z,XI,XS] at h
 have hC:=fun (σ:Za) (sq:Nat) h1 h2=>ZnI (ZCP n hn σ sq h1 h2)
 have e1:∀ (σ:Za) (b:Bool) (kk:IntKind),ZaG σ 6 (.lst b ((s::r).map Zas)) (.int kk 0)=some (.iptr [.str s.filter,.int .i64 s.qos,.bool s.noLocal,.bool s.asPublished,.int .i64 s.handling,.int .i64 s.id] 0,σ,{}):=fun σ b kk=>iad (l:=s::r) (i:=0) rfl Zas (k:=6) rfl σ b kk
 have hl:((s::r).map Zas).length=(s::r).length:=XL ..
 generalize hR:rbO n (byQ s.qos (s::r)) (byK n false (s::r)) (ZcB (s::r))=R at *
 generalize (s::r).map Zas=S at *
 generalize (s::r).length=N at *
 unfold rbT rbH rbI rbZ ZX Zh Zi at h
 unfold ZeA at hC
 unfold Za7 ZX Zh Zi
 generalize n.payload.map Zn=L1 at *
 generalize n.props.map Zb=L2 at *
 unfold Zhv at h
 rw [ZCm (by rfl) ZBn]
 simp -implicitDefEqProofs only [EQA,ZE,ZB,ZG,ZC,ZF,ZD,ZP,ZS,ZQ,ZN,ZL,ZM,ZO,ZT,ZR,implies_true,forall_const,Xk,Xl,Xo,Xe,Xg,Xm,Xj,ZH,ZK,unA,Zu,Zz,unG,reduceCtorEq,Zo,decide_eq_true_eq,Xh,Xc,ite_self,↓reduceIte,Zy,ZI,gcT,gcA,Zm,Zf,Zd,Ze,Zk,Zc,Zl,Zg,Zp,Xd,ZbW,ZbH,ZbX,ZbY,Zbs,ZbU,Zbu,Zr,Zh,Zi,Zb,Zx,ZJ,ZgE,ZfV,hC,e1,hl,Zae,AVal.cells,Z1,Xi,Xp]
 exact h
def Zdh (it:Zcs) (b:Nat):List AVal:=[.str it.note.topic,.sl b 0 0 it.note.payload.length,.int .i64 it.note.qos,.bool it.note.retain,.str it.note.sender,.int .i64 it.note.expires,.lst false (it.note.props.map Zb),.int .i64 it.note.origin,.int .i64 it.note.number,.int .i64 it.note.hops,.int .i64 it.qos,.bool it.retain,.lst false (it.ids.map (AVal.int .i64)),.str it.share]
theorem Zwh (n:ZU) (hn:Zc2 n) (s:Z5) (r:List Z5) (hN:(s::r).length<=1000000000):Zfx 1 (EI 22) [Za7 n,.lst false ((s::r).map Zas)] []=some (.agg (Zdh (byI n (s::r)) 0),[.row 0 1 (n.payload.map Zn)]):=by
 unfold Zfx
 rw [ZEf n hn s r hN]
 unfold rbO Zdh byI
 simp only [Xw,List.headD_cons]
 generalize ZcN (ZcB (s::r))=ids
 have hp:(n.payload.map Zn).length=n.payload.length:=XL ..
 have hq:(n.props.map Zb).length=n.props.length:=XL ..
 generalize n.payload.map Zn=L1 at *
 generalize n.props.map Zb=L2 at *
 unfold rbI
 rw [<-hp,<-hq]
 cases hi:ids.map (AVal.int .i64) with
 | nil =>
  rw [Zdp]
  unfold idV
  simp [Zhi,viewR,Zao,Zag,Zad,Zo,rbI,ZV,Zay,gcA,Zm,Zf,ZZ,Z6,Zp,Zd,Ze,Zk,ZW,Zs,Zg,Zc,Zl]
 | cons x xs =>
  rw [ZgI]
  unfold idV
  simp [Zhi,viewR,Zao,Zag,Zad,Zo,rbI,ZV,Zay,gcA,Zm,Zf,ZZ,Z6,Zp,Zd,Ze,Zk,ZW,Zs,Zg,Zc,Zl]
end
section
structure Zaa where
 client:Zt
 sub:Z5
 deriving DecidableEq
def ZA (h:Zaa):AVal:=.agg [.str h.client,.str h.sub.filter,.int .i64 h.sub.qos,.bool h.sub.noLocal,.bool h.sub.asPublished,.int .i64 h.sub.handling,.int .i64 h.sub.id]
abbrev Grp:=List (Zt×List Z5)
def Zcq:Grp->Zt->Z5->Grp
 | [],c,s=>[(c,[s])]
 | (k,l)::r,c,s=>if c=k then (k,l++[s])::r else (k,l)::Zcq r c s
def Zdt (n:ZU) (h:Zaa):Bool:=!h.sub.noLocal || h.client != n.sender || n.sender == []
def Zc6 (n:ZU) (G:Grp) (hits:List Zaa):Grp:=hits.foldl (fun G h=>if Zdt n h then Zcq G h.client h.sub else G) G
def gE (G:Grp):List (AVal×(List AVal ⊕ AVal)):=G.map fun p=>(AVal.str p.1,(Sum.inl (p.2.map Zas):List AVal ⊕ AVal))
theorem Zne (G:Grp):ZZ ((gE G).map fun p=>Zup p.2)=[]:=by
 induction G with
 | nil=>rfl
 | cons p G ih=>simp only [gE,Xw,ZZ,Zup,Z6,XI] at ih ⊢;exact ih
theorem ZrX (ρ:Rho) (G:Grp):((gE G).map fun p=>(p.1,p.2.map id (Zs ρ)))=gE G:=by
 unfold gE
 rw [Wy]
 rfl
def Zdb (c:Zt):Grp->Nat->Option (Nat×List Z5)
 | [],_=>none
 | (k,l)::r,i=>if c=k then some (i,l) else Zdb c r (i+1)
theorem ZvD (c:Zt):∀ (G:Grp) (i:Nat),Zdj (.str c) (gE G) i=some ((Zdb c G i).map fun p=>(p.1,Sum.inl (p.2.map Zas)))
 | [],i=>rfl
 | (k,l)::r,i=>by
  have ih:=ZvD c r (i+1)
  simp only [gE,Xw,Zdj,Zdx] at ih ⊢
  by_cases e:c=k
  ·subst e
   simp [Zdb]
  ·have : (c == k)=false:=by simpa using e
   simp only [this,Zdb,if_neg e]
   exact ih
theorem Zj4 {c:Zt} {s:Z5}:∀ {G:Grp} {i:Nat},Zdb c G i=none->Zcq G c s=G++[(c,[s])]
 | [],i,_=>rfl
 | (k,l)::r,i,h=>by
  simp only [Zdb] at h
  split at h
  ·cases h
  ·rename_i e
   simp only [Zcq,if_neg e,X1,Zj4 (s:=s) h]
theorem ZhG {c:Zt} {s:Z5}:∀ {G:Grp} {i j:Nat} {l:List Z5},Zdb c G i=some (j,l)->∃ j',j=i+j'/\G[j']?=some (c,l)/\Zcq G c s=G.set j' (c,l++[s])
 | [],i,j,l,h=>by simp [Zdb] at h
 | (k,m)::r,i,j,l,h=>by
  simp only [Zdb] at h
  split at h
  ·rename_i e;subst e
   simp only [Xa,Xb] at h
   obtain ⟨rfl,rfl⟩:=h
   exact ⟨0,rfl,rfl,by simp [Zcq]⟩
  ·rename_i e
   obtain ⟨j',h1,h2,h3⟩:=ZhG (s:=s) h
   exact ⟨j'+1,by omega,by simpa using h2,by simp only [Zcq,if_neg e,h3,W8]⟩
theorem Zwp (c:Zt) (v:AVal):∀ {G:Grp} {i j:Nat} {l:List Z5},Zdb c G i=some (i+j,l)->Zdj (.str c) ((gE G).set j (.str c,.inr v)) i=some (some (i+j,.inr v))
 | [],i,j,l,h=>by simp [Zdb] at h
 | (k,m)::r,i,j,l,h=>by
  simp only [Zdb] at h
  split at h
  ·rename_i e;subst e
   simp only [Xa,Xb] at h
   obtain ⟨h1,rfl⟩:=h
   have hj:j=0:=by omega
   subst hj
   simp [gE,Zdj,Zdx]
  ·rename_i e
   cases j with
   | zero =>
    obtain ⟨j',h1,_⟩:=ZhG (s:=⟨[],0,false,false,0,0⟩) h
    omega
   | succ j =>
    have ih:=Zwp c v (G:=r) (i:=i+1) (j:=j) (l:=l) (by rw [h];congr 2;omega)
    have hne:(c == k)=false:=by simpa using e
    simp only [gE,Xw,W8,Zdj,Zdx,hne] at ih ⊢
    rw [ih]
    congr 3
    omega
def plT (i:Int) (N:Nat) (S:AVal):Tms:=[(14,.int .i64 i),(13,.int .i64 N),(12,S),(5,.map 0),(2,.ref 1 0)]
theorem Zsj (n:ZU) (hits:List Zaa) (hN:hits.length<=1000000000):∀ (r:List Zaa) (i:Nat) (G:Grp),hits.drop i=r->(∀ p ∈ G,p.2.length<=i) ->
  ∃ tm',evL FC PRK BY 0 [14,13,12,5,2] ZsV (plT i hits.length (.lst false (hits.map ZA))) [.gmap 6 (gE G),.var (ZX n)]=some (.exit 0,tm',[.gmap 6 (gE (Zc6 n G r)),.var (ZX n)])/\keepL [8,5,2] tm'=[(8,.top),(5,.map 0),(2,.ref 1 0)]
 | [],i,G,h,_=>by
  have h1:=Zf0 h
  have hr:=Zne G
  have hn:=fun ρ=>ZrX ρ G
  rw [show Zc6 n G []=G from rfl]
  unfold plT ZX Zh Zi
  generalize gE G=M at *
  generalize hits.map ZA=S at *
  generalize n.payload.map Zn=L1 at *
  generalize n.props.map Zb=L2 at *
  refine ⟨[(15,.bool false),(14,.int .i64 i),(13,.int .i64 hits.length),(12,.lst false S),(5,.map 0),(2,.ref 1 0)],?_,rfl⟩
  rw [Zbe]
  simp -implicitDefEqProofs only [EQA,ZE,ZB,ZG,ZC,ZF,ZD,ZP,ZS,ZQ,ZN,ZL,ZM,ZO,ZT,ZR,implies_true,forall_const,Xk,Xl,Xo,Xe,Xg,Xm,Xj,ZH,ZK,unA,Zu,Zz,unG,reduceCtorEq,Zo,decide_eq_true_eq,Xh,Xc,ite_self,↓reduceIte,Zy,ZI,gcT,gcA,Zm,Zf,Zd,Ze,Zk,Zc,Zl,Zg,Zp,Xd,ZbW,ZbH,ZbX,ZbY,Zbs,ZbU,Zbu,Zr,Zh,Zi,Zb,Zx,ZJ,h1,hr,hn,ZeF,Zd4]
 | s::r,i,G,h,hG=>by
  have hd:=Zbn h
  have h1:(i:Int) < (hits.length:Int):=by have:=hd.2.2;omega
  have e1:∀ (σ:Za) (b:Bool) (kk:IntKind),ZaG σ 7 (.lst b (hits.map ZA)) (.int kk (i:Int))=some (.iptr [.str s.client,.str s.sub.filter,.int .i64 s.sub.qos,.bool s.sub.noLocal,.bool s.sub.asPublished,.int .i64 s.sub.handling,.int .i64 s.sub.id] 0,σ,{}):=fun σ b kk=>iad hd.1 ZA (k:=7) rfl σ b kk
  have hw:IntKind.i64.wrap ((i:Int)+1)=((i+1:Nat):Int):=by rw [Zcm (by omega) (by omega)];rfl
  have hr:=Zne G
  have hn:=fun ρ=>ZrX ρ G
  have hil:i < hits.length:=hd.2.2
  by_cases hwn:Zdt n s=true
  ·have ih:=Zsj n hits hN r (i+1) (Zcq G s.client s.sub) hd.2.1 (by
    intro p hp
    cases hg:Zdb s.client G 0 with
    | none =>
     rw [Zj4 hg] at hp
     rcases XG.1 hp with hp | hp
     ·have:=hG p hp;omega
     ·rw [XU] at hp;subst hp;simp
    | some q =>
     obtain ⟨j',_,h2,h3⟩:=ZhG (s:=s.sub) (l:=q.2) (j:=q.1) hg
     rw [h3] at hp
     rcases We hp with hp | rfl
     ·have:=hG p hp;omega
     ·have:=hG _ (Xx h2);simp at this ⊢;omega)
   rw [show Zc6 n G (s::r)=Zc6 n (Zcq G s.client s.sub) r by simp [Zc6,hwn]]
   generalize gE (Zc6 n (Zcq G s.client s.sub) r)=RES at *
   have hr2:=Zne (Zcq G s.client s.sub)
   have hn2:=fun ρ=>ZrX ρ (Zcq G s.client s.sub)
   have hg0:=ZvD s.client G 0
   have hkd:ZaW (.str s.client)=2:=rfl
   cases hg:Zdb s.client G 0 with
   | none =>
    rw [hg,Option.map_none] at hg0
    have e2:gE (Zcq G s.client s.sub)=gE G++[(.str s.client,.inl [.agg [.str s.sub.filter,.int .i64 s.sub.qos,.bool s.sub.noLocal,.bool s.sub.asPublished,.int .i64 s.sub.handling,.int .i64 s.sub.id]])]:=by rw [Zj4 hg];simp [gE,Zas]
    rw [e2] at hr2 hn2 ih
    clear hd h hG hg e2
    unfold plT ZX Zh Zi at ih ⊢
    generalize gE G=M at *
    generalize hits.map ZA=S at *
    generalize hits.length=N at *
    generalize n.payload.map Zn=L1 at *
    generalize n.props.map Zb=L2 at *
    obtain ⟨tm',ih1,ih2⟩:=ih
    refine ⟨tm',?_,ih2⟩
    rw [Zbe]
    unfold Zdt at hwn
    cases hnl:s.sub.noLocal with
    | false =>
     rw [hnl] at e1 ih1 hr2 hn2
     simp -implicitDefEqProofs only [EQA,ZE,ZB,ZG,ZC,ZF,ZD,ZP,ZS,ZQ,ZN,ZL,ZM,ZO,ZT,ZR,implies_true,forall_const,Xk,Xl,Xo,Xe,Xg,Xm,Xj,ZH,ZK,unA,Zu,Zz,unG,reduceCtorEq,Zo,decide_eq_true_eq,Xh,Xc,ite_self,↓reduceIte,Zy,ZI,gcT,gcA,Zm,Zf,Zd,Ze,Zk,Zc,Zl,Zg,Zp,Xd,ZbW,ZbH,ZbX,ZbY,Zbs,ZbU,Zbu,Zr,Zh,Zi,Zb,Zx,ZJ,h1,e1,hw,hr,hn,hr2,hn2,hg0,hkd,ZeF,Zd4,Zes,Zae,AVal.cells,Z1,Xi,Xp,Zdd,ZdN,ZdI,Zds,Zcw,Zaj,kOk,viewAs,Zao,Zad,Zag,ZV,XM,Wj,Zap]
     rw [Zat _ _ _ _ _ _ _ (by rfl)]
     simp -implicitDefEqProofs only [EQA,ZE,ZB,ZG,ZC,ZF,ZD,ZP,ZS,ZQ,ZN,ZL,ZM,ZO,ZT,ZR,implies_true,forall_const,Xk,Xl,Xo,Xe,Xg,Xm,Xj,ZH,ZK,unA,Zu,Zz,unG,reduceCtorEq,Zo,decide_eq_true_eq,Xh,Xc,ite_self,↓reduceIte,Zy,ZI,gcT,gcA,Zm,Zf,Zd,Ze,Zk,Zc,Zl,Zg,Zp,Xd,ZbW,ZbH,ZbX,ZbY,Zbs,ZbU,Zbu,Zr,Zh,Zi,Zb,Zx,ZJ,h1,e1,hw,hr,hn,hr2,hn2,hg0,hkd,ZeF,Zd4,Zes,Zae,AVal.cells,Z1,Xi,Xp,Zdd,ZdN,ZdI,Zds,Zcw,Zaj,kOk,viewAs,Zao,Zad,Zag,ZV,XM,Wj,Zap]
     exact ih1
    | true =>
     rw [hnl] at e1 ih1 hwn hr2 hn2
     have hc:(!s.client == n.sender || n.sender == [])=true:=by simpa [bne] using hwn
     simp -implicitDefEqProofs only [EQA,ZE,ZB,ZG,ZC,ZF,ZD,ZP,ZS,ZQ,ZN,ZL,ZM,ZO,ZT,ZR,implies_true,forall_const,Xk,Xl,Xo,Xe,Xg,Xm,Xj,ZH,ZK,unA,Zu,Zz,unG,reduceCtorEq,Zo,decide_eq_true_eq,Xh,Xc,ite_self,↓reduceIte,Zy,ZI,gcT,gcA,Zm,Zf,Zd,Ze,Zk,Zc,Zl,Zg,Zp,Xd,ZbW,ZbH,ZbX,ZbY,Zbs,ZbU,Zbu,Zr,Zh,Zi,Zb,Zx,ZJ,h1,e1,hw,hc,hr,hn,hr2,hn2,hg0,hkd,ZeF,Zd4,Zes,Zae,AVal.cells,Z1,Xi,Xp,Zdd,ZdN,ZdI,Zds,Zcw,Zaj,kOk,viewAs,Zao,Zad,Zag,ZV,XM,Wj,Zap]
     rw [Zat _ _ _ _ _ _ _ (by rfl)]
     simp -implicitDefEqProofs only [EQA,ZE,ZB,ZG,ZC,ZF,ZD,ZP,ZS,ZQ,ZN,ZL,ZM,ZO,ZT,ZR,implies_true,forall_const,Xk,Xl,Xo,Xe,Xg,Xm,Xj,ZH,ZK,unA,Zu,Zz,unG,reduceCtorEq,Zo,decide_eq_true_eq,Xh,Xc,ite_self,↓reduceIte,Zy,ZI,gcT,gcA,Zm,Zf,Zd,Ze,Zk,Zc,Zl,Zg,Zp,Xd,ZbW,ZbH,ZbX,ZbY,Zbs,ZbU,Zbu,Zr,Zh,Zi,Zb,Zx,ZJ,h1,e1,hw,hc,hr,hn,hr2,hn2,hg0,hkd,ZeF,Zd4,Zes,Zae,AVal.cells,Z1,Xi,Xp,Zdd,ZdN,ZdI,Zds,Zcw,Zaj,kOk,viewAs,Zao,Zad,Zag,ZV,XM,Wj,Zap]
     exact ih1
   | some q =>
    obtain ⟨j,l⟩:=q
    rw [hg,X4] at hg0
    obtain ⟨j',hj,hq2,hq3⟩:=ZhG (s:=s.sub) hg
    have hj':j'=j:=by omega
    subst hj'
    have hll:=hG _ (Xx hq2)
    simp only at hll hg0
    have hg1:=fun v=>Zwp s.client v (G:=G) (i:=0) (j:=j') (l:=l) (by rw [hg,XK])
    rw [XK] at hg1
    have hgd:∀ d:AVal×(List AVal ⊕ AVal),((gE G).getD j' d).1=.str s.client:=by
     intro d
     simp [gE,Xn,hq2]
    have e2:gE (Zcq G s.client s.sub)=(gE G).set j' (.str s.client,.inl (l.map Zas++[.agg [.str s.sub.filter,.int .i64 s.sub.qos,.bool s.sub.noLocal,.bool s.sub.asPublished,.int .i64 s.sub.handling,.int .i64 s.sub.id]])):=by rw [hq3];simp [gE,Xa9,Zas]
    rw [e2] at hr2 hn2 ih
    have hXl:(l.map Zas).length=l.length:=XL ..
    have hb:(l.length+1)*48<=140737488355328:=by omega
    have hlt:l.length < l.length+1:=by omega
    clear hd h hG hg e2 hq2 hq3 hj
    generalize l.map Zas=L at *
    have hXl2:∀ x:AVal,(L++[x]).length=l.length+1:=fun x=>by rw [XE,hXl];rfl
    have htk:∀ x:AVal,(L++[x]).take (l.length+1)=L++[x]:=fun x=>by rw [<-hXl2 x,List.take_length]
    unfold plT ZX Zh Zi at ih ⊢
    generalize gE G=M at *
    generalize hits.map ZA=S at *
    generalize hits.length=N at *
    generalize n.payload.map Zn=L1 at *
    generalize n.props.map Zb=L2 at *
    obtain ⟨tm',ih1,ih2⟩:=ih
    refine ⟨tm',?_,ih2⟩
    rw [Zbe]
    unfold Zdt at hwn
    cases hnl:s.sub.noLocal with
    | false =>
     rw [hnl] at e1 ih1 hr2 hn2
     simp -implicitDefEqProofs only [EQA,ZE,ZB,ZG,ZC,ZF,ZD,ZP,ZS,ZQ,ZN,ZL,ZM,ZO,ZT,ZR,implies_true,forall_const,Xk,Xl,Xo,Xe,Xg,Xm,Xj,ZH,ZK,unA,Zu,Zz,unG,reduceCtorEq,Zo,decide_eq_true_eq,Xh,Xc,ite_self,↓reduceIte,Zy,ZI,gcT,gcA,Zm,Zf,Zd,Ze,Zk,Zc,Zl,Zg,Zp,Xd,ZbW,ZbH,ZbX,ZbY,Zbs,ZbU,Zbu,Zr,Zh,Zi,Zb,Zx,ZJ,h1,e1,hw,hr,hn,hr2,hn2,hg0,hkd,ZeF,Zd4,Zes,Zae,AVal.cells,Z1,Xi,Xp,Zdd,ZdN,ZdI,Zds,Zcw,Zaj,kOk,viewAs,Zao,Zad,Zag,ZV,XM,Wj,Zap,hg1,hgd,hXl,hXl2,hb,htk,Xa1,X0]
     rw [Zat _ _ _ _ _ _ _ (by rfl)]
     simp -implicitDefEqProofs only [EQA,ZE,ZB,ZG,ZC,ZF,ZD,ZP,ZS,ZQ,ZN,ZL,ZM,ZO,ZT,ZR,implies_true,forall_const,Xk,Xl,Xo,Xe,Xg,Xm,Xj,ZH,ZK,unA,Zu,Zz,unG,reduceCtorEq,Zo,decide_eq_true_eq,Xh,Xc,ite_self,↓reduceIte,Zy,ZI,gcT,gcA,Zm,Zf,Zd,Ze,Zk,Zc,Zl,Zg,Zp,Xd,ZbW,ZbH,ZbX,ZbY,Zbs,ZbU,Zbu,Zr,Zh,Zi,Zb,Zx,ZJ,h1,e1,hw,hr,hn,hr2,hn2,hg0,hkd,ZeF,Zd4,Zes,Zae,AVal.cells,Z1,Xi,Xp,Zdd,ZdN,ZdI,Zds,Zcw,Zaj,kOk,viewAs,Zao,Zad,Zag,ZV,XM,Wj,Zap,hg1,hgd,hXl,hXl2,hb,htk,Xa1,X0]
     exact ih1
    | true =>
     rw [hnl] at e1 ih1 hwn hr2 hn2
     have hc:(!s.client == n.sender || n.sender == [])=true:=by simpa [bne] using hwn
     simp -implicitDefEqProofs only [EQA,ZE,ZB,ZG,ZC,ZF,ZD,ZP,ZS,ZQ,ZN,ZL,ZM,ZO,ZT,ZR,implies_true,forall_const,Xk,Xl,Xo,Xe,Xg,Xm,Xj,ZH,ZK,unA,Zu,Zz,unG,reduceCtorEq,Zo,decide_eq_true_eq,Xh,Xc,ite_self,↓reduceIte,Zy,ZI,gcT,gcA,Zm,Zf,Zd,Ze,Zk,Zc,Zl,Zg,Zp,Xd,ZbW,ZbH,ZbX,ZbY,Zbs,ZbU,Zbu,Zr,Zh,Zi,Zb,Zx,ZJ,h1,e1,hw,hc,hr,hn,hr2,hn2,hg0,hkd,ZeF,Zd4,Zes,Zae,AVal.cells,Z1,Xi,Xp,Zdd,ZdN,ZdI,Zds,Zcw,Zaj,kOk,viewAs,Zao,Zad,Zag,ZV,XM,Wj,Zap,hg1,hgd,hXl,hXl2,hb,htk,Xa1,X0]
     rw [Zat _ _ _ _ _ _ _ (by rfl)]
     simp -implicitDefEqProofs only [EQA,ZE,ZB,ZG,ZC,ZF,ZD,ZP,ZS,ZQ,ZN,ZL,ZM,ZO,ZT,ZR,implies_true,forall_const,Xk,Xl,Xo,Xe,Xg,Xm,Xj,ZH,ZK,unA,Zu,Zz,unG,reduceCtorEq,Zo,decide_eq_true_eq,Xh,Xc,ite_self,↓reduceIte,Zy,ZI,gcT,gcA,Zm,Zf,Zd,Ze,Zk,Zc,Zl,Zg,Zp,Xd,ZbW,ZbH,ZbX,ZbY,Zbs,ZbU,Zbu,Zr,Zh,Zi,Zb,Zx,ZJ,h1,e1,hw,hc,hr,hn,hr2,hn2,hg0,hkd,ZeF,Zd4,Zes,Zae,AVal.cells,Z1,Xi,Xp,Zdd,ZdN,ZdI,Zds,Zcw,Zaj,kOk,viewAs,Zao,Zad,Zag,ZV,XM,Wj,Zap,hg1,hgd,hXl,hXl2,hb,htk,Xa1,X0]
     exact ih1
  ·have ih:=Zsj n hits hN r (i+1) G hd.2.1 (fun p hp=>by have:=hG p hp;omega)
   rw [show Zc6 n G (s::r)=Zc6 n G r by simp [Zc6,hwn]]
   generalize gE (Zc6 n G r)=RES at *
   clear hd h hG
   unfold plT ZX Zh Zi at ih ⊢
   generalize gE G=M at *
   generalize hits.map ZA=S at *
   generalize hits.length=N at *
   generalize n.payload.map Zn=L1 at *
   generalize n.props.map Zb=L2 at *
   obtain ⟨tm',ih1,ih2⟩:=ih
   refine ⟨tm',?_,ih2⟩
   rw [Zbe]
   unfold Zdt at hwn
   have c0:s.sub.noLocal=true:=by cases hh:s.sub.noLocal <;> simp_all
   rw [c0] at e1 hwn
   have c1:(!s.client == n.sender || n.sender == [])=false:=by simpa [bne] using hwn
   simp -implicitDefEqProofs only [EQA,ZE,ZB,ZG,ZC,ZF,ZD,ZP,ZS,ZQ,ZN,ZL,ZM,ZO,ZT,ZR,implies_true,forall_const,Xk,Xl,Xo,Xe,Xg,Xm,Xj,ZH,ZK,unA,Zu,Zz,unG,reduceCtorEq,Zo,decide_eq_true_eq,Xh,Xc,ite_self,↓reduceIte,Zy,ZI,gcT,gcA,Zm,Zf,Zd,Ze,Zk,Zc,Zl,Zg,Zp,Xd,ZbW,ZbH,ZbX,ZbY,Zbs,ZbU,Zbu,Zr,Zh,Zi,Zb,Zx,ZJ,h1,e1,hw,c1,hr,hn,ZeF,Zd4,Zes,Zae,AVal.cells,Z1,Xi,Xp]
   exact ih1
end
section
def fE (p:Zt×List Z5):AVal×AVal:=(.str p.1,.lst false (p.2.map Zas))
def Zby (n:ZU) (p:Zt×List Z5) (b:Nat):AVal:=.agg (.str p.1::Zdh (byI n p.2) b)
def ZaV (n:ZU) (ys:List ((Zt×List Z5)×Nat)):List AVal:=ys.map fun q=>Zby n q.1 q.2
def ZY (n:ZU) (b:Nat) (d:Grp):List AVal:=ZaV n (d.zipIdx b)
def Z2 (n:ZU) (k:Nat):Za:=Xr k (.row 0 1 (n.payload.map Zn))
theorem Zwa:∀ G:Grp,Ze8 (gE G)=some (G.map fE)
 | []=>rfl
 | p::G=>by
  have ih:=Zwa G
  simp only [gE,Xw,Ze8] at ih ⊢
  rw [ih]
  rfl
theorem Ztw (G:Grp):ZZ ((G.map fE).map (·.2))=[]:=by
 induction G with
 | nil=>rfl
 | cons p G ih=>simp only [Xw,fE,ZZ,Z6,XI] at ih ⊢;exact ih
theorem ZmM (ρ:Rho) (G:Grp):(G.map fE).map (fun p=>(p.1,Zs ρ p.2))=G.map fE:=by
 rw [Wy]
 apply WZ
 intro p _
 rfl
theorem Zzd (G:Grp) (n:Nat):∀ p ∈ G.map fE,Zja n p.2=true:=by
 intro p hp
 obtain ⟨x,_,rfl⟩:=XV.1 hp
 rfl
theorem Zni:∀ {T l:Za},T.all (fun b=>!Zdg b)=true->l.all (fun b=>!Zdg b)=true->ZdW T (T++l)=true
 | [],[],_,_=>rfl
 | [],b::l,h,h'=>by
  simp only [Xi,Xt] at h'
  have:=Zni (T:=[]) (l:=l) h h'.2
  simp only [XI] at this ⊢
  simp only [ZdW,h'.1,this,WX]
 | a::T,l,h,h'=>by
  simp only [Xi,Xt] at h
  simp only [X1,ZdW,h.1,Bool.true_or,Zni h.2 h',WX]
section
variable {α:Type} {T:List α} {m:Nat} (hT:T.length=m)
include hT
theorem Zjs (a:α) (l:List α):(T++a::l)[m]?=some a:=by subst hT;simp
theorem ZFb (a b:α) (l:List α):(T++a::b::l)[m+1]?=some b:=by subst hT;rw [Wo (by omega)];simp
theorem ZB7 (a b c:α) (l:List α):(T++a::b::c::l)[m+2]?=some c:=by subst hT;rw [Wo (by omega)];simp
theorem ZC9 (a x:α) (l:List α):(T++a::l).set m x=T++x::l:=by subst hT;rw [Xaz _ _ (by omega)];simp
theorem ZAW (a b x:α) (l:List α):(T++a::b::l).set (m+1) x=T++a::x::l:=by subst hT;rw [Xaz _ _ (by omega)];simp
theorem ZBy (a b c x:α) (l:List α):(T++a::b::c::l).set (m+2) x=T++a::b::x::l:=by subst hT;rw [Xaz _ _ (by omega)];simp
theorem ZFk {i:Nat} {x:α} (hi:T[i]?=some x) (l:List α):(T++l)[i]?=some x:=by rw [Wf (Xf.1 hi).1];exact hi
end
theorem Zxc (n:ZU) (hn:Zc2 n) (s:Z5) (r:List Z5) (hN:(s::r).length<=1000000000) (σ:Za) (sq:Nat) (hs:σ[sq]?=some .free):Z4 EK BY σ sq 22 1 false [.agg [.str n.topic,.lst false (n.payload.map Zn),.int .i64 n.qos,.bool n.retain,.str n.sender,.int .i64 n.expires,.lst false (n.props.map Zb),.int .i64 n.origin,.int .i64 n.number,.int .i64 n.hops],.lst false ((s::r).map Zas)]=some (.agg (Zdh (byI n (s::r)) sq),σ.set sq (.row 0 1 (n.payload.map Zn)),{ any:=true }):=by
 rw [Zdr (by kernel_rfl) rfl]
 simp only [Xw,XS,Zal,ZaZ]
 have h:=Zwh n hn s r hN
 rw [<-ZFr] at h
 unfold Za7 ZX Zh Zi at h
 rw [Xw] at h
 rw [h]
 unfold Zdh
 have hf:ZcJ σ sq 1=true:=by simp [ZcJ,freeAt,hs]
 simp [ZaC,ZaP,Ze5,ZbI,okB,Zql,Zdg,Zc,hf,Zs,ZW,Za8,Za9,Zct,ZaY,ZbB,Zg]
theorem ZFT (n:ZU) (hn:Zc2 n) (G:Grp) (c:Zt) (s:Z5) (r:List Z5) (hN:(s::r).length<=1000000000) (tm:Tms) (σ:Za) (k:Nat) (xs:List AVal) (hx:xs.length=k) (hb:(k+1)*200<=140737488355328) (T:Za) (hT:T.length=k+1) (hv:T[k]?=some (.var (ZX n))) (hro:T.all (fun b=>!Zdg b)=true)
  (h:gcT 0 (keepL [46,8,2] tm) σ=([(46,.map 0),(8,.sl 1 0 0 k),(2,.ref (k+2) 0)],.map (G.map fE)::.rrow 0 15 xs::T)) :
  Zfi FC PRK BY 0 [46,8,2] 46 50 3 ZdS c2P (G.map fE) (fE (c,s::r)) tm σ=some ([(46,.map 0),(8,.sl 1 1 0 (k+1)),(2,.ref (k+2) 0)],.map (G.map fE)::.rrow 1 15 (xs++[Zby n (c,s::r) (k+3)])::(T++[.row 0 1 (n.payload.map Zn),.rrow 0 15 [Zby n (c,s::r) (k+3)],.free])):=by
 have hk:=fun m=>eq_true (Zzd G m)
 have t0:=fun l=>ZFk hT hv l
 have t1:=fun a l=>Zjs hT a l
 have t2:=fun a b l=>ZFb hT a b l
 have t3:=fun a b c l=>ZB7 hT a b c l
 have s1:=fun a x l=>ZC9 hT a x l
 have s2:=fun a b x l=>ZAW hT a b x l
 have s3:=fun a b c x l=>ZBy hT a b c x l
 have hC:=fun σ sq h=>Zxc n hn s r hN σ sq h
 have hR:=fun a b=>Zni (l:=[.row 0 1 a,.rrow 0 15 b,.free]) hro rfl
 have hfe:fE (c,s::r)=(.str c,.lst false ((s::r).map Zas)):=rfl
 unfold Zfi
 rw [h]
 unfold Zby
 rw [hfe]
 simp only
 generalize byI n (s::r)=it at *
 generalize (s::r).map Zas=S at *
 generalize G.map fE=M at *
 unfold ZX Zdh Zh Zi at *
 generalize n.payload.map Zn=L1 at *
 generalize n.props.map Zb=L2 at *
 generalize it.note.props.map Zb=L4 at *
 generalize it.ids.map (AVal.int .i64)=L5 at *
 simp -implicitDefEqProofs only [EQA,ZE,ZB,ZG,ZC,ZF,ZD,ZP,ZS,ZQ,ZN,ZL,ZM,ZO,ZT,ZR,implies_true,forall_const,Xk,Xl,Xo,Xe,Xg,Xm,Xj,ZH,ZK,unA,Zu,Zz,unG,reduceCtorEq,Zo,decide_eq_true_eq,Xh,Xc,ite_self,↓reduceIte,Zy,ZI,gcT,gcA,Zm,Zf,Zd,Ze,Zk,Zc,Zl,Zg,Zp,Xd,ZbW,ZbH,ZbX,ZbY,Zbs,ZbU,Zbu,Zr,Zh,Zi,Zb,Zx,ZJ,hk,hT,t0,t1,t2,t3,s1,s2,s3,hC,hR,hx,hb,Zef,ZfD,ZdS,c2P,Zjb,Zae,Zbi,AVal.cells,ZdW,Zdg,Zaj,kOk,viewAs,Zao,Zad,Zag,ZV,XM,Wj,ZaG,ZdD]
end
section
theorem Zhd (n:ZU):∀ ys,ZZ (ZaV n ys)=ys.map (·.2)
 | []=>rfl
 | q::ys=>by
  show Z6 (Zby n q.1 q.2)++ZZ (ZaV n ys)=_
  rw [Zhd n ys];rfl
theorem Zgu (n:ZU) (ρ:Rho):∀ (ys:List ((Zt×List Z5)×Nat)) (c:Nat),(∀ (i b:Nat),(ys.map (·.2))[i]?=some b->ρ b 0=some (c+i,0))->ZW ρ (ZaV n ys)=ZY n c (ys.map (·.1))
 | [],c,_=>rfl
 | q::ys,c,h=>by
  have h0:=h 0 q.2 rfl
  have ih:=Zgu n ρ ys (c+1) (fun i b hb=>by rw [h (i+1) b (by simpa using hb)];congr 2;omega)
  show Zs ρ (Zby n q.1 q.2)::ZW ρ (ZaV n ys)=_
  rw [ih]
  show _=Zby n q.1 c::ZY n (c+1) (ys.map (·.1))
  congr 1
  unfold Zby Zdh
  simp only [Zs,ZW,h0,Wm]
theorem Zf3 (σ:Za):∀ (ts todo acc:List Nat) (f F:Nat),F=f+ts.length->(∀ t ∈ ts,Zp (σ.getD t .free)=[])->ts.Nodup->(∀ t ∈ ts,t ∉ acc)->Zf σ F (ts++todo) acc=Zf σ f todo (acc++ts)
 | [],todo,acc,f,F,hF,_,_,_=>by simp only [Xy,Wm] at hF;subst hF;simp
 | t::ts,todo,acc,f,F,hF,h1,h2,h3=>by
  have hF':F=(f+ts.length)+1:=by simp only [Xq] at hF;omega
  have hc:acc.contains t=false:=by
   have:=h3 t (by simp)
   simpa using this
  obtain ⟨n1,n2⟩:=Wc.1 h2
  have ih:=Zf3 σ ts todo (acc++[t]) f (f+ts.length) rfl (fun x hx=>h1 x (by simp [hx])) n2 (fun x hx hm=>by
   rcases XG.1 hm with hm | hm
   ·exact h3 x (by simp [hx]) hm
   ·rw [XU] at hm;subst hm;exact n1 hx)
  rw [hF',X1,Zf,hc]
  simp only [Xu,if_false,h1 t (by simp),XI]
  rw [ih,Wt];rfl
theorem Zr2 (t:Nat):∀ (A B:List Nat) (i:Nat),t ∉ A->Zk t (A++B) i=Zk t B (i+A.length)
 | [],B,i,_=>rfl
 | a::A,B,i,h=>by
  have h1:a≠t:=fun e=>h (by simp [e])
  have ih:=Zr2 t A B (i+1) (fun hm=>h (by simp [hm]))
  rw [X1,Zk,if_neg h1,ih]
  congr 1;simp only [Xq];omega
theorem Zf8:∀ (bs C:List Nat) (i j b:Nat),bs.Nodup->bs[j]?=some b->Zk b (bs++C) i=some (i+j)
 | [],C,i,j,b,_,h=>by simp at h
 | a::bs,C,i,0,b,_,h=>by
  simp only [XN,Xa] at h
  subst h
  simp [Zk]
 | a::bs,C,i,j+1,b,hn,h=>by
  obtain ⟨n1,n2⟩:=Wc.1 hn
  simp only [XC] at h
  have h1:a≠b:=by rintro rfl;exact n1 (Xx h)
  rw [X1,Zk,if_neg h1,Zf8 bs C (i+1) j b n2 h]
  congr 1;omega
theorem ZkP (σ:Za) (m:Nat) (ids:List Nat) (ρ:Rho):∀ (A B:List Nat) (j:Nat),Ze σ m ids ρ (A++B) j=Ze σ m ids ρ A j++Ze σ m ids ρ B (j+A.length)
 | [],B,j=>by simp [Ze]
 | a::A,B,j=>by
  rw [X1,Ze,Ze,ZkP σ m ids ρ A B (j+1),X1]
  congr 3;simp only [Xq];omega
theorem ZhE (σ:Za) (ids:List Nat) (ρ:Rho) (P:List AVal):∀ (bs:List Nat) (j:Nat),(∀ b ∈ bs,σ.getD b .free=.row 0 1 P)->Ze σ 0 ids ρ bs j=Xr bs.length (.row 0 1 P)
 | [],j,_=>rfl
 | b::bs,j,h=>by
  rw [Ze,ZhE σ ids ρ P bs (j+1) (fun x hx=>h x (by simp [hx])),h b (by simp)]
  simp [Zl,Zg,WC]
theorem Zkj (σ:Za) {ids:List Nat} {t i g k:Nat} {P:List AVal} (hi:Zk t ids 0=some i) (ht:σ.getD t .free=.row g k P):Zd σ 0 ids t g=some (i,0):=by
 have h:σ[t]?=some (.row g k P):=by
  rw [Xn] at ht
  cases hs:σ[t]? with
  | none=>rw [hs] at ht;cases ht
  | some x=>rw [hs] at ht;simp only [Wr] at ht;rw [ht]
 simp [Zd,hi,h,Zc,Zl]
section
variable (n:ZU) (M:List (AVal×AVal)) (g N v:Nat) (ys:List ((Zt×List Z5)×Nat)) (T:Za)
theorem ZAT (hm1:ZZ (M.map (·.2))=[]) (hm2:∀ ρ:Rho,M.map (fun p=>(p.1,Zs ρ p.2))=M)
  (hb:∀ b ∈ ys.map (·.2),2<=b/\(Zq.map M::Zq.rrow g 15 (ZaV n ys)::T).getD b .free=.row 0 1 (n.payload.map Zn)) (hn:(ys.map (·.2)).Nodup) (hv:v ∉ ys.map (·.2)) (hv2:2<=v) (hvv:(Zq.map M::Zq.rrow g 15 (ZaV n ys)::T).getD v .free=.var (ZX n)) (hl:ys.length<=900) :
  gcT 0 [(46,.map 0),(8,.sl 1 g 0 N),(2,.ref v 0)] (.map M::.rrow g 15 (ZaV n ys)::T)=([(46,.map 0),(8,.sl 1 0 0 N),(2,.ref (ys.length+2) 0)],.map M::.rrow 0 15 (ZY n 2 (ys.map (·.1)))::(Z2 n ys.length++[.var (ZX n)])):=by
 have hbl:(ys.map (·.2)).length=ys.length:=XL ..
 have hyr:=Zhd n ys
 have hge:∀ ρ,(∀ (i b:Nat),(ys.map (·.2))[i]?=some b->ρ b 0=some (2+i,0))->ZW ρ (ZaV n ys)=ZY n 2 (ys.map (·.1)):=fun ρ h=>Zgu n ρ ys 2 h
 generalize ys.map (·.2)=bs at *
 generalize ZaV n ys=Y at *
 generalize ZY n 2 (ys.map (·.1))=L at *
 have g0:(Zq.map M::Zq.rrow g 15 Y::T).getD 0 .free=.map M:=rfl
 have g1:(Zq.map M::Zq.rrow g 15 Y::T).getD 1 .free=.rrow g 15 Y:=rfl
 have q0:(Zq.map M::Zq.rrow g 15 Y::T)[0]?=some (.map M):=rfl
 have q1:(Zq.map M::Zq.rrow g 15 Y::T)[1]?=some (.rrow g 15 Y):=rfl
 have qv:(Zq.map M::Zq.rrow g 15 Y::T)[v]?=some (.var (ZX n)):=by
  rw [Xn] at hvv
  cases hs:(Zq.map M::Zq.rrow g 15 Y::T)[v]? with
  | none=>rw [hs] at hvv;cases hvv
  | some x=>rw [hs] at hvv;simp only [Wr] at hvv;rw [hvv]
 generalize hσ:(Zq.map M::Zq.rrow g 15 Y::T:Za)=σ at *
 have hvr:Zp (.var (ZX n))=[]:=rfl
 have hre:Zm 0 [.map 0,.sl 1 g 0 N,.ref v 0] σ=0::1::(bs++[v]):=by
  unfold Zm
  show Zf σ 1000 (0::1::v::[]) []=_
  rw [show (1000:Nat)=998+1+1 from rfl,Zf]
  simp only [XF,Xu,if_false,g0,Zp,hm1,XI]
  rw [Zf]
  have c1:[0].contains 1=false:=rfl
  simp only [c1,Xu,if_false,g1,Zp,hyr]
  rw [Zf3 σ bs [v] _ (998 - bs.length) 998 (by omega) (fun t ht=>by rw [(hb t ht).2];rfl) hn (fun t ht hm=>by
   have:=(hb t ht).1
   simp only [X1,XI,XP,XaY,or_false] at hm
   omega)]
  have e:998 - bs.length=(996 - bs.length)+1+1:=by omega
  rw [e,Zf]
  have c2:([0]++[1]++bs).contains v=false:=by
   simp only [List.contains_eq_mem,XG,XU,decide_eq_false_iff_not]
   rintro ((h | h) | h)
   ·omega
   ·omega
   ·exact hv h
  rw [c2]
  simp only [Xu,if_false,hvv,hvr,XI]
  rw [Zf]
  simp
 have i0:Zk 0 (0::1::(bs++[v])) 0=some 0:=rfl
 have i1:Zk 1 (0::1::(bs++[v])) 0=some 1:=rfl
 have ib:∀ (j b:Nat),bs[j]?=some b->Zk b (0::1::(bs++[v])) 0=some (2+j):=by
  intro j b h
  have h2:=(hb b (Xx h)).1
  rw [show (0::1::(bs++[v]):List Nat)=[0,1]++(bs++[v]) from rfl,Zr2 _ _ _ _ (by simp;omega)]
  exact Zf8 bs [v] _ j b hn h
 have iv:Zk v (0::1::(bs++[v])) 0=some (bs.length+2):=by
  rw [show (0::1::(bs++[v]):List Nat)=([0,1]++bs)++[v] from by simp,Zr2 _ _ _ _ (by
   simp only [XG,XP,XaY,or_false]
   rintro ((h | h) | h)
   ·omega
   ·omega
   ·exact hv h)]
  simp only [Zk,if_true,XE,Xq,Xy]
  congr 1;omega
 generalize hids:(0::1::(bs++[v]):List Nat)=ids at *
 have r0:Zd σ 0 ids 0 0=some (0,0):=by simp [Zd,i0,q0,Zc,Zl]
 have r1:Zd σ 0 ids 1 g=some (1,0):=by simp [Zd,i1,q1,Zc,Zl]
 have rv:Zd σ 0 ids v 0=some (bs.length+2,0):=by simp [Zd,iv,qv,Zc,Zl]
 have rb:∀ (i b:Nat),bs[i]?=some b->Zd σ 0 ids b 0=some (2+i,0):=fun i b h=>Zkj σ (ib i b h) (hb b (Xx h)).2
 have hY:=hge _ rb
 unfold gcT gcA
 rw [show List.map (fun x:Nat×AVal=>x.2) [(46,AVal.map 0),(8,AVal.sl 1 g 0 N),(2,AVal.ref v 0)]=[.map 0,.sl 1 g 0 N,.ref v 0] from rfl,hre]
 have h1:ZW (Zd σ 0 ids) [.map 0,.sl 1 g 0 N,.ref v 0]=[.map 0,.sl 1 0 0 N,.ref (bs.length+2) 0]:=by
  simp only [ZW,Zs,r0,r1,rv]
 have h2:Ze σ 0 ids (Zd σ 0 ids) ids 0=.map M::.rrow 0 15 L::(Z2 n bs.length++[.var (ZX n)]):=by
  have hvn:∀ ρ:Rho,Zg ρ 0 (.var (ZX n))=.var (ZX n):=fun ρ=>rfl
  conv=>lhs;arg 5;rw [<-hids]
  rw [Ze,Ze,ZkP,ZhE σ ids _ (n.payload.map Zn) bs _ (fun b h=>(hb b h).2)]
  simp only [g0,g1,Ze,hvv,Zl,Xa5,false_and,if_false,Zg,hm2,hY,hvn]
  rfl
 rw [h1,h2,hbl]
 rfl
end
end
section
def rpT (k:Nat):Tms:=[(46,.map 0),(8,.sl 1 0 0 k),(2,.ref (k+2) 0)]
def rpH (n:ZU) (G d:Grp):Za:=.map (G.map fE)::.rrow 0 15 (ZY n 2 d)::(Z2 n d.length++[.var (ZX n)])
theorem ZER (n:ZU) (hn:Zc2 n) (G:Grp) (c:Zt) (s:Z5) (r:List Z5) (hN:(s::r).length<=1000000000) (tm:Tms) (σ:Za) (h:gcT 0 (keepL [46,8,2] tm) σ=([(46,.map 0),(8,.lst true []),(2,.ref 1 0)],[.map (G.map fE),.var (ZX n)])) :
  Zfi FC PRK BY 0 [46,8,2] 46 50 3 ZdS c2P (G.map fE) (fE (c,s::r)) tm σ=some ([(46,.map 0),(8,.sl 4 0 0 1),(2,.ref 1 0)],[.map (G.map fE),.var (ZX n),.row 0 1 (n.payload.map Zn),.rrow 0 15 [Zby n (c,s::r) 2],.rrow 0 15 [Zby n (c,s::r) 2]]):=by
 have hk:=fun m=>eq_true (Zzd G m)
 have hC:=fun σ sq h=>Zxc n hn s r hN σ sq h
 have hfe:fE (c,s::r)=(.str c,.lst false ((s::r).map Zas)):=rfl
 unfold Zfi
 rw [h]
 unfold Zby
 rw [hfe]
 simp only
 generalize byI n (s::r)=it at *
 generalize (s::r).map Zas=S at *
 generalize G.map fE=M at *
 unfold ZX Zdh Zh Zi at *
 generalize n.payload.map Zn=L1 at *
 generalize n.props.map Zb=L2 at *
 generalize it.note.props.map Zb=L4 at *
 generalize it.ids.map (AVal.int .i64)=L5 at *
 simp -implicitDefEqProofs only [EQA,ZE,ZB,ZG,ZC,ZF,ZD,ZP,ZS,ZQ,ZN,ZL,ZM,ZO,ZT,ZR,implies_true,forall_const,Xk,Xl,Xo,Xe,Xg,Xm,Xj,ZH,ZK,unA,Zu,Zz,unG,reduceCtorEq,Zo,decide_eq_true_eq,Xh,Xc,ite_self,↓reduceIte,Zy,ZI,gcT,gcA,Zm,Zf,Zd,Ze,Zk,Zc,Zl,Zg,Zp,Xd,ZbW,ZbH,ZbX,ZbY,Zbs,ZbU,Zbu,Zr,Zh,Zi,Zb,Zx,ZJ,hk,hC,Zef,ZfD,ZdS,c2P,Zjb,Zae,Zbi,AVal.cells,ZdW,Zdg,Zaj,kOk,viewAs,Zao,Zad,Zag,ZV,XM,Wj,ZaG,ZdD]
theorem ZCI (n:ZU) (G:Grp) (p:Zt×List Z5):gcT 0 (keepL [46,8,2] [(46,.map 0),(8,.sl 4 0 0 1),(2,.ref 1 0)]) [.map (G.map fE),.var (ZX n),.row 0 1 (n.payload.map Zn),.rrow 0 15 [Zby n p 2],.rrow 0 15 [Zby n p 2]]=(rpT 1,rpH n G [p]):=by
 have hr:=Ztw G
 have hm:=fun ρ=>ZmM ρ G
 unfold rpT rpH
 show _=(([(46,AVal.map 0),(8,AVal.sl 1 0 0 1),(2,AVal.ref 3 0)]:Tms),([Zq.map (G.map fE),Zq.rrow 0 15 [Zby n p 2],Zq.row 0 1 (n.payload.map Zn),Zq.var (ZX n)]:Za))
 generalize G.map fE=M at *
 unfold Zby Zdh ZX Zh Zi
 generalize n.payload.map Zn=L1 at *
 generalize n.props.map Zb=L2 at *
 generalize (byI n p.2).note.props.map Zb=L4 at *
 generalize (byI n p.2).ids.map (AVal.int .i64)=L5 at *
 simp -implicitDefEqProofs only [EQA,ZE,ZB,ZG,ZC,ZF,ZD,ZP,ZS,ZQ,ZN,ZL,ZM,ZO,ZT,ZR,implies_true,forall_const,Xk,Xl,Xo,Xe,Xg,Xm,Xj,ZH,ZK,unA,Zu,Zz,unG,reduceCtorEq,Zo,decide_eq_true_eq,Xh,Xc,ite_self,↓reduceIte,Zy,ZI,gcT,gcA,Zm,Zf,Zd,Ze,Zk,Zc,Zl,Zg,Zp,Xd,ZbW,ZbH,ZbX,ZbY,Zbs,ZbU,Zbu,Zr,Zh,Zi,Zb,Zx,ZJ,hr,hm]
theorem ZCF (n:ZU) (G:Grp) {tm:Tms} (h1:tget tm 46=.map 0) (h2:tget tm 8=.lst true []) (h3:tget tm 2=.ref 1 0):gcT 0 (keepL [46,8,2] tm) [.map (G.map fE),.var (ZX n)]=([(46,.map 0),(8,.lst true []),(2,.ref 1 0)],[.map (G.map fE),.var (ZX n)]):=by
 have hr:=Ztw G
 have hm:=fun ρ=>ZmM ρ G
 generalize G.map fE=M at *
 unfold ZX Zh Zi
 generalize n.payload.map Zn=L1 at *
 generalize n.props.map Zb=L2 at *
 simp -implicitDefEqProofs only [EQA,ZE,ZB,ZG,ZC,ZF,ZD,ZP,ZS,ZQ,ZN,ZL,ZM,ZO,ZT,ZR,implies_true,forall_const,Xk,Xl,Xo,Xe,Xg,Xm,Xj,ZH,ZK,unA,Zu,Zz,unG,reduceCtorEq,Zo,decide_eq_true_eq,Xh,Xc,ite_self,↓reduceIte,Zy,ZI,gcT,gcA,Zm,Zf,Zd,Ze,Zk,Zc,Zl,Zg,Zp,Xd,ZbW,ZbH,ZbX,ZbY,Zbs,ZbU,Zbu,Zr,Zh,Zi,Zb,Zx,ZJ,hr,hm,h1,h2,h3]
theorem Zh0 (n:ZU) {k i:Nat} (X Y:Zq) (U:Za) (hi:i < k):(X::Y::(Z2 n k++U)).getD (2+i) .free=.row 0 1 (n.payload.map Zn):=by
 rw [Xn,show 2+i=i+1+1 by omega,XC,XC,Wf (by simpa [Z2] using hi)]
 simp [Z2,hi]
theorem ZCn (n:ZU) (G d:Grp) (p:Zt×List Z5) (hd:d.length+1<=900) (A B:Zq):gcT 0 (keepL [46,8,2] [(46,.map 0),(8,.sl 1 1 0 (d.length+1)),(2,.ref (d.length+2) 0)]) (.map (G.map fE)::.rrow 1 15 (ZY n 2 d++[Zby n p (d.length+3)])::(Z2 n d.length++[.var (ZX n)]++[.row 0 1 (n.payload.map Zn),A,B]))=(rpT (d++[p]).length,rpH n G (d++[p])):=by
 have e1:ZY n 2 d++[Zby n p (d.length+3)]=ZaV n (d.zipIdx 2++[(p,d.length+3)]):=by
  unfold ZY ZaV;rw [Wl];rfl
 have e2:(d.zipIdx 2++[(p,d.length+3)]).map (·.2)=XT 2 d.length++[d.length+3]:=by
  rw [Wl]
  congr 1
  exact List.zipIdx_map_snd 2 d
 have e3:(d.zipIdx 2++[(p,d.length+3)]).map (·.1)=d++[p]:=by
  rw [Wl]
  congr 1
  exact List.zipIdx_map_fst 2 d
 have hpl:(Z2 n d.length).length=d.length:=WN ..
 rw [e1,show keepL [46,8,2] [(46,AVal.map 0),(8,.sl 1 1 0 (d.length+1)),(2,.ref (d.length+2) 0)]=[(46,AVal.map 0),(8,.sl 1 1 0 (d.length+1)),(2,.ref (d.length+2) 0)] from rfl]
 rw [ZAT n (G.map fE) 1 (d.length+1) (d.length+2) (d.zipIdx 2++[(p,d.length+3)]) _ (Ztw G) (fun ρ=>ZmM ρ G) ?_ ?_ ?_ (by omega) ?_ (by simp;omega),e3]
 ·have e4:(d.zipIdx 2++[(p,d.length+3)]).length=(d++[p]).length:=by simp
  rw [e4]
  unfold rpT rpH
  congr 3
  simp
 ·intro b hb
  rw [e2] at hb
  rcases XG.1 hb with hb | hb
  ·rw [X6] at hb
   refine ⟨hb.1,?_⟩
   rw [Wt]
   have:=Zh0 n (k:=d.length) (i:=b - 2) (.map (G.map fE)) (.rrow 1 15 (ZaV n (d.zipIdx 2++[(p,d.length+3)]))) ([.var (ZX n)]++[.row 0 1 (n.payload.map Zn),A,B]) (by omega)
   rwa [show 2+(b - 2)=b by omega] at this
  ·rw [XU] at hb
   subst hb
   refine ⟨by omega,?_⟩
   rw [Xn,show d.length+3=(d.length+1)+1+1 by omega,XC,XC,Zjs (T:=Z2 n d.length++[Zq.var (ZX n)]) (m:=d.length+1) (by simp [hpl])]
   rfl
 ·rw [e2,WJ]
  refine ⟨WS,by simp,?_⟩
  intro a ha b hb e
  rw [X6] at ha
  rw [XU] at hb
  omega
 ·rw [e2,XG,X6,XU]
  omega
 ·rw [Xn,show d.length+2=d.length+1+1 by omega,XC,XC,Wt,show [Zq.var (ZX n)]++[.row 0 1 (n.payload.map Zn),A,B]=.var (ZX n)::[.row 0 1 (n.payload.map Zn),A,B] from rfl,Zjs (T:=Z2 n d.length) hpl]
  rfl
theorem ZzF (n:ZU) (hn:Zc2 n) (G:Grp):∀ (r d:Grp) (tm:Tms) (σ:Za),(∀ p ∈ r,p.2≠[]/\p.2.length<=1000000000)->d.length+r.length<=900->gcT 0 (keepL [46,8,2] tm) σ=(rpT d.length,rpH n G d) ->
  ∃ tm' σ',Zdy FC PRK BY 0 [46,8,2] 46 50 3 ZdS c2P (G.map fE) (r.map fE) tm σ=some (tm',σ')/\gcT 0 (keepL [46,8,2] tm') σ'=(rpT (d++r).length,rpH n G (d++r))
 | [],d,tm,σ,_,hb,h=>⟨tm,σ,rfl,by rw [X2];exact h⟩
 | (c,l)::r,d,tm,σ,hr,hb,h=>by
  obtain ⟨hl,hN⟩:=hr (c,l) (by simp)
  cases l with
  | nil=>exact absurd rfl hl
  | cons s l =>
  have hlen:d.length+1<=900:=by simp only [Xq] at hb;omega
  have e:=ZFT n hn G c s l hN tm σ d.length (ZY n 2 d) (by simp [ZY,ZaV]) (by omega) (Z2 n d.length++[Zq.var (ZX n)]) (by simp [Z2]) (by
   have:=Zjs (T:=Z2 n d.length) (m:=d.length) (by simp [Z2]) (Zq.var (ZX n)) []
   exact this) (by simp [Z2,Zdg]) h
  show ∃ tm' σ',(match Zfi FC PRK BY 0 [46,8,2] 46 50 3 ZdS c2P (G.map fE) (fE (c,s::l)) tm σ with
   | some (tm',σ')=>Zdy FC PRK BY 0 [46,8,2] 46 50 3 ZdS c2P (G.map fE) (r.map fE) tm' σ'
   | none=>none)=some (tm',σ')/\_
  rw [e]
  have ih:=ZzF n hn G r (d++[(c,s::l)]) _ _ (fun p hp=>hr p (by simp [hp])) (by simp only [XE,Xq,Xy] at hb ⊢;omega)
   (ZCn n G d (c,s::l) hlen (.rrow 0 15 [Zby n (c,s::l) (d.length+3)]) .free)
  have e5:d++[(c,s::l)]++r=d++(c,s::l)::r:=by simp
  rw [e5] at ih
  exact ih
end
section
abbrev Zih:=Go.Lib.compareBytes
theorem Zg5 (a b:Zt):leC Zih a b=true↔a<=b:=by
 unfold leC
 rw [Bool.not_eq_true',decide_eq_false_iff_not,Zi6,List.not_lt]
def ZdG (l:List Zt):List Zt:=l.mergeSort (leC Zih)
theorem Zuz (l:List Zt):(ZdG l).Pairwise (·<=·):=by
 have h:=List.pairwise_mergeSort (le:=leC Zih) (fun a b c h1 h2=>(Zg5 a c).2 (List.le_trans ((Zg5 a b).1 h1) ((Zg5 b c).1 h2))) (fun a b=>by
  rw [Bool.or_eq_true,Zg5,Zg5];exact List.le_total a b) l
 exact h.imp fun h=>(Zg5 _ _).1 h
theorem Zej (l:List Zt):(ZdG l).Perm l:=List.mergeSort_perm l _
theorem ZAg {d l:List Zt} (h:d.Perm l):ZdG d=ZdG l :=
 (((Zej d).trans h).trans (Zej l).symm).eq_of_pairwise (fun a b _ _ h1 h2=>List.le_antisymm h1 h2) (Zuz d) (Zuz l)
def ZdO (G:Grp):Grp:=(ZdG (G.map (·.1))).map fun c=>(c,(G.lookup c).getD [])
theorem Zyo {β:Type}:∀ {G:List (Zt×β)} {c:Zt} {l:β},(G.map (·.1)).Nodup->(c,l) ∈ G->G.lookup c=some l
 | [],c,l,_,h=>by simp at h
 | (k,m)::G,c,l,hn,h=>by
  rw [Xw,Wc] at hn
  rw [XJ]
  rcases XP.1 h with e | h'
  ·injection e with e1 e2
   subst e1 e2
   simp
  ·have : (c == k)=false:=by
    rw [beq_eq_false_iff_ne]
    rintro rfl
    exact hn.1 (XV.2 ⟨(c,l),h',rfl⟩)
   rw [this]
   exact Zyo hn.2 h'
theorem Zyj (n:ZU):∀ ys:List ((Zt×List Z5)×Nat),Zcp ZeE (ZaV n ys)=some (ys.map (·.1.1))
 | []=>rfl
 | p::d=>by
  show (Zcp ZeE (ZaV n d)).map (p.1.1::·)=_
  rw [Zyj n d];rfl
def lkz {κ β':Type} [DecidableEq κ] (ks:List κ) (l:List β') (a:κ):Option β':=(ks.zip l).lookup a
theorem Zu1 {κ β':Type} [DecidableEq κ] {ks:List κ} {ys:List β'} {i:Nat} {a:κ} {y:β'} (h:ks.Nodup) (h1:ks[i]?=some a) (h2:ys[i]?=some y):lkz ks ys a=some y:=Zff h h1 h2
def sY (b:Nat) (d G:Grp):List ((Zt×List Z5)×Nat):=(ZdG (G.map (·.1))).map fun c=>(lkz (d.map (·.1)) (d.zipIdx b) c).getD (([],[]),0)
theorem ZfM (b:Nat) (d:Grp):(d.zipIdx b).map (·.1)=d:=List.zipIdx_map_fst b d
theorem Zek (b:Nat) (d:Grp):(d.zipIdx b).map (·.2)=XT b d.length:=List.zipIdx_map_snd b d
section
variable (b:Nat) {d G:Grp} (hp:d.Perm G) (hn:(G.map (·.1)).Nodup)
include hp hn
theorem ZyU:(sY b d G).Perm (d.zipIdx b):=by
 have hnd:(d.map (·.1)).Nodup:=(hp.map (·.1)).nodup_iff.2 hn
 have h1:(ZdG (G.map (·.1))).Perm (d.map (·.1)):=(Zej _).trans (hp.map (·.1)).symm
 have h2:=h1.map fun c=>(lkz (d.map (·.1)) (d.zipIdx b) c).getD (([],[]),0)
 refine h2.trans (Xby.of_eq ?_)
 apply Wa
 intro i
 rw [XY]
 cases hi:(d.map (·.1))[i]? with
 | none =>
  have : d.length<=i:=by have:=List.getElem?_eq_none_iff.1 hi;simpa using this
  rw [XX (by simpa using this)];rfl
 | some c =>
  have hl:i < d.length:=by have:=(Xf.1 hi).1;simpa using this
  obtain ⟨y,hy⟩:∃ y,(d.zipIdx b)[i]?=some y:=⟨_,Xz (by simpa using hl)⟩
  rw [X4,Zu1 hnd hi hy,hy];rfl
theorem ZB1:(sY b d G).map (·.1)=ZdO G:=by
 have hnd:(d.map (·.1)).Nodup:=(hp.map (·.1)).nodup_iff.2 hn
 unfold sY ZdO
 rw [Wy]
 apply WZ
 intro c hc
 have hc:=(Zej _).mem_iff.1 hc
 obtain ⟨⟨c',l⟩,hm,rfl⟩:=XV.1 hc
 obtain ⟨i,hi⟩:=WA.1 (hp.mem_iff.2 hm)
 have h1:(d.map (·.1))[i]?=some c':=by rw [XY,hi];rfl
 have hl:i < d.length:=(Xf.1 hi).1
 have h2:(d.zipIdx b)[i]?=some ((c',l),b+i):=by
  rw [Xbg,hi];rfl
 simp only [Function.comp,Zu1 hnd h1 h2,Wr,Zyo hn hm]
theorem ZFR (n:ZU):Zdv Zih (ZY n b d) (d.map (·.1))=ZaV n (sY b d G):=by
 have hnd:(d.map (·.1)).Nodup:=(hp.map (·.1)).nodup_iff.2 hn
 unfold Zdv ZY sY ZaV
 rw [Wy]
 have e:(d.map (·.1)).mergeSort (leC Zih)=ZdG (G.map (·.1)):=ZAg (hp.map _)
 rw [e]
 apply WZ
 intro c hc
 have hc:=(Zej _).mem_iff.1 hc
 obtain ⟨⟨c',l⟩,hm,rfl⟩:=XV.1 hc
 obtain ⟨i,hi⟩:=WA.1 (hp.mem_iff.2 hm)
 have h1:(d.map (·.1))[i]?=some c':=by rw [XY,hi];rfl
 have h2:(d.zipIdx b)[i]?=some ((c',l),b+i):=by
  rw [Xbg,hi];rfl
 have h3:((d.zipIdx b).map fun q=>Zby n q.1 q.2)[i]?=some (Zby n (c',l) (b+i)):=by rw [XY,h2];rfl
 simp only [Function.comp,Zu1 hnd h1 h2,Zff hnd h1 h3,Wr]
end
theorem ZkS (G:Grp):(ZdO G).length=G.length:=by
 unfold ZdO;rw [XL,(Zej _).length_eq,XL]
theorem ZEL (b:Nat) (d G:Grp):(sY b d G).length=G.length:=by
 unfold sY;rw [XL,(Zej _).length_eq,XL]
theorem ZEn (n:ZU) {d G:Grp} (hp:d.Perm G) (hn:(G.map (·.1)).Nodup) (h:d.length < 4611686018427387904) (T:Za):EK 23 [.sl 0 0 0 d.length,.fn 24 []] (.rrow 0 15 (ZY n 1 d)::T)=some (.tup [],.rrow 0 15 (ZaV n (sY 1 d G))::T):=by
 rw [ZEu]
 have hnd:(d.map (·.1)).Nodup:=(hp.map (·.1)).nodup_iff.2 hn
 have hk:Zcp ZeE (ZY n 1 d)=some (d.map (·.1)):=by
  unfold ZY
  rw [Zyj]
  congr 1
  rw [show (d.zipIdx 1).map (·.1.1)=((d.zipIdx 1).map (·.1)).map (·.1) from by rw [Wy];rfl,ZfM]
 have hlen:(ZY n 1 d).length=d.length:=by simp [ZY,ZaV]
 simp only [ZgV,hk,hlen,h,hnd,and_self,if_true,ZFR 1 hp hn n]
theorem ZD0 (n:ZU) (M:List (AVal×AVal)) (d:Grp) (U:Za) (hd:d.length<=900):Zf (.map M::.rrow 0 15 (ZY n 2 d)::(Z2 n d.length++U)) 1000 [1] []=1::XT 2 d.length:=by
 have hr:ZZ (ZY n 2 d)=XT 2 d.length:=by unfold ZY;rw [Zhd,Zek]
 have g1:(Zq.map M::Zq.rrow 0 15 (ZY n 2 d)::(Z2 n d.length++U)).getD 1 .free=.rrow 0 15 (ZY n 2 d):=rfl
 rw [show (1000:Nat)=999+1 from rfl,Zf]
 simp only [XF,Xu,if_false,g1,Zp,hr]
 rw [Zf3 _ (XT 2 d.length) [] _ (999 - d.length) 999 (by rw [Xa6];omega) (fun t ht=>by
  rw [X6] at ht
  have:=Zh0 n (k:=d.length) (i:=t - 2) (.map M) (.rrow 0 15 (ZY n 2 d)) U (by omega)
  rw [show 2+(t - 2)=t by omega] at this
  rw [this];rfl) WS (fun t ht=>by
  rw [X6] at ht
  simp only [XI,XU];omega)]
 have e:999 - d.length=(998 - d.length)+1:=by omega
 rw [e,Zf]
 rfl
theorem Zsg {σ0:Za} {ids:List Nat} {sq:Nat} {P:List AVal}:∀ (m j:Nat) (σ:Za),(∀ i < m,∃ t,ids[j+i]?=some t/\σ[t]?=some (.row 0 1 P)/\Zc (σ0.getD t .free)=0)->Za9 σ0 ids sq (Xr m (.row 0 1 P)) j σ=σ
 | 0,j,σ,_=>rfl
 | m+1,j,σ,h=>by
  obtain ⟨t,h1,h2,h3⟩:=h 0 (by omega)
  rw [Wm] at h1
  have e1:ZaY ids sq j=t:=by simp [ZaY,Xn,h1]
  have e2:ZbB σ0 ids j (.row 0 1 P)=0:=by
   simp only [ZbB,h1]
   rw [h3];rfl
  have e3:σ.set t (.row 0 1 P)=σ:=by
   apply Wa
   intro i
   rw [Xv]
   by_cases e:t=i
   ·subst e;rw [if_pos rfl,if_pos (Xf.1 h2).1,h2]
   ·simp [e]
  rw [WC,Za9,e1,e2]
  show Za9 σ0 ids sq (Xr m (.row 0 1 P)) (j+1) (σ.set t (.row 0 1 P))=σ
  rw [e3]
  exact Zsg m (j+1) σ fun i hi=>by
   obtain ⟨t,q1,q2,q3⟩:=h (i+1) (by omega)
   exact ⟨t,by rw [<-q1];congr 1;omega,q2,q3⟩
theorem Ztz {σ:Za} {ids:List Nat} {P:List AVal}:∀ (m j:Nat),(∀ i < m,∃ t,ids[j+i]?=some t/\σ.getD t .free=.row 0 1 P)->ZbI σ ids (Xr m (.row 0 1 P)) j=true
 | 0,j,_=>rfl
 | m+1,j,h=>by
  obtain ⟨t,h1,h2⟩:=h 0 (by omega)
  rw [Wm] at h1
  rw [WC,ZbI,h1]
  simp only [h2,okB,ZeG,Zc,Xbk,decide_true,WX,W3]
  exact Ztz m (j+1) fun i hi=>by
   obtain ⟨t,q1,q2⟩:=h (i+1) (by omega)
   exact ⟨t,by rw [<-q1];congr 1;omega,q2⟩
theorem Zlk {σ:Za}:∀ ts:List Nat,(∀ t ∈ ts,∀ cs,σ[t]?≠some (.var cs))->Zct σ ts=[]
 | [],_=>rfl
 | t::ts,h=>by
  have ih:=Zlk ts fun x hx=>h x (by simp [hx])
  unfold Zct
  split
  ·rename_i cs hc;exact absurd hc (h t (by simp) cs)
  ·exact ih
theorem Zvt {σ:Za} {t:Nat} {x:Zq} (h:σ.getD t .free=x) (hx:x≠.free):σ[t]?=some x:=by
 rw [Xn] at h
 cases hs:σ[t]? with
 | none=>rw [hs] at h;exact absurd h.symm hx
 | some y=>rw [hs] at h;simp only [Wr] at h;rw [h]
theorem ZyW (n:ZU) (ρ:Rho):∀ (ys:List ((Zt×List Z5)×Nat)),(∀ b ∈ ys.map (·.2),ρ b 0=some (b+1,0))->ZW ρ (ZaV n ys)=ZaV n (ys.map fun q=>(q.1,q.2+1))
 | [],_=>rfl
 | q::ys,h=>by
  have h0:=h q.2 (by simp)
  have ih:=ZyW n ρ ys (fun b hb=>h b (by simp only [Xw,XP];exact XO hb))
  show Zs ρ (Zby n q.1 q.2)::ZW ρ (ZaV n ys)=Zby n q.1 (q.2+1)::ZaV n (ys.map fun q=>(q.1,q.2+1))
  rw [ih]
  congr 1
  unfold Zby Zdh
  simp only [Zs,ZW,h0]
theorem Zz7 (n:ZU) (M:List (AVal×AVal)) {d G:Grp} (hp:d.Perm G) (hn:(G.map (·.1)).Nodup) (hd:d.length<=900) (U:Za) (sq:Nat):Z4 EK BY (.map M::.rrow 0 15 (ZY n 2 d)::(Z2 n d.length++U)) sq 23 0 false [.sl 1 0 0 d.length,.fn 24 []]=some (.tup [],.map M::.rrow 0 15 (ZaV n ((sY 1 d G).map fun q=>(q.1,q.2+1)))::(Z2 n d.length++U),{ any:=true }):=by
 have hids:=ZD0 n M d U hd
 have pay:∀ i < d.length,(Zq.map M::Zq.rrow 0 15 (ZY n 2 d)::(Z2 n d.length++U)).getD (2+i) .free=.row 0 1 (n.payload.map Zn):=fun i hi=>Zh0 n (k:=d.length) (i:=i) _ _ U hi
 have pay2:∀ X,∀ i < d.length,(Zq.map M::Zq.rrow 0 15 X::(Z2 n d.length++U)).getD (2+i) .free=.row 0 1 (n.payload.map Zn):=fun X i hi=>Zh0 n (k:=d.length) (i:=i) _ _ U hi
 have hY1:∀ ρ:Rho,(∀ i,i < d.length->ρ (2+i) 0=some (1+i,0))->ZW ρ (ZY n 2 d)=ZY n 1 d:=by
  intro ρ h
  have:=Zgu n ρ (d.zipIdx 2) 1 (fun i b hb=>by
   rw [Zek] at hb
   have hi:i < d.length:=by have:=(Xf.1 hb).1;simpa using this
   rw [Wg hi] at hb
   injection hb with hb
   subst hb
   simpa using h i hi)
  rwa [ZfM] at this
 have hSp:∀ b ∈ (sY 1 d G).map (·.2),1<=b/\b < 1+d.length:=fun b hb=>by
  have:=((ZyU 1 hp hn).map (·.2)).mem_iff.1 hb
  rw [Zek,X6] at this
  exact this
 have hq:=ZEn n hp hn (by omega) (Z2 n d.length)
 have hb:BY 23=true:=by kernel_rfl
 have g1:(Zq.map M::Zq.rrow 0 15 (ZY n 2 d)::(Z2 n d.length++U)).getD 1 .free=.rrow 0 15 (ZY n 2 d):=rfl
 have q1:(Zq.map M::Zq.rrow 0 15 (ZY n 2 d)::(Z2 n d.length++U))[1]?=some (.rrow 0 15 (ZY n 2 d)):=rfl
 have hset:∀ X,(Zq.map M::Zq.rrow 0 15 (ZY n 2 d)::(Z2 n d.length++U)).set 1 X=.map M::X::(Z2 n d.length++U):=fun X=>rfl
 unfold Z4 ZcZ
 rw [hb]
 simp only [if_true,show ZZ [AVal.sl 1 0 0 d.length,.fn 24 []]=[1] from rfl,ZV,hids]
 generalize hσ:(Zq.map M::Zq.rrow 0 15 (ZY n 2 d)::(Z2 n d.length++U):Za)=σ at *
 have i1:Zk 1 (1::XT 2 d.length) 0=some 0:=rfl
 have ir:∀ i,i < d.length->Zk (2+i) (1::XT 2 d.length) 0=some (1+i):=fun i hi=>by
  have:=Zf8 (1::XT 2 d.length) [] 0 (i+1) (2+i) (Wc.2 ⟨by rw [X6];omega,WS⟩) (by rw [XC,Wg hi];simp)
  rw [X2] at this
  rw [this];congr 1;omega
 have r1:Zd σ 0 (1::XT 2 d.length) 1 0=some (0,0):=by simp [Zd,i1,q1,Zc,Zl]
 have rr:∀ i,i < d.length->Zd σ 0 (1::XT 2 d.length) (2+i) 0=some (1+i,0):=fun i hi=>Zkj σ (ir i hi) (pay i hi)
 unfold Zck
 have hall:((1::XT 2 d.length).all fun t=>okB (σ.getD t .free))=true:=by
  rw [Xi,g1,List.all_eq_true.2 (fun t ht=>by
   rw [X6] at ht
   have:=pay (t - 2) (by omega)
   rw [show 2+(t - 2)=t by omega] at this
   rw [this];rfl)]
  rfl
 rw [if_pos hall]
 have ha:ZW (Zd σ 0 (1::XT 2 d.length)) [.sl 1 0 0 d.length,.fn 24 []]=[.sl 0 0 0 d.length,.fn 24 []]:=by simp only [ZW,Zs,r1]
 have hh:Ze σ 0 (1::XT 2 d.length) (Zd σ 0 (1::XT 2 d.length)) (1::XT 2 d.length) 0=.rrow 0 15 (ZY n 1 d)::Z2 n d.length:=by
  conv=>lhs;rw [Ze]
  rw [ZhE σ _ _ (n.payload.map Zn) _ _ (fun b hb=>by
   rw [X6] at hb
   have:=pay (b - 2) (by omega)
   rwa [show 2+(b - 2)=b by omega] at this),g1]
  simp only [Zg,Zl,Xa5,false_and,if_false,hY1 _ rr,Xa6]
  rfl
 rw [ha,hh,hq]
 simp only [ZaC,Xu,if_false,ZaP,List.isEmpty_cons,W0]
 have hlen:(Zq.rrow 0 15 (ZaV n (sY 1 d G))::Z2 n d.length).length=(1::XT 2 d.length).length:=by simp [Z2]
 have hk:ZbI σ (1::XT 2 d.length) (.rrow 0 15 (ZaV n (sY 1 d G))::Z2 n d.length) 0=true:=by
  unfold ZbI
  simp only [XN,g1,okB,ZeG,Zc,Xbk,decide_true,WX,W3]
  exact Ztz d.length 1 fun i hi=>⟨2+i,by rw [W6 1 i,XC,Wg hi];simp,pay i hi⟩
 have hl:Za9 σ (1::XT 2 d.length) sq (.rrow 0 15 (ZaV n (sY 1 d G))::Z2 n d.length) 0 σ=.map M::.rrow 0 15 (ZaV n ((sY 1 d G).map fun q=>(q.1,q.2+1)))::(Z2 n d.length++U):=by
  rw [Za9]
  have e1:ZaY (1::XT 2 d.length) sq 0=1:=rfl
  have e2:ZbB σ (1::XT 2 d.length) 0 (.rrow 0 15 (ZaV n (sY 1 d G)))=0:=by simp only [ZbB,XN,g1,Zc]
  have e3:ZW (Za8 σ (1::XT 2 d.length) sq) (ZaV n (sY 1 d G))=ZaV n ((sY 1 d G).map fun q=>(q.1,q.2+1)):=ZyW n _ _ fun b hb=>by
   obtain ⟨h1,h2⟩:=hSp b hb
   have : (1::XT 2 d.length)[b]?=some (b+1):=by
    rw [show b=(b - 1)+1 by omega,XC,Wg (by omega)]
    simp;omega
   have hp:=pay (b - 1) (by omega)
   rw [show 2+(b - 1)=b+1 by omega] at hp
   simp only [Za8,this,hp,Zc]
  rw [e1,e2]
  simp only [Zg,e3,hset]
  exact Zsg d.length 1 _ fun i hi=>⟨2+i,by rw [W6 1 i,XC,Wg hi];simp,Zvt (pay2 _ i hi) (by simp),by rw [pay i hi];rfl⟩
 have hu:∀ X:List AVal,Zct (.map M::.rrow 0 15 X::(Z2 n d.length++U)) (1::XT 2 d.length)=[]:=fun X=>Zlk _ fun t ht cs h=>by
  rcases XP.1 ht with rfl | ht
  ·simp at h
  ·rw [X6] at ht
   have:=Zvt (pay2 X (t - 2) (by omega)) (by simp)
   rw [show 2+(t - 2)=t by omega,h] at this
   cases this
 have hff:ZcJ σ sq 0=true:=rfl
 rw [hl,hu,hk,hff,hlen]
 simp [Zs,ZW]
theorem ZCp (σ:Za) (sq:Nat):Z4 EK BY σ sq 23 0 false [.lst true [],.fn 24 []]=some (.tup [],σ,{}):=by
 have h:EK 23 [.lst true [],.fn 24 []] []=some (.tup [],[]):=ZdA.2 ⟨1,rfl⟩
 unfold Z4 ZcZ
 rw [show BY 23=true by kernel_rfl]
 simp only [if_true,show ZZ [AVal.lst true [],.fn 24 []]=[] from rfl,show ZV σ []=σ from rfl]
 rw [show Zf σ 1000 [] []=[] from rfl]
 unfold Zck
 rw [if_pos (by rfl),show ZW (Zd σ 0 []) [AVal.lst true [],.fn 24 []]=[.lst true [],.fn 24 []] from rfl,show Ze σ 0 [] (Zd σ 0 []) [] 0=[] from rfl,h]
 rfl
theorem Zz9 (n:ZU) (M:List (AVal×AVal)) (N:Nat) (ys:List ((Zt×List Z5)×Nat)) (T:Za)
  (hb:∀ b ∈ ys.map (·.2),2<=b/\(Zq.map M::Zq.rrow 0 15 (ZaV n ys)::T).getD b .free=.row 0 1 (n.payload.map Zn)) (hn:(ys.map (·.2)).Nodup) (hl:ys.length<=900) :
  Zay 0 (.map M::.rrow 0 15 (ZaV n ys)::T) (.sl 1 0 0 N)=some (.sl 0 0 0 N,.rrow 0 15 (ZY n 1 (ys.map (·.1)))::Z2 n ys.length):=by
 have hbl:(ys.map (·.2)).length=ys.length:=XL ..
 have hyr:=Zhd n ys
 have hge:∀ ρ,(∀ (i b:Nat),(ys.map (·.2))[i]?=some b->ρ b 0=some (1+i,0))->ZW ρ (ZaV n ys)=ZY n 1 (ys.map (·.1)):=fun ρ h=>Zgu n ρ ys 1 h
 generalize ys.map (·.2)=bs at *
 generalize ZaV n ys=Y at *
 generalize ZY n 1 (ys.map (·.1))=L at *
 have g1:(Zq.map M::Zq.rrow 0 15 Y::T).getD 1 .free=.rrow 0 15 Y:=rfl
 have q1:(Zq.map M::Zq.rrow 0 15 Y::T)[1]?=some (.rrow 0 15 Y):=rfl
 generalize hσ:(Zq.map M::Zq.rrow 0 15 Y::T:Za)=σ at *
 have hre:Zm 0 [.sl 1 0 0 N] σ=1::bs:=by
  unfold Zm
  show Zf σ 1000 (1::[]) []=_
  rw [show (1000:Nat)=999+1 from rfl,Zf]
  simp only [XF,Xu,if_false,g1,Zp,hyr,XI]
  rw [Zf3 σ bs [] _ (999 - bs.length) 999 (by omega) (fun t ht=>by rw [(hb t ht).2];rfl) hn (fun t ht hm=>by
   have:=(hb t ht).1
   rw [XU] at hm
   omega)]
  have e:999 - bs.length=(998 - bs.length)+1:=by omega
  rw [e,Zf];rfl
 have i1:Zk 1 (1::bs) 0=some 0:=rfl
 have ib:∀ (j b:Nat),bs[j]?=some b->Zk b (1::bs) 0=some (1+j):=by
  intro j b h
  have h2:=(hb b (Xx h)).1
  have:=Zf8 (1::bs) [] 0 (j+1) b (Wc.2 ⟨fun hm=>by have:=(hb 1 hm).1;omega,hn⟩) (by simpa using h)
  rw [X2] at this
  rw [this];congr 1;omega
 have r1:Zd σ 0 (1::bs) 1 0=some (0,0):=by simp [Zd,i1,q1,Zc,Zl]
 have rb:∀ (i b:Nat),bs[i]?=some b->Zd σ 0 (1::bs) b 0=some (1+i,0):=fun i b h=>Zkj σ (ib i b h) (hb b (Xx h)).2
 have hY:=hge _ rb
 unfold Zay gcA
 rw [hre]
 have h1:ZW (Zd σ 0 (1::bs)) [.sl 1 0 0 N]=[.sl 0 0 0 N]:=by simp only [ZW,Zs,r1]
 have h2:Ze σ 0 (1::bs) (Zd σ 0 (1::bs)) (1::bs) 0=.rrow 0 15 L::Z2 n bs.length:=by
  conv=>lhs;rw [Ze]
  rw [ZhE σ _ _ (n.payload.map Zn) bs _ (fun b h=>(hb b h).2),g1]
  simp only [Zg,Zl,Xa5,false_and,if_false,hY]
  rfl
 rw [h1,h2,hbl]
theorem ZE1 (n:ZU) {d G:Grp} (hp:d.Perm G) (hn:(G.map (·.1)).Nodup) (hd:d.length<=900) (tm:Tms) (σ:Za) (h:gcT 0 (keepL [46,8,2] tm) σ=(rpT d.length,rpH n G d)) :
  Zfv FC PRK BY 0 [46,8,2] c3P [.tmp 4] tm σ=some (.sl 0 0 0 d.length,.rrow 0 15 (ZY n 1 (ZdO G))::Z2 n d.length):=by
 have hs:=fun U sq=>Zz7 n (G.map fE) hp hn hd U sq
 have hsnd:((sY 1 d G).map fun q:(Zt×List Z5)×Nat=>(q.1,q.2+1)).map (·.2)=((sY 1 d G).map (·.2)).map (·+1):=by rw [Wy,Wy];rfl
 have hfst:((sY 1 d G).map fun q:(Zt×List Z5)×Nat=>(q.1,q.2+1)).map (·.1)=ZdO G:=by rw [Wy];exact ZB1 1 hp hn
 have hperm:(((sY 1 d G).map fun q:(Zt×List Z5)×Nat=>(q.1,q.2+1)).map (·.2)).Perm (XT 2 d.length):=by
  rw [hsnd]
  have:=((ZyU 1 hp hn).map (·.2)).map (·+1)
  rw [Zek] at this
  refine this.trans (Xby.of_eq ?_)
  apply Wa
  intro i
  by_cases hi:i < d.length
  ·rw [XY,Wg hi,Wg hi];simp;omega
  ·rw [XX (by simpa using hi),XX (by simpa using hi)]
 have hlen:((sY 1 d G).map fun q:(Zt×List Z5)×Nat=>(q.1,q.2+1)).length=d.length:=by rw [XL,ZEL,hp.length_eq]
 have ho:=fun U=>Zz9 n (G.map fE) d.length ((sY 1 d G).map fun q=>(q.1,q.2+1)) (Z2 n d.length++U) (fun b hb=>by
  have:=hperm.mem_iff.1 hb
  rw [X6] at this
  refine ⟨this.1,?_⟩
  have h2:=Zh0 n (k:=d.length) (i:=b - 2) (.map (G.map fE)) (.rrow 0 15 (ZaV n ((sY 1 d G).map fun q=>(q.1,q.2+1)))) U (by omega)
  rwa [show 2+(b - 2)=b by omega] at h2) (hperm.nodup_iff.2 WS) (by rw [hlen];exact hd)
 rw [hfst,hlen] at ho
 unfold Zfv
 rw [h]
 unfold rpT rpH
 generalize (sY 1 d G).map (fun q:(Zt×List Z5)×Nat=>(q.1,q.2+1))=S at *
 generalize ZaV n S=Y at *
 generalize ZY n 2 d=D at *
 generalize ZY n 1 (ZdO G)=L at *
 generalize G.map fE=M at *
 have hpl:(Z2 n d.length).length=d.length:=WN ..
 generalize hK:d.length=k at *
 generalize Z2 n k=T at *
 unfold ZX Zh Zi
 generalize n.payload.map Zn=L1 at *
 generalize n.props.map Zb=L2 at *
 simp -implicitDefEqProofs only [EQA,ZE,ZB,ZG,ZC,ZF,ZD,ZP,ZS,ZQ,ZN,ZL,ZM,ZO,ZT,ZR,implies_true,forall_const,Xk,Xl,Xo,Xe,Xg,Xm,Xj,ZH,ZK,unA,Zu,Zz,unG,reduceCtorEq,Zo,decide_eq_true_eq,Xh,Xc,ite_self,↓reduceIte,Zy,ZI,gcT,gcA,Zm,Zf,Zd,Ze,Zk,Zc,Zl,Zg,Zp,Xd,ZbW,ZbH,ZbX,ZbY,Zbs,ZbU,Zbu,Zr,Zh,Zi,Zb,Zx,ZJ,hs,ho,hpl,c3P]
end
section
theorem ZE8 (n:ZU) (G:Grp) (tm:Tms) (σ:Za) (h:gcT 0 (keepL [46,8,2] tm) σ=([(46,.map 0),(8,.lst true []),(2,.ref 1 0)],[.map (G.map fE),.var (ZX n)])) :
  Zfv FC PRK BY 0 [46,8,2] c3P [.tmp 4] tm σ=some (.lst true [],[]):=by
 have hs:=ZCp
 unfold Zfv
 rw [h]
 generalize G.map fE=M at *
 unfold ZX Zh Zi
 generalize n.payload.map Zn=L1 at *
 generalize n.props.map Zb=L2 at *
 simp -implicitDefEqProofs only [EQA,ZE,ZB,ZG,ZC,ZF,ZD,ZP,ZS,ZQ,ZN,ZL,ZM,ZO,ZT,ZR,implies_true,forall_const,Xk,Xl,Xo,Xe,Xg,Xm,Xj,ZH,ZK,unA,Zu,Zz,unG,reduceCtorEq,Zo,decide_eq_true_eq,Xh,Xc,ite_self,↓reduceIte,Zy,ZI,gcT,gcA,Zm,Zf,Zd,Ze,Zk,Zc,Zl,Zg,Zp,Xd,ZbW,ZbH,ZbX,ZbY,Zbs,ZbU,Zbu,Zr,Zh,Zi,Zb,Zx,ZJ,hs,c3P]
 try (simp [Zay,gcA,Zm,Zf,ZZ,Z6,Zd,Ze,Zk,Zc,Zl,ZW,Zs,Zg,Zp,Xd])
theorem ZAp {α:Type} {p:α->Prop} (h:∃ x,p x) {a:α} (hu:∀ x,p x->x=a):h.choose=a:=hu _ h.choose_spec
theorem ZAR {es:List (AVal×AVal)} {tm:Tms} {σ:Za} {out:AVal×Za} {m ms en b1:Nat} {live:List Nat} {aslE:List AOp} {c2 c3:Zv} {rs:List Zda} (h:∀ es':List (AVal×AVal),es'.Perm es->ZgD FC PRK BY m live ms en b1 aslE c2 c3 rs es es' tm σ=some out):ZhC FC PRK BY m live ms en b1 aslE c2 c3 rs es tm σ=some out:=by
 have h':∃ out,∀ es':List (AVal×AVal),es'.Perm es->ZgD FC PRK BY m live ms en b1 aslE c2 c3 rs es es' tm σ=some out:=⟨out,h⟩
 unfold ZhC
 rw [dif_pos h']
 refine congrArg some (ZAp h' fun x hx=>?_)
 have:=(hx es (Xbq _)).symm.trans (h es (Xbq _))
 injection this
theorem ZFJ {α β:Type} {f:α->β}:∀ {l:List α} {es:List β},es.Perm (l.map f)->∃ d:List α,d.Perm l/\es=d.map f:=by
 intro l es h
 have key:∀ {xs ys:List β},xs.Perm ys->∀ l:List α,ys=l.map f->∃ d:List α,d.Perm l/\xs=d.map f:=by
  intro xs ys h
  induction h with
  | nil=>intro l e;exact ⟨l,Xbq _,e⟩
  | cons x _ ih =>
   intro l e
   cases l with
   | nil=>simp at e
   | cons a l =>
    simp only [Xw,XaF] at e
    obtain ⟨d,h1,h2⟩:=ih l e.2
    exact ⟨a::d,h1.cons a,by rw [Xw,<-h2,e.1]⟩
  | swap x y r =>
   intro l e
   match l,e with
   | a::b::l,e =>
    simp only [Xw,XaF] at e
    refine ⟨b::a::l,Xby.swap a b l,?_⟩
    simp only [Xw,e.1,e.2.1,e.2.2]
  | trans _ _ ih1 ih2 =>
   intro l e
   obtain ⟨d,h1,h2⟩:=ih2 l e
   obtain ⟨d',h3,h4⟩:=ih1 d h2
   exact ⟨d',h3.trans h1,h4⟩
 exact key h l rfl
structure OkG (n:Nat) (G:Grp):Prop where
 nd:(G.map (·.1)).Nodup
 ne:∀ p ∈ G,p.2≠[]/\p.2.length<=n
 len:G.length<=n
theorem ZBl {n:Nat} {G:Grp} (h:OkG n G) (c:Zt) (s:Z5):OkG (n+1) (Zcq G c s):=by
 cases hg:Zdb c G 0 with
 | none =>
  rw [Zj4 hg]
  have hc:c ∉ G.map (·.1):=by
   have key:∀ (G:Grp) (i:Nat),Zdb c G i=none->c ∉ G.map (·.1):=by
    intro G
    induction G with
    | nil=>intro i _ h;simp at h
    | cons p G ih =>
     intro i h
     obtain ⟨k,l⟩:=p
     simp only [Zdb] at h
     split at h
     ·cases h
     ·rename_i e
      rw [Xw,XP]
      rintro (h' | h')
      ·exact e h'
      ·exact ih _ h h'
   exact key G 0 hg
  refine ⟨?_,?_,by rw [XE];have:=h.len;simp;omega⟩
  ·rw [Wl,WJ]
   refine ⟨h.nd,by simp,?_⟩
   intro a ha b hb e
   simp only [Xw,XS,XU] at hb
   subst e hb
   exact hc ha
  ·intro p hp
   rcases XG.1 hp with hp | hp
   ·have:=h.ne p hp;exact ⟨this.1,by omega⟩
   ·rw [XU] at hp;subst hp;simp
 | some q =>
  obtain ⟨j',_,h2,h3⟩:=ZhG (s:=s) (l:=q.2) (j:=q.1) hg
  rw [h3]
  refine ⟨?_,?_,by rw [List.length_set];have:=h.len;omega⟩
  ·have : (G.set j' (c,q.2++[s])).map (·.1)=G.map (·.1):=by
    rw [Xa9]
    apply Wa
    intro i
    rw [Xv]
    split
    ·rename_i e;subst e
     simp [h2]
     have:=(Xf.1 h2).1
     omega
    ·rfl
   rw [this];exact h.nd
  ·intro p hp
   rcases We hp with hp | rfl
   ·have:=h.ne p hp;exact ⟨this.1,by omega⟩
   ·have:=h.ne _ (Xx h2)
    simp at this ⊢
    omega
theorem Zi4 (n:ZU):∀ (hits:List Zaa) (G:Grp) (k:Nat),OkG k G->OkG (k+hits.length) (Zc6 n G hits)
 | [],G,k,h=>h
 | x::r,G,k,h=>by
  have h2:OkG (k+1) (if Zdt n x then Zcq G x.client x.sub else G):=by
   split
   ·exact ZBl h _ _
   ·exact ⟨h.nd,fun p hp=>⟨(h.ne p hp).1,by have:=(h.ne p hp).2;omega⟩,by have:=h.len;omega⟩
  have:=Zi4 n r _ (k+1) h2
  rw [Xq,show k+(r.length+1)=k+1+r.length by omega]
  exact this
def Zaw (n:ZU) (hits:List Zaa):Grp:=ZdO (Zc6 n [] hits)
def Zjz (n:ZU):Grp->AVal×Za
 | []=>(.lst true [],[])
 | p::P=>(.sl 0 0 0 (p::P).length,.rrow 0 15 (ZY n 1 (p::P))::Z2 n (p::P).length)
theorem ZlZ (n:ZU) {P:Grp} (h:0 < P.length):Zjz n P=(.sl 0 0 0 P.length,.rrow 0 15 (ZY n 1 P)::Z2 n P.length):=by
 cases P with
 | nil=>simp at h
 | cons p P=>rfl
theorem Zlz (n:ZU) (hn:Zc2 n) (hits:List Zaa) (hN:hits.length<=900):EP 8 [Za7 n,.lst false (hits.map ZA)] []=some (Zjz n (Zaw n hits)):=by
 rw [ZCR]
 unfold Zaw
 obtain ⟨tm',e1,e2⟩:=Zsj n hits (by omega) hits 0 [] rfl (by simp)
 have hok:=Zi4 n hits [] 0 ⟨by simp,by simp,by simp⟩
 rw [XK] at hok
 have h5:tget tm' 5=.map 0:=by
  have:=congrArg (fun t=>tget t 5) e2
  simpa [ZgO,tget] using this
 have h2:tget tm' 2=.ref 1 0:=by
  have:=congrArg (fun t=>tget t 2) e2
  simpa [ZgO,tget] using this
 generalize Zc6 n [] hits=G at *
 have z:((0:Nat):Int)=0:=rfl
 rw [z] at e1
 have s1:evC FC PRK BY 0 c1P (enterA 0 [Za7 n,.lst false (hits.map ZA)] []) []=some (.normal,[(8,.lst true []),(5,.map 0),(2,.ref 1 0)],[.gmap 6 (gE G),.var (ZX n)]):=by
  have hl:(hits.map ZA).length=hits.length:=XL ..
  have h0:gE []=[]:=rfl
  rw [h0] at e1
  unfold plT at e1
  generalize gE G=M at *
  generalize hits.map ZA=S at *
  unfold Za7 ZX Zh Zi at *
  generalize n.payload.map Zn=L1 at *
  generalize n.props.map Zb=L2 at *
  simp -implicitDefEqProofs only [EQA,ZE,ZB,ZG,ZC,ZF,ZD,ZP,ZS,ZQ,ZN,ZL,ZM,ZO,ZT,ZR,implies_true,forall_const,Xk,Xl,Xo,Xe,Xg,Xm,Xj,ZH,ZK,unA,Zu,Zz,unG,reduceCtorEq,Zo,decide_eq_true_eq,Xh,Xc,ite_self,↓reduceIte,Zy,ZI,gcT,gcA,Zm,Zf,Zd,Ze,Zk,Zc,Zl,Zg,Zp,Xd,ZbW,ZbH,ZbX,ZbY,Zbs,ZbU,Zbu,Zr,Zh,Zi,Zb,Zx,ZJ,e1,hl,c1P]
  simp [Zg3,h5,h2]
 have s2:ZfD BY ZjT [(8,.lst true []),(5,.map 0),(2,.ref 1 0)] [.gmap 6 (gE G),.var (ZX n)]=some ([(46,.map 0),(8,.lst true []),(5,.map 0),(2,.ref 1 0)],[.gmap 6 (gE G),.var (ZX n)]):=by
  generalize gE G=M
  generalize ZX n=C
  rfl
 have s3:Zhb [.gmap 6 (gE G),.var (ZX n)] 0=some (G.map fE,[.map (G.map fE),.var (ZX n)]):=by
  unfold Zhb
  rw [XN]
  simp only [Zwa,List.set_cons_zero]
 show (match evC FC PRK BY 0 c1P (enterA 0 [Za7 n,.lst false (hits.map ZA)] []) [] with
  | some (.normal,tm1,σ1)=>match ZfD BY ZjT tm1 σ1 with
   | some (tm2,σ2)=>match tget tm2 46 with
    | .map t=>match Zhb σ2 t with
     | some (es,σ3)=>ZhC FC PRK BY 0 [46,8,2] 46 50 3 ZdS c2P c3P [.tmp 4] es tm2 σ3
     | none=>none
    | _=>none
   | none=>none
  | _=>none)=_
 rw [s1]
 simp only [s2,tget,if_true,s3]
 refine ZAR fun es' hp=>?_
 obtain ⟨d,hd,rfl⟩:=ZFJ hp
 have hlen:=hd.length_eq
 have hg:=ZCF n G (tm:=[(46,.map 0),(8,.lst true []),(5,.map 0),(2,.ref 1 0)]) rfl rfl rfl
 cases d with
 | nil =>
  have e:G=[]:=List.nil_perm.1 hd
  subst e
  show Zfv FC PRK BY 0 [46,8,2] c3P [.tmp 4] _ _=_
  rw [ZE8 n [] _ _ hg,show ZdO []=[] from by simp [ZdO,ZdG]]
  rfl
 | cons p r =>
  have hmem:=fun q hq=>hok.ne q (hd.mem_iff.1 hq)
  have hp0:=hmem p (by simp)
  obtain ⟨c,l⟩:=p
  cases l with
  | nil=>exact absurd rfl hp0.1
  | cons s l =>
  have hb:(s::l).length<=1000000000:=by have:=hp0.2;simp only at this;omega
  have e:=ZER n hn G c s l hb _ _ hg
  obtain ⟨tm2,σ2,f1,f2⟩:=ZzF n hn G r [(c,s::l)] _ _ (fun q hq=>by have:=hmem q (by simp [hq]);exact ⟨this.1,by have:=this.2;omega⟩) (by have:=hok.len;simp only [Xq,Xy] at hlen ⊢;omega) (ZCI n G (c,s::l))
  unfold ZgD
  have e3:Zdy FC PRK BY 0 [46,8,2] 46 50 3 ZdS c2P (G.map fE) (((c,s::l)::r).map fE) [(46,.map 0),(8,.lst true []),(5,.map 0),(2,.ref 1 0)] [.map (G.map fE),.var (ZX n)]=some (tm2,σ2):=by
   show (match Zfi FC PRK BY 0 [46,8,2] 46 50 3 ZdS c2P (G.map fE) (fE (c,s::l)) [(46,.map 0),(8,.lst true []),(5,.map 0),(2,.ref 1 0)] [.map (G.map fE),.var (ZX n)] with
    | some (tm',σ')=>Zdy FC PRK BY 0 [46,8,2] 46 50 3 ZdS c2P (G.map fE) (r.map fE) tm' σ'
    | none=>none)=_
   rw [e]
   exact f1
  rw [e3]
  have e5:[(c,s::l)]++r=(c,s::l)::r:=rfl
  rw [e5] at f2
  simp only
  rw [ZE1 n hd hok.nd (by have:=hok.len;omega) tm2 σ2 f2]
  have hpl:0 < (ZdO G).length:=by rw [ZkS,<-hlen];simp
  rw [ZlZ n hpl,ZkS,hlen]
end
section
def Zhk (a b:Zcs):Bool:=Zgo a.note b.note && a.qos == b.qos && a.retain == b.retain && a.ids == b.ids && a.share == b.share
theorem Zzm (a b:Zcs) (h:a.ids.length=b.ids.length) (hl:a.ids.length<=9223372036854775807):∀ (r s:List Int) (i:Nat),a.ids.drop i=r->b.ids.drop i=s->ZjK 0 [(5,.int .i64 i),(3,.ref 0 0),(2,.ref 1 0)] [.var (Zbl b),.var (Zbl a)]=some (.bool (r == s),[])
 | [],s,i,ha,hb=>by
  have hs:s=[]:=by
   subst hb;rw [Wx] at ha ⊢;omega
  subst hs
  have h1:=Zf0 ha
  unfold ZjK
  rw [Zbe]
  simp -implicitDefEqProofs only [EQA,ZE,ZB,ZG,ZC,ZF,ZD,ZP,ZS,ZQ,ZN,ZL,ZM,ZO,ZT,ZR,implies_true,forall_const,Xk,Xl,Xo,Xe,Xg,Xm,Xj,ZH,ZK,unA,Zu,Zz,unG,reduceCtorEq,Zo,decide_eq_true_eq,Xh,Xc,ite_self,↓reduceIte,Zy,ZI,gcT,gcA,Zm,Zf,Zd,Ze,Zk,Zc,Zl,Zg,Zp,Xd,Zj0,Zg7,ZiO,Zjp,Zhc,Zjo,Zhw,Zr,Zh,Zi,Zb,Zx,ZJ,h1,Zbl]
 | x::r,[],i,ha,hb=>by
  have:=(Zbn ha).2.2;rw [Wx] at hb;omega
 | x::r,y::s,i,ha,hb=>by
  have ih:=Zzm a b h hl r s (i+1) (Zbn ha).2.1 (Zbn hb).2.1
  have h1:(i:Int) < a.ids.length:=by have:=(Zbn ha).2.2;omega
  have e1:=iad (Zbn ha).1 (.int .i64 ·) (k:=1) rfl
  have e2:=iad (Zbn hb).1 (.int .i64 ·) (k:=1) rfl
  have e3:=Zyk h1 hl
  unfold ZjK at ih ⊢
  rw [Zbe]
  simp -implicitDefEqProofs only [EQA,ZE,ZB,ZG,ZC,ZF,ZD,ZP,ZS,ZQ,ZN,ZL,ZM,ZO,ZT,ZR,implies_true,forall_const,Xk,Xl,Xo,Xe,Xg,Xm,Xj,ZH,ZK,unA,Zu,Zz,unG,reduceCtorEq,Zo,decide_eq_true_eq,Xh,Xc,ite_self,↓reduceIte,Zy,ZI,gcT,gcA,Zm,Zf,Zd,Ze,Zk,Zc,Zl,Zg,Zp,Xd,Zj0,Zg7,ZiO,Zjp,Zhc,Zjo,Zhw,Zr,Zh,Zi,Zb,Zx,ZJ,h1,e1,e2,e3,Zbl]
  simp only [Zbl,Zr,Zi,Zh] at ih
  rw [ih]
  by_cases hx:x=y <;> simp [hx]
theorem ZyN (a b:Zcs) (hl:a.note.props.length<=9223372036854775807) (hi:a.ids.length<=9223372036854775807):E 10 [ZbJ a,ZbJ b] []=some (.bool (Zhk a b),[]):=by
 rw [ZcU (by rfl) ZFa]
 by_cases h:a.ids.length=b.ids.length
 ·have:=Zzm a b h hi a.ids b.ids 0 rfl rfl
  unfold ZjK at this
  simp only [Zbl,Zr,Zi,Zh] at this
  have e:=Zwj h
  simp -implicitDefEqProofs only [EQA,ZE,ZB,ZG,ZC,ZF,ZD,ZP,ZS,ZQ,ZN,ZL,ZM,ZO,ZT,ZR,implies_true,forall_const,Xk,Xl,Xo,Xe,Xg,Xm,Xj,ZH,ZK,unA,Zu,Zz,unG,reduceCtorEq,Zo,decide_eq_true_eq,Xh,Xc,ite_self,↓reduceIte,Zy,ZI,gcT,gcA,Zm,Zf,Zd,Ze,Zk,Zc,Zl,Zg,Zp,Xd,Zj0,Zg7,ZiO,Zjp,Zhc,Zjo,Zhw,Zr,Zh,Zi,Zb,Zx,ZJ,e,ZbJ,Zbl,Zot,hl,Zhk]
  have z:((0:Nat):Int)=0:=rfl
  rw [z] at this
  rw [this]
  simp only [bne]
  rw [show ∀ (p q:Bool),(if p=true then some (AVal.bool false,([]:Za)) else some (AVal.bool q,[]))=some (AVal.bool (!p && q),[]) from by intro p q;cases p <;> rfl]
  generalize Zgo a.note b.note=q1,(a.qos == b.qos)=q2,a.retain=q3,b.retain=q4,(a.share == b.share)=q5,(a.ids == b.ids)=q6
  cases q1 <;> cases q2 <;> cases q3 <;> cases q4 <;> cases q5 <;> cases q6 <;> rfl
 ·have e:=Zv1 h
  simp -implicitDefEqProofs only [EQA,ZE,ZB,ZG,ZC,ZF,ZD,ZP,ZS,ZQ,ZN,ZL,ZM,ZO,ZT,ZR,implies_true,forall_const,Xk,Xl,Xo,Xe,Xg,Xm,Xj,ZH,ZK,unA,Zu,Zz,unG,reduceCtorEq,Zo,decide_eq_true_eq,Xh,Xc,ite_self,↓reduceIte,Zy,ZI,gcT,gcA,Zm,Zf,Zd,Ze,Zk,Zc,Zl,Zg,Zp,Xd,Zj0,Zg7,ZiO,Zjp,Zhc,Zjo,Zhw,Zr,Zh,Zi,Zb,Zx,ZJ,e,ZwV h,ZbJ,Zbl,Zot,hl,Zhk]
theorem Zzn (σ:Za) (sq own:Nat) (view:Bool) (a b:Zcs) (hl:a.note.props.length<=9223372036854775807) (hi:a.ids.length<=9223372036854775807):Z4 E BY σ sq 10 own view [.agg [.str a.note.topic,.lst false (a.note.payload.map Zn),.int .i64 a.note.qos,.bool a.note.retain,.str a.note.sender,.int .i64 a.note.expires,.lst false (a.note.props.map Zb),.int .i64 a.note.origin,.int .i64 a.note.number,.int .i64 a.note.hops,.int .i64 a.qos,.bool a.retain,.lst false (a.ids.map (.int .i64 ·)),.str a.share],.agg [.str b.note.topic,.lst false (b.note.payload.map Zn),.int .i64 b.note.qos,.bool b.note.retain,.str b.note.sender,.int .i64 b.note.expires,.lst false (b.note.props.map Zb),.int .i64 b.note.origin,.int .i64 b.note.number,.int .i64 b.note.hops,.int .i64 b.qos,.bool b.retain,.lst false (b.ids.map (.int .i64 ·)),.str b.share]]=some (.bool (Zhk a b),σ,{}) :=
 ZfL (ZyN a b hl hi) (by kernel_rfl) (by simp -implicitDefEqProofs only [Zeg,Zet,ZE,ZB,ZG,Zen,ZC,ZF,Zeq,ZD,eq_self,implies_true,Xu,Zr,Zh,Zi,Zb,Zx,ZbJ,Zbl]) (by simp -implicitDefEqProofs only [Zeg,Zet,ZE,ZB,ZG,Zen,ZC,ZF,Zeq,ZD,eq_self,implies_true,Xu,Zr,Zh,Zi,Zb,Zx,ZbJ,Zbl]) rfl (fun _=>rfl) _ _ _ _
end
section
theorem ZyD {σ:Za} {m:Nat} {ids:List Nat} {ρ:Rho} (hg:∀ (t:Nat) (x:Zq),σ[t]?=some x->Zc x=0) (hr:∀ x ∈ σ,Zg ρ 0 x=x):∀ (k s:Nat),s+k<=σ.length->Ze σ m ids ρ (XT s k) s=(σ.drop s).take k
 | 0,s,_=>by simp [Ze]
 | k+1,s,h=>by
  have hs:s < σ.length:=by omega
  have hx:σ[s]?=some σ[s]:=Xz hs
  have hd:σ.getD s .free=σ[s]:=by rw [Xn,hx];rfl
  have hn:Zl m s σ[s]=0:=by unfold Zl;rw [hg s _ hx];simp
  rw [XaX,Ze,hd,hn,hr _ (List.getElem_mem hs),ZyD hg hr k (s+1) (by omega)]
  rw [W9 hs,Wh]
theorem ZEb {m:Nat} {rs:List AVal} {σ:Za} (hids:Zm m rs σ=XT 0 σ.length) (hg:∀ (t:Nat) (x:Zq),σ[t]?=some x->Zc x=0/\x≠.free)
  (hren:∀ ρ:Rho,(∀ t < σ.length,ρ t 0=some (t,0))->ZW ρ rs=rs/\∀ x ∈ σ,Zg ρ 0 x=x):gcA m rs σ=(rs,σ):=by
 unfold gcA
 rw [hids]
 have hρ:∀ t < σ.length,Zd σ m (XT 0 σ.length) t 0=some (t,0):=by
  intro t ht
  have hi:Zk t (XT 0 σ.length) 0=some t:=by
   have:=Zf8 (XT 0 σ.length) [] 0 t t WS (by rw [Wg ht];simp)
   rw [X2,XK] at this
   exact this
  have hx:σ[t]?=some σ[t]:=Xz ht
  obtain ⟨h1,h2⟩:=hg t _ hx
  have hn:Zl m t σ[t]=0:=by unfold Zl;rw [h1];simp
  unfold Zd
  rw [hi]
  simp only [hx]
  generalize σ[t]=x at *
  cases x <;> first | exact absurd rfl h2 | (simp only [h1,if_true,hn])
 obtain ⟨h1,h2⟩:=hren _ hρ
 rw [h1,ZyD (fun t x hx=>(hg t x hx).1) h2 σ.length 0 (by omega)]
 rw [WF,List.take_length]
theorem ZgN {m:Nat} {tm:Tms} {σ:Za} (h:gcA m (tm.map (·.2)) σ=(tm.map (·.2),σ)):gcT m tm σ=(tm,σ):=by
 unfold gcT
 rw [h]
 have hz:(tm.map (·.1)).zip (tm.map (·.2))=tm:=by
  clear h
  induction tm with
  | nil=>rfl
  | cons a tm ih=>rw [Xw,Xw,List.zip_cons_cons,ih]
 simp only
 congr 1
theorem ZFd {m:Nat} {r:AVal} {σ:Za} (h:gcA m [r] σ=([r],σ)):Zay m σ r=some (r,σ):=by
 unfold Zay;rw [h]
theorem Zy7 (σ:Za):∀ (todo:List Nat) (F:Nat) (acc:List Nat),(∀ t ∈ todo,t ∈ acc)->todo.length < F->Zf σ F todo acc=acc
 | [],F,acc,_,h=>by
  obtain ⟨F',rfl⟩:∃ F',F=F'+1:=⟨F - 1,by omega⟩
  rfl
 | t::todo,F,acc,hin,h=>by
  obtain ⟨F',rfl⟩:∃ F',F=F'+1:=⟨F - 1,by omega⟩
  have hc:acc.contains t=true:=by simpa using hin t (by simp)
  rw [Zf,hc]
  simp only [if_true]
  exact Zy7 σ todo F' acc (fun x hx=>hin x (by simp [hx])) (by simp only [Xq] at h;omega)
theorem Zug (n:ZU) (b:Nat) {P:Grp} {i:Nat} {p:Zt×List Z5} (h:P[i]?=some p):(ZY n b P)[i]?=some (Zby n p (b+i)):=by
 unfold ZY ZaV
 rw [XY,Xbg,h];rfl
theorem Zw5 (n:ZU) (b:Nat) (P:Grp):ZZ (ZY n b P)=XT b P.length:=by
 unfold ZY;rw [Zhd,Zek]
theorem Zzi (n:ZU) (P:Grp) (ρ:Rho) (b:Nat) (h:∀ i,i < P.length->ρ (b+i) 0=some (b+i,0)):ZW ρ (ZY n b P)=ZY n b P:=by
 have:=Zgu n ρ (P.zipIdx b) b (fun i t ht=>by
  rw [Zek] at ht
  have hi:i < P.length:=by have:=(Xf.1 ht).1;simpa using this
  rw [Wg hi] at ht
  injection ht with ht
  subst ht
  simpa using h i hi)
 rwa [ZfM] at this
def ZaX (n:ZU) (P:Grp) (Xs:List (List AVal)) (V:Za):Za:=.rrow 0 15 (ZY n 1 P)::(Xs.map (fun X=>Zq.row 0 1 X)++V)
theorem ZhR (n:ZU) (P:Grp) {Xs:List (List AVal)} (V:Za) {i:Nat} {X:List AVal} (h:Xs[i]?=some X):(ZaX n P Xs V)[i+1]?=some (.row 0 1 X):=by
 unfold ZaX
 rw [XC,Wf (by have:=(Xf.1 h).1;simpa using this),XY,h];rfl
theorem ZDh (n:ZU) (P:Grp) (Xs:List (List AVal)) (V:Za) {i:Nat} (X:List AVal) (h:i < Xs.length):(ZaX n P Xs V).set (i+1) (.row 0 1 X)=ZaX n P (Xs.set i X) V:=by
 unfold ZaX
 rw [W8,List.set_append_left _ _ (by simpa using h),<-Xa9]
theorem Ze3 (n:ZU) (P:Grp) (Xs:List (List AVal)) {V:Za} {k j:Nat} {x:Zq} (h:V[j]?=some x) (hk:k=1+Xs.length+j):(ZaX n P Xs V)[k]?=some x:=by
 subst hk
 unfold ZaX
 rw [show 1+Xs.length+j=Xs.length+j+1 by omega,XC,Wo (by simp)]
 simpa using h
end
section
def ZbD:Zv:=(.seq (.region [oI 97 (.ld (some 10) (.t 7)),oI 98 (.ld (some 16) (.t 3)),oI 99 (.call 6 0 true [(.t 98)]),oI 100 (.field (some 10) 0 (.t 99)),oI 101 (.call 13 0 true [(.t 97),(.t 100)]),oM 102 101,⟨(some 103),(.ld (some 10) (.t 7)),(some (102,true)),[]⟩,⟨(some 104),(.ld (some 6) (.t 5)),(some (102,true)),[]⟩,⟨(some 105),(.call 14 0 true [(.t 103),(.c (.str [36,115,104,97,114,101,47,103,47,116])),(.t 104)]),(some (102,true)),[]⟩,⟨(some 106),(.ld (some 10) (.t 7)),(some (102,true)),[]⟩,⟨(some 107),(.ld (some 6) (.t 5)),(some (102,true)),[]⟩,⟨(some 108),(.call 15 0 true [(.t 106),(.c (.str [36,115,104,97,114,101,47,103,47,116])),(.t 107)]),(some (102,true)),[]⟩,⟨(some 109),(.call 10 0 true [(.t 105),(.t 108)]),(some (102,true)),[]⟩,oI 110 (.pick (.t 102) (.t 109) (.c (.bool false))),oM 111 110,⟨(some 112),(.ld (some 10) (.t 7)),(some (111,true)),[]⟩,⟨(some 113),(.ld (some 6) (.t 5)),(some (111,true)),[]⟩,⟨(some 114),(.call 16 0 true [(.t 112),(.t 113)]),(some (111,true)),[]⟩,⟨(some 115),(.ld (some 10) (.t 7)),(some (111,true)),[]⟩,⟨(some 116),(.ld (some 6) (.t 5)),(some (111,true)),[]⟩,⟨(some 117),(.call 17 0 true [(.t 115),(.t 116)]),(some (111,true)),[]⟩,⟨(some 118),(.call 10 0 true [(.t 114),(.t 117)]),(some (111,true)),[]⟩,oI 119 (.pick (.t 111) (.t 118) (.c (.bool false))),oM 120 119,⟨(some 121),(.call 9 0 true []),(some (120,true)),[]⟩,oI 122 (.pick (.t 120) (.t 121) (.c (.bool false))),oM 6 122] (some [(0,1),(0,2),(6,7),(6,9),(7,9),(8,9),(6,10),(7,10),(8,10),(9,10),(15,16),(15,18),(16,18),(17,18),(15,19),(16,19),(17,19),(18,19),(2,2),(4,4),(11,11),(12,12),(20,20),(21,21),(24,24)]) [6]) .ret)
def Zje:Zv:=ZbD
def Zcd:=xw Zje ZbD rfl
def ZbF:Zv:=(.region [oM 52 11,oI 53 (.bin .add (.t 52) (.c (.int .i64 1))),oM 11 53] none [11,9,7,5,3])
def Zjf:Zv:=ZbF
def Zb7:=xw Zjf ZbF rfl
def ZbA:Zv:=(.seq (.seq (.region [oM 80 13,oM 81 9,oI 82 (.len (.t 81)),oI 83 (.bin .lss (.t 80) (.t 82))] none [83,13,11,9,7,5,3]) (.cond (.t 83) .skip (.exit 6))) (.seq (.block 7 (.seq (.region [oM 86 9,oM 87 13,oI 88 (.iaddr 15 (.t 86) (.t 87)),oF 89 1 88,oF 90 0 89,oI 91 (.ld (some 10) (.t 90)),oI 92 (.ld (some 16) (.t 3)),oI 93 (.call 6 0 true [(.t 92)]),oI 94 (.field (some 10) 0 (.t 93)),oI 95 (.call 13 0 true [(.t 91),(.t 94)]),oI 96 (.un .not (.t 95))] (some [(2,6),(5,6),(2,7),(5,7),(7,7),(9,9)]) [96,13,11,9,7,5,3]) (.cond (.t 96) (.seq (.region [oI 6 (.mov (.c (.bool false)))] none [6]) .ret) .skip))) (.region [oM 84 13,oI 85 (.bin .add (.t 84) (.c (.int .i64 1))),oM 13 85] none [13,11,9,7,5,3])))
def Zho:Zv:=ZbA
def Zci:=xw Zho ZbA rfl
def Zbx:Zv:=(.seq (.region [oM 78 11,oI 79 (.bin .add (.t 78) (.c (.int .i64 1))),oM 13 79] none [13,11,9,7,5,3]) (.block 6 (.loop [13,11,9,7,5,3] Zho)))
def Zj9:Zv:=Zbx
def Zb9:=xw Zj9 Zbx rfl
def ZbE:Zv:=(.seq (.seq (.region [oM 54 12,oM 55 9,oM 56 11,oI 57 (.iaddr 15 (.t 55) (.t 56)),oF 58 1 57,oF 59 0 58,oF 60 1 59,oL 61 60,oI 62 (.len (.t 61)),oI 63 (.bin .lss (.t 54) (.t 62))] none [63,12,11,9,7,5,3]) (.cond (.t 63) .skip (.exit 4))) (.seq (.block 5 (.region [oM 66 9,oM 67 11,oI 68 (.iaddr 15 (.t 66) (.t 67)),oF 69 1 68,oF 70 0 69,oF 71 1 70,oL 72 71,oM 73 12,oI 74 (.iaddr 1 (.t 72) (.t 73)),oL 75 74,oI 76 (.bin .add (.t 75) (.c (.int .u8 1))),oI 77 (.iaddr 1 (.t 72) (.t 73)),oN (.st 1 (.t 77) (.t 76))] none [12,11,9,7,5,3])) (.region [oM 64 12,oI 65 (.bin .add (.t 64) (.c (.int .i64 1))),oM 12 65] none [12,11,9,7,5,3])))
def ZfY:Zv:=ZbE
def Zb5:=xw ZfY ZbE rfl
def Zbw:Zv:=(.seq (.seq (.region [oM 48 11,oM 49 9,oI 50 (.len (.t 49)),oI 51 (.bin .lss (.t 48) (.t 50))] none [51,11,9,7,5,3]) (.cond (.t 51) .skip (.exit 2))) (.seq (.block 3 (.seq (.seq (.region [oI 12 (.mov (.c (.int .i64 0)))] none [12,11,9,7,5,3]) (.block 4 (.loop [12,11,9,7,5,3] ZfY))) Zj9)) Zjf))
def Zhg:Zv:=Zbw
def Zcb:=xw Zhg Zbw rfl
def Zbp:Zv:=(.seq (.seq (.region [oM 40 9,oI 41 (.ld (some 16) (.t 3)),oI 42 (.call 6 0 true [(.t 41)]),oI 43 (.field (some 10) 0 (.t 42)),oM 44 1,oI 45 (.call 12 0 true [(.t 43),(.t 44)]),oI 46 (.call 11 0 true [(.t 40),(.t 45)]),oI 47 (.un .not (.t 46))] none [47,9,7,5,3]) (.cond (.t 47) (.seq (.region [oI 6 (.mov (.c (.bool false)))] none [6]) .ret) .skip)) (.seq (.seq (.region [oI 11 (.mov (.c (.int .i64 0)))] none [11,9,7,5,3]) (.block 2 (.loop [11,9,7,5,3] Zhg))) Zje))
def ZhZ:Zv:=Zbp
def Zb1:=xw ZhZ Zbp rfl
def ZbG:Zv:=(.seq (.seq (.region [oM 25 10,oM 26 1,oI 27 (.len (.t 26)),oI 28 (.bin .lss (.t 25) (.t 27))] none [28,10,9,8,7,5,3,1]) (.cond (.t 28) .skip (.exit 0))) (.seq (.block 1 (.seq (.region [oM 31 8,oM 32 10,oI 33 (.iaddr 7 (.t 31) (.t 32)),oI 34 (.ld (some 7) (.t 33)),oM 35 1,oM 36 10,oI 37 (.iaddr 7 (.t 35) (.t 36)),oI 38 (.ld (some 7) (.t 37)),oI 39 (.eqv true [2,2,0,1,1,0,0] (.t 34) (.t 38))] (some [(2,6),(3,6),(2,7),(3,7)]) [39,10,9,8,7,5,3,1]) (.cond (.t 39) (.seq (.region [oI 6 (.mov (.c (.bool false)))] none [6]) .ret) .skip))) (.region [oM 29 10,oI 30 (.bin .add (.t 29) (.c (.int .i64 1))),oM 10 30] none [10,9,8,7,5,3,1])))
def Zhr:Zv:=ZbG
def Zca:=xw Zhr ZbG rfl
def Zbv:Zv:=(.seq (.region [oI 3 (.box (.t 0)),oI 5 (.box (.t 2)),oI 6 (.mov (.c (.bool false)))] none [5,3,1]) (.seq (.region [oI 14 (.ld (some 16) (.t 3)),oI 15 (.call 6 0 true [(.t 14)]),oI 16 (.field (some 10) 0 (.t 15)),oI 7 (.alloc [(.str []),(.lst true []),(.int .i64 0),(.bool false),(.str []),(.int .i64 0),(.lst true []),(.int .i64 0),(.int .i64 0),(.int .i64 0)]),oN (.st 10 (.t 7) (.t 16))] none [7,5,3,1]) (.seq (.region [oM 17 1,oI 18 (.call 7 0 true [(.t 17)]),oM 1 18] none [7,5,3,1]) (.seq (.region [oI 19 (.bslice false 7 0 (.agg [(.str []),(.str []),(.int .i64 0),(.bool false),(.bool false),(.int .i64 0),(.int .i64 0)]) []),oM 20 1,oI 21 (.app 7 64 (.agg [(.str []),(.str []),(.int .i64 0),(.bool false),(.bool false),(.int .i64 0),(.int .i64 0)]) (.t 19) (.t 20)),oM 8 21] none [8,7,5,3,1]) (.seq (.region [oI 22 (.ld (some 10) (.t 7)),oM 23 8,oI 24 (.call 8 31 false [(.t 22),(.t 23)]),oM 9 24] none [9,8,7,5,3,1]) (.seq (.seq (.region [oI 10 (.mov (.c (.int .i64 0)))] none [10,9,8,7,5,3,1]) (.block 0 (.loop [10,9,8,7,5,3,1] Zhr))) ZhZ))))))
def Zir:Zam:=⟨[(.tmp 6)],Zbv⟩
theorem Zzr:FC 5=some Zir:=by kernel_rfl
theorem ZbM:Zir.body=Zbv:=rfl
theorem Zce:Zir.res=[(.tmp 6)]:=rfl
def ZeS:Zv:=(.seq (.region [oI 4 (.mov (.c (.bool true)))] none [4]) .ret)
def Zqh:Zv:=ZeS
def ZfN:=xw Zqh ZeS rfl
def ZeK:Zv:=(.seq (.seq (.region [oM 11 5,oM 12 0,oI 13 (.len (.t 12)),oI 14 (.bin .lss (.t 11) (.t 13))] none [14,5,1,0]) (.cond (.t 14) .skip (.exit 0))) (.seq (.block 1 (.seq (.region [oM 17 0,oM 18 5,oI 19 (.iaddr 15 (.t 17) (.t 18)),oF 20 0 19,oL 21 20,oM 22 1,oM 23 5,oI 24 (.iaddr 15 (.t 22) (.t 23)),oF 25 0 24,oL 26 25,oI 27 (.bin .neq (.t 21) (.t 26)),oM 28 27,⟨(some 29),(.mov (.t 0)),(some (28,false)),[]⟩,⟨(some 30),(.mov (.t 5)),(some (28,false)),[]⟩,⟨(some 31),(.iaddr 15 (.t 29) (.t 30)),(some (28,false)),[]⟩,⟨(some 32),(.faddr 1 (.t 31)),(some (28,false)),[]⟩,⟨(some 33),(.ld (some 14) (.t 32)),(some (28,false)),[]⟩,⟨(some 34),(.mov (.t 1)),(some (28,false)),[]⟩,⟨(some 35),(.mov (.t 5)),(some (28,false)),[]⟩,⟨(some 36),(.iaddr 15 (.t 34) (.t 35)),(some (28,false)),[]⟩,⟨(some 37),(.faddr 1 (.t 36)),(some (28,false)),[]⟩,⟨(some 38),(.ld (some 14) (.t 37)),(some (28,false)),[]⟩,⟨(some 39),(.call 10 0 true [(.t 33),(.t 38)]),(some (28,false)),[]⟩,⟨(some 40),(.un .not (.t 39)),(some (28,false)),[]⟩,oI 41 (.pick (.t 28) (.c (.bool true)) (.t 40))] (some [(2,7),(4,7),(2,9),(4,9),(14,19),(16,19),(14,21),(16,21),(22,22)]) [41,5,1,0]) (.cond (.t 41) (.seq (.region [oI 4 (.mov (.c (.bool false)))] none [4]) .ret) .skip))) (.region [oM 15 5,oI 16 (.bin .add (.t 15) (.c (.int .i64 1))),oM 5 16] none [5,1,0])))
def Ziw:Zv:=ZeK
def ZfA:=xw Ziw ZeK rfl
def Zee:Zv:=(.seq (.region [oI 4 (.mov (.c (.bool false)))] none [1,0]) (.seq (.seq (.region [oM 6 0,oI 7 (.len (.t 6)),oM 8 1,oI 9 (.len (.t 8)),oI 10 (.bin .neq (.t 7) (.t 9))] none [10,1,0]) (.cond (.t 10) (.seq (.region [oI 4 (.mov (.c (.bool false)))] none [4]) .ret) .skip)) (.seq (.seq (.region [oI 5 (.mov (.c (.int .i64 0)))] none [5,1,0]) (.block 0 (.loop [5,1,0] Ziw))) Zqh)))
def Zlt:Zam:=⟨[(.tmp 4)],Zee⟩
theorem ZvK:FC 11=some Zlt:=by kernel_rfl
theorem Zfg:Zlt.body=Zee:=rfl
theorem ZfB:Zlt.res=[(.tmp 4)]:=rfl
def Zfk:Zv:=(.seq (.region [oM 30 3,oM 2 30] none [2]) .ret)
def ZqR:Zv:=Zfk
def Zgk:=xw ZqR Zfk rfl
def Zfe:Zv:=(.seq (.seq (.region [oM 6 4,oM 7 0,oI 8 (.len (.t 7)),oI 9 (.bin .lss (.t 6) (.t 8)),oM 10 9,⟨(some 11),(.mov (.t 4)),(some (10,true)),[]⟩,⟨(some 12),(.bin .lss (.t 11) (.c (.int .i64 30))),(some (10,true)),[]⟩,oI 13 (.pick (.t 10) (.t 12) (.c (.bool false)))] none [13,4,3,0]) (.cond (.t 13) .skip (.exit 0))) (.seq (.block 1 (.seq (.region [oM 16 0,oM 17 4,oI 18 (.iaddr 7 (.t 16) (.t 17)),oI 19 (.ld (some 7) (.t 18)),oI 5 (.alloc [(.str []),(.str []),(.int .i64 0),(.bool false),(.bool false),(.int .i64 0),(.int .i64 0)]),oN (.st 7 (.t 5) (.t 19))] none [5,4,3,0]) (.seq (.region [oF 20 1 5,oF 21 1 20,oL 22 21,oI 23 (.call 20 0 true [(.t 22),(.c (.int .i64 0)),(.c (.int .i64 2))]),oF 24 1 5,oF 25 1 24,oN (.st 1 (.t 25) (.t 23))] none [5,4,3,0]) (.region [oM 26 3,oI 27 (.ld (some 7) (.t 5)),oI 28 (.bslice false 7 1 (.agg [(.str []),(.str []),(.int .i64 0),(.bool false),(.bool false),(.int .i64 0),(.int .i64 0)]) [(0,(.t 27))]),oI 29 (.app 7 64 (.agg [(.str []),(.str []),(.int .i64 0),(.bool false),(.bool false),(.int .i64 0),(.int .i64 0)]) (.t 26) (.t 28)),oM 3 29] none [4,3,0])))) (.region [oM 14 4,oI 15 (.bin .add (.t 14) (.c (.int .i64 1))),oM 4 15] none [4,3,0])))
def ZnD:Zv:=Zfe
def Zf4:=xw ZnD Zfe rfl
def ZeW:Zv:=(.seq (.region [oI 2 (.mov (.c (.lst true [])))] none [0]) (.seq (.region [oI 3 (.mov (.c (.lst true [])))] none [3,0]) (.seq (.seq (.region [oI 4 (.mov (.c (.int .i64 0)))] none [4,3,0]) (.block 0 (.loop [4,3,0] ZnD))) ZqR)))
def Zjm:Zam:=⟨[(.tmp 2)],ZeW⟩
theorem ZBG:FC 7=some Zjm:=by kernel_rfl
theorem ZfZ:Zjm.body=ZeW:=rfl
theorem Zf1:Zjm.res=[(.tmp 2)]:=rfl
noncomputable def Zim (m:Nat) (tm:Tms) (σ:Za):Option (AVal×Za):=(Za4 m Zjm (ZcK FC PR BY m ZqR (Xah (Zbt 0) (evL FC PR BY m [4,3,0] ZnD tm σ))))
def Zoi:Zv:=(.seq (.region [oI 0 (.mov (.c (.bool false)))] none []) (.seq (.region [oI 2 (.build [(.str []),(.lst true []),(.int .i64 0),(.bool false),(.str []),(.int .i64 0),(.lst true []),(.int .i64 0),(.int .i64 0),(.int .i64 0)] [(2,1,(.c (.int .i64 2))),(4,1,(.c (.str [120])))]),oI 3 (.build [(.str []),(.int .i64 0),(.bool false),(.bool false),(.int .i64 0),(.int .i64 0)] [(2,1,(.c (.bool true)))]),oI 4 (.build [(.str []),(.str []),(.int .i64 0),(.bool false),(.bool false),(.int .i64 0),(.int .i64 0)] [(0,1,(.c (.str [120]))),(1,6,(.t 3))]),oI 5 (.build [(.str []),(.int .i64 0),(.bool false),(.bool false),(.int .i64 0),(.int .i64 0)] [(1,1,(.c (.int .i64 1))),(5,1,(.c (.int .i64 7)))]),oI 6 (.build [(.str []),(.str []),(.int .i64 0),(.bool false),(.bool false),(.int .i64 0),(.int .i64 0)] [(0,1,(.c (.str [121]))),(1,6,(.t 5))]),oI 7 (.build [(.str []),(.int .i64 0),(.bool false),(.bool false),(.int .i64 0),(.int .i64 0)] [(5,1,(.c (.int .i64 3)))]),oI 8 (.build [(.str []),(.str []),(.int .i64 0),(.bool false),(.bool false),(.int .i64 0),(.int .i64 0)] [(0,1,(.c (.str [121]))),(1,6,(.t 7))]),oI 9 (.bslice false 7 3 (.agg [(.str []),(.str []),(.int .i64 0),(.bool false),(.bool false),(.int .i64 0),(.int .i64 0)]) [(0,(.t 4)),(1,(.t 6)),(2,(.t 8))]),oI 10 (.call 8 31 false [(.t 2),(.t 9)]),oM 1 10] none [1]) (.seq (.region [oM 11 1,oI 12 (.len (.t 11)),oI 13 (.bin .eql (.t 12) (.c (.int .i64 1))),oM 14 13,⟨(some 15),(.mov (.t 1)),(some (14,true)),[]⟩,⟨(some 16),(.iaddr 15 (.t 15) (.c (.int .i64 0))),(some (14,true)),[]⟩,⟨(some 17),(.faddr 0 (.t 16)),(some (14,true)),[]⟩,⟨(some 18),(.ld none (.t 17)),(some (14,true)),[]⟩,⟨(some 19),(.bin .eql (.t 18) (.c (.str [121]))),(some (14,true)),[]⟩,oI 20 (.pick (.t 14) (.t 19) (.c (.bool false))),oM 21 20,⟨(some 22),(.mov (.t 1)),(some (21,true)),[]⟩,⟨(some 23),(.iaddr 15 (.t 22) (.c (.int .i64 0))),(some (21,true)),[]⟩,⟨(some 24),(.faddr 1 (.t 23)),(some (21,true)),[]⟩,⟨(some 25),(.faddr 10 (.t 24)),(some (21,true)),[]⟩,⟨(some 26),(.ld none (.t 25)),(some (21,true)),[]⟩,⟨(some 27),(.bin .eql (.t 26) (.c (.int .i64 1))),(some (21,true)),[]⟩,oI 28 (.pick (.t 21) (.t 27) (.c (.bool false))),oM 29 28,⟨(some 30),(.mov (.t 1)),(some (29,true)),[]⟩,⟨(some 31),(.iaddr 15 (.t 30) (.c (.int .i64 0))),(some (29,true)),[]⟩,⟨(some 32),(.faddr 1 (.t 31)),(some (29,true)),[]⟩,⟨(some 33),(.faddr 12 (.t 32)),(some (29,true)),[]⟩,⟨(some 34),(.ld none (.t 33)),(some (29,true)),[]⟩,⟨(some 35),(.len (.t 34)),(some (29,true)),[]⟩,⟨(some 36),(.bin .eql (.t 35) (.c (.int .i64 2))),(some (29,true)),[]⟩,oI 37 (.pick (.t 29) (.t 36) (.c (.bool false))),oM 38 37,⟨(some 39),(.mov (.t 1)),(some (38,true)),[]⟩,⟨(some 40),(.iaddr 15 (.t 39) (.c (.int .i64 0))),(some (38,true)),[]⟩,⟨(some 41),(.faddr 1 (.t 40)),(some (38,true)),[]⟩,⟨(some 42),(.faddr 12 (.t 41)),(some (38,true)),[]⟩,⟨(some 43),(.ld none (.t 42)),(some (38,true)),[]⟩,⟨(some 44),(.iaddr 1 (.t 43) (.c (.int .i64 0))),(some (38,true)),[]⟩,⟨(some 45),(.ld none (.t 44)),(some (38,true)),[]⟩,⟨(some 46),(.bin .eql (.t 45) (.c (.int .i64 3))),(some (38,true)),[]⟩,oI 47 (.pick (.t 38) (.t 46) (.c (.bool false))),oM 0 47] none [0]) .ret)))
def ZqL:Zam:=⟨[(.tmp 0)],Zoi⟩
theorem ZEj:FC 9=some ZqL:=by kernel_rfl
theorem ZFX:ZqL.body=Zoi:=rfl
theorem ZAZ:ZqL.res=[(.tmp 0)]:=rfl
end
section
def wH (h:Zaa):Zaa:={ h with sub:={ h.sub with qos:=Zc9 h.sub.qos 0 2 } }
def Z3 (hits:List Zaa):List Zaa:=(hits.take 30).map wH
def hcT (i:Int) (S:AVal):List AVal->Tms
 | []=>[(4,.int .i64 i),(3,.lst true []),(0,S)]
 | x::xs=>[(4,.int .i64 i),(3,.sl 0 0 0 (x::xs).length),(0,S)]
theorem ZmR (i:Int) (S:AVal) {X:List AVal} (h:0 < X.length):hcT i S X=[(4,.int .i64 i),(3,.sl 0 0 0 X.length),(0,S)]:=by
 cases X with
 | nil=>simp at h
 | cons x xs=>rfl
theorem ZzL (hits:List Zaa) (i:Int) (X:List AVal) (h:¬i < (hits.length:Int)\/¬i < 30):Zim 0 (hcT i (.lst false (hits.map ZA)) X) (Zcl 7 X)=some (ZdQ X,Zcl 7 X):=by
 have hl:(hits.map ZA).length=hits.length:=XL ..
 unfold Zim
 rw [Zbe]
 have hh:(if i < (hits.length:Int) then decide (i < 30) else false)=false:=by
  split
  ·rename_i h1
   have : ¬i < 30:=h.resolve_left (by simpa using h1)
   simp [this]
  ·rfl
 generalize hits.map ZA=S at *
 cases X with
 | nil =>
  rw [ZpT,Zdp]
  unfold hcT
  by_cases c0:i < (hits.length:Int)
  ·have c1:¬i < 30:=h.resolve_left (by simpa using c0)
   simp -implicitDefEqProofs only [EQA,ZE,ZB,ZG,ZC,ZF,ZD,ZP,ZS,ZQ,ZN,ZL,ZM,ZO,ZT,ZR,implies_true,forall_const,Xk,Xl,Xo,Xe,Xg,Xm,Xj,ZH,ZK,unA,Zu,Zz,unG,reduceCtorEq,Zo,decide_eq_true_eq,Xh,Xc,ite_self,↓reduceIte,Zy,ZI,gcT,gcA,Zm,Zf,Zd,Ze,Zk,Zc,Zl,Zg,Zp,Xd,ZfZ,ZeW,Zf1,Zgk,Zfk,Zf4,Zfe,Zr,Zh,Zi,Zb,Zx,ZJ,c0,c1,hl]
   try (simp [Zay,gcA,Zm,Zf,ZZ,Z6,Zd,Ze,Zk,Zc,Zl,ZW,Zs,Zg,Zp,Xd])
  ·simp -implicitDefEqProofs only [EQA,ZE,ZB,ZG,ZC,ZF,ZD,ZP,ZS,ZQ,ZN,ZL,ZM,ZO,ZT,ZR,implies_true,forall_const,Xk,Xl,Xo,Xe,Xg,Xm,Xj,ZH,ZK,unA,Zu,Zz,unG,reduceCtorEq,Zo,decide_eq_true_eq,Xh,Xc,ite_self,↓reduceIte,Zy,ZI,gcT,gcA,Zm,Zf,Zd,Ze,Zk,Zc,Zl,Zg,Zp,Xd,ZfZ,ZeW,Zf1,Zgk,Zfk,Zf4,Zfe,Zr,Zh,Zi,Zb,Zx,ZJ,c0,hl]
   try (simp [Zay,gcA,Zm,Zf,ZZ,Z6,Zd,Ze,Zk,Zc,Zl,ZW,Zs,Zg,Zp,Xd])
 | cons x xs =>
  rw [Zoq,ZgI]
  have hXp:0 < (x::xs).length:=by simp
  rw [ZmR _ _ hXp]
  generalize x::xs=X at *
  by_cases c0:i < (hits.length:Int)
  ·have c1:¬i < 30:=h.resolve_left (by simpa using c0)
   simp -implicitDefEqProofs only [EQA,ZE,ZB,ZG,ZC,ZF,ZD,ZP,ZS,ZQ,ZN,ZL,ZM,ZO,ZT,ZR,implies_true,forall_const,Xk,Xl,Xo,Xe,Xg,Xm,Xj,ZH,ZK,unA,Zu,Zz,unG,reduceCtorEq,Zo,decide_eq_true_eq,Xh,Xc,ite_self,↓reduceIte,Zy,ZI,gcT,gcA,Zm,Zf,Zd,Ze,Zk,Zc,Zl,Zg,Zp,Xd,ZfZ,ZeW,Zf1,Zgk,Zfk,Zf4,Zfe,Zr,Zh,Zi,Zb,Zx,ZJ,c0,c1,hl]
   try (simp [Zay,gcA,Zm,Zf,ZZ,Z6,Zd,Ze,Zk,Zc,Zl,ZW,Zs,Zg,Zp,Xd])
  ·simp -implicitDefEqProofs only [EQA,ZE,ZB,ZG,ZC,ZF,ZD,ZP,ZS,ZQ,ZN,ZL,ZM,ZO,ZT,ZR,implies_true,forall_const,Xk,Xl,Xo,Xe,Xg,Xm,Xj,ZH,ZK,unA,Zu,Zz,unG,reduceCtorEq,Zo,decide_eq_true_eq,Xh,Xc,ite_self,↓reduceIte,Zy,ZI,gcT,gcA,Zm,Zf,Zd,Ze,Zk,Zc,Zl,Zg,Zp,Xd,ZfZ,ZeW,Zf1,Zgk,Zfk,Zf4,Zfe,Zr,Zh,Zi,Zb,Zx,ZJ,c0,hl]
   try (simp [Zay,gcA,Zm,Zf,ZZ,Z6,Zd,Ze,Zk,Zc,Zl,ZW,Zs,Zg,Zp,Xd])
theorem Zze (hits:List Zaa):∀ (r:List Zaa) (i:Nat) (acc:List Zaa),(hits.take 30).drop i=r->acc.length<=i->i<=30 ->
  Zim 0 (hcT i (.lst false (hits.map ZA)) (acc.map ZA)) (Zcl 7 (acc.map ZA))=some (ZdQ ((acc++r.map wH).map ZA),Zcl 7 ((acc++r.map wH).map ZA))
 | [],i,acc,h,ha,hi=>by
  rw [Wx,X9] at h
  rw [XS,X2]
  exact ZzL hits i (acc.map ZA) (by omega)
 | x::r,i,acc,h,ha,hi=>by
  have hd:=Zbn h
  have hlt:i < min 30 hits.length:=by have:=hd.2.2;rwa [X9] at this
  have ih:=Zze hits r (i+1) (acc++[wH x]) hd.2.1 (by simp;omega) (by omega)
  have hat:hits[i]?=some x:=by
   have:=hd.1
   rw [X8] at this
   rw [if_pos (by omega)] at this
   exact this
  have h1:(i:Int) < (hits.length:Int):=by omega
  have h2:(i:Int) < 30:=by omega
  have hl:(hits.map ZA).length=hits.length:=XL ..
  have e1:∀ (σ:Za) (b:Bool) (kk:IntKind),ZaG σ 7 (.lst b (hits.map ZA)) (.int kk (i:Int))=some (.iptr [.str x.client,.str x.sub.filter,.int .i64 x.sub.qos,.bool x.sub.noLocal,.bool x.sub.asPublished,.int .i64 x.sub.handling,.int .i64 x.sub.id] 0,σ,{}):=fun σ b kk=>iad hat ZA (k:=7) rfl σ b kk
  have hw:IntKind.i64.wrap ((i:Int)+1)=((i+1:Nat):Int):=by rw [Zcm (by omega) (by omega)];rfl
  have hW:=fun σ sq own view=>ZnZ σ sq own view x.sub.qos
  rw [Wt,WO,<-Xw] at ih
  generalize hR:ZdQ ((acc++(x::r).map wH).map ZA)=R at *
  generalize hR2:Zcl 7 ((acc++(x::r).map wH).map ZA)=R2 at *
  have hXl:(acc.map ZA).length=acc.length:=by simp
  rw [Wl,Xw,XS] at ih
  have hwx:ZA (wH x)=.agg [.str x.client,.str x.sub.filter,.int .i64 (Zc9 x.sub.qos 0 2),.bool x.sub.noLocal,.bool x.sub.asPublished,.int .i64 x.sub.handling,.int .i64 x.sub.id]:=rfl
  rw [hwx] at ih
  have hk:∀ q:Int,kOk 7 [AVal.agg [.str x.client,.str x.sub.filter,.int .i64 q,.bool x.sub.noLocal,.bool x.sub.asPublished,.int .i64 x.sub.handling,.int .i64 x.sub.id]]=true:=fun _=>rfl
  clear hd h hR hR2 hat
  generalize hits.map ZA=S at *
  unfold Zim at ih ⊢
  rw [Zbe]
  cases hids:acc.map ZA with
  | nil =>
   rw [hids,XI,ZgI] at ih
   rw [Zdp]
   unfold hcT at ih ⊢
   simp only [Xq,Xy,XK] at ih
   simp -implicitDefEqProofs only [EQA,ZE,ZB,ZG,ZC,ZF,ZD,ZP,ZS,ZQ,ZN,ZL,ZM,ZO,ZT,ZR,implies_true,forall_const,Xk,Xl,Xo,Xe,Xg,Xm,Xj,ZH,ZK,unA,Zu,Zz,unG,reduceCtorEq,Zo,decide_eq_true_eq,Xh,Xc,ite_self,↓reduceIte,Zy,ZI,gcT,gcA,Zm,Zf,Zd,Ze,Zk,Zc,Zl,Zg,Zp,Xd,ZfZ,ZeW,Zf1,Zgk,Zfk,Zf4,Zfe,Zr,Zh,Zi,Zb,Zx,ZJ,h1,h2,hl,e1,hw,hW,hk,Zae,AVal.cells,Z1,Xi,Xp,Zap,Zat,ZaU,Zav,XZ,X3,Xi,Xp,Xq,Xy,ZaD,ZaE,ZaI,ZaJ,ZaL,XA,XD,Zaf,Zai,Zak,Zau,ZaA,Zaz,ZaH,ZaM,Zaq,ZaK,XJ,XR,Xi,Xp,XF,Zaj,viewAs,Zao,Zad,Zag,ZV,XM,Wj,X0,Xj,Xe]
   exact ih
  | cons y ys =>
   rw [hids] at ih hXl
   have hXp:0 < (y::ys).length:=by simp
   have hXq:∀ z:AVal,0 < (y::ys++[z]).length:=fun z=>by simp
   rw [ZmR _ _ (hXq _),Zde (hXq _)] at ih
   rw [ZmR _ _ hXp,Zde hXp]
   generalize y::ys=X at *
   have k2:(X.length+1)*64<=140737488355328:=by omega
   simp only [XE,Xq,Xy,XK] at ih
   simp -implicitDefEqProofs only [EQA,ZE,ZB,ZG,ZC,ZF,ZD,ZP,ZS,ZQ,ZN,ZL,ZM,ZO,ZT,ZR,implies_true,forall_const,Xk,Xl,Xo,Xe,Xg,Xm,Xj,ZH,ZK,unA,Zu,Zz,unG,reduceCtorEq,Zo,decide_eq_true_eq,Xh,Xc,ite_self,↓reduceIte,Zy,ZI,gcT,gcA,Zm,Zf,Zd,Ze,Zk,Zc,Zl,Zg,Zp,Xd,ZfZ,ZeW,Zf1,Zgk,Zfk,Zf4,Zfe,Zr,Zh,Zi,Zb,Zx,ZJ,h1,h2,hl,e1,hw,hW,hk,k2,Zae,AVal.cells,Z1,Xi,Xp,Zap,Zat,ZaU,Zav,XZ,X3,Xi,Xp,Xq,Xy,ZaD,ZaE,ZaI,ZaJ,ZaL,XA,XD,Zaf,Zai,Zak,Zau,ZaA,Zaz,ZaH,ZaM,Zaq,ZaK,XJ,XR,Xi,Xp,XF,Zaj,viewAs,Zao,Zad,Zag,ZV,XM,Wj,X0,Xj,Xe]
   exact ih
theorem ZEU (hits:List Zaa):E 7 [.lst false (hits.map ZA)] []=some (ZdQ ((Z3 hits).map ZA),Zcl 7 ((Z3 hits).map ZA)):=by
 have h:=Zze hits (hits.take 30) 0 [] rfl (by simp) (by simp)
 have z:((0:Nat):Int)=0:=rfl
 rw [z,XI,XS,Zdp] at h
 change _=some (ZdQ ((Z3 hits).map ZA),Zcl 7 ((Z3 hits).map ZA)) at h
 unfold hcT at h
 generalize hits.map ZA=S at *
 unfold Zim at h
 rw [ZcU (by rfl) ZBG]
 simp -implicitDefEqProofs only [EQA,ZE,ZB,ZG,ZC,ZF,ZD,ZP,ZS,ZQ,ZN,ZL,ZM,ZO,ZT,ZR,implies_true,forall_const,Xk,Xl,Xo,Xe,Xg,Xm,Xj,ZH,ZK,unA,Zu,Zz,unG,reduceCtorEq,Zo,decide_eq_true_eq,Xh,Xc,ite_self,↓reduceIte,Zy,ZI,gcT,gcA,Zm,Zf,Zd,Ze,Zk,Zc,Zl,Zg,Zp,Xd,ZfZ,ZeW,Zf1,Zgk,Zfk,Zf4,Zfe,Zr,Zh,Zi,Zb,Zx,ZJ,AVal.cells]
 exact h
theorem ZFK (hits:List Zaa) (σ:Za) (sq own:Nat):Z4 E BY σ sq 7 own true [.lst false (hits.map ZA)]=some (.lst false ((Z3 hits).map ZA),σ,{}) :=
 Zyi (ZEU hits) (by kernel_rfl) rfl rfl σ sq own
end
section
def ZcE (n:ZU) (c:Zt) (hits:List Zaa):List Z5:=(hits.filter fun h=>Zdt n h && h.client == c).map (·.sub)
theorem Zgq {β:Type} (c k:Zt) (l:β) (G:List (Zt×β)):((k,l)::G).lookup c=if c=k then some l else G.lookup c:=by
 rw [XJ]
 by_cases e:c=k
 ·subst e;simp
 ·have : (c == k)=false:=by simpa using e
  rw [this,if_neg e]
theorem ZxL (c s) (c':Zt):∀ G:Grp,(Zcq G c s).lookup c'=if c'=c then some ((G.lookup c).getD []++[s]) else G.lookup c'
 | []=>by simp only [Zcq,Zgq,XR,Option.getD_none,XI]
 | (k,l)::G=>by
  have ih:=ZxL c s c' G
  unfold Zcq
  by_cases h:c=k
  ·subst h
   rw [if_pos rfl,Zgq,Zgq,Zgq,if_pos rfl]
   by_cases e:c'=c
   ·rw [if_pos e,if_pos e];rfl
   ·rw [if_neg e,if_neg e,if_neg e]
  ·rw [if_neg h,Zgq,Zgq,Zgq,if_neg h,ih]
   by_cases e:c'=k
   ·subst e
    have hne:c'≠c:=fun e=>h e.symm
    rw [if_pos rfl,if_neg hne,if_pos rfl]
   ·rw [if_neg e,if_neg e]
theorem ZnU (n:ZU) (c:Zt) (x:Zaa) (r:List Zaa):ZcE n c (x::r)=if Zdt n x && x.client == c then x.sub::ZcE n c r else ZcE n c r:=by
 unfold ZcE
 rw [Xbe]
 split <;> rfl
theorem Zm2 (n:ZU) (c:Zt):∀ (hits:List Zaa) (G:Grp),(Zc6 n G hits).lookup c=if (G.lookup c).isNone && (ZcE n c hits).isEmpty then none else some ((G.lookup c).getD []++ZcE n c hits)
 | [],G=>by
  show G.lookup c=_
  cases h:G.lookup c <;> simp [ZcE]
 | x::r,G=>by
  have ih:=Zm2 n c r (if Zdt n x then Zcq G x.client x.sub else G)
  show (Zc6 n (if Zdt n x then Zcq G x.client x.sub else G) r).lookup c=_
  rw [ih,ZnU]
  by_cases hw:Zdt n x=true
  ·rw [if_pos hw,ZxL,hw,W3]
   by_cases e:c=x.client
   ·subst e
    simp
   ·have e':(x.client == c)=false:=by simpa using fun h=>e h.symm
    rw [if_neg e,e']
    simp
  ·rw [if_neg hw]
   have : (Zdt n x && x.client == c)=false:=by rw [Bool.and_eq_false_iff];exact XH (by simpa using hw)
   rw [this,if_neg Bool.false_ne_true]
theorem ZFs {β:Type} {G:List (Zt×β)} {c:Zt}:c ∈ G.map (·.1)↔(G.lookup c).isSome:=by
 induction G with
 | nil=>simp
 | cons p G ih =>
  obtain ⟨k,l⟩:=p
  rw [Xw,XP,XJ]
  by_cases e:c=k
  ·subst e;simp
  ·have : (c == k)=false:=by simpa using e
   simp [this,e,ih]
def Zf7 (n:ZU) (hits:List Zaa):List Zt:=(Zc6 n [] hits).map (·.1)
theorem ZuM (n:ZU) (hits:List Zaa) (c:Zt):c ∈ Zf7 n hits↔ZcE n c hits≠[]:=by
 unfold Zf7
 rw [ZFs,Zm2]
 cases h:ZcE n c hits <;> simp
theorem ZDi (n:ZU) (hits:List Zaa):(Zf7 n hits).Nodup:=(Zi4 n hits [] 0 ⟨by simp,by simp,by simp⟩).nd
theorem ZwD (n:ZU) (hits:List Zaa):Zaw n hits=(ZdG (Zf7 n hits)).map fun c=>(c,ZcE n c hits):=by
 unfold Zaw ZdO
 apply WZ
 intro c hc
 have hc:=(ZuM n hits c).1 ((Zej _).mem_iff.1 hc)
 rw [Zm2]
 cases h:ZcE n c hits with
 | nil=>exact absurd h hc
 | cons s l=>simp
theorem ZlE:∀ (l:List Z5) (q:Int),(q<=byQ q l/\∀ s ∈ l,s.qos<=byQ q l)/\(byQ q l=q\/∃ s ∈ l,s.qos=byQ q l)
 | [],q=>⟨⟨Int.le_refl _,by simp⟩,XH rfl⟩
 | s::l,q=>by
  obtain ⟨⟨h1,h2⟩,h3⟩:=ZlE l (ZdX q s.qos)
  have e:byQ q (s::l)=byQ (ZdX q s.qos) l:=rfl
  rw [e]
  have hm:q<=ZdX q s.qos/\s.qos<=ZdX q s.qos/\(ZdX q s.qos=q\/ZdX q s.qos=s.qos):=by unfold ZdX;split <;> omega
  refine ⟨⟨by omega,?_⟩,?_⟩
  ·intro x hx
   rcases XP.1 hx with rfl | hx
   ·omega
   ·exact h2 x hx
  ·rcases h3 with h3 | ⟨x,hx,h3⟩
   ·rcases hm.2.2 with h | h
    ·exact XH (by omega)
    ·exact XO ⟨s,by simp,by omega⟩
   ·exact XO ⟨x,by simp [hx],h3⟩
def ZjY (l:List Z5):Int:=byQ ((l.map (·.qos)).headD 0) l
theorem ZAi {l:List Z5} (hl:l≠[]):(∀ s ∈ l,s.qos<=ZjY l)/\∃ s ∈ l,s.qos=ZjY l:=by
 cases l with
 | nil=>exact absurd rfl hl
 | cons s l =>
  obtain ⟨⟨h1,h2⟩,h3⟩:=ZlE (s::l) s.qos
  refine ⟨h2,?_⟩
  rcases h3 with h3 | h3
  ·exact ⟨s,by simp,h3.symm⟩
  ·exact h3
theorem Zxi (n:ZU):∀ (l:List Z5) (k:Bool),byK n k l=(k || (n.retain && l.any (·.asPublished)))
 | [],k=>by simp [byK]
 | s::l,k=>by
  have ih:=Zxi n l (Zgb n k s)
  show byK n (Zgb n k s) l=_
  rw [ih]
  unfold Zgb
  cases k <;> cases n.retain <;> simp
end
section
def ZfS:Zv:=(.seq (.seq (.region [oM 21 5,oM 22 0,oI 23 (.len (.t 22)),oI 24 (.bin .lss (.t 21) (.t 23)),oM 25 24,⟨(some 26),(.mov (.t 0)),(some (25,true)),[]⟩,⟨(some 27),(.mov (.t 5)),(some (25,true)),[]⟩,⟨(some 28),(.iaddr 1 (.t 26) (.t 27)),(some (25,true)),[]⟩,⟨(some 29),(.ld none (.t 28)),(some (25,true)),[]⟩,⟨(some 30),(.mov (.t 1)),(some (25,true)),[]⟩,⟨(some 31),(.bin .eql (.t 29) (.t 30)),(some (25,true)),[]⟩,oI 32 (.pick (.t 25) (.t 31) (.c (.bool false)))] none [32,5,1,0]) (.cond (.t 32) (.seq (.region [oM 33 0,oM 4 33] none [4]) .ret) .skip)) (.seq (.region [oI 6 (.mov (.c (.lst true [])))] none [6,5,1,0]) (.seq (.region [oM 34 6,oM 35 0,oM 36 5,oI 37 (.slice 1 (.t 35) none (some (.t 36)) none),oI 38 (.app 1 16 (.str []) (.t 34) (.t 37)),oM 39 1,oI 40 (.bslice false 1 1 (.str []) [(0,(.t 39))]),oI 41 (.app 1 16 (.str []) (.t 38) (.t 40)),oM 42 0,oM 43 5,oI 44 (.slice 1 (.t 42) (some (.t 43)) none none),oI 45 (.app 1 16 (.str []) (.t 41) (.t 44)),oM 4 45] (some [(3,6),(4,6),(3,10),(4,10),(6,10),(7,10)]) [4]) .ret)))
def ZlT:Zv:=ZfS
def Zip:=xw ZlT ZfS rfl
def Zgj:Zv:=(.seq (.seq (.region [oM 7 5,oM 8 0,oI 9 (.len (.t 8)),oI 10 (.bin .lss (.t 7) (.t 9)),oM 11 10,⟨(some 12),(.mov (.t 0)),(some (11,true)),[]⟩,⟨(some 13),(.mov (.t 5)),(some (11,true)),[]⟩,⟨(some 14),(.iaddr 1 (.t 12) (.t 13)),(some (11,true)),[]⟩,⟨(some 15),(.ld none (.t 14)),(some (11,true)),[]⟩,⟨(some 16),(.mov (.t 1)),(some (11,true)),[]⟩,⟨(some 17),(.bin .lss (.t 15) (.t 16)),(some (11,true)),[]⟩,oI 18 (.pick (.t 11) (.t 17) (.c (.bool false)))] none [18,5,1,0]) (.cond (.t 18) .skip (.exit 0))) (.block 1 (.region [oM 19 5,oI 20 (.bin .add (.t 19) (.c (.int .i64 1))),oM 5 20] none [5,1,0])))
def ZlQ:Zv:=Zgj
def Zh8:=xw ZlQ Zgj rfl
def Zgn:Zv:=(.seq (.region [oI 4 (.mov (.c (.lst true [])))] none [1,0]) (.seq (.region [oI 5 (.mov (.c (.int .i64 0)))] none [5,1,0]) (.seq (.block 0 (.loop [5,1,0] ZlQ)) ZlT)))
def Zi5:Zam:=⟨[(.tmp 4)],Zgn⟩
theorem ZAb:FC 26=some Zi5:=by kernel_rfl
theorem ZiC:Zi5.body=Zgn:=rfl
theorem Zis:Zi5.res=[(.tmp 4)]:=rfl
noncomputable def Zit (m:Nat) (tm:Tms) (σ:Za):Option (AVal×Za):=(Za4 m Zi5 (ZcK FC PR BY m ZlT (Xah (Zbt 0) (evL FC PR BY m [5,1,0] ZlQ tm σ))))
end
section
theorem ZAd (a b:Int):E 28 [.int .i64 a,.int .i64 b] []=some (.int .i64 (Zcv b a),[]):=by
 rw [ZcU (by rfl) ZEB]
 unfold Zcv
 by_cases h:a < b
 ·rw [if_pos h]
  simp -implicitDefEqProofs only [EQA,ZE,ZB,ZG,ZC,ZF,ZD,ZP,ZS,ZQ,ZN,ZL,ZM,ZO,ZT,ZR,implies_true,forall_const,Xk,Xl,Xo,Xe,Xg,Xm,Xj,ZH,ZK,unA,Zu,Zz,unG,reduceCtorEq,Zo,decide_eq_true_eq,Xh,Xc,ite_self,↓reduceIte,Zy,ZI,gcT,gcA,Zm,Zf,Zd,Ze,Zk,Zc,Zl,Zg,Zp,Xd,Zxt,ZjN,Zw3,Zr,Zh,Zi,Zb,Zx,ZJ,h]
 ·rw [if_neg h]
  simp -implicitDefEqProofs only [EQA,ZE,ZB,ZG,ZC,ZF,ZD,ZP,ZS,ZQ,ZN,ZL,ZM,ZO,ZT,ZR,implies_true,forall_const,Xk,Xl,Xo,Xe,Xg,Xm,Xj,ZH,ZK,unA,Zu,Zz,unG,reduceCtorEq,Zo,decide_eq_true_eq,Xh,Xc,ite_self,↓reduceIte,Zy,ZI,gcT,gcA,Zm,Zf,Zd,Ze,Zk,Zc,Zl,Zg,Zp,Xd,Zxt,ZjN,Zw3,Zr,Zh,Zi,Zb,Zx,ZJ,h]
theorem Zyg (σ:Za) (sq own:Nat) (view:Bool) (a b:Int):Z4 E BY σ sq 28 own view [.int .i64 a,.int .i64 b]=some (.int .i64 (Zcv b a),σ,{}) :=
 ZfL (ZAd a b) (by kernel_rfl) (by simp -implicitDefEqProofs only [Zeg,Zet,ZE,ZB,ZG,Zen,ZC,ZF,Zeq,ZD,eq_self,implies_true,Xu,Zr,Zh,Zi,Zb,Zx,Zr]) (by simp -implicitDefEqProofs only [Zeg,Zet,ZE,ZB,ZG,Zen,ZC,ZF,Zeq,ZD,eq_self,implies_true,Xu,Zr,Zh,Zi,Zb,Zx,Zr]) rfl (fun _=>rfl) _ _ _ _
def ZcI (l:List Int) (x:Int):List Int:=l.takeWhile (fun y=>decide (y<=x))++x::l.dropWhile (fun y=>decide (y<=x))
def twI (l:List Int) (x:Int):Nat:=(l.takeWhile fun y=>decide (y<=x)).length
theorem Zyc (l:List Int) (x:Int):twI l x<=l.length:=(List.takeWhile_sublist _).length_le
theorem Zsr (l:List Int) (x:Int):l.take (twI l x)++x::l.drop (twI l x)=ZcI l x:=by
 have h:=List.takeWhile_append_dropWhile (p:=fun y=>decide (y<=x)) (l:=l)
 unfold ZcI twI
 congr 1
 ·conv=>lhs;arg 2;rw [<-h]
  exact List.take_left ..
 ·congr 1
  conv=>lhs;arg 2;rw [<-h]
  exact List.drop_left ..
theorem ZxG (l:List Int) (x:Int) (i:Nat) (hi:i<=l.length) (hl:l.length<=1000000) (h:¬(i:Int) < (l.length:Int)\/∃ y,l[i]?=some y/\¬y<=x) :
  Zhz 0 [(5,.int .i64 (i:Int)),(1,.int .i64 x),(0,.lst false (l.map (AVal.int .i64)))] []=some (.sl 0 0 0 (l.length+1),[.row 0 1 ((l.take i++x::l.drop i).map (AVal.int .i64))]):=by
 have s1:=fun σ kk=>ZsR σ 1 l (AVal.int .i64) kk (i:Int) (by omega) (by omega)
 have s2:∀ (σ:Za) (kk:IntKind),ZcD σ 1 (.lst false (l.map (AVal.int .i64))) (some (.int kk (i:Int))) none none=some (.lst false ((l.drop i).map (AVal.int .i64)),σ,{}):=by
  intro σ kk
  have : (i:Int)<=(l.length:Int):=by omega
  have h0:(0:Int)<=i:=by omega
  simp [ZcD,Zo,Zbj,Zem,h0,hi,this,XbD]
  exact ⟨XO (by cases l <;> rfl),by rw [Wk (by simp)]⟩
 rw [Xau] at s1
 have hA:(l.take i).length=i:=by rw [X9];omega
 have hB:(l.drop i).length=l.length - i:=Xam ..
 have hN:i+1+(l.length - i)=l.length+1:=by omega
 have k1:∀ L:List Int,kOk 1 (L.map (AVal.int .i64))=true:=fun L=>by cases L <;> rfl
 have k2:∀ y:Int,kOk 1 [AVal.int .i64 y]=true:=fun _=>rfl
 have eL:(l.take i++x::l.drop i).map (AVal.int .i64)=(l.take i).map (AVal.int .i64)++[AVal.int .i64 x]++(l.drop i).map (AVal.int .i64):=by simp
 rw [eL]
 have hA':((l.take i).map (AVal.int .i64)).length=i:=by simp;omega
 have hB':((l.drop i).map (AVal.int .i64)).length=l.length - i:=by simp
 have ka:=k1 (l.take i)
 have kb:=k1 (l.drop i)
 have hL:(l.map (AVal.int .i64)).length=l.length:=by simp
 have n1:i*8<=140737488355328:=by omega
 have n2:(i+1)*8<=140737488355328:=by omega
 have n3:(i+1+(l.length - i))*8<=140737488355328:=by omega
 unfold Zhz
 rw [Zbe]
 rcases h with h | ⟨y,hy,h⟩
 ·generalize (l.take i).map (AVal.int .i64)=A at *
  generalize (l.drop i).map (AVal.int .i64)=B at *
  generalize l.map (AVal.int .i64)=L at *
  simp -implicitDefEqProofs only [EQA,ZE,ZB,ZG,ZC,ZF,ZD,ZP,ZS,ZQ,ZN,ZL,ZM,ZO,ZT,ZR,implies_true,forall_const,Xk,Xl,Xo,Xe,Xg,Xm,Xj,ZH,ZK,unA,Zu,Zz,unG,reduceCtorEq,Zo,decide_eq_true_eq,Xh,Xc,ite_self,↓reduceIte,Zy,ZI,gcT,gcA,Zm,Zf,Zd,Ze,Zk,Zc,Zl,Zg,Zp,Xd,ZjH,Zhf,ZjI,Zjy,ZgJ,Zkl,Zhm,Zr,Zh,Zi,Zb,Zx,ZJ,h,hL,s1,s2,hA',hB',ka,kb,k2,n1,n2,n3,Zaj,viewAs,Zao,Zad,Zag,ZV,XM,Wj,X0,Zap,Zat,ZaU,Zav,XZ,X3,Xi,Xp,Xq,Xy,ZaD,ZaE,ZaI,ZaJ,ZaL,XA,XD,Zaf,Zai,Zak,Zau,ZaA,Zaz,ZaH,ZaM,Zaq,ZaK,XJ,XR,Xi,Xp,XF,XE,Xq,Xy,XK]
  try (simp [Zay,gcA,Zm,Zf,ZZ,Z6,Zd,Ze,Zk,Zc,Zl,ZW,Zs,Zg,Zp,Xd])
  all_goals omega
 ·have hlt:(i:Int) < (l.length:Int):=by have:=(Xf.1 hy).1;omega
  have e1:=iad hy (AVal.int .i64) (k:=1) rfl
  generalize (l.take i).map (AVal.int .i64)=A at *
  generalize (l.drop i).map (AVal.int .i64)=B at *
  generalize l.map (AVal.int .i64)=L at *
  simp -implicitDefEqProofs only [EQA,ZE,ZB,ZG,ZC,ZF,ZD,ZP,ZS,ZQ,ZN,ZL,ZM,ZO,ZT,ZR,implies_true,forall_const,Xk,Xl,Xo,Xe,Xg,Xm,Xj,ZH,ZK,unA,Zu,Zz,unG,reduceCtorEq,Zo,decide_eq_true_eq,Xh,Xc,ite_self,↓reduceIte,Zy,ZI,gcT,gcA,Zm,Zf,Zd,Ze,Zk,Zc,Zl,Zg,Zp,Xd,ZjH,Zhf,ZjI,Zjy,ZgJ,Zkl,Zhm,Zr,Zh,Zi,Zb,Zx,ZJ,h,hlt,e1,hL,s1,s2,hA',hB',ka,kb,k2,n1,n2,n3,Zaj,viewAs,Zao,Zad,Zag,ZV,XM,Wj,X0,Zap,Zat,ZaU,Zav,XZ,X3,Xi,Xp,Xq,Xy,ZaD,ZaE,ZaI,ZaJ,ZaL,XA,XD,Zaf,Zai,Zak,Zau,ZaA,Zaz,ZaH,ZaM,Zaq,ZaK,XJ,XR,Xi,Xp,XF,XE,Xq,Xy,XK]
  try (simp [Zay,gcA,Zm,Zf,ZZ,Z6,Zd,Ze,Zk,Zc,Zl,ZW,Zs,Zg,Zp,Xd])
  all_goals omega
theorem Zxl (l:List Int) (x:Int) (hl:l.length<=1000000):∀ (r:List Int) (i:Nat),l.drop i=r->i<=l.length ->
  Zhz 0 [(5,.int .i64 (i:Int)),(1,.int .i64 x),(0,.lst false (l.map (AVal.int .i64)))] []=some (.sl 0 0 0 (l.length+1),[.row 0 1 ((l.take (i+twI r x)++x::l.drop (i+twI r x)).map (AVal.int .i64))])
 | [],i,h,hi=>ZxG l x i hi hl (XH (Zf0 h))
 | y::r,i,h,hi=>by
  have hd:=Zbn h
  by_cases hy:y<=x
  ·have ih:=Zxl l x hl r (i+1) hd.2.1 hd.2.2
   have e:twI (y::r) x=twI r x+1:=by simp [twI,hy]
   rw [e,show i+(twI r x+1)=i+1+twI r x by omega]
   rw [<-ih]
   have h1:(i:Int) < (l.length:Int):=by have:=hd.2.2;omega
   have e1:=iad hd.1 (AVal.int .i64) (k:=1) rfl
   have hL:(l.map (AVal.int .i64)).length=l.length:=by simp
   have hw:IntKind.i64.wrap ((i:Int)+1)=((i+1:Nat):Int):=by rw [Zcm (by omega) (by omega)];rfl
   unfold Zhz
   generalize l.map (AVal.int .i64)=L at *
   rw [Zbe]
   simp -implicitDefEqProofs only [EQA,ZE,ZB,ZG,ZC,ZF,ZD,ZP,ZS,ZQ,ZN,ZL,ZM,ZO,ZT,ZR,implies_true,forall_const,Xk,Xl,Xo,Xe,Xg,Xm,Xj,ZH,ZK,unA,Zu,Zz,unG,reduceCtorEq,Zo,decide_eq_true_eq,Xh,Xc,ite_self,↓reduceIte,Zy,ZI,gcT,gcA,Zm,Zf,Zd,Ze,Zk,Zc,Zl,Zg,Zp,Xd,ZjH,Zhf,ZjI,Zjy,ZgJ,Zkl,Zhm,Zr,Zh,Zi,Zb,Zx,ZJ,h1,e1,hL,hw,hy]
  ·have e:twI (y::r) x=0:=by simp [twI,hy]
   rw [e,Wm]
   exact ZxG l x i hi hl (XO ⟨y,hd.1,hy⟩)
theorem Zz1 (l:List Int) (x:Int) (hl:l.length<=1000000):E 27 [.lst false (l.map (AVal.int .i64)),.int .i64 x] []=some (.sl 0 0 0 (ZcI l x).length,[.row 0 1 ((ZcI l x).map (AVal.int .i64))]):=by
 have h:=Zxl l x hl l 0 rfl (Xbk _)
 rw [XK,Zsr] at h
 have e:(ZcI l x).length=l.length+1:=by
  rw [<-Zsr]
  have:=Zyc l x
  simp only [XE,X9,Xq,Xam]
  omega
 rw [e]
 have z:((0:Nat):Int)=0:=rfl
 rw [z] at h
 unfold Zhz at h
 generalize (ZcI l x).map (AVal.int .i64)=R at *
 generalize l.map (AVal.int .i64)=L at *
 rw [ZcU (by rfl) ZBe]
 simp -implicitDefEqProofs only [EQA,ZE,ZB,ZG,ZC,ZF,ZD,ZP,ZS,ZQ,ZN,ZL,ZM,ZO,ZT,ZR,implies_true,forall_const,Xk,Xl,Xo,Xe,Xg,Xm,Xj,ZH,ZK,unA,Zu,Zz,unG,reduceCtorEq,Zo,decide_eq_true_eq,Xh,Xc,ite_self,↓reduceIte,Zy,ZI,gcT,gcA,Zm,Zf,Zd,Ze,Zk,Zc,Zl,Zg,Zp,Xd,ZjH,Zhf,ZjI,Zjy,ZgJ,Zkl,Zhm,Zr,Zh,Zi,Zb,Zx,ZJ]
 exact h
theorem ZA0 (σ:Za) (sq own:Nat) (f:Bool) (l:List Int) (x:Int) (hl:l.length<=1000000):Z4 E BY σ sq 27 own true [.lst f (l.map (AVal.int .i64)),.int .i64 x]=some (.lst false ((ZcI l x).map (AVal.int .i64)),σ,{}):=by
 rw [Zdr (by kernel_rfl) rfl]
 simp only [Xw,XS,Zal,ZaZ]
 rw [Zz1 l x hl]
 have : ZaC true 0 (some (.sl 0 0 0 (ZcI l x).length,[.row 0 1 ((ZcI l x).map (AVal.int .i64))]))=some (.lst false ((ZcI l x).map (AVal.int .i64)),[]):=by
  unfold ZaC
  rw [if_pos rfl,Zif (k:=1) (g:=0) (t:=0) (xs:=(ZcI l x).map (AVal.int .i64)) rfl (by simp),Wk (by simp)]
 rw [this]
 rfl
def twS (l:List Zt) (x:Zt):Nat:=(l.takeWhile fun y=>Op.bytesLess y x).length
def ZcW (l:List Zt) (x:Zt):List Zt:=if l[twS l x]?=some x then l else l.take (twS l x)++x::l.drop (twS l x)
def Zg1 (l:List Zt) (x:Zt) (i:Nat):AVal×Za:=if l[i]?=some x then (.lst false (l.map AVal.str),[]) else (.sl 0 0 0 (l.length+1),[.row 0 1 ((l.take i++x::l.drop i).map AVal.str)])
theorem Zw6 (l:List Zt) (x:Zt) (i:Nat) (hi:i<=l.length) (hl:l.length<=1000000) (h:¬(i:Int) < (l.length:Int)\/∃ y,l[i]?=some y/\Op.bytesLess y x=false) :
  Zit 0 [(5,.int .i64 (i:Int)),(1,.str x),(0,.lst false (l.map AVal.str))] []=some (Zg1 l x i):=by
 have s1:=fun σ kk=>ZsR σ 1 l AVal.str kk (i:Int) (by omega) (by omega)
 have s2:∀ (σ:Za) (kk:IntKind),ZcD σ 1 (.lst false (l.map AVal.str)) (some (.int kk (i:Int))) none none=some (.lst false ((l.drop i).map AVal.str),σ,{}):=by
  intro σ kk
  have : (i:Int)<=(l.length:Int):=by omega
  have h0:(0:Int)<=i:=by omega
  simp [ZcD,Zo,Zbj,Zem,h0,hi,this,XbD]
  exact ⟨XO (by cases l <;> rfl),by rw [Wk (by simp)]⟩
 rw [Xau] at s1
 have hN:i+1+(l.length - i)=l.length+1:=by omega
 have k1:∀ L:List Zt,kOk 1 (L.map AVal.str)=true:=fun L=>by cases L <;> rfl
 have k2:∀ y:Zt,kOk 1 [AVal.str y]=true:=fun _=>rfl
 have eL:(l.take i++x::l.drop i).map AVal.str=(l.take i).map AVal.str++[AVal.str x]++(l.drop i).map AVal.str:=by simp
 unfold Zg1
 rw [eL]
 have hA':((l.take i).map AVal.str).length=i:=by simp;omega
 have hB':((l.drop i).map AVal.str).length=l.length - i:=by simp
 have ka:=k1 (l.take i)
 have kb:=k1 (l.drop i)
 have hL:(l.map AVal.str).length=l.length:=by simp
 have n1:i*16<=140737488355328:=by omega
 have n2:(i+1)*16<=140737488355328:=by omega
 have n3:(i+1+(l.length - i))*16<=140737488355328:=by omega
 unfold Zit
 rw [Zbe]
 rcases h with h | ⟨y,hy,h⟩
 ·have h0:l[i]?=none:=XX (by omega)
  rw [h0,if_neg (by simp)]
  generalize (l.take i).map AVal.str=A at *
  generalize (l.drop i).map AVal.str=B at *
  generalize l.map AVal.str=L at *
  simp -implicitDefEqProofs only [EQA,ZE,ZB,ZG,ZC,ZF,ZD,ZP,ZS,ZQ,ZN,ZL,ZM,ZO,ZT,ZR,implies_true,forall_const,Xk,Xl,Xo,Xe,Xg,Xm,Xj,ZH,ZK,unA,Zu,Zz,unG,reduceCtorEq,Zo,decide_eq_true_eq,Xh,Xc,ite_self,↓reduceIte,Zy,ZI,gcT,gcA,Zm,Zf,Zd,Ze,Zk,Zc,Zl,Zg,Zp,Xd,ZiC,Zgn,Zis,Zip,ZfS,Zh8,Zgj,Zr,Zh,Zi,Zb,Zx,ZJ,h,hL,s1,s2,hA',hB',ka,kb,k2,n1,n2,n3,Zaj,viewAs,Zao,Zad,Zag,ZV,XM,Wj,X0,Zap,Zat,ZaU,Zav,XZ,X3,Xi,Xp,Xq,Xy,ZaD,ZaE,ZaI,ZaJ,ZaL,XA,XD,Zaf,Zai,Zak,Zau,ZaA,Zaz,ZaH,ZaM,Zaq,ZaK,XJ,XR,Xi,Xp,XF,XE,Xq,Xy,XK]
  try (simp [Zay,gcA,Zm,Zf,ZZ,Z6,Zd,Ze,Zk,Zc,Zl,ZW,Zs,Zg,Zp,Xd])
  all_goals omega
 ·have hlt:(i:Int) < (l.length:Int):=by have:=(Xf.1 hy).1;omega
  have e1:=iad hy AVal.str (k:=1) rfl
  rw [hy]
  by_cases hxy:y=x
  ·subst hxy
   rw [if_pos rfl]
   generalize (l.take i).map AVal.str=A at *
   generalize (l.drop i).map AVal.str=B at *
   generalize l.map AVal.str=L at *
   simp -implicitDefEqProofs only [EQA,ZE,ZB,ZG,ZC,ZF,ZD,ZP,ZS,ZQ,ZN,ZL,ZM,ZO,ZT,ZR,implies_true,forall_const,Xk,Xl,Xo,Xe,Xg,Xm,Xj,ZH,ZK,unA,Zu,Zz,unG,reduceCtorEq,Zo,decide_eq_true_eq,Xh,Xc,ite_self,↓reduceIte,Zy,ZI,gcT,gcA,Zm,Zf,Zd,Ze,Zk,Zc,Zl,Zg,Zp,Xd,ZiC,Zgn,Zis,Zip,ZfS,Zh8,Zgj,Zr,Zh,Zi,Zb,Zx,ZJ,h,hlt,e1,hL,Zap,Zat,ZaU,Zav,XZ,X3,Xi,Xp,Xq,Xy,ZaD,ZaE,ZaI,ZaJ,ZaL,XA,XD,Zaf,Zai,Zak,Zau,ZaA,Zaz,ZaH,ZaM,Zaq,ZaK,XJ,XR,Xi,Xp,XF]
  ·have hb:(y == x)=false:=by simpa using hxy
   rw [if_neg (by simpa using hxy)]
   generalize (l.take i).map AVal.str=A at *
   generalize (l.drop i).map AVal.str=B at *
   generalize l.map AVal.str=L at *
   simp -implicitDefEqProofs only [EQA,ZE,ZB,ZG,ZC,ZF,ZD,ZP,ZS,ZQ,ZN,ZL,ZM,ZO,ZT,ZR,implies_true,forall_const,Xk,Xl,Xo,Xe,Xg,Xm,Xj,ZH,ZK,unA,Zu,Zz,unG,reduceCtorEq,Zo,decide_eq_true_eq,Xh,Xc,ite_self,↓reduceIte,Zy,ZI,gcT,gcA,Zm,Zf,Zd,Ze,Zk,Zc,Zl,Zg,Zp,Xd,ZiC,Zgn,Zis,Zip,ZfS,Zh8,Zgj,Zr,Zh,Zi,Zb,Zx,ZJ,h,hlt,e1,hb,hL,s1,s2,hA',hB',ka,kb,k2,n1,n2,n3,Zaj,viewAs,Zao,Zad,Zag,ZV,XM,Wj,X0,Zap,Zat,ZaU,Zav,XZ,X3,Xi,Xp,Xq,Xy,ZaD,ZaE,ZaI,ZaJ,ZaL,XA,XD,Zaf,Zai,Zak,Zau,ZaA,Zaz,ZaH,ZaM,Zaq,ZaK,XJ,XR,Xi,Xp,XF,XE,Xq,Xy,XK]
   try (simp [Zay,gcA,Zm,Zf,ZZ,Z6,Zd,Ze,Zk,Zc,Zl,ZW,Zs,Zg,Zp,Xd])
   all_goals omega
theorem ZyA (l:List Zt) (x:Zt) (hl:l.length<=1000000):∀ (r:List Zt) (i:Nat),l.drop i=r->i<=l.length ->
  Zit 0 [(5,.int .i64 (i:Int)),(1,.str x),(0,.lst false (l.map AVal.str))] []=some (Zg1 l x (i+twS r x))
 | [],i,h,hi=>Zw6 l x i hi hl (XH (Zf0 h))
 | y::r,i,h,hi=>by
  have hd:=Zbn h
  by_cases hy:Op.bytesLess y x=true
  ·have ih:=ZyA l x hl r (i+1) hd.2.1 hd.2.2
   have e:twS (y::r) x=twS r x+1:=by simp [twS,hy]
   rw [e,show i+(twS r x+1)=i+1+twS r x by omega]
   rw [<-ih]
   have h1:(i:Int) < (l.length:Int):=by have:=hd.2.2;omega
   have e1:=iad hd.1 AVal.str (k:=1) rfl
   have hL:(l.map AVal.str).length=l.length:=by simp
   have hw:IntKind.i64.wrap ((i:Int)+1)=((i+1:Nat):Int):=by rw [Zcm (by omega) (by omega)];rfl
   unfold Zit
   generalize l.map AVal.str=L at *
   rw [Zbe]
   simp -implicitDefEqProofs only [EQA,ZE,ZB,ZG,ZC,ZF,ZD,ZP,ZS,ZQ,ZN,ZL,ZM,ZO,ZT,ZR,implies_true,forall_const,Xk,Xl,Xo,Xe,Xg,Xm,Xj,ZH,ZK,unA,Zu,Zz,unG,reduceCtorEq,Zo,decide_eq_true_eq,Xh,Xc,ite_self,↓reduceIte,Zy,ZI,gcT,gcA,Zm,Zf,Zd,Ze,Zk,Zc,Zl,Zg,Zp,Xd,ZiC,Zgn,Zis,Zip,ZfS,Zh8,Zgj,Zr,Zh,Zi,Zb,Zx,ZJ,h1,e1,hL,hw,hy]
  ·have hy:=Bool.eq_false_iff.2 hy
   have e:twS (y::r) x=0:=by simp [twS,hy]
   rw [e,Wm]
   exact Zw6 l x i hi hl (XO ⟨y,hd.1,hy⟩)
theorem ZAA (σ:Za) (sq own:Nat) (f:Bool) (l:List Zt) (x:Zt) (hl:l.length<=1000000):Z4 E BY σ sq 26 own true [.lst f (l.map AVal.str),.str x]=some (.lst false ((ZcW l x).map AVal.str),σ,{}):=by
 have h:=ZyA l x hl l 0 rfl (Xbk _)
 rw [XK] at h
 have hE:E 26 [.lst false (l.map AVal.str),.str x] []=some (Zg1 l x (twS l x)):=by
  have z:((0:Nat):Int)=0:=rfl
  rw [z] at h
  generalize Zg1 l x (twS l x)=R at *
  unfold Zit at h
  generalize l.map AVal.str=L at *
  rw [ZcU (by rfl) ZAb]
  simp -implicitDefEqProofs only [EQA,ZE,ZB,ZG,ZC,ZF,ZD,ZP,ZS,ZQ,ZN,ZL,ZM,ZO,ZT,ZR,implies_true,forall_const,Xk,Xl,Xo,Xe,Xg,Xm,Xj,ZH,ZK,unA,Zu,Zz,unG,reduceCtorEq,Zo,decide_eq_true_eq,Xh,Xc,ite_self,↓reduceIte,Zy,ZI,gcT,gcA,Zm,Zf,Zd,Ze,Zk,Zc,Zl,Zg,Zp,Xd,ZiC,Zgn,Zis,Zip,ZfS,Zh8,Zgj,Zr,Zh,Zi,Zb,Zx,ZJ]
  exact h
 rw [Zdr (by kernel_rfl) rfl]
 simp only [Xw,XS,Zal,ZaZ]
 rw [hE]
 unfold Zg1 ZcW
 by_cases c:l[twS l x]?=some x
 ·rw [if_pos c,if_pos c]
  have : ZaC true 0 (some (.lst false (l.map AVal.str),[]))=some (.lst false (l.map AVal.str),[]):=rfl
  rw [this];rfl
 ·rw [if_neg c,if_neg c]
  have hl1:(l.take (twS l x)++x::l.drop (twS l x)).length=l.length+1:=by
   have : twS l x<=l.length:=(List.takeWhile_sublist _).length_le
   simp only [XE,X9,Xq,Xam]
   omega
  rw [<-hl1]
  generalize l.take (twS l x)++x::l.drop (twS l x)=R
  have : ZaC true 0 (some (.sl 0 0 0 R.length,[.row 0 1 (R.map AVal.str)]))=some (.lst false (R.map AVal.str),[]):=by
   unfold ZaC
   rw [if_pos rfl,Zif (k:=1) (g:=0) (t:=0) (xs:=R.map AVal.str) rfl (by simp),Wk (by simp)]
  rw [this];rfl
end
section
def Zdn (n:ZU) (h:Zaa):Bool:=!(if h.sub.noLocal=true then if n.sender == [] then false else h.client == n.sender else false)
theorem Zwe (n:ZU) (h:Zaa):Zdn n h=Zdt n h:=by
 unfold Zdn Zdt
 cases h.sub.noLocal
 ·rfl
 ·simp only [if_true,WD,Bool.false_or]
  by_cases e:n.sender=[]
  ·simp [e]
  ·have : (n.sender == [])=false:=by simpa using e
   rw [this];simp [bne]
def ZcR (n:ZU) (L:List Zt) (hits:List Zaa):List Zt:=hits.foldl (fun L h=>if Zdn n h then ZcW L h.client else L) L
theorem ZvS (l:List Zt) (x:Zt):(ZcW l x).length<=l.length+1:=by
 unfold ZcW
 split
 ·omega
 ·simp only [XE,X9,Xq,Xam];omega
theorem Zs7 (n:ZU) (hits:List Zaa) (hN:hits.length<=1000):∀ (r:List Zaa) (i:Nat) (L:List Zt) (f:Bool),hits.drop i=r->L.length<=i->i<=hits.length ->
  ∃ f',evL FC PR BY 0 [6,5,2,1] ZpK [(6,.int .i64 (i:Int)),(5,.lst f (L.map AVal.str)),(2,.ref 0 0),(1,.lst false (hits.map ZA))] [.var (ZX n)]=some (.exit 0,[(17,.bool false),(6,.int .i64 (hits.length:Int)),(5,.lst f' ((ZcR n L r).map AVal.str)),(2,.ref 0 0),(1,.lst false (hits.map ZA))],[.var (ZX n)])
 | [],i,L,f,h,_,hi=>by
  have h0:hits.length<=i:=Wx.1 h
  obtain rfl:i=hits.length:=by omega
  have h1:¬(hits.length:Int) < (hits.length:Int):=by omega
  have hL:(hits.map ZA).length=hits.length:=by simp
  refine ⟨f,?_⟩
  rw [show ZcR n L []=L from rfl]
  unfold ZX Zh Zi
  generalize n.payload.map Zn=L1
  generalize n.props.map Zb=L2
  generalize hits.map ZA=S at *
  generalize L.map AVal.str=M
  rw [Zbe]
  simp -implicitDefEqProofs only [EQA,ZE,ZB,ZG,ZC,ZF,ZD,ZP,ZS,ZQ,ZN,ZL,ZM,ZO,ZT,ZR,implies_true,forall_const,Xk,Xl,Xo,Xe,Xg,Xm,Xj,ZH,ZK,unA,Zu,Zz,unG,reduceCtorEq,Zo,decide_eq_true_eq,Xh,Xc,ite_self,↓reduceIte,Zy,ZI,gcT,gcA,Zm,Zf,Zd,Ze,Zk,Zc,Zl,Zg,Zp,Xd,Zb0,ZbP,Zcc,Zch,ZbL,Zb8,ZbK,Zcg,ZbO,Zb6,ZbN,Zb3,ZbS,Zcj,ZbT,Zcf,ZbR,Zr,Zh,Zi,Zb,Zx,ZJ,h1,hL]
 | x::r,i,L,f,h,hl,hi=>by
  have hd:=Zbn h
  have h1:(i:Int) < (hits.length:Int):=by have:=hd.2.2;omega
  have hS:(hits.map ZA).length=hits.length:=by simp
  have e1:∀ (σ:Za) (b:Bool) (kk:IntKind),ZaG σ 7 (.lst b (hits.map ZA)) (.int kk (i:Int))=some (.iptr [.str x.client,.str x.sub.filter,.int .i64 x.sub.qos,.bool x.sub.noLocal,.bool x.sub.asPublished,.int .i64 x.sub.handling,.int .i64 x.sub.id] 0,σ,{}):=fun σ b kk=>iad hd.1 ZA (k:=7) rfl σ b kk
  have hw:IntKind.i64.wrap ((i:Int)+1)=((i+1:Nat):Int):=by rw [Zcm (by omega) (by omega)];rfl
  have hC:=fun σ sq own=>ZAA σ sq own f L x.client (by omega)
  have hlen:=ZvS L x.client
  by_cases hw1:Zdn n x=true
  ·obtain ⟨f',ih⟩:=Zs7 n hits hN r (i+1) (ZcW L x.client) false hd.2.1 (by omega) hd.2.2
   have e:ZcR n L (x::r)=ZcR n (ZcW L x.client) r:=by simp only [ZcR,Xag,hw1,if_true]
   rw [e]
   refine ⟨f',?_⟩
   rw [<-ih]
   unfold Zdn at hw1
   clear ih e
   unfold ZX Zh Zi
   generalize n.payload.map Zn=L1
   generalize n.props.map Zb=L2
   generalize hits.map ZA=S at *
   generalize L.map AVal.str=M at *
   generalize (ZcW L x.client).map AVal.str=M2 at *
   rw [Zbe]
   cases hnl:x.sub.noLocal
   ·rw [hnl] at e1 hw1
    simp -implicitDefEqProofs only [EQA,ZE,ZB,ZG,ZC,ZF,ZD,ZP,ZS,ZQ,ZN,ZL,ZM,ZO,ZT,ZR,implies_true,forall_const,Xk,Xl,Xo,Xe,Xg,Xm,Xj,ZH,ZK,unA,Zu,Zz,unG,reduceCtorEq,Zo,decide_eq_true_eq,Xh,Xc,ite_self,↓reduceIte,Zy,ZI,gcT,gcA,Zm,Zf,Zd,Ze,Zk,Zc,Zl,Zg,Zp,Xd,Zb0,ZbP,Zcc,Zch,ZbL,Zb8,ZbK,Zcg,ZbO,Zb6,ZbN,Zb3,ZbS,Zcj,ZbT,Zcf,ZbR,Zr,Zh,Zi,Zb,Zx,ZJ,h1,hS,e1,hw,hC,Zap,Zat,ZaU,Zav,XZ,X3,Xi,Xp,Xq,Xy,ZaD,ZaE,ZaI,ZaJ,ZaL,XA,XD,Zaf,Zai,Zak,Zau,ZaA,Zaz,ZaH,ZaM,Zaq,ZaK,XJ,XR,Xi,Xp,XF]
   ·rw [hnl] at e1 hw1
    simp only [if_true] at hw1
    by_cases hs:n.sender=[]
    ·have hs1:(n.sender == [])=true:=by simpa using hs
     simp -implicitDefEqProofs only [EQA,ZE,ZB,ZG,ZC,ZF,ZD,ZP,ZS,ZQ,ZN,ZL,ZM,ZO,ZT,ZR,implies_true,forall_const,Xk,Xl,Xo,Xe,Xg,Xm,Xj,ZH,ZK,unA,Zu,Zz,unG,reduceCtorEq,Zo,decide_eq_true_eq,Xh,Xc,ite_self,↓reduceIte,Zy,ZI,gcT,gcA,Zm,Zf,Zd,Ze,Zk,Zc,Zl,Zg,Zp,Xd,Zb0,ZbP,Zcc,Zch,ZbL,Zb8,ZbK,Zcg,ZbO,Zb6,ZbN,Zb3,ZbS,Zcj,ZbT,Zcf,ZbR,Zr,Zh,Zi,Zb,Zx,ZJ,h1,hS,e1,hw,hC,hs1,bne,WD,WG,Zap,Zat,ZaU,Zav,XZ,X3,Xi,Xp,Xq,Xy,ZaD,ZaE,ZaI,ZaJ,ZaL,XA,XD,Zaf,Zai,Zak,Zau,ZaA,Zaz,ZaH,ZaM,Zaq,ZaK,XJ,XR,Xi,Xp,XF]
    ·have hs1:(n.sender == [])=false:=by simpa using hs
     rw [hs1] at hw1
     have hc:(x.client == n.sender)=false:=by simpa using hw1
     simp -implicitDefEqProofs only [EQA,ZE,ZB,ZG,ZC,ZF,ZD,ZP,ZS,ZQ,ZN,ZL,ZM,ZO,ZT,ZR,implies_true,forall_const,Xk,Xl,Xo,Xe,Xg,Xm,Xj,ZH,ZK,unA,Zu,Zz,unG,reduceCtorEq,Zo,decide_eq_true_eq,Xh,Xc,ite_self,↓reduceIte,Zy,ZI,gcT,gcA,Zm,Zf,Zd,Ze,Zk,Zc,Zl,Zg,Zp,Xd,Zb0,ZbP,Zcc,Zch,ZbL,Zb8,ZbK,Zcg,ZbO,Zb6,ZbN,Zb3,ZbS,Zcj,ZbT,Zcf,ZbR,Zr,Zh,Zi,Zb,Zx,ZJ,h1,hS,e1,hw,hC,hs1,hc,bne,WD,WG,Zap,Zat,ZaU,Zav,XZ,X3,Xi,Xp,Xq,Xy,ZaD,ZaE,ZaI,ZaJ,ZaL,XA,XD,Zaf,Zai,Zak,Zau,ZaA,Zaz,ZaH,ZaM,Zaq,ZaK,XJ,XR,Xi,Xp,XF]
  ·obtain ⟨f',ih⟩:=Zs7 n hits hN r (i+1) L f hd.2.1 (by omega) hd.2.2
   have e:ZcR n L (x::r)=ZcR n L r:=by simp only [ZcR,Xag,hw1,if_false,Xu]
   rw [e]
   refine ⟨f',?_⟩
   rw [<-ih]
   have hw1:=Bool.eq_false_iff.2 hw1
   unfold Zdn at hw1
   clear ih e
   unfold ZX Zh Zi
   generalize n.payload.map Zn=L1
   generalize n.props.map Zb=L2
   generalize hits.map ZA=S at *
   generalize L.map AVal.str=M at *
   rw [Zbe]
   cases hnl:x.sub.noLocal
   ·rw [hnl] at hw1;simp at hw1
   ·rw [hnl] at e1 hw1
    simp only [if_true] at hw1
    cases hs1:(n.sender == [])
    ·rw [hs1] at hw1
     have hc:(x.client == n.sender)=true:=by simpa using hw1
     simp -implicitDefEqProofs only [EQA,ZE,ZB,ZG,ZC,ZF,ZD,ZP,ZS,ZQ,ZN,ZL,ZM,ZO,ZT,ZR,implies_true,forall_const,Xk,Xl,Xo,Xe,Xg,Xm,Xj,ZH,ZK,unA,Zu,Zz,unG,reduceCtorEq,Zo,decide_eq_true_eq,Xh,Xc,ite_self,↓reduceIte,Zy,ZI,gcT,gcA,Zm,Zf,Zd,Ze,Zk,Zc,Zl,Zg,Zp,Xd,Zb0,ZbP,Zcc,Zch,ZbL,Zb8,ZbK,Zcg,ZbO,Zb6,ZbN,Zb3,ZbS,Zcj,ZbT,Zcf,ZbR,Zr,Zh,Zi,Zb,Zx,ZJ,h1,hS,e1,hw,hC,hs1,hc,bne,WD,WG,Zap,Zat,ZaU,Zav,XZ,X3,Xi,Xp,Xq,Xy,ZaD,ZaE,ZaI,ZaJ,ZaL,XA,XD,Zaf,Zai,Zak,Zau,ZaA,Zaz,ZaH,ZaM,Zaq,ZaK,XJ,XR,Xi,Xp,XF]
    ·rw [hs1] at hw1;simp at hw1
end
section
structure Zfa where
 most:Int
 keep:Bool
 ids:List Int
def Zep (n:ZU) (c:Zt) (a:Zfa) (h:Zaa):Zfa :=
 if h.client == c && Zdn n h then ⟨if h.sub.qos > a.most then h.sub.qos else a.most,if a.keep then true else h.sub.asPublished,if h.sub.id == 0 then a.ids else ZcI a.ids h.sub.id⟩ else a
theorem ZDb (n:ZU) (c:Zt) (a:Zfa) (h:Zaa):(Zep n c a h).ids.length<=a.ids.length+1:=by
 unfold Zep
 split
 ·simp only
  split
  ·omega
  ·have : (ZcI a.ids h.sub.id).length=a.ids.length+1:=by
    rw [<-Zsr]
    have:=Zyc a.ids h.sub.id
    simp only [XE,X9,Xq,Xam]
    omega
   omega
 ·omega
def itQ (n:ZU) (f:Bool) (ids:List Int):List AVal:=[.str n.topic,.lst false (n.payload.map Zn),.int .i64 n.qos,.bool n.retain,.str n.sender,.int .i64 n.expires,.lst false (n.props.map Zb),.int .i64 n.origin,.int .i64 n.number,.int .i64 n.hops,.int .i64 0,.bool false,.lst f (ids.map (AVal.int .i64)),.str []]
def nmR:List AVal->AVal
 | []=>.ref 1 0
 | _::_=>.ref 2 0
theorem Zia {X:List AVal} (h:0 < X.length):nmR X=.ref 2 0:=by
 cases X with
 | nil=>simp at h
 | cons x xs=>rfl
theorem Zws (n:ZU) (hits:List Zaa) (hN:hits.length<=1000) (N:List Zt) (fN:Bool) (k:Nat) (c:Zt) (hk:N[k]?=some c) (X:List AVal):∀ (r:List Zaa) (i:Nat) (a:Zfa) (f:Bool),hits.drop i=r->a.ids.length<=i->i<=hits.length ->
  ∃ f',evL FC PR BY 0 [12,11,10,9,8,7,5,2,1] ZmI [(12,.int .i64 (i:Int)),(11,.bool a.keep),(10,.int .i64 a.most),(9,.ref 0 0),(8,.int .i64 (k:Int)),(7,idV 1 X),(5,.lst fN (N.map AVal.str)),(2,nmR X),(1,.lst false (hits.map ZA))] (.var (itQ n f a.ids)::(Zcl 15 X++[.var (ZX n)])) =
   some (.exit 4,[(60,.bool false),(12,.int .i64 (hits.length:Int)),(11,.bool (r.foldl (Zep n c) a).keep),(10,.int .i64 (r.foldl (Zep n c) a).most),(9,.ref 0 0),(8,.int .i64 (k:Int)),(7,idV 1 X),(5,.lst fN (N.map AVal.str)),(2,nmR X),(1,.lst false (hits.map ZA))],.var (itQ n f' (r.foldl (Zep n c) a).ids)::(Zcl 15 X++[.var (ZX n)]))
 | [],i,a,f,h,_,hi=>by
  have h0:hits.length<=i:=Wx.1 h
  obtain rfl:i=hits.length:=by omega
  have h1:¬(hits.length:Int) < (hits.length:Int):=by omega
  have hL:(hits.map ZA).length=hits.length:=by simp
  refine ⟨f,?_⟩
  rw [List.foldl_nil]
  unfold itQ ZX Zh Zi
  generalize n.payload.map Zn=L1
  generalize n.props.map Zb=L2
  generalize hits.map ZA=S at *
  generalize N.map AVal.str=M
  generalize a.ids.map (AVal.int .i64)=I
  rw [Zbe]
  cases X with
  | nil =>
   rw [Zdp]
   unfold idV nmR
   simp -implicitDefEqProofs only [EQA,ZE,ZB,ZG,ZC,ZF,ZD,ZP,ZS,ZQ,ZN,ZL,ZM,ZO,ZT,ZR,implies_true,forall_const,Xk,Xl,Xo,Xe,Xg,Xm,Xj,ZH,ZK,unA,Zu,Zz,unG,reduceCtorEq,Zo,decide_eq_true_eq,Xh,Xc,ite_self,↓reduceIte,Zy,ZI,gcT,gcA,Zm,Zf,Zd,Ze,Zk,Zc,Zl,Zg,Zp,Xd,Zb0,ZbP,Zcc,Zch,ZbL,Zb8,ZbK,Zcg,ZbO,Zb6,ZbN,Zb3,ZbS,Zcj,ZbT,Zcf,ZbR,Zr,Zh,Zi,Zb,Zx,ZJ,h1,hL,XI]
  | cons y ys =>
   have hp:0 < (y::ys).length:=by simp
   rw [Zd6 hp,Zia hp,Zde hp]
   generalize y::ys=X
   simp -implicitDefEqProofs only [EQA,ZE,ZB,ZG,ZC,ZF,ZD,ZP,ZS,ZQ,ZN,ZL,ZM,ZO,ZT,ZR,implies_true,forall_const,Xk,Xl,Xo,Xe,Xg,Xm,Xj,ZH,ZK,unA,Zu,Zz,unG,reduceCtorEq,Zo,decide_eq_true_eq,Xh,Xc,ite_self,↓reduceIte,Zy,ZI,gcT,gcA,Zm,Zf,Zd,Ze,Zk,Zc,Zl,Zg,Zp,Xd,Zb0,ZbP,Zcc,Zch,ZbL,Zb8,ZbK,Zcg,ZbO,Zb6,ZbN,Zb3,ZbS,Zcj,ZbT,Zcf,ZbR,Zr,Zh,Zi,Zb,Zx,ZJ,h1,hL,X1,XI]
 | x::r,i,a,f,h,hl,hi=>by
  have hd:=Zbn h
  have h1:(i:Int) < (hits.length:Int):=by have:=hd.2.2;omega
  have hS:(hits.map ZA).length=hits.length:=by simp
  have e1:∀ (σ:Za) (b:Bool) (kk:IntKind),ZaG σ 7 (.lst b (hits.map ZA)) (.int kk (i:Int))=some (.iptr [.str x.client,.str x.sub.filter,.int .i64 x.sub.qos,.bool x.sub.noLocal,.bool x.sub.asPublished,.int .i64 x.sub.handling,.int .i64 x.sub.id] 0,σ,{}):=fun σ b kk=>iad hd.1 ZA (k:=7) rfl σ b kk
  have e2:∀ (σ:Za) (b:Bool) (kk:IntKind),ZaG σ 1 (.lst b (N.map AVal.str)) (.int kk (k:Int))=some (.iptr [.str c] 0,σ,{}):=fun σ b kk=>iad hk AVal.str (k:=1) rfl σ b kk
  have hw:IntKind.i64.wrap ((i:Int)+1)=((i+1:Nat):Int):=by rw [Zcm (by omega) (by omega)];rfl
  have hC:=fun σ sq own f=>ZA0 σ sq own f a.ids x.sub.id (by omega)
  have hlen:=ZDb n c a x
  obtain ⟨f',ih⟩:=Zws n hits hN N fN k c hk X r (i+1) (Zep n c a x) (if x.client == c && Zdn n x then (if x.sub.id == 0 then f else false) else f) hd.2.1 (by omega) hd.2.2
  refine ⟨f',?_⟩
  rw [Xag,<-ih]
  clear ih
  unfold Zep
  unfold itQ ZX Zh Zi
  generalize n.payload.map Zn=L1
  generalize n.props.map Zb=L2
  generalize hits.map ZA=S at *
  generalize N.map AVal.str=M at *
  rw [Zbe]
  cases hc:(x.client == c)
  ·
   simp only [W0,Xu,if_false]
   generalize a.ids.map (AVal.int .i64)=I at *
   cases X with
   | nil =>
    rw [Zdp]
    unfold idV nmR
    simp -implicitDefEqProofs only [EQA,ZE,ZB,ZG,ZC,ZF,ZD,ZP,ZS,ZQ,ZN,ZL,ZM,ZO,ZT,ZR,implies_true,forall_const,Xk,Xl,Xo,Xe,Xg,Xm,Xj,ZH,ZK,unA,Zu,Zz,unG,reduceCtorEq,Zo,decide_eq_true_eq,Xh,Xc,ite_self,↓reduceIte,Zy,ZI,gcT,gcA,Zm,Zf,Zd,Ze,Zk,Zc,Zl,Zg,Zp,Xd,Zb0,ZbP,Zcc,Zch,ZbL,Zb8,ZbK,Zcg,ZbO,Zb6,ZbN,Zb3,ZbS,Zcj,ZbT,Zcf,ZbR,Zr,Zh,Zi,Zb,Zx,ZJ,h1,hS,e1,e2,hw,hc,bne,WD,WG,Zae,Z1,Xi,Xp,AVal.cells,Zap,Zat,ZaU,Zav,XZ,X3,Xi,Xp,Xq,Xy,ZaD,ZaE,ZaI,ZaJ,ZaL,XA,XD,Zaf,Zai,Zak,Zau,ZaA,Zaz,ZaH,ZaM,Zaq,ZaK,XJ,XR,Xi,Xp,XF,XI]
   | cons y ys =>
    have hp:0 < (y::ys).length:=by simp
    rw [Zd6 hp,Zia hp,Zde hp]
    generalize y::ys=X
    simp -implicitDefEqProofs only [EQA,ZE,ZB,ZG,ZC,ZF,ZD,ZP,ZS,ZQ,ZN,ZL,ZM,ZO,ZT,ZR,implies_true,forall_const,Xk,Xl,Xo,Xe,Xg,Xm,Xj,ZH,ZK,unA,Zu,Zz,unG,reduceCtorEq,Zo,decide_eq_true_eq,Xh,Xc,ite_self,↓reduceIte,Zy,ZI,gcT,gcA,Zm,Zf,Zd,Ze,Zk,Zc,Zl,Zg,Zp,Xd,Zb0,ZbP,Zcc,Zch,ZbL,Zb8,ZbK,Zcg,ZbO,Zb6,ZbN,Zb3,ZbS,Zcj,ZbT,Zcf,ZbR,Zr,Zh,Zi,Zb,Zx,ZJ,h1,hS,e1,e2,hw,hc,bne,WD,WG,Zae,Z1,Xi,Xp,AVal.cells,Zap,Zat,ZaU,Zav,XZ,X3,Xi,Xp,Xq,Xy,ZaD,ZaE,ZaI,ZaJ,ZaL,XA,XD,Zaf,Zai,Zak,Zau,ZaA,Zaz,ZaH,ZaM,Zaq,ZaK,XJ,XR,Xi,Xp,XF,X1,XI]
  simp only [W3]
  cases hwn:Zdn n x
  ·simp only [Xu,if_false]
   generalize a.ids.map (AVal.int .i64)=I at *
   unfold Zdn at hwn
   cases hnl:x.sub.noLocal
   ·rw [hnl] at hwn;simp at hwn
   rw [hnl] at e1 hwn
   simp only [if_true] at hwn
   cases hs1:(n.sender == [])
   case true=>rw [hs1] at hwn;simp at hwn
   rw [hs1] at hwn
   have hcs:(x.client == n.sender)=true:=by simpa using hwn
   cases X with
   | nil =>
    rw [Zdp]
    unfold idV nmR
    simp -implicitDefEqProofs only [EQA,ZE,ZB,ZG,ZC,ZF,ZD,ZP,ZS,ZQ,ZN,ZL,ZM,ZO,ZT,ZR,implies_true,forall_const,Xk,Xl,Xo,Xe,Xg,Xm,Xj,ZH,ZK,unA,Zu,Zz,unG,reduceCtorEq,Zo,decide_eq_true_eq,Xh,Xc,ite_self,↓reduceIte,Zy,ZI,gcT,gcA,Zm,Zf,Zd,Ze,Zk,Zc,Zl,Zg,Zp,Xd,Zb0,ZbP,Zcc,Zch,ZbL,Zb8,ZbK,Zcg,ZbO,Zb6,ZbN,Zb3,ZbS,Zcj,ZbT,Zcf,ZbR,Zr,Zh,Zi,Zb,Zx,ZJ,h1,hS,e1,e2,hw,hc,hs1,hcs,bne,WD,WG,Zae,Z1,Xi,Xp,AVal.cells,Zap,Zat,ZaU,Zav,XZ,X3,Xi,Xp,Xq,Xy,ZaD,ZaE,ZaI,ZaJ,ZaL,XA,XD,Zaf,Zai,Zak,Zau,ZaA,Zaz,ZaH,ZaM,Zaq,ZaK,XJ,XR,Xi,Xp,XF,XI]
   | cons y ys =>
    have hp:0 < (y::ys).length:=by simp
    rw [Zd6 hp,Zia hp,Zde hp]
    generalize y::ys=X
    simp -implicitDefEqProofs only [EQA,ZE,ZB,ZG,ZC,ZF,ZD,ZP,ZS,ZQ,ZN,ZL,ZM,ZO,ZT,ZR,implies_true,forall_const,Xk,Xl,Xo,Xe,Xg,Xm,Xj,ZH,ZK,unA,Zu,Zz,unG,reduceCtorEq,Zo,decide_eq_true_eq,Xh,Xc,ite_self,↓reduceIte,Zy,ZI,gcT,gcA,Zm,Zf,Zd,Ze,Zk,Zc,Zl,Zg,Zp,Xd,Zb0,ZbP,Zcc,Zch,ZbL,Zb8,ZbK,Zcg,ZbO,Zb6,ZbN,Zb3,ZbS,Zcj,ZbT,Zcf,ZbR,Zr,Zh,Zi,Zb,Zx,ZJ,h1,hS,e1,e2,hw,hc,hs1,hcs,bne,WD,WG,Zae,Z1,Xi,Xp,AVal.cells,Zap,Zat,ZaU,Zav,XZ,X3,Xi,Xp,Xq,Xy,ZaD,ZaE,ZaI,ZaJ,ZaL,XA,XD,Zaf,Zai,Zak,Zau,ZaA,Zaz,ZaH,ZaM,Zaq,ZaK,XJ,XR,Xi,Xp,XF,X1,XI]
  simp only [if_true]
  have why:x.sub.noLocal=false\/x.sub.noLocal=true/\((n.sender == [])=true\/(n.sender == [])=false/\(x.client == n.sender)=false):=by
   unfold Zdn at hwn
   cases hnl:x.sub.noLocal
   ·exact XH rfl
   ·rw [hnl] at hwn
    simp only [if_true] at hwn
    cases hs1:(n.sender == [])
    ·rw [hs1] at hwn
     exact XO ⟨rfl,XO ⟨rfl,by simpa using hwn⟩⟩
    ·exact XO ⟨rfl,XH rfl⟩
  by_cases hq:x.sub.qos > a.most
  all_goals
   cases hkp:a.keep
   all_goals
    cases hid:(x.sub.id == 0)
    all_goals
     simp only [hq,if_true,if_false,Xu]
     generalize (ZcI a.ids x.sub.id).map (AVal.int .i64)=I2 at *
     generalize a.ids.map (AVal.int .i64)=I at *
     rcases why with hnl | ⟨hnl,hs1 | ⟨hs1,hcs⟩⟩
     all_goals
      rw [hnl] at e1
      cases X with
      | nil =>
       rw [Zdp]
       unfold idV nmR
       first
        | simp -implicitDefEqProofs only [EQA,ZE,ZB,ZG,ZC,ZF,ZD,ZP,ZS,ZQ,ZN,ZL,ZM,ZO,ZT,ZR,implies_true,forall_const,Xk,Xl,Xo,Xe,Xg,Xm,Xj,ZH,ZK,unA,Zu,Zz,unG,reduceCtorEq,Zo,decide_eq_true_eq,Xh,Xc,ite_self,↓reduceIte,Zy,ZI,gcT,gcA,Zm,Zf,Zd,Ze,Zk,Zc,Zl,Zg,Zp,Xd,Zb0,ZbP,Zcc,Zch,ZbL,Zb8,ZbK,Zcg,ZbO,Zb6,ZbN,Zb3,ZbS,Zcj,ZbT,Zcf,ZbR,Zr,Zh,Zi,Zb,Zx,ZJ,h1,hS,e1,e2,hw,hc,hs1,hcs,hq,hid,hC,bne,WD,WG,Zae,Z1,Xi,Xp,AVal.cells,Zap,Zat,ZaU,Zav,XZ,X3,Xi,Xp,Xq,Xy,ZaD,ZaE,ZaI,ZaJ,ZaL,XA,XD,Zaf,Zai,Zak,Zau,ZaA,Zaz,ZaH,ZaM,Zaq,ZaK,XJ,XR,Xi,Xp,XF,XI]
        | simp -implicitDefEqProofs only [EQA,ZE,ZB,ZG,ZC,ZF,ZD,ZP,ZS,ZQ,ZN,ZL,ZM,ZO,ZT,ZR,implies_true,forall_const,Xk,Xl,Xo,Xe,Xg,Xm,Xj,ZH,ZK,unA,Zu,Zz,unG,reduceCtorEq,Zo,decide_eq_true_eq,Xh,Xc,ite_self,↓reduceIte,Zy,ZI,gcT,gcA,Zm,Zf,Zd,Ze,Zk,Zc,Zl,Zg,Zp,Xd,Zb0,ZbP,Zcc,Zch,ZbL,Zb8,ZbK,Zcg,ZbO,Zb6,ZbN,Zb3,ZbS,Zcj,ZbT,Zcf,ZbR,Zr,Zh,Zi,Zb,Zx,ZJ,h1,hS,e1,e2,hw,hc,hs1,hq,hid,hC,bne,WD,WG,Zae,Z1,Xi,Xp,AVal.cells,Zap,Zat,ZaU,Zav,XZ,X3,Xi,Xp,Xq,Xy,ZaD,ZaE,ZaI,ZaJ,ZaL,XA,XD,Zaf,Zai,Zak,Zau,ZaA,Zaz,ZaH,ZaM,Zaq,ZaK,XJ,XR,Xi,Xp,XF,XI]
        | simp -implicitDefEqProofs only [EQA,ZE,ZB,ZG,ZC,ZF,ZD,ZP,ZS,ZQ,ZN,ZL,ZM,ZO,ZT,ZR,implies_true,forall_const,Xk,Xl,Xo,Xe,Xg,Xm,Xj,ZH,ZK,unA,Zu,Zz,unG,reduceCtorEq,Zo,decide_eq_true_eq,Xh,Xc,ite_self,↓reduceIte,Zy,ZI,gcT,gcA,Zm,Zf,Zd,Ze,Zk,Zc,Zl,Zg,Zp,Xd,Zb0,ZbP,Zcc,Zch,ZbL,Zb8,ZbK,Zcg,ZbO,Zb6,ZbN,Zb3,ZbS,Zcj,ZbT,Zcf,ZbR,Zr,Zh,Zi,Zb,Zx,ZJ,h1,hS,e1,e2,hw,hc,hq,hid,hC,bne,WD,WG,Zae,Z1,Xi,Xp,AVal.cells,Zap,Zat,ZaU,Zav,XZ,X3,Xi,Xp,Xq,Xy,ZaD,ZaE,ZaI,ZaJ,ZaL,XA,XD,Zaf,Zai,Zak,Zau,ZaA,Zaz,ZaH,ZaM,Zaq,ZaK,XJ,XR,Xi,Xp,XF,XI]
      | cons y ys =>
       have hp:0 < (y::ys).length:=by simp
       rw [Zd6 hp,Zia hp,Zde hp]
       generalize y::ys=X
       first
        | simp -implicitDefEqProofs only [EQA,ZE,ZB,ZG,ZC,ZF,ZD,ZP,ZS,ZQ,ZN,ZL,ZM,ZO,ZT,ZR,implies_true,forall_const,Xk,Xl,Xo,Xe,Xg,Xm,Xj,ZH,ZK,unA,Zu,Zz,unG,reduceCtorEq,Zo,decide_eq_true_eq,Xh,Xc,ite_self,↓reduceIte,Zy,ZI,gcT,gcA,Zm,Zf,Zd,Ze,Zk,Zc,Zl,Zg,Zp,Xd,Zb0,ZbP,Zcc,Zch,ZbL,Zb8,ZbK,Zcg,ZbO,Zb6,ZbN,Zb3,ZbS,Zcj,ZbT,Zcf,ZbR,Zr,Zh,Zi,Zb,Zx,ZJ,h1,hS,e1,e2,hw,hc,hs1,hcs,hq,hid,hC,bne,WD,WG,Zae,Z1,Xi,Xp,AVal.cells,Zap,Zat,ZaU,Zav,XZ,X3,Xi,Xp,Xq,Xy,ZaD,ZaE,ZaI,ZaJ,ZaL,XA,XD,Zaf,Zai,Zak,Zau,ZaA,Zaz,ZaH,ZaM,Zaq,ZaK,XJ,XR,Xi,Xp,XF,X1,XI]
        | simp -implicitDefEqProofs only [EQA,ZE,ZB,ZG,ZC,ZF,ZD,ZP,ZS,ZQ,ZN,ZL,ZM,ZO,ZT,ZR,implies_true,forall_const,Xk,Xl,Xo,Xe,Xg,Xm,Xj,ZH,ZK,unA,Zu,Zz,unG,reduceCtorEq,Zo,decide_eq_true_eq,Xh,Xc,ite_self,↓reduceIte,Zy,ZI,gcT,gcA,Zm,Zf,Zd,Ze,Zk,Zc,Zl,Zg,Zp,Xd,Zb0,ZbP,Zcc,Zch,ZbL,Zb8,ZbK,Zcg,ZbO,Zb6,ZbN,Zb3,ZbS,Zcj,ZbT,Zcf,ZbR,Zr,Zh,Zi,Zb,Zx,ZJ,h1,hS,e1,e2,hw,hc,hs1,hq,hid,hC,bne,WD,WG,Zae,Z1,Xi,Xp,AVal.cells,Zap,Zat,ZaU,Zav,XZ,X3,Xi,Xp,Xq,Xy,ZaD,ZaE,ZaI,ZaJ,ZaL,XA,XD,Zaf,Zai,Zak,Zau,ZaA,Zaz,ZaH,ZaM,Zaq,ZaK,XJ,XR,Xi,Xp,XF,X1,XI]
        | simp -implicitDefEqProofs only [EQA,ZE,ZB,ZG,ZC,ZF,ZD,ZP,ZS,ZQ,ZN,ZL,ZM,ZO,ZT,ZR,implies_true,forall_const,Xk,Xl,Xo,Xe,Xg,Xm,Xj,ZH,ZK,unA,Zu,Zz,unG,reduceCtorEq,Zo,decide_eq_true_eq,Xh,Xc,ite_self,↓reduceIte,Zy,ZI,gcT,gcA,Zm,Zf,Zd,Ze,Zk,Zc,Zl,Zg,Zp,Xd,Zb0,ZbP,Zcc,Zch,ZbL,Zb8,ZbK,Zcg,ZbO,Zb6,ZbN,Zb3,ZbS,Zcj,ZbT,Zcf,ZbR,Zr,Zh,Zi,Zb,Zx,ZJ,h1,hS,e1,e2,hw,hc,hq,hid,hC,bne,WD,WG,Zae,Z1,Xi,Xp,AVal.cells,Zap,Zat,ZaU,Zav,XZ,X3,Xi,Xp,Xq,Xy,ZaD,ZaE,ZaI,ZaJ,ZaL,XA,XD,Zaf,Zai,Zak,Zau,ZaA,Zaz,ZaH,ZaM,Zaq,ZaK,XJ,XR,Xi,Xp,XF,X1,XI]
end
section
def ZeQ (n:ZU) (hits:List Zaa) (c:Zt):Zfa:=hits.foldl (Zep n c) ⟨0,false,[]⟩
def Zju (n:ZU) (hits:List Zaa) (c:Zt):Zcs:=⟨n,Zcv (ZeQ n hits c).most n.qos,n.retain && (ZeQ n hits c).keep,(ZeQ n hits c).ids,[]⟩
def Zdl (n:ZU) (hits:List Zaa) (c:Zt):AVal:=.agg (.str c::Zbl (Zju n hits c))
def nmQ:List AVal->AVal
 | []=>.ref 0 0
 | _::_=>.ref 1 0
theorem Zkw {X:List AVal} (h:0 < X.length):nmQ X=.ref 1 0:=by
 cases X with
 | nil=>simp at h
 | cons x xs=>rfl
theorem Zxx (n:ZU) (hits:List Zaa) (hN:hits.length<=1000) (N:List Zt) (hNl:N.length<=1000) (fN:Bool):∀ (r:List Zt) (k:Nat) (X:List AVal),N.drop k=r->X.length=k->k<=N.length ->
  evL FC PR BY 0 [8,7,5,2,1] Zp3 [(8,.int .i64 (k:Int)),(7,idV 0 X),(5,.lst fN (N.map AVal.str)),(2,nmQ X),(1,.lst false (hits.map ZA))] (Zcl 15 X++[.var (ZX n)]) =
   some (.exit 2,[(52,.bool false),(8,.int .i64 (N.length:Int)),(7,idV 0 (X++r.map (Zdl n hits))),(5,.lst fN (N.map AVal.str)),(2,nmQ (X++r.map (Zdl n hits))),(1,.lst false (hits.map ZA))],Zcl 15 (X++r.map (Zdl n hits))++[.var (ZX n)])
 | [],k,X,h,hX,hk=>by
  have h0:N.length<=k:=Wx.1 h
  obtain rfl:k=N.length:=by omega
  have h1:¬(N.length:Int) < (N.length:Int):=by omega
  have hL:(N.map AVal.str).length=N.length:=by simp
  rw [XS,X2]
  unfold ZX Zh Zi
  generalize n.payload.map Zn=L1
  generalize n.props.map Zb=L2
  generalize hits.map ZA=S at *
  generalize N.map AVal.str=M at *
  rw [Zbe]
  cases X with
  | nil =>
   rw [Zdp]
   unfold idV nmQ
   simp -implicitDefEqProofs only [EQA,ZE,ZB,ZG,ZC,ZF,ZD,ZP,ZS,ZQ,ZN,ZL,ZM,ZO,ZT,ZR,implies_true,forall_const,Xk,Xl,Xo,Xe,Xg,Xm,Xj,ZH,ZK,unA,Zu,Zz,unG,reduceCtorEq,Zo,decide_eq_true_eq,Xh,Xc,ite_self,↓reduceIte,Zy,ZI,gcT,gcA,Zm,Zf,Zd,Ze,Zk,Zc,Zl,Zg,Zp,Xd,Zb0,ZbP,Zcc,Zch,ZbL,Zb8,ZbK,Zcg,ZbO,Zb6,ZbN,Zb3,ZbS,Zcj,ZbT,Zcf,ZbR,Zr,Zh,Zi,Zb,Zx,ZJ,h1,hL,XI]
  | cons y ys =>
   have hp:0 < (y::ys).length:=by simp
   rw [Zd6 hp,Zkw hp,Zde hp]
   generalize y::ys=X at *
   simp -implicitDefEqProofs only [EQA,ZE,ZB,ZG,ZC,ZF,ZD,ZP,ZS,ZQ,ZN,ZL,ZM,ZO,ZT,ZR,implies_true,forall_const,Xk,Xl,Xo,Xe,Xg,Xm,Xj,ZH,ZK,unA,Zu,Zz,unG,reduceCtorEq,Zo,decide_eq_true_eq,Xh,Xc,ite_self,↓reduceIte,Zy,ZI,gcT,gcA,Zm,Zf,Zd,Ze,Zk,Zc,Zl,Zg,Zp,Xd,Zb0,ZbP,Zcc,Zch,ZbL,Zb8,ZbK,Zcg,ZbO,Zb6,ZbN,Zb3,ZbS,Zcj,ZbT,Zcf,ZbR,Zr,Zh,Zi,Zb,Zx,ZJ,h1,hL,X1,XI]
 | c::r,k,X,h,hX,hk=>by
  have hd:=Zbn h
  have ih:=Zxx n hits hN N hNl fN r (k+1) (X++[Zdl n hits c]) hd.2.1 (by simp [hX]) hd.2.2
  rw [Wt,WO,<-Xw] at ih
  rw [<-ih]
  clear ih
  have h1:(k:Int) < (N.length:Int):=by have:=hd.2.2;omega
  have hL:(N.map AVal.str).length=N.length:=by simp
  have e2:∀ (σ:Za) (b:Bool) (kk:IntKind),ZaG σ 1 (.lst b (N.map AVal.str)) (.int kk (k:Int))=some (.iptr [.str c] 0,σ,{}):=fun σ b kk=>iad hd.1 AVal.str (k:=1) rfl σ b kk
  have h0k:(0:Int)<=(k:Int):=by omega
  have hMk:(N.map AVal.str)[k]?=some (.str c):=by rw [XY,hd.1];rfl
  have hkn:((k:Nat):Int).toNat=k:=Xau k
  have hw:IntKind.i64.wrap ((k:Int)+1)=((k+1:Nat):Int):=by rw [Zcm (by omega) (by omega)];rfl
  obtain ⟨f',h14⟩:=Zws n hits hN N fN k c hd.1 X hits 0 ⟨0,false,[]⟩ true rfl (by simp) (by omega)
  have z0:((0:Nat):Int)=0:=rfl
  rw [z0] at h14
  have hM:=fun σ sq own view=>Zyg σ sq own view n.qos (ZeQ n hits c).most
  unfold Zdl Zju Zbl Zr
  rw [show hits.foldl (Zep n c) ⟨0,false,[]⟩=ZeQ n hits c from rfl] at h14
  unfold itQ at h14
  simp only [XS] at h14
  generalize Zcv (ZeQ n hits c).most n.qos=Q at *
  generalize (ZeQ n hits c).most=A1 at *
  generalize (ZeQ n hits c).keep=A2 at *
  generalize (ZeQ n hits c).ids.map (AVal.int .i64)=A3 at *
  unfold ZX Zh Zi at h14 ⊢
  generalize n.payload.map Zn=L1 at *
  generalize n.props.map Zb=L2 at *
  generalize hits.map ZA=S at *
  generalize N.map AVal.str=M at *
  rw [Zbe]
  cases hrt:n.retain
  all_goals
   rw [hrt] at h14
   cases X with
   | nil =>
    rw [Zdp] at h14 ⊢
    unfold idV nmR at h14
    simp only [XI] at h14
    rw [XI]
    unfold idV nmQ
    simp -implicitDefEqProofs only [EQA,ZE,ZB,ZG,ZC,ZF,ZD,ZP,ZS,ZQ,ZN,ZL,ZM,ZO,ZT,ZR,implies_true,forall_const,Xk,Xl,Xo,Xe,Xg,Xm,Xj,ZH,ZK,unA,Zu,Zz,unG,reduceCtorEq,Zo,decide_eq_true_eq,Xh,Xc,ite_self,↓reduceIte,Zy,ZI,gcT,gcA,Zm,Zf,Zd,Ze,Zk,Zc,Zl,Zg,Zp,Xd,Zb0,ZbP,Zcc,Zch,ZbL,Zb8,ZbK,Zcg,ZbO,Zb6,ZbN,Zb3,ZbS,Zcj,ZbT,Zcf,ZbR,Zr,Zh,Zi,Zb,Zx,ZJ,h1,hL,e2,h0k,hMk,hkn,hw,h14,hM,Zae,Z1,Zbi,Xi,Xp,AVal.cells,ZgI,Zap,Zat,ZaU,Zav,XZ,X3,Xi,Xp,Xq,Xy,ZaD,ZaE,ZaI,ZaJ,ZaL,XA,XD,Zaf,Zai,Zak,Zau,ZaA,Zaz,ZaH,ZaM,Zaq,ZaK,XJ,XR,Xi,Xp,XF,Zaj,kOk,viewAs,Zao,Zad,Zag,ZV,XM,Wj,ZaG,ZdD,XI,X1,W3,W0]
   | cons y ys =>
    have hp:0 < (y::ys).length:=by simp
    have hq:∀ z:AVal,0 < (y::ys++[z]).length:=fun z=>by simp
    rw [Zd6 hp,Zia hp,Zde hp] at h14
    simp only [X1,XI] at h14
    rw [Zd6 hp,Zkw hp,Zde hp,Zd6 (hq _),Zkw (hq _),Zde (hq _)]
    have hb:(k+1)*200<=140737488355328:=by omega
    generalize y::ys=X at *
    subst hX
    simp -implicitDefEqProofs only [EQA,ZE,ZB,ZG,ZC,ZF,ZD,ZP,ZS,ZQ,ZN,ZL,ZM,ZO,ZT,ZR,implies_true,forall_const,Xk,Xl,Xo,Xe,Xg,Xm,Xj,ZH,ZK,unA,Zu,Zz,unG,reduceCtorEq,Zo,decide_eq_true_eq,Xh,Xc,ite_self,↓reduceIte,Zy,ZI,gcT,gcA,Zm,Zf,Zd,Ze,Zk,Zc,Zl,Zg,Zp,Xd,Zb0,ZbP,Zcc,Zch,ZbL,Zb8,ZbK,Zcg,ZbO,Zb6,ZbN,Zb3,ZbS,Zcj,ZbT,Zcf,ZbR,Zr,Zh,Zi,Zb,Zx,ZJ,h1,hL,e2,h0k,hMk,hkn,hw,h14,hM,hb,Zae,Z1,Zbi,Xi,Xp,AVal.cells,Zap,Zat,ZaU,Zav,XZ,X3,Xi,Xp,Xq,Xy,ZaD,ZaE,ZaI,ZaJ,ZaL,XA,XD,Zaf,Zai,Zak,Zau,ZaA,Zaz,ZaH,ZaM,Zaq,ZaK,XJ,XR,Xi,Xp,XF,Zaj,kOk,viewAs,Zao,Zad,Zag,ZV,XM,Wj,ZaG,ZdD,XI,X1,W3,W0,XE,Xq,Xy,XK]
end
section
def Zcy (n:ZU) (hits:List Zaa):List Zt:=ZcR n [] hits
theorem Zxj (n:ZU):∀ (hits:List Zaa) (L:List Zt),(ZcR n L hits).length<=L.length+hits.length
 | [],L=>by simp [ZcR]
 | x::r,L=>by
  have h1:=ZvS L x.client
  have e:ZcR n L (x::r)=ZcR n (if Zdn n x then ZcW L x.client else L) r:=rfl
  rw [e]
  have:=Zxj n r (if Zdn n x then ZcW L x.client else L)
  split at this
  ·rw [if_pos ‹_›];simp only [Xq];omega
  ·rw [if_neg ‹_›];simp only [Xq];omega
theorem ZFc (n:ZU) (hits:List Zaa) (hN:hits.length<=900):E 12 [Za7 n,.lst false (hits.map ZA)] []=some (idV 0 ((Zcy n hits).map (Zdl n hits)),Zcl 15 ((Zcy n hits).map (Zdl n hits))):=by
 obtain ⟨f',h3⟩:=Zs7 n hits (by omega) hits 0 [] true rfl (by simp) (by omega)
 have hNl:(Zcy n hits).length<=1000:=by
  have:=Zxj n hits []
  simp only [Xy] at this
  unfold Zcy;omega
 have h9:=Zxx n hits (by omega) (Zcy n hits) hNl f' (Zcy n hits) 0 [] rfl rfl (by omega)
 rw [XI] at h9
 have z0:((0:Nat):Int)=0:=rfl
 rw [z0] at h3 h9
 rw [show ZcR n [] hits=Zcy n hits from rfl] at h3
 generalize (Zcy n hits).map (Zdl n hits)=X at *
 rw [Zdp,show idV 0 []=AVal.lst true [] from rfl,show nmQ []=AVal.ref 0 0 from rfl] at h9
 simp only [XS,XI] at h3 h9
 unfold Za7 ZX Zh Zi at *
 generalize n.payload.map Zn=L1 at *
 generalize n.props.map Zb=L2 at *
 generalize hits.map ZA=S at *
 generalize (Zcy n hits).map AVal.str=M at *
 generalize (Zcy n hits).length=K at *
 rw [ZcU (by rfl) ZAq]
 cases X with
 | nil =>
  rw [Zdp] at h9 ⊢
  unfold idV nmQ at h9
  simp only [XI] at h9
  unfold idV
  simp -implicitDefEqProofs only [EQA,ZE,ZB,ZG,ZC,ZF,ZD,ZP,ZS,ZQ,ZN,ZL,ZM,ZO,ZT,ZR,implies_true,forall_const,Xk,Xl,Xo,Xe,Xg,Xm,Xj,ZH,ZK,unA,Zu,Zz,unG,reduceCtorEq,Zo,decide_eq_true_eq,Xh,Xc,ite_self,↓reduceIte,Zy,ZI,gcT,gcA,Zm,Zf,Zd,Ze,Zk,Zc,Zl,Zg,Zp,Xd,Zb0,ZbP,Zcc,Zch,ZbL,Zb8,ZbK,Zcg,ZbO,Zb6,ZbN,Zb3,ZbS,Zcj,ZbT,Zcf,ZbR,Zr,Zh,Zi,Zb,Zx,ZJ,h3,h9]
  try (simp [Zay,gcA,Zm,Zf,ZZ,Z6,Zd,Ze,Zk,Zc,Zl,ZW,Zs,Zg,Zp,Xd])
 | cons y ys =>
  have hp:0 < (y::ys).length:=by simp
  rw [Zde hp,Zd6 hp,Zkw hp] at h9
  rw [Zde hp,Zd6 hp]
  simp only [X1,XI] at h9
  generalize y::ys=Y at *
  simp -implicitDefEqProofs only [EQA,ZE,ZB,ZG,ZC,ZF,ZD,ZP,ZS,ZQ,ZN,ZL,ZM,ZO,ZT,ZR,implies_true,forall_const,Xk,Xl,Xo,Xe,Xg,Xm,Xj,ZH,ZK,unA,Zu,Zz,unG,reduceCtorEq,Zo,decide_eq_true_eq,Xh,Xc,ite_self,↓reduceIte,Zy,ZI,gcT,gcA,Zm,Zf,Zd,Ze,Zk,Zc,Zl,Zg,Zp,Xd,Zb0,ZbP,Zcc,Zch,ZbL,Zb8,ZbK,Zcg,ZbO,Zb6,ZbN,Zb3,ZbS,Zcj,ZbT,Zcf,ZbR,Zr,Zh,Zi,Zb,Zx,ZJ,h3,h9]
  try (simp [Zay,gcA,Zm,Zf,ZZ,Z6,Zd,Ze,Zk,Zc,Zl,ZW,Zs,Zg,Zp,Xd])
theorem ZvY (σ:Za) (sq own:Nat) (n:ZU) (hits:List Zaa) (hN:hits.length<=900) (f:Bool):Z4 E BY σ sq 12 own true [.agg [.str n.topic,.lst false (n.payload.map Zn),.int .i64 n.qos,.bool n.retain,.str n.sender,.int .i64 n.expires,.lst false (n.props.map Zb),.int .i64 n.origin,.int .i64 n.number,.int .i64 n.hops],.lst f (hits.map ZA)]=some (.lst false ((Zcy n hits).map (Zdl n hits)),σ,{}):=by
 have hpl:[.agg [.str n.topic,.lst false (n.payload.map Zn),.int .i64 n.qos,.bool n.retain,.str n.sender,.int .i64 n.expires,.lst false (n.props.map Zb),.int .i64 n.origin,.int .i64 n.number,.int .i64 n.hops],AVal.lst f (hits.map ZA)].all ZaO=true:=by cases f <;> rfl
 rw [Zdr (by kernel_rfl) hpl]
 simp only [Xw,XS,Zal,ZaZ]
 have h:=ZFc n hits hN
 unfold Za7 ZX Zh Zi at h
 rw [h]
 have : ZaC true 0 (some (idV 0 ((Zcy n hits).map (Zdl n hits)),Zcl 15 ((Zcy n hits).map (Zdl n hits))))=some (.lst false ((Zcy n hits).map (Zdl n hits)),[]):=by
  generalize (Zcy n hits).map (Zdl n hits)=X
  cases X with
  | nil=>rfl
  | cons y ys =>
   have hp:0 < (y::ys).length:=by simp
   rw [Zd6 hp,Zde hp]
   generalize y::ys=Y
   unfold ZaC
   rw [if_pos rfl,Zif (k:=15) (g:=0) (t:=0) (xs:=Y) rfl (X0 _),Wk (X0 _)]
 rw [this]
 generalize (Zcy n hits).map (Zdl n hits)=X
 simp [ZaP,Zbg,Zba,Za5,Zdi,Zs,Za8,ZV]
end
section
theorem ZpN (n:ZU):Zgo n n=true:=by unfold Zgo;simp
theorem Zy3 (x:Zcs):Zhk x x=true:=by unfold Zhk;simp [ZpN]
theorem ZCJ {σ:Za} {it:Zcs} {b:Nat} (hs:σ[b]?=some (.row 0 1 (it.note.payload.map Zn))) (x:Zcs):showAs σ [.agg (Zdh it b),.agg (Zbl x)]=some ([.agg (Zbl it),.agg (Zbl x)],[b]):=by
 have e:Zo σ (.sl b 0 0 it.note.payload.length)=some (it.note.payload.map Zn,[b]):=by
  have : (it.note.payload.map Zn).length=it.note.payload.length:=XL ..
  generalize it.note.payload.map Zn=L at *
  rw [<-this]
  simp [Zo,hs]
 unfold Zdh Zbl Zh Zi Zr
 simp only [showAs,showA,ZcX,Zc4,e,X2,XI]
theorem ZB2 {σ:Za} {it:Zcs} {b:Nat} (hs:σ[b]?=some (.row 0 1 (it.note.payload.map Zn))) (h1:it.note.props.length<=9223372036854775807) (h2:it.ids.length<=9223372036854775807) (sq own:Nat):Z4 E BY σ sq 10 own true [.agg (Zdh it b),.agg (Zbl it)]=some (.bool true,σ,{ rd:=[b] }):=by
 have h:=ZyN it it h1 h2
 rw [Zy3] at h
 exact ZyO (by kernel_rfl) (ZCJ hs it) rfl rfl h rfl rfl sq own
def Zcx (n:ZU) (p:Zt×List Z5):AVal:=.agg (.str p.1::Zbl (byI n p.2))
theorem ZDv (n:ZU) (hn:n.props.length<=700000000) (m:Nat) (P:Grp) (hP:P.length<=900) (i:Nat) (p:Zt×List Z5) (hp:P[i]?=some p) (hids:(byI n p.2).ids.length<=9223372036854775807) (T:Za) (hT:T[i]?=some (.row 0 1 (n.payload.map Zn))) :
  evC FC PR BY m Ziw [(5,.int .i64 (i:Int)),(1,.lst false (P.map (Zcx n))),(0,.sl 0 0 0 P.length)] (.rrow 0 15 (ZY n 1 P)::T)=some (.normal,[(5,.int .i64 ((i+1:Nat):Int)),(1,.lst false (P.map (Zcx n))),(0,.sl 0 0 0 P.length)],.rrow 0 15 (ZY n 1 P)::T):=by
 have hlt:i < P.length:=(Xf.1 hp).1
 have h1:(i:Int) < (P.length:Int):=by omega
 have h0:(0:Int)<=(i:Int):=by omega
 have hkn:((i:Nat):Int).toNat=i:=Xau i
 have hw:IntKind.i64.wrap ((i:Int)+1)=((i+1:Nat):Int):=by rw [Zcm (by omega) (by omega)];rfl
 have hY:(ZY n 1 P)[i]?=some (Zby n p (1+i)):=Zug n 1 hp
 have hR:(P.map (Zcx n))[i]?=some (Zcx n p):=by rw [XY,hp];rfl
 have hS:=fun sq own=>ZB2 (σ:=.rrow 0 15 (ZY n 1 P)::T) (it:=byI n p.2) (b:=1+i) (by rw [W6 1 i,XC];exact hT) (Nat.le_trans hn (by decide)) hids sq own
 have e1:∀ (σ:Za) (b:Bool) (kk:IntKind),ZaG σ 15 (.lst b (P.map (Zcx n))) (.int kk (i:Int))=some (.iptr (.str p.1::Zbl (byI n p.2)) 0,σ,{}):=fun σ b kk=>iad hp (Zcx n) (k:=15) rfl σ b kk
 have ia:ZaG (.rrow 0 15 (ZY n 1 P)::T) 15 (.sl 0 0 0 P.length) (.int .i64 (i:Int))=some (.eref 0 0 i 0,.rrow 0 15 (ZY n 1 P)::T,{ rd:=[0] }):=by
  simp [ZaG,h0,hlt]
 unfold Zby at hY
 unfold Zcx at hR
 generalize P.map (Zcx n)=S at *
 generalize ZY n 1 P=Y at *
 generalize byI n p.2=it at *
 unfold Zdh at hY hS
 unfold Zbl Zh Zi Zr at *
 generalize it.note.payload.map Zn=L1 at *
 generalize it.note.props.map Zb=L2 at *
 generalize it.ids.map (AVal.int .i64)=L3 at *
 simp -implicitDefEqProofs only [EQA,ZE,ZB,ZG,ZC,ZF,ZD,ZP,ZS,ZQ,ZN,ZL,ZM,ZO,ZT,ZR,implies_true,forall_const,Xk,Xl,Xo,Xe,Xg,Xm,Xj,ZH,ZK,unA,Zu,Zz,unG,reduceCtorEq,Zo,decide_eq_true_eq,Xh,Xc,ite_self,↓reduceIte,Zy,ZI,gcT,gcA,Zm,Zf,Zd,Ze,Zk,Zc,Zl,Zg,Zp,Xd,Zfg,Zee,ZfB,ZfN,ZeS,ZfA,ZeK,Zr,Zh,Zi,Zb,Zx,ZJ,h1,h0,hkn,hw,ia,hY,hR,hS,e1,AVal.cells,bne_self_eq_false,XK,Zap,Zat,ZaU,Zav,XZ,X3,Xi,Xp,Xq,Xy,ZaD,ZaE,ZaI,ZaJ,ZaL,XA,XD,Zaf,Zai,Zak,Zau,ZaA,Zaz,ZaH,ZaM,Zaq,ZaK,XJ,XR,Xi,Xp,XF,Wh,List.take_zero,List.drop_succ_cons,WF]
theorem Zf5 {fs:Nat->Option Zam} {prim:Zbz} {bf:Nat->Bool} {m id:Nat} {live:List Nat} {c:Zv} {tm tm1 tm':Tms} {σ σ1 σ':Za} (hg:gcT m (keepL live tm) σ=(tm1,σ1)) (h:evL fs prim bf m live c tm1 σ1=some (.exit id,tm',σ')):evC fs prim bf m (.block id (.loop live c)) tm σ=some (.normal,tm',σ'):=by
 rw [Zix,Zrx,hg,h]
 simp [Zbt]
theorem Zkh (n:ZU) (k:Nat):(Z2 n k).length=k:=by simp [Z2]
theorem Zpm (n:ZU) {k i:Nat} (h:i < k):(Z2 n k)[i]?=some (.row 0 1 (n.payload.map Zn)):=by simp [Z2,h]
theorem Zkm (n:ZU) (P:Grp) (hP:P.length<=900) {rs:List AVal} (hr:ZZ rs=[0]\/ZZ rs=[]) (hn:∀ ρ:Rho,ρ 0 0=some (0,0)->ZW ρ rs=rs):gcA (P.length+1) rs (.rrow 0 15 (ZY n 1 P)::Z2 n P.length)=(rs,.rrow 0 15 (ZY n 1 P)::Z2 n P.length):=by
 have hlen:(Zq.rrow 0 15 (ZY n 1 P)::Z2 n P.length).length=P.length+1:=by rw [Xq,Zkh]
 have at1:∀ t,0 < t->t < P.length+1->(Zq.rrow 0 15 (ZY n 1 P)::Z2 n P.length)[t]?=some (.row 0 1 (n.payload.map Zn)):=by
  intro t h0 h1
  obtain ⟨i,rfl⟩:∃ i,t=i+1:=⟨t - 1,by omega⟩
  rw [XC]
  exact Zpm n (by omega)
 refine ZEb ?_ ?_ ?_
 ·unfold Zm
  rw [hlen,List.range_eq_range']
  have hf:(XT 0 (P.length+1)).flatMap (fun t=>Zp ((Zq.rrow 0 15 (ZY n 1 P)::Z2 n P.length).getD t .free))=XT 1 P.length:=by
   rw [show P.length+1=P.length+1 from rfl,XaX,List.flatMap_cons]
   have e0:Zp ((Zq.rrow 0 15 (ZY n 1 P)::Z2 n P.length).getD 0 .free)=XT 1 P.length:=Zw5 n 1 P
   have e1:(XT (0+1) P.length).flatMap (fun t=>Zp ((Zq.rrow 0 15 (ZY n 1 P)::Z2 n P.length).getD t .free))=[]:=by
    rw [List.flatMap_eq_nil_iff]
    intro t ht
    rw [X6] at ht
    rw [Xn,at1 t (by omega) (by omega)]
    rfl
   rw [e0,e1,X2]
  rw [hf]
  refine Zy7 _ _ _ _ (fun t ht=>?_) (by rcases hr with h | h <;> rw [h] <;> simp <;> omega)
  rw [X6]
  rcases XG.1 ht with ht | ht
  ·rcases hr with h | h <;> rw [h] at ht <;> simp at ht
   omega
  ·rw [X6] at ht;omega
 ·intro t x hx
  have ht:t < P.length+1:=by rw [<-hlen];exact (Xf.1 hx).1
  rcases Nat.eq_zero_or_pos t with rfl | h0
  ·rw [XN] at hx;injection hx with hx;subst hx;exact ⟨rfl,by simp⟩
  ·rw [at1 t h0 ht] at hx;injection hx with hx;subst hx;exact ⟨rfl,by simp⟩
 ·intro ρ h
  rw [hlen] at h
  refine ⟨hn ρ (h 0 (by omega)),fun x hx=>?_⟩
  rcases XP.1 hx with rfl | hx
  ·simp only [Zg]
   rw [Zzi n P ρ 1 (fun i hi=>h (1+i) (by omega))]
  ·unfold Z2 at hx
   rw [List.mem_replicate] at hx
   rw [hx.2];rfl
theorem Zxn (n:ZU) (hn:n.props.length<=700000000) (P:Grp) (hP:P.length<=900) (hids:∀ p ∈ P,(byI n p.2).ids.length<=9223372036854775807):∀ (r:Grp) (i:Nat),P.drop i=r->i<=P.length ->
  evL FC PR BY (P.length+1) [5,1,0] Ziw [(5,.int .i64 (i:Int)),(1,.lst false (P.map (Zcx n))),(0,.sl 0 0 0 P.length)] (.rrow 0 15 (ZY n 1 P)::Z2 n P.length)=some (.exit 0,[(14,.bool false),(5,.int .i64 (P.length:Int)),(1,.lst false (P.map (Zcx n))),(0,.sl 0 0 0 P.length)],.rrow 0 15 (ZY n 1 P)::Z2 n P.length)
 | [],i,h,hi=>by
  have h0:P.length<=i:=Wx.1 h
  obtain rfl:i=P.length:=by omega
  have h1:¬(P.length:Int) < (P.length:Int):=by omega
  refine Zfw ?_
  generalize P.map (Zcx n)=S
  generalize ZY n 1 P=Y
  generalize Z2 n P.length=T
  simp -implicitDefEqProofs only [EQA,ZE,ZB,ZG,ZC,ZF,ZD,ZP,ZS,ZQ,ZN,ZL,ZM,ZO,ZT,ZR,implies_true,forall_const,Xk,Xl,Xo,Xe,Xg,Xm,Xj,ZH,ZK,unA,Zu,Zz,unG,reduceCtorEq,Zo,decide_eq_true_eq,Xh,Xc,ite_self,↓reduceIte,Zy,ZI,gcT,gcA,Zm,Zf,Zd,Ze,Zk,Zc,Zl,Zg,Zp,Xd,Zfg,Zee,ZfB,ZfN,ZeS,ZfA,ZeK,Zr,Zh,Zi,Zb,Zx,ZJ,h1]
 | p::r,i,h,hi=>by
  have hd:=Zbn h
  rw [ZgK (ZDv n hn (P.length+1) P hP i p hd.1 (hids p (Xx hd.1)) (Z2 n P.length) (Zpm n hd.2.2))]
  rw [show keepL [5,1,0] [(5,AVal.int .i64 ((i+1:Nat):Int)),(1,.lst false (P.map (Zcx n))),(0,.sl 0 0 0 P.length)]=[(5,AVal.int .i64 ((i+1:Nat):Int)),(1,.lst false (P.map (Zcx n))),(0,.sl 0 0 0 P.length)] from rfl]
  rw [ZgN (Zkm n P hP (XH rfl) (fun ρ h=>by simp only [Xw,XS,ZW,Zs,h]))]
  exact Zxn n hn P hP hids r (i+1) hd.2.1 hd.2.2
theorem ZBf (n:ZU) (hn:n.props.length<=700000000) (P:Grp) (hP:P.length<=900) (hids:∀ p ∈ P,(byI n p.2).ids.length<=9223372036854775807):E 11 [.sl 0 0 0 P.length,.lst false (P.map (Zcx n))] (.rrow 0 15 (ZY n 1 P)::Z2 n P.length)=some (.bool true,.rrow 0 15 (ZY n 1 P)::Z2 n P.length):=by
 have hl:=Zxn n hn P hP hids P 0 rfl (by omega)
 have ho:Zay (P.length+1) (.rrow 0 15 (ZY n 1 P)::Z2 n P.length) (.bool true)=some (.bool true,.rrow 0 15 (ZY n 1 P)::Z2 n P.length):=ZFd (Zkm n P hP (XO rfl) (fun ρ h=>rfl))
 have hL:(P.map (Zcx n)).length=P.length:=XL ..
 have hg:=ZgN (Zkm n P hP (rs:=[(5,AVal.int .i64 0),(1,.lst false (P.map (Zcx n))),(0,.sl 0 0 0 P.length)].map (·.2)) (XH rfl) (fun ρ h=>by simp only [Xw,XS,ZW,Zs,h]))
 have z0:((0:Nat):Int)=0:=rfl
 rw [z0] at hl
 have hpl:=Zkh n P.length
 rw [ZcU (by rfl) ZvK]
 rw [show (Zq.rrow 0 15 (ZY n 1 P)::Z2 n P.length).length=P.length+1 by rw [Xq,hpl],Zfg]
 generalize P.map (Zcx n)=S at *
 generalize ZY n 1 P=Y at *
 generalize P.length=k at *
 generalize Z2 n k=T at *
 have hlp:=Zf5 (id:=0) (show gcT (k+1) (keepL [5,1,0] [(5,AVal.int .i64 0),(1,.lst false S),(0,.sl 0 0 0 k)]) (.rrow 0 15 Y::T)=_ from hg) hl
 have h1:evC FC PR BY (k+1) (.region [oI 4 (.mov (.c (.bool false)))] none [1,0]) (enterA 0 [.sl 0 0 0 k,.lst false S] []) (.rrow 0 15 Y::T)=some (.normal,[(1,.lst false S),(0,.sl 0 0 0 k)],.rrow 0 15 Y::T):=by
  simp -implicitDefEqProofs only [EQA,ZE,ZB,ZG,ZC,ZF,ZD,ZP,ZS,ZQ,ZN,ZL,ZM,ZO,ZT,ZR,implies_true,forall_const,Xk,Xl,Xo,Xe,Xg,Xm,Xj,ZH,ZK,unA,Zu,Zz,unG,reduceCtorEq,Zo,decide_eq_true_eq,Xh,Xc,ite_self,↓reduceIte,Zy,ZI,gcT,gcA,Zm,Zf,Zd,Ze,Zk,Zc,Zl,Zg,Zp,Xd,Zfg,Zee,ZfB,ZfN,ZeS,ZfA,ZeK,Zr,Zh,Zi,Zb,Zx,ZJ,hL]
 have h2:evC FC PR BY (k+1) (.seq (.region [oM 6 0,oI 7 (.len (.t 6)),oM 8 1,oI 9 (.len (.t 8)),oI 10 (.bin .neq (.t 7) (.t 9))] none [10,1,0]) (.cond (.t 10) (.seq (.region [oI 4 (.mov (.c (.bool false)))] none [4]) .ret) .skip)) [(1,.lst false S),(0,.sl 0 0 0 k)] (.rrow 0 15 Y::T)=some (.normal,[(10,.bool false),(1,.lst false S),(0,.sl 0 0 0 k)],.rrow 0 15 Y::T):=by
  simp -implicitDefEqProofs only [EQA,ZE,ZB,ZG,ZC,ZF,ZD,ZP,ZS,ZQ,ZN,ZL,ZM,ZO,ZT,ZR,implies_true,forall_const,Xk,Xl,Xo,Xe,Xg,Xm,Xj,ZH,ZK,unA,Zu,Zz,unG,reduceCtorEq,Zo,decide_eq_true_eq,Xh,Xc,ite_self,↓reduceIte,Zy,ZI,gcT,gcA,Zm,Zf,Zd,Ze,Zk,Zc,Zl,Zg,Zp,Xd,Zfg,Zee,ZfB,ZfN,ZeS,ZfA,ZeK,Zr,Zh,Zi,Zb,Zx,ZJ,hL,bne_self_eq_false]
 have h3:evC FC PR BY (k+1) (.region [oI 5 (.mov (.c (.int .i64 0)))] none [5,1,0]) [(10,.bool false),(1,.lst false S),(0,.sl 0 0 0 k)] (.rrow 0 15 Y::T)=some (.normal,[(5,.int .i64 0),(1,.lst false S),(0,.sl 0 0 0 k)],.rrow 0 15 Y::T):=by
  simp -implicitDefEqProofs only [EQA,ZE,ZB,ZG,ZC,ZF,ZD,ZP,ZS,ZQ,ZN,ZL,ZM,ZO,ZT,ZR,implies_true,forall_const,Xk,Xl,Xo,Xe,Xg,Xm,Xj,ZH,ZK,unA,Zu,Zz,unG,reduceCtorEq,Zo,decide_eq_true_eq,Xh,Xc,ite_self,↓reduceIte,Zy,ZI,gcT,gcA,Zm,Zf,Zd,Ze,Zk,Zc,Zl,Zg,Zp,Xd,Zfg,Zee,ZfB,ZfN,ZeS,ZfA,ZeK,Zr,Zh,Zi,Zb,Zx,ZJ,hL]
 have h4:evC FC PR BY (k+1) Zqh [(14,.bool false),(5,.int .i64 (k:Int)),(1,.lst false S),(0,.sl 0 0 0 k)] (.rrow 0 15 Y::T)=some (.ret,[(4,.bool true)],.rrow 0 15 Y::T):=by
  simp -implicitDefEqProofs only [EQA,ZE,ZB,ZG,ZC,ZF,ZD,ZP,ZS,ZQ,ZN,ZL,ZM,ZO,ZT,ZR,implies_true,forall_const,Xk,Xl,Xo,Xe,Xg,Xm,Xj,ZH,ZK,unA,Zu,Zz,unG,reduceCtorEq,Zo,decide_eq_true_eq,Xh,Xc,ite_self,↓reduceIte,Zy,ZI,gcT,gcA,Zm,Zf,Zd,Ze,Zk,Zc,Zl,Zg,Zp,Xd,Zfg,Zee,ZfB,ZfN,ZeS,ZfA,ZeK,Zr,Zh,Zi,Zb,Zx,ZJ,hL]
 unfold Zee
 rw [Zbk h1,Zbk h2,Zbk ((Zbk h3).trans hlp),h4]
 show Zay (k+1) (.rrow 0 15 Y::T) (.bool true)=_
 exact ho
end
end Go.Proofs.Ytaimaokfbgmoiaa
