/- The card of IndexPlays: for every input the law returns true, and each argument reads afterwards as it read before, where what it reads is of bulk at most 1048576. No other condition; the tables of unicode/utf8 are tied to the program. -/
import Derived.Test.YtlfkpdcffmmbdaaDoorMq3
import Derived.Test.YtlfkpdcffmmbdaaDoorMq2
import Derived.Test.YtlfkpdcffmmbdaaDoorProg
import Derived.Shelf.Unicode.ValidAny
import Derived.Lib.LaidU8T
import Derived.Test.YtlfkpdcffmmbdaaDoorRows
import Derived.Deep.Slices
import Derived.Shelf.SlSortCmp.NoneTotal
import Derived.Test.YtlfkpdcffmmbdaaDoorChecked
import Derived.Deep.RegionHeld3
import Derived.Laws.Cover1
import Derived.Shelf.Small.Strs
import Derived.Shelf.Strings.Search1
import Derived.Shelf.Strings.Count
import Derived.Test.YtlfkpdcffmmbdaaDoorCards
import Derived.Test.YtlfkpdcffmmbdaaDoorTie
import Derived.WalkKit
import Derived.ProofKit
import Derived.OpenShut
import Derived.ShutString
import Derived.ChangeOld
import Derived.Below
import Derived.SevenTiedAt
import Derived.LaidByTextLater
import Derived.Lib.LaidIn
import Derived.Deep.DeepHandedRow
import Derived.MakeChecks
set_option linter.defProp false
set_option linter.unusedSectionVars false
set_option linter.unusedSimpArgs false
set_option linter.unusedVariables false
open Option.some renaming injEq→Xa,inj→Xbn
open Prod.mk renaming injEq→Xb
open Bool renaming decide_eq_true→Xc,not_eq_true→Xf,false_eq_true→Xm,and_eq_true→Xp,false_and→WJ,and_self→WV,true_or→WZ,not_false→W3,not_true→W9,eq_iff_iff→Xal,or_false→Xao,or_true→XaB,true_and→XaE,or_self→Xbr
open Nat renaming reduceLeDiff→Xd,reduceEqDiff→Xe,reduceAdd→Xh,reduceSub→Xi,reduceBEq→Xj,reduceMul→Xk,reduceLT→Xl,zero_add→XD,le_refl→X3,sub_self→W5,zero_le→Xa7,one_mul→Xbg,le_trans→Xbk
open List renaming range_succ→Xg,getElem?_eq_some_iff→Xn,getD_eq_getElem?_getD→Xo,getElem?_set→Xr,mem_of_getElem?→Xt,getD_cons_zero→Xv,length_cons→Xw,replicate→Xx,getElem?_eq_getElem→Xz,mem_cons→XA,getD_cons_succ→XC,all_cons→XE,length_nil→XF,length_append→XI,map_cons→XJ,contains_nil→XK,mem_map→XL,flatMap_cons→XM,all_nil→XN,append_nil→XO,nil_append→XT,zip_cons_cons→XU,lookup_cons→X1,take_of_length_le→X5,drop_eq_nil_iff→X7,length_map→X9,nodup_cons→Wa,any_cons→Wc,map_map→Wg,pairwise_cons→Wk,lookup_nil→Wl,map_nil→Wm,flatMap_nil→Wn,cons_append→Wt,range→Wu,getElem?_append_right→Ww,any_nil→WF,length_drop→WG,mem_range→WP,filter_cons→WQ,count_le_length→WX,flatMap_append→W1,length_singleton→W6,append_assoc→Xab,range_zero→Xad,replicate_succ→Xan,filter_eq_self→Xap,drop_zero→XaI,drop_succ_cons→XaK,not_lt→XaM,length→XaT,pairwise_map→XaU,foldl_cons→Xa5,Perm→Xa8,any_eq_true→Xbi,not_mem_nil→Xbj,count_cons→Xbp,headD_cons→Xbq,Nodup→XbA
open Option renaming map_eq_some_iff→Xq,map_none→Xbo
open Or renaming inl→Xs,inr→Xy
open Int renaming toNat_natCast→X0,toNat_zero→Wh,le_refl→Wz
open List.Perm renaming refl→Xaa
open UInt8 renaming toNat_inj→Xam
open Function renaming comp→Xby
namespace Go.Proofs.YtlfkpdcffmmbdaaDoor
set_option maxHeartbeats 16000000
set_option maxRecDepth 10000
section
theorem ZzX (n:Int):E 61 [.int .i64 n] []=some (.bool (decide (n > 8)),[]):=by
 rw [Zar (by rfl) Zuh]
 simp -implicitDefEqProofs only [EQA,Zg,Zh,Ze,Zj,Zi,Zf,ZF,ZE,ZH,ZG,ZL,ZI,ZJ,ZM,ZK,implies_true,forall_const,Xh,Xi,Xl,Xd,Xe,Xj,Xk,ZC,ZD,unA,Zy,Zz,unG,reduceCtorEq,Zn,decide_eq_true_eq,Xf,Xc,ite_self,↓reduceIte,Zx,ZB,gcT,gcA,Zv,Zm,Zd,Zl,Zu,Zb,Zt,Zk,Zw,Xg,ZGa,Zln,ZwU,Zc,Zr,Zs,Zp,Zq,ZN,Zc]
theorem Zne (σ:Za) (sq own:Nat) (view:Bool) (n:Int):ZT E BY σ sq 61 own view [.int .i64 n]=some (.bool (decide (n > 8)),σ,{}) :=
 ZaP (ZzX n) (by kernel_rfl) (by simp -implicitDefEqProofs only [Zac,Zab,Zg,Zh,Ze,Zaa,Zj,Zi,Z9,Zf,eq_self,implies_true,Xm,Zc,Zr,Zs,Zp,Zq,Zc]) (by simp -implicitDefEqProofs only [Zac,Zab,Zg,Zh,Ze,Zaa,Zj,Zi,Z9,Zf,eq_self,implies_true,Xm,Zc,Zr,Zs,Zp,Zq,Zc]) rfl (fun _=>rfl) _ _ _ _
theorem ZrB:Zbi.all Z1=true:=by kernel_rfl
theorem ZE3 (s:List UInt8) (hl:s.length<=9223372036854775807):∃ z,E 53 [.str s,.str [43,35]] []=some (.int .i64 z,[])/\decide (z>=0)=Za4 s:=by
 have e0:(([43,35]:List UInt8) == [])=false:=rfl
 have e1:((((2:Nat)):Int) == 1)=false:=rfl
 by_cases h:(s.length:Int) > 8
 ·obtain ⟨z,h1,h2⟩:=Zo1 s hl s 0 rfl
  refine ⟨z,?_,h2⟩
  rw [Zar (by rfl) ZpV]
  unfold ZjT at h1
  have z0:((0:Nat):Int)=0:=rfl
  rw [z0] at h1
  simp -implicitDefEqProofs only [EQA,Zg,Zh,Ze,Zj,Zi,Zf,ZF,ZE,ZH,ZG,ZL,ZI,ZJ,ZM,ZK,implies_true,forall_const,Xh,Xi,Xl,Xd,Xe,Xj,Xk,ZC,ZD,unA,Zy,Zz,unG,reduceCtorEq,Zn,decide_eq_true_eq,Xf,Xc,ite_self,↓reduceIte,Zx,ZB,gcT,gcA,Zv,Zm,Zd,Zl,Zu,Zb,Zt,Zk,Zw,Xg,ZeL,Zd6,Zfi,ZeN,Zd2,Zfl,ZdT,ZeS,Zd8,Ze9,Zd9,ZeZ,ZdH,Zc,Zr,Zs,Zp,Zq,ZN,e0,e1,h,Zne,ZCT,ZDU,ZwL,ZCI,Zk2,ZlZ,ZrB]
  exact h1
 ·obtain ⟨z,h1,h2⟩:=Znj s s.length 0 (by omega) (by omega)
  refine ⟨z,?_,h2⟩
  rw [Zar (by rfl) ZpV]
  unfold ZjE at h1
  simp -implicitDefEqProofs only [EQA,Zg,Zh,Ze,Zj,Zi,Zf,ZF,ZE,ZH,ZG,ZL,ZI,ZJ,ZM,ZK,implies_true,forall_const,Xh,Xi,Xl,Xd,Xe,Xj,Xk,ZC,ZD,unA,Zy,Zz,unG,reduceCtorEq,Zn,decide_eq_true_eq,Xf,Xc,ite_self,↓reduceIte,Zx,ZB,gcT,gcA,Zv,Zm,Zd,Zl,Zu,Zb,Zt,Zk,Zw,Xg,ZeL,Zd6,Zfi,ZeN,Zd2,Zfl,ZdT,ZeS,Zd8,Ze9,Zd9,ZeZ,ZdH,Zc,Zr,Zs,Zp,Zq,ZN,e0,e1,h,Zne]
  exact h1
theorem ZDo (s:List UInt8) (hl:s.length<=9223372036854775807):E 45 [.str s,.str [43,35]] []=some (.bool (Za4 s),[]):=by
 obtain ⟨z,h1,h2⟩:=ZE3 s hl
 have hC:∀ (σ:Za) (sq own:Nat) (view:Bool),ZT E BY σ sq 53 own view [.str s,.str [43,35]]=some (.int .i64 z,σ,{}):=fun _ _ _ _=>ZaP (h1) (by kernel_rfl) (by simp -implicitDefEqProofs only [Zac,Zab,Zg,Zh,Ze,Zaa,Zj,Zi,Z9,Zf,eq_self,implies_true,Xm,Zc,Zr,Zs,Zp,Zq,Zc]) (by simp -implicitDefEqProofs only [Zac,Zab,Zg,Zh,Ze,Zaa,Zj,Zi,Z9,Zf,eq_self,implies_true,Xm,Zc,Zr,Zs,Zp,Zq,Zc]) rfl (fun _=>rfl) _ _ _ _
 rw [Zar (by rfl) ZBD,<-h2]
 simp -implicitDefEqProofs only [EQA,Zg,Zh,Ze,Zj,Zi,Zf,ZF,ZE,ZH,ZG,ZL,ZI,ZJ,ZM,ZK,implies_true,forall_const,Xh,Xi,Xl,Xd,Xe,Xj,Xk,ZC,ZD,unA,Zy,Zz,unG,reduceCtorEq,Zn,decide_eq_true_eq,Xf,Xc,ite_self,↓reduceIte,Zx,ZB,gcT,gcA,Zv,Zm,Zd,Zl,Zu,Zb,Zt,Zk,Zw,Xg,ZFO,Zkc,ZBC,Zc,Zr,Zs,Zp,Zq,ZN,hC]
theorem ZnH (σ:Za) (sq own:Nat) (view:Bool) (s:List UInt8) (hl:s.length<=9223372036854775807):ZT E BY σ sq 45 own view [.str s,.str [43,35]]=some (.bool (Za4 s),σ,{}) :=
 ZaP (ZDo s hl) (by kernel_rfl) (by simp -implicitDefEqProofs only [Zac,Zab,Zg,Zh,Ze,Zaa,Zj,Zi,Z9,Zf,eq_self,implies_true,Xm,Zc,Zr,Zs,Zp,Zq,Zc]) (by simp -implicitDefEqProofs only [Zac,Zab,Zg,Zh,Ze,Zaa,Zj,Zi,Z9,Zf,eq_self,implies_true,Xm,Zc,Zr,Zs,Zp,Zq,Zc]) rfl (fun _=>rfl) _ _ _ _
def ZcF (s:List UInt8):Bool:=decide (1<=s.length) && decide (s.length<=64) && ZgB s
theorem ZqY (s:List UInt8):(decide ((s.length:Int)>=1) && decide ((s.length:Int)<=64) && ZgB s)=ZcF s:=by
 unfold ZcF
 congr 2
 ·congr 1;rw [eq_iff_iff];omega
 ·congr 1;rw [eq_iff_iff];omega
theorem ZgG {s:List UInt8} (h:ZcF s=true):s.length<=64:=by
 simp only [ZcF,Xp,decide_eq_true_eq] at h;exact h.1.2
theorem ZED (s:List UInt8):E 46 [.str s] []=some (.bool (ZcF s),[]):=by
 rw [Zar (by rfl) Zv0,<-ZqY]
 by_cases h1:(s.length:Int)>=1 <;> by_cases h2:(s.length:Int)<=64
 all_goals simp -implicitDefEqProofs only [EQA,Zg,Zh,Ze,Zj,Zi,Zf,ZF,ZE,ZH,ZG,ZL,ZI,ZJ,ZM,ZK,implies_true,forall_const,Xh,Xi,Xl,Xd,Xe,Xj,Xk,ZC,ZD,unA,Zy,Zz,unG,reduceCtorEq,Zn,decide_eq_true_eq,Xf,Xc,ite_self,↓reduceIte,Zx,ZB,gcT,gcA,Zv,Zm,Zd,Zl,Zu,Zb,Zt,Zk,Zw,Xg,ZD1,Zm3,ZGf,Zc,Zr,Zs,Zp,Zq,ZN,h1,h2,Zzd]
theorem Zlo (σ:Za) (sq own:Nat) (view:Bool) (s:List UInt8):ZT E BY σ sq 46 own view [.str s]=some (.bool (ZcF s),σ,{}) :=
 ZaP (ZED s) (by kernel_rfl) (by simp -implicitDefEqProofs only [Zac,Zab,Zg,Zh,Ze,Zaa,Zj,Zi,Z9,Zf,eq_self,implies_true,Xm,Zc,Zr,Zs,Zp,Zq,Zc]) (by simp -implicitDefEqProofs only [Zac,Zab,Zg,Zh,Ze,Zaa,Zj,Zi,Z9,Zf,eq_self,implies_true,Xm,Zc,Zr,Zs,Zp,Zq,Zc]) rfl (fun _=>rfl) _ _ _ _
def ZbS (s:List UInt8):Bool:=ZcF s && !Za4 s
theorem ZEA (s:List UInt8):E 33 [.str s] []=some (.bool (ZbS s),[]):=by
 rw [Zar (by rfl) ZD4]
 unfold ZbS
 cases h:ZcF s
 ·simp -implicitDefEqProofs only [EQA,Zg,Zh,Ze,Zj,Zi,Zf,ZF,ZE,ZH,ZG,ZL,ZI,ZJ,ZM,ZK,implies_true,forall_const,Xh,Xi,Xl,Xd,Xe,Xj,Xk,ZC,ZD,unA,Zy,Zz,unG,reduceCtorEq,Zn,decide_eq_true_eq,Xf,Xc,ite_self,↓reduceIte,Zx,ZB,gcT,gcA,Zv,Zm,Zd,Zl,Zu,Zb,Zt,Zk,Zw,Xg,ZnE,ZiM,Zrb,Zc,Zr,Zs,Zp,Zq,ZN,h,Zlo]
 ·have hC:=fun σ sq own view=>ZnH σ sq own view s (by have:=ZgG h;omega)
  simp -implicitDefEqProofs only [EQA,Zg,Zh,Ze,Zj,Zi,Zf,ZF,ZE,ZH,ZG,ZL,ZI,ZJ,ZM,ZK,implies_true,forall_const,Xh,Xi,Xl,Xd,Xe,Xj,Xk,ZC,ZD,unA,Zy,Zz,unG,reduceCtorEq,Zn,decide_eq_true_eq,Xf,Xc,ite_self,↓reduceIte,Zx,ZB,gcT,gcA,Zv,Zm,Zd,Zl,Zu,Zb,Zt,Zk,Zw,Xg,ZnE,ZiM,Zrb,Zc,Zr,Zs,Zp,Zq,ZN,h,Zlo,hC]
theorem Zgu (σ:Za) (sq own:Nat) (view:Bool) (s:List UInt8):ZT E BY σ sq 33 own view [.str s]=some (.bool (ZbS s),σ,{}) :=
 ZaP (ZEA s) (by kernel_rfl) (by simp -implicitDefEqProofs only [Zac,Zab,Zg,Zh,Ze,Zaa,Zj,Zi,Z9,Zf,eq_self,implies_true,Xm,Zc,Zr,Zs,Zp,Zq,Zc]) (by simp -implicitDefEqProofs only [Zac,Zab,Zg,Zh,Ze,Zaa,Zj,Zi,Z9,Zf,eq_self,implies_true,Xm,Zc,Zr,Zs,Zp,Zq,Zc]) rfl (fun _=>rfl) _ _ _ _
def Zci (s:List UInt8) (c:UInt8):Bool:=s.any (· == c)
theorem Zqh (s:List UInt8) (c:UInt8) (hl:s.length<=9223372036854775807):∀ (r:List UInt8) (i:Nat),s.drop i=r->Zj1 0 [(5,.int .i64 i),(1,Zae c),(0,.str s)] []=some (.bool (Zci r c),[])
 | [],i,h=>by
  have h1:=Zdq h
  unfold Zj1
  rw [Z7]
  simp -implicitDefEqProofs only [EQA,Zg,Zh,Ze,Zj,Zi,Zf,ZF,ZE,ZH,ZG,ZL,ZI,ZJ,ZM,ZK,implies_true,forall_const,Xh,Xi,Xl,Xd,Xe,Xj,Xk,ZC,ZD,unA,Zy,Zz,unG,reduceCtorEq,Zn,decide_eq_true_eq,Xf,Xc,ite_self,↓reduceIte,Zx,ZB,gcT,gcA,Zv,Zm,Zd,Zl,Zu,Zb,Zt,Zk,Zw,Xg,ZiV,Zhb,ZjI,Zjs,Zg4,Zit,Zgy,Zc,Zr,Zs,Zp,Zq,ZN,h1,Zae]
  rfl
 | b::r,i,h=>by
  have ih:=Zqh s c hl r (i+1) (Zao h).2.1
  have h1:(i:Int) < s.length:=by have:=(Zao h).2.2;omega
  have h2:=(Zao h).1
  have h3:=ZbG h1 hl
  have i0:(0:Int)<=(i:Int):=by omega
  have e:Zci (b::r) c=((b.toNat:Int) == (c.toNat:Int) || Zci r c):=by
   unfold Zci
   rw [Wc]
   congr 1
   rw [Xal]
   simp only [beq_iff_eq,<-Xam]
   omega
  rw [e]
  unfold Zj1 at ih ⊢
  rw [Z7]
  simp only [Zae] at ih
  cases hb:(b.toNat:Int) == (c.toNat:Int)
  ·simp -implicitDefEqProofs only [EQA,Zg,Zh,Ze,Zj,Zi,Zf,ZF,ZE,ZH,ZG,ZL,ZI,ZJ,ZM,ZK,implies_true,forall_const,Xh,Xi,Xl,Xd,Xe,Xj,Xk,ZC,ZD,unA,Zy,Zz,unG,reduceCtorEq,Zn,decide_eq_true_eq,Xf,Xc,ite_self,↓reduceIte,Zx,ZB,gcT,gcA,Zv,Zm,Zd,Zl,Zu,Zb,Zt,Zk,Zw,Xg,ZiV,Zhb,ZjI,Zjs,Zg4,Zit,Zgy,Zc,Zr,Zs,Zp,Zq,ZN,h1,h2,h3,i0,hb,Zae,X0]
   exact ih
  ·simp -implicitDefEqProofs only [EQA,Zg,Zh,Ze,Zj,Zi,Zf,ZF,ZE,ZH,ZG,ZL,ZI,ZJ,ZM,ZK,implies_true,forall_const,Xh,Xi,Xl,Xd,Xe,Xj,Xk,ZC,ZD,unA,Zy,Zz,unG,reduceCtorEq,Zn,decide_eq_true_eq,Xf,Xc,ite_self,↓reduceIte,Zx,ZB,gcT,gcA,Zv,Zm,Zd,Zl,Zu,Zb,Zt,Zk,Zw,Xg,ZiV,Zhb,ZjI,Zjs,Zg4,Zit,Zgy,Zc,Zr,Zs,Zp,Zq,ZN,h1,h2,h3,i0,hb,Zae,X0]
theorem ZCC (s:List UInt8) (c:UInt8) (hl:s.length<=9223372036854775807):E 39 [.str s,.int .u8 c.toNat] []=some (.bool (Zci s c),[]):=by
 rw [Zar (by rfl) ZuJ]
 have:=Zqh s c hl s 0 rfl
 unfold Zj1 at this
 have z0:((0:Nat):Int)=0:=rfl
 rw [z0] at this
 simp only [Zae] at this
 simp -implicitDefEqProofs only [EQA,Zg,Zh,Ze,Zj,Zi,Zf,ZF,ZE,ZH,ZG,ZL,ZI,ZJ,ZM,ZK,implies_true,forall_const,Xh,Xi,Xl,Xd,Xe,Xj,Xk,ZC,ZD,unA,Zy,Zz,unG,reduceCtorEq,Zn,decide_eq_true_eq,Xf,Xc,ite_self,↓reduceIte,Zx,ZB,gcT,gcA,Zv,Zm,Zd,Zl,Zu,Zb,Zt,Zk,Zw,Xg,ZiV,Zhb,ZjI,Zjs,Zg4,Zit,Zgy,Zc,Zr,Zs,Zp,Zq,ZN,Zc]
 exact this
theorem ZjD (σ:Za) (sq own:Nat) (view:Bool) (s:List UInt8) (c:UInt8) (hl:s.length<=9223372036854775807):ZT E BY σ sq 39 own view [.str s,.int .u8 c.toNat]=some (.bool (Zci s c),σ,{}) :=
 ZaP (ZCC s c hl) (by kernel_rfl) (by simp -implicitDefEqProofs only [Zac,Zab,Zg,Zh,Ze,Zaa,Zj,Zi,Z9,Zf,eq_self,implies_true,Xm,Zc,Zr,Zs,Zp,Zq,Zc]) (by simp -implicitDefEqProofs only [Zac,Zab,Zg,Zh,Ze,Zaa,Zj,Zi,Z9,Zf,eq_self,implies_true,Xm,Zc,Zr,Zs,Zp,Zq,Zc]) rfl (fun _=>rfl) _ _ _ _
theorem ZrN (s : List UInt8) : E 38 [.str s] [] = some (.bool (ZcF s), []) := by
  rw [Zar (by rfl) Zt0, <- ZqY]
  by_cases h1 : (s.length : Int) >= 1 <;> by_cases h2 : (s.length : Int) <= 64
  all_goals first
    | (have hC := fun σ sq own view => ZuW σ sq own view s (by omega)
       simp -implicitDefEqProofs only [EQA,Zg,Zh,Ze,Zj,Zi,Zf,ZF,ZE,ZH,ZG,ZL,ZI,ZJ,ZM,ZK,implies_true,forall_const,Xh,Xi,Xl,Xd,Xe,Xj,Xk,ZC,ZD,unA,Zy,Zz,unG,reduceCtorEq,Zn,decide_eq_true_eq,Xf,Xc,ite_self,↓reduceIte,Zx,ZB,gcT,gcA,Zv,Zm,Zd,Zl,Zu,Zb,Zt,Zk,Zw,Xg,ZoG,ZjL,Zqj,Zc,Zr,Zs,Zp,Zq,ZN,h1,h2,hC])
    | simp -implicitDefEqProofs only [EQA,Zg,Zh,Ze,Zj,Zi,Zf,ZF,ZE,ZH,ZG,ZL,ZI,ZJ,ZM,ZK,implies_true,forall_const,Xh,Xi,Xl,Xd,Xe,Xj,Xk,ZC,ZD,unA,Zy,Zz,unG,reduceCtorEq,Zn,decide_eq_true_eq,Xf,Xc,ite_self,↓reduceIte,Zx,ZB,gcT,gcA,Zv,Zm,Zd,Zl,Zu,Zb,Zt,Zk,Zw,Xg,ZoG,ZjL,Zqj,Zc,Zr,Zs,Zp,Zq,ZN,h1,h2]
theorem Zhj (σ:Za) (sq own:Nat) (view:Bool) (s:List UInt8):ZT E BY σ sq 38 own view [.str s]=some (.bool (ZcF s),σ,{}) :=
 ZaP (ZrN s) (by kernel_rfl) (by simp -implicitDefEqProofs only [Zac,Zab,Zg,Zh,Ze,Zaa,Zj,Zi,Z9,Zf,eq_self,implies_true,Xm,Zc,Zr,Zs,Zp,Zq,Zc]) (by simp -implicitDefEqProofs only [Zac,Zab,Zg,Zh,Ze,Zaa,Zj,Zi,Z9,Zf,eq_self,implies_true,Xm,Zc,Zr,Zs,Zp,Zq,Zc]) rfl (fun _=>rfl) _ _ _ _
theorem Zqr (s:List UInt8):Za4 s=(Zci s 43 || Zci s 35):=by
 unfold Za4 Zci Zc8
 induction s with
 | nil=>rfl
 | cons b s ih=>simp only [Wc,ih];cases (b == 43) <;> cases (b == 35) <;> simp
theorem Zt4 (s:List UInt8):E 16 [.str s] []=some (.bool (ZbS s),[]):=by
 rw [Zar (by rfl) Zzh]
 unfold ZbS
 rw [Zqr]
 cases h:ZcF s
 ·simp -implicitDefEqProofs only [EQA,Zg,Zh,Ze,Zj,Zi,Zf,ZF,ZE,ZH,ZG,ZL,ZI,ZJ,ZM,ZK,implies_true,forall_const,Xh,Xi,Xl,Xd,Xe,Xj,Xk,ZC,ZD,unA,Zy,Zz,unG,reduceCtorEq,Zn,decide_eq_true_eq,Xf,Xc,ite_self,↓reduceIte,Zx,ZB,gcT,gcA,Zv,Zm,Zd,Zl,Zu,Zb,Zt,Zk,Zw,Xg,Zk0,ZhR,ZkB,Zc,Zr,Zs,Zp,Zq,ZN,h,Zhj]
 ·have hC1:=fun σ sq own view=>ZjD σ sq own view s 43 (by have:=ZgG h;omega)
  have hC2:=fun σ sq own view=>ZjD σ sq own view s 35 (by have:=ZgG h;omega)
  simp only [show (((43:UInt8).toNat:Nat):Int)=43 from rfl] at hC1
  simp only [show (((35:UInt8).toNat:Nat):Int)=35 from rfl] at hC2
  cases h1:Zci s 43
  ·simp -implicitDefEqProofs only [EQA,Zg,Zh,Ze,Zj,Zi,Zf,ZF,ZE,ZH,ZG,ZL,ZI,ZJ,ZM,ZK,implies_true,forall_const,Xh,Xi,Xl,Xd,Xe,Xj,Xk,ZC,ZD,unA,Zy,Zz,unG,reduceCtorEq,Zn,decide_eq_true_eq,Xf,Xc,ite_self,↓reduceIte,Zx,ZB,gcT,gcA,Zv,Zm,Zd,Zl,Zu,Zb,Zt,Zk,Zw,Xg,Zk0,ZhR,ZkB,Zc,Zr,Zs,Zp,Zq,ZN,h,Zhj,hC1,hC2,h1]
  ·simp -implicitDefEqProofs only [EQA,Zg,Zh,Ze,Zj,Zi,Zf,ZF,ZE,ZH,ZG,ZL,ZI,ZJ,ZM,ZK,implies_true,forall_const,Xh,Xi,Xl,Xd,Xe,Xj,Xk,ZC,ZD,unA,Zy,Zz,unG,reduceCtorEq,Zn,decide_eq_true_eq,Xf,Xc,ite_self,↓reduceIte,Zx,ZB,gcT,gcA,Zv,Zm,Zd,Zl,Zu,Zb,Zt,Zk,Zw,Xg,Zk0,ZhR,ZkB,Zc,Zr,Zs,Zp,Zq,ZN,h,Zhj,hC1,hC2,h1]
theorem Zfk (σ:Za) (sq own:Nat) (view:Bool) (s:List UInt8):ZT E BY σ sq 16 own view [.str s]=some (.bool (ZbS s),σ,{}) :=
 ZaP (Zt4 s) (by kernel_rfl) (by simp -implicitDefEqProofs only [Zac,Zab,Zg,Zh,Ze,Zaa,Zj,Zi,Z9,Zf,eq_self,implies_true,Xm,Zc,Zr,Zs,Zp,Zq,Zc]) (by simp -implicitDefEqProofs only [Zac,Zab,Zg,Zh,Ze,Zaa,Zj,Zi,Z9,Zf,eq_self,implies_true,Xm,Zc,Zr,Zs,Zp,Zq,Zc]) rfl (fun _=>rfl) _ _ _ _
end
section
def ixE (M:List (List UInt8×Int)):List (AVal×AVal):=M.map fun p=>(AVal.str p.1,AVal.int .i64 p.2)
def ixH (M:List (List UInt8×Int)):Za:=[.var [.map 1],.map (ixE M)]
def ZaH (n:List UInt8):List (List UInt8×Int)->Option Int
 | []=>none
 | p::r=>if n=p.1 then some p.2 else ZaH n r
def Zbo (n:List UInt8) (v:Int):List (List UInt8×Int)->List (List UInt8×Int)
 | []=>[(n,v)]
 | p::r=>if n=p.1 then (n,v)::r else p::Zbo n v r
def Zbl (n:List UInt8):List (List UInt8×Int)->List (List UInt8×Int)
 | []=>[]
 | p::r=>if n=p.1 then r else p::Zbl n r
theorem Zjf (n:List UInt8):∀ (M:List (List UInt8×Int)) (i:Nat),(ZaH n M=none/\Zdn (.str n) (ixE M) i=some none/\Zbl n M=M/\∀ v,Zbo n v M=M++[(n,v)]) \/
  ∃ j u,ZaH n M=some u/\Zdn (.str n) (ixE M) i=some (some (i+j,.int .i64 u))/\(ixE M).eraseIdx j=ixE (Zbl n M)/\∀ v,(ixE M).set j (.str n,.int .i64 v)=ixE (Zbo n v M)
 | [],i=>Xs ⟨rfl,rfl,rfl,fun _=>rfl⟩
 | p::M,i=>by
  have h0:Zdn (.str n) (ixE (p::M)) i=(match Zb7 (.str n) (.str p.1) with | some true=>some (some (i,AVal.int .i64 p.2)) | some false=>Zdn (.str n) (ixE M) (i+1) | none=>none):=rfl
  have h1:Zb7 (.str n) (.str p.1)=some (n == p.1):=rfl
  rw [h0,h1]
  by_cases h:n=p.1
  ·refine Xy ⟨0,p.2,by simp [ZaH,h],by simp [h],by simp [ixE,Zbl,h],fun v=>by simp [ixE,Zbo,h]⟩
  ·have h2:(n == p.1)=false:=by simpa using h
   rw [h2]
   simp only [ZaH,if_neg h,Zbl,Zbo]
   rcases Zjf n M (i+1) with ⟨g1,g2,g3,g4⟩ | ⟨j,u,g1,g2,g3,g4⟩
   ·exact Xs ⟨g1,g2,by rw [g3],fun v=>by rw [g4];rfl⟩
   ·refine Xy ⟨j+1,u,g1,by rw [g2];congr 3;omega,?_,fun v=>?_⟩
    ·show (_::ixE M).eraseIdx (j+1)=_
     rw [List.eraseIdx_cons_succ,g3];rfl
    ·show (_::ixE M).set (j+1) _=_
     rw [List.set_cons_succ,g4];rfl
section
variable {σ:Za} {t:Nat} {M:List (List UInt8×Int)}
theorem ZqT (hs:σ[t]?=some (.map (ixE M))) (n:List UInt8):Zc1 σ 2 (.int .i64 0) true (.map t) (.str n)=some (.tup [.int .i64 ((ZaH n M).getD 0),.bool (ZaH n M).isSome],σ,{ rd:=[t] }):=by
 unfold Zc1
 rw [if_pos (show Zai (AVal.str n)=2 from rfl)]
 simp only [hs]
 rcases Zjf n M 0 with ⟨g1,g2,_⟩ | ⟨j,u,g1,g2,_⟩
 ·simp [g1,g2,Zfo]
 ·simp [g1,g2,Zfo]
theorem ZDd (hs:σ[t]?=some (.map (ixE M))) (n:List UInt8) (v:Int):ZeP σ 2 (.map t) (.str n) (.int .i64 v)=some (.tup [],σ.set t (.map (ixE (Zbo n v M))),{ wr:=[t] }):=by
 unfold ZeP
 rw [if_pos ⟨rfl,rfl,rfl⟩]
 simp only [hs]
 rcases Zjf n M 0 with ⟨g1,g2,_,g4⟩ | ⟨j,u,g1,g2,_,g4⟩
 ·rw [g2,g4];simp [ixE]
 ·rw [g2];simp only [XD];rw [g4]
theorem ZDp (hs:σ[t]?=some (.map (ixE M))) (n:List UInt8):Zer σ 2 (.map t) (.str n)=some (.tup [],σ.set t (.map (ixE (Zbl n M))),{ wr:=[t] }):=by
 unfold Zer
 rw [if_pos (show Zai (AVal.str n)=2 from rfl)]
 simp only [hs]
 rcases Zjf n M 0 with ⟨g1,g2,g3,_⟩ | ⟨j,u,g1,g2,g3,_⟩
 ·rw [g2,g3]
 ·rw [g2];simp only [XD];rw [g3]
theorem ZEH (hs:σ[t]?=some (.map (ixE M))):Zd4 σ (.map t)=some (.int .i64 M.length,σ,{ rd:=[t] }):=by
 simp [Zd4,hs,ixE]
end
theorem ZkW (M:List (List UInt8×Int)):Zw (.map (ixE M))=[]:=by
 induction M with
 | nil=>rfl
 | cons x M ih =>
  show Zan (.int .i64 x.2)++Zw (.map (ixE M))=[]
  rw [ih];rfl
theorem ZDk (ρ:Rho) (g:Nat) (M:List (List UInt8×Int)):Zk ρ g (.map (ixE M))=.map (ixE M):=by
 show ZU.map ((ixE M).map fun p=>(p.1,ZP ρ p.2))=_
 congr 1
 unfold ixE
 rw [Wg]
 rfl
theorem ZbT (ρ:Rho) (M:List (List UInt8×Int)):(ixE M).map (fun p=>(p.1,ZP ρ p.2))=ixE M:=by
 unfold ixE
 rw [Wg]
 rfl
theorem ZeE {r:AVal} (hr:Zam r=true) (M:List (List UInt8×Int)) (σ:Za):ZaV 2 (.var [.map 1]::.map (ixE M)::σ) r=some (r,ixH M):=by
 have hi:Zv 2 [r] (.var [.map 1]::.map (ixE M)::σ)=[0,1]:=by
  have hR:Wu 2=[0,1]:=rfl
  have h1:(ZU.var [.map 1]::.map (ixE M)::σ).getD 1 .free=.map (ixE M):=rfl
  have h0:(ZU.var [.map 1]::.map (ixE M)::σ).getD 0 .free=.var [.map 1]:=rfl
  have hb0:Zw (.var [.map 1])=[1]:=rfl
  simp only [Zv,Z4,(ZeJ (fun _ _=>none) r hr).2,XT,hR,XM,Wn,XO,h0,h1,ZkW,hb0]
  rfl
 have hρ:Zd (.var [.map 1]::.map (ixE M)::σ) 2 [0,1] 1 0=some (1,0):=rfl
 simp only [ZaV,gcA,hi,Zl,ZZ,(ZeJ _ r hr).1]
 have h1:(ZU.var [.map 1]::.map (ixE M)::σ).getD 1 .free=.map (ixE M):=rfl
 have h0:(ZU.var [.map 1]::.map (ixE M)::σ).getD 0 .free=.var [.map 1]:=rfl
 rw [h0,h1,ZDk]
 simp only [Zk,ZZ,ZP,hρ,ixH]
theorem ZqL {O:ZW} {f own:Nat} {view:Bool} {args:List AVal} {M M':List (List UInt8×Int)} {q r0:AVal} {h0:Za} (hq:Zam q=true) (h:O f (.ref 0 0::args) (ixH M)=some (r0,h0)) (hask:Zau view 2 (some (r0,h0))=some (q,ixH M')) (hb:BY f=false) (hp:args.all Zaq=true) (hn:args.map Zaf=args) {σ:Za} {t m sq:Nat} (htm:t≠m) (hs:σ[t]?=some (.var [.map m])) (hm:σ[m]?=some (.map (ixE M))) (hff:ZbF σ sq own=true) :
  ZT O BY σ sq f own view (.ref t 0::args)=some (q,(σ.set t (.var [.map m])).set m (.map (ixE M')),{ any:=true,upd:=[(t,[.map m])] }):=by
 have htl:t < σ.length:=(Xn.1 hs).1
 have hml:m < σ.length:=(Xn.1 hm).1
 have h1:σ.getD t .free=.var [.map m]:=by simp [Xo,hs]
 have h2:σ.getD m .free=.map (ixE M):=by simp [Xo,hm]
 have hsh:showAs σ (.ref t 0::args)=some (.ref t 0::args.map Zaf,[]):=by
  rw [showAs,show showA σ (.ref t 0)=some (.ref t 0,[]) from rfl,Zjp hp]
  rfl
 have href:Z4 (.ref t 0::args.map Zaf)=[t]:=by
  rw [Z4,Zg1 hp];rfl
 have hre:Zm σ 1000 (Z4 (.ref t 0::args.map Zaf)) []=[t,m]:=by
  have e0:([]:List Nat).contains t=false:=rfl
  have e1:([t]:List Nat).contains m=false:=by simp;exact fun e=>htm e.symm
  rw [href,show (1000:Nat)=997+1+1+1 from rfl]
  have hb0:Zw (.var [.map m])=[m]:=rfl
  simp only [Zm,e0,h1,hb0,XO,XT,List.singleton_append,Xm,if_false,e1,h2,ZkW,Wt]
 have hρt:Zd σ 0 [t,m] t 0=some (0,0):=by simp [Zd,Zu,hs,Zb,Zt]
 have hρm:Zd σ 0 [t,m] m 0=some (1,0):=by
  simp [Zd,Zu,hm,Zb,Zt,htm]
 have hvs:ZZ (Zd σ 0 [t,m]) (.ref t 0::args.map Zaf)=.ref 0 0::args:=by
  rw [ZZ,Zha hp,hn]
  simp only [ZP,hρt]
 have hh:Zl σ 0 [t,m] (Zd σ 0 [t,m]) [t,m] 0=ixH M:=by
  simp only [Zl,h1,h2,Zk,ZbT,ZZ,ZP,hρm,ixH]
 have hall:([t,m].all fun t=>okB (σ.getD t .free))=true:=by simp only [XE,XN,h1,h2,okB,WV]
 have hk:Zbq σ [t,m] (ixH M') 0=true:=by simp [ixH,Zbq,okB,ZdX,Zb,hs,hm]
 have hρb:ZaS σ [t,m] sq 1 0=some (m,0):=by simp [ZaS,Zb,hm]
 have hlay:ZaX σ [t,m] sq (ixH M') 0 σ=(σ.set t (.var [.map m])).set m (.map (ixE M')):=by
  simp [ixH,ZaX,ZaA,Zbt,Zb,Zk,ZbT,ZZ,ZP,hρb,hs,hm,Xo]
 refine ZEq hb hsh hre rfl hall hvs hh h hask (by simp [ixH]) (by simp [ixH]) hk hff (ZeJ _ q hq).1 hlay ?_
 have h3:((σ.set t (.var [.map m])).set m (.map (ixE M')))[t]?=some (.var [.map m]):=by
  rw [Xr,if_neg (fun e=>htm e.symm),Xr,if_pos rfl,if_pos htl]
 have h4:((σ.set t (.var [.map m])).set m (.map (ixE M')))[m]?=some (.map (ixE M')):=by
  rw [Xr,if_pos rfl,if_pos (by simpa using hml)]
 simp [ZbQ,h3,h4]
theorem ZCP {view:Bool} {M':List (List UInt8×Int)} {q:AVal} (hq:Zam q=true) (hv:viewR (ixH M') q=some (q,[])):Zau view 2 (some (q,ixH M'))=some (q,ixH M'):=by
 unfold Zau
 split
 ·have hnp:∀ x,q=.pan x->False:=by rintro x rfl;simp [viewR,Zbc,ZaO] at hv
  have : ZcN 2 (some (q,ixH M'))=(match viewR (ixH M') q with
   | some (r',ts)=>match gcA 2 [r'] (ZR (ixH M') ts) with
    | ([r''],σ')=>some (r'',σ')
    | _=>none
   | none=>none):=by
   cases q <;> first | rfl | exact (hnp _ rfl).elim
  rw [this,hv]
  exact ZeE hq M' []
 ·rfl
theorem ZjG {O:ZW} {f own:Nat} {view:Bool} {args:List AVal} {M M':List (List UInt8×Int)} {q:AVal} (hq:Zam q=true) (hv:viewR (ixH M') q=some (q,[])) (h:O f (.ref 0 0::args) (ixH M)=some (q,ixH M')) (hb:BY f=false) (hp:args.all Zaq=true) (hn:args.map Zaf=args) {σ:Za} {t m sq:Nat} (htm:t≠m) (hs:σ[t]?=some (.var [.map m])) (hm:σ[m]?=some (.map (ixE M))) (hff:ZbF σ sq own=true) :
  ZT O BY σ sq f own view (.ref t 0::args)=some (q,(σ.set t (.var [.map m])).set m (.map (ixE M')),{ any:=true,upd:=[(t,[.map m])] }) :=
 ZqL hq h (ZCP hq hv) hb hp hn htm hs hm hff
theorem ZAv {O:ZW} {f:Nat} {args vs:List AVal} {ts:List Nat} {M:List (List UInt8×Int)} {σ:Za} {sq:Nat} (hb:BY f=false) (hsh:showAs σ args=some (vs,ts)) (hp:vs.all Zaq=true) (hn:vs.map Zaf=vs) (h:O f vs []=some (.ref 0 0,ixH M)) (hff:ZbF (ZR σ ts) sq 2=true) :
  ZT O BY σ sq f 2 false args=some (.ref sq 0,((ZR σ ts).set sq (.var [.map (sq+1)])).set (sq+1) (.map (ixE M)),{ any:=true }):=by
 have hr:=Zg1 hp
 have hn':=fun ρ=>Zha (ρ:=ρ) hp
 rw [hn] at hr
 simp only [hn] at hn'
 have hd:ZhM 2 (.ref 0 0) (ixH M)=none:=rfl
 have hk:Zbq (ZR σ ts) [] (ixH M) 0=true:=rfl
 unfold ZT Zcm
 rw [hb]
 simp only [Xm,if_false,hsh]
 rw [hr]
 have h2:∀ σ,Zm σ 1000 [] []=[]:=fun _=>rfl
 rw [h2]
 unfold Zbv
 simp only [XN,if_true,hn',Zl,XF,h]
 have hk2:decide ((ixH M).length<=0+2)=true:=rfl
 simp only [Zau,Xm,if_false,Zay,List.isEmpty_nil,show (ixH M).isEmpty=false from rfl,Bool.and_false,if_true,hd,XF,hk2,Xa7,decide_true,hk,hff,WV]
 simp [ixH,ZaX,ZaA,Zbt,ZaS,Zk,ZZ,ZP,Zb,ZbT,ZbQ]
end
section
theorem ZCS:E 13 [] []=some (.ref 0 0,ixH []):=Zct.2 ⟨5,by kernel_rfl⟩
theorem ZB3 (σ:Za) (sq:Nat) (hff:ZbF σ sq 2=true):ZT E BY σ sq 13 2 false []=some (.ref sq 0,(σ.set sq (.var [.map (sq+1)])).set (sq+1) (.map (ixE [])),{ any:=true }) :=
 ZAv (args:=[]) (vs:=[]) (ts:=[]) (by kernel_rfl) rfl rfl rfl ZCS hff
def Zei (n:List UInt8) (v:Int) (M:List (List UInt8×Int)):Int×List (List UInt8×Int):=if ZbS n then (0,Zbo n v M) else (150,M)
theorem ZFS (M:List (List UInt8×Int)) (n:List UInt8) (v:Int):E 14 [.ref 0 0,.str n,.int .i64 v] (ixH M)=some (.int .i64 (Zei n v M).1,ixH (Zei n v M).2):=by
 have hq:=fun σ sq own view=>Zgu σ sq own view n
 unfold Zei
 cases hn:ZbS n with
 | false =>
  rw [hn] at hq
  have ho:=ZeE (r:=.int .i64 150) rfl M
  simp only [Xm,if_false]
  unfold ixH at ho ⊢
  generalize ixE M=X at *
  rw [Zar (by rfl) Zqo]
  simp -implicitDefEqProofs only [EQA,Zg,Zh,Ze,Zj,Zi,Zf,ZF,ZE,ZH,ZG,ZL,ZI,ZJ,ZM,ZK,implies_true,forall_const,Xh,Xi,Xl,Xd,Xe,Xj,Xk,ZC,ZD,unA,Zy,Zz,unG,reduceCtorEq,Zn,decide_eq_true_eq,Xf,Xc,ite_self,↓reduceIte,Zx,ZB,gcT,gcA,Zv,Zm,Zd,Zl,Zu,Zb,Zt,Zk,Zw,Xg,ZnD,Zjj,Zqf,Zc,Zr,Zs,Zp,Zq,ZN,hq,ho]
 | true =>
  rw [hn] at hq
  have ho:=ZeE (r:=.int .i64 0) rfl (Zbo n v M)
  have hs:=fun σ t (hs:σ[t]?=some (.map (ixE M)))=>ZDd (σ:=σ) (t:=t) hs n v
  simp only [if_true]
  unfold ixH at ho ⊢
  generalize ixE (Zbo n v M)=X2 at *
  generalize ixE M=X at *
  rw [Zar (by rfl) Zqo]
  simp -implicitDefEqProofs only [EQA,Zg,Zh,Ze,Zj,Zi,Zf,ZF,ZE,ZH,ZG,ZL,ZI,ZJ,ZM,ZK,implies_true,forall_const,Xh,Xi,Xl,Xd,Xe,Xj,Xk,ZC,ZD,unA,Zy,Zz,unG,reduceCtorEq,Zn,decide_eq_true_eq,Xf,Xc,ite_self,↓reduceIte,Zx,ZB,gcT,gcA,Zv,Zm,Zd,Zl,Zu,Zb,Zt,Zk,Zw,Xg,ZnD,Zjj,Zqf,Zc,Zr,Zs,Zp,Zq,ZN,hq,hs,ho]
theorem ZyQ (M:List (List UInt8×Int)) (n:List UInt8):E 20 [.ref 0 0,.str n] (ixH M)=some (.bool (ZaH n M).isSome,ixH (Zbl n M)):=by
 have hl:=fun σ t (hs:σ[t]?=some (.map (ixE M)))=>ZqT (σ:=σ) (t:=t) hs n
 have hs:=fun σ t (hs:σ[t]?=some (.map (ixE M)))=>ZDp (σ:=σ) (t:=t) hs n
 have ho:=ZeE (r:=.bool (ZaH n M).isSome) rfl (Zbl n M)
 generalize (ZaH n M).isSome=b at *
 unfold ixH at ho ⊢
 generalize ixE (Zbl n M)=X2 at *
 generalize ixE M=X at *
 rw [Zar (by rfl) ZvT]
 simp -implicitDefEqProofs only [EQA,Zg,Zh,Ze,Zj,Zi,Zf,ZF,ZE,ZH,ZG,ZL,ZI,ZJ,ZM,ZK,implies_true,forall_const,Xh,Xi,Xl,Xd,Xe,Xj,Xk,ZC,ZD,unA,Zy,Zz,unG,reduceCtorEq,Zn,decide_eq_true_eq,Xf,Xc,ite_self,↓reduceIte,Zx,ZB,gcT,gcA,Zv,Zm,Zd,Zl,Zu,Zb,Zt,Zk,Zw,Xg,Zxj,Zl0,Zt8,Zc,Zr,Zs,Zp,Zq,ZN,hl,hs,ho]
theorem ZE4 (M:List (List UInt8×Int)) (n:List UInt8):E 21 [.ref 0 0,.str n] (ixH M)=some (.tup [.int .i64 ((ZaH n M).getD 0),.bool (ZaH n M).isSome],ixH M):=by
 have hl:=fun σ t (hs:σ[t]?=some (.map (ixE M)))=>ZqT (σ:=σ) (t:=t) hs n
 have ho:=ZeE (r:=.tup [.int .i64 ((ZaH n M).getD 0),.bool (ZaH n M).isSome]) rfl M
 generalize (ZaH n M).isSome=b at *
 generalize (ZaH n M).getD 0=u at *
 unfold ixH at ho ⊢
 generalize ixE M=X at *
 rw [Zar (by rfl) Zw6]
 simp -implicitDefEqProofs only [EQA,Zg,Zh,Ze,Zj,Zi,Zf,ZF,ZE,ZH,ZG,ZL,ZI,ZJ,ZM,ZK,implies_true,forall_const,Xh,Xi,Xl,Xd,Xe,Xj,Xk,ZC,ZD,unA,Zy,Zz,unG,reduceCtorEq,Zn,decide_eq_true_eq,Xf,Xc,ite_self,↓reduceIte,Zx,ZB,gcT,gcA,Zv,Zm,Zd,Zl,Zu,Zb,Zt,Zk,Zw,Xg,Zsa,Zm5,ZuU,Zc,Zr,Zs,Zp,Zq,ZN,hl,ho]
theorem Zy2 (M:List (List UInt8×Int)):E 24 [.ref 0 0] (ixH M)=some (.int .i64 M.length,ixH M):=by
 have hs:=fun σ t (hs:σ[t]?=some (.map (ixE M)))=>ZEH (σ:=σ) (t:=t) hs
 have ho:=ZeE (r:=.int .i64 M.length) rfl M
 unfold ixH at ho ⊢
 generalize ixE M=X at *
 rw [Zar (by rfl) ZCq]
 simp -implicitDefEqProofs only [EQA,Zg,Zh,Ze,Zj,Zi,Zf,ZF,ZE,ZH,ZG,ZL,ZI,ZJ,ZM,ZK,implies_true,forall_const,Xh,Xi,Xl,Xd,Xe,Xj,Xk,ZC,ZD,unA,Zy,Zz,unG,reduceCtorEq,Zn,decide_eq_true_eq,Xf,Xc,ite_self,↓reduceIte,Zx,ZB,gcT,gcA,Zv,Zm,Zd,Zl,Zu,Zb,Zt,Zk,Zw,Xg,ZxY,Zk3,ZrW,Zc,Zr,Zs,Zp,Zq,ZN,hs,ho]
section
variable (M:List (List UInt8×Int)) (n:List UInt8) {σ:Za} {t m sq own:Nat} {view:Bool} (htm:t≠m) (hs:σ[t]?=some (.var [.map m])) (hm:σ[m]?=some (.map (ixE M))) (hff:ZbF σ sq own=true)
include htm hs hm hff
theorem Zoy (v:Int):ZT E BY σ sq 14 own view [.ref t 0,.str n,.int .i64 v]=some (.int .i64 (Zei n v M).1,(σ.set t (.var [.map m])).set m (.map (ixE (Zei n v M).2)),{ any:=true,upd:=[(t,[.map m])] }) :=
 ZjG (O:=E) rfl rfl (ZFS M n v) (by kernel_rfl) rfl rfl htm hs hm hff
theorem ZEK:ZT E BY σ sq 20 own view [.ref t 0,.str n]=some (.bool (ZaH n M).isSome,(σ.set t (.var [.map m])).set m (.map (ixE (Zbl n M))),{ any:=true,upd:=[(t,[.map m])] }) :=
 ZjG (O:=E) rfl rfl (ZyQ M n) (by kernel_rfl) rfl rfl htm hs hm hff
theorem ZDa:ZT E BY σ sq 21 own view [.ref t 0,.str n]=some (.tup [.int .i64 ((ZaH n M).getD 0),.bool (ZaH n M).isSome],(σ.set t (.var [.map m])).set m (.map (ixE M)),{ any:=true,upd:=[(t,[.map m])] }) :=
 ZjG (O:=E) rfl rfl (ZE4 M n) (by kernel_rfl) rfl rfl htm hs hm hff
theorem ZhW:ZT E BY σ sq 24 own view [.ref t 0]=some (.int .i64 M.length,(σ.set t (.var [.map m])).set m (.map (ixE M)),{ any:=true,upd:=[(t,[.map m])] }) :=
 ZjG (O:=E) (args:=[]) rfl rfl (Zy2 M) (by kernel_rfl) rfl rfl htm hs hm hff
end
end
section
def Zl9:Zo:=(.seq (.region [oI 4 (.mov (.c (.int .i64 (-1))))] none [4]) .ret)
def Zqn:Zo:=Zl9
def ZrA:=xw Zqn Zl9 rfl
def ZmN:Zo:=(.seq (.seq (.region [oM 57 8,oM 58 9,oI 59 (.bin .lss (.t 57) (.t 58))] none [59,10,9,8,7,6,5,1,0]) (.cond (.t 59) .skip (.exit 1))) (.block 2 (.seq (.seq (.region [oM 60 0,oM 61 8,oI 62 (.sindex (.t 60) (.t 61)),oM 63 6,oI 64 (.bin .neq (.t 62) (.t 63))] none [64,10,9,8,7,6,5,1,0]) (.cond (.t 64) (.seq (.region [oM 65 0,oM 66 8,oI 67 (.bin .add (.t 66) (.c (.int .i64 1))),oM 68 9,oI 69 (.sslice (.t 65) (some (.t 67)) (some (.t 68))),oM 70 6,oI 71 (.call 92 0 true [(.t 69),(.t 70)]),oM 11 71] none [11,10,8,7,5,1,0]) (.seq (.seq (.region [oM 72 11,oI 73 (.bin .lss (.t 72) (.c (.int .i64 0)))] none [73,11,10,8,7,5,1,0]) (.cond (.t 73) (.seq (.region [oI 4 (.mov (.c (.int .i64 (-1))))] none [4]) .ret) .skip)) (.region [oM 74 8,oM 75 11,oI 76 (.bin .add (.t 75) (.c (.int .i64 1))),oI 77 (.bin .add (.t 74) (.t 76)),oM 8 77] none [10,8,7,5,1,0]))) .skip)) (.seq (.seq (.region [oM 78 0,oM 79 8,oI 80 (.bin .add (.t 79) (.c (.int .i64 1))),oI 81 (.sindex (.t 78) (.t 80)),oM 82 7,oI 83 (.bin .eql (.t 81) (.t 82)),oM 84 83,⟨(some 85),(.mov (.t 0)),(some (84,true)),[]⟩,⟨(some 86),(.mov (.t 8)),(some (84,true)),[]⟩,⟨(some 87),(.mov (.t 8)),(some (84,true)),[]⟩,⟨(some 88),(.mov (.t 5)),(some (84,true)),[]⟩,⟨(some 89),(.bin .add (.t 87) (.t 88)),(some (84,true)),[]⟩,⟨(some 90),(.sslice (.t 85) (some (.t 86)) (some (.t 89))),(some (84,true)),[]⟩,⟨(some 91),(.mov (.t 1)),(some (84,true)),[]⟩,⟨(some 92),(.bin .eql (.t 90) (.t 91)),(some (84,true)),[]⟩,oI 93 (.pick (.t 84) (.t 92) (.c (.bool false)))] none [93,10,8]) (.cond (.t 93) (.seq (.region [oM 94 8,oM 4 94] none [4]) .ret) .skip)) (.seq (.region [oM 95 8,oI 96 (.bin .add (.t 95) (.c (.int .i64 1))),oM 8 96] none [10]) (.seq (.region [oM 97 10,oI 98 (.bin .add (.t 97) (.c (.int .i64 1))),oM 10 98] none []) (.seq .stuck (.cond (.t 107) (.seq (.region [oM 108 0,oM 109 8,oI 110 (.sslice (.t 108) (some (.t 109)) none),oM 111 1,oI 112 (.call 81 0 true [(.t 110),(.t 111)]),oM 12 112] none [12,8]) (.seq (.seq (.region [oM 113 12,oI 114 (.bin .geq (.t 113) (.c (.int .i64 0)))] none [114,12,8]) (.cond (.t 114) (.seq (.region [oM 115 12,oM 116 8,oI 117 (.bin .add (.t 115) (.t 116)),oM 4 117] none [4]) .ret) .skip)) (.seq (.region [oI 4 (.mov (.c (.int .i64 (-1))))] none [4]) .ret))) (.seq .stuck (.cond (.t 132) (.seq (.region [oM 133 0,oM 134 8,oI 135 (.sslice (.t 133) (some (.t 134)) none),oM 136 1,oI 137 (.call 94 0 true [(.t 135),(.t 136)]),oM 13 137] none [13,8]) (.seq (.seq (.region [oM 138 13,oI 139 (.bin .lss (.t 138) (.c (.int .i64 0)))] none [139,13,8]) (.cond (.t 139) (.seq (.region [oI 4 (.mov (.c (.int .i64 (-1))))] none [4]) .ret) .skip)) (.seq (.region [oM 140 8,oM 141 13,oI 142 (.bin .add (.t 140) (.t 141)),oM 4 142] none [4]) .ret))) .skip))))))))))
def Zrj:Zo:=ZmN
def ZDE:=xw Zrj ZmN rfl
def Zmv:Zo:=(.seq (.region [oI 4 (.mov (.c (.int .i64 0)))] none [1,0]) (.seq (.region [oM 14 1,oI 15 (.slen (.t 14)),oM 5 15] none [5,1,0]) (.seq (.block 0 (.seq (.region [oM 17 5,oI 18 (.bin .eql (.t 17) (.c (.int .i64 0))),oM 19 18,⟨(some 20),(.mov (.t 1)),(some (19,false)),[]⟩,⟨(some 21),(.mov (.t 0)),(some (19,false)),[]⟩,⟨(some 22),(.bin .eql (.t 20) (.t 21)),(some (19,false)),[]⟩,oI 23 (.pick (.t 19) (.c (.bool true)) (.t 22)),oM 16 23] none [16,5,1,0]) (.cond (.t 16) (.seq (.region [oI 4 (.mov (.c (.int .i64 0)))] none [4]) .ret) (.seq (.region [oM 25 5,oI 26 (.bin .eql (.t 25) (.c (.int .i64 1))),oM 24 26] none [24,5,1,0]) (.cond (.t 24) (.seq (.region [oM 27 0,oM 28 1,oI 29 (.sindex (.t 28) (.c (.int .i64 0))),oI 30 (.call 92 0 true [(.t 27),(.t 29)]),oM 4 30] none [4]) .ret) (.seq (.region [oM 32 5,oM 33 0,oI 34 (.slen (.t 33)),oI 35 (.bin .geq (.t 32) (.t 34)),oM 31 35] none [31]) (.cond (.t 31) (.seq (.region [oI 4 (.mov (.c (.int .i64 (-1))))] none [4]) .ret) (.seq .stuck (.cond (.t 36) (.seq (.region [oM 45 0,oM 46 1,oI 47 (.call 81 0 true [(.t 45),(.t 46)]),oM 4 47] none [4]) .ret) .skip))))))))) (.seq (.region [oM 48 1,oI 49 (.sindex (.t 48) (.c (.int .i64 0))),oM 6 49] none [6,5,1,0]) (.seq (.region [oM 50 1,oI 51 (.sindex (.t 50) (.c (.int .i64 1))),oM 7 51] none [7,6,5,1,0]) (.seq (.region [oI 8 (.mov (.c (.int .i64 0)))] none [8,7,6,5,1,0]) (.seq (.region [oM 52 0,oI 53 (.slen (.t 52)),oM 54 5,oI 55 (.bin .sub (.t 53) (.t 54)),oI 56 (.bin .add (.t 55) (.c (.int .i64 1))),oM 9 56] none [9,8,7,6,5,1,0]) (.seq (.region [oI 10 (.mov (.c (.int .i64 0)))] none [10,9,8,7,6,5,1,0]) (.seq (.block 1 (.loop [10,9,8,7,6,5,1,0] Zrj)) Zqn)))))))))
def Zki:Z8:=⟨[(.tmp 4)],Zmv⟩
theorem ZrZ:FC 86=some Zki:=by kernel_rfl
theorem ZDJ:Zki.body=Zmv:=rfl
theorem ZzF:Zki.res=[(.tmp 4)]:=rfl
def Zkk:Zo:=(.seq (.region [oI 4 (.mov (.c (.int .i64 0)))] none [1,0]) (.seq (.region [oM 5 0,oM 6 1,oI 7 (.call 86 0 true [(.t 5),(.t 6)]),oM 4 7] none [4]) .ret))
def ZkX:Z8:=⟨[(.tmp 4)],Zkk⟩
theorem ZrU:FC 67=some ZkX:=by kernel_rfl
theorem ZDD:ZkX.body=Zkk:=rfl
theorem ZBu:ZkX.res=[(.tmp 4)]:=rfl
def Zmi:Zo:=(.seq (.region [oI 4 (.mov (.c (.lst true [])))] none [1,0]) (.seq (.region [oM 5 0,oM 6 1,oI 7 (.call 55 0 true [(.t 5),(.t 6),(.c (.int .i64 0)),(.c (.int .i64 (-1)))]),oM 4 7] none [4]) .ret))
def ZlM:Z8:=⟨[(.tmp 4)],Zmi⟩
theorem ZwA:FC 47=some ZlM:=by kernel_rfl
theorem ZBQ:ZlM.body=Zmi:=rfl
theorem ZrP:ZlM.res=[(.tmp 4)]:=rfl
def ZhX:Zo:=(.seq (.region [oM 58 9,oM 59 10,oM 60 0,oI 61 (.iaddr 1 (.t 58) (.t 59)),oN (.st 1 (.t 61) (.t 60))] none [10,9]) (.seq (.region [oM 62 9,oM 63 10,oI 64 (.bin .add (.t 63) (.c (.int .i64 1))),oI 65 (.slice 1 (.t 62) none (some (.t 64)) none),oM 8 65] none [8]) .ret))
def Zmh:Zo:=ZhX
def ZlE:=xw Zmh ZhX rfl
def ZhA:Zo:=(.seq (.seq (.region [oM 34 10,oM 35 3,oI 36 (.bin .lss (.t 34) (.t 35))] none [36,10,9,3,2,1,0]) (.cond (.t 36) .skip (.exit 0))) (.block 1 (.seq (.region [oM 37 0,oM 38 1,oI 39 (.call 67 0 true [(.t 37),(.t 38)]),oM 11 39] none [11,10,9,3,2,1,0]) (.seq (.seq (.region [oM 40 11,oI 41 (.bin .lss (.t 40) (.c (.int .i64 0)))] none [41,11,10,9,3,2,1,0]) (.cond (.t 41) (.exit 0) .skip)) (.seq (.region [oM 42 9,oM 43 10,oM 44 0,oM 45 11,oM 46 2,oI 47 (.bin .add (.t 45) (.t 46)),oI 48 (.sslice (.t 44) none (some (.t 47))),oI 49 (.iaddr 1 (.t 42) (.t 43)),oN (.st 1 (.t 49) (.t 48))] none [11,10,9,3,2,1,0]) (.seq (.region [oM 50 0,oM 51 11,oM 52 1,oI 53 (.slen (.t 52)),oI 54 (.bin .add (.t 51) (.t 53)),oI 55 (.sslice (.t 50) (some (.t 54)) none),oM 0 55] none [10,9,3,2,1,0]) (.region [oM 56 10,oI 57 (.bin .add (.t 56) (.c (.int .i64 1))),oM 10 57] none [10,9,3,2,1,0])))))))
def Zlp:Zo:=ZhA
def Zl8:=xw Zlp ZhA rfl
def Zih:Zo:=(.seq (.region [oI 8 (.mov (.c (.lst true [])))] none [3,2,1,0]) (.seq (.seq (.region [oM 12 3,oI 13 (.bin .eql (.t 12) (.c (.int .i64 0)))] none [13,3,2,1,0]) (.cond (.t 13) (.seq (.region [oI 8 (.mov (.c (.lst true [])))] none [8]) .ret) .skip)) (.seq (.seq (.region [oM 14 1,oI 15 (.bin .eql (.t 14) (.c (.str [])))] none [15,3,2,1,0]) (.cond (.t 15) (.seq (.region [oM 16 0,oM 17 3,oI 18 (.call 65 0 true [(.t 16),(.t 17)]),oM 8 18] none [8]) .ret) .skip)) (.seq (.seq (.region [oM 19 3,oI 20 (.bin .lss (.t 19) (.c (.int .i64 0)))] none [20,3,2,1,0]) (.cond (.t 20) (.region [oM 21 0,oM 22 1,oI 23 (.call 66 0 true [(.t 21),(.t 22)]),oI 24 (.bin .add (.t 23) (.c (.int .i64 1))),oM 3 24] none [3,2,1,0]) .skip)) (.seq (.region [oM 25 3,oM 26 0,oI 27 (.slen (.t 26)),oI 28 (.bin .add (.t 27) (.c (.int .i64 1))),oI 29 (.mm false [(.t 25),(.t 28)]),oM 3 29] none [3,2,1,0]) (.seq (.region [oM 30 3,oI 31 (.mkslice 1 16 (.str []) (.t 30) (.t 30)),oM 9 31] none [9,3,2,1,0]) (.seq (.region [oM 32 3,oI 33 (.bin .sub (.t 32) (.c (.int .i64 1))),oM 3 33] none [9,3,2,1,0]) (.seq (.region [oI 10 (.mov (.c (.int .i64 0)))] none [10,9,3,2,1,0]) (.seq (.block 0 (.loop [10,9,3,2,1,0] Zlp)) Zmh)))))))))
def Zjq:Z8:=⟨[(.tmp 8)],Zih⟩
theorem Zxg:FC 55=some Zjq:=by kernel_rfl
theorem ZkP:Zjq.body=Zih:=rfl
theorem Zle:Zjq.res=[(.tmp 8)]:=rfl
noncomputable def ZiO (m:Nat) (tm:Tms) (σ:Za):Option (AVal×Za):=(ZaD m Zjq (Za0 FC PR BY m Zmh (Option.map (ZaG 0) (evL FC PR BY m [10,9,3,2,1,0] Zlp tm σ))))
end
section
def Z2:List UInt8->List (List UInt8)
 | []=>[[]]
 | b::r=>if b=47 then []::Z2 r else match Z2 r with
  | h::t=>(b::h)::t
  | []=>[[b]]
theorem ZgZ (s:List UInt8):Z2 s≠[]:=by
 cases s with
 | nil=>simp [Z2]
 | cons b r=>simp only [Z2];split <;> (try split) <;> simp
theorem Zwl {s:List UInt8} (h:s.count 47=0):Z2 s=[s]:=by
 induction s with
 | nil=>rfl
 | cons b r ih =>
  rw [Xbp] at h
  have hb:¬b=47:=by rintro rfl;simp at h
  simp only [Z2]
  rw [if_neg hb,ih (by omega)]
theorem ZAC {s:List UInt8} {k:Nat} (h:s.count 47=k+1):∃ p t,s=p++47::t/\t.count 47=k/\Z2 s=p::Z2 t/\Lib.indexByte s 47=p.length:=by
 induction s with
 | nil=>simp at h
 | cons b r ih =>
  rw [Xbp] at h
  by_cases hb:b=47
  ·subst hb
   exact ⟨[],r,rfl,by simpa using h,by simp [Z2],by simp [Lib.indexByte]⟩
  ·have hb':(b == 47)=false:=by simpa using hb
   rw [hb'] at h
   obtain ⟨p,t,rfl,h2,h3,h4⟩:=ih (by simpa using h)
   refine ⟨b::p,t,rfl,h2,?_,?_⟩
   ·simp only [Z2]
    rw [if_neg hb,h3]
   ·simp only [Lib.indexByte,hb',h4]
    simp
    try omega
theorem Zfs (s:List UInt8):(Z2 s).length=s.count 47+1:=by
 induction s with
 | nil=>rfl
 | cons b r ih =>
  simp only [Z2]
  rw [Xbp]
  split
  ·rename_i h;subst h;simp [ih]
  ·rename_i h
   have h0:=ZgZ r
   split
   ·rename_i e;rw [e] at ih;simp [h];simp at ih;omega
   ·rename_i e;exact absurd e h0
theorem ZvO (l:List UInt8) (c:UInt8):E 92 [.str l,.int .u8 c.toNat] []=some (.int .i64 (Lib.indexByte l c),[]):=by
 have : ((c.toNat:Int).toNat.toUInt8)=c:=by simp
 have h:=(Zct (fs:=FC) (prim:=PR) (bf:=BY) (f:=92) (args:=[.str l,.int .u8 c.toNat]) (σ:=[])).2 ⟨1,rfl⟩
 rw [this] at h
 exact h
theorem Zzk (σ:Za) (sq own:Nat) (view:Bool) (l:List UInt8) (c:UInt8):ZT E BY σ sq 92 own view [.str l,.int .u8 c.toNat]=some (.int .i64 (Lib.indexByte l c),σ,{}) :=
 ZaP (ZvO l c) (by kernel_rfl) (by simp -implicitDefEqProofs only [Zac,Zab,Zg,Zh,Ze,Zaa,Zj,Zi,Z9,Zf,eq_self,implies_true,Xm,Zc,Zr,Zs,Zp,Zq,Zc]) (by simp -implicitDefEqProofs only [Zac,Zab,Zg,Zh,Ze,Zaa,Zj,Zi,Z9,Zf,eq_self,implies_true,Xm,Zc,Zr,Zs,Zp,Zq,Zc]) rfl (fun _=>rfl) _ _ _ _
theorem ZwK (l:List UInt8) (c:UInt8):E 86 [.str l,.str [c]] []=some (.int .i64 (Lib.indexByte l c),[]):=by
 rw [Zar (by rfl) ZrZ]
 have e0:(((1:Nat):Int) == 0)=false:=rfl
 have e1:(((1:Nat):Int) == 1)=true:=rfl
 have hi:(if ([c] == l)=true then (0:Int) else Lib.indexByte l c)=Lib.indexByte l c:=by
  split
  ·rename_i h
   have : [c]=l:=by simpa using h
   subst this
   simp [Lib.indexByte]
  ·rfl
 simp -implicitDefEqProofs only [EQA,Zg,Zh,Ze,Zj,Zi,Zf,ZF,ZE,ZH,ZG,ZL,ZI,ZJ,ZM,ZK,implies_true,forall_const,Xh,Xi,Xl,Xd,Xe,Xj,Xk,ZC,ZD,unA,Zy,Zz,unG,reduceCtorEq,Zn,decide_eq_true_eq,Xf,Xc,ite_self,↓reduceIte,Zx,ZB,gcT,gcA,Zv,Zm,Zd,Zl,Zu,Zb,Zt,Zk,Zw,Xg,ZDJ,Zmv,ZzF,ZrA,Zl9,ZDE,ZmN,Zc,Zr,Zs,Zp,Zq,ZN,e0,e1,Zzk,Zae,Wh,Wz]
 rw [hi]
theorem ZEP (σ:Za) (sq own:Nat) (view:Bool) (l:List UInt8) (c:UInt8):ZT E BY σ sq 86 own view [.str l,.str [c]]=some (.int .i64 (Lib.indexByte l c),σ,{}) :=
 ZaP (ZwK l c) (by kernel_rfl) (by simp -implicitDefEqProofs only [Zac,Zab,Zg,Zh,Ze,Zaa,Zj,Zi,Z9,Zf,eq_self,implies_true,Xm,Zc,Zr,Zs,Zp,Zq,Zc]) (by simp -implicitDefEqProofs only [Zac,Zab,Zg,Zh,Ze,Zaa,Zj,Zi,Z9,Zf,eq_self,implies_true,Xm,Zc,Zr,Zs,Zp,Zq,Zc]) rfl (fun _=>rfl) _ _ _ _
theorem ZBh (l:List UInt8) (c:UInt8):E 67 [.str l,.str [c]] []=some (.int .i64 (Lib.indexByte l c),[]):=by
 rw [Zar (by rfl) ZrU]
 simp -implicitDefEqProofs only [EQA,Zg,Zh,Ze,Zj,Zi,Zf,ZF,ZE,ZH,ZG,ZL,ZI,ZJ,ZM,ZK,implies_true,forall_const,Xh,Xi,Xl,Xd,Xe,Xj,Xk,ZC,ZD,unA,Zy,Zz,unG,reduceCtorEq,Zn,decide_eq_true_eq,Xf,Xc,ite_self,↓reduceIte,Zx,ZB,gcT,gcA,Zv,Zm,Zd,Zl,Zu,Zb,Zt,Zk,Zw,Xg,ZDD,Zkk,ZBu,Zc,Zr,Zs,Zp,Zq,ZN,ZEP]
theorem ZyI (σ:Za) (sq own:Nat) (view:Bool) (l:List UInt8) (c:UInt8):ZT E BY σ sq 67 own view [.str l,.str [c]]=some (.int .i64 (Lib.indexByte l c),σ,{}) :=
 ZaP (ZBh l c) (by kernel_rfl) (by simp -implicitDefEqProofs only [Zac,Zab,Zg,Zh,Ze,Zaa,Zj,Zi,Z9,Zf,eq_self,implies_true,Xm,Zc,Zr,Zs,Zp,Zq,Zc]) (by simp -implicitDefEqProofs only [Zac,Zab,Zg,Zh,Ze,Zaa,Zj,Zi,Z9,Zf,eq_self,implies_true,Xm,Zc,Zr,Zs,Zp,Zq,Zc]) rfl (fun _=>rfl) _ _ _ _
theorem Zxo (l:List UInt8) (c:UInt8):E 66 [.str l,.str [c]] []=some (.int .i64 (Lib.countByte l c),[]):=Zct.2 ⟨1,rfl⟩
theorem ZCE (σ:Za) (sq own:Nat) (view:Bool) (l:List UInt8) (c:UInt8):ZT E BY σ sq 66 own view [.str l,.str [c]]=some (.int .i64 (Lib.countByte l c),σ,{}) :=
 ZaP (Zxo l c) (by kernel_rfl) (by simp -implicitDefEqProofs only [Zac,Zab,Zg,Zh,Ze,Zaa,Zj,Zi,Z9,Zf,eq_self,implies_true,Xm,Zc,Zr,Zs,Zp,Zq,Zc]) (by simp -implicitDefEqProofs only [Zac,Zab,Zg,Zh,Ze,Zaa,Zj,Zi,Z9,Zf,eq_self,implies_true,Xm,Zc,Zr,Zs,Zp,Zq,Zc]) rfl (fun _=>rfl) _ _ _ _
theorem Zyg {σ:Za} {t g k n:Nat} {xs:List AVal} (hs:σ[t]?=some (.row g k xs)) (hn:n<=xs.length) {h:Int} (h0:0<=h) (h1:h<=(xs.length:Int)) (kk:IntKind):Zby σ k (.sl t g 0 n) none (some (.int kk h)) none=some (.sl t g 0 h.toNat,σ,{ rd:=[t] }):=by
 have he:Zn σ (.sl t g 0 n)=some ((xs.drop 0).take n,[t]):=by simp [Zn,hs,hn]
 simp [Zby,he,hs,ZaC,ZcB,h0,h1]
theorem Zpu (k n:Nat) (xs:List AVal) (σ:Za):ZaV 0 (.row 0 k xs::σ) (.sl 0 0 0 n)=some (.sl 0 0 0 n,[.row 0 k xs]):=by
 rfl
theorem Zq9 {done:List (List UInt8)} {n m:Nat} (hn:n=done.length+m+1):(done.map AVal.str++Xx (n - done.length) (AVal.str []))[done.length]?=some (AVal.str []):=by
 rw [Ww (by simp),X9,W5,show n - done.length=m+1 by omega,Xan]
 rfl
theorem Zqe {done:List (List UInt8)} {n m:Nat} (hn:n=done.length+m+1) (p:List UInt8):(done.map AVal.str++Xx (n - done.length) (AVal.str [])).set done.length (AVal.str p)=(done++[p]).map AVal.str++Xx (n - (done++[p]).length) (AVal.str []):=by
 rw [List.set_append_right _ _ (by simp),X9,W5,show n - done.length=m+1 by omega,Xan,List.set_cons_zero,List.map_append,Xab,XI]
 simp only [XJ,Wm,Wt,XT,Xw,XF]
 rw [show n - (done.length+(0+1))=m by omega]
theorem ZpP (N:Nat) (hN:N<=9223372036854775807):∀ (k:Nat) (s:List UInt8) (done:List (List UInt8)),s.count 47=k->N=done.length+k+1->s.length<=9223372036854775807 ->
  ZiO 0 [(10,.int .i64 done.length),(9,.sl 0 0 0 N),(3,.int .i64 (N - 1:Int)),(2,.int .i64 0),(1,.str [47]),(0,.str s)] [.row 0 1 (done.map AVal.str++Xx (N - done.length) (AVal.str []))] =
   some (.sl 0 0 0 N,[.row 0 1 ((done++Z2 s).map AVal.str)])
 | 0,s,done,hk,hNd,hs=>by
  have h1:¬((done.length:Int) < (N - 1:Int)):=by omega
  have i0:(0:Int)<=(done.length:Int):=by omega
  have i1:done.length < N:=by omega
  have hg:=Zq9 (done:=done) (n:=N) (m:=0) (by omega)
  have hst:=Zqe (done:=done) (n:=N) (m:=0) (by omega) s
  have hw:IntKind.i64.wrap ((done.length:Int)+1)=(N:Int):=by rw [Zbp (by omega) (by omega)];omega
  rw [Zwl hk]
  have he:(done++[s]).map AVal.str++Xx (N - (done++[s]).length) (AVal.str [])=(done++[s]).map AVal.str:=by
   have : N - (done++[s]).length=0:=by simp;omega
   rw [this];simp
  rw [he] at hst
  have hl:((done++[s]).map AVal.str).length=N:=by simp;omega
  have hl0:(done.map AVal.str++Xx (N - done.length) (AVal.str [])).length=N:=by simp;omega
  generalize hX:done.map AVal.str++Xx (N - done.length) (AVal.str [])=X at *
  generalize hY:(done++[s]).map AVal.str=Y at *
  have hsl:Zby [ZU.row 0 1 Y] 1 (.sl 0 0 0 N) none (some (.int .i64 (N:Int))) none=some (.sl 0 0 0 N,[ZU.row 0 1 Y],{ rd:=[0] }):=by
   have:=Zyg (σ:=[ZU.row 0 1 Y]) (t:=0) (g:=0) (k:=1) (n:=N) (xs:=Y) rfl (by omega) (h:=(N:Int)) (by omega) (by omega) .i64
   simpa using this
  unfold ZiO
  rw [Z7]
  simp -implicitDefEqProofs only [EQA,Zg,Zh,Ze,Zj,Zi,Zf,ZF,ZE,ZH,ZG,ZL,ZI,ZJ,ZM,ZK,implies_true,forall_const,Xh,Xi,Xl,Xd,Xe,Xj,Xk,ZC,ZD,unA,Zy,Zz,unG,reduceCtorEq,Zn,decide_eq_true_eq,Xf,Xc,ite_self,↓reduceIte,Zx,ZB,gcT,gcA,Zv,Zm,Zd,Zl,Zu,Zb,Zt,Zk,Zw,Xg,ZkP,Zih,Zle,ZlE,ZhX,Zl8,ZhA,Zc,Zr,Zs,Zp,Zq,ZN,h1,i0,i1,hg,hst,hw,hl,hl0,hsl,Zpu,X0,Za6,XD,Zba,ZaO,Zdl,ZR]
 | k+1,s,done,hk,hNd,hs=>by
  obtain ⟨p,t,rfl,ht,hsp,hidx⟩:=ZAC hk
  have hlen:(p++47::t).length=p.length+t.length+1:=by simp;omega
  have ih:=ZpP N hN k t (done++[p]) ht (by simp;omega) (by omega)
  have h1:((done.length:Int) < (N - 1:Int)):=by omega
  have i0:(0:Int)<=(done.length:Int):=by omega
  have i1:done.length < N:=by omega
  have hg:=Zq9 (done:=done) (n:=N) (m:=k+1) (by omega)
  have hst:=Zqe (done:=done) (n:=N) (m:=k+1) (by omega) p
  have hw:IntKind.i64.wrap ((done.length:Int)+1)=(((done++[p]).length:Nat):Int):=by rw [Zbp (by omega) (by omega)];simp
  rw [hsp,show done++p::Z2 t=(done++[p])++Z2 t by simp]
  have hi:Lib.indexByte (p++47::t) 47=p.length:=hidx
  have n1:¬((p.length:Int) < 0):=by omega
  have w1:IntKind.i64.wrap ((p.length:Int)+0)=p.length:=by rw [Zbp (by omega) (by omega)];omega
  have w2:IntKind.i64.wrap ((p.length:Int)+((1:Nat):Int))=p.length+1:=by rw [Zbp (by omega) (by omega)];rfl
  have p0:(0:Int)<=(p.length:Int):=by omega
  have p1:(0:Int)<=(p.length:Int)+1:=by omega
  have e1:((p++47::t).take p.length)=p:=by simp
  have e2:((p++47::t).drop (p.length+1))=t:=by rw [List.drop_append];simp
  have e3:((p++47::t).take (p++47::t).length)=p++47::t:=List.take_length
  have t1:((p.length:Int)+1).toNat=p.length+1:=by omega
  have l1:(p.length:Int)<=(((p++47::t).length:Nat):Int):=by omega
  have l2:(p.length:Int)+1<=(((p++47::t).length:Nat):Int):=by omega
  have hl0:(done.map AVal.str++Xx (N - done.length) (AVal.str [])).length=N:=by simp;omega
  generalize hX:done.map AVal.str++Xx (N - done.length) (AVal.str [])=X at *
  generalize hY:(done++[p]).map AVal.str++Xx (N - (done++[p]).length) (AVal.str [])=Y at *
  generalize hS:p++47::t=S at *
  generalize hD:(done++[p]).length=D at *
  unfold ZiO at ih ⊢
  rw [Z7]
  simp -implicitDefEqProofs only [EQA,Zg,Zh,Ze,Zj,Zi,Zf,ZF,ZE,ZH,ZG,ZL,ZI,ZJ,ZM,ZK,implies_true,forall_const,Xh,Xi,Xl,Xd,Xe,Xj,Xk,ZC,ZD,unA,Zy,Zz,unG,reduceCtorEq,Zn,decide_eq_true_eq,Xf,Xc,ite_self,↓reduceIte,Zx,ZB,gcT,gcA,Zv,Zm,Zd,Zl,Zu,Zb,Zt,Zk,Zw,Xg,ZkP,Zih,Zle,ZlE,ZhX,Zl8,ZhA,Zc,Zr,Zs,Zp,Zq,ZN,h1,i0,i1,hg,hst,hw,hl0,ZyI,hi,n1,w1,w2,p0,p1,e1,e2,e3,t1,l1,l2,ZaC,ZcB,X0,Za6,XD,Zba,ZaO,Zdl,ZR]
  exact ih
theorem Zxt (s:List UInt8) (hs:s.length*16<=140737488355328 - 16):E 55 [.str s,.str [47],.int .i64 0,.int .i64 (-1)] []=some (.sl 0 0 0 (s.count 47+1),[.row 0 1 ((Z2 s).map AVal.str)]):=by
 have hc:=WX (a:=(47:UInt8)) (l:=s)
 have key:=ZpP (s.count 47+1) (by omega) (s.count 47) s [] rfl (by simp) (by omega)
 rw [Zar (by rfl) Zxg]
 unfold ZiO at key
 have e0:(((-1:Int)) == 0)=false:=rfl
 have e1:(([47]:List UInt8) == [])=false:=rfl
 have e2:((-1:Int) < 0)=True:=by simp
 have w1:IntKind.i64.wrap (((Lib.countByte s 47:Nat):Int)+1)=((s.count 47+1:Nat):Int):=by
  show IntKind.i64.wrap (((s.count 47:Nat):Int)+1)=_
  rw [Zbp (by omega) (by omega)];rfl
 have w2:IntKind.i64.wrap (((s.length:Nat):Int)+1)=((s.length+1:Nat):Int):=by rw [Zbp (by omega) (by omega)];rfl
 have w3:IntKind.i64.wrap (((s.count 47+1:Nat):Int) - 1)=((s.count 47+1:Nat):Int) - 1:=by rw [Zbp (by omega) (by omega)]
 have n1:¬(((s.count 47+1:Nat):Int) > ((s.length+1:Nat):Int)):=by omega
 have m1:(0:Int)<=((s.count 47+1:Nat):Int):=by omega
 have m2:((s.count 47+1:Nat):Int)<=9223372036854775807:=by omega
 have m3:((16:Nat):Int)*((s.count 47+1:Nat):Int)<=140737488355328:=by omega
 simp only [Wm,XT,XF,Nat.sub_zero] at key
 have z0:((0:Nat):Int)=0:=rfl
 rw [z0] at key
 simp -implicitDefEqProofs only [EQA,Zg,Zh,Ze,Zj,Zi,Zf,ZF,ZE,ZH,ZG,ZL,ZI,ZJ,ZM,ZK,implies_true,forall_const,Xh,Xi,Xl,Xd,Xe,Xj,Xk,ZC,ZD,unA,Zy,Zz,unG,reduceCtorEq,Zn,decide_eq_true_eq,Xf,Xc,ite_self,↓reduceIte,Zx,ZB,gcT,gcA,Zv,Zm,Zd,Zl,Zu,Zb,Zt,Zk,Zw,Xg,ZkP,Zih,Zle,ZlE,ZhX,Zl8,ZhA,Zc,Zr,Zs,Zp,Zq,ZN,e0,e1,e2,w1,w2,w3,n1,m1,m2,m3,ZCE,X0,Wz]
 rw [Xan] at key
 exact key
theorem ZoR {O:ZW} {bf:Nat->Bool} {f:Nat} {args:List AVal} {k n:Nat} {xs:List AVal} (h:O f args []=some (.sl 0 0 0 n,[.row 0 k xs])) (hn:xs.length=n) (hb:bf f=false) (hp:args.all Zaq=true) (hm:args.map Zaf=args) (σ:Za) (sq own:Nat):ZT O bf σ sq f own true args=some (.lst false xs,σ,{}):=by
 rw [Zm6 hb hp,hm,h]
 have : Zau true 0 (some (.sl 0 0 0 n,[.row 0 k xs]))=some (.lst false xs,[]):=by
  unfold Zau
  rw [if_pos rfl,ZpW (k:=k) (g:=0) (t:=0) (xs:=xs) rfl (by omega),X5 (by omega)]
 rw [this,ZlH _ _ _ _ rfl]
def ZeO (l:List (List UInt8)):AVal:=.lst false (l.map AVal.str)
theorem ZAZ (s:List UInt8) (hs:s.length*16<=140737488355328 - 16):E 47 [.str s,.str [47]] []=some (ZeO (Z2 s),[]):=by
 have hC:=fun σ sq own=>ZoR (bf:=BY) (Zxt s hs) (by rw [X9,Zfs]) (by kernel_rfl) rfl rfl σ sq own
 rw [Zar (by rfl) ZwA]
 simp -implicitDefEqProofs only [EQA,Zg,Zh,Ze,Zj,Zi,Zf,ZF,ZE,ZH,ZG,ZL,ZI,ZJ,ZM,ZK,implies_true,forall_const,Xh,Xi,Xl,Xd,Xe,Xj,Xk,ZC,ZD,unA,Zy,Zz,unG,reduceCtorEq,Zn,decide_eq_true_eq,Xf,Xc,ite_self,↓reduceIte,Zx,ZB,gcT,gcA,Zv,Zm,Zd,Zl,Zu,Zb,Zt,Zk,Zw,Xg,ZBQ,Zmi,ZrP,Zc,Zr,Zs,Zp,Zq,ZN,hC,ZeO]
theorem ZuI (σ:Za) (sq own:Nat) (view:Bool) (s:List UInt8) (hs:s.length*16<=140737488355328 - 16):ZT E BY σ sq 47 own view [.str s,.str [47]]=some (.lst false ((Z2 s).map AVal.str),σ,{}) :=
 ZaP (ZAZ s hs) (by kernel_rfl) (by simp -implicitDefEqProofs only [Zac,Zab,Zg,Zh,Ze,Zaa,Zj,Zi,Z9,Zf,eq_self,implies_true,Xm,Zc,Zr,Zs,Zp,Zq,ZeO]) (by simp -implicitDefEqProofs only [Zac,Zab,Zg,Zh,Ze,Zaa,Zj,Zi,Z9,Zf,eq_self,implies_true,Xm,Zc,Zr,Zs,Zp,Zq,ZeO]) rfl (fun _=>rfl) _ _ _ _
theorem ZEE (s:List UInt8) (hs:s.length*16<=140737488355328 - 16):E 31 [.str s] []=some (ZeO (Z2 s),[]):=by
 have hC:=fun σ sq own view=>ZuI σ sq own view s hs
 rw [Zar (by rfl) ZBP]
 simp -implicitDefEqProofs only [EQA,Zg,Zh,Ze,Zj,Zi,Zf,ZF,ZE,ZH,ZG,ZL,ZI,ZJ,ZM,ZK,implies_true,forall_const,Xh,Xi,Xl,Xd,Xe,Xj,Xk,ZC,ZD,unA,Zy,Zz,unG,reduceCtorEq,Zn,decide_eq_true_eq,Xf,Xc,ite_self,↓reduceIte,Zx,ZB,gcT,gcA,Zv,Zm,Zd,Zl,Zu,Zb,Zt,Zk,Zw,Xg,ZBb,Zkv,ZAG,Zc,Zr,Zs,Zp,Zq,ZN,hC,ZeO]
theorem ZmG (σ:Za) (sq own:Nat) (view:Bool) (s:List UInt8) (hs:s.length*16<=140737488355328 - 16):ZT E BY σ sq 31 own view [.str s]=some (.lst false ((Z2 s).map AVal.str),σ,{}) :=
 ZaP (ZEE s hs) (by kernel_rfl) (by simp -implicitDefEqProofs only [Zac,Zab,Zg,Zh,Ze,Zaa,Zj,Zi,Z9,Zf,eq_self,implies_true,Xm,Zc,Zr,Zs,Zp,Zq,ZeO]) (by simp -implicitDefEqProofs only [Zac,Zab,Zg,Zh,Ze,Zaa,Zj,Zi,Z9,Zf,eq_self,implies_true,Xm,Zc,Zr,Zs,Zp,Zq,ZeO]) rfl (fun _=>rfl) _ _ _ _
section
theorem ZCp (k n:Nat) (xs:List AVal) (σ:Za):ZaV 0 (.row 1 k xs::σ) (.sl 0 1 0 n)=some (.sl 0 0 0 n,[.row 0 k xs]):=by
 rfl
def Zdj (now:List UInt8):List (List UInt8)->List (List UInt8)
 | h::t=>(now++h)::t
 | []=>[now]
theorem Zw2 (now r:List UInt8):Zdj now (Z2 (47::r))=now::Z2 r:=by simp [Z2,Zdj]
theorem Zw1 (now r:List UInt8) (b:UInt8) (h:¬b=47):Zdj now (Z2 (b::r))=Zdj (now++[b]) (Z2 r):=by
 simp only [Z2]
 rw [if_neg h]
 have:=ZgZ r
 split
 ·rename_i e;simp [e,Zdj]
 ·rename_i e;exact absurd e this
theorem Zpt (l:List (List UInt8)) (h:l≠[]):Zdj [] l=l:=by
 cases l with
 | nil=>exact absurd rfl h
 | cons a l=>rfl
theorem ZjO (s:List UInt8) (hs:s.length*16<=140737488355328 - 64):∀ (r:List UInt8) (i:Nat) (now:List UInt8) (done:List (List UInt8)),s.drop i=r->i<=s.length->done.length<=i->now.length<=i ->
  (Zfx 0 [(5,.int .i64 i),(4,.str now),(3,.lst true []),(0,.str s)] []=some (.sl 0 0 0 (Zdj now (Z2 r)).length,[.row 0 1 ((Zdj now (Z2 r)).map AVal.str)])) /\
  (Zfx 0 [(5,.int .i64 i),(4,.str now),(3,.sl 0 0 0 done.length),(0,.str s)] [.row 0 1 (done.map AVal.str)]=some (.sl 0 0 0 (done++Zdj now (Z2 r)).length,[.row 0 1 ((done++Zdj now (Z2 r)).map AVal.str)]))
 | [],i,now,done,h,hi,hd,hn=>by
  have h1:=Zdq h
  have g1:Zdj now (Z2 [])=[now]:=by simp [Z2,Zdj]
  have b2:(done.length+1)*16<=140737488355328:=by omega
  have hlen:(done.map AVal.str).length=done.length:=X9 ..
  have hm:(done++[now]).map AVal.str=done.map AVal.str++[.str now]:=by simp
  have hl2:(done++[now]).length=done.length+1:=by simp
  rw [g1,hm,hl2]
  generalize done.map AVal.str=X at *
  constructor
  ·unfold Zfx
   rw [Z7]
   simp -implicitDefEqProofs only [EQA,Zg,Zh,Ze,Zj,Zi,Zf,ZF,ZE,ZH,ZG,ZL,ZI,ZJ,ZM,ZK,implies_true,forall_const,Xh,Xi,Xl,Xd,Xe,Xj,Xk,ZC,ZD,unA,Zy,Zz,unG,reduceCtorEq,Zn,decide_eq_true_eq,Xf,Xc,ite_self,↓reduceIte,Zx,ZB,gcT,gcA,Zv,Zm,Zd,Zl,Zu,Zb,Zt,Zk,Zw,Xg,ZfX,ZeI,Zfz,Zf4,Zeh,Zf8,Zev,Zc,Zr,Zs,Zp,Zq,ZN,h1,ZaE,kOk,viewAs,Zbc,ZaO,Zba,ZR,W6,Xbg,Za6,Zdl,Zpu]
  ·unfold Zfx
   rw [Z7]
   simp -implicitDefEqProofs only [EQA,Zg,Zh,Ze,Zj,Zi,Zf,ZF,ZE,ZH,ZG,ZL,ZI,ZJ,ZM,ZK,implies_true,forall_const,Xh,Xi,Xl,Xd,Xe,Xj,Xk,ZC,ZD,unA,Zy,Zz,unG,reduceCtorEq,Zn,decide_eq_true_eq,Xf,Xc,ite_self,↓reduceIte,Zx,ZB,gcT,gcA,Zv,Zm,Zd,Zl,Zu,Zb,Zt,Zk,Zw,Xg,ZfX,ZeI,Zfz,Zf4,Zeh,Zf8,Zev,Zc,Zr,Zs,Zp,Zq,ZN,h1,ZaE,kOk,viewAs,Zbc,ZaO,Zba,ZR,W6,Xbg,Za6,Zdl,ZCp,b2,hlen]
 | b::r,i,now,done,h,hi,hd,hn=>by
  have hlt:=(Zao h).2.2
  have h1:(i:Int) < s.length:=by omega
  have h2:=(Zao h).1
  have h3:=ZbG (i:=i) (n:=s.length) h1 (by omega)
  have i0:(0:Int)<=(i:Int):=by omega
  have b2:(done.length+1)*16<=140737488355328:=by omega
  have hlen:(done.map AVal.str).length=done.length:=X9 ..
  have hm:(done++[now]).map AVal.str=done.map AVal.str++[.str now]:=by simp
  by_cases hb:b=47
  ·subst hb
   have hbi:(((47:UInt8).toNat:Int) == 47)=true:=rfl
   obtain ⟨ih1,ih2⟩:=ZjO s hs r (i+1) [] (done++[now]) (Zao h).2.1 (by omega) (by simp;omega) (by simp)
   have ih1':=(ZjO s hs r (i+1) [] [now] (Zao h).2.1 (by omega) (by simp) (by simp)).2
   have hl2:(done++[now]).length=done.length+1:=by simp
   have gn:=Zpt (Z2 r) (ZgZ r)
   rw [gn] at ih2 ih1'
   rw [Zw2]
   simp only [XJ,Wm,Xw,XF,XD,Wt,XT] at ih1'
   rw [hm,hl2,show (done++[now]++Z2 r)=done++now::Z2 r by simp] at ih2
   generalize done.map AVal.str=X at *
   unfold Zfx at ih1' ih2 ⊢
   constructor
   ·rw [Z7]
    simp -implicitDefEqProofs only [EQA,Zg,Zh,Ze,Zj,Zi,Zf,ZF,ZE,ZH,ZG,ZL,ZI,ZJ,ZM,ZK,implies_true,forall_const,Xh,Xi,Xl,Xd,Xe,Xj,Xk,ZC,ZD,unA,Zy,Zz,unG,reduceCtorEq,Zn,decide_eq_true_eq,Xf,Xc,ite_self,↓reduceIte,Zx,ZB,gcT,gcA,Zv,Zm,Zd,Zl,Zu,Zb,Zt,Zk,Zw,Xg,ZfX,ZeI,Zfz,Zf4,Zeh,Zf8,Zev,Zc,Zr,Zs,Zp,Zq,ZN,h1,h2,h3,i0,hbi,Zae,ZaE,kOk,viewAs,Zbc,ZaO,Zba,ZR,W6,Xbg,Za6,Zdl,X0]
    exact ih1'
   ·rw [Z7]
    simp -implicitDefEqProofs only [EQA,Zg,Zh,Ze,Zj,Zi,Zf,ZF,ZE,ZH,ZG,ZL,ZI,ZJ,ZM,ZK,implies_true,forall_const,Xh,Xi,Xl,Xd,Xe,Xj,Xk,ZC,ZD,unA,Zy,Zz,unG,reduceCtorEq,Zn,decide_eq_true_eq,Xf,Xc,ite_self,↓reduceIte,Zx,ZB,gcT,gcA,Zv,Zm,Zd,Zl,Zu,Zb,Zt,Zk,Zw,Xg,ZfX,ZeI,Zfz,Zf4,Zeh,Zf8,Zev,Zc,Zr,Zs,Zp,Zq,ZN,h1,h2,h3,i0,hbi,Zae,ZaE,kOk,viewAs,Zbc,ZaO,Zba,ZR,W6,Xbg,Za6,Zdl,X0,b2,hlen]
    exact ih2
  ·have hbi:((b.toNat:Int) == 47)=false:=by
    rw [beq_eq_false_iff_ne]
    intro e
    apply hb
    rw [<-Xam]
    have : (47:UInt8).toNat=47:=rfl
    omega
   obtain ⟨ih1,ih2⟩:=ZjO s hs r (i+1) (now++[b]) done (Zao h).2.1 (by omega) (by omega) (by simp;omega)
   rw [<-Zw1 now r b hb] at ih1 ih2
   have hsl:((s.take (i+1)).drop i)=[b]:=by
    rw [List.drop_take,show i+1 - i=1 by omega,List.drop_eq_getElem_cons hlt]
    have : s[i]=b:=by rw [Xz hlt] at h2;injection h2
    rw [this];rfl
   have hc:now.length+1<=9223372036854775807:=by omega
   have k0:(0:Int)<=((i+1:Nat):Int):=by omega
   have k1:((i+1:Nat):Int)<=((s.length:Nat):Int):=by omega
   have k2:(i:Int)<=((i+1:Nat):Int):=by omega
   unfold Zfx at ih1 ih2 ⊢
   constructor
   ·rw [Z7]
    simp -implicitDefEqProofs only [EQA,Zg,Zh,Ze,Zj,Zi,Zf,ZF,ZE,ZH,ZG,ZL,ZI,ZJ,ZM,ZK,implies_true,forall_const,Xh,Xi,Xl,Xd,Xe,Xj,Xk,ZC,ZD,unA,Zy,Zz,unG,reduceCtorEq,Zn,decide_eq_true_eq,Xf,Xc,ite_self,↓reduceIte,Zx,ZB,gcT,gcA,Zv,Zm,Zd,Zl,Zu,Zb,Zt,Zk,Zw,Xg,ZfX,ZeI,Zfz,Zf4,Zeh,Zf8,Zev,Zc,Zr,Zs,Zp,Zq,ZN,h1,h2,h3,i0,hbi,Zae,hsl,hc,k0,k1,k2,ZaC,ZcB,X0]
    exact ih1
   ·rw [Z7]
    simp -implicitDefEqProofs only [EQA,Zg,Zh,Ze,Zj,Zi,Zf,ZF,ZE,ZH,ZG,ZL,ZI,ZJ,ZM,ZK,implies_true,forall_const,Xh,Xi,Xl,Xd,Xe,Xj,Xk,ZC,ZD,unA,Zy,Zz,unG,reduceCtorEq,Zn,decide_eq_true_eq,Xf,Xc,ite_self,↓reduceIte,Zx,ZB,gcT,gcA,Zv,Zm,Zd,Zl,Zu,Zb,Zt,Zk,Zw,Xg,ZfX,ZeI,Zfz,Zf4,Zeh,Zf8,Zev,Zc,Zr,Zs,Zp,Zq,ZN,h1,h2,h3,i0,hbi,Zae,hsl,hc,k0,k1,k2,ZaC,ZcB,X0]
    exact ih2
theorem ZFv (s:List UInt8) (hs:s.length*16<=140737488355328 - 64):E 41 [.str s] []=some (.sl 0 0 0 (Z2 s).length,[.row 0 1 ((Z2 s).map AVal.str)]):=by
 have key:=(ZjO s hs s 0 [] [] rfl (by omega) (by simp) (by simp)).1
 rw [Zpt _ (ZgZ s)] at key
 rw [Zar (by rfl) ZDS]
 unfold Zfx at key
 have z0:((0:Nat):Int)=0:=rfl
 rw [z0] at key
 simp -implicitDefEqProofs only [EQA,Zg,Zh,Ze,Zj,Zi,Zf,ZF,ZE,ZH,ZG,ZL,ZI,ZJ,ZM,ZK,implies_true,forall_const,Xh,Xi,Xl,Xd,Xe,Xj,Xk,ZC,ZD,unA,Zy,Zz,unG,reduceCtorEq,Zn,decide_eq_true_eq,Xf,Xc,ite_self,↓reduceIte,Zx,ZB,gcT,gcA,Zv,Zm,Zd,Zl,Zu,Zb,Zt,Zk,Zw,Xg,ZfX,ZeI,Zfz,Zf4,Zeh,Zf8,Zev,Zc,Zr,Zs,Zp,Zq,ZN,Zc]
 exact key
theorem ZkZ (σ:Za) (sq own:Nat) (s:List UInt8) (hs:s.length*16<=140737488355328 - 64):ZT E BY σ sq 41 own true [.str s]=some (.lst false ((Z2 s).map AVal.str),σ,{}) :=
 ZoR (ZFv s hs) (X9 ..) (by kernel_rfl) rfl rfl σ sq own
end
end
section
theorem ZoY (s:List UInt8):∀ x ∈ Z2 s,x.length<=s.length:=by
 induction s with
 | nil=>simp [Z2]
 | cons b r ih =>
  simp only [Z2]
  split
  ·intro x hx
   rcases XA.1 hx with rfl | hx
   ·simp
   ·have:=ih x hx;simp;omega
  ·split
   ·rename_i h t e
    intro x hx
    rw [e] at ih
    rcases XA.1 hx with rfl | hx
    ·have:=ih h (by simp);simp;omega
    ·have:=ih x (by simp [hx]);simp;omega
   ·intro x hx
    have : x=[b]:=by simpa using hx
    subst this;simp
def ZgR (last:Bool) (x:List UInt8):Bool:=x == [43] || (x == [35] && last) || !Za4 x
def Zfm:List (List UInt8)->Bool
 | []=>true
 | x::r=>ZgR r.isEmpty x && Zfm r
def ZdU (s:List UInt8):Bool:=Zfm (Z2 s) && ZcF s
theorem Zqa {α:Type} {l:List α} {i:Nat} {x:α} {r:List α} (h:l.drop i=x::r):((i:Int) == ((l.length:Int) - 1))=r.isEmpty:=by
 have h1:=congrArg XaT h
 simp only [WG,Xw] at h1
 cases r with
 | nil=>simp at h1 ⊢;omega
 | cons y r=>simp at h1 ⊢;omega
theorem Zph (s:List UInt8) (L:List (List UInt8)) (hL:L.length<=9223372036854775807) (hx:∀ x ∈ L,x.length<=9223372036854775807):∀ (r:List (List UInt8)) (i:Nat),L.drop i=r ->
  ZjF 0 [(11,.int .i64 i),(10,.int .i64 L.length),(9,.lst false (L.map AVal.str)),(3,.lst false (L.map AVal.str)),(0,.str s)] []=some (.bool (Zfm r && ZcF s),[])
 | [],i,h=>by
  have h1:=Zdq h
  unfold ZjF
  rw [Z7]
  simp -implicitDefEqProofs only [EQA,Zg,Zh,Ze,Zj,Zi,Zf,ZF,ZE,ZH,ZG,ZL,ZI,ZJ,ZM,ZK,implies_true,forall_const,Xh,Xi,Xl,Xd,Xe,Xj,Xk,ZC,ZD,unA,Zy,Zz,unG,reduceCtorEq,Zn,decide_eq_true_eq,Xf,Xc,ite_self,↓reduceIte,Zx,ZB,gcT,gcA,Zv,Zm,Zd,Zl,Zu,Zb,Zt,Zk,Zw,Xg,Zfa,Zea,Zfc,ZeK,ZdN,Ze8,Zd3,Zc,Zr,Zs,Zp,Zq,ZN,h1,Zlo]
  rfl
 | x::r,i,h=>by
  have ih:=Zph s L hL hx r (i+1) (Zao h).2.1
  have hlt:=(Zao h).2.2
  have h1:(i:Int) < L.length:=by omega
  have e1:=iad (Zao h).1 AVal.str (k:=1) rfl
  have h3:=ZbG h1 hL
  have hmem:x ∈ L:=Xt (Zao h).1
  have hC:=fun σ sq own view=>ZnH σ sq own view x (hx x hmem)
  have w1:IntKind.i64.wrap ((L.length:Int) - 1)=(L.length:Int) - 1:=Zbp (by omega) (by omega)
  have hla:=Zqa h
  have ee:Zfm (x::r)=(ZgR r.isEmpty x && Zfm r):=rfl
  rw [ee]
  unfold ZgR
  unfold ZjF at ih ⊢
  rw [Z7]
  cases hp:(x == [43])
  ·cases hq:(x == [35])
   ·cases hz:Za4 x
    ·simp -implicitDefEqProofs only [EQA,Zg,Zh,Ze,Zj,Zi,Zf,ZF,ZE,ZH,ZG,ZL,ZI,ZJ,ZM,ZK,implies_true,forall_const,Xh,Xi,Xl,Xd,Xe,Xj,Xk,ZC,ZD,unA,Zy,Zz,unG,reduceCtorEq,Zn,decide_eq_true_eq,Xf,Xc,ite_self,↓reduceIte,Zx,ZB,gcT,gcA,Zv,Zm,Zd,Zl,Zu,Zb,Zt,Zk,Zw,Xg,Zfa,Zea,Zfc,ZeK,ZdN,Ze8,Zd3,Zc,Zr,Zs,Zp,Zq,ZN,h1,e1,h3,hC,w1,hla,hp,hq,hz]
     exact ih
    ·simp -implicitDefEqProofs only [EQA,Zg,Zh,Ze,Zj,Zi,Zf,ZF,ZE,ZH,ZG,ZL,ZI,ZJ,ZM,ZK,implies_true,forall_const,Xh,Xi,Xl,Xd,Xe,Xj,Xk,ZC,ZD,unA,Zy,Zz,unG,reduceCtorEq,Zn,decide_eq_true_eq,Xf,Xc,ite_self,↓reduceIte,Zx,ZB,gcT,gcA,Zv,Zm,Zd,Zl,Zu,Zb,Zt,Zk,Zw,Xg,Zfa,Zea,Zfc,ZeK,ZdN,Ze8,Zd3,Zc,Zr,Zs,Zp,Zq,ZN,h1,e1,h3,hC,w1,hla,hp,hq,hz]
   ·cases hr:r.isEmpty
    ·cases hz:Za4 x
     ·simp -implicitDefEqProofs only [EQA,Zg,Zh,Ze,Zj,Zi,Zf,ZF,ZE,ZH,ZG,ZL,ZI,ZJ,ZM,ZK,implies_true,forall_const,Xh,Xi,Xl,Xd,Xe,Xj,Xk,ZC,ZD,unA,Zy,Zz,unG,reduceCtorEq,Zn,decide_eq_true_eq,Xf,Xc,ite_self,↓reduceIte,Zx,ZB,gcT,gcA,Zv,Zm,Zd,Zl,Zu,Zb,Zt,Zk,Zw,Xg,Zfa,Zea,Zfc,ZeK,ZdN,Ze8,Zd3,Zc,Zr,Zs,Zp,Zq,ZN,h1,e1,h3,hC,w1,hla,hp,hq,hz,hr]
      exact ih
     ·simp -implicitDefEqProofs only [EQA,Zg,Zh,Ze,Zj,Zi,Zf,ZF,ZE,ZH,ZG,ZL,ZI,ZJ,ZM,ZK,implies_true,forall_const,Xh,Xi,Xl,Xd,Xe,Xj,Xk,ZC,ZD,unA,Zy,Zz,unG,reduceCtorEq,Zn,decide_eq_true_eq,Xf,Xc,ite_self,↓reduceIte,Zx,ZB,gcT,gcA,Zv,Zm,Zd,Zl,Zu,Zb,Zt,Zk,Zw,Xg,Zfa,Zea,Zfc,ZeK,ZdN,Ze8,Zd3,Zc,Zr,Zs,Zp,Zq,ZN,h1,e1,h3,hC,w1,hla,hp,hq,hz,hr]
    ·simp -implicitDefEqProofs only [EQA,Zg,Zh,Ze,Zj,Zi,Zf,ZF,ZE,ZH,ZG,ZL,ZI,ZJ,ZM,ZK,implies_true,forall_const,Xh,Xi,Xl,Xd,Xe,Xj,Xk,ZC,ZD,unA,Zy,Zz,unG,reduceCtorEq,Zn,decide_eq_true_eq,Xf,Xc,ite_self,↓reduceIte,Zx,ZB,gcT,gcA,Zv,Zm,Zd,Zl,Zu,Zb,Zt,Zk,Zw,Xg,Zfa,Zea,Zfc,ZeK,ZdN,Ze8,Zd3,Zc,Zr,Zs,Zp,Zq,ZN,h1,e1,h3,hC,w1,hla,hp,hq,hr]
     exact ih
  ·simp -implicitDefEqProofs only [EQA,Zg,Zh,Ze,Zj,Zi,Zf,ZF,ZE,ZH,ZG,ZL,ZI,ZJ,ZM,ZK,implies_true,forall_const,Xh,Xi,Xl,Xd,Xe,Xj,Xk,ZC,ZD,unA,Zy,Zz,unG,reduceCtorEq,Zn,decide_eq_true_eq,Xf,Xc,ite_self,↓reduceIte,Zx,ZB,gcT,gcA,Zv,Zm,Zd,Zl,Zu,Zb,Zt,Zk,Zw,Xg,Zfa,Zea,Zfc,ZeK,ZdN,Ze8,Zd3,Zc,Zr,Zs,Zp,Zq,ZN,h1,e1,h3,hC,w1,hla,hp]
   exact ih
theorem ZzP (s:List UInt8) (hs:s.length*16<=140737488355328 - 64):E 29 [.str s] []=some (.bool (ZdU s),[]):=by
 have hC:=fun σ sq own view=>ZmG σ sq own view s (by omega)
 have hlen:=Zfs s
 have hcl:=WX (a:=(47:UInt8)) (l:=s)
 have key:=Zph s (Z2 s) (by omega) (fun x hx=>by have:=ZoY s x hx;omega) (Z2 s) 0 rfl
 rw [Zar (by rfl) Zu6]
 unfold ZjF at key
 have z0:((0:Nat):Int)=0:=rfl
 rw [z0] at key
 simp -implicitDefEqProofs only [EQA,Zg,Zh,Ze,Zj,Zi,Zf,ZF,ZE,ZH,ZG,ZL,ZI,ZJ,ZM,ZK,implies_true,forall_const,Xh,Xi,Xl,Xd,Xe,Xj,Xk,ZC,ZD,unA,Zy,Zz,unG,reduceCtorEq,Zn,decide_eq_true_eq,Xf,Xc,ite_self,↓reduceIte,Zx,ZB,gcT,gcA,Zv,Zm,Zd,Zl,Zu,Zb,Zt,Zk,Zw,Xg,Zfa,Zea,Zfc,ZeK,ZdN,Ze8,Zd3,Zc,Zr,Zs,Zp,Zq,ZN,hC]
 exact key
theorem ZGb (σ:Za) (sq own:Nat) (view:Bool) (s:List UInt8) (hs:s.length*16<=140737488355328 - 64):ZT E BY σ sq 29 own view [.str s]=some (.bool (ZdU s),σ,{}) :=
 ZaP (ZzP s hs) (by kernel_rfl) (by simp -implicitDefEqProofs only [Zac,Zab,Zg,Zh,Ze,Zaa,Zj,Zi,Z9,Zf,eq_self,implies_true,Xm,Zc,Zr,Zs,Zp,Zq,Zc]) (by simp -implicitDefEqProofs only [Zac,Zab,Zg,Zh,Ze,Zaa,Zj,Zi,Z9,Zf,eq_self,implies_true,Xm,Zc,Zr,Zs,Zp,Zq,Zc]) rfl (fun _=>rfl) _ _ _ _
theorem Zw7 (last:Bool) (x:List UInt8):ZgR last x=!((Zci x 35 && (!(x == [35]) || !last)) || (Zci x 43 && !(x == [43]))):=by
 unfold ZgR
 rw [Zqr]
 by_cases h1:x=[43]
 ·subst h1;cases last <;> rfl
 ·by_cases h2:x=[35]
  ·subst h2;cases last <;> rfl
  ·have e1:(x == [43])=false:=by simpa using h1
   have e2:(x == [35])=false:=by simpa using h2
   rw [e1,e2]
   cases Zci x 43 <;> cases Zci x 35 <;> rfl
theorem Zra (L:List (List UInt8)) (hL:L.length<=9223372036854775807) (hx:∀ x ∈ L,x.length<=9223372036854775807):∀ (r:List (List UInt8)) (i:Nat),L.drop i=r ->
  Zja 0 [(4,.int .i64 i),(3,.lst false (L.map AVal.str))] []=some (.bool (Zfm r),[])
 | [],i,h=>by
  have h1:=Zdq h
  unfold Zja
  rw [Z7]
  simp -implicitDefEqProofs only [EQA,Zg,Zh,Ze,Zj,Zi,Zf,ZF,ZE,ZH,ZG,ZL,ZI,ZJ,ZM,ZK,implies_true,forall_const,Xh,Xi,Xl,Xd,Xe,Xj,Xk,ZC,ZD,unA,Zy,Zz,unG,reduceCtorEq,Zn,decide_eq_true_eq,Xf,Xc,ite_self,↓reduceIte,Zx,ZB,gcT,gcA,Zv,Zm,Zd,Zl,Zu,Zb,Zt,Zk,Zw,Xg,ZhT,ZfH,ZhJ,Zhl,Zf6,Zhz,Zf3,Zc,Zr,Zs,Zp,Zq,ZN,h1]
  rfl
 | x::r,i,h=>by
  have ih:=Zra L hL hx r (i+1) (Zao h).2.1
  have hlt:=(Zao h).2.2
  have h1:(i:Int) < L.length:=by omega
  have e1:=iad (Zao h).1 AVal.str (k:=1) rfl
  have h3:=ZbG h1 hL
  have hmem:x ∈ L:=Xt (Zao h).1
  have hC1:=fun σ sq own view=>ZjD σ sq own view x 43 (hx x hmem)
  have hC2:=fun σ sq own view=>ZjD σ sq own view x 35 (hx x hmem)
  simp only [show (((43:UInt8).toNat:Nat):Int)=43 from rfl] at hC1
  simp only [show (((35:UInt8).toNat:Nat):Int)=35 from rfl] at hC2
  have w1:IntKind.i64.wrap ((L.length:Int) - 1)=(L.length:Int) - 1:=Zbp (by omega) (by omega)
  have hla:((i:Int) != ((L.length:Int) - 1))=!r.isEmpty:=by rw [bne,Zqa h]
  have ee:Zfm (x::r)=(ZgR r.isEmpty x && Zfm r):=rfl
  rw [ee,Zw7]
  unfold Zja at ih ⊢
  rw [Z7]
  cases ha:Zci x 35 <;> cases hb:Zci x 43 <;> cases hp:(x == [43]) <;> cases hq:(x == [35]) <;> cases hr:r.isEmpty
  all_goals first
   | (simp -implicitDefEqProofs only [EQA,Zg,Zh,Ze,Zj,Zi,Zf,ZF,ZE,ZH,ZG,ZL,ZI,ZJ,ZM,ZK,implies_true,forall_const,Xh,Xi,Xl,Xd,Xe,Xj,Xk,ZC,ZD,unA,Zy,Zz,unG,reduceCtorEq,Zn,decide_eq_true_eq,Xf,Xc,ite_self,↓reduceIte,Zx,ZB,gcT,gcA,Zv,Zm,Zd,Zl,Zu,Zb,Zt,Zk,Zw,Xg,ZhT,ZfH,ZhJ,Zhl,Zf6,Zhz,Zf3,Zc,Zr,Zs,Zp,Zq,ZN,h1,e1,h3,hC1,hC2,w1,hla,hp,hq,hr,ha,hb];done)
   | (simp -implicitDefEqProofs only [EQA,Zg,Zh,Ze,Zj,Zi,Zf,ZF,ZE,ZH,ZG,ZL,ZI,ZJ,ZM,ZK,implies_true,forall_const,Xh,Xi,Xl,Xd,Xe,Xj,Xk,ZC,ZD,unA,Zy,Zz,unG,reduceCtorEq,Zn,decide_eq_true_eq,Xf,Xc,ite_self,↓reduceIte,Zx,ZB,gcT,gcA,Zv,Zm,Zd,Zl,Zu,Zb,Zt,Zk,Zw,Xg,ZhT,ZfH,ZhJ,Zhl,Zf6,Zhz,Zf3,Zc,Zr,Zs,Zp,Zq,ZN,h1,e1,h3,hC1,hC2,w1,hla,hp,hq,hr,ha,hb];exact ih)
theorem ZtJ (s:List UInt8):E 25 [.str s] []=some (.bool (ZdU s),[]):=by
 rw [Zar (by rfl) ZGh]
 unfold ZdU
 cases h:ZcF s
 ·simp -implicitDefEqProofs only [EQA,Zg,Zh,Ze,Zj,Zi,Zf,ZF,ZE,ZH,ZG,ZL,ZI,ZJ,ZM,ZK,implies_true,forall_const,Xh,Xi,Xl,Xd,Xe,Xj,Xk,ZC,ZD,unA,Zy,Zz,unG,reduceCtorEq,Zn,decide_eq_true_eq,Xf,Xc,ite_self,↓reduceIte,Zx,ZB,gcT,gcA,Zv,Zm,Zd,Zl,Zu,Zb,Zt,Zk,Zw,Xg,ZhT,ZfH,ZhJ,Zhl,Zf6,Zhz,Zf3,Zc,Zr,Zs,Zp,Zq,ZN,h,Zhj]
 ·have hl:=ZgG h
  have hC:=fun σ sq own=>ZkZ σ sq own s (by omega)
  have hlen:=Zfs s
  have hcl:=WX (a:=(47:UInt8)) (l:=s)
  have key:=Zra (Z2 s) (by omega) (fun x hx=>by have:=ZoY s x hx;omega) (Z2 s) 0 rfl
  unfold Zja at key
  have z0:((0:Nat):Int)=0:=rfl
  rw [z0] at key
  simp -implicitDefEqProofs only [EQA,Zg,Zh,Ze,Zj,Zi,Zf,ZF,ZE,ZH,ZG,ZL,ZI,ZJ,ZM,ZK,implies_true,forall_const,Xh,Xi,Xl,Xd,Xe,Xj,Xk,ZC,ZD,unA,Zy,Zz,unG,reduceCtorEq,Zn,decide_eq_true_eq,Xf,Xc,ite_self,↓reduceIte,Zx,ZB,gcT,gcA,Zv,Zm,Zd,Zl,Zu,Zb,Zt,Zk,Zw,Xg,ZhT,ZfH,ZhJ,Zhl,Zf6,Zhz,Zf3,Zc,Zr,Zs,Zp,Zq,ZN,h,Zhj,hC]
  exact key
theorem ZfB (σ:Za) (sq own:Nat) (view:Bool) (s:List UInt8):ZT E BY σ sq 25 own view [.str s]=some (.bool (ZdU s),σ,{}) :=
 ZaP (ZtJ s) (by kernel_rfl) (by simp -implicitDefEqProofs only [Zac,Zab,Zg,Zh,Ze,Zaa,Zj,Zi,Z9,Zf,eq_self,implies_true,Xm,Zc,Zr,Zs,Zp,Zq,Zc]) (by simp -implicitDefEqProofs only [Zac,Zab,Zg,Zh,Ze,Zaa,Zj,Zi,Z9,Zf,eq_self,implies_true,Xm,Zc,Zr,Zs,Zp,Zq,Zc]) rfl (fun _=>rfl) _ _ _ _
end
section
def Zcw:List (List UInt8)->List (List UInt8)->Bool
 | [],n=>n.isEmpty
 | x::f,n=>x == [35] || (match n with
  | []=>false
  | y::n=>(x == [43] || x == y) && Zcw f n)
def ZmD (x:List UInt8):Bool:=x == [43] || x == [35]
def Zaz (f s:List UInt8):Bool:=ZdU f && ZbS s && !((s.headD 0 == 36) && ZmD ((Z2 f).headD [])) && Zcw (Z2 f) (Z2 s)
theorem ZnT (F S:List (List UInt8)) (hF:F.length<=9223372036854775807) (hS:S.length<=9223372036854775807):∀ (r n:List (List UInt8)) (i:Nat),F.drop i=r->S.drop i=n->i<=F.length->i<=S.length ->
  ZhN 0 [(38,.int .i64 i),(37,.int .i64 F.length),(36,.lst false (F.map AVal.str)),(6,.lst false (S.map AVal.str)),(5,.lst false (F.map AVal.str))] []=some (.bool (Zcw r n),[])
 | [],n,i,h,hn,hi,hi'=>by
  have h1:=Zdq h
  have he:(((F.length:Int)) == ((S.length:Int)))=n.isEmpty:=by
   have hfi:F.length=i:=by have:=X7.1 h;omega
   have h2:=congrArg XaT hn
   simp only [WG] at h2
   cases n with
   | nil=>simp at h2 ⊢;omega
   | cons y n=>simp at h2 ⊢;omega
  unfold ZhN
  rw [Z7]
  simp -implicitDefEqProofs only [EQA,Zg,Zh,Ze,Zj,Zi,Zf,ZF,ZE,ZH,ZG,ZL,ZI,ZJ,ZM,ZK,implies_true,forall_const,Xh,Xi,Xl,Xd,Xe,Xj,Xk,ZC,ZD,unA,Zy,Zz,unG,reduceCtorEq,Zn,decide_eq_true_eq,Xf,Xc,ite_self,↓reduceIte,Zx,ZB,gcT,gcA,Zv,Zm,Zd,Zl,Zu,Zb,Zt,Zk,Zw,Xg,Zdc,Zcx,Zc3,Zdb,ZcH,Zc4,ZcC,Zc,Zr,Zs,Zp,Zq,ZN,h1,he]
  rfl
 | x::r,[],i,h,hn,hi,hi'=>by
  have hlt:=(Zao h).2.2
  have h1:(i:Int) < F.length:=by omega
  have e1:=iad (Zao h).1 AVal.str (k:=1) rfl
  have he:((i:Int) == ((S.length:Int)))=true:=by have:=X7.1 hn;rw [beq_iff_eq];omega
  unfold ZhN
  rw [Z7]
  cases hp:(x == [35])
  ·have ee:Zcw (x::r) []=false:=by simp [Zcw,hp]
   rw [ee]
   simp -implicitDefEqProofs only [EQA,Zg,Zh,Ze,Zj,Zi,Zf,ZF,ZE,ZH,ZG,ZL,ZI,ZJ,ZM,ZK,implies_true,forall_const,Xh,Xi,Xl,Xd,Xe,Xj,Xk,ZC,ZD,unA,Zy,Zz,unG,reduceCtorEq,Zn,decide_eq_true_eq,Xf,Xc,ite_self,↓reduceIte,Zx,ZB,gcT,gcA,Zv,Zm,Zd,Zl,Zu,Zb,Zt,Zk,Zw,Xg,Zdc,Zcx,Zc3,Zdb,ZcH,Zc4,ZcC,Zc,Zr,Zs,Zp,Zq,ZN,h1,e1,he,hp]
  ·have ee:Zcw (x::r) []=true:=by simp [Zcw,hp]
   rw [ee]
   simp -implicitDefEqProofs only [EQA,Zg,Zh,Ze,Zj,Zi,Zf,ZF,ZE,ZH,ZG,ZL,ZI,ZJ,ZM,ZK,implies_true,forall_const,Xh,Xi,Xl,Xd,Xe,Xj,Xk,ZC,ZD,unA,Zy,Zz,unG,reduceCtorEq,Zn,decide_eq_true_eq,Xf,Xc,ite_self,↓reduceIte,Zx,ZB,gcT,gcA,Zv,Zm,Zd,Zl,Zu,Zb,Zt,Zk,Zw,Xg,Zdc,Zcx,Zc3,Zdb,ZcH,Zc4,ZcC,Zc,Zr,Zs,Zp,Zq,ZN,h1,e1,he,hp]
 | x::r,y::n,i,h,hn,hi,hi'=>by
  have hlt:=(Zao h).2.2
  have hlt':=(Zao hn).2.2
  have ih:=ZnT F S hF hS r n (i+1) (Zao h).2.1 (Zao hn).2.1 (by omega) (by omega)
  have h1:(i:Int) < F.length:=by omega
  have h3:=ZbG h1 hF
  have e1:=iad (Zao h).1 AVal.str (k:=1) rfl
  have e2:=iad (Zao hn).1 AVal.str (k:=1) rfl
  have he:((i:Int) == ((S.length:Int)))=false:=by rw [beq_eq_false_iff_ne];omega
  have ee:Zcw (x::r) (y::n)=(x == [35] || ((x == [43] || x == y) && Zcw r n)):=rfl
  rw [ee]
  unfold ZhN at ih ⊢
  rw [Z7]
  cases hp:(x == [35])
  ·cases hq:(x == [43])
   ·cases hz:(x == y)
    ·simp -implicitDefEqProofs only [EQA,Zg,Zh,Ze,Zj,Zi,Zf,ZF,ZE,ZH,ZG,ZL,ZI,ZJ,ZM,ZK,implies_true,forall_const,Xh,Xi,Xl,Xd,Xe,Xj,Xk,ZC,ZD,unA,Zy,Zz,unG,reduceCtorEq,Zn,decide_eq_true_eq,Xf,Xc,ite_self,↓reduceIte,Zx,ZB,gcT,gcA,Zv,Zm,Zd,Zl,Zu,Zb,Zt,Zk,Zw,Xg,Zdc,Zcx,Zc3,Zdb,ZcH,Zc4,ZcC,Zc,Zr,Zs,Zp,Zq,ZN,h1,h3,e1,e2,he,hp,hq,hz]
    ·simp -implicitDefEqProofs only [EQA,Zg,Zh,Ze,Zj,Zi,Zf,ZF,ZE,ZH,ZG,ZL,ZI,ZJ,ZM,ZK,implies_true,forall_const,Xh,Xi,Xl,Xd,Xe,Xj,Xk,ZC,ZD,unA,Zy,Zz,unG,reduceCtorEq,Zn,decide_eq_true_eq,Xf,Xc,ite_self,↓reduceIte,Zx,ZB,gcT,gcA,Zv,Zm,Zd,Zl,Zu,Zb,Zt,Zk,Zw,Xg,Zdc,Zcx,Zc3,Zdb,ZcH,Zc4,ZcC,Zc,Zr,Zs,Zp,Zq,ZN,h1,h3,e1,e2,he,hp,hq,hz]
     exact ih
   ·simp -implicitDefEqProofs only [EQA,Zg,Zh,Ze,Zj,Zi,Zf,ZF,ZE,ZH,ZG,ZL,ZI,ZJ,ZM,ZK,implies_true,forall_const,Xh,Xi,Xl,Xd,Xe,Xj,Xk,ZC,ZD,unA,Zy,Zz,unG,reduceCtorEq,Zn,decide_eq_true_eq,Xf,Xc,ite_self,↓reduceIte,Zx,ZB,gcT,gcA,Zv,Zm,Zd,Zl,Zu,Zb,Zt,Zk,Zw,Xg,Zdc,Zcx,Zc3,Zdb,ZcH,Zc4,ZcC,Zc,Zr,Zs,Zp,Zq,ZN,h1,h3,e1,e2,he,hp,hq]
    exact ih
  ·simp -implicitDefEqProofs only [EQA,Zg,Zh,Ze,Zj,Zi,Zf,ZF,ZE,ZH,ZG,ZL,ZI,ZJ,ZM,ZK,implies_true,forall_const,Xh,Xi,Xl,Xd,Xe,Xj,Xk,ZC,ZD,unA,Zy,Zz,unG,reduceCtorEq,Zn,decide_eq_true_eq,Xf,Xc,ite_self,↓reduceIte,Zx,ZB,gcT,gcA,Zv,Zm,Zd,Zl,Zu,Zb,Zt,Zk,Zw,Xg,Zdc,Zcx,Zc3,Zdb,ZcH,Zc4,ZcC,Zc,Zr,Zs,Zp,Zq,ZN,h1,h3,e1,e2,he,hp]
theorem ZpE {s:List UInt8} (h:ZbS s=true):∃ b t,s=b::t:=by
 cases s with
 | nil=>simp [ZbS,ZcF] at h
 | cons b t=>exact ⟨b,t,rfl⟩
theorem Znh {s:List UInt8} (h:ZbS s=true):s.length<=64:=by
 simp only [ZbS,Xp] at h;exact ZgG h.1
theorem Znl (x:List UInt8) (r:List (List UInt8)) (σ:Za) (kk:IntKind):Za6 σ 1 (.lst false ((x::r).map AVal.str)) (.int kk 0)=some (.iptr [.str x] 0,σ,{}):=by
 exact iad (l:=x::r) (i:=0) (x:=x) rfl AVal.str (k:=1) rfl σ false kk
theorem ZCU (f s:List UInt8) (hf:f.length*16<=140737488355328 - 64):E 37 [.str f,.str s] []=some (.bool (Zaz f s),[]):=by
 have hCf:=fun σ sq own view=>ZGb σ sq own view f hf
 have hLf:=fun σ sq own view=>ZmG σ sq own view f (by omega)
 rw [Zar (by rfl) ZsT]
 unfold Zaz
 cases h1:ZdU f
 ·simp -implicitDefEqProofs only [EQA,Zg,Zh,Ze,Zj,Zi,Zf,ZF,ZE,ZH,ZG,ZL,ZI,ZJ,ZM,ZK,implies_true,forall_const,Xh,Xi,Xl,Xd,Xe,Xj,Xk,ZC,ZD,unA,Zy,Zz,unG,reduceCtorEq,Zn,decide_eq_true_eq,Xf,Xc,ite_self,↓reduceIte,Zx,ZB,gcT,gcA,Zv,Zm,Zd,Zl,Zu,Zb,Zt,Zk,Zw,Xg,Zdc,Zcx,Zc3,Zdb,ZcH,Zc4,ZcC,Zc,Zr,Zs,Zp,Zq,ZN,hCf,h1]
 cases h2:ZbS s
 ·simp -implicitDefEqProofs only [EQA,Zg,Zh,Ze,Zj,Zi,Zf,ZF,ZE,ZH,ZG,ZL,ZI,ZJ,ZM,ZK,implies_true,forall_const,Xh,Xi,Xl,Xd,Xe,Xj,Xk,ZC,ZD,unA,Zy,Zz,unG,reduceCtorEq,Zn,decide_eq_true_eq,Xf,Xc,ite_self,↓reduceIte,Zx,ZB,gcT,gcA,Zv,Zm,Zd,Zl,Zu,Zb,Zt,Zk,Zw,Xg,Zdc,Zcx,Zc3,Zdb,ZcH,Zc4,ZcC,Zc,Zr,Zs,Zp,Zq,ZN,hCf,h1,Zgu,h2]
 have hl:=Znh h2
 have hLs:=fun σ sq own view=>ZmG σ sq own view s (by omega)
 obtain ⟨b,t,rfl⟩:=ZpE h2
 have hlenf:=Zfs f
 have hlens:=Zfs (b::t)
 have hcf:=WX (a:=(47:UInt8)) (l:=f)
 have hcs:=WX (a:=(47:UInt8)) (l:=b::t)
 have key:=ZnT (Z2 f) (Z2 (b::t)) (by omega) (by omega) (Z2 f) (Z2 (b::t)) 0 rfl rfl (by omega) (by omega)
 obtain ⟨x0,r0,hx⟩:∃ x r,Z2 f=x::r:=by
  cases h:Z2 f with
  | nil=>exact absurd h (ZgZ f)
  | cons x r=>exact ⟨x,r,rfl⟩
 rw [hx] at key hLf ⊢
 have hdol:((b.toNat:Int) == 36)=(b == 36):=by
  rw [Xal]
  simp only [beq_iff_eq,<-Xam]
  have : (36:UInt8).toNat=36:=rfl
  omega
 unfold ZhN at key
 have z0:((0:Nat):Int)=0:=rfl
 rw [z0] at key
 simp only [Xbq,ZmD]
 generalize Z2 (b::t)=S at *
 have hi0:=fun σ kk=>Znl x0 r0 σ kk
 simp only [XJ,Xw] at key hLf hi0
 cases h3:(b == 36)
 ·simp -implicitDefEqProofs only [EQA,Zg,Zh,Ze,Zj,Zi,Zf,ZF,ZE,ZH,ZG,ZL,ZI,ZJ,ZM,ZK,implies_true,forall_const,Xh,Xi,Xl,Xd,Xe,Xj,Xk,ZC,ZD,unA,Zy,Zz,unG,reduceCtorEq,Zn,decide_eq_true_eq,Xf,Xc,ite_self,↓reduceIte,Zx,ZB,gcT,gcA,Zv,Zm,Zd,Zl,Zu,Zb,Zt,Zk,Zw,Xg,Zdc,Zcx,Zc3,Zdb,ZcH,Zc4,ZcC,Zc,Zr,Zs,Zp,Zq,ZN,hCf,h1,Zgu,h2,hLf,hLs,hdol,h3,Zae,Wh,Wz,hi0]
  exact key
 ·cases h4:(x0 == [43])
  ·cases h5:(x0 == [35])
   ·simp -implicitDefEqProofs only [EQA,Zg,Zh,Ze,Zj,Zi,Zf,ZF,ZE,ZH,ZG,ZL,ZI,ZJ,ZM,ZK,implies_true,forall_const,Xh,Xi,Xl,Xd,Xe,Xj,Xk,ZC,ZD,unA,Zy,Zz,unG,reduceCtorEq,Zn,decide_eq_true_eq,Xf,Xc,ite_self,↓reduceIte,Zx,ZB,gcT,gcA,Zv,Zm,Zd,Zl,Zu,Zb,Zt,Zk,Zw,Xg,Zdc,Zcx,Zc3,Zdb,ZcH,Zc4,ZcC,Zc,Zr,Zs,Zp,Zq,ZN,hCf,h1,Zgu,h2,hLf,hLs,hdol,h3,h4,h5,Zae,Wh,Wz,hi0]
    exact key
   ·simp -implicitDefEqProofs only [EQA,Zg,Zh,Ze,Zj,Zi,Zf,ZF,ZE,ZH,ZG,ZL,ZI,ZJ,ZM,ZK,implies_true,forall_const,Xh,Xi,Xl,Xd,Xe,Xj,Xk,ZC,ZD,unA,Zy,Zz,unG,reduceCtorEq,Zn,decide_eq_true_eq,Xf,Xc,ite_self,↓reduceIte,Zx,ZB,gcT,gcA,Zv,Zm,Zd,Zl,Zu,Zb,Zt,Zk,Zw,Xg,Zdc,Zcx,Zc3,Zdb,ZcH,Zc4,ZcC,Zc,Zr,Zs,Zp,Zq,ZN,hCf,h1,Zgu,h2,hLf,hLs,hdol,h3,h4,h5,Zae,Wh,Wz,hi0]
  ·simp -implicitDefEqProofs only [EQA,Zg,Zh,Ze,Zj,Zi,Zf,ZF,ZE,ZH,ZG,ZL,ZI,ZJ,ZM,ZK,implies_true,forall_const,Xh,Xi,Xl,Xd,Xe,Xj,Xk,ZC,ZD,unA,Zy,Zz,unG,reduceCtorEq,Zn,decide_eq_true_eq,Xf,Xc,ite_self,↓reduceIte,Zx,ZB,gcT,gcA,Zv,Zm,Zd,Zl,Zu,Zb,Zt,Zk,Zw,Xg,Zdc,Zcx,Zc3,Zdb,ZcH,Zc4,ZcC,Zc,Zr,Zs,Zp,Zq,ZN,hCf,h1,Zgu,h2,hLf,hLs,hdol,h3,h4,Zae,Wh,Wz,hi0]
theorem ZjH (σ:Za) (sq own:Nat) (view:Bool) (f s:List UInt8) (hf:f.length*16<=140737488355328 - 64):ZT E BY σ sq 37 own view [.str f,.str s]=some (.bool (Zaz f s),σ,{}) :=
 ZaP (ZCU f s hf) (by kernel_rfl) (by simp -implicitDefEqProofs only [Zac,Zab,Zg,Zh,Ze,Zaa,Zj,Zi,Z9,Zf,eq_self,implies_true,Xm,Zc,Zr,Zs,Zp,Zq,Zc]) (by simp -implicitDefEqProofs only [Zac,Zab,Zg,Zh,Ze,Zaa,Zj,Zi,Z9,Zf,eq_self,implies_true,Xm,Zc,Zr,Zs,Zp,Zq,Zc]) rfl (fun _=>rfl) _ _ _ _
theorem ZoQ (F S:List (List UInt8)) (hF:F.length<=9223372036854775807) (hS:S.length<=9223372036854775807):∀ (r n:List (List UInt8)) (i:Nat),F.drop i=r->S.drop i=n->i<=F.length->i<=S.length ->
  Zhp 0 [(7,.int .i64 i),(6,.lst false (S.map AVal.str)),(5,.lst false (F.map AVal.str))] []=some (.bool (Zcw r n),[])
 | [],n,i,h,hn,hi,hi'=>by
  have h1:=Zdq h
  have he:(((F.length:Int)) == ((S.length:Int)))=n.isEmpty:=by
   have hfi:F.length=i:=by have:=X7.1 h;omega
   have h2:=congrArg XaT hn
   simp only [WG] at h2
   cases n with
   | nil=>simp at h2 ⊢;omega
   | cons y n=>simp at h2 ⊢;omega
  unfold Zhp
  rw [Z7]
  simp -implicitDefEqProofs only [EQA,Zg,Zh,Ze,Zj,Zi,Zf,ZF,ZE,ZH,ZG,ZL,ZI,ZJ,ZM,ZK,implies_true,forall_const,Xh,Xi,Xl,Xd,Xe,Xj,Xk,ZC,ZD,unA,Zy,Zz,unG,reduceCtorEq,Zn,decide_eq_true_eq,Xf,Xc,ite_self,↓reduceIte,Zx,ZB,gcT,gcA,Zv,Zm,Zd,Zl,Zu,Zb,Zt,Zk,Zw,Xg,ZcS,Zcv,ZcM,ZcQ,Zcl,ZcV,Zcj,Zc,Zr,Zs,Zp,Zq,ZN,h1,he]
  rfl
 | x::r,[],i,h,hn,hi,hi'=>by
  have hlt:=(Zao h).2.2
  have h1:(i:Int) < F.length:=by omega
  have e1:=iad (Zao h).1 AVal.str (k:=1) rfl
  have he:(i:Int)>=((S.length:Int)):=by have:=X7.1 hn;omega
  have he':((S.length:Int))>=(i:Int):=by omega
  unfold Zhp
  rw [Z7]
  cases hp:(x == [35])
  ·have ee:Zcw (x::r) []=false:=by simp [Zcw,hp]
   rw [ee]
   simp -implicitDefEqProofs only [EQA,Zg,Zh,Ze,Zj,Zi,Zf,ZF,ZE,ZH,ZG,ZL,ZI,ZJ,ZM,ZK,implies_true,forall_const,Xh,Xi,Xl,Xd,Xe,Xj,Xk,ZC,ZD,unA,Zy,Zz,unG,reduceCtorEq,Zn,decide_eq_true_eq,Xf,Xc,ite_self,↓reduceIte,Zx,ZB,gcT,gcA,Zv,Zm,Zd,Zl,Zu,Zb,Zt,Zk,Zw,Xg,ZcS,Zcv,ZcM,ZcQ,Zcl,ZcV,Zcj,Zc,Zr,Zs,Zp,Zq,ZN,h1,e1,he,he',hp]
  ·have ee:Zcw (x::r) []=true:=by simp [Zcw,hp]
   rw [ee]
   simp -implicitDefEqProofs only [EQA,Zg,Zh,Ze,Zj,Zi,Zf,ZF,ZE,ZH,ZG,ZL,ZI,ZJ,ZM,ZK,implies_true,forall_const,Xh,Xi,Xl,Xd,Xe,Xj,Xk,ZC,ZD,unA,Zy,Zz,unG,reduceCtorEq,Zn,decide_eq_true_eq,Xf,Xc,ite_self,↓reduceIte,Zx,ZB,gcT,gcA,Zv,Zm,Zd,Zl,Zu,Zb,Zt,Zk,Zw,Xg,ZcS,Zcv,ZcM,ZcQ,Zcl,ZcV,Zcj,Zc,Zr,Zs,Zp,Zq,ZN,h1,e1,he,he',hp]
 | x::r,y::n,i,h,hn,hi,hi'=>by
  have hlt:=(Zao h).2.2
  have hlt':=(Zao hn).2.2
  have ih:=ZoQ F S hF hS r n (i+1) (Zao h).2.1 (Zao hn).2.1 (by omega) (by omega)
  have h1:(i:Int) < F.length:=by omega
  have h3:=ZbG h1 hF
  have e1:=iad (Zao h).1 AVal.str (k:=1) rfl
  have e2:=iad (Zao hn).1 AVal.str (k:=1) rfl
  have he:¬(i:Int)>=((S.length:Int)):=by omega
  have he':((S.length:Int))>=(i:Int):=by omega
  have ee:Zcw (x::r) (y::n)=(x == [35] || ((x == [43] || x == y) && Zcw r n)):=rfl
  rw [ee]
  unfold Zhp at ih ⊢
  rw [Z7]
  cases hp:(x == [35])
  ·cases hq:(x == [43])
   ·cases hz:(x == y)
    ·simp -implicitDefEqProofs only [EQA,Zg,Zh,Ze,Zj,Zi,Zf,ZF,ZE,ZH,ZG,ZL,ZI,ZJ,ZM,ZK,implies_true,forall_const,Xh,Xi,Xl,Xd,Xe,Xj,Xk,ZC,ZD,unA,Zy,Zz,unG,reduceCtorEq,Zn,decide_eq_true_eq,Xf,Xc,ite_self,↓reduceIte,Zx,ZB,gcT,gcA,Zv,Zm,Zd,Zl,Zu,Zb,Zt,Zk,Zw,Xg,ZcS,Zcv,ZcM,ZcQ,Zcl,ZcV,Zcj,Zc,Zr,Zs,Zp,Zq,ZN,h1,h3,e1,e2,he,he',hp,hq,hz]
    ·simp -implicitDefEqProofs only [EQA,Zg,Zh,Ze,Zj,Zi,Zf,ZF,ZE,ZH,ZG,ZL,ZI,ZJ,ZM,ZK,implies_true,forall_const,Xh,Xi,Xl,Xd,Xe,Xj,Xk,ZC,ZD,unA,Zy,Zz,unG,reduceCtorEq,Zn,decide_eq_true_eq,Xf,Xc,ite_self,↓reduceIte,Zx,ZB,gcT,gcA,Zv,Zm,Zd,Zl,Zu,Zb,Zt,Zk,Zw,Xg,ZcS,Zcv,ZcM,ZcQ,Zcl,ZcV,Zcj,Zc,Zr,Zs,Zp,Zq,ZN,h1,h3,e1,e2,he,he',hp,hq,hz]
     exact ih
   ·simp -implicitDefEqProofs only [EQA,Zg,Zh,Ze,Zj,Zi,Zf,ZF,ZE,ZH,ZG,ZL,ZI,ZJ,ZM,ZK,implies_true,forall_const,Xh,Xi,Xl,Xd,Xe,Xj,Xk,ZC,ZD,unA,Zy,Zz,unG,reduceCtorEq,Zn,decide_eq_true_eq,Xf,Xc,ite_self,↓reduceIte,Zx,ZB,gcT,gcA,Zv,Zm,Zd,Zl,Zu,Zb,Zt,Zk,Zw,Xg,ZcS,Zcv,ZcM,ZcQ,Zcl,ZcV,Zcj,Zc,Zr,Zs,Zp,Zq,ZN,h1,h3,e1,e2,he,he',hp,hq]
    exact ih
  ·simp -implicitDefEqProofs only [EQA,Zg,Zh,Ze,Zj,Zi,Zf,ZF,ZE,ZH,ZG,ZL,ZI,ZJ,ZM,ZK,implies_true,forall_const,Xh,Xi,Xl,Xd,Xe,Xj,Xk,ZC,ZD,unA,Zy,Zz,unG,reduceCtorEq,Zn,decide_eq_true_eq,Xf,Xc,ite_self,↓reduceIte,Zx,ZB,gcT,gcA,Zv,Zm,Zd,Zl,Zu,Zb,Zt,Zk,Zw,Xg,ZcS,Zcv,ZcM,ZcQ,Zcl,ZcV,Zcj,Zc,Zr,Zs,Zp,Zq,ZN,h1,h3,e1,e2,he,he',hp]
theorem ZBR {s:List UInt8} (h:ZdU s=true):s.length<=64:=by
 simp only [ZdU,Xp] at h;exact ZgG h.2
theorem ZBN (f s:List UInt8):E 22 [.str f,.str s] []=some (.bool (Zaz f s),[]):=by
 rw [Zar (by rfl) Zu2]
 unfold Zaz
 cases h1:ZdU f
 ·simp -implicitDefEqProofs only [EQA,Zg,Zh,Ze,Zj,Zi,Zf,ZF,ZE,ZH,ZG,ZL,ZI,ZJ,ZM,ZK,implies_true,forall_const,Xh,Xi,Xl,Xd,Xe,Xj,Xk,ZC,ZD,unA,Zy,Zz,unG,reduceCtorEq,Zn,decide_eq_true_eq,Xf,Xc,ite_self,↓reduceIte,Zx,ZB,gcT,gcA,Zv,Zm,Zd,Zl,Zu,Zb,Zt,Zk,Zw,Xg,ZcS,Zcv,ZcM,ZcQ,Zcl,ZcV,Zcj,Zc,Zr,Zs,Zp,Zq,ZN,ZfB,h1]
 cases h2:ZbS s
 ·simp -implicitDefEqProofs only [EQA,Zg,Zh,Ze,Zj,Zi,Zf,ZF,ZE,ZH,ZG,ZL,ZI,ZJ,ZM,ZK,implies_true,forall_const,Xh,Xi,Xl,Xd,Xe,Xj,Xk,ZC,ZD,unA,Zy,Zz,unG,reduceCtorEq,Zn,decide_eq_true_eq,Xf,Xc,ite_self,↓reduceIte,Zx,ZB,gcT,gcA,Zv,Zm,Zd,Zl,Zu,Zb,Zt,Zk,Zw,Xg,ZcS,Zcv,ZcM,ZcQ,Zcl,ZcV,Zcj,Zc,Zr,Zs,Zp,Zq,ZN,ZfB,h1,Zfk,h2]
 have hlf:=ZBR h1
 have hLf:=fun σ sq own=>ZkZ σ sq own f (by omega)
 have hl:=Znh h2
 have hLs:=fun σ sq own=>ZkZ σ sq own s (by omega)
 obtain ⟨b,t,rfl⟩:=ZpE h2
 have hlenf:=Zfs f
 have hlens:=Zfs (b::t)
 have hcf:=WX (a:=(47:UInt8)) (l:=f)
 have hcs:=WX (a:=(47:UInt8)) (l:=b::t)
 have key:=ZoQ (Z2 f) (Z2 (b::t)) (by omega) (by omega) (Z2 f) (Z2 (b::t)) 0 rfl rfl (by omega) (by omega)
 obtain ⟨x0,r0,hx⟩:∃ x r,Z2 f=x::r:=by
  cases h:Z2 f with
  | nil=>exact absurd h (ZgZ f)
  | cons x r=>exact ⟨x,r,rfl⟩
 rw [hx] at key hLf ⊢
 have hdol:((b.toNat:Int) == 36)=(b == 36):=by
  rw [Xal]
  simp only [beq_iff_eq,<-Xam]
  have : (36:UInt8).toNat=36:=rfl
  omega
 unfold Zhp at key
 have z0:((0:Nat):Int)=0:=rfl
 rw [z0] at key
 simp only [Xbq,ZmD]
 generalize Z2 (b::t)=S at *
 have hi0:=fun σ kk=>Znl x0 r0 σ kk
 simp only [XJ,Xw] at key hLf hi0
 cases h4:(x0 == [43])
 ·cases h5:(x0 == [35])
  ·simp -implicitDefEqProofs only [EQA,Zg,Zh,Ze,Zj,Zi,Zf,ZF,ZE,ZH,ZG,ZL,ZI,ZJ,ZM,ZK,implies_true,forall_const,Xh,Xi,Xl,Xd,Xe,Xj,Xk,ZC,ZD,unA,Zy,Zz,unG,reduceCtorEq,Zn,decide_eq_true_eq,Xf,Xc,ite_self,↓reduceIte,Zx,ZB,gcT,gcA,Zv,Zm,Zd,Zl,Zu,Zb,Zt,Zk,Zw,Xg,ZcS,Zcv,ZcM,ZcQ,Zcl,ZcV,Zcj,Zc,Zr,Zs,Zp,Zq,ZN,ZfB,h1,Zfk,h2,hLf,hLs,h4,h5,hi0]
   exact key
  ·cases h3:(b == 36)
   ·simp -implicitDefEqProofs only [EQA,Zg,Zh,Ze,Zj,Zi,Zf,ZF,ZE,ZH,ZG,ZL,ZI,ZJ,ZM,ZK,implies_true,forall_const,Xh,Xi,Xl,Xd,Xe,Xj,Xk,ZC,ZD,unA,Zy,Zz,unG,reduceCtorEq,Zn,decide_eq_true_eq,Xf,Xc,ite_self,↓reduceIte,Zx,ZB,gcT,gcA,Zv,Zm,Zd,Zl,Zu,Zb,Zt,Zk,Zw,Xg,ZcS,Zcv,ZcM,ZcQ,Zcl,ZcV,Zcj,Zc,Zr,Zs,Zp,Zq,ZN,ZfB,h1,Zfk,h2,hLf,hLs,hdol,h3,h4,h5,Zae,Wh,Wz,hi0]
    exact key
   ·simp -implicitDefEqProofs only [EQA,Zg,Zh,Ze,Zj,Zi,Zf,ZF,ZE,ZH,ZG,ZL,ZI,ZJ,ZM,ZK,implies_true,forall_const,Xh,Xi,Xl,Xd,Xe,Xj,Xk,ZC,ZD,unA,Zy,Zz,unG,reduceCtorEq,Zn,decide_eq_true_eq,Xf,Xc,ite_self,↓reduceIte,Zx,ZB,gcT,gcA,Zv,Zm,Zd,Zl,Zu,Zb,Zt,Zk,Zw,Xg,ZcS,Zcv,ZcM,ZcQ,Zcl,ZcV,Zcj,Zc,Zr,Zs,Zp,Zq,ZN,ZfB,h1,Zfk,h2,hLf,hLs,hdol,h3,h4,h5,Zae,Wh,Wz,hi0]
 ·cases h3:(b == 36)
  ·simp -implicitDefEqProofs only [EQA,Zg,Zh,Ze,Zj,Zi,Zf,ZF,ZE,ZH,ZG,ZL,ZI,ZJ,ZM,ZK,implies_true,forall_const,Xh,Xi,Xl,Xd,Xe,Xj,Xk,ZC,ZD,unA,Zy,Zz,unG,reduceCtorEq,Zn,decide_eq_true_eq,Xf,Xc,ite_self,↓reduceIte,Zx,ZB,gcT,gcA,Zv,Zm,Zd,Zl,Zu,Zb,Zt,Zk,Zw,Xg,ZcS,Zcv,ZcM,ZcQ,Zcl,ZcV,Zcj,Zc,Zr,Zs,Zp,Zq,ZN,ZfB,h1,Zfk,h2,hLf,hLs,hdol,h3,h4,Zae,Wh,Wz,hi0]
   exact key
  ·simp -implicitDefEqProofs only [EQA,Zg,Zh,Ze,Zj,Zi,Zf,ZF,ZE,ZH,ZG,ZL,ZI,ZJ,ZM,ZK,implies_true,forall_const,Xh,Xi,Xl,Xd,Xe,Xj,Xk,ZC,ZD,unA,Zy,Zz,unG,reduceCtorEq,Zn,decide_eq_true_eq,Xf,Xc,ite_self,↓reduceIte,Zx,ZB,gcT,gcA,Zv,Zm,Zd,Zl,Zu,Zb,Zt,Zk,Zw,Xg,ZcS,Zcv,ZcM,ZcQ,Zcl,ZcV,Zcj,Zc,Zr,Zs,Zp,Zq,ZN,ZfB,h1,Zfk,h2,hLf,hLs,hdol,h3,h4,Zae,Wh,Wz,hi0]
theorem ZFx (σ:Za) (sq own:Nat) (view:Bool) (f s:List UInt8):ZT E BY σ sq 22 own view [.str f,.str s]=some (.bool (Zaz f s),σ,{}) :=
 ZaP (ZBN f s) (by kernel_rfl) (by simp -implicitDefEqProofs only [Zac,Zab,Zg,Zh,Ze,Zaa,Zj,Zi,Z9,Zf,eq_self,implies_true,Xm,Zc,Zr,Zs,Zp,Zq,Zc]) (by simp -implicitDefEqProofs only [Zac,Zab,Zg,Zh,Ze,Zaa,Zj,Zi,Z9,Zf,eq_self,implies_true,Xm,Zc,Zr,Zs,Zp,Zq,Zc]) rfl (fun _=>rfl) _ _ _ _
end
section
theorem Zp9 {O:ZW} {bf:Nat->Bool} {f:Nat} {args args':List AVal} {r':AVal} (h:Zau true 0 (O f args' [])=some (r',[])) (hb:bf f=false) (hp:args.all Zaq=true) (hn:args.map Zaf=args') (hr:∀ sq,ZP (ZaS [] [] sq) r'=r') (σ:Za) (sq own:Nat):ZT O bf σ sq f own true args=some (r',σ,{}):=by
 cases hO:O f args' [] with
 | none =>
  rw [hO] at h
  unfold Zau at h
  split at h <;> cases h
 | some q =>
  rw [Zm6 hb hp,hn,h]
  exact ZlH _ _ _ _ (hr _)
theorem ZDt {O:ZW} {bf:Nat->Bool} {σ:Za} {t sq f own k lo n:Nat} {args args' xs xs':List AVal} (hs:σ[t]?=some (.row 0 k xs)) (hb:bf f=true) (hff:ZbF σ sq own=true)
  (href:Z4 args=[t]) (hren:∀ ρ:Rho,ρ t 0=some (0,0)->ZZ ρ args=args')
  (h:O f args' [.row 0 k xs]=some (.sl 0 0 lo n,[.row 0 k xs'])):ZT O bf σ sq f own false args=some (.sl t 0 lo n,σ.set t (.row 0 k xs'),{ any:=true }):=by
 have hd:σ.getD t .free=.row 0 k xs:=by simp [Xo,hs]
 have hf0:ZR σ []=σ:=rfl
 unfold ZT Zcm
 rw [hb]
 simp only [if_true,hf0,href]
 have hreach:Zm σ 1000 [t] []=[t]:=by
  simp only [Zm,XK,Xm,if_false,hd,Zw,XT]
 rw [hreach]
 unfold Zbv
 have hall:([t].all fun t=>okB (σ.getD t .free))=true:=by simp [XE,XN,hs,okB]
 rw [if_pos hall]
 have hρ:Zd σ 0 [t] t 0=some (0,0):=by simp [Zd,Zu,hs,Zb,Zt]
 have hheap:Zl σ 0 [t] (Zd σ 0 [t]) [t] 0=[.row 0 k xs]:=by
  simp only [Zl,hd,Zt,Zb,Zk,Nat.not_lt_zero,false_and,if_false]
 rw [hren _ hρ,hheap]
 simp only [Xw,XF,XD]
 rw [h]
 have hk:Zbq σ [t] [.row 0 k xs'] 0=true:=by simp [Zbq,okB,hs,ZdX,Zb]
 have hren':∀ ρ,Zk ρ (Zbt σ [t] 0 (.row 0 k xs')) (.row 0 k xs')=.row 0 k xs':=by
  intro ρ
  simp [Zbt,hs,Zb,Zk]
 have hr:ZP (ZaS σ [t] sq) (.sl 0 0 lo n)=.sl t 0 lo n:=by
  simp [ZP,ZaS,Zb,hs]
 simp only [Zau,Xm,if_false,Zay,List.isEmpty_cons,WJ,Xw,XF,XD,Nat.le_add_right,X3,decide_true,hk,hff,WV,if_true,ZaX,ZbQ,ZaA,Xv,hr,hren']
 have htl:t < σ.length:=(Xn.1 hs).1
 have hg:(σ.set t (.row 0 k xs'))[t]?=some (.row 0 k xs'):=by simp [htl]
 simp only [XM,Wn,XO,hg]
end
section
theorem Zye {L S:List ZQ} (hp:S.Perm L) (hs:S.Pairwise ltR) (hl:L.length < 4611686018427387904) {σ:Za} {t sq:Nat} (hσ:σ[t]?=some (.row 0 3 (L.map ZA))):ZT E BY σ sq 36 0 false [.sl t 0 0 L.length]=some (.sl t 0 0 L.length,σ.set t (.row 0 3 (S.map ZA)),{ any:=true }) :=
 ZDt hσ (by kernel_rfl) rfl rfl (fun ρ h=>by simp only [ZZ,ZP,h]) (ZxE hp hs hl)
theorem ZvF (σ:Za) (sq:Nat):ZT E BY σ sq 36 0 false [.lst true []]=some (.lst true [],σ,{}):=by
 have h:E 36 [.lst true []] []=some (.lst true [],[]):=Zct.2 ⟨3,by kernel_rfl⟩
 unfold ZT Zcm
 rw [show BY 36=true by kernel_rfl]
 simp only [if_true,show Z4 [AVal.lst true []]=[] from rfl,show ZR σ []=σ from rfl]
 rw [show Zm σ 1000 [] []=[] from rfl]
 unfold Zbv
 rw [if_pos (by rfl),show ZZ (Zd σ 0 []) [AVal.lst true []]=[.lst true []] from rfl,show Zl σ 0 [] (Zd σ 0 []) [] 0=[] from rfl,h]
 rfl
def mkR (p:List UInt8×Int):ZQ:=⟨p.1,[],p.2⟩
def Za2 (f:List UInt8) (l:List (List UInt8×Int)):List ZQ:=(l.filter fun p=>Zaz f p.1).map mkR
def Ze7:List AOp:=[oI 16 (.ext (.t 15) 0),oI 17 (.ext (.t 15) 1),oM 6 16,oM 7 17]
def mT (f:List UInt8):List ZQ->Tms
 | []=>[(11,.map 1),(5,.lst true []),(1,.str f)]
 | d=>[(11,.map 1),(5,.sl 2 0 0 d.length),(1,.str f)]
def mH (M:List (List UInt8×Int)):List ZQ->Za
 | []=>[.var [.map 1],.map (ixE M)]
 | d=>[.var [.map 1],.map (ixE M),.row 0 3 (d.map ZA)]
theorem ZcA (M:List (List UInt8×Int)):Z4 ((ixE M).map fun x=>x.2)=[]:=ZkW M
theorem Zuj (M:List (List UInt8×Int)) (n:Nat):((ixE M).all fun p=>ZhG n p.2)=true:=by
 rw [List.all_eq_true]
 unfold ixE
 intro p hp
 obtain ⟨x,_,rfl⟩:=XL.1 hp
 rfl
noncomputable abbrev ZdV (M:List (List UInt8×Int)):=ZbC BY 11 15 1 Ze7 (fun m'=>evC FC PR BY m' Zi2) 1 (.map (ixE M))
section
variable (M:List (List UInt8×Int)) (f:List UInt8) (hf:f.length*16<=140737488355328 - 64)
include hf
theorem ZAA (n:List UInt8) (v:Int) (hn:Zaz f n=false):ZdV M (.str n,.int .i64 v) (mT f []) (mH M [])=some ([(20,.bool false),(11,.map 1),(7,.int .i64 v),(6,.str n),(5,.lst true []),(1,.str f)],mH M []):=by
 have hq:=fun σ sq own view=>ZjH σ sq own view f n hf
 rw [hn] at hq
 unfold ZdV ZbC mT mH Ze7
 generalize ixE M=X at *
 simp -implicitDefEqProofs only [EQA,Zg,Zh,Ze,Zj,Zi,Zf,ZF,ZE,ZH,ZG,ZL,ZI,ZJ,ZM,ZK,implies_true,forall_const,Xh,Xi,Xl,Xd,Xe,Xj,Xk,ZC,ZD,unA,Zy,Zz,unG,reduceCtorEq,Zn,decide_eq_true_eq,Xf,Xc,ite_self,↓reduceIte,Zx,ZB,gcT,gcA,Zv,Zm,Zd,Zl,Zu,Zb,Zt,Zk,Zw,Xg,Zdd,Zcy,Zc6,Zdm,ZcP,Zdh,ZcI,Zc,Zr,Zs,Zp,Zq,ZN,hq,ZcJ,roB,ZdJ,Zdo,Zdp,XaB,W3,WZ,Xao,W9,Xbr]
theorem ZsQ (n:List UInt8) (v:Int) (hn:Zaz f n=false) (k:Nat) (Y:List AVal):ZdV M (.str n,.int .i64 v) [(11,.map 1),(5,.sl 2 0 0 k),(1,.str f)] [.var [.map 1],.map (ixE M),.row 0 3 Y]=some ([(20,.bool false),(11,.map 1),(7,.int .i64 v),(6,.str n),(5,.sl 2 0 0 k),(1,.str f)],[.var [.map 1],.map (ixE M),.row 0 3 Y]):=by
 have hq:=fun σ sq own view=>ZjH σ sq own view f n hf
 rw [hn] at hq
 unfold ZdV ZbC Ze7
 generalize ixE M=X at *
 simp -implicitDefEqProofs only [EQA,Zg,Zh,Ze,Zj,Zi,Zf,ZF,ZE,ZH,ZG,ZL,ZI,ZJ,ZM,ZK,implies_true,forall_const,Xh,Xi,Xl,Xd,Xe,Xj,Xk,ZC,ZD,unA,Zy,Zz,unG,reduceCtorEq,Zn,decide_eq_true_eq,Xf,Xc,ite_self,↓reduceIte,Zx,ZB,gcT,gcA,Zv,Zm,Zd,Zl,Zu,Zb,Zt,Zk,Zw,Xg,Zdd,Zcy,Zc6,Zdm,ZcP,Zdh,ZcI,Zc,Zr,Zs,Zp,Zq,ZN,hq,ZcJ,roB,ZdJ,Zdo,Zdp,XaB,W3,WZ,Xao,W9,Xbr]
theorem Zr2 (n:List UInt8) (v:Int) (hn:Zaz f n=true):ZdV M (.str n,.int .i64 v) (mT f []) (mH M [])=some ([(11,.map 1),(5,.sl 2 0 0 1),(1,.str f)],mH M [mkR (n,v)]):=by
 have hq:=fun σ sq own view=>ZjH σ sq own view f n hf
 rw [hn] at hq
 have hv:∀ σ:Za,viewAs σ [.agg [.str n,.str [],.int .i64 v]]=some ([.agg [.str n,.str [],.int .i64 v]],[]):=fun _=>rfl
 have hm:[mkR (n,v)].map ZA=[.agg [.str n,.str [],.int .i64 v]]:=rfl
 unfold ZdV ZbC mT mH Ze7
 simp only [hm]
 generalize ixE M=X at *
 simp -implicitDefEqProofs only [EQA,Zg,Zh,Ze,Zj,Zi,Zf,ZF,ZE,ZH,ZG,ZL,ZI,ZJ,ZM,ZK,implies_true,forall_const,Xh,Xi,Xl,Xd,Xe,Xj,Xk,ZC,ZD,unA,Zy,Zz,unG,reduceCtorEq,Zn,decide_eq_true_eq,Xf,Xc,ite_self,↓reduceIte,Zx,ZB,gcT,gcA,Zv,Zm,Zd,Zl,Zu,Zb,Zt,Zk,Zw,Xg,Zdd,Zcy,Zc6,Zdm,ZcP,Zdh,ZcI,Zc,Zr,Zs,Zp,Zq,ZN,hq,hv,ZcJ,roB,ZdJ,Zdo,Zdp,XaB,W3,WZ,Xao,W9,Xbr,Zcd,ZaE,kOk,viewAs,Zbc,ZaO,Zba,ZR,W6,Xbg,Za6,Zdl,AVal.cells]
theorem Zx8 (n:List UInt8) (v:Int) (hn:Zaz f n=true) (k:Nat) (Y:List AVal) (hY:Y.length=k) (hk:k<=1000000):ZdV M (.str n,.int .i64 v) [(11,.map 1),(5,.sl 2 0 0 k),(1,.str f)] [.var [.map 1],.map (ixE M),.row 0 3 Y]=some ([(11,.map 1),(5,.sl 2 1 0 (k+1)),(1,.str f)],[.var [.map 1],.map (ixE M),.row 1 3 (Y++[ZA (mkR (n,v))]),.free]):=by
 have hq:=fun σ sq own view=>ZjH σ sq own view f n hf
 rw [hn] at hq
 have hv:∀ σ:Za,viewAs σ [.agg [.str n,.str [],.int .i64 v]]=some ([.agg [.str n,.str [],.int .i64 v]],[]):=fun _=>rfl
 have A:∀ {σ:Za} {sq t g:Nat},σ[t]?=some (.row g 3 Y)->ZaE σ sq 3 40 (.sl t g 0 k) (.lst true [.agg [.str n,.str [],.int .i64 v]])=some (.sl t (g+1) 0 (k+1),σ.set t (.row (g+1) 3 (Y++[ZA (mkR (n,v))])),{ wr:=[t] }):=by
  intro σ sq t g hs
  simp only [ZaE,Zn,hs]
  rw [if_pos (by rfl),if_pos ⟨trivial,trivial,trivial,by simp;omega⟩,if_pos hY.symm]
  rfl
 generalize Y++[ZA (mkR (n,v))]=Y2 at *
 unfold ZdV ZbC Ze7
 generalize ixE M=X at *
 simp -implicitDefEqProofs only [EQA,Zg,Zh,Ze,Zj,Zi,Zf,ZF,ZE,ZH,ZG,ZL,ZI,ZJ,ZM,ZK,implies_true,forall_const,Xh,Xi,Xl,Xd,Xe,Xj,Xk,ZC,ZD,unA,Zy,Zz,unG,reduceCtorEq,Zn,decide_eq_true_eq,Xf,Xc,ite_self,↓reduceIte,Zx,ZB,gcT,gcA,Zv,Zm,Zd,Zl,Zu,Zb,Zt,Zk,Zw,Xg,Zdd,Zcy,Zc6,Zdm,ZcP,Zdh,ZcI,Zc,Zr,Zs,Zp,Zq,ZN,hq,hv,A,ZcJ,roB,ZdJ,Zdo,Zdp,XaB,W3,WZ,Xao,W9,Xbr,Zcd,Zbc,ZaO,Zba,ZR,AVal.cells]
end
section
variable (M:List (List UInt8×Int)) (f:List UInt8)
theorem ZAl (v:Int) (n:List UInt8) (d:List ZQ):gcT 2 (keepL [11,5,1] [(20,.bool false),(11,.map 1),(7,.int .i64 v),(6,.str n),(5,.lst true []),(1,.str f)]) (mH M [])=(mT f [],mH M []):=by
 have hr:=ZcA M
 have hn':=fun ρ=>ZbT ρ M
 unfold mT mH
 generalize ixE M=X at *
 simp -implicitDefEqProofs only [EQA,Zg,Zh,Ze,Zj,Zi,Zf,ZF,ZE,ZH,ZG,ZL,ZI,ZJ,ZM,ZK,implies_true,forall_const,Xh,Xi,Xl,Xd,Xe,Xj,Xk,ZC,ZD,unA,Zy,Zz,unG,reduceCtorEq,Zn,decide_eq_true_eq,Xf,Xc,ite_self,↓reduceIte,Zx,ZB,gcT,gcA,Zv,Zm,Zd,Zl,Zu,Zb,Zt,Zk,Zw,Xg,Zdd,Zcy,Zc6,Zdm,ZcP,Zdh,ZcI,Zc,Zr,Zs,Zp,Zq,ZN,hr,hn']
theorem Zx2 (v:Int) (n:List UInt8) (k:Nat) (Y:List AVal):gcT 2 (keepL [11,5,1] [(20,.bool false),(11,.map 1),(7,.int .i64 v),(6,.str n),(5,.sl 2 0 0 k),(1,.str f)]) [.var [.map 1],.map (ixE M),.row 0 3 Y]=([(11,.map 1),(5,.sl 2 0 0 k),(1,.str f)],[.var [.map 1],.map (ixE M),.row 0 3 Y]):=by
 have hr:=ZcA M
 have hn':=fun ρ=>ZbT ρ M
 generalize ixE M=X at *
 simp -implicitDefEqProofs only [EQA,Zg,Zh,Ze,Zj,Zi,Zf,ZF,ZE,ZH,ZG,ZL,ZI,ZJ,ZM,ZK,implies_true,forall_const,Xh,Xi,Xl,Xd,Xe,Xj,Xk,ZC,ZD,unA,Zy,Zz,unG,reduceCtorEq,Zn,decide_eq_true_eq,Xf,Xc,ite_self,↓reduceIte,Zx,ZB,gcT,gcA,Zv,Zm,Zd,Zl,Zu,Zb,Zt,Zk,Zw,Xg,Zdd,Zcy,Zc6,Zdm,ZcP,Zdh,ZcI,Zc,Zr,Zs,Zp,Zq,ZN,hr,hn']
theorem ZCf (k:Nat) (Y:List AVal):gcT 2 (keepL [11,5,1] [(11,.map 1),(5,.sl 2 0 0 k),(1,.str f)]) [.var [.map 1],.map (ixE M),.row 0 3 Y]=([(11,.map 1),(5,.sl 2 0 0 k),(1,.str f)],[.var [.map 1],.map (ixE M),.row 0 3 Y]):=by
 have hr:=ZcA M
 have hn':=fun ρ=>ZbT ρ M
 generalize ixE M=X at *
 simp -implicitDefEqProofs only [EQA,Zg,Zh,Ze,Zj,Zi,Zf,ZF,ZE,ZH,ZG,ZL,ZI,ZJ,ZM,ZK,implies_true,forall_const,Xh,Xi,Xl,Xd,Xe,Xj,Xk,ZC,ZD,unA,Zy,Zz,unG,reduceCtorEq,Zn,decide_eq_true_eq,Xf,Xc,ite_self,↓reduceIte,Zx,ZB,gcT,gcA,Zv,Zm,Zd,Zl,Zu,Zb,Zt,Zk,Zw,Xg,Zdd,Zcy,Zc6,Zdm,ZcP,Zdh,ZcI,Zc,Zr,Zs,Zp,Zq,ZN,hr,hn']
theorem ZuB (k:Nat) (Y:List AVal):gcT 2 (keepL [11,5,1] [(11,.map 1),(5,.sl 2 1 0 k),(1,.str f)]) [.var [.map 1],.map (ixE M),.row 1 3 Y,.free]=([(11,.map 1),(5,.sl 2 0 0 k),(1,.str f)],[.var [.map 1],.map (ixE M),.row 0 3 Y]):=by
 have hr:=ZcA M
 have hn':=fun ρ=>ZbT ρ M
 generalize ixE M=X at *
 simp -implicitDefEqProofs only [EQA,Zg,Zh,Ze,Zj,Zi,Zf,ZF,ZE,ZH,ZG,ZL,ZI,ZJ,ZM,ZK,implies_true,forall_const,Xh,Xi,Xl,Xd,Xe,Xj,Xk,ZC,ZD,unA,Zy,Zz,unG,reduceCtorEq,Zn,decide_eq_true_eq,Xf,Xc,ite_self,↓reduceIte,Zx,ZB,gcT,gcA,Zv,Zm,Zd,Zl,Zu,Zb,Zt,Zk,Zw,Xg,Zdd,Zcy,Zc6,Zdm,ZcP,Zdh,ZcI,Zc,Zr,Zs,Zp,Zq,ZN,hr,hn']
theorem Zpz {tm:Tms} {σ:Za} {d:List ZQ} (h:gcT 2 (keepL [11,5,1] tm) σ=(mT f d,mH M d)):ZeQ 2 [11,5,1] 11 tm σ=some (1,.map (ixE M),ixE M,mT f d,mH M d):=by
 unfold ZeQ
 rw [h]
 have h1:tget (mT f d) 11=.map 1:=by cases d <;> rfl
 have h2:(mH M d)[1]?=some (.map (ixE M)):=by cases d <;> rfl
 simp only [h1,h2,ZdY,Zuj,if_true]
end
theorem Zr4 (M:List (List UInt8×Int)) (f:List UInt8) (hf:f.length*16<=140737488355328 - 64) (n:List UInt8) (v:Int) (d:List ZQ) (hd:d.length<=1000000):∃ tm' σ',ZdV M (.str n,.int .i64 v) (mT f d) (mH M d)=some (tm',σ')/\gcT 2 (keepL [11,5,1] tm') σ'=(mT f (d++Za2 f [(n,v)]),mH M (d++Za2 f [(n,v)])):=by
 cases hn:Zaz f n with
 | false =>
  have e:Za2 f [(n,v)]=[]:=by simp [Za2,hn]
  rw [e,XO]
  cases d with
  | nil=>exact ⟨_,_,ZAA M f hf n v hn,ZAl M f v n []⟩
  | cons x d=>exact ⟨_,_,ZsQ M f hf n v hn _ _,Zx2 M f v n _ _⟩
 | true =>
  have e:Za2 f [(n,v)]=[mkR (n,v)]:=by simp [Za2,hn]
  rw [e]
  cases d with
  | nil =>
   refine ⟨_,_,Zr2 M f hf n v hn,?_⟩
   exact ZCf M f _ _
  | cons x d =>
   refine ⟨_,_,Zx8 M f hf n v hn _ _ (by simp) hd,?_⟩
   rw [ZuB]
   have h1:(x::d).length+1=(x::(d++[mkR (n,v)])).length:=by simp
   have h2:(x::d).map ZA++[ZA (mkR (n,v))]=(x::(d++[mkR (n,v)])).map ZA:=by simp
   rw [h1,h2]
   rfl
end
section
theorem Zzf {bf:Nat->Bool} {m:Nat} {live:List Nat} {ms en b1:Nat} {ent:List AOp} {run fin:Nat->Tms->Za->Option (ZY×Tms×Za)} {tm tm0:Tms} {σ σ0:Za} {t:Nat} {B:ZU} {es:List (AVal×AVal)} {out:ZY×Tms×Za} (hh:ZeQ m live ms tm σ=some (t,B,es,tm0,σ0))
  (hall:∀ es':List (AVal×AVal),es'.Perm es->Zbh bf m live ms en b1 ent run fin es es' tm σ=some out):Zcr bf m live ms en b1 ent run fin tm σ=some out:=by
 unfold Zcr
 rw [hh]
 match es,hh,hall with
 | [],hh,hall =>
  have h:=hall [] (Xaa _)
  obtain ⟨h1,h2,_⟩:=Zj5 hh
  simp only [Zbh,ZaY,Ze0,h1,h2] at h
  exact h
 | [kv],hh,hall =>
  have h:=hall [kv] (Xaa _)
  simp only [Zbh,ZaY,hh,if_true] at h
  simp only
  cases hr:ZbC bf ms en b1 ent run t B kv tm0 σ0 with
  | none=>rw [hr] at h;cases h
  | some q=>rw [hr] at h;exact h
 | a::b::r,hh,hall=>exact Zlc.2 hall
theorem ZFc {α:Type} {β:Type} (enc:α->β) (dec:β->α) (hd:∀ a,dec (enc a)=a) {M:List α} {es:List β} (h:es.Perm (M.map enc)):∃ l:List α,l.Perm M/\es=l.map enc:=by
 refine ⟨es.map dec,?_,?_⟩
 ·have:=h.map dec
  rw [Wg] at this
  have e:dec ∘ enc=id:=by funext a;exact hd a
  rw [e,List.map_id] at this
  exact this
 ·rw [Wg]
  have : es.map (enc ∘ dec)=es.map id:=by
   apply List.map_congr_left
   intro p hp
   obtain ⟨a,_,rfl⟩:=XL.1 (h.mem_iff.1 hp)
   simp [hd]
  rw [this,List.map_id]
end
section
noncomputable abbrev ZkA:Nat->Tms->Za->Option (ZY×Tms×Za):=fun m'=>evC FC PR BY m' Zi2
noncomputable abbrev ZgV:Nat->Tms->Za->Option (ZY×Tms×Za):=fun m'=>evC FC PR BY m' Zmd
theorem Zx3 (f:List UInt8) (p:List UInt8×Int) (r:List (List UInt8×Int)):Za2 f (p::r)=Za2 f [p]++Za2 f r:=by
 unfold Za2
 rw [WQ]
 split <;> simp [*]
theorem Zpn (f:List UInt8) (r:List (List UInt8×Int)):(Za2 f r).length<=r.length:=by
 unfold Za2
 rw [X9]
 exact List.length_filter_le _ _
section
variable (M:List (List UInt8×Int)) (f:List UInt8)
theorem Zrh (hf:f.length*16<=140737488355328 - 64):∀ (r:List (List UInt8×Int)) (d:List ZQ) (tm:Tms) (σ:Za),d.length+r.length<=1000000->gcT 2 (keepL [11,5,1] tm) σ=(mT f d,mH M d) ->
  ∃ tm' σ',ZaY BY 2 [11,5,1] 11 15 1 Ze7 ZkA (ixE M) (ixE r) tm σ=some (tm',σ')/\gcT 2 (keepL [11,5,1] tm') σ'=(mT f (d++Za2 f r),mH M (d++Za2 f r))
 | [],d,tm,σ,hb,h=>⟨tm,σ,rfl,by rw [show Za2 f []=[] from rfl,XO];exact h⟩
 | p::r,d,tm,σ,hb,h=>by
  obtain ⟨tm1,σ1,h1,h2⟩:=Zr4 M f hf p.1 p.2 d (by simp only [Xw] at hb;omega)
  have hlen:=Zpn f [(p.1,p.2)]
  obtain ⟨tm',σ',h3,h4⟩:=Zrh hf r (d++Za2 f [(p.1,p.2)]) tm1 σ1 (by simp only [Xw,XI,XF] at hb hlen ⊢;omega) h2
  rw [Xab] at h4
  refine ⟨tm',σ',?_,by rw [Zx3];exact h4⟩
  have e:ixE (p::r)=(.str p.1,.int .i64 p.2)::ixE r:=rfl
  rw [e]
  simp only [ZaY,Zpz M f h,if_true]
  unfold ZdV at h1
  rw [h1]
  exact h3
theorem Zts:ZgV 2 (mT f []) (mH M [])=some (.ret,[(4,.lst true [])],mH M []):=by
 have hs:=ZvF
 unfold ZgV mT mH
 generalize ixE M=X at *
 simp -implicitDefEqProofs only [EQA,Zg,Zh,Ze,Zj,Zi,Zf,ZF,ZE,ZH,ZG,ZL,ZI,ZJ,ZM,ZK,implies_true,forall_const,Xh,Xi,Xl,Xd,Xe,Xj,Xk,ZC,ZD,unA,Zy,Zz,unG,reduceCtorEq,Zn,decide_eq_true_eq,Xf,Xc,ite_self,↓reduceIte,Zx,ZB,gcT,gcA,Zv,Zm,Zd,Zl,Zu,Zb,Zt,Zk,Zw,Xg,Zdd,Zcy,Zc6,Zdm,ZcP,Zdh,ZcI,Zc,Zr,Zs,Zp,Zq,ZN,hs]
theorem ZwB {d S:List ZQ} (hp:S.Perm d) (hs:S.Pairwise ltR) (hl:d.length < 4611686018427387904):ZgV 2 [(11,.map 1),(5,.sl 2 0 0 d.length),(1,.str f)] [.var [.map 1],.map (ixE M),.row 0 3 (d.map ZA)]=some (.ret,[(4,.sl 2 0 0 d.length)],[.var [.map 1],.map (ixE M),.row 0 3 (S.map ZA)]):=by
 have hs:=fun {σ:Za} {sq:Nat} h=>Zye hp hs hl (σ:=σ) (t:=2) (sq:=sq) h
 unfold ZgV
 generalize ixE M=X at *
 generalize S.map ZA=Z at *
 generalize d.map ZA=Y at *
 generalize d.length=k at *
 simp -implicitDefEqProofs only [EQA,Zg,Zh,Ze,Zj,Zi,Zf,ZF,ZE,ZH,ZG,ZL,ZI,ZJ,ZM,ZK,implies_true,forall_const,Xh,Xi,Xl,Xd,Xe,Xj,Xk,ZC,ZD,unA,Zy,Zz,unG,reduceCtorEq,Zn,decide_eq_true_eq,Xf,Xc,ite_self,↓reduceIte,Zx,ZB,gcT,gcA,Zv,Zm,Zd,Zl,Zu,Zb,Zt,Zk,Zw,Xg,Zdd,Zcy,Zc6,Zdm,ZcP,Zdh,ZcI,Zc,Zr,Zs,Zp,Zq,ZN,hs]
end
def mO:List ZQ->AVal
 | []=>.lst true []
 | d=>.sl 2 0 0 d.length
theorem ZyH (M:List (List UInt8×Int)) (f:List UInt8) (hf:f.length*16<=140737488355328 - 64) (hM:M.length<=1000000) {S:List ZQ} (hS:S.Perm (Za2 f M)) (hs:S.Pairwise ltR) (tm:Tms) (σ:Za) (h:gcT 2 (keepL [11,5,1] tm) σ=(mT f [],mH M [])):Zcr BY 2 [11,5,1] 11 15 1 Ze7 ZkA ZgV tm σ=some (.ret,[(4,mO S)],mH M S):=by
 refine Zzf (Zpz M f h) fun es' hp=>?_
 obtain ⟨l,hl,rfl⟩:=ZFc (fun p:List UInt8×Int=>(AVal.str p.1,AVal.int .i64 p.2)) (fun q=>(match q.1 with | .str s=>s | _=>[],match q.2 with | .int _ v=>v | _=>0)) (fun a=>rfl) hp
 obtain ⟨tm',σ',h1,h2⟩:=Zrh M f hf l [] tm σ (by have:=hl.length_eq;simp;omega) h
 have hp2:(Za2 f l).Perm (Za2 f M):=(hl.filter _).map _
 have hp3:S.Perm (Za2 f l):=hS.trans hp2.symm
 unfold Zbh
 have e:l.map (fun p:List UInt8×Int=>(AVal.str p.1,AVal.int .i64 p.2))=ixE l:=rfl
 rw [e,h1]
 simp only [Ze0]
 rw [h2,XT]
 have hlen:(Za2 f l).length<=1000000:=by have:=Zpn f l;have:=hl.length_eq;omega
 cases hd:Za2 f l with
 | nil =>
  have e2:S=[]:=by rw [hd] at hp3;exact hp3.eq_nil
  subst e2
  exact Zts M f
 | cons x d =>
  rw [hd] at hp3 hlen
  cases S with
  | nil=>have:=hp3.length_eq;simp at this
  | cons y S =>
   have hle:=hp3.length_eq
   have:=ZwB M f hp3 hs (by omega)
   rw [<-hle] at this
   unfold mT mH mO
   simp only
   rw [<-hle]
   exact this
theorem ZxT (M:List (List UInt8×Int)) (S:List ZQ):ZaV 2 (mH M S) (mO S)=some (mO S,mH M S):=by
 cases S with
 | nil=>exact ZeE (r:=.lst true []) rfl M []
 | cons x S =>
  have hr:=ZcA M
  have hn':=fun ρ=>ZbT ρ M
  unfold mH mO
  simp only
  generalize (x::S).map ZA=Y at *
  generalize (x::S).length=k at *
  generalize ixE M=X at *
  simp -implicitDefEqProofs only [EQA,ZaV,gcA,Zv,Z4,XO,XT,Xg,Xad,W1,XM,Wn,Xv,XC,id_eq,ZZ,Zm,Zw,Zan,Zl,Zk,ZP,XK,Zd,Zu,Zb,Zt,Zg,Zh,Ze,Zj,Zi,Zf,ZF,ZE,ZH,ZG,ZL,ZI,ZJ,ZM,ZK,implies_true,forall_const,Xh,Xi,Xl,Xd,Xe,Xj,Xk,ZC,ZD,unA,Zy,Zz,unG,reduceCtorEq,Zn,decide_eq_true_eq,Xf,Xc,ite_self,↓reduceIte,Zx,ZB,gcT,gcA,Zv,Zm,Zd,Zl,Zu,Zb,Zt,Zk,Zw,Xg,hr,hn',or_false]
theorem Zww (M:List (List UInt8×Int)) (f:List UInt8) (hf:f.length*16<=140737488355328 - 64) (hM:M.length<=1000000) {S:List ZQ} (hS:S.Perm (Za2 f M)) (hs:S.Pairwise ltR):E 15 [.ref 0 0,.str f] (ixH M)=some (mO S,mH M S):=by
 have ho:=ZxT M S
 have hrun:=ZyH M f hf hM hS hs [(11,.map 1),(10,.ref 0 0),(9,.ref 0 0),(8,.ref 0 0),(5,.lst true []),(1,.str f),(0,.ref 0 0)] (ixH M) (by
  have hr:=ZcA M
  have hn':=fun ρ=>ZbT ρ M
  unfold ixH mT mH
  generalize ixE M=X at *
  simp -implicitDefEqProofs only [EQA,Zg,Zh,Ze,Zj,Zi,Zf,ZF,ZE,ZH,ZG,ZL,ZI,ZJ,ZM,ZK,implies_true,forall_const,Xh,Xi,Xl,Xd,Xe,Xj,Xk,ZC,ZD,unA,Zy,Zz,unG,reduceCtorEq,Zn,decide_eq_true_eq,Xf,Xc,ite_self,↓reduceIte,Zx,ZB,gcT,gcA,Zv,Zm,Zd,Zl,Zu,Zb,Zt,Zk,Zw,Xg,Zdd,Zcy,Zc6,Zdm,ZcP,Zdh,ZcI,Zc,Zr,Zs,Zp,Zq,ZN,hr,hn'])
 unfold ZkA ZgV Ze7 at hrun
 unfold ixH at hrun ⊢
 generalize mH M S=H2 at *
 generalize mO S=O2 at *
 generalize ixE M=X at *
 rw [Zar (by rfl) Zs0]
 simp -implicitDefEqProofs only [EQA,Zg,Zh,Ze,Zj,Zi,Zf,ZF,ZE,ZH,ZG,ZL,ZI,ZJ,ZM,ZK,implies_true,forall_const,Xh,Xi,Xl,Xd,Xe,Xj,Xk,ZC,ZD,unA,Zy,Zz,unG,reduceCtorEq,Zn,decide_eq_true_eq,Xf,Xc,ite_self,↓reduceIte,Zx,ZB,gcT,gcA,Zv,Zm,Zd,Zl,Zu,Zb,Zt,Zk,Zw,Xg,Zdd,Zcy,Zc6,ZsE,ZcJ,ZlO,AVal.cells]
 simp only [oI,oM,oF,oL] at hrun
 rw [hrun]
 simp -implicitDefEqProofs only [EQA,Zg,Zh,Ze,Zj,Zi,Zf,ZF,ZE,ZH,ZG,ZL,ZI,ZJ,ZM,ZK,implies_true,forall_const,Xh,Xi,Xl,Xd,Xe,Xj,Xk,ZC,ZD,unA,Zy,Zz,unG,reduceCtorEq,Zn,decide_eq_true_eq,Xf,Xc,ite_self,↓reduceIte,Zx,ZB,gcT,gcA,Zv,Zm,Zd,Zl,Zu,Zb,Zt,Zk,Zw,Xg,Zdd,Zcy,Zc6,Zdm,ZcP,Zdh,ZcI,Zc,Zr,Zs,Zp,Zq,ZN,ho]
end
section
theorem Znw (l:List ZQ) (s:ZQ) (hl:l.length<=1000000):∀ (r:List ZQ) (i:Nat),l.drop i=r->i<=l.length ->
  Zhe 0 [(5,.int .i64 (i:Int)),(3,.ref 0 0),(0,.lst false (l.map ZA))] [.var [.str s.f,.str s.k,.int .i64 s.v]]=some (.sl 0 0 0 (putAt l s (i+ZbB s r)).length,[.row 0 3 ((putAt l s (i+ZbB s r)).map ZA)])
 | [],i,h,hi=>by
  have h1:=Zdq h
  have hm:(l.map ZA).length=l.length:=by simp
  have hk:=Zpg l s hl i hi
  have e0:i+ZbB s []=i:=rfl
  rw [e0]
  unfold Zhe
  generalize l.map ZA=S at *
  rw [Z7]
  simp -implicitDefEqProofs only [EQA,Zg,Zh,Ze,Zj,Zi,Zf,ZF,ZE,ZH,ZG,ZL,ZI,ZJ,ZM,ZK,implies_true,forall_const,Xh,Xi,Xl,Xd,Xe,Xj,Xk,ZC,ZD,unA,Zy,Zz,unG,reduceCtorEq,Zn,decide_eq_true_eq,Xf,Xc,ite_self,↓reduceIte,Zx,ZB,gcT,gcA,Zv,Zm,Zd,Zl,Zu,Zb,Zt,Zk,Zw,Xg,ZfQ,Zez,h1,hm,AVal.cells,ZbX,ZbV,Zco,Zbg,Wc,WF,XE,XN,Xw,XF,Zb4,Zb0,Zb1,Zb9,Zb5,Xv,XC,ZaK,ZaQ,ZaR,Za5,Zbu,Zbn,ZbH,Zbx,ZaT,ZbP,X1,Wl,XE,XN,XK]
  exact hk
 | x::r,i,h,hi=>by
  obtain ⟨g1,d1,l1⟩:=Zao h
  have h1:(i:Int) < l.length:=by omega
  have hm:(l.map ZA).length=l.length:=by simp
  have e1:=iad g1 ZA (k:=3) rfl
  have hc:(ZA x).cells=[.str x.f,.str x.k,.int .i64 x.v]:=rfl
  rw [hc] at e1
  have e3:=ZbG h1 (by omega)
  have hq:=fun σ sq own view=>ZtC σ sq own view x s
  cases hx:Zc0 x s with
  | true =>
   have ih:=Znw l s hl r (i+1) d1 (by omega)
   have e0:i+ZbB s (x::r)=i+1+ZbB s r:=by
    show i+(if Zc0 x s=true then ZbB s r+1 else 0)=_
    rw [if_pos hx];omega
   rw [e0]
   rw [hx] at hq
   generalize (putAt l s (i+1+ZbB s r)).length=n at *
   generalize (putAt l s (i+1+ZbB s r)).map ZA=W at *
   unfold Zhe at *
   generalize l.map ZA=S at *
   rw [Z7]
   simp -implicitDefEqProofs only [EQA,Zg,Zh,Ze,Zj,Zi,Zf,ZF,ZE,ZH,ZG,ZL,ZI,ZJ,ZM,ZK,implies_true,forall_const,Xh,Xi,Xl,Xd,Xe,Xj,Xk,ZC,ZD,unA,Zy,Zz,unG,reduceCtorEq,Zn,decide_eq_true_eq,Xf,Xc,ite_self,↓reduceIte,Zx,ZB,gcT,gcA,Zv,Zm,Zd,Zl,Zu,Zb,Zt,Zk,Zw,Xg,ZfQ,Zez,h1,hm,e1,e3,hq,AVal.cells,ZbX,ZbV,Zco,Zbg,Wc,WF,XE,XN,Xw,XF,Zb4,Zb0,Zb1,Zb9,Zb5,Xv,XC,ZaK,ZaQ,ZaR,Za5,Zbu,Zbn,ZbH,Zbx,ZaT,ZbP,X1,Wl,XE,XN,XK]
   exact ih
  | false =>
   have hk:=Zpg l s hl i hi
   have e0:i+ZbB s (x::r)=i:=by
    show i+(if Zc0 x s=true then ZbB s r+1 else 0)=_
    rw [if_neg (by simp [hx])];rfl
   rw [e0]
   rw [hx] at hq
   generalize (putAt l s i).length=n at *
   generalize (putAt l s i).map ZA=W at *
   unfold Zhe at *
   generalize l.map ZA=S at *
   rw [Z7]
   simp -implicitDefEqProofs only [EQA,Zg,Zh,Ze,Zj,Zi,Zf,ZF,ZE,ZH,ZG,ZL,ZI,ZJ,ZM,ZK,implies_true,forall_const,Xh,Xi,Xl,Xd,Xe,Xj,Xk,ZC,ZD,unA,Zy,Zz,unG,reduceCtorEq,Zn,decide_eq_true_eq,Xf,Xc,ite_self,↓reduceIte,Zx,ZB,gcT,gcA,Zv,Zm,Zd,Zl,Zu,Zb,Zt,Zk,Zw,Xg,ZfQ,Zez,h1,hm,e1,e3,hq,AVal.cells,ZbX,ZbV,Zco,Zbg,Wc,WF,XE,XN,Xw,XF,Zb4,Zb0,Zb1,Zb9,Zb5,Xv,XC,ZaK,ZaQ,ZaR,Za5,Zbu,Zbn,ZbH,Zbx,ZaT,ZbP,X1,Wl,XE,XN,XK]
   exact hk
def ZcK (l:List ZQ) (s:ZQ):List ZQ:=putAt l s (ZbB s l)
theorem ZAS (l:List ZQ) (s:ZQ) (hl:l.length<=1000000):E 17 [.lst false (l.map ZA),.agg [.str s.f,.str s.k,.int .i64 s.v]] []=some (.sl 0 0 0 (ZcK l s).length,[.row 0 3 ((ZcK l s).map ZA)]):=by
 have h:=Znw l s hl l 0 rfl (Xa7 _)
 rw [XD] at h
 unfold ZcK
 have z0:((0:Nat):Int)=0:=rfl
 rw [z0] at h
 generalize (putAt l s (ZbB s l)).length=n at *
 generalize (putAt l s (ZbB s l)).map ZA=W at *
 unfold Zhe at h
 generalize l.map ZA=S at *
 rw [Zar (by rfl) ZrO]
 simp -implicitDefEqProofs only [EQA,Zg,Zh,Ze,Zj,Zi,Zf,ZF,ZE,ZH,ZG,ZL,ZI,ZJ,ZM,ZK,implies_true,forall_const,Xh,Xi,Xl,Xd,Xe,Xj,Xk,ZC,ZD,unA,Zy,Zz,unG,reduceCtorEq,Zn,decide_eq_true_eq,Xf,Xc,ite_self,↓reduceIte,Zx,ZB,gcT,gcA,Zv,Zm,Zd,Zl,Zu,Zb,Zt,Zk,Zw,Xg,ZhQ,ZfP,ZhE,AVal.cells]
 exact h
theorem Zz7 (l:List ZQ) (s:ZQ) (hl:l.length<=1000000):Zau true 0 (E 17 [.lst false (l.map ZA),.agg [.str s.f,.str s.k,.int .i64 s.v]] [])=some (.lst false ((ZcK l s).map ZA),[]):=by
 rw [ZAS l s hl]
 unfold Zau
 rw [if_pos rfl]
 rw [ZpW (k:=3) (g:=0) (t:=0) (xs:=(ZcK l s).map ZA) rfl (by simp),X5 (by simp)]
theorem ZAw (l:List ZQ) (b:Bool) (s:ZQ) (hl:l.length<=1000000) (σ:Za) (sq own:Nat):ZT E BY σ sq 17 own true [.lst b (l.map ZA),.agg [.str s.f,.str s.k,.int .i64 s.v]]=some (.lst false ((ZcK l s).map ZA),σ,{}) :=
 Zp9 (Zz7 l s hl) (by kernel_rfl) rfl rfl (fun _=>rfl) σ sq own
end
section
def Za3 (f k:List UInt8):List ZQ->Option Nat
 | []=>none
 | x::r=>if x.f=f/\x.k=k then some 0 else (Za3 f k r).map (·+1)
def Zf0 (l:List ZQ):Option Nat->AVal×Za
 | none=>(.tup [.lst false (l.map ZA),.bool false],[])
 | some j=>(.tup [.sl 0 0 0 (l.take j++l.drop (j+1)).length,.bool true],[.row 0 3 ((l.take j++l.drop (j+1)).map ZA)])
theorem ZpB (l:List ZQ) (f k:List UInt8) (hl:l.length<=1000000):∀ (r:List ZQ) (i:Nat),l.drop i=r ->
  ZhL 0 [(8,.int .i64 (i:Int)),(2,.str k),(1,.str f),(0,.lst false (l.map ZA))] []=some (Zf0 l ((Za3 f k r).map (i+·)))
 | [],i,h=>by
  have h1:=Zdq h
  have hm:(l.map ZA).length=l.length:=by simp
  simp only [Za3,Xbo,Zf0]
  unfold ZhL
  generalize l.map ZA=S at *
  rw [Z7]
  simp -implicitDefEqProofs only [EQA,Zg,Zh,Ze,Zj,Zi,Zf,ZF,ZE,ZH,ZG,ZL,ZI,ZJ,ZM,ZK,implies_true,forall_const,Xh,Xi,Xl,Xd,Xe,Xj,Xk,ZC,ZD,unA,Zy,Zz,unG,reduceCtorEq,Zn,decide_eq_true_eq,Xf,Xc,ite_self,↓reduceIte,Zx,ZB,gcT,gcA,Zv,Zm,Zd,Zl,Zu,Zb,Zt,Zk,Zw,Xg,Zie,ZfJ,Zhm,Zjn,Zge,Ziq,Zgw,Zc,Zr,Zs,Zp,Zq,ZN,h1,hm,AVal.cells]
 | x::r,i,h=>by
  obtain ⟨g1,d1,l1⟩:=Zao h
  have h1:(i:Int) < l.length:=by omega
  have hm:(l.map ZA).length=l.length:=by simp
  have e1:=iad g1 ZA (k:=3) rfl
  have hc:(ZA x).cells=[.str x.f,.str x.k,.int .i64 x.v]:=rfl
  rw [hc] at e1
  have e3:=ZbG h1 (by omega)
  have ih:=ZpB l f k hl r (i+1) d1
  by_cases hx:x.f=f/\x.k=k
  ·obtain ⟨hf,hk⟩:=hx
   have e0:(Za3 f k (x::r)).map (i+·)=some i:=by
    unfold Za3;rw [if_pos ⟨hf,hk⟩];rfl
   rw [e0]
   have hf':(x.f == f)=true:=by simpa using hf
   have hk':(x.k == k)=true:=by simpa using hk
   have g2:=fun σ=>Zqu σ l i (by omega)
   have g3:=fun σ=>ZhC σ l (i+1) (by omega)
   have k1:(l.take i).length=i:=by simp;omega
   have A1:=fun {σ:Za} {sq:Nat}=>ZpH (σ:=σ) (sq:=sq) (l.take i) (by omega)
   have A2:=fun {σ:Za} {sq t g:Nat} hs=>ZlI (b:=false) (σ:=σ) (sq:=sq) (t:=t) (g:=g) (l.take i) (l.drop (i+1)) (by omega) (by simp;omega) hs
   rw [k1] at A1 A2
   clear ih
   simp only [Zf0]
   generalize (l.take i++l.drop (i+1)).length=n at *
   generalize (l.take i++l.drop (i+1)).map ZA=W at *
   generalize (l.take i).map ZA=P at *
   generalize (l.drop (i+1)).map ZA=Q at *
   unfold ZhL
   generalize l.map ZA=S at *
   rw [Z7]
   simp -implicitDefEqProofs only [EQA,Zg,Zh,Ze,Zj,Zi,Zf,ZF,ZE,ZH,ZG,ZL,ZI,ZJ,ZM,ZK,implies_true,forall_const,Xh,Xi,Xl,Xd,Xe,Xj,Xk,ZC,ZD,unA,Zy,Zz,unG,reduceCtorEq,Zn,decide_eq_true_eq,Xf,Xc,ite_self,↓reduceIte,Zx,ZB,gcT,gcA,Zv,Zm,Zd,Zl,Zu,Zb,Zt,Zk,Zw,Xg,Zie,ZfJ,Zhm,Zjn,Zge,Ziq,Zgw,Zc,Zr,Zs,Zp,Zq,ZN,h1,hm,e1,e3,hf',hk',g2,g3,A1,A2,AVal.cells,ZbX,ZbV,Zco,Zbg,Wc,WF,XE,XN,Xw,XF,Zb4,Zb0,Zb1,Zb9,Zb5,Xv,XC,ZaK,ZaQ,ZaR,Za5,Zbu,Zbn,ZbH,Zbx,ZaT,ZbP,X1,Wl,XE,XN,XK]
   simp -implicitDefEqProofs only [EQA,ZaV,gcA,Zv,Z4,XO,XT,Xg,Xad,W1,XM,Wn,Xv,XC,id_eq,ZZ,Zm,Zw,Zan,Zl,Zk,ZP,XK,Zd,Zu,Zb,Zt,Zg,Zh,Ze,Zj,Zi,Zf,ZF,ZE,ZH,ZG,ZL,ZI,ZJ,ZM,ZK,implies_true,forall_const,Xh,Xi,Xl,Xd,Xe,Xj,Xk,ZC,ZD,unA,Zy,Zz,unG,reduceCtorEq,Zn,decide_eq_true_eq,Xf,Xc,ite_self,↓reduceIte,Zx,ZB,gcT,gcA,Zv,Zm,Zd,Zl,Zu,Zb,Zt,Zk,Zw,Xg,or_false]
  ·have e0:(Za3 f k (x::r)).map (i+·)=(Za3 f k r).map (i+1+·):=by
    have : Za3 f k (x::r)=(Za3 f k r).map (·+1):=by rw [Za3,if_neg hx]
    rw [this,Option.map_map]
    congr 1;funext z;simp only [Xby];omega
   rw [e0]
   generalize Zf0 l ((Za3 f k r).map (i+1+·))=W at *
   unfold ZhL at *
   generalize l.map ZA=S at *
   rw [Z7]
   cases hf:(x.f == f) with
   | false =>
    simp -implicitDefEqProofs only [EQA,Zg,Zh,Ze,Zj,Zi,Zf,ZF,ZE,ZH,ZG,ZL,ZI,ZJ,ZM,ZK,implies_true,forall_const,Xh,Xi,Xl,Xd,Xe,Xj,Xk,ZC,ZD,unA,Zy,Zz,unG,reduceCtorEq,Zn,decide_eq_true_eq,Xf,Xc,ite_self,↓reduceIte,Zx,ZB,gcT,gcA,Zv,Zm,Zd,Zl,Zu,Zb,Zt,Zk,Zw,Xg,Zie,ZfJ,Zhm,Zjn,Zge,Ziq,Zgw,Zc,Zr,Zs,Zp,Zq,ZN,h1,hm,e1,e3,hf,AVal.cells]
    exact ih
   | true =>
    have hk:(x.k == k)=false:=by
     simp at hf
     simpa using fun e=>hx ⟨hf,e⟩
    simp -implicitDefEqProofs only [EQA,Zg,Zh,Ze,Zj,Zi,Zf,ZF,ZE,ZH,ZG,ZL,ZI,ZJ,ZM,ZK,implies_true,forall_const,Xh,Xi,Xl,Xd,Xe,Xj,Xk,ZC,ZD,unA,Zy,Zz,unG,reduceCtorEq,Zn,decide_eq_true_eq,Xf,Xc,ite_self,↓reduceIte,Zx,ZB,gcT,gcA,Zv,Zm,Zd,Zl,Zu,Zb,Zt,Zk,Zw,Xg,Zie,ZfJ,Zhm,Zjn,Zge,Ziq,Zgw,Zc,Zr,Zs,Zp,Zq,ZN,h1,hm,e1,e3,hf,hk,AVal.cells]
    exact ih
theorem ZtZ (l:List ZQ) (f k:List UInt8) (hl:l.length<=1000000):E 19 [.lst false (l.map ZA),.str f,.str k] []=some (Zf0 l (Za3 f k l)):=by
 have h:=ZpB l f k hl l 0 rfl
 have e0:(Za3 f k l).map (0+·)=Za3 f k l:=by
  cases Za3 f k l <;> simp
 rw [e0] at h
 have z0:((0:Nat):Int)=0:=rfl
 rw [z0] at h
 generalize Zf0 l (Za3 f k l)=W at *
 unfold ZhL at h
 generalize l.map ZA=S at *
 rw [Zar (by rfl) ZBY]
 simp -implicitDefEqProofs only [EQA,Zg,Zh,Ze,Zj,Zi,Zf,ZF,ZE,ZH,ZG,ZL,ZI,ZJ,ZM,ZK,implies_true,forall_const,Xh,Xi,Xl,Xd,Xe,Xj,Xk,ZC,ZD,unA,Zy,Zz,unG,reduceCtorEq,Zn,decide_eq_true_eq,Xf,Xc,ite_self,↓reduceIte,Zx,ZB,gcT,gcA,Zv,Zm,Zd,Zl,Zu,Zb,Zt,Zk,Zw,Xg,Zie,ZfJ,Zhm,AVal.cells]
 exact h
def ZcL (l:List ZQ) (f k:List UInt8):List ZQ×Bool:=match Za3 f k l with
 | none=>(l,false)
 | some j=>(l.take j++l.drop (j+1),true)
theorem ZGm (l:List ZQ) (f k:List UInt8) (hl:l.length<=1000000):Zau true 0 (E 19 [.lst false (l.map ZA),.str f,.str k] [])=some (.tup [.lst false ((ZcL l f k).1.map ZA),.bool (ZcL l f k).2],[]):=by
 rw [ZtZ l f k hl]
 unfold ZcL
 cases Za3 f k l with
 | none=>rfl
 | some j =>
  simp only [Zf0]
  generalize l.take j++l.drop (j+1)=Q
  rw [<-X9 (f:=ZA)]
  generalize Q.map ZA=W
  simp [Zau,ZcN,viewR,viewAs,Zbc,ZaO,Zn,ZR,gcA,Zv,Zm,Z4,Zan,ZZ,ZP,Zl]
theorem ZzT (l:List ZQ) (b:Bool) (f k:List UInt8) (hl:l.length<=1000000) (σ:Za) (sq own:Nat):ZT E BY σ sq 19 own true [.lst b (l.map ZA),.str f,.str k]=some (.tup [.lst false ((ZcL l f k).1.map ZA),.bool (ZcL l f k).2],σ,{}) :=
 Zp9 (ZGm l f k hl) (by kernel_rfl) rfl rfl (fun _=>rfl) σ sq own
def ZbY:List ZQ->List (ZQ×Bool)->Bool
 | t,[]=>t.isEmpty
 | t,(_,false)::r=>ZbY t r
 | [],(_,true)::_=>false
 | y::t,(x,true)::r=>decide (y=x) && ZbY t r
theorem ZtD {α β:Type} {l:List α} {o:List β} {i:Nat} {x:α} {r:List α} (hlo:o.length=l.length) (h:l.drop i=x::r):∃ b q,o.drop i=b::q/\q.length=r.length:=by
 obtain ⟨g1,d1,l1⟩:=Zao h
 cases ho:o.drop i with
 | nil=>have:=X7.1 ho;omega
 | cons b q =>
  refine ⟨b,q,rfl,?_⟩
  have h1:=congrArg XaT h
  have h2:=congrArg XaT ho
  simp at h1 h2
  omega
theorem Zlt (T l:List ZQ) (o:List Bool) (hT:T.length<=1000000) (hl:l.length<=1000000) (hlo:o.length=l.length):∀ (r:List ZQ) (q:List Bool) (t:List ZQ) (i j:Nat),l.drop i=r->o.drop i=q->T.drop j=t->j<=T.length ->
  Zg7 0 [(8,.int .i64 (i:Int)),(7,.int .i64 (j:Int)),(2,.lst false (o.map AVal.bool)),(1,.lst false (l.map ZA)),(0,.lst false (T.map ZA))] []=some (.bool (ZbY t (r.zip q)),[])
 | [],q,t,i,j,h,ho,ht,hj=>by
  have h1:=Zdq h
  have hm:(l.map ZA).length=l.length:=by simp
  have hm2:(T.map ZA).length=T.length:=by simp
  have hjt:((j:Int) == (T.length:Int))=ZbY t []:=by
   have h2:=congrArg XaT ht
   rw [WG] at h2
   cases t with
   | nil=>simp [ZbY] at h2 ⊢;omega
   | cons y t=>simp [ZbY] at h2 ⊢;omega
  simp only [List.zip_nil_left]
  rw [<-hjt]
  unfold Zg7
  generalize o.map AVal.bool=O at *
  generalize l.map ZA=S at *
  generalize T.map ZA=U at *
  rw [Z7]
  simp -implicitDefEqProofs only [EQA,Zg,Zh,Ze,Zj,Zi,Zf,ZF,ZE,ZH,ZG,ZL,ZI,ZJ,ZM,ZK,implies_true,forall_const,Xh,Xi,Xl,Xd,Xe,Xj,Xk,ZC,ZD,unA,Zy,Zz,unG,reduceCtorEq,Zn,decide_eq_true_eq,Xf,Xc,ite_self,↓reduceIte,Zx,ZB,gcT,gcA,Zv,Zm,Zd,Zl,Zu,Zb,Zt,Zk,Zw,Xg,ZnN,Zi1,Zg2,Zz6,Zm2,ZfG,Zey,Zc,Zr,Zs,Zp,Zq,ZN,h1,hm,hm2,AVal.cells]
 | x::r,q,t,i,j,h,ho,ht,hj=>by
  obtain ⟨b,q,hq,hql⟩:=ZtD hlo h
  rw [ho] at hq
  subst hq
  obtain ⟨g1,d1,l1⟩:=Zao h
  obtain ⟨g2,d2,l2⟩:=Zao ho
  have h1:(i:Int) < l.length:=by omega
  have hm:(l.map ZA).length=l.length:=by simp
  have hm2:(T.map ZA).length=T.length:=by simp
  have e1:=iad g1 ZA (k:=3) rfl
  have hc:(ZA x).cells=[.str x.f,.str x.k,.int .i64 x.v]:=rfl
  rw [hc] at e1
  have e2:=iad g2 AVal.bool (k:=1) rfl
  have hc2:(AVal.bool b).cells=[.bool b]:=rfl
  rw [hc2] at e2
  have e3:=ZbG h1 (by omega)
  cases b with
  | false =>
   have ih:=Zlt T l o hT hl hlo r q t (i+1) j d1 d2 ht hj
   simp only [XU]
   have ea:ZbY t ((x,false)::r.zip q)=ZbY t (r.zip q):=by cases t <;> rfl
   rw [ea]
   unfold Zg7 at *
   generalize o.map AVal.bool=O at *
   generalize l.map ZA=S at *
   generalize T.map ZA=U at *
   rw [Z7]
   simp -implicitDefEqProofs only [EQA,Zg,Zh,Ze,Zj,Zi,Zf,ZF,ZE,ZH,ZG,ZL,ZI,ZJ,ZM,ZK,implies_true,forall_const,Xh,Xi,Xl,Xd,Xe,Xj,Xk,ZC,ZD,unA,Zy,Zz,unG,reduceCtorEq,Zn,decide_eq_true_eq,Xf,Xc,ite_self,↓reduceIte,Zx,ZB,gcT,gcA,Zv,Zm,Zd,Zl,Zu,Zb,Zt,Zk,Zw,Xg,ZfG,Zey,h1,hm,hm2,e1,e2,e3,AVal.cells]
   exact ih
  | true =>
   simp only [XU]
   cases t with
   | nil =>
    have h4:(j:Int)>=T.length:=by have:=X7.1 ht;omega
    have ea:ZbY [] ((x,true)::r.zip q)=false:=rfl
    rw [ea]
    unfold Zg7 at *
    generalize o.map AVal.bool=O at *
    generalize l.map ZA=S at *
    generalize T.map ZA=U at *
    rw [Z7]
    simp -implicitDefEqProofs only [EQA,Zg,Zh,Ze,Zj,Zi,Zf,ZF,ZE,ZH,ZG,ZL,ZI,ZJ,ZM,ZK,implies_true,forall_const,Xh,Xi,Xl,Xd,Xe,Xj,Xk,ZC,ZD,unA,Zy,Zz,unG,reduceCtorEq,Zn,decide_eq_true_eq,Xf,Xc,ite_self,↓reduceIte,Zx,ZB,gcT,gcA,Zv,Zm,Zd,Zl,Zu,Zb,Zt,Zk,Zw,Xg,ZfG,Zey,Zg2,h1,h4,hm,hm2,e1,e2,e3,AVal.cells,ZbX,ZbV,Zco,Zbg,Wc,WF,XE,XN,Xw,XF,Zb4,Zb0,Zb1,Zb9,Zb5,Xv,XC,ZaK,ZaQ,ZaR,Za5,Zbu,Zbn,ZbH,Zbx,ZaT,ZbP,X1,Wl,XE,XN,XK]
   | cons y t =>
    obtain ⟨g3,d3,l3⟩:=Zao ht
    have h4:¬(j:Int)>=T.length:=by omega
    have h5:(j:Int) < T.length:=by omega
    have e4:=iad g3 ZA (k:=3) rfl
    have hc3:(ZA y).cells=[.str y.f,.str y.k,.int .i64 y.v]:=rfl
    rw [hc3] at e4
    have e5:=ZbG h5 (by omega)
    have ih:=Zlt T l o hT hl hlo r q t (i+1) (j+1) d1 d2 d3 (by omega)
    have ea:ZbY (y::t) ((x,true)::r.zip q)=(decide (y=x) && ZbY t (r.zip q)):=rfl
    rw [ea]
    unfold Zg7 at *
    generalize o.map AVal.bool=O at *
    generalize l.map ZA=S at *
    generalize T.map ZA=U at *
    rw [Z7]
    have fin:∀ b1 b2 b3:Bool,(y.f == x.f)=b1->(y.k == x.k)=b2->(y.v == x.v)=b3->decide (y=x)=(b1 && (b2 && b3)):=by
     rintro b1 b2 b3 rfl rfl rfl
     obtain ⟨a1,a2,a3⟩:=y
     obtain ⟨c1,c2,c3⟩:=x
     simp only [ZQ.mk.injEq]
     by_cases u1:a1=c1 <;> by_cases u2:a2=c2 <;> by_cases u3:a3=c3 <;> simp [u1,u2,u3]
    cases u1:(y.f == x.f) with
    | false =>
     have:=fin _ _ _ u1 rfl rfl
     rw [this]
     simp -implicitDefEqProofs only [EQA,Zg,Zh,Ze,Zj,Zi,Zf,ZF,ZE,ZH,ZG,ZL,ZI,ZJ,ZM,ZK,implies_true,forall_const,Xh,Xi,Xl,Xd,Xe,Xj,Xk,ZC,ZD,unA,Zy,Zz,unG,reduceCtorEq,Zn,decide_eq_true_eq,Xf,Xc,ite_self,↓reduceIte,Zx,ZB,gcT,gcA,Zv,Zm,Zd,Zl,Zu,Zb,Zt,Zk,Zw,Xg,ZfG,Zey,Zg2,h1,h4,hm,hm2,e1,e2,e3,e4,u1,Zds,Zb7,ZdP,Zai,Zcd,AVal.cells,WJ,ZbX,ZbV,Zco,Zbg,Wc,WF,XE,XN,Xw,XF,Zb4,Zb0,Zb1,Zb9,Zb5,Xv,XC,ZaK,ZaQ,ZaR,Za5,Zbu,Zbn,ZbH,Zbx,ZaT,ZbP,X1,Wl,XE,XN,XK]
    | true =>
     cases u2:(y.k == x.k) with
     | false =>
      have:=fin _ _ _ u1 u2 rfl
      rw [this]
      simp -implicitDefEqProofs only [EQA,Zg,Zh,Ze,Zj,Zi,Zf,ZF,ZE,ZH,ZG,ZL,ZI,ZJ,ZM,ZK,implies_true,forall_const,Xh,Xi,Xl,Xd,Xe,Xj,Xk,ZC,ZD,unA,Zy,Zz,unG,reduceCtorEq,Zn,decide_eq_true_eq,Xf,Xc,ite_self,↓reduceIte,Zx,ZB,gcT,gcA,Zv,Zm,Zd,Zl,Zu,Zb,Zt,Zk,Zw,Xg,ZfG,Zey,Zg2,h1,h4,hm,hm2,e1,e2,e3,e4,u1,u2,Zds,Zb7,ZdP,Zai,Zcd,AVal.cells,WJ,XaE,ZbX,ZbV,Zco,Zbg,Wc,WF,XE,XN,Xw,XF,Zb4,Zb0,Zb1,Zb9,Zb5,Xv,XC,ZaK,ZaQ,ZaR,Za5,Zbu,Zbn,ZbH,Zbx,ZaT,ZbP,X1,Wl,XE,XN,XK]
     | true =>
      cases u3:(y.v == x.v) with
      | false =>
       have:=fin _ _ _ u1 u2 u3
       rw [this]
       simp -implicitDefEqProofs only [EQA,Zg,Zh,Ze,Zj,Zi,Zf,ZF,ZE,ZH,ZG,ZL,ZI,ZJ,ZM,ZK,implies_true,forall_const,Xh,Xi,Xl,Xd,Xe,Xj,Xk,ZC,ZD,unA,Zy,Zz,unG,reduceCtorEq,Zn,decide_eq_true_eq,Xf,Xc,ite_self,↓reduceIte,Zx,ZB,gcT,gcA,Zv,Zm,Zd,Zl,Zu,Zb,Zt,Zk,Zw,Xg,ZfG,Zey,Zg2,h1,h4,hm,hm2,e1,e2,e3,e4,u1,u2,u3,Zds,Zb7,ZdP,Zai,Zcd,AVal.cells,WJ,XaE,ZbX,ZbV,Zco,Zbg,Wc,WF,XE,XN,Xw,XF,Zb4,Zb0,Zb1,Zb9,Zb5,Xv,XC,ZaK,ZaQ,ZaR,Za5,Zbu,Zbn,ZbH,Zbx,ZaT,ZbP,X1,Wl,XE,XN,XK]
      | true =>
       have:=fin _ _ _ u1 u2 u3
       rw [this]
       simp -implicitDefEqProofs only [EQA,Zg,Zh,Ze,Zj,Zi,Zf,ZF,ZE,ZH,ZG,ZL,ZI,ZJ,ZM,ZK,implies_true,forall_const,Xh,Xi,Xl,Xd,Xe,Xj,Xk,ZC,ZD,unA,Zy,Zz,unG,reduceCtorEq,Zn,decide_eq_true_eq,Xf,Xc,ite_self,↓reduceIte,Zx,ZB,gcT,gcA,Zv,Zm,Zd,Zl,Zu,Zb,Zt,Zk,Zw,Xg,ZfG,Zey,h1,h4,hm,hm2,e1,e2,e3,e4,e5,u1,u2,u3,Zds,Zb7,ZdP,Zai,Zcd,AVal.cells,XaE,ZbX,ZbV,Zco,Zbg,Wc,WF,XE,XN,Xw,XF,Zb4,Zb0,Zb1,Zb9,Zb5,Xv,XC,ZaK,ZaQ,ZaR,Za5,Zbu,Zbn,ZbH,Zbx,ZaT,ZbP,X1,Wl,XE,XN,XK]
       exact ih
theorem Ztg (T l:List ZQ) (o:List Bool) (hT:T.length<=1000000) (hl:l.length<=1000000) (hlo:o.length=l.length):E 23 [.lst false (T.map ZA),.lst false (l.map ZA),.lst false (o.map AVal.bool)] []=some (.bool (ZbY T (l.zip o)),[]):=by
 have h:=Zlt T l o hT hl hlo l o T 0 0 rfl rfl rfl (Xa7 _)
 have z0:((0:Nat):Int)=0:=rfl
 rw [z0] at h
 unfold Zg7 at h
 generalize o.map AVal.bool=O at *
 generalize l.map ZA=S at *
 generalize T.map ZA=U at *
 rw [Zar (by rfl) Ztz]
 simp -implicitDefEqProofs only [EQA,Zg,Zh,Ze,Zj,Zi,Zf,ZF,ZE,ZH,ZG,ZL,ZI,ZJ,ZM,ZK,implies_true,forall_const,Xh,Xi,Xl,Xd,Xe,Xj,Xk,ZC,ZD,unA,Zy,Zz,unG,reduceCtorEq,Zn,decide_eq_true_eq,Xf,Xc,ite_self,↓reduceIte,Zx,ZB,gcT,gcA,Zv,Zm,Zd,Zl,Zu,Zb,Zt,Zk,Zw,Xg,ZnN,Zi1,Zg2,AVal.cells]
 exact h
end
section
end
section
end
section
set_option maxRecDepth 100000
theorem ZBx:E 8 [] []=some (.bool true,[]):=Zct.2 ⟨30,by kernel_rfl⟩
end
section
def Zcs (f:List UInt8) (a:Int×Bool) (l:List ZQ):Int×Bool:=l.foldl (fun a x=>if x.f=f then (x.v,true) else a) a
section
variable (M:List (List UInt8×Int)) (L:List ZQ) (hl:L.length<=1000000) (f ky:List UInt8) (i v dd vv:Int) (ok bn:Bool) (sc:List AVal)
include hl
theorem Zmu:∀ (r:List ZQ) (k:Nat) (a:Int×Bool),L.drop k=r->k<=L.length ->
  evL FC PR BY 0 [14,13,12,11,10,6,5,4,3,0] ZkU [(14,.int .i64 (k:Int)),(13,.bool a.2),(12,.int .i64 a.1),(11,.bool ok),(10,.int .i64 v),(6,.ref 0 0),(5,.int .i64 i),(4,.lst bn (L.map ZA)),(3,.ref 1 0),(0,.lst false sc)] [.var [.int .i64 dd,.int .i64 vv,.str f,.str ky],.var [.map 2],.map (ixE M)]
  =some (.exit 5,[(119,.bool false),(14,.int .i64 (L.length:Int)),(13,.bool (Zcs f a r).2),(12,.int .i64 (Zcs f a r).1),(11,.bool ok),(10,.int .i64 v),(6,.ref 0 0),(5,.int .i64 i),(4,.lst bn (L.map ZA)),(3,.ref 1 0),(0,.lst false sc)],[.var [.int .i64 dd,.int .i64 vv,.str f,.str ky],.var [.map 2],.map (ixE M)])
 | [],k,a,h,hk=>by
  have h1:=Zdq h
  have hm:(L.map ZA).length=L.length:=by simp
  have hr:=ZcA M
  have hn:=fun ρ=>ZbT ρ M
  have e:Zcs f a []=a:=rfl
  have ek:(L.length:Int)=k:=by have:=X7.1 h;omega
  rw [e]
  generalize ixE M=X at *
  generalize L.map ZA=S at *
  rw [Z7]
  simp -implicitDefEqProofs only [EQA,Zg,Zh,Ze,Zj,Zi,Zf,ZF,ZE,ZH,ZG,ZL,ZI,ZJ,ZM,ZK,implies_true,forall_const,Xh,Xi,Xl,Xd,Xe,Xj,Xk,ZC,ZD,unA,Zy,Zz,unG,reduceCtorEq,Zn,decide_eq_true_eq,Xf,Xc,ite_self,↓reduceIte,Zx,ZB,gcT,gcA,Zv,Zm,Zd,Zl,Zu,Zb,Zt,Zk,Zw,Xg,Zd1,Zde,h1,hm,hr,hn,AVal.cells]
  rw [ek]
 | x::r,k,a,h,hk=>by
  obtain ⟨g1,d1,l1⟩:=Zao h
  have h1:(k:Int) < L.length:=by omega
  have hm:(L.map ZA).length=L.length:=by simp
  have e1:=iad g1 ZA (k:=3) rfl
  have hc:(ZA x).cells=[.str x.f,.str x.k,.int .i64 x.v]:=rfl
  rw [hc] at e1
  have e3:=ZbG h1 (by omega)
  have hr:=ZcA M
  have hn:=fun ρ=>ZbT ρ M
  cases hf:(x.f == f) with
  | true =>
   have e:Zcs f a (x::r)=Zcs f (x.v,true) r:=by
    simp at hf;simp [Zcs,hf]
   have ih:=Zmu r (k+1) (x.v,true) d1 (by omega)
   rw [e]
   generalize Zcs f (x.v,true) r=W at *
   generalize ixE M=X at *
   generalize L.map ZA=S at *
   rw [Z7]
   simp -implicitDefEqProofs only [EQA,Zg,Zh,Ze,Zj,Zi,Zf,ZF,ZE,ZH,ZG,ZL,ZI,ZJ,ZM,ZK,implies_true,forall_const,Xh,Xi,Xl,Xd,Xe,Xj,Xk,ZC,ZD,unA,Zy,Zz,unG,reduceCtorEq,Zn,decide_eq_true_eq,Xf,Xc,ite_self,↓reduceIte,Zx,ZB,gcT,gcA,Zv,Zm,Zd,Zl,Zu,Zb,Zt,Zk,Zw,Xg,Zd1,Zde,h1,hm,hr,hn,e1,e3,hf,AVal.cells,ZbX,ZbV,Zco,Zbg,Wc,WF,XE,XN,Xw,XF,Zb4,Zb0,Zb1,Zb9,Zb5,Xv,XC,ZaK,ZaQ,ZaR,Za5,Zbu,Zbn,ZbH,Zbx,ZaT,ZbP,X1,Wl,XE,XN,XK]
   exact ih
  | false =>
   have e:Zcs f a (x::r)=Zcs f a r:=by
    simp at hf;simp [Zcs,hf]
   have ih:=Zmu r (k+1) a d1 (by omega)
   rw [e]
   generalize Zcs f a r=W at *
   generalize ixE M=X at *
   generalize L.map ZA=S at *
   rw [Z7]
   simp -implicitDefEqProofs only [EQA,Zg,Zh,Ze,Zj,Zi,Zf,ZF,ZE,ZH,ZG,ZL,ZI,ZJ,ZM,ZK,implies_true,forall_const,Xh,Xi,Xl,Xd,Xe,Xj,Xk,ZC,ZD,unA,Zy,Zz,unG,reduceCtorEq,Zn,decide_eq_true_eq,Xf,Xc,ite_self,↓reduceIte,Zx,ZB,gcT,gcA,Zv,Zm,Zd,Zl,Zu,Zb,Zt,Zk,Zw,Xg,Zd1,Zde,h1,hm,hr,hn,e1,e3,hf,AVal.cells,ZbX,ZbV,Zco,Zbg,Wc,WF,XE,XN,Xw,XF,Zb4,Zb0,Zb1,Zb9,Zb5,Xv,XC,ZaK,ZaQ,ZaR,Za5,Zbu,Zbn,ZbH,Zbx,ZaT,ZbP,X1,Wl,XE,XN,XK]
   exact ih
theorem Zpk:∀ (r:List ZQ) (k:Nat) (P:List Bool),L.drop k=r->k<=L.length->P.length=k ->
  evL FC PR BY 0 [16,15,6,5,4,3,0] Zla [(16,.int .i64 (k:Int)),(15,.sl 0 0 0 L.length),(6,.ref 1 0),(5,.int .i64 i),(4,.lst bn (L.map ZA)),(3,.ref 2 0),(0,.lst false sc)] [.row 0 1 ((P++Xx r.length false).map AVal.bool),.var [.int .i64 dd,.int .i64 vv,.str f,.str ky],.var [.map 3],.map (ixE M)]
  =some (.exit 3,[(47,.bool false),(16,.int .i64 (L.length:Int)),(15,.sl 0 0 0 L.length),(6,.ref 1 0),(5,.int .i64 i),(4,.lst bn (L.map ZA)),(3,.ref 2 0),(0,.lst false sc)],[.row 0 1 ((P++r.map fun x=>Zaz f x.f).map AVal.bool),.var [.int .i64 dd,.int .i64 vv,.str f,.str ky],.var [.map 3],.map (ixE M)])
 | [],k,P,h,hk,hP=>by
  have h1:=Zdq h
  have hm:(L.map ZA).length=L.length:=by simp
  have hr:=ZcA M
  have hn:=fun ρ=>ZbT ρ M
  have ek:(L.length:Int)=k:=by have:=X7.1 h;omega
  simp only [XF,List.replicate_zero,Wm,XO]
  generalize ixE M=X at *
  generalize P.map AVal.bool=O at *
  generalize L.map ZA=S at *
  rw [Z7]
  simp -implicitDefEqProofs only [EQA,Zg,Zh,Ze,Zj,Zi,Zf,ZF,ZE,ZH,ZG,ZL,ZI,ZJ,ZM,ZK,implies_true,forall_const,Xh,Xi,Xl,Xd,Xe,Xj,Xk,ZC,ZD,unA,Zy,Zz,unG,reduceCtorEq,Zn,decide_eq_true_eq,Xf,Xc,ite_self,↓reduceIte,Zx,ZB,gcT,gcA,Zv,Zm,Zd,Zl,Zu,Zb,Zt,Zk,Zw,Xg,Zee,ZdC,h1,hm,hr,hn,AVal.cells]
  rw [ek]
 | x::r,k,P,h,hk,hP=>by
  obtain ⟨g1,d1,l1⟩:=Zao h
  have h1:(k:Int) < L.length:=by omega
  have hm:(L.map ZA).length=L.length:=by simp
  have e1:=iad g1 ZA (k:=3) rfl
  have hc:(ZA x).cells=[.str x.f,.str x.k,.int .i64 x.v]:=rfl
  rw [hc] at e1
  have e3:=ZbG h1 (by omega)
  have hr:=ZcA M
  have hn:=fun ρ=>ZbT ρ M
  have hq:=fun σ sq own view=>ZFx σ sq own view f x.f
  have ih:=Zpk r (k+1) (P++[Zaz f x.f]) d1 (by omega) (by simp [hP])
  have eA:P++[Zaz f x.f]++Xx r.length false=P++Zaz f x.f::Xx r.length false:=by simp
  have eB:P++[Zaz f x.f]++r.map (fun x=>Zaz f x.f)=P++(x::r).map (fun x=>Zaz f x.f):=by simp
  rw [eA,eB] at ih
  have eC:P++Xx (x::r).length false=P++false::Xx r.length false:=by rw [Xw,Xan]
  rw [eC]
  have hget:((P++false::Xx r.length false).map AVal.bool)[k]?=some (.bool false):=by
   rw [List.getElem?_map,Ww (by omega),hP,W5];rfl
  have hset:((P++false::Xx r.length false).map AVal.bool).set k (.bool (Zaz f x.f))=(P++Zaz f x.f::Xx r.length false).map AVal.bool:=by
   rw [<-List.map_set,List.set_append_right _ _ (by omega),hP,W5];rfl
  have hk0:(0:Int)<=(k:Int):=by omega
  have hia:∀ (σ:Za),σ[0]?=some (.row 0 1 ((P++false::Xx r.length false).map AVal.bool))->Za6 σ 1 (.sl 0 0 0 L.length) (.int .i64 (k:Int))=some (.eref 0 0 k 0,σ,{ rd:=[0] }):=by
   intro σ hs
   simp only [Za6,hk0,if_true,X0,l1,hs,and_self,XD]
  generalize (P++Zaz f x.f::Xx r.length false).map AVal.bool=O2 at *
  generalize (P++false::Xx r.length false).map AVal.bool=O at *
  generalize (P++(x::r).map fun x=>Zaz f x.f).map AVal.bool=O3 at *
  generalize Zaz f x.f=mb at *
  generalize ixE M=X at *
  generalize L.map ZA=S at *
  rw [Z7]
  simp -implicitDefEqProofs only [EQA,Zg,Zh,Ze,Zj,Zi,Zf,ZF,ZE,ZH,ZG,ZL,ZI,ZJ,ZM,ZK,implies_true,forall_const,Xh,Xi,Xl,Xd,Xe,Xj,Xk,ZC,ZD,unA,Zy,Zz,unG,reduceCtorEq,Zn,decide_eq_true_eq,Xf,Xc,ite_self,↓reduceIte,Zx,ZB,gcT,gcA,Zv,Zm,Zd,Zl,Zu,Zb,Zt,Zk,Zw,Xg,Zee,ZdC,h1,hm,hr,hn,e1,e3,hq,hget,hset,hia,Zdl,Zba,ZaO,ZR,Z1,XK,AVal.cells,ZbX,ZbV,Zco,Zbg,Wc,WF,XE,XN,Xw,XF,Zb4,Zb0,Zb1,Zb9,Zb5,Xv,XC,ZaK,ZaQ,ZaR,Za5,Zbu,Zbn,ZbH,Zbx,ZaT,ZbP,X1,Wl,XE,XN,XK]
  exact ih
end
end
section
theorem Zro {a b c:ZQ} (h:ltR a b) (h':ltR b c):ltR a c:=ZfC h h'
theorem Zdi (a b:ZQ):ZaN a b=true↔kyR a=kyR b:=by
 unfold ZaN kyR;simp
theorem ZqF {a b:ZQ} (h:¬ltR a b) (h':ZaN a b=false):ltR b a:=by
 by_cases e:ltR b a
 ·exact e
 ·have:=ZfF h e
  rw [(Zdi a b).2 this] at h';cases h'
theorem ZiX {a b:ZQ} (h:ltR a b):ZaN a b=false:=by
 cases e:ZaN a b with
 | false=>rfl
 | true=>have:=(Zdi a b).1 e;unfold ltR at h;rw [this] at h;exact absurd h (Ze3 _)
theorem Zn9 (a b:ZQ):ZaN a b=ZaN b a:=by
 cases e:ZaN b a with
 | true=>exact (Zdi a b).2 ((Zdi b a).1 e).symm
 | false =>
  cases e':ZaN a b with
  | false=>rfl
  | true=>rw [(Zdi b a).2 ((Zdi a b).1 e').symm] at e;cases e
def ZdD (s:ZQ):List ZQ->List ZQ
 | []=>[s]
 | x::r=>if Zc0 x s then x::ZdD s r else if ZaN x s then s::r else s::x::r
theorem ZpD (s:ZQ):∀ L:List ZQ,ZcK L s=ZdD s L
 | []=>rfl
 | x::r=>by
  have ih:=ZpD s r
  unfold ZcK putAt at *
  unfold ZdD
  by_cases h:Zc0 x s=true
  ·rw [if_pos h,<-ih]
   have e:ZbB s (x::r)=ZbB s r+1:=by rw [ZbB,if_pos h]
   rw [e]
   rfl
  ·rw [if_neg h]
   have e:ZbB s (x::r)=0:=by rw [ZbB,if_neg h]
   rw [e]
   by_cases h2:ZaN x s=true
   ·rw [if_pos h2];simp [ZcG,h2]
   ·rw [if_neg h2];simp [ZcG,h2]
theorem Zol (s:ZQ):∀ L:List ZQ,L.Pairwise ltR->(ZdD s L).Perm (s::L.filter fun x=>!ZaN x s)
 | [],_=>Xaa _
 | x::r,h=>by
  obtain ⟨h1,h2⟩:=Wk.1 h
  unfold ZdD
  by_cases hl:Zc0 x s=true
  ·rw [if_pos hl]
   have:=ZiX ((ZjA x s).1 hl)
   rw [WQ,this]
   simp only [W3,if_true]
   exact ((Zol s r h2).cons x).trans (Xa8.swap _ _ _)
  ·have hnl:¬ltR x s:=fun e=>hl ((ZjA x s).2 e)
   rw [if_neg hl]
   by_cases hs:ZaN x s=true
   ·rw [if_pos hs,WQ,hs]
    simp only [W9,Xm,if_false]
    rw [Xap.2]
    intro y hy
    have h3:=h1 y hy
    have e:kyR x=kyR s:=(Zdi x s).1 hs
    have : ZaN y s=false:=by
     rw [Zn9]
     refine ZiX ?_
     unfold ltR at h3 ⊢
     rw [<-e];exact h3
    simp [this]
   ·rw [if_neg hs,Xap.2]
    intro y hy
    have hsx:=ZqF hnl (by simpa using hs)
    rcases XA.1 hy with rfl | hy
    ·simpa using hs
    ·have:=ZiX (Zro hsx (h1 y hy))
     rw [Zn9] at this
     simp [this]
theorem ZnC (s:ZQ):∀ (L:List ZQ) (y:ZQ),y ∈ ZdD s L->y=s\/y ∈ L
 | [],y,h=>by simpa [ZdD] using h
 | x::r,y,h=>by
  unfold ZdD at h
  split at h
  ·rcases XA.1 h with rfl | h
   ·simp
   ·rcases ZnC s r y h with h | h <;> simp [h]
  ·split at h
   ·rcases XA.1 h with h | h <;> simp [h]
   ·rcases XA.1 h with h | h
    ·simp [h]
    ·exact Xy h
theorem Zq2 (s:ZQ):∀ L:List ZQ,L.Pairwise ltR->(ZdD s L).Pairwise ltR
 | [],_=>by simp [ZdD]
 | x::r,h=>by
  obtain ⟨h1,h2⟩:=Wk.1 h
  unfold ZdD
  by_cases hl:Zc0 x s=true
  ·rw [if_pos hl]
   refine Wk.2 ⟨fun y hy=>?_,Zq2 s r h2⟩
   rcases ZnC s r y hy with rfl | hy
   ·exact (ZjA _ _).1 hl
   ·exact h1 y hy
  ·have hnl:¬ltR x s:=fun e=>hl ((ZjA x s).2 e)
   rw [if_neg hl]
   by_cases hs:ZaN x s=true
   ·rw [if_pos hs]
    refine Wk.2 ⟨fun y hy=>?_,h2⟩
    have:=h1 y hy
    unfold ltR at this ⊢
    rw [<-(Zdi x s).1 hs];exact this
   ·rw [if_neg hs]
    have hsx:=ZqF hnl (by simpa using hs)
    refine Wk.2 ⟨fun y hy=>?_,h⟩
    rcases XA.1 hy with rfl | hy
    ·exact hsx
    ·exact Zro hsx (h1 y hy)
def ZdK (f k:List UInt8):ZQ:=⟨f,k,0⟩
theorem Zox (f k:List UInt8):∀ L:List ZQ,L.Pairwise ltR->ZcL L f k=(L.filter (fun x=>!ZaN x (ZdK f k)),L.any fun x=>ZaN x (ZdK f k))
 | [],_=>rfl
 | x::r,h=>by
  obtain ⟨h1,h2⟩:=Wk.1 h
  have ih:=Zox f k r h2
  have hk:(x.f=f/\x.k=k)↔ZaN x (ZdK f k)=true:=by
   rw [Zdi];unfold kyR ZdK;simp
  unfold ZcL at *
  by_cases hx:x.f=f/\x.k=k
  ·have e:Za3 f k (x::r)=some 0:=by rw [Za3,if_pos hx]
   have hs:=hk.1 hx
   rw [e]
   simp only [List.take_zero,XT,XD,XaK,XaI]
   rw [WQ,hs,Wc,hs]
   simp only [W9,Xm,if_false,WZ]
   rw [Xap.2]
   intro y hy
   have:=ZiX (h1 y hy)
   have e2:=(Zdi x _).1 hs
   have : ZaN y (ZdK f k)=false:=by
    cases e3:ZaN y (ZdK f k) with
    | false=>rfl
    | true =>
     have:=(Zdi y _).1 e3
     rw [(Zdi x y).2 (e2.trans this.symm)] at *
     cases ‹true=false›
   simp [this]
  ·have hs:ZaN x (ZdK f k)=false:=by
    cases e3:ZaN x (ZdK f k) with
    | false=>rfl
    | true=>exact absurd (hk.2 e3) hx
   have e:Za3 f k (x::r)=(Za3 f k r).map (·+1):=by rw [Za3,if_neg hx]
   rw [e,WQ,hs,Wc,hs]
   simp only [W3,if_true,Bool.false_or]
   cases hf:Za3 f k r with
   | none=>rw [hf] at ih;simp only [Xb] at ih;simp only [Xbo,Xb];exact ⟨by rw [<-ih.1],ih.2⟩
   | some j=>rw [hf] at ih;simp only [Xb] at ih;simp only [Option.map_some,Xb,List.take_succ_cons,XaK,Wt];exact ⟨by rw [<-ih.1],ih.2⟩
def Zgk (M:List (List UInt8×Int)):List (List UInt8):=M.map (·.1)
theorem Zoe (n:List UInt8) (v:Int):∀ M:List (List UInt8×Int),(Zgk M).Nodup->(Zbo n v M).Perm ((n,v)::M.filter fun p=>!(p.1 == n))
 | [],_=>Xaa _
 | p::r,h=>by
  obtain ⟨h1,h2⟩:=Wa.1 h
  unfold Zbo
  by_cases e:n=p.1
  ·rw [if_pos e,WQ]
   have : (p.1 == n)=true:=by simp [e]
   rw [this]
   simp only [W9,Xm,if_false]
   rw [Xap.2]
   intro q hq
   have : q.1≠n:=by rintro rfl;exact h1 (XL.2 ⟨q,hq,e⟩)
   simpa using this
  ·rw [if_neg e,WQ]
   have : (p.1 == n)=false:=by simpa using fun e'=>e e'.symm
   rw [this]
   simp only [W3,if_true]
   exact ((Zoe n v r h2).cons p).trans (Xa8.swap _ _ _)
theorem ZpK (n:List UInt8):∀ M:List (List UInt8×Int),(Zgk M).Nodup->Zbl n M=M.filter fun p=>!(p.1 == n)
 | [],_=>rfl
 | p::r,h=>by
  obtain ⟨h1,h2⟩:=Wa.1 h
  unfold Zbl
  by_cases e:n=p.1
  ·rw [if_pos e,WQ]
   have : (p.1 == n)=true:=by simp [e]
   rw [this]
   simp only [W9,Xm,if_false]
   rw [Xap.2]
   intro q hq
   have : q.1≠n:=by rintro rfl;exact h1 (XL.2 ⟨q,hq,e⟩)
   simpa using this
  ·rw [if_neg e,WQ]
   have : (p.1 == n)=false:=by simpa using fun e'=>e e'.symm
   rw [this]
   simp only [W3,if_true]
   rw [ZpK n r h2]
theorem Zkq (n:List UInt8):∀ M:List (List UInt8×Int),(ZaH n M).isSome=M.any fun p=>p.1 == n
 | []=>rfl
 | p::r=>by
  unfold ZaH
  rw [Wc]
  by_cases e:n=p.1
  ·simp [e]
  ·have : (p.1 == n)=false:=by simpa using fun e'=>e e'.symm
   rw [if_neg e,this,Zkq n r];rfl
theorem ZlD (n:List UInt8) (v:Int):∀ M:List (List UInt8×Int),(Zgk M).Nodup->(n,v) ∈ M->ZaH n M=some v
 | p::r,h,hm=>by
  obtain ⟨h1,h2⟩:=Wa.1 h
  unfold ZaH
  rcases XA.1 hm with rfl | hm
  ·simp
  ·have : ¬n=p.1:=by rintro rfl;exact h1 (XL.2 ⟨_,hm,rfl⟩)
   rw [if_neg this]
   exact ZlD n v r h2 hm
structure Inv (M:List (List UInt8×Int)) (L:List ZQ):Prop where
 sort:L.Pairwise ltR
 perm:L.Perm (M.map mkR)
theorem Inv.nil:Inv [] []:=⟨List.Pairwise.nil,Xaa _⟩
theorem Inv.len {M:List (List UInt8×Int)} {L:List ZQ} (h:Inv M L):L.length=M.length:=by
 have:=h.perm.length_eq;simpa using this
theorem Inv.keys {M:List (List UInt8×Int)} {L:List ZQ} (h:Inv M L):(Zgk M).Nodup:=by
 have h1:(L.map kyR).Nodup:=by
  rw [XbA,XaU]
  exact h.sort.imp fun h e=>by unfold ltR at h;rw [e] at h;exact Ze3 _ h
 have h2:=(h.perm.map kyR).nodup_iff.1 h1
 rw [Wg] at h2
 have e:M.map (kyR ∘ mkR)=(Zgk M).map fun x=>(x,[]):=by unfold Zgk;rw [Wg];rfl
 rw [e] at h2
 rw [XbA,XaU] at h2
 exact h2.imp fun h e=>h (by rw [e])
theorem Zqw (p:List UInt8×Int) (n:List UInt8) (v:Int):ZaN (mkR p) ⟨n,[],v⟩=(p.1 == n):=by
 unfold ZaN mkR;simp
theorem ZqH (M:List (List UInt8×Int)) (n:List UInt8) (v:Int):(M.map mkR).filter (fun x=>!ZaN x ⟨n,[],v⟩)=(M.filter fun p=>!(p.1 == n)).map mkR:=by
 rw [List.filter_map]
 congr 1
 apply List.filter_congr
 intro p _
 simp only [Xby,Zqw]
theorem Inv.put {M:List (List UInt8×Int)} {L:List ZQ} (h:Inv M L) (n:List UInt8) (v:Int):Inv (Zbo n v M) (ZcK L ⟨n,[],v⟩):=by
 rw [ZpD]
 refine ⟨Zq2 _ L h.sort,(Zol _ L h.sort).trans ?_⟩
 refine Xa8.trans ?_ ((Zoe n v M h.keys).map mkR).symm
 rw [XJ,<-ZqH M n v]
 exact (h.perm.filter _).cons _
theorem Inv.del {M:List (List UInt8×Int)} {L:List ZQ} (h:Inv M L) (n:List UInt8):Inv (Zbl n M) (ZcL L n []).1/\(ZaH n M).isSome=(ZcL L n []).2:=by
 rw [Zox n [] L h.sort,ZpK n M h.keys,Zkq]
 refine ⟨⟨h.sort.filter _,?_⟩,?_⟩
 ·have:=ZqH M n 0
  unfold ZdK
  rw [<-this]
  exact h.perm.filter _
 ·have e:M.any (fun p=>p.1 == n)=(M.map mkR).any fun x=>ZaN x (ZdK n []):=by
   rw [List.any_map]
   congr 1
   funext p
   exact (Zqw p n 0).symm
  rw [e]
  have:=h.perm
  rw [Xal]
  simp only [Xbi]
  constructor
  ·rintro ⟨x,hx,hs⟩;exact ⟨x,this.mem_iff.2 hx,hs⟩
  ·rintro ⟨x,hx,hs⟩;exact ⟨x,this.mem_iff.1 hx,hs⟩
theorem ZlQ (n:List UInt8):∀ (L:List ZQ) (a:Int×Bool),(∀ x ∈ L,x.f≠n)->Zcs n a L=a
 | [],a,_=>rfl
 | x::r,a,h=>by
  have:=h x (by simp)
  unfold Zcs
  rw [Xa5,if_neg this]
  exact ZlQ n r a fun y hy=>h y (by simp [hy])
theorem Zny (n:List UInt8):∀ (L:List ZQ) (a:Int×Bool) (x:ZQ),(L.map (·.f)).Nodup->x ∈ L->x.f=n->Zcs n a L=(x.v,true)
 | y::r,a,x,hn,hx,he=>by
  obtain ⟨h1,h2⟩:=Wa.1 hn
  unfold Zcs
  rw [Xa5]
  rcases XA.1 hx with rfl | hx
  ·rw [if_pos he]
   exact ZlQ n r _ fun z hz e=>h1 (XL.2 ⟨z,hz,e.trans he.symm⟩)
  ·rw [if_neg (fun e=>h1 (XL.2 ⟨x,hx,he.trans e.symm⟩))]
   exact Zny n r a x h2 hx he
theorem Inv.want {M:List (List UInt8×Int)} {L:List ZQ} (h:Inv M L) (n:List UInt8):Zcs n (0,false) L=((ZaH n M).getD 0,(ZaH n M).isSome):=by
 have hnd:(L.map (·.f)).Nodup:=by
  have h1:=(h.perm.map (·.f))
  rw [Wg] at h1
  exact h1.nodup_iff.2 h.keys
 cases hg:ZaH n M with
 | none =>
  refine ZlQ n L _ fun x hx e=>?_
  have hx:=h.perm.mem_iff.1 hx
  obtain ⟨p,hp,rfl⟩:=XL.1 hx
  have:=ZlD p.1 p.2 M h.keys hp
  have e:p.1=n:=e
  rw [e,hg] at this;cases this
 | some v =>
  have : (n,v) ∈ M:=by
   have h2:=Zkq n M
   rw [hg] at h2
   obtain ⟨p,hp,hpn⟩:=Xbi.1 h2.symm
   simp at hpn
   subst hpn
   have:=ZlD p.1 p.2 M h.keys hp
   rw [hg] at this;injection this with this;subst this;exact hp
  exact Zny n L _ (mkR (n,v)) hnd (h.perm.mem_iff.2 (XL.2 ⟨_,this,rfl⟩)) rfl
theorem Inv.hit {M:List (List UInt8×Int)} {L:List ZQ} (h:Inv M L) (f:List UInt8):(L.filter fun x=>Zaz f x.f).Perm (Za2 f M)/\(L.filter fun x=>Zaz f x.f).Pairwise ltR:=by
 refine ⟨?_,h.sort.filter _⟩
 unfold Za2
 have e:(M.filter fun p=>Zaz f p.1).map mkR=(M.map mkR).filter fun x=>Zaz f x.f:=by
  rw [List.filter_map];rfl
 rw [e]
 exact h.perm.filter _
theorem Zp7 (g:ZQ->Bool):∀ L:List ZQ,ZbY (L.filter g) (L.zip (L.map g))=true
 | []=>rfl
 | x::r=>by
  have ih:=Zp7 g r
  rw [WQ,XJ,XU]
  cases hg:g x with
  | true =>
   rw [if_pos rfl]
   show (decide (x=x) && ZbY (r.filter g) (r.zip (r.map g)))=true
   simp [ih]
  | false =>
   rw [if_neg (by simp)]
   have : ZbY (r.filter g) ((x,false)::r.zip (r.map g))=ZbY (r.filter g) (r.zip (r.map g)):=by cases r.filter g <;> rfl
   rw [this];exact ih
end
section
structure Zew where
 d:Int
 v:Int
 f:List UInt8
 k:List UInt8
 deriving Inhabited
def ZaM (s:Zew):AVal:=.agg [.int .i64 s.d,.int .i64 s.v,.str s.f,.str s.k]
theorem ZoL (σ:Za) (sq own:Nat) (view:Bool) (e:Int):ZT E BY σ sq 18 own view [.int .i64 e]=some (.int .i64 e,σ,{}):=by
 have h:E 18 [.int .i64 e] []=some (.int .i64 e,[]):=by
  rw [Zar (by rfl) ZDX]
  simp -implicitDefEqProofs only [EQA,Zg,Zh,Ze,Zj,Zi,Zf,ZF,ZE,ZH,ZG,ZL,ZI,ZJ,ZM,ZK,implies_true,forall_const,Xh,Xi,Xl,Xd,Xe,Xj,Xk,ZC,ZD,unA,Zy,Zz,unG,reduceCtorEq,Zn,decide_eq_true_eq,Xf,Xc,ite_self,↓reduceIte,Zx,ZB,gcT,gcA,Zv,Zm,Zd,Zl,Zu,Zb,Zt,Zk,Zw,Xg,ZBj,ZlP,ZFP,Zc,Zr,Zs,Zp,Zq,ZN,AVal.cells]
 exact ZaP (h) (by kernel_rfl) (by simp -implicitDefEqProofs only [Zac,Zab,Zg,Zh,Ze,Zaa,Zj,Zi,Z9,Zf,eq_self,implies_true,Xm,Zc,Zr,Zs,Zp,Zq,]) (by simp -implicitDefEqProofs only [Zac,Zab,Zg,Zh,Ze,Zaa,Zj,Zi,Z9,Zf,eq_self,implies_true,Xm,Zc,Zr,Zs,Zp,Zq,]) rfl (fun _=>rfl) _ _ _ _
theorem ZtO (M:List (List UInt8×Int)) (S:List ZQ):Zau true 2 (some (mO S,mH M S))=some (.lst false (S.map ZA),ixH M):=by
 cases S with
 | nil =>
  have:=ZeE (r:=.lst false []) rfl M []
  have e:Zau true 2 (some (mO [],mH M []))=ZaV 2 (mH M []) (.lst false []):=rfl
  rw [e];exact this
 | cons x S =>
  have hv:viewR (mH M (x::S)) (mO (x::S))=some (.lst false ((x::S).map ZA),[2]):=by
   unfold mH mO
   simp only [viewR,Zbc,ZaO,Zn,List.getElem?_cons_succ,List.getElem?_cons_zero,XD]
   rw [if_pos ⟨trivial,by simp⟩]
   simp [X5]
  have e:Zau true 2 (some (mO (x::S),mH M (x::S)))=(match viewR (mH M (x::S)) (mO (x::S)) with
   | some (r',ts)=>match gcA 2 [r'] (ZR (mH M (x::S)) ts) with
    | ([r''],σ')=>some (r'',σ')
    | _=>none
   | none=>none):=rfl
  rw [e,hv]
  have hn:Zam (.lst false ((x::S).map ZA))=true:=rfl
  have:=ZeE (r:=.lst false ((x::S).map ZA)) hn M [.frow 0 3 ((x::S).map ZA)]
  exact this
section
variable (M:List (List UInt8×Int)) {L:List ZQ} (hI:Inv M L) (hM:M.length<=1000000) (f:List UInt8) (hf:f.length*16<=140737488355328 - 64) {σ:Za} {t m sq:Nat} (htm:t≠m) (hs:σ[t]?=some (.var [.map m])) (hm:σ[m]?=some (.map (ixE M)))
include hI hM hf htm hs hm
theorem ZE6:ZT E BY σ sq 15 0 true [.ref t 0,.str f]=some (.lst false ((L.filter fun x=>Zaz f x.f).map ZA),(σ.set t (.var [.map m])).set m (.map (ixE M)),{ any:=true,upd:=[(t,[.map m])] }) :=
 ZqL (O:=E) (args:=[.str f]) rfl (Zww M f hf hM (hI.hit f).1 (hI.hit f).2) (ZtO M _) (by kernel_rfl) rfl rfl htm hs hm rfl
end
theorem Zwp (T L:List ZQ) (bn:Bool) (o:List Bool) (hT:T.length<=1000000) (hl:L.length<=1000000) (hlo:o.length=L.length) {σ:Za} {t sq:Nat} (hs:σ[t]?=some (.row 0 1 (o.map AVal.bool))) :
  ZT E BY σ sq 23 0 true [.lst false (T.map ZA),.lst bn (L.map ZA),.sl t 0 0 L.length]=some (.bool (ZbY T (L.zip o)),σ,{ rd:=[t] }):=by
 refine ZsR (vs:=[.lst false (T.map ZA),.lst false (L.map ZA),.lst false (o.map AVal.bool)]) (by kernel_rfl) ?_ rfl rfl (Ztg T L o hT hl hlo) rfl rfl _ _
 have hn:0+L.length<=(o.map AVal.bool).length:=by simp [hlo]
 have ht:(o.map AVal.bool).take L.length=o.map AVal.bool:=X5 (by simp [hlo])
 simp only [showAs,showA,Zcz,Zn,hs,hn,and_self,if_true,XaI,ht,XO,XT]
section
variable (sc:List Zew) (i:Nat) (M:List (List UInt8×Int)) (L:List ZQ) (bn:Bool) (x:Zew) (hx:sc[i]?=some x) (hi:i < 120) (hI:Inv M L) (hl:L.length<=1000)
include hx hi hI hl
noncomputable abbrev ZbJ (sc:List Zew) (i:Nat) (bn:Bool) (L:List ZQ) (M:List (List UInt8×Int)):=ZeY 0 [(5,.int .i64 (i:Int)),(4,.lst bn (L.map ZA)),(3,.ref 0 0),(0,.lst false (sc.map ZaM))] (ixH M)
theorem ZvC (hn:ZbS x.f=true) (h0:(x.d.tmod 4 == 0)=true) {R:Option (AVal×Za)} (hR:ZbJ sc (i+1) false (ZcK L ⟨x.f,[],x.v⟩) (Zbo x.f x.v M)=R):ZbJ sc i bn L M=R:=by
 have hI2:=hI.put x.f x.v
 have hlen:=hI2.len
 have hil:i < sc.length:=(Xn.1 hx).1
 have h1:(i:Int) < sc.length:=by omega
 have h2:(i:Int) < 120:=by omega
 have hm:(sc.map ZaM).length=sc.length:=by simp
 have e1:=iad hx ZaM (k:=4) rfl
 have hc:(ZaM x).cells=[.int .i64 x.d,.int .i64 x.v,.str x.f,.str x.k]:=rfl
 rw [hc] at e1
 have e3:IntKind.i64.wrap ((i:Int)+1)=((i+1:Nat):Int):=ZbG (n:=120) (by omega) (by decide)
 have hr:=ZcA (Zbo x.f x.v M)
 have hn':=fun ρ=>ZbT ρ (Zbo x.f x.v M)
 have q1:=fun σ sq own view=>Zfk σ sq own view x.f
 have q2:=fun σ sq own=>ZAw L bn ⟨x.f,[],x.v⟩ (by omega) σ sq own
 have q3:=fun {σ:Za} {sq:Nat} {view:Bool} hs hm=>Zoy M x.f (σ:=σ) (t:=0) (m:=1) (sq:=sq) (own:=0) (view:=view) (by decide) hs hm rfl x.v
 have q4:=ZoL
 have q5:=fun {σ:Za} {sq:Nat} {view:Bool} hs hm=>ZhW (Zbo x.f x.v M) (σ:=σ) (t:=0) (m:=1) (sq:=sq) (own:=0) (view:=view) (by decide) hs hm rfl
 rw [hn] at q1
 have hp:Zei x.f x.v M=(0,Zbo x.f x.v M):=by simp [Zei,hn]
 rw [hp] at q3
 rw [<-hlen] at q5
 have hm2:((ZcK L ⟨x.f,[],x.v⟩).map ZA).length=(ZcK L ⟨x.f,[],x.v⟩).length:=by simp
 dsimp only at q2 q3
 have d4:¬(4:Int)=0:=by decide
 subst hR
 unfold ZbJ ixH
 generalize (ZcK L ⟨x.f,[],x.v⟩).map ZA=P2 at *
 generalize (ZcK L ⟨x.f,[],x.v⟩).length=n2 at *
 generalize ixE (Zbo x.f x.v M)=X2 at *
 generalize ixE M=X at *
 generalize L.map ZA=P at *
 generalize sc.map ZaM=SC at *
 unfold ZeY
 rw [Z7]
 simp -implicitDefEqProofs only [EQA,Zg,Zh,Ze,Zj,Zi,Zf,ZF,ZE,ZH,ZG,ZL,ZI,ZJ,ZM,ZK,implies_true,forall_const,Xh,Xi,Xl,Xd,Xe,Xj,Xk,ZC,ZD,unA,Zy,Zz,unG,reduceCtorEq,Zn,decide_eq_true_eq,Xf,Xc,ite_self,↓reduceIte,Zx,ZB,gcT,gcA,Zv,Zm,Zd,Zl,Zu,Zb,Zt,Zk,Zw,Xg,Zfb,Zeb,Zff,ZfO,ZeB,ZfI,Zed,Zfp,Zes,ZfA,ZeH,Zd1,Zde,ZfE,Zex,Zee,ZdC,Zf1,ZeC,Zc,Zr,Zs,Zp,Zq,ZN,d4,h0,h1,h2,hm,hm2,e1,e3,hr,hn',q1,q2,q3,q4,q5,bne_self_eq_false,Zcd,Z1,AVal.cells]
theorem ZtT (hn:ZbS x.f=false) (h0:(x.d.tmod 4 == 0)=true) {R:Option (AVal×Za)} (hR:ZbJ sc (i+1) bn L M=R):ZbJ sc i bn L M=R:=by
 have hlen:=hI.len
 have hil:i < sc.length:=(Xn.1 hx).1
 have h1:(i:Int) < sc.length:=by omega
 have h2:(i:Int) < 120:=by omega
 have hm:(sc.map ZaM).length=sc.length:=by simp
 have e1:=iad hx ZaM (k:=4) rfl
 have hc:(ZaM x).cells=[.int .i64 x.d,.int .i64 x.v,.str x.f,.str x.k]:=rfl
 rw [hc] at e1
 have e3:IntKind.i64.wrap ((i:Int)+1)=((i+1:Nat):Int):=ZbG (n:=120) (by omega) (by decide)
 have hr:=ZcA M
 have hn':=fun ρ=>ZbT ρ M
 have q1:=fun σ sq own view=>Zfk σ sq own view x.f
 have q3:=fun {σ:Za} {sq:Nat} {view:Bool} hs hm=>Zoy M x.f (σ:=σ) (t:=0) (m:=1) (sq:=sq) (own:=0) (view:=view) (by decide) hs hm rfl x.v
 have q4:=ZoL
 have q5:=fun {σ:Za} {sq:Nat} {view:Bool} hs hm=>ZhW M (σ:=σ) (t:=0) (m:=1) (sq:=sq) (own:=0) (view:=view) (by decide) hs hm rfl
 rw [hn] at q1
 have hp:Zei x.f x.v M=(150,M):=by simp [Zei,hn]
 rw [hp] at q3
 rw [<-hlen] at q5
 have hm2:(L.map ZA).length=L.length:=by simp
 dsimp only at q3
 have d4:¬(4:Int)=0:=by decide
 subst hR
 unfold ZbJ ixH
 generalize ixE M=X at *
 generalize L.map ZA=P at *
 generalize sc.map ZaM=SC at *
 unfold ZeY
 rw [Z7]
 simp -implicitDefEqProofs only [EQA,Zg,Zh,Ze,Zj,Zi,Zf,ZF,ZE,ZH,ZG,ZL,ZI,ZJ,ZM,ZK,implies_true,forall_const,Xh,Xi,Xl,Xd,Xe,Xj,Xk,ZC,ZD,unA,Zy,Zz,unG,reduceCtorEq,Zn,decide_eq_true_eq,Xf,Xc,ite_self,↓reduceIte,Zx,ZB,gcT,gcA,Zv,Zm,Zd,Zl,Zu,Zb,Zt,Zk,Zw,Xg,Zfb,Zeb,Zff,ZfO,ZeB,ZfI,Zed,Zfp,Zes,ZfA,ZeH,Zd1,Zde,ZfE,Zex,Zee,ZdC,Zf1,ZeC,Zc,Zr,Zs,Zp,Zq,ZN,d4,h0,h1,h2,hm,hm2,e1,e3,hr,hn',q1,q3,q4,q5,bne_self_eq_false,Zcd,Z1,AVal.cells]
theorem ZDO (h0:(x.d.tmod 4 == 0)=false) (h01:(x.d.tmod 4 == 1)=true) {R:Option (AVal×Za)} (hR:ZbJ sc (i+1) false (ZcL L x.f []).1 (Zbl x.f M)=R):ZbJ sc i bn L M=R:=by
 obtain ⟨hI2,hb⟩:=hI.del x.f
 have hlen:=hI2.len
 have hil:i < sc.length:=(Xn.1 hx).1
 have h1:(i:Int) < sc.length:=by omega
 have h2:(i:Int) < 120:=by omega
 have hm:(sc.map ZaM).length=sc.length:=by simp
 have e1:=iad hx ZaM (k:=4) rfl
 have hc:(ZaM x).cells=[.int .i64 x.d,.int .i64 x.v,.str x.f,.str x.k]:=rfl
 rw [hc] at e1
 have e3:IntKind.i64.wrap ((i:Int)+1)=((i+1:Nat):Int):=ZbG (n:=120) (by omega) (by decide)
 have hr:=ZcA (Zbl x.f M)
 have hn':=fun ρ=>ZbT ρ (Zbl x.f M)
 have q2:=fun σ sq own=>ZzT L bn x.f [] (by omega) σ sq own
 have q3:=fun {σ:Za} {sq:Nat} {view:Bool} hs hm=>ZEK M x.f (σ:=σ) (t:=0) (m:=1) (sq:=sq) (own:=0) (view:=view) (by decide) hs hm rfl
 have q5:=fun {σ:Za} {sq:Nat} {view:Bool} hs hm=>ZhW (Zbl x.f M) (σ:=σ) (t:=0) (m:=1) (sq:=sq) (own:=0) (view:=view) (by decide) hs hm rfl
 rw [<-hlen] at q5
 rw [<-hb] at q2
 have hm2:((ZcL L x.f []).1.map ZA).length=(ZcL L x.f []).1.length:=by simp
 have d4:¬(4:Int)=0:=by decide
 subst hR
 unfold ZbJ ixH
 generalize (ZaH x.f M).isSome=bb at *
 generalize (ZcL L x.f []).1.map ZA=P2 at *
 generalize (ZcL L x.f []).1.length=n2 at *
 generalize ixE (Zbl x.f M)=X2 at *
 generalize ixE M=X at *
 generalize L.map ZA=P at *
 generalize sc.map ZaM=SC at *
 unfold ZeY
 rw [Z7]
 simp -implicitDefEqProofs only [EQA,Zg,Zh,Ze,Zj,Zi,Zf,ZF,ZE,ZH,ZG,ZL,ZI,ZJ,ZM,ZK,implies_true,forall_const,Xh,Xi,Xl,Xd,Xe,Xj,Xk,ZC,ZD,unA,Zy,Zz,unG,reduceCtorEq,Zn,decide_eq_true_eq,Xf,Xc,ite_self,↓reduceIte,Zx,ZB,gcT,gcA,Zv,Zm,Zd,Zl,Zu,Zb,Zt,Zk,Zw,Xg,Zfb,Zeb,Zff,ZfO,ZeB,ZfI,Zed,Zfp,Zes,ZfA,ZeH,Zd1,Zde,ZfE,Zex,Zee,ZdC,Zf1,ZeC,Zc,Zr,Zs,Zp,Zq,ZN,d4,h0,h01,h1,h2,hm,hm2,e1,e3,hr,hn',q2,q3,q5,bne_self_eq_false,Zcd,Z1,AVal.cells]
theorem ZrS (h0:(x.d.tmod 4 == 0)=false) (h01:(x.d.tmod 4 == 1)=false) (h02:(x.d.tmod 4 == 2)=true) {R:Option (AVal×Za)} (hR:ZbJ sc (i+1) bn L M=R):ZbJ sc i bn L M=R:=by
 have hlen:=hI.len
 have hil:i < sc.length:=(Xn.1 hx).1
 have h1:(i:Int) < sc.length:=by omega
 have h2:(i:Int) < 120:=by omega
 have hm:(sc.map ZaM).length=sc.length:=by simp
 have e1:=iad hx ZaM (k:=4) rfl
 have hc:(ZaM x).cells=[.int .i64 x.d,.int .i64 x.v,.str x.f,.str x.k]:=rfl
 rw [hc] at e1
 have e3:IntKind.i64.wrap ((i:Int)+1)=((i+1:Nat):Int):=ZbG (n:=120) (by omega) (by decide)
 have hr:=ZcA M
 have hn':=fun ρ=>ZbT ρ M
 have q3:=fun {σ:Za} {sq:Nat} {view:Bool} hs hm=>ZDa M x.f (σ:=σ) (t:=0) (m:=1) (sq:=sq) (own:=0) (view:=view) (by decide) hs hm rfl
 have q5:=fun {σ:Za} {sq:Nat} {view:Bool} hs hm=>ZhW M (σ:=σ) (t:=1) (m:=2) (sq:=sq) (own:=0) (view:=view) (by decide) hs hm rfl
 have hw:=hI.want x.f
 have hE:=Zmu M L (by omega) x.f x.k i ((ZaH x.f M).getD 0) x.d x.v (ZaH x.f M).isSome bn (sc.map ZaM) L 0 (0,false) rfl (Xa7 _)
 rw [hw] at hE
 rw [<-hlen] at q5
 have z0:((0:Nat):Int)=0:=rfl
 rw [z0] at hE
 dsimp only at hE
 have hm2:(L.map ZA).length=L.length:=by simp
 have d4:¬(4:Int)=0:=by decide
 subst hR
 unfold ZbJ ixH
 generalize (ZaH x.f M).isSome=bb at *
 generalize (ZaH x.f M).getD 0=gg at *
 generalize ixE M=X at *
 generalize L.map ZA=P at *
 generalize sc.map ZaM=SC at *
 unfold ZeY
 rw [Z7]
 simp -implicitDefEqProofs only [EQA,Zg,Zh,Ze,Zj,Zi,Zf,ZF,ZE,ZH,ZG,ZL,ZI,ZJ,ZM,ZK,implies_true,forall_const,Xh,Xi,Xl,Xd,Xe,Xj,Xk,ZC,ZD,unA,Zy,Zz,unG,reduceCtorEq,Zn,decide_eq_true_eq,Xf,Xc,ite_self,↓reduceIte,Zx,ZB,gcT,gcA,Zv,Zm,Zd,Zl,Zu,Zb,Zt,Zk,Zw,Xg,Zfb,Zeb,Zff,ZfO,ZeB,ZfI,Zed,Zfp,Zes,ZfA,ZeH,Zd1,Zde,ZfE,Zex,Zee,ZdC,Zf1,ZeC,Zc,Zr,Zs,Zp,Zq,ZN,d4,h0,h01,h02,h1,h2,hm,hm2,e1,e3,hr,hn',q3,q5,hE,bne_self_eq_false,Zcd,Z1,AVal.cells]
theorem ZuH (hf:x.f.length*16<=140737488355328 - 64) (h0:(x.d.tmod 4 == 0)=false) (h01:(x.d.tmod 4 == 1)=false) (h02:(x.d.tmod 4 == 2)=false) {R:Option (AVal×Za)} (hR:ZbJ sc (i+1) bn L M=R):ZbJ sc i bn L M=R:=by
 have hlen:=hI.len
 have hil:i < sc.length:=(Xn.1 hx).1
 have h1:(i:Int) < sc.length:=by omega
 have h2:(i:Int) < 120:=by omega
 have hm:(sc.map ZaM).length=sc.length:=by simp
 have e1:=iad hx ZaM (k:=4) rfl
 have hc:(ZaM x).cells=[.int .i64 x.d,.int .i64 x.v,.str x.f,.str x.k]:=rfl
 rw [hc] at e1
 have e3:IntKind.i64.wrap ((i:Int)+1)=((i+1:Nat):Int):=ZbG (n:=120) (by omega) (by decide)
 have hr:=ZcA M
 have hn':=fun ρ=>ZbT ρ M
 have q3:=fun {σ:Za} {sq:Nat} hs hm=>ZE6 M hI (by omega) x.f hf (σ:=σ) (t:=2) (m:=3) (sq:=sq) (by decide) hs hm
 have q5:=fun {σ:Za} {sq:Nat} {view:Bool} hs hm=>ZhW M (σ:=σ) (t:=2) (m:=3) (sq:=sq) (own:=0) (view:=view) (by decide) hs hm rfl
 have hE:=Zpk M L (by omega) x.f x.k i x.d x.v bn (sc.map ZaM) L 0 [] rfl (Xa7 _) rfl
 have hfl:(L.filter fun y=>Zaz x.f y.f).length<=1000000:=by have:=List.length_filter_le (fun y=>Zaz x.f y.f) L;omega
 have q4:=fun {σ:Za} {sq:Nat} hs=>Zwp (L.filter fun y=>Zaz x.f y.f) L bn (L.map fun y=>Zaz x.f y.f) hfl (by omega) (by simp) (σ:=σ) (t:=0) (sq:=sq) hs
 rw [Zp7 (fun y=>Zaz x.f y.f) L] at q4
 rw [<-hlen] at q5
 have z0:((0:Nat):Int)=0:=rfl
 rw [z0,XT,XT,List.map_replicate] at hE
 have hm2:(L.map ZA).length=L.length:=by simp
 have d4:¬(4:Int)=0:=by decide
 have b1:(0:Int)<=(L.length:Int):=by omega
 have b2:(L.length:Int)<=9223372036854775807:=by omega
 have b3:((1:Nat):Int)*(L.length:Int)<=140737488355328:=by omega
 subst hR
 unfold ZbJ ixH
 generalize (L.filter fun y=>Zaz x.f y.f).map ZA=F at *
 generalize (L.map fun y=>Zaz x.f y.f).map AVal.bool=O at *
 generalize ixE M=X at *
 generalize L.map ZA=P at *
 generalize sc.map ZaM=SC at *
 unfold ZeY
 rw [Z7]
 simp -implicitDefEqProofs only [EQA,Zg,Zh,Ze,Zj,Zi,Zf,ZF,ZE,ZH,ZG,ZL,ZI,ZJ,ZM,ZK,implies_true,forall_const,Xh,Xi,Xl,Xd,Xe,Xj,Xk,ZC,ZD,unA,Zy,Zz,unG,reduceCtorEq,Zn,decide_eq_true_eq,Xf,Xc,ite_self,↓reduceIte,Zx,ZB,gcT,gcA,Zv,Zm,Zd,Zl,Zu,Zb,Zt,Zk,Zw,Xg,Zfb,Zeb,Zff,ZfO,ZeB,ZfI,Zed,Zfp,Zes,ZfA,ZeH,Zd1,Zde,ZfE,Zex,Zee,ZdC,Zf1,ZeC,Zc,Zr,Zs,Zp,Zq,ZN,d4,h0,h01,h02,h1,h2,hm,hm2,e1,e3,hr,hn',q3,q4,q5,hE,b1,b2,b3,Wz,X0,bne_self_eq_false,Zcd,Z1,AVal.cells]
end
end
section
theorem Znn (n:List UInt8) (v:Int):∀ M:List (List UInt8×Int),(Zbo n v M).length<=M.length+1
 | []=>by simp [Zbo]
 | p::r=>by
  have:=Znn n v r
  unfold Zbo
  split <;> simp <;> omega
theorem Zrd (n:List UInt8):∀ M:List (List UInt8×Int),(Zbl n M).length<=M.length
 | []=>by simp [Zbl]
 | p::r=>by
  have:=Zrd n r
  unfold Zbl
  split <;> simp <;> omega
theorem Zq5 (sc:List Zew) (i:Nat) (bn:Bool) (L:List ZQ) (M:List (List UInt8×Int)) (hi:i<=120) (h:¬(i < sc.length/\i < 120)):ZbJ sc i bn L M=some (.bool true,[]):=by
 have hm:(sc.map ZaM).length=sc.length:=by simp
 unfold ZbJ ixH
 generalize ixE M=X at *
 generalize L.map ZA=P at *
 generalize sc.map ZaM=SC at *
 unfold ZeY
 rw [Z7]
 by_cases h1:i < sc.length
 ·have e1:(i:Int) < sc.length:=by omega
  have e2:¬(i:Int) < 120:=by omega
  simp -implicitDefEqProofs only [EQA,Zg,Zh,Ze,Zj,Zi,Zf,ZF,ZE,ZH,ZG,ZL,ZI,ZJ,ZM,ZK,implies_true,forall_const,Xh,Xi,Xl,Xd,Xe,Xj,Xk,ZC,ZD,unA,Zy,Zz,unG,reduceCtorEq,Zn,decide_eq_true_eq,Xf,Xc,ite_self,↓reduceIte,Zx,ZB,gcT,gcA,Zv,Zm,Zd,Zl,Zu,Zb,Zt,Zk,Zw,Xg,Zfb,Zeb,Zff,ZfO,ZeB,ZfI,Zed,Zfp,Zes,ZfA,ZeH,Zd1,Zde,ZfE,Zex,Zee,ZdC,Zf1,ZeC,Zc,Zr,Zs,Zp,Zq,ZN,hm,e1,e2,AVal.cells]
 ·have e1:¬(i:Int) < sc.length:=by omega
  simp -implicitDefEqProofs only [EQA,Zg,Zh,Ze,Zj,Zi,Zf,ZF,ZE,ZH,ZG,ZL,ZI,ZJ,ZM,ZK,implies_true,forall_const,Xh,Xi,Xl,Xd,Xe,Xj,Xk,ZC,ZD,unA,Zy,Zz,unG,reduceCtorEq,Zn,decide_eq_true_eq,Xf,Xc,ite_self,↓reduceIte,Zx,ZB,gcT,gcA,Zv,Zm,Zd,Zl,Zu,Zb,Zt,Zk,Zw,Xg,Zfb,Zeb,Zff,ZfO,ZeB,ZfI,Zed,Zfp,Zes,ZfA,ZeH,Zd1,Zde,ZfE,Zex,Zee,ZdC,Zf1,ZeC,Zc,Zr,Zs,Zp,Zq,ZN,hm,e1,AVal.cells]
theorem ZgF (sc:List Zew) (hf:∀ x ∈ sc,x.f.length*16<=140737488355328 - 64):∀ (n i:Nat) (bn:Bool) (L:List ZQ) (M:List (List UInt8×Int)),i+n=120->Inv M L->L.length<=i->ZbJ sc i bn L M=some (.bool true,[])
 | 0,i,bn,L,M,hn,hI,hl=>Zq5 sc i bn L M (by omega) (by omega)
 | n+1,i,bn,L,M,hn,hI,hl=>by
  by_cases h:i < sc.length/\i < 120
  ·obtain ⟨x,hx⟩:∃ x,sc[i]?=some x:=⟨_,Xz h.1⟩
   have hxs:x ∈ sc:=Xt hx
   have hl2:L.length<=1000:=by omega
   cases h0:(x.d.tmod 4 == 0) with
   | true =>
    cases hnm:ZbS x.f with
    | true =>
     have hI2:=hI.put x.f x.v
     refine ZvC sc i M L bn x hx h.2 hI hl2 hnm h0 (ZgF sc hf n (i+1) false _ _ (by omega) hI2 ?_)
     have:=hI2.len;have:=hI.len;have:=Znn x.f x.v M;omega
    | false=>exact ZtT sc i M L bn x hx h.2 hI hl2 hnm h0 (ZgF sc hf n (i+1) bn _ _ (by omega) hI (by omega))
   | false =>
    cases h01:(x.d.tmod 4 == 1) with
    | true =>
     have hI2:=(hI.del x.f).1
     refine ZDO sc i M L bn x hx h.2 hI hl2 h0 h01 (ZgF sc hf n (i+1) false _ _ (by omega) hI2 ?_)
     have:=hI2.len;have:=hI.len;have:=Zrd x.f M;omega
    | false =>
     cases h02:(x.d.tmod 4 == 2) with
     | true=>exact ZrS sc i M L bn x hx h.2 hI hl2 h0 h01 h02 (ZgF sc hf n (i+1) bn _ _ (by omega) hI (by omega))
     | false=>exact ZuH sc i M L bn x hx h.2 hI hl2 (hf x hxs) h0 h01 h02 (ZgF sc hf n (i+1) bn _ _ (by omega) hI (by omega))
  ·exact Zq5 sc i bn L M (by omega) h
theorem Zxp (σ:Za) (sq own:Nat) (view:Bool):ZT E BY σ sq 8 own view []=some (.bool true,σ,{}) :=
 ZaP (ZBx) (by kernel_rfl) (by simp -implicitDefEqProofs only [Zac,Zab,Zg,Zh,Ze,Zaa,Zj,Zi,Z9,Zf,eq_self,implies_true,Xm,Zc,Zr,Zs,Zp,Zq,]) (by simp -implicitDefEqProofs only [Zac,Zab,Zg,Zh,Ze,Zaa,Zj,Zi,Z9,Zf,eq_self,implies_true,Xm,Zc,Zr,Zs,Zp,Zq,]) rfl (fun _=>rfl) _ _ _ _
theorem ZAd (sc:List Zew) (hf:∀ x ∈ sc,x.f.length*16<=140737488355328 - 64):E 5 [.lst false (sc.map ZaM)] []=some (.bool true,[]):=by
 have h:=ZgF sc hf 120 0 true [] [] rfl Inv.nil (X3 _)
 unfold ZbJ ixH ZeY at h
 have z0:((0:Nat):Int)=0:=rfl
 rw [z0] at h
 have e0:ixE []=[]:=rfl
 simp only [e0,Wm] at h
 have q1:=fun σ sq hff=>ZB3 σ sq hff
 have q2:=Zxp
 rw [e0] at q1
 generalize sc.map ZaM=SC at *
 rw [Zar (by rfl) Ztj]
 simp -implicitDefEqProofs only [EQA,Zg,Zh,Ze,Zj,Zi,Zf,ZF,ZE,ZH,ZG,ZL,ZI,ZJ,ZM,ZK,implies_true,forall_const,Xh,Xi,Xl,Xd,Xe,Xj,Xk,ZC,ZD,unA,Zy,Zz,unG,reduceCtorEq,Zn,decide_eq_true_eq,Xf,Xc,ite_self,↓reduceIte,Zx,ZB,gcT,gcA,Zv,Zm,Zd,Zl,Zu,Zb,Zt,Zk,Zw,Xg,Zfb,Zeb,Zff,q1,q2,ZbF,AVal.cells]
 exact h
end
section
open Go.RowKit
mutual
def TyR (R:Nat):Ty->List AVal->Prop
 | .bool,xs=>∃ b,xs=[.bool b]
 | .int k,xs=>∃ n,(Lit.int k n).wf=true/\xs=[.int k n]
 | .str,xs=>∃ l:List UInt8,l.length<=R/\xs=[.str l]
 | .slice s e,xs=>∃ ys:List (List AVal),xs=[.lst false (ys.map (Zb3 s))]/\ys.length<=R/\∀ y ∈ ys,TyR R e y
 | .struct fs,xs=>Zfn R fs xs
def Zfn (R:Nat):List Ty->List AVal->Prop
 | [],xs=>xs=[]
 | f::fs,xs=>∃ a b,xs=a++b/\TyR R f a/\Zfn R fs b
end
section
variable {H:Type} {enc:TypeId×Value->H} {P:Program} {w:World} {spare:Nat->Bool} {held:Bool} {R:Nat}
theorem Zn6 {n:Nat} {e:TypeId} {T:Ty} (hT:ZcZ P n e=some T) (hs:Zdr (P.underlying e)=false) {xs:List AVal} (h:TyR R T xs):xs.length=1:=by
 cases n with
 | zero=>simp [ZcZ] at hT
 | succ n =>
  simp only [ZcZ] at hT
  split at hT
  ·injection hT with hT;subst hT;simp only [TyR] at h;obtain ⟨_,rfl⟩:=h;rfl
  ·injection hT with hT;subst hT;simp only [TyR] at h;obtain ⟨_,_,rfl⟩:=h;rfl
  ·injection hT with hT;subst hT;simp only [TyR] at h;obtain ⟨_,_,rfl⟩:=h;rfl
  ·split at hT
   ·simp only [Xq] at hT
    obtain ⟨T',_,rfl⟩:=hT
    simp only [TyR] at h;obtain ⟨_,rfl,_⟩:=h;rfl
   ·cases hT
  ·rename_i hu;rw [hu] at hs;simp [Zdr] at hs
  ·cases hT
def ZnA (R:Nat) (s:Bool) (T:Ty) (x:AVal):Prop:=∃ xs,TyR R T xs/\x=Zb3 s xs
end
end
section
open Go.Shelf
def ZxR:Ren:=⟨fun | 196=>64 | 259=>82 | n=>n,fun | 9=>9 | 4=>4 | 3=>3 | 5=>5 | 12=>12 | 119=>111 | 0=>0 | 46=>84 | 139=>114 | 138=>113 | 53=>105 | n=>n,fun | 3=>0 | 4=>1 | n=>n⟩
theorem ZnF:Go.Proofs.Lays.n196 Tryd.prog ZxR:={ mixed:=by kernel_rfl,f196:=Tryd.func64.trans (congrArg some (by kernel_rfl)),f259:=Tryd.func82.trans (congrArg some (by kernel_rfl)),t0:=Tryd.underlying0,a0:=Tryd.isAgg0,z0:=Tryd.sizeOf0,v0:=Tryd.zeroValue0,t3:=Tryd.underlying3,a3:=Tryd.isAgg3,z3:=Tryd.sizeOf3,v3:=Tryd.zeroValue3,t4:=Tryd.underlying4,a4:=Tryd.isAgg4,z4:=Tryd.sizeOf4,v4:=Tryd.zeroValue4,t5:=Tryd.underlying5,a5:=Tryd.isAgg5,z5:=Tryd.sizeOf5,v5:=Tryd.zeroValue5,t9:=Tryd.underlying9,a9:=Tryd.isAgg9,z9:=Tryd.sizeOf9,v9:=Tryd.zeroValue9,t12:=Tryd.underlying12,a12:=Tryd.isAgg12,z12:=Tryd.sizeOf12,v12:=Tryd.zeroValue12,t46:=Tryd.underlying84,a46:=Tryd.isAgg84,z46:=Tryd.sizeOf84,v46:=Tryd.zeroValue84,t53:=Tryd.underlying105,a53:=Tryd.isAgg105,z53:=Tryd.sizeOf105,v53:=Tryd.zeroValue105,t119:=Tryd.underlying111,a119:=Tryd.isAgg111,z119:=Tryd.sizeOf111,t138:=Tryd.underlying113,a138:=Tryd.isAgg113,z138:=Tryd.sizeOf113,v138:=Tryd.zeroValue113,t139:=Tryd.underlying114,a139:=Tryd.isAgg114,z139:=Tryd.sizeOf114,v139:=Tryd.zeroValue114,g3:=by kernel_rfl,g4:=by kernel_rfl }
end
section
open Go.RowKit Go.Shelf Go.Lib
theorem Zy9 {W:World} (h:Lib.Utf8Tabs 0 1 W):Gl.le (Imm.of W):=by
 intro b o u hu
 unfold Gl at hu
 unfold Imm.of
 split at hu
 ·rename_i e;subst e
  split at hu
  ·rename_i ho
   rw [h.1 o ho,<-hu]
  ·cases hu
 ·split at hu
  ·rename_i e;subst e
   split at hu
   ·rename_i ho
    rw [<-hu]
    obtain ⟨h1,h2⟩:=h.2 (o / 2) (by omega)
    by_cases hp:o % 2=0
    ·rw [if_pos hp,<-h1];congr 2;omega
    ·rw [if_neg hp,<-h2];congr 2;omega
   ·cases hu
  ·cases hu
section
open Go.RowKit
variable {H:Type} {enc:TypeId×Value->H} {P:Program} {w:World} {spare:Nat->Bool} {held:Bool}
theorem Zoo {d:DataW H} {l:List (DataW H)} (h:d ∈ l):Rows.uptoBulk d<=Rows.uptoBulkAll l:=by
 induction l with
 | nil=>cases h
 | cons x r ih =>
  simp only [Rows.uptoBulkAll]
  rcases XA.1 h with rfl | h
  ·omega
  ·have:=ih h;omega
theorem ZBH {d:DataW H} {l m:List (DataW H)} (h:d ∈ l):Rows.uptoBulk d<=Rows.uptoBulk (.slice l m):=by
 have:=Zoo h
 simp only [Rows.uptoBulk];omega
theorem Zyc {d:DataW H} {l:List (DataW H)} (hb:Rows.uptoSmall H l=true) (h:d ∈ l):Rows.uptoBulk d<=1048576:=by
 have:=Zoo h
 have h2:Rows.uptoBulkAll l<=1048576:=by simpa [Rows.uptoSmall] using hb
 omega
end
end
section
open Go.RowKit
section
variable {H:Type} {enc:TypeId×Value->H} {P:Program} {w:World} {spare:Nat->Bool} {held:Bool} {R:Nat}
theorem Zs6 (d:DataW H):1<=Rows.uptoBulk d:=by
 cases d with
 | lit l=>cases l <;> simp [Rows.uptoBulk]
 | _=>simp [Rows.uptoBulk]
theorem ZnY:∀ l:List (DataW H),l.length<=Rows.uptoBulkAll l
 | []=>by simp [Rows.uptoBulkAll]
 | d::l=>by
  have:=ZnY l
  have:=Zs6 d
  simp only [Rows.uptoBulkAll,Xw];omega
theorem Zog {n fuel:Nat} {cs:List Value} (ih:∀ (t:TypeId) (cs:List Value) (x:DataW H×List MemPlace) (T:Ty),ZcZ P n t=some T->Rows.uptoBulk x.1<=R->DataW.trod enc P w 0 spare held fuel t cs=some x->∃ xs,TyR R T xs/\VRs (Imm.of w) B0 xs cs/\Zaj xs=true) :
  ∀ (fs:List Field) (at':Nat) (Ts:List Ty) (ys:List (DataW H×List MemPlace)),Rows.uptoBulkAll (ys.map (·.1))<=R->Zif P at' fs cs.length=true->fs.mapM (fun f=>ZcZ P n f.type)=some Ts ->
   fs.mapM (fun f=>DataW.trod enc P w 0 spare held fuel f.type ((cs.drop f.offset).take (P.cellsOf f.type)))=some ys->∃ xs,Zfn R Ts xs/\VRs (Imm.of w) B0 xs (cs.drop at')/\Zaj xs=true
 | [],at',Ts,ys,_,ho,hT,_=>by
  simp only [Zif,beq_iff_eq] at ho
  simp only [List.mapM_nil,Option.pure_def,Xa] at hT
  subst hT ho
  exact ⟨[],by simp only [Zfn],by simp [VRs],rfl⟩
 | f::fs,at',Ts,ys,hwt,ho,hT,h=>by
  simp only [Zif,Xp,beq_iff_eq] at ho
  obtain ⟨T,Ts',h1,h2,rfl⟩:=Zos hT
  obtain ⟨y,ys',h3,h4,rfl⟩:=Zos h
  simp only [XJ,Rows.uptoBulkAll] at hwt
  obtain ⟨a,a1,a2,a3⟩:=ih _ _ _ _ h1 (by omega) h3
  obtain ⟨b,b1,b2,b3⟩:=Zog ih fs _ _ _ (by omega) ho.2 h2 h4
  rw [ho.1] at a2
  refine ⟨a++b,by simp only [Zfn];exact ⟨a,b,rfl,a1,b1⟩,Zxn a2 (by rw [List.drop_drop];exact b2),Zw3 a3 b3⟩
theorem ZmE:∀ (n fuel:Nat) (t:TypeId) (cs:List Value) (x:DataW H×List MemPlace) (T:Ty),ZcZ P n t=some T->Rows.uptoBulk x.1<=R->DataW.trod enc P w 0 spare held fuel t cs=some x ->
  ∃ xs,TyR R T xs/\VRs (Imm.of w) B0 xs cs/\Zaj xs=true
 | 0,fuel,t,cs,x,T,hT,_,_=>by simp [ZcZ] at hT
 | n+1,0,t,cs,x,T,_,_,h=>by simp [DataW.trod] at h
 | n+1,fuel+1,t,cs,x,T,hT,hwt,h=>by
  have h0:=h
  simp only [ZcZ] at hT
  unfold DataW.trod at h
  split at hT
  ·rename_i hu
   injection hT with hT;subst hT
   obtain ⟨b,rfl,_⟩:=DataW.trod_bool hu h0
   exact ⟨[.bool b],by simp only [TyR];exact ⟨b,rfl⟩,by simp [VRs,VR],rfl⟩
  ·rename_i k hu
   injection hT with hT;subst hT
   obtain ⟨n',rfl,_,hk⟩:=DataW.trod_int hu h0
   exact ⟨[.int k n'],by simp only [TyR];exact ⟨n',hk,rfl⟩,by simp [VRs,VR],rfl⟩
  ·rename_i hu
   injection hT with hT;subst hT
   obtain ⟨s,rfl,hx,hs⟩:=DataW.trod_string hu h0
   have hs':s.data.toList.length<=9223372036854775807:=by
    rw [Array.length_toList];exact Xbk hs (by simp [maxLen])
   have hR:s.data.toList.length<=R:=by
    subst hx
    simp only [Rows.uptoBulk] at hwt
    omega
   exact ⟨[.str s.data.toList],by simp only [TyR];exact ⟨_,hR,rfl⟩,by simp only [VRs,VR];exact ⟨_,_,rfl,⟨by simp,hs'⟩,rfl⟩,rfl⟩
  ·rename_i e hu
   split at hT
   case isFalse=>cases hT
   rename_i hc
   simp only [Xq] at hT
   obtain ⟨T,hT,rfl⟩:=hT
   rcases Go.Deep.open_slice hu h0 with ⟨hcs,_⟩ | ⟨a,len,cap,m,n',D,Pl,hcs,_,hl,hm,hmm,hx,hi⟩
   ·subst hcs
    exact ⟨[.lst false []],by simp only [TyR];exact ⟨[],by simp,by simp,by simp⟩,by simp only [VRs,VR];exact ⟨_,_,rfl,⟨none,0,rfl,by simp,by simp,by simp,by simp,by simp [Z5]⟩,rfl⟩,rfl⟩
   ·have hlm:len<=m:=by split at hmm <;> omega
    have hlR:len<=R:=by
     rw [hx] at hwt
     simp only [Rows.uptoBulk] at hwt
     have:=ZnY ((Wu len).map D)
     simp only [X9,List.length_range] at this
     omega
    have hspot:0 < len->a.spot=none:=by
     intro h0
     obtain ⟨cs',h1,h2⟩:=hi 0 (by omega)
     obtain ⟨_,h6,h7⟩:=World.cells?_some h1
     have h8:=h7 0 hc
     obtain ⟨u,hu⟩:∃ u,cs'[0]?=some u:=⟨cs'[0]'(by omega),by simp⟩
     rw [hu] at h8
     simp only [Nat.zero_mul,Addr.add,if_true] at h8
     exact Zr3 (b:=a.block) (off:=a.off) (s:=a.spot) (u:=u) h8
    have hall:∀ i,∃ xs,i < len->TyR R T xs/\(Zb3 (Zdr (P.underlying e)) xs).cells=xs/\xs.length=P.cellsOf e/\CR (Imm.of w) B0 xs a.block (a.off+i*P.cellsOf e)/\Zaj xs=true:=by
     intro i
     by_cases hlt:i < len
     ·obtain ⟨cs',h1,h2⟩:=hi i (by omega)
      obtain ⟨xs,h3,h4,h5⟩:=ZmE n n' e cs' _ T hT (Xbk (by rw [hx];exact ZBH (XL.2 ⟨i,WP.2 hlt,rfl⟩)) hwt) h2
      obtain ⟨_,h6,h7⟩:=World.cells?_some h1
      have hlen:=Zag h4
      refine ⟨xs,fun _=>⟨h3,Zx9 (fun hs=>Zn6 hT hs h3) (fun _=>Zpi h5),by omega,Znq xs cs' _ h4 (fun j hj=>?_),h5⟩⟩
      have h8:=h7 j (by omega)
      rw [Go.Deep.add_add,ZrI (hspot (by omega)),<-Nat.add_assoc] at h8
      exact h8
     ·exact ⟨[],fun h=>absurd h hlt⟩
    obtain ⟨Y,hY⟩:=Classical.axiomOfChoice hall
    subst hcs
    have hmx:maxLen=9223372036854775807:=by simp [maxLen]
    rw [hmx] at hm
    refine ⟨[.lst false ((Wu len).map fun i=>Zb3 (Zdr (P.underlying e)) (Y i))],?_,?_,?_⟩
    ·simp only [TyR]
     refine ⟨(Wu len).map Y,by rw [Wg];rfl,by simpa using hlR,?_⟩
     intro y hy
     obtain ⟨i,hi',rfl⟩:=XL.1 hy
     exact (hY i (WP.1 hi')).1
    ·simp only [VRs,VR,X9,List.length_range]
     refine ⟨_,_,rfl,⟨some a,cap,rfl,hl,hm,by simp,?_,Zl6 len Y fun i hlt=>by rw [(hY i hlt).2.1];exact (hY i hlt).2.2.2.2⟩,rfl⟩
     cases len with
     | zero=>exact Xs (by simp)
     | succ len =>
      refine Xy ⟨a.block,a.off,P.cellsOf e,?_,hc,ZoH (len+1) a.off Y fun i hlt=>?_⟩
      ·have:=hspot (by omega)
       cases a;simp_all
      ·rw [(hY i hlt).2.1];exact ⟨(hY i hlt).2.2.1,(hY i hlt).2.2.2.1⟩
    ·simp only [Zaj,Zap,Bool.and_true]
     exact Zl6 len Y fun i hlt=>by rw [(hY i hlt).2.1];exact (hY i hlt).2.2.2.2
  ·rename_i fs hu
   split at hT
   case isFalse=>cases hT
   rename_i ho
   simp only [Xq] at hT
   obtain ⟨Ts,hT,rfl⟩:=hT
   rw [hu] at h
   simp only at h
   split at h
   ·rename_i hl
    simp only [Xq] at h
    obtain ⟨ys,hy,rfl⟩:=h
    simp only [Rows.uptoBulk] at hwt
    obtain ⟨xs,h1,h2,h3⟩:=Zog (fun t cs x T h h1 h'=>ZmE n fuel t cs x T h h1 h') fs.toList 0 Ts ys (by omega) (by rw [hl];exact ho) hT hy
    exact ⟨xs,by simp only [TyR];exact h1,h2,h3⟩
   ·cases h
  ·cases hT
theorem Zr9 {n:Nat} {t:TypeId} {v:Value} {d:DataW H} {ps:List MemPlace} {T:Ty} {r:Reach} {b0:Nat} (hT:ZcZ P n t=some T) (hwt:Rows.uptoBulk d<=R) (hv:Value.okWide P w r b0 t v) (h:DataW.Trod enc P w 0 spare held t v d ps) :
  ∃ x,ZnA R (Zdr (P.underlying t)) T x/\VR (Imm.of w) B0 x v/\Zaj x.cells=true:=by
 obtain ⟨fuel,h⟩:=h
 obtain ⟨xs,h1,h2,h3⟩:=ZmE n fuel t _ _ T hT hwt h
 refine ⟨Zb3 (Zdr (P.underlying t)) xs,⟨xs,h1,rfl⟩,?_⟩
 by_cases hs:Zdr (P.underlying t)=true
 ·have : ∃ cs,v=.agg cs:=by
   unfold Value.okWide at hv
   cases hu:P.underlying t with
   | none=>rw [hu] at hs;simp [Zdr] at hs
   | some dd =>
    rw [hu] at hv hs
    cases dd <;> first | (simp [Zdr] at hs;done) | (obtain ⟨cs,e,_⟩:=hv;exact ⟨cs,e⟩)
  obtain ⟨cs,rfl⟩:=this
  rw [hs]
  exact ⟨by simp only [Zb3,if_true,VR];exact ⟨cs,rfl,h2⟩,h3⟩
 ·have hs':Zdr (P.underlying t)=false:=by simpa using hs
  have hl:=Zn6 hT hs' h1
  have hlen:=Zag h2
  rw [hs']
  match xs,hl with
  | [x],_ =>
   simp only [Zb3,Xm,if_false,Xbq]
   have hvc:v.cells=#[v]:=by
    cases n with
    | zero=>simp [ZcZ] at hT
    | succ n =>
     simp only [ZcZ] at hT
     split at hT
     ·rename_i hu;obtain ⟨b,rfl⟩:=Go.WideShapes.okWide_bool hu hv;rfl
     ·rename_i k hu;obtain ⟨b,rfl⟩:=Go.WideShapes.okWide_int hu hv;rfl
     ·rename_i hu;obtain ⟨b,rfl⟩:=Go.WideShapes.okWide_string hu hv;rfl
     ·rename_i e hu;obtain ⟨a,l,c,rfl⟩:=Go.WideShapes.okWide_slice hu hv;rfl
     ·rename_i fs hu;rw [hu] at hs';simp [Zdr] at hs'
     ·cases hT
   rw [hvc] at h2
   simp only [VRs] at h2
   obtain ⟨v',vs',e,h2,_⟩:=h2
   simp only [List.cons.injEq] at e
   rw [e.1]
   refine ⟨h2,?_⟩
   have hok:=Zpi h3 x (by simp)
   have hx:x.cells=[x]:=by cases x <;> first | rfl | (simp [Z1] at hok;done)
   rw [hx];exact h3
end
end
section
open Go.RowKit
def Zlz:Ty:=.slice true (.struct [.int .i64,.int .i64,.str,.str])
theorem ZrT {R:Nat} {x:AVal} (h:ZnA R false Zlz x):∃ l:List Zew,(∀ s ∈ l,s.f.length<=R/\s.k.length<=R)/\x=.lst false (l.map ZaM):=by
 obtain ⟨y,h,rfl⟩:=h
 simp only [Zlz,TyR] at h
 obtain ⟨ys,rfl,h1,h2⟩:=h
 have : ∀ ys:List (List AVal),(∀ y ∈ ys,Zfn R [.int .i64,.int .i64,.str,.str] y)->∃ l:List Zew,(∀ s ∈ l,s.f.length<=R/\s.k.length<=R)/\ys.map (Zb3 true)=l.map ZaM:=by
  intro ys
  induction ys with
  | nil=>intro _;exact ⟨[],by simp,rfl⟩
  | cons y ys ih =>
   intro hy
   have hy0:=hy y (by simp)
   simp only [Zfn] at hy0
   obtain ⟨_,_,rfl,h1,_,_,rfl,h2,_,_,rfl,h3,_,_,rfl,h4,rfl⟩:=hy0
   simp only [TyR] at h1 h2 h3 h4
   obtain ⟨a,_,rfl⟩:=h1
   obtain ⟨d,_,rfl⟩:=h2
   obtain ⟨s,hs,rfl⟩:=h3
   obtain ⟨c,hc,rfl⟩:=h4
   obtain ⟨l,hok,hl⟩:=ih fun y' h'=>hy y' (by simp [h'])
   refine ⟨⟨a,d,s,c⟩::l,?_,by simp [hl,Zb3,ZaM]⟩
   intro z hz
   rcases XA.1 hz with rfl | hz
   ·exact ⟨hs,hc⟩
   ·exact hok z hz
 obtain ⟨l,hok,hl⟩:=this ys (fun y hy=>by simpa only [TyR] using h2 y hy)
 exact ⟨l,hok,by simp [Zb3,hl]⟩
end
section
open Go.Shelf
def Zw5:Ren:=⟨fun | 6=>49 | 15=>57 | 14=>56 | 28=>76 | 29=>77 | 20=>68 | 21=>69 | 22=>70 | 23=>71 | 24=>72 | 25=>73 | 26=>74 | 27=>75 | 46=>87 | 47=>88 | 48=>89 | 49=>90 | 50=>91 | 57=>95 | n=>n,fun | 22=>31 | 24=>35 | 25=>80 | 3=>3 | 39=>84 | 0=>0 | 53=>103 | 55=>105 | 4=>4 | 46=>97 | 45=>96 | 50=>50 | 5=>5 | 9=>9 | 66=>118 | 70=>122 | 76=>124 | 77=>85 | n=>n,fun | n=>n⟩
theorem Zpc:Go.Proofs.SlLaysF0.n6 Tryd.prog Zw5:={ mixed:=by kernel_rfl,f6:=⟨"slices.SortFunc[[]tidings/trie.Row[int],tidings/trie.Row[int]]",by kernel_rfl,Tryd.func49.trans (congrArg some (by kernel_rfl))⟩,f14:=⟨"slices.pdqsortCmpFunc[tidings/trie.Row[int]]",by kernel_rfl,Tryd.func56.trans (congrArg some (by kernel_rfl))⟩,f15:=Tryd.func57.trans (congrArg some (by kernel_rfl)),f20:=⟨"slices.insertionSortCmpFunc[tidings/trie.Row[int]]",by kernel_rfl,Tryd.func68.trans (congrArg some (by kernel_rfl))⟩,f21:=⟨"slices.heapSortCmpFunc[tidings/trie.Row[int]]",by kernel_rfl,Tryd.func69.trans (congrArg some (by kernel_rfl))⟩,f22:=⟨"slices.breakPatternsCmpFunc[tidings/trie.Row[int]]",by kernel_rfl,Tryd.func70.trans (congrArg some (by kernel_rfl))⟩,f23:=⟨"slices.choosePivotCmpFunc[tidings/trie.Row[int]]",by kernel_rfl,Tryd.func71.trans (congrArg some (by kernel_rfl))⟩,f24:=⟨"slices.reverseRangeCmpFunc[tidings/trie.Row[int]]",by kernel_rfl,Tryd.func72.trans (congrArg some (by kernel_rfl))⟩,f25:=⟨"slices.partialInsertionSortCmpFunc[tidings/trie.Row[int]]",by kernel_rfl,Tryd.func73.trans (congrArg some (by kernel_rfl))⟩,f26:=⟨"slices.partitionEqualCmpFunc[tidings/trie.Row[int]]",by kernel_rfl,Tryd.func74.trans (congrArg some (by kernel_rfl))⟩,f27:=⟨"slices.partitionCmpFunc[tidings/trie.Row[int]]",by kernel_rfl,Tryd.func75.trans (congrArg some (by kernel_rfl))⟩,f28:=Tryd.func76.trans (congrArg some (by kernel_rfl)),f29:=Tryd.func77.trans (congrArg some (by kernel_rfl)),f46:=⟨"slices.siftDownCmpFunc[tidings/trie.Row[int]]",by kernel_rfl,Tryd.func87.trans (congrArg some (by kernel_rfl))⟩,f47:=Tryd.func88.trans (congrArg some (by kernel_rfl)),f48:=Tryd.func89.trans (congrArg some (by kernel_rfl)),f49:=⟨"slices.medianAdjacentCmpFunc[tidings/trie.Row[int]]",by kernel_rfl,Tryd.func90.trans (congrArg some (by kernel_rfl))⟩,f50:=⟨"slices.medianCmpFunc[tidings/trie.Row[int]]",by kernel_rfl,Tryd.func91.trans (congrArg some (by kernel_rfl))⟩,f57:=⟨"slices.order2CmpFunc[tidings/trie.Row[int]]",by kernel_rfl,Tryd.func95.trans (congrArg some (by kernel_rfl))⟩,t0:=Tryd.underlying0,a0:=Tryd.isAgg0,z0:=Tryd.sizeOf0,v0:=Tryd.zeroValue0,t3:=Tryd.underlying3,a3:=Tryd.isAgg3,z3:=Tryd.sizeOf3,v3:=Tryd.zeroValue3,t4:=Tryd.underlying4,a4:=Tryd.isAgg4,z4:=Tryd.sizeOf4,v4:=Tryd.zeroValue4,t5:=Tryd.underlying5,a5:=Tryd.isAgg5,z5:=Tryd.sizeOf5,v5:=Tryd.zeroValue5,t9:=Tryd.underlying9,a9:=Tryd.isAgg9,z9:=Tryd.sizeOf9,v9:=Tryd.zeroValue9,t22:=Tryd.underlying31,a22:=Tryd.isAgg31,z22:=Tryd.sizeOf31,v22:=Tryd.zeroValue31,t25:=Tryd.underlying80,a25:=Tryd.isAgg80,z25:=Tryd.sizeOf80,v25:=Tryd.zeroValue80,t39:=Tryd.underlying84,a39:=Tryd.isAgg84,z39:=Tryd.sizeOf84,v39:=Tryd.zeroValue84,t45:=Tryd.underlying96,a45:=Tryd.isAgg96,z45:=Tryd.sizeOf96,v45:=Tryd.zeroValue96,t46:=Tryd.underlying97,a46:=Tryd.isAgg97,z46:=Tryd.sizeOf97,v46:=Tryd.zeroValue97,t50:=Tryd.underlying50,a50:=Tryd.isAgg50,z50:=Tryd.sizeOf50,v50:=Tryd.zeroValue50,t53:=Tryd.underlying103,a53:=Tryd.isAgg103,z53:=Tryd.sizeOf103,v53:=Tryd.zeroValue103,t55:=Tryd.underlying105,a55:=Tryd.isAgg105,z55:=Tryd.sizeOf105,v55:=Tryd.zeroValue105,t66:=Tryd.underlying118,a66:=Tryd.isAgg118,z66:=Tryd.sizeOf118,v66:=Tryd.zeroValue118,t70:=Tryd.underlying122,a70:=Tryd.isAgg122,z70:=Tryd.sizeOf122,v70:=Tryd.zeroValue122,t76:=Tryd.underlying124,a76:=Tryd.isAgg124,z76:=Tryd.sizeOf124,v76:=Tryd.zeroValue124,t77:=Tryd.underlying85,a77:=Tryd.isAgg85,z77:=Tryd.sizeOf85,v77:=Tryd.zeroValue85 }
end
section
open Go.RowKit Go.Sort Go.Lib
set_option maxRecDepth 100000
theorem Zt2 {I:Imm} {β:Bmap} (x:AVal) (a:List UInt8×List UInt8) (l:List Value) (h:ZfT x=some a) (hv:VRs I β x.cells l):∃ t,l=[Value.string ⟨a.1.toArray⟩,Value.string ⟨a.2.toArray⟩]++t:=by
 unfold ZfT at h
 split at h
 ·injection h with h;subst h
  simp only [AVal.cells,VRs] at hv
  obtain ⟨v,vs,rfl,h1,v2,vs2,rfl,h2,_⟩:=hv
  simp only [VR] at h1 h2
  exact ⟨vs2,by rw [h1.1,h2.1];rfl⟩
 ·cases h
theorem ZDB (A:ByteArray) (W:World):Calls Tryd.prog 58 #[.string A] W fun e w'=>e=.returned (.bool false)/\w'=W:=by
 go_enter Tryd.func58,Tryd.ntmps58
 go_wp2
 go_ret
 simp
theorem ZrD (a b:List UInt8) (W:World):Calls Tryd.prog 51 #[.string ⟨a.toArray⟩,.string ⟨b.toArray⟩] W fun e w'=>e=.returned (.int .i64 (Zcq a b))/\w'=W:=by
 have h1:Op.bytesLess (⟨a.toArray⟩:ByteArray).toList (⟨b.toArray⟩:ByteArray).toList=decide (a < b):=by
  rw [Go.Proofs.bytesLess_eq];simp
 have h3:((⟨a.toArray⟩:ByteArray).toList == (⟨b.toArray⟩:ByteArray).toList)=decide (a=b):=by
  by_cases h:a=b
  ·subst h;simp
  ·simp [h]
 have hn:=ZDB
 by_cases hab:a < b
 ·rw [decide_eq_true hab] at h1
  have hr:Zcq a b=-1:=by unfold Zcq;rw [if_pos hab]
  rw [hr]
  clear h3 hr hab
  generalize (⟨a.toArray⟩:ByteArray)=A1 at *
  generalize (⟨b.toArray⟩:ByteArray)=B1 at *
  go_enter Tryd.func51,Tryd.ntmps51
  go_wp2_with (go_at_call 58;refine (hn _ _).mono ?_;rintro e w' ⟨rfl,rfl⟩)
  go_ret
  simp
 ·rw [decide_eq_false hab] at h1
  by_cases hba:b < a
  ·have hne:a≠b:=by rintro rfl;exact List.lt_irrefl _ hba
   have hr:Zcq a b=1:=by unfold Zcq;rw [if_neg hab,if_pos hba]
   rw [decide_eq_false hne] at h3
   rw [hr]
   clear hr hab hba hne
   generalize (⟨a.toArray⟩:ByteArray)=A1 at *
   generalize (⟨b.toArray⟩:ByteArray)=B1 at *
   go_enter Tryd.func51,Tryd.ntmps51
   go_wp2_with (go_at_call 58;refine (hn _ _).mono ?_;rintro e w' ⟨rfl,rfl⟩)
   go_ret
   simp
  ·have he:a=b:=List.le_antisymm (XaM.1 hba) (XaM.1 hab)
   have hr:Zcq a b=0:=by unfold Zcq;rw [if_neg hab,if_neg hba]
   rw [decide_eq_true he] at h3
   rw [hr]
   clear hr hab hba he
   generalize (⟨a.toArray⟩:ByteArray)=A1 at *
   generalize (⟨b.toArray⟩:ByteArray)=B1 at *
   go_enter Tryd.func51,Tryd.ntmps51
   go_wp2_with (go_at_call 58;refine (hn _ _).mono ?_;rintro e w' ⟨rfl,rfl⟩)
   go_ret
   simp
theorem ZBT (a b:List UInt8×List UInt8) (us vs:List Value) (W:World) (hu:2+us.length=3) (hv:2+vs.length=3):Calls Tryd.prog 50 #[.agg ([Value.string ⟨a.1.toArray⟩,Value.string ⟨a.2.toArray⟩]++us).toArray,.agg ([Value.string ⟨b.1.toArray⟩,Value.string ⟨b.2.toArray⟩]++vs).toArray] W fun e w'=>e=.returned (.int .i64 (Zbd a b))/\∃ q os',w'=grow (W.drewN q) os':=by
 obtain ⟨a1,a2⟩:=a
 obtain ⟨b1,b2⟩:=b
 obtain ⟨u1,rfl⟩:∃ u1,us=[u1]:=by
  match us,hu with
  | [u1],_=>exact ⟨u1,rfl⟩
  | _::_::_,h=>simp at h;omega
 obtain ⟨v1,rfl⟩:∃ v1,vs=[v1]:=by
  match vs,hv with
  | [v1],_=>exact ⟨v1,rfl⟩
  | _::_::_,h=>simp at h;omega
 clear hu hv
 have hc:=ZrD
 unfold Zbd
 generalize Zcq=cf at *
 go_enter Tryd.func50,Tryd.ntmps50
 go_wp2_with (go_at_call 51;refine (hc _ _ _).mono ?_;rintro e w' ⟨rfl,rfl⟩)
 all_goals first
  | (go_ret;exact ⟨rfl,0,_,by rw [alloc_eq_grow,alloc_eq_grow,grow_grow];rfl⟩)
  | (exfalso;have h1:=‹(_ != _)=(_:Bool)›;simp only [bne_iff_ne,bne_eq_false_iff_eq] at h1;contradiction)
theorem Zxy {args:List AVal} {σ σ':Za} {r:AVal} (hp:Zg0 3 50 ZfT Zbd args σ=some (r,σ')) :
  (∃ fn,Tryd.prog.funcs[49]?=some fn/\fn.body.isSome=true/\(fn.name == "runtime.NumGoroutine")=false) /\
  ∀ base w0 I0 I β w (vs:Array Value),KLt base w0->Rel base w0 I0 I β σ w->VRs I β args vs.toList ->
   Calls Tryd.prog 49 vs w (fun e w'=>∃ u,Ends r e u/\Zcg σ.length base w0 I0 I β r σ' u w') :=
 ZFb (κ:=List UInt8×List UInt8) (k:=3) (g:=50) (m:=2) (pre:=fun a=>[Value.string ⟨a.1.toArray⟩,Value.string ⟨a.2.toArray⟩]) ⟨_,Tryd.func49,by kernel_rfl,by kernel_rfl⟩ (by decide) (by decide) (by decide)
  (fun a=>⟨rfl,fun v hv=>by simp only [XA,Xbj,or_false] at hv;rcases hv with rfl | rfl <;> rfl⟩) Zt2 ZBT
  (fun enc hk h1 blk off cap d w hcl hH hb hs=>AnyQ.slices_SortFunc_total Zpc 3 Tryd.isAgg35 Tryd.sizeOf35 enc hk h1 Zbd ZCg 50 #[] blk off cap d w (enters_of Tryd.func50 (by kernel_rfl) rfl) hcl hH hb hs ZDe)
  (fun p cap fv w=>AnyF.slices_SortFunc_none Zpc p cap fv w) hp
end
section
open Go.Shelf
def ZA5:Ren:=⟨fun | 137=>78 | 217=>92 | 266=>96 | n=>n,fun | 9=>9 | 5=>5 | 3=>3 | n=>n,fun | n=>n⟩
theorem ZCh:Go.Proofs.Lays.n137 Tryd.prog ZA5:={ mixed:=by kernel_rfl,f137:=Tryd.func78.trans (congrArg some (by kernel_rfl)),f217:=Tryd.func92.trans (congrArg some (by kernel_rfl)),f266:=Tryd.func96.trans (congrArg some (by kernel_rfl)),t3:=Tryd.underlying3,a3:=Tryd.isAgg3,z3:=Tryd.sizeOf3,v3:=Tryd.zeroValue3,t5:=Tryd.underlying5,a5:=Tryd.isAgg5,z5:=Tryd.sizeOf5,v5:=Tryd.zeroValue5,t9:=Tryd.underlying9,a9:=Tryd.isAgg9,z9:=Tryd.sizeOf9,v9:=Tryd.zeroValue9 }
def ZFF:Ren:=⟨fun | 217=>92 | 266=>96 | n=>n,fun | 9=>9 | 5=>5 | 3=>3 | n=>n,fun | n=>n⟩
theorem ZDu:Go.Proofs.Lays.n217 Tryd.prog ZFF:={ mixed:=by kernel_rfl,f217:=Tryd.func92.trans (congrArg some (by kernel_rfl)),f266:=Tryd.func96.trans (congrArg some (by kernel_rfl)),t3:=Tryd.underlying3,a3:=Tryd.isAgg3,z3:=Tryd.sizeOf3,v3:=Tryd.zeroValue3,t5:=Tryd.underlying5,a5:=Tryd.isAgg5,z5:=Tryd.sizeOf5,v5:=Tryd.zeroValue5,t9:=Tryd.underlying9,a9:=Tryd.isAgg9,z9:=Tryd.sizeOf9,v9:=Tryd.zeroValue9 }
section
open Go.Shelf
def Zze:Ren:=⟨fun | 138=>66 | 195=>83 | 218=>85 | 143=>67 | 219=>86 | 217=>92 | 225=>81 | 224=>80 | 267=>94 | 266=>96 | 314=>97 | n=>n,fun | 9=>9 | 3=>3 | 4=>4 | 5=>5 | 0=>0 | 46=>84 | 146=>126 | 51=>103 | n=>n,fun | 1=>2 | n=>n⟩
theorem ZAy:Go.Proofs.Lays.n138 Tryd.prog Zze:={ mixed:=by kernel_rfl,f138:=Tryd.func66.trans (congrArg some (by kernel_rfl)),f143:=Tryd.func67.trans (congrArg some (by kernel_rfl)),f195:=Tryd.func83.trans (congrArg some (by kernel_rfl)),f217:=Tryd.func92.trans (congrArg some (by kernel_rfl)),f218:=Tryd.func85.trans (congrArg some (by kernel_rfl)),f219:=Tryd.func86.trans (congrArg some (by kernel_rfl)),f224:=Tryd.func80.trans (congrArg some (by kernel_rfl)),f225:=Tryd.func81.trans (congrArg some (by kernel_rfl)),f266:=Tryd.func96.trans (congrArg some (by kernel_rfl)),f267:=Tryd.func94.trans (congrArg some (by kernel_rfl)),f314:=Tryd.func97.trans (congrArg some (by kernel_rfl)),t0:=Tryd.underlying0,a0:=Tryd.isAgg0,z0:=Tryd.sizeOf0,v0:=Tryd.zeroValue0,t3:=Tryd.underlying3,a3:=Tryd.isAgg3,z3:=Tryd.sizeOf3,v3:=Tryd.zeroValue3,t4:=Tryd.underlying4,a4:=Tryd.isAgg4,z4:=Tryd.sizeOf4,v4:=Tryd.zeroValue4,t5:=Tryd.underlying5,a5:=Tryd.isAgg5,z5:=Tryd.sizeOf5,v5:=Tryd.zeroValue5,t9:=Tryd.underlying9,a9:=Tryd.isAgg9,z9:=Tryd.sizeOf9,v9:=Tryd.zeroValue9,t46:=Tryd.underlying84,a46:=Tryd.isAgg84,z46:=Tryd.sizeOf84,v46:=Tryd.zeroValue84,t51:=Tryd.underlying103,a51:=Tryd.isAgg103,z51:=Tryd.sizeOf103,v51:=Tryd.zeroValue103,t146:=Tryd.underlying126,a146:=Tryd.isAgg126,z146:=Tryd.sizeOf126,v146:=Tryd.zeroValue126,g1:=by kernel_rfl }
end
end
section
set_option maxRecDepth 100000
theorem ZAB:Tryd.prog.follows .mixedOrders=true:=by kernel_rfl
theorem ZpC {α:Type} {d v:α}:∀ {l:List (Nat×α)} {n:Nat},ZdW d l n=v->v=d\/(n,v) ∈ l
 | [],n,h=>Xs h.symm
 | (k,w)::r,n,h=>by
  simp only [ZdW] at h
  split at h
  ·rename_i e;subst e h;exact Xy (by simp)
  ·rcases ZpC h with h | h
   ·exact Xs h
   ·exact Xy (by simp [h])
theorem Zwy:Zk1 Tryd.prog PR:=by
 intro f g h args σ r σ' hg
 rcases ZpC h with h | h
 ·cases h
 unfold Zo0 at h
 simp only [XA,Xb,Xa,Xbj,or_false] at h
 rcases h with ⟨rfl,rfl⟩ | h
 ·exact Zqg ⟨Tryd.f78,Tryd.func78,by kernel_rfl,by kernel_rfl⟩ (fun s c w=>Any.strings_IndexByte ZCh s c w) hg
 rcases h with ⟨rfl,rfl⟩ | h
 ·exact Zqg ⟨Tryd.f92,Tryd.func92,by kernel_rfl,by kernel_rfl⟩ (fun s c w=>Any.stringslite_IndexByte ZDu s c w) hg
 rcases h with ⟨rfl,rfl⟩ | h
 ·exact ZxG ⟨Tryd.f66,Tryd.func66,by kernel_rfl,by kernel_rfl⟩ (fun s c w=>Any.strings_Count_one ZAy s c w) hg
 rcases h with ⟨rfl,rfl⟩ | h
 ·exact Zr6 ⟨Tryd.f64,Tryd.func64,by kernel_rfl,by kernel_rfl⟩ (fun s w hs hT=>Any.utf8_ValidString ZnF s w hs hT) hg
 rcases h with ⟨rfl,rfl⟩ | h
 ·exact Zxy hg
 exact absurd h.2 (by simp)
theorem ZF8:Zak Tryd.prog E:=by
 have h:E=EV CF PR BY:=Zvg CF PR BY
 rw [h]
 exact Zsi ZAB Zwy ann BY
end
section
open Go.ChangeShapes Go.WideShapes Go.ChangeAt Go.RowKit Go.Deep
theorem ZGl:ownKnob Tryd.prog.godebug=none:=by kernel_rfl
theorem ZBv:laidOutB Tryd.prog=true:=by kernel_rfl
theorem ZDy {W:World} (hLH:laidMetH Tryd.prog Rows.indexPlaysUptoRow.laid W):Gl.le (Imm.of W):=by
 have hL:laidMet Tryd.prog Rows.indexPlaysUptoRow.laid W:=by rw [<-MakeChecks.laidMetH_plain _ _ _ (by kernel_rfl)];exact hLH
 have e1:Rows.laid_unicode_utf8_first=Lib.firstData:=by kernel_rfl
 have e2:(Rows.laid_unicode_utf8_acceptRanges:DataW Unit)=Lib.acceptData:=by kernel_rfl
 have h1:Lib.VarReads Tryd.prog W "unicode/utf8.first" Lib.firstData:=by rw [<-e1];exact Lib.laidMet.reads hL (.tail _ (.head _))
 have h2:Lib.VarReads Tryd.prog W "unicode/utf8.acceptRanges" Lib.acceptData:=by rw [<-e2];exact Lib.laidMet.reads hL (.head _)
 exact Zy9 (utf8Tabs_of_readsT (U8Types.of196 ZnF) ⟨by kernel_rfl,by kernel_rfl,by kernel_rfl,by kernel_rfl,by kernel_rfl,by kernel_rfl,by kernel_rfl⟩ h1 h2)
set_option maxRecDepth 100000 in
theorem ZwW (H:Type) (enc:TypeId×Value->H) (W:World) (base:Nat) (args:Array Value) (ds gs:List (DataW H)) (before:List MemPlace)
  (hval0:∀ (j:Nat) t v,Tryd.f5.params[j]?=some t->args[j]?=some v->Value.okWide Tryd.prog W .any base t v)
  (hW:DataW.Whole enc Tryd.prog Tryd.f5.params.toList Rows.indexPlaysSpec.vars false W args.toList ds gs before) (hL:laidMetH Tryd.prog Rows.indexPlaysUptoRow.laid W) (hbulk:Rows.uptoSmall H (ds++gs)=true) :
  Calls Tryd.prog 5 args W fun e W'=>∃ v,e=.returned v/\Rows.indexPlaysSpec.post enc Tryd.prog Tryd.f5 false true false false W args v W':=by
 have hW':=hW
 obtain ⟨p,q,hA0,hV,rfl,hfz,hnd⟩:=hW
 have hval:∀ (j:Nat) t v,Tryd.f5.params[j]?=some t->args[j]?=some v->Value.okWide Tryd.prog W .any base t v:=hval0
 have hA:DataW.TrodAll enc Tryd.prog W 0 (fun _=>true) true Tryd.f5.params.toList args.toList ds p:=hA0
 rw [Tryd.params5] at hA hval
 obtain ⟨v0,vs0,d0,ds0,p0,q0,hargs,rfl,rfl,h0,r0⟩:=trodAll_cons hA
 obtain ⟨rfl,rfl,rfl⟩:=trodAll_nil r0
 obtain rfl:args=#[v0]:=by cases args;simp_all
 obtain ⟨rfl,rfl⟩:=trodVars_none hV
 simp only [XO] at hbulk
 have k0:=h0
 have lt0:∀ x ∈ p0,x.block < W.heap.size:=by obtain ⟨m,hm⟩:=k0;exact DataW.trod_lt m _ _ _ hm
 obtain ⟨x0,y0,z0,_⟩:=Zr9 (R:=1048576) (n:=12) (T:=Zlz) (by kernel_rfl) (Zyc hbulk (by simp)) (hval 0 22 v0 rfl rfl) h0
 rw [Tryd.underlying22] at y0
 obtain ⟨a0,b0,rfl⟩:=ZrT y0
 clear hA0 hval0
 refine (ZDM ZF8 (ZDy hL) (args:=[.lst false (a0.map ZaM)]) (by simp only [VRs];exact ⟨_,_,rfl,z0,rfl⟩) (ZAd a0 (fun x hx=>by have:=(b0 x hx).1;omega))).mono fun e W' ⟨he,bel⟩=>?_
 subst he
 exact ⟨_,rfl,_,_,_,[],_,[],hW',trodAll_mk1 (shut_bool Tryd.underlying4 _),(trodAll_cons_mk (Below.trod ZBv (by kernel_rfl) (of_decide_eq_true (by kernel_rfl)) k0 bel lt0) trodAll_mk0),rfl,bel.frame _,fun h=>by cases h⟩
noncomputable def Zky (os:Os):World :=
 let w0:=World.holding Tryd.prog os ⟨#[],#[],[]⟩
 let put (h:Array Obj) (g:Nat) (us:Array Value):Array Obj:=h.modify g fun
  | .cells _ t frozen=>.cells us t frozen
  | o=>o
 let h1:=put w0.heap 0 (Lib.firstTab.map fun z=>Value.int .u8 z).toArray
 let h2:=put h1 1 ((Wu 16).flatMap fun i=>[Value.int .u8 (Lib.accLo i),Value.int .u8 (Lib.accHi i)]).toArray
 { w0 with heap:=h2 }
theorem ZGk (os:Os):laidMet Tryd.prog Rows.indexPlaysUptoRow.laid ((Zky os).forCall (fun _ _=>0) ⟨#[],#[.slice none 0 0],[]⟩).memory :=
 laidMet_of_run' 8 (by kernel_rfl) (by kernel_rfl)
theorem ZuD (os:Os) {H:Type} (enc:TypeId×Value->H):∃ ds places,DataW.whole enc Tryd.prog ((Zky os).forCall (fun _ _=>0) ⟨#[],#[.slice none 0 0],[]⟩).memory Tryd.f5.params.toList Rows.indexPlaysSpec.vars false #[.slice none 0 0].toList 8=some (ds,[],places)/\Rows.uptoSmall H ds=true :=
 ⟨[.nil],[],by kernel_rfl,by kernel_rfl⟩
set_option maxRecDepth 100000 in
theorem ZCw (os:Os) (started:os.Started) (H:Type) (enc:TypeId×Value->H) (F:Stop.Interp) :
  ReturnsInHanded {} Tryd.checked os 5 .any ((Rows.OpenSpec.upto Rows.indexPlaysSpec).preRow enc Tryd.prog Tryd.f5 Rows.indexPlaysUptoRow.domain false Rows.indexPlaysUptoRow.laid) (((Rows.OpenSpec.upto Rows.indexPlaysSpec).at F).post enc Tryd.prog Tryd.f5 false true false false):=by
 obtain ⟨ds,places,hx,hb⟩:=ZuD os enc
 refine returnsInHanded_of_row (C:=Tryd.checked) (s:=(Rows.OpenSpec.upto Rows.indexPlaysSpec)) ZGl started (by kernel_rfl) Tryd.func5
  (witness_row_at (enc:=enc) (C:=Tryd.checked) false (Zky os) #[.slice none 0 0] rfl (by kernel_rfl) (by kernel_rfl) (by kernel_rfl)
   (OpenSpec.preRow_of_cond 8 hx (by kernel_rfl) (fun k hk=>by cases hk;rw [XO];exact hb) (by kernel_rfl) (ZGk os))) ?_
 intro W base args ds gs before hval hW _ hcond _ hL _ _
 exact ZwW H enc W base args ds gs before hval hW hL (hcond _ rfl)
theorem Zud:Rows.IndexPlaysUptoSaid :=
 OpenClaim.holds_of_cond 5 Tryd.f5 rfl rfl rfl rfl rfl rfl rfl ⟨rfl,rfl,rfl,rfl,rfl⟩ rfl rfl rfl rfl rfl (by kernel_rfl) Tryd.func5 (by kernel_rfl)
  (of_decide_eq_true (by kernel_rfl)) (by unfold Func.isWrapper;first | (rw [if_pos (by decide +kernel)];kernel_rfl) | (rw [if_neg (by decide +kernel)];exact ⟨rfl,rfl⟩))
  (fun os started H enc _ F=>by rw [OpenClaim.pre_eq_preRow];exact ZCw os started H enc F)
theorem ZsX (f:FuncId) (fn:Func) (hf:Tryd.pinned.checked.prog.funcNamed "tidings/tidingslaw15.IndexPlays"=some f) (hfn:Tryd.pinned.checked.prog.funcs[f]?=some fn) :
  false=Tryd.pinned.checked.prog.looks []/\∀ (j:Nat) t,fn.params[j]?=some t->Tryd.pinned.checked.prog.wantsStandIn t=false:=by
 obtain rfl:f=5:=Xbn ((show Tryd.prog.funcNamed "tidings/tidingslaw15.IndexPlays"=some 5 by kernel_rfl).symm.trans hf) |>.symm
 obtain rfl:fn=Tryd.f5:=(Xbn (Tryd.func5.symm.trans hfn)).symm
 refine ⟨by kernel_rfl,fun j t ht=>?_⟩
 rw [Tryd.params5] at ht
 have hm:t=22:=by
  have:=Array.mem_of_getElem? ht
  simp at this
  first | exact this | exact this.symm | omega | (rcases this with h | h | h <;> simp [h]) | (rcases this with h | h | h | h <;> simp [h]) | (rcases this with h | h | h | h | h <;> simp [h]) | (rcases this with h | h | h | h | h | h <;> simp [h]) | (rcases this with h | h | h | h | h | h | h <;> simp [h])
 subst hm
 exact (show Tryd.prog.wantsStandIn 22=false by kernel_rfl)
theorem indexPlays_card:Rows.IndexPlaysUptoCardSaid :=
 Claim7.holds_tied_plain_at .later [] _ _ _ _ Zud (fun _ h=>by cases h) (by kernel_rfl) (fun _ h=>by cases h) indexPlaysUpto_row_tie rfl ⟨rfl,rfl⟩ (by kernel_rfl) rfl ZsX (by kernel_rfl)
#print axioms indexPlays_card
end
end Go.Proofs.YtlfkpdcffmmbdaaDoor
