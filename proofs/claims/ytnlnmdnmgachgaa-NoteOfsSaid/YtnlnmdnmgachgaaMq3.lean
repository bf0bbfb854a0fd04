/- packed -/
import Derived.Test.YtnlnmdnmgachgaaMq2
set_option linter.defProp false
set_option linter.unusedSectionVars false
set_option linter.unusedSimpArgs false
set_option linter.unusedVariables false
open Bool renaming decide_eq_true→Xc,not_eq_true→Xg,false_eq_true→Xt,and_self→Wu,false_and→WM,true_or→WN,not_true→W0,not_false→Xac,true_and→XaD,or_true→XaL,and_true→XaO,false_or→XaP,and_false→Xa1,or_false→Xa3
open List renaming range_succ→Xd,getD_cons_zero→Xi,getD_cons_succ→Xn,getElem?_eq_some_iff→Xo,getD_eq_getElem?_getD→Xq,all_cons→Xs,all_nil→Xu,map_cons→Xv,length_cons→Xw,length_nil→Xx,length_append→Xy,mem_of_getElem?→XF,length_map→XH,map_nil→XK,lookup_cons→XL,getElem?_cons_zero→XM,take_of_length_le→XQ,lookup_nil→XS,getElem?_cons_succ→XX,any_cons→XY,length_singleton→XZ,append_nil→X0,any_nil→X4,nil_append→X7,map_append→X8,length_take→Wd,cons_append→Wf,mem_of_mem_take→Wk,getElem?_append_right→Wp,getElem?_set_ne→Wz,isEmpty_nil→WA,take_append_of_le_length→WI,drop_zero→W4,isEmpty_cons→Xab,drop_succ_cons→Xae,take_succ_cons→Xaf,contains_cons→Xap,contains_nil→Xas,filter_cons→XaB,drop_eq_nil_iff→XaC,replicate_succ→XaE,set_cons_zero→XaG,set_cons_succ→XaH,take_zero→XaM
open Nat renaming reduceLeDiff→Xe,reduceEqDiff→Xf,reduceAdd→Xh,reduceSub→Xj,reduceBEq→Xk,reduceMul→Xl,reduceLT→Xm,zero_add→XC,le_refl→X5,add_zero→X9,add_assoc→We,one_mul→WQ,sub_zero→Xa6
open Or renaming inl→Xz,inr→XG
open Option renaming map_some→XW,map→Ws,map_none→XaW
open Int renaming reduceToNat→WR,toNat_natCast→WX,toNat_zero→W5,reduceLE→W8,toNat_one→Xaq,reduceBEq→XaQ,reduceBNe→XaR,reduceLT→XaY
open Decidable renaming em→XaX
namespace Go.Proofs.Ytnlnmdnmgachgaa
set_option maxHeartbeats 16000000
set_option maxRecDepth 10000
section
theorem Zur (l:List Int) (hl:l.length<=9223372036854775807) (v:Int):∀ (r:List Int) (i:Nat),l.drop i=r ->
  ∃ z,Zf3 0 [(8,.int .i64 i),(7,.int .i64 l.length),(1,.int .i64 v),(0,.lst false (l.map (AVal.int .i64 ·)))] []=some (.int .i64 z,[])/\decide (z>=0)=r.contains v
 | [],i,h=>by
  have h1:=ZcM h
  refine ⟨-1,?_,by simp⟩
  unfold Zf3
  rw [Zan]
  simp -implicitDefEqProofs only [EQA,Zx,ZA,Zv,Zw,Zz,Zy,ZJ,ZN,ZP,ZM,ZL,ZO,ZI,ZK,ZQ,implies_true,forall_const,Xh,Xj,Xm,Xe,Xf,Xk,Xl,ZE,ZG,unA,Zt,ZC,unG,reduceCtorEq,Zj,decide_eq_true_eq,Xg,Xc,ite_self,↓reduceIte,Zu,ZF,gcT,gcA,Zn,Zg,Zf,Zh,Zo,Zd,Zm,Zi,Zp,Xd,Zhk,ZeJ,Zh7,Zg1,ZeL,ZgW,ZeF,Zl,Zk,Zr,Zc,Zs,ZH,h1]
 | x::r,i,h=>by
  obtain ⟨z,ih,hz⟩:=Zur l hl v r (i+1) (Zaq h).2.1
  have h1:(i:Int) < l.length:=by have:=(Zaq h).2.2;omega
  have e1:=iad (Zaq h).1 (AVal.int .i64 ·) (k:=1) rfl
  have e3:=Zcu h1 hl
  cases hb:(v == x)
  ·refine ⟨z,?_,by rw [hz];simp only [Xap,hb,XaP]⟩
   unfold Zf3 at ih ⊢
   rw [Zan]
   have hb':(x == v)=false:=by simp only [beq_eq_false_iff_ne,ne_eq] at hb ⊢;exact fun e=>hb e.symm
   simp -implicitDefEqProofs only [EQA,Zx,ZA,Zv,Zw,Zz,Zy,ZJ,ZN,ZP,ZM,ZL,ZO,ZI,ZK,ZQ,implies_true,forall_const,Xh,Xj,Xm,Xe,Xf,Xk,Xl,ZE,ZG,unA,Zt,ZC,unG,reduceCtorEq,Zj,decide_eq_true_eq,Xg,Xc,ite_self,↓reduceIte,Zu,ZF,gcT,gcA,Zn,Zg,Zf,Zh,Zo,Zd,Zm,Zi,Zp,Xd,Zhk,ZeJ,Zh7,Zg1,ZeL,ZgW,ZeF,Zl,Zk,Zr,Zc,Zs,ZH,h1,e1,e3,hb,hb']
   exact ih
  ·refine ⟨i,?_,by simp only [Xap,hb,WN];simp⟩
   have hb':(x == v)=true:=by simp only [beq_iff_eq] at hb ⊢;exact hb.symm
   unfold Zf3 at ih ⊢
   rw [Zan]
   simp -implicitDefEqProofs only [EQA,Zx,ZA,Zv,Zw,Zz,Zy,ZJ,ZN,ZP,ZM,ZL,ZO,ZI,ZK,ZQ,implies_true,forall_const,Xh,Xj,Xm,Xe,Xf,Xk,Xl,ZE,ZG,unA,Zt,ZC,unG,reduceCtorEq,Zj,decide_eq_true_eq,Xg,Xc,ite_self,↓reduceIte,Zu,ZF,gcT,gcA,Zn,Zg,Zf,Zh,Zo,Zd,Zm,Zi,Zp,Xd,Zhk,ZeJ,Zh7,Zg1,ZeL,ZgW,ZeF,Zl,Zk,Zr,Zc,Zs,ZH,h1,e1,e3,hb,hb']
theorem ZAT (l:List Int) (hl:l.length<=9223372036854775807) (v:Int):∃ z,E 43 [Zl l,.int .i64 v] []=some (.int .i64 z,[])/\decide (z>=0)=l.contains v:=by
 obtain ⟨z,h,hz⟩:=Zur l hl v l 0 rfl
 refine ⟨z,?_,hz⟩
 have z0:((0:Nat):Int)=0:=rfl
 rw [z0] at h
 unfold Zf3 at h
 rw [Zar (by rfl) ZyW]
 simp -implicitDefEqProofs only [EQA,Zx,ZA,Zv,Zw,Zz,Zy,ZJ,ZN,ZP,ZM,ZL,ZO,ZI,ZK,ZQ,implies_true,forall_const,Xh,Xj,Xm,Xe,Xf,Xk,Xl,ZE,ZG,unA,Zt,ZC,unG,reduceCtorEq,Zj,decide_eq_true_eq,Xg,Xc,ite_self,↓reduceIte,Zu,ZF,gcT,gcA,Zn,Zg,Zf,Zh,Zo,Zd,Zm,Zi,Zp,Xd,Zhk,ZeJ,Zh7,Zg1,ZeL,ZgW,ZeF,Zl,Zk,Zr,Zc,Zs,ZH,Zl]
 exact h
theorem ZAm (l:List Int) (hl:l.length<=9223372036854775807) (v:Int):E 41 [Zl l,.int .i64 v] []=some (.bool (l.contains v),[]):=by
 obtain ⟨z,h,hz⟩:=ZAT l hl v
 have hC:∀ (σ:Za) (sq own:Nat) (view:Bool),ZS E BY σ sq 43 own view [.lst false (l.map (AVal.int .i64 ·)),.int .i64 v]=some (.int .i64 z,σ,{}):=fun σ sq own view=>ZcJ (h) (by kernel_rfl) (by simp -implicitDefEqProofs only [ZbM,ZbP,Zx,ZA,Zv,ZbH,Zw,Zz,ZbI,Zy,eq_self,implies_true,Xt,Zl,Zk,Zr,Zc,Zs,Zl]) (by simp -implicitDefEqProofs only [ZbM,ZbP,Zx,ZA,Zv,ZbH,Zw,Zz,ZbI,Zy,eq_self,implies_true,Xt,Zl,Zk,Zr,Zc,Zs,Zl]) rfl (fun _=>rfl) _ _ _ _
 rw [Zar (by rfl) Zzm]
 rw [<-hz]
 simp -implicitDefEqProofs only [EQA,Zx,ZA,Zv,Zw,Zz,Zy,ZJ,ZN,ZP,ZM,ZL,ZO,ZI,ZK,ZQ,implies_true,forall_const,Xh,Xj,Xm,Xe,Xf,Xk,Xl,ZE,ZG,unA,Zt,ZC,unG,reduceCtorEq,Zj,decide_eq_true_eq,Xg,Xc,ite_self,↓reduceIte,Zu,ZF,gcT,gcA,Zn,Zg,Zf,Zh,Zo,Zd,Zm,Zi,Zp,Xd,ZyM,ZlL,ZCx,Zl,Zk,Zr,Zc,Zs,ZH,hC]
theorem ZxA (σ:Za) (sq own:Nat) (l:List Int) (hl:l.length<=9223372036854775807) (v:Int) (b:Bool):ZS E BY σ sq 41 own true [.lst b (l.map (AVal.int .i64 ·)),.int .i64 v]=some (.bool (l.contains v),σ,{}) :=
 Ztp (ZAm l hl v) (by kernel_rfl) rfl rfl rfl (fun _=>rfl) _ _ _
def ZaX (ids:List Int) (l:List ZZ):List ZZ:=l.filter fun p=>ids.contains p.id
theorem Zl1 (ids:List Int) (hi:ids.length<=9223372036854775807) (l:List ZZ) (hl:l.length*72<=140737488355328) (hd:∀ p ∈ l,p.data.length<=140737488355328) (full:List AVal):∀ (r:List ZZ) (i:Nat) (acc:List ZZ),l.drop i=r->acc.length+r.length<=l.length->full=(acc++ZaX ids r).map Zc ->
  ZfR 0 [(10,.int .i64 i),(9,.int .i64 l.length),(8,.lst false (l.map Zc)),(5,ZcZ (acc.map Zc)),(1,.lst false (ids.map (AVal.int .i64 ·)))] (ZcY 5 (acc.map Zc))=some (ZcZ full,ZcY 5 full)
 | [],i,acc,h,_,hf=>by
  have h1:=ZcM h
  have e:acc++ZaX ids []=acc:=by simp [ZaX]
  rw [e] at hf
  subst hf
  unfold ZfR
  rw [Zan]
  cases acc with
  | nil=>simp -implicitDefEqProofs only [EQA,Zx,ZA,Zv,Zw,Zz,Zy,ZJ,ZN,ZP,ZM,ZL,ZO,ZI,ZK,ZQ,implies_true,forall_const,Xh,Xj,Xm,Xe,Xf,Xk,Xl,ZE,ZG,unA,Zt,ZC,unG,reduceCtorEq,Zj,decide_eq_true_eq,Xg,Xc,ite_self,↓reduceIte,Zu,ZF,gcT,gcA,Zn,Zg,Zf,Zh,Zo,Zd,Zm,Zi,Zp,Xd,Zej,Zdd,ZdN,Zeh,Zc4,Zd3,Zc6,Zl,Zk,Zr,Zc,Zs,ZH,h1,Zb2,ZbZ,XK]
  | cons a acc=>simp -implicitDefEqProofs only [EQA,Zx,ZA,Zv,Zw,Zz,Zy,ZJ,ZN,ZP,ZM,ZL,ZO,ZI,ZK,ZQ,implies_true,forall_const,Xh,Xj,Xm,Xe,Xf,Xk,Xl,ZE,ZG,unA,Zt,ZC,unG,reduceCtorEq,Zj,decide_eq_true_eq,Xg,Xc,ite_self,↓reduceIte,Zu,ZF,gcT,gcA,Zn,Zg,Zf,Zh,Zo,Zd,Zm,Zi,Zp,Xd,Zej,Zdd,ZdN,Zeh,Zc4,Zd3,Zc6,Zl,Zk,Zr,Zc,Zs,ZH,h1,Zca,Zb7,Xv,Zjs]
 | p::r,i,acc,h,hn,hf=>by
  have h1:(i:Int) < l.length:=by have:=(Zaq h).2.2;omega
  have e1:=iad (Zaq h).1 Zc (k:=5) rfl
  have e3:=Zcu h1 (by omega)
  have hC:=fun σ sq own=>ZwD σ sq own p (hd p (XF (Zaq h).1))
  have hK:=fun σ sq own b=>ZxA σ sq own ids hi p.id b
  cases hb:ids.contains p.id
  ·have e:ZaX ids (p::r)=ZaX ids r:=by unfold ZaX;rw [XaB,hb];rfl
   rw [e] at hf
   have ih:=Zl1 ids hi l hl hd full r (i+1) acc (Zaq h).2.1 (by simp at hn;omega) hf
   clear hf
   rw [hb] at hK
   unfold ZfR at ih ⊢
   rw [Zan]
   cases acc with
   | nil =>
    simp -implicitDefEqProofs only [EQA,Zx,ZA,Zv,Zw,Zz,Zy,ZJ,ZN,ZP,ZM,ZL,ZO,ZI,ZK,ZQ,implies_true,forall_const,Xh,Xj,Xm,Xe,Xf,Xk,Xl,ZE,ZG,unA,Zt,ZC,unG,reduceCtorEq,Zj,decide_eq_true_eq,Xg,Xc,ite_self,↓reduceIte,Zu,ZF,gcT,gcA,Zn,Zg,Zf,Zh,Zo,Zd,Zm,Zi,Zp,Xd,Zej,Zdd,ZdN,Zeh,Zc4,Zd3,Zc6,Zl,Zk,Zr,Zc,Zs,ZH,h1,e1,e3,hK,Zb2,ZbZ,XK]
    exact ih
   | cons a acc =>
    simp -implicitDefEqProofs only [EQA,Zx,ZA,Zv,Zw,Zz,Zy,ZJ,ZN,ZP,ZM,ZL,ZO,ZI,ZK,ZQ,implies_true,forall_const,Xh,Xj,Xm,Xe,Xf,Xk,Xl,ZE,ZG,unA,Zt,ZC,unG,reduceCtorEq,Zj,decide_eq_true_eq,Xg,Xc,ite_self,↓reduceIte,Zu,ZF,gcT,gcA,Zn,Zg,Zf,Zh,Zo,Zd,Zm,Zi,Zp,Xd,Zej,Zdd,ZdN,Zeh,Zc4,Zd3,Zc6,Zl,Zk,Zr,Zc,Zs,ZH,h1,e1,e3,hK,Zca,Zb7,Xv]
    simp only [X8,Xv,XK,X7,Wf,Zca,Zb2,Zb7,ZbZ,Xy,Xw,XH,Xx,Zc,Zs,Zk,XC,We,Xh,Zl] at ih
    exact ih
  ·have e:acc++ZaX ids (p::r)=(acc++[p])++ZaX ids r:=by unfold ZaX;rw [XaB,hb];simp
   rw [e] at hf
   have ih:=Zl1 ids hi l hl hd full r (i+1) (acc++[p]) (Zaq h).2.1 (by simp at hn ⊢;omega) hf
   clear hf
   rw [hb] at hK
   unfold ZfR at ih ⊢
   rw [Zan]
   cases acc with
   | nil =>
    simp -implicitDefEqProofs only [EQA,Zx,ZA,Zv,Zw,Zz,Zy,ZJ,ZN,ZP,ZM,ZL,ZO,ZI,ZK,ZQ,implies_true,forall_const,Xh,Xj,Xm,Xe,Xf,Xk,Xl,ZE,ZG,unA,Zt,ZC,unG,reduceCtorEq,Zj,decide_eq_true_eq,Xg,Xc,ite_self,↓reduceIte,Zu,ZF,gcT,gcA,Zn,Zg,Zf,Zh,Zo,Zd,Zm,Zi,Zp,Xd,Zej,Zdd,ZdN,Zeh,Zc4,Zd3,Zc6,Zl,Zk,Zr,Zc,Zs,ZH,h1,e1,e3,hK,hC,Zb2,ZbZ,XK,Zav,kOk,viewAs,Zaw,Zaj,ZaH,ZB,XZ,WQ,AVal.cells]
    simp only [X8,Xv,XK,X7,Wf,Zca,Zb2,Zb7,ZbZ,Xy,Xw,XH,Xx,Zc,Zs,Zk,XC,We,Xh,Zl] at ih
    exact ih
   | cons a acc =>
    have hz:(acc.length+1+1)*72<=140737488355328:=by simp at hn;omega
    simp -implicitDefEqProofs only [EQA,Zx,ZA,Zv,Zw,Zz,Zy,ZJ,ZN,ZP,ZM,ZL,ZO,ZI,ZK,ZQ,implies_true,forall_const,Xh,Xj,Xm,Xe,Xf,Xk,Xl,ZE,ZG,unA,Zt,ZC,unG,reduceCtorEq,Zj,decide_eq_true_eq,Xg,Xc,ite_self,↓reduceIte,Zu,ZF,gcT,gcA,Zn,Zg,Zf,Zh,Zo,Zd,Zm,Zi,Zp,Xd,Zej,Zdd,ZdN,Zeh,Zc4,Zd3,Zc6,Zl,Zk,Zr,Zc,Zs,ZH,h1,e1,e3,hK,hC,Zca,Zb7,Xv,Zav,kOk,viewAs,Zaw,Zaj,ZaH,ZB,XZ,WQ,AVal.cells,hz]
    simp only [X8,Xv,XK,X7,Wf,Zca,Zb2,Zb7,ZbZ,Xy,Xw,XH,Xx,Zc,Zs,Zk,XC,We,Xh,Zl] at ih
    exact ih
theorem ZBl (ids:List Int) (hi:ids.length<=9223372036854775807) (l:List ZZ) (hl:l.length*72<=140737488355328) (hd:∀ p ∈ l,p.data.length<=140737488355328):E 34 [Zr l,Zl ids] []=some (ZcZ ((ZaX ids l).map Zc),ZcY 5 ((ZaX ids l).map Zc)):=by
 have:=Zl1 ids hi l hl hd ((ZaX ids l).map Zc) l 0 [] rfl (by simp) (by simp)
 have z0:((0:Nat):Int)=0:=rfl
 rw [z0,XK,Zb2,ZbZ] at this
 unfold ZfR at this
 rw [Zar (by rfl) ZAv]
 simp -implicitDefEqProofs only [EQA,Zx,ZA,Zv,Zw,Zz,Zy,ZJ,ZN,ZP,ZM,ZL,ZO,ZI,ZK,ZQ,implies_true,forall_const,Xh,Xj,Xm,Xe,Xf,Xk,Xl,ZE,ZG,unA,Zt,ZC,unG,reduceCtorEq,Zj,decide_eq_true_eq,Xg,Xc,ite_self,↓reduceIte,Zu,ZF,gcT,gcA,Zn,Zg,Zf,Zh,Zo,Zd,Zm,Zi,Zp,Xd,Zej,Zdd,ZdN,Zeh,Zc4,Zd3,Zc6,Zl,Zk,Zr,Zc,Zs,ZH,Zl]
 exact this
theorem Zxl (σ:Za) (sq own:Nat) (b:Bool) (ids:List Int) (hi:ids.length<=9223372036854775807) (l:List ZZ) (hl:l.length*72<=140737488355328) (hd:∀ p ∈ l,p.data.length<=140737488355328) (b':Bool):ZS E BY σ sq 34 own true [.lst b' (l.map Zc),.lst b (ids.map (AVal.int .i64 ·))]=some (.lst false ((ZaX ids l).map Zc),σ,{}) :=
 Zt6 (ZBl ids hi l hl hd) (by kernel_rfl) rfl rfl σ sq own
def Zbj (l:List ZZ):List ZZ:=ZaX [1,3,8,9,38] l
theorem ZxY (l:List ZZ) (hl:l.length*72<=140737488355328) (hd:∀ p ∈ l,p.data.length<=140737488355328):E 22 [Zr l] []=some (Zr (Zbj l),[]):=by
 have hC:=fun σ sq own b b'=>Zxl σ sq own b [1,3,8,9,38] (by decide) l hl hd b'
 simp only [Xv,XK] at hC
 have e:ZaX [1,3,8,9,38] l=Zbj l:=rfl
 rw [e] at hC
 rw [Zar (by rfl) ZBL]
 simp -implicitDefEqProofs only [EQA,Zx,ZA,Zv,Zw,Zz,Zy,ZJ,ZN,ZP,ZM,ZL,ZO,ZI,ZK,ZQ,implies_true,forall_const,Xh,Xj,Xm,Xe,Xf,Xk,Xl,ZE,ZG,unA,Zt,ZC,unG,reduceCtorEq,Zj,decide_eq_true_eq,Xg,Xc,ite_self,↓reduceIte,Zu,ZF,gcT,gcA,Zn,Zg,Zf,Zh,Zo,Zd,Zm,Zi,Zp,Xd,ZBr,ZmR,Zzf,Zl,Zk,Zr,Zc,Zs,ZH,hC,viewAs,Zaw,Zaj,ZaH,ZB,AVal.cells]
theorem Zxe (σ:Za) (sq own:Nat) (b:Bool) (l:List ZZ) (hl:l.length*72<=140737488355328) (hd:∀ p ∈ l,p.data.length<=140737488355328):ZS E BY σ sq 22 own true [.lst b (l.map Zc)]=some (.lst false ((Zbj l).map Zc),σ,{}) :=
 Ztp (ZxY l hl hd) (by kernel_rfl) rfl rfl rfl (fun _=>rfl) σ sq own
theorem ZpN (ids:List Int) (hi:ids.length<=9223372036854775807) (l:List ZZ) (hl:l.length*72<=140737488355328) (full:List AVal):∀ (r:List ZZ) (i:Nat) (acc:List ZZ),l.drop i=r->acc.length+r.length<=l.length->full=(acc++ZaX ids r).map Zc ->
  Zf0 0 [(6,.int .i64 i),(5,ZcZ (acc.map Zc)),(1,.lst false (ids.map (AVal.int .i64 ·))),(0,.lst false (l.map Zc))] (ZcY 5 (acc.map Zc))=some (ZcZ full,ZcY 5 full)
 | [],i,acc,h,_,hf=>by
  have h1:=ZcM h
  have e:acc++ZaX ids []=acc:=by simp [ZaX]
  rw [e] at hf
  subst hf
  unfold Zf0
  rw [Zan]
  cases acc with
  | nil=>simp -implicitDefEqProofs only [EQA,Zx,ZA,Zv,Zw,Zz,Zy,ZJ,ZN,ZP,ZM,ZL,ZO,ZI,ZK,ZQ,implies_true,forall_const,Xh,Xj,Xm,Xe,Xf,Xk,Xl,ZE,ZG,unA,Zt,ZC,unG,reduceCtorEq,Zj,decide_eq_true_eq,Xg,Xc,ite_self,↓reduceIte,Zu,ZF,gcT,gcA,Zn,Zg,Zf,Zh,Zo,Zd,Zm,Zi,Zp,Xd,Zd7,Zdf,ZdP,Zem,Zc7,Zd0,Zc9,Zl,Zk,Zr,Zc,Zs,ZH,h1,Zb2,ZbZ,XK]
  | cons a acc=>simp -implicitDefEqProofs only [EQA,Zx,ZA,Zv,Zw,Zz,Zy,ZJ,ZN,ZP,ZM,ZL,ZO,ZI,ZK,ZQ,implies_true,forall_const,Xh,Xj,Xm,Xe,Xf,Xk,Xl,ZE,ZG,unA,Zt,ZC,unG,reduceCtorEq,Zj,decide_eq_true_eq,Xg,Xc,ite_self,↓reduceIte,Zu,ZF,gcT,gcA,Zn,Zg,Zf,Zh,Zo,Zd,Zm,Zi,Zp,Xd,Zd7,Zdf,ZdP,Zem,Zc7,Zd0,Zc9,Zl,Zk,Zr,Zc,Zs,ZH,h1,Zca,Zb7,Xv,Zjs]
 | p::r,i,acc,h,hn,hf=>by
  have h1:(i:Int) < l.length:=by have:=(Zaq h).2.2;omega
  have e1:=iad (Zaq h).1 Zc (k:=5) rfl
  have e3:=Zcu h1 (by omega)
  have hK:=fun σ sq own b=>ZBJ σ sq own ids hi p.id b
  cases hb:ids.contains p.id
  ·have e:ZaX ids (p::r)=ZaX ids r:=by unfold ZaX;rw [XaB,hb];rfl
   rw [e] at hf
   have ih:=ZpN ids hi l hl full r (i+1) acc (Zaq h).2.1 (by simp at hn;omega) hf
   clear hf
   rw [hb] at hK
   unfold Zf0 at ih ⊢
   rw [Zan]
   cases acc with
   | nil =>
    simp -implicitDefEqProofs only [EQA,Zx,ZA,Zv,Zw,Zz,Zy,ZJ,ZN,ZP,ZM,ZL,ZO,ZI,ZK,ZQ,implies_true,forall_const,Xh,Xj,Xm,Xe,Xf,Xk,Xl,ZE,ZG,unA,Zt,ZC,unG,reduceCtorEq,Zj,decide_eq_true_eq,Xg,Xc,ite_self,↓reduceIte,Zu,ZF,gcT,gcA,Zn,Zg,Zf,Zh,Zo,Zd,Zm,Zi,Zp,Xd,Zd7,Zdf,ZdP,Zem,Zc7,Zd0,Zc9,Zl,Zk,Zr,Zc,Zs,ZH,h1,e1,e3,hK,Zb2,ZbZ,XK]
    exact ih
   | cons a acc =>
    simp -implicitDefEqProofs only [EQA,Zx,ZA,Zv,Zw,Zz,Zy,ZJ,ZN,ZP,ZM,ZL,ZO,ZI,ZK,ZQ,implies_true,forall_const,Xh,Xj,Xm,Xe,Xf,Xk,Xl,ZE,ZG,unA,Zt,ZC,unG,reduceCtorEq,Zj,decide_eq_true_eq,Xg,Xc,ite_self,↓reduceIte,Zu,ZF,gcT,gcA,Zn,Zg,Zf,Zh,Zo,Zd,Zm,Zi,Zp,Xd,Zd7,Zdf,ZdP,Zem,Zc7,Zd0,Zc9,Zl,Zk,Zr,Zc,Zs,ZH,h1,e1,e3,hK,Zca,Zb7,Xv]
    simp only [X8,Xv,XK,X7,Wf,Zca,Zb2,Zb7,ZbZ,Xy,Xw,XH,Xx,Zc,Zs,Zk,XC,We,Xh,Zl] at ih
    exact ih
  ·have e:acc++ZaX ids (p::r)=(acc++[p])++ZaX ids r:=by unfold ZaX;rw [XaB,hb];simp
   rw [e] at hf
   have ih:=ZpN ids hi l hl full r (i+1) (acc++[p]) (Zaq h).2.1 (by simp at hn ⊢;omega) hf
   clear hf
   rw [hb] at hK
   unfold Zf0 at ih ⊢
   rw [Zan]
   cases acc with
   | nil =>
    simp -implicitDefEqProofs only [EQA,Zx,ZA,Zv,Zw,Zz,Zy,ZJ,ZN,ZP,ZM,ZL,ZO,ZI,ZK,ZQ,implies_true,forall_const,Xh,Xj,Xm,Xe,Xf,Xk,Xl,ZE,ZG,unA,Zt,ZC,unG,reduceCtorEq,Zj,decide_eq_true_eq,Xg,Xc,ite_self,↓reduceIte,Zu,ZF,gcT,gcA,Zn,Zg,Zf,Zh,Zo,Zd,Zm,Zi,Zp,Xd,Zd7,Zdf,ZdP,Zem,Zc7,Zd0,Zc9,Zl,Zk,Zr,Zc,Zs,ZH,h1,e1,e3,hK,Zb2,ZbZ,XK,Zav,kOk,viewAs,Zaw,Zaj,ZaH,ZB,XZ,WQ,AVal.cells]
    simp only [X8,Xv,XK,X7,Wf,Zca,Zb2,Zb7,ZbZ,Xy,Xw,XH,Xx,Zc,Zs,Zk,XC,We,Xh,Zl] at ih
    exact ih
   | cons a acc =>
    have hz:(acc.length+1+1)*72<=140737488355328:=by simp at hn;omega
    simp -implicitDefEqProofs only [EQA,Zx,ZA,Zv,Zw,Zz,Zy,ZJ,ZN,ZP,ZM,ZL,ZO,ZI,ZK,ZQ,implies_true,forall_const,Xh,Xj,Xm,Xe,Xf,Xk,Xl,ZE,ZG,unA,Zt,ZC,unG,reduceCtorEq,Zj,decide_eq_true_eq,Xg,Xc,ite_self,↓reduceIte,Zu,ZF,gcT,gcA,Zn,Zg,Zf,Zh,Zo,Zd,Zm,Zi,Zp,Xd,Zd7,Zdf,ZdP,Zem,Zc7,Zd0,Zc9,Zl,Zk,Zr,Zc,Zs,ZH,h1,e1,e3,hK,Zca,Zb7,Xv,Zav,kOk,viewAs,Zaw,Zaj,ZaH,ZB,XZ,WQ,AVal.cells,hz]
    simp only [X8,Xv,XK,X7,Wf,Zca,Zb2,Zb7,ZbZ,Xy,Xw,XH,Xx,Zc,Zs,Zk,XC,We,Xh,Zl] at ih
    exact ih
theorem Zxo (ids:List Int) (hi:ids.length<=9223372036854775807) (l:List ZZ) (hl:l.length*72<=140737488355328):E 37 [Zr l,Zl ids] []=some (ZcZ ((ZaX ids l).map Zc),ZcY 5 ((ZaX ids l).map Zc)):=by
 have:=ZpN ids hi l hl ((ZaX ids l).map Zc) l 0 [] rfl (by simp) (by simp)
 have z0:((0:Nat):Int)=0:=rfl
 rw [z0,XK,Zb2,ZbZ] at this
 unfold Zf0 at this
 rw [Zar (by rfl) Zxi]
 simp -implicitDefEqProofs only [EQA,Zx,ZA,Zv,Zw,Zz,Zy,ZJ,ZN,ZP,ZM,ZL,ZO,ZI,ZK,ZQ,implies_true,forall_const,Xh,Xj,Xm,Xe,Xf,Xk,Xl,ZE,ZG,unA,Zt,ZC,unG,reduceCtorEq,Zj,decide_eq_true_eq,Xg,Xc,ite_self,↓reduceIte,Zu,ZF,gcT,gcA,Zn,Zg,Zf,Zh,Zo,Zd,Zm,Zi,Zp,Xd,Zd7,Zdf,ZdP,Zem,Zc7,Zd0,Zc9,Zl,Zk,Zr,Zc,Zs,ZH,Zl]
 exact this
theorem Zyh (σ:Za) (sq own:Nat) (b:Bool) (ids:List Int) (hi:ids.length<=9223372036854775807) (l:List ZZ) (hl:l.length*72<=140737488355328) (b':Bool):ZS E BY σ sq 37 own true [.lst b' (l.map Zc),.lst b (ids.map (AVal.int .i64 ·))]=some (.lst false ((ZaX ids l).map Zc),σ,{}) :=
 Zt6 (Zxo ids hi l hl) (by kernel_rfl) rfl rfl σ sq own
theorem Zz8 (l:List ZZ) (hl:l.length*72<=140737488355328):E 26 [Zr l] []=some (Zr (Zbj l),[]):=by
 have hC:=fun σ sq own b b'=>Zyh σ sq own b [1,3,8,9,38] (by decide) l hl b'
 simp only [Xv,XK] at hC
 have e:ZaX [1,3,8,9,38] l=Zbj l:=rfl
 rw [e] at hC
 rw [Zar (by rfl) ZAp]
 simp -implicitDefEqProofs only [EQA,Zx,ZA,Zv,Zw,Zz,Zy,ZJ,ZN,ZP,ZM,ZL,ZO,ZI,ZK,ZQ,implies_true,forall_const,Xh,Xj,Xm,Xe,Xf,Xk,Xl,ZE,ZG,unA,Zt,ZC,unG,reduceCtorEq,Zj,decide_eq_true_eq,Xg,Xc,ite_self,↓reduceIte,Zu,ZF,gcT,gcA,Zn,Zg,Zf,Zh,Zo,Zd,Zm,Zi,Zp,Xd,ZBq,Ztl,ZzS,Zl,Zk,Zr,Zc,Zs,ZH,hC,viewAs,Zaw,Zaj,ZaH,ZB,AVal.cells]
theorem ZBp (σ:Za) (sq own:Nat) (b:Bool) (l:List ZZ) (hl:l.length*72<=140737488355328):ZS E BY σ sq 26 own true [.lst b (l.map Zc)]=some (.lst false ((Zbj l).map Zc),σ,{}) :=
 Ztp (Zz8 l hl) (by kernel_rfl) rfl rfl rfl (fun _=>rfl) σ sq own
end
section
end
section
def ZhT:Ze:=(.seq (.region [oM 4 0,oI 5 (.nilchk (.t 4)),oF 6 0 5,oL 7 6,oI 8 (.len (.t 7)),oI 9 (.bin .lss (.t 8) (.c (.int .i64 400)))] none [9,1,0]) (.cond (.t 9) (.seq (.region [oM 10 0,oM 11 0,oI 12 (.nilchk (.t 11)),oF 13 0 12,oL 14 13,oM 15 1,oI 16 (.rslice 1 1 (.lst true []) [(0,(.t 15))]),oI 17 (.app 1 24 (.lst true []) (.t 14) (.t 16)),oI 18 (.nilchk (.t 10)),oF 19 0 18,oN (.st 1 (.t 19) (.t 17))] none [1,0]) (.region [oM 20 0,oM 21 0,oI 22 (.nilchk (.t 21)),oF 23 1 22,oL 24 23,oM 25 1,oI 26 (.call 29 0 true [(.t 25)]),oI 27 (.bslice false 1 1 (.lst true []) [(0,(.t 26))]),oI 28 (.app 1 24 (.lst true []) (.t 24) (.t 27)),oI 29 (.nilchk (.t 20)),oF 30 1 29,oN (.st 1 (.t 30) (.t 28))] (some [(4,6),(4,7),(6,6)]) [])) .skip))
def Zkr:Zae:=⟨[],ZhT⟩
theorem ZtF:FC 18=some Zkr:=by kernel_rfl
theorem ZwC:Zkr.body=ZhT:=rfl
theorem Zvs:Zkr.res=[]:=rfl
def ZlM:Ze:=(.seq (.region [oI 2 (.mov (.c (.bool false)))] none [0]) (.seq (.region [oM 3 0,oI 4 (.call 30 0 true [(.t 3)]),oM 5 4,⟨(some 6),(.mov (.t 0)),(some (5,true)),[]⟩,⟨(some 7),(.call 31 0 true [(.t 6)]),(some (5,true)),[]⟩,oI 8 (.pick (.t 5) (.t 7) (.c (.bool false))),oM 9 8,⟨(some 10),(.mov (.t 0)),(some (9,true)),[]⟩,⟨(some 11),(.call 32 0 true [(.t 10)]),(some (9,true)),[]⟩,oI 12 (.pick (.t 9) (.t 11) (.c (.bool false))),oM 13 12,⟨(some 14),(.mov (.t 0)),(some (13,true)),[]⟩,⟨(some 15),(.call 33 0 true [(.t 14)]),(some (13,true)),[]⟩,oI 16 (.pick (.t 13) (.t 15) (.c (.bool false))),oM 2 16] none [2]) .ret))
def ZrQ:Zae:=⟨[(.tmp 2)],ZlM⟩
theorem ZCr:FC 19=some ZrQ:=by kernel_rfl
theorem ZAU:ZrQ.body=ZlM:=rfl
theorem ZBI:ZrQ.res=[(.tmp 2)]:=rfl
def Zdl:Ze:=(.seq (.region [oI 2 (.mov (.c (.bool true)))] none [2]) .ret)
def ZwQ:Ze:=Zdl
def Zfc:=xw ZwQ Zdl rfl
def Zdk:Ze:=(.seq (.seq (.region [oM 56 5,oM 57 0,oI 58 (.nilchk (.t 57)),oF 59 4 58,oL 60 59,oI 61 (.len (.t 60)),oI 62 (.bin .lss (.t 56) (.t 61))] none [62,5,0]) (.cond (.t 62) .skip (.exit 4))) (.seq (.block 5 (.seq (.region [oM 65 0,oI 66 (.nilchk (.t 65)),oF 67 4 66,oL 68 67,oM 69 5,oI 70 (.iaddr 1 (.t 68) (.t 69)),oL 71 70,oM 72 0,oI 73 (.nilchk (.t 72)),oF 74 5 73,oL 75 74,oM 76 5,oI 77 (.iaddr 1 (.t 75) (.t 76)),oL 78 77,oI 79 (.call 40 0 true [(.t 71),(.t 78)]),oI 80 (.un .not (.t 79))] (some [(3,10),(5,10),(6,10),(3,12),(5,12),(6,12),(3,13),(5,13),(6,13),(14,14)]) [80,5,0]) (.cond (.t 80) (.seq (.region [oI 2 (.mov (.c (.bool false)))] none [2]) .ret) .skip))) (.region [oM 63 5,oI 64 (.bin .add (.t 63) (.c (.int .i64 1))),oM 5 64] none [5,0])))
def ZtV:Ze:=Zdk
def Ze2:=xw ZtV Zdk rfl
def Zdq:Ze:=(.seq (.seq (.region [oI 5 (.mov (.c (.int .i64 0)))] none [5,0]) (.block 4 (.loop [5,0] ZtV))) ZwQ)
def ZwX:Ze:=Zdq
def Zez:=xw ZwX Zdq rfl
def Zds:Ze:=(.seq (.seq (.region [oM 31 4,oM 32 0,oI 33 (.nilchk (.t 32)),oF 34 2 33,oL 35 34,oI 36 (.len (.t 35)),oI 37 (.bin .lss (.t 31) (.t 36))] none [37,4,0]) (.cond (.t 37) .skip (.exit 2))) (.seq (.block 3 (.seq (.region [oM 40 0,oI 41 (.nilchk (.t 40)),oF 42 2 41,oL 43 42,oM 44 4,oI 45 (.iaddr 1 (.t 43) (.t 44)),oL 46 45,oM 47 0,oI 48 (.nilchk (.t 47)),oF 49 3 48,oL 50 49,oM 51 4,oI 52 (.iaddr 1 (.t 50) (.t 51)),oL 53 52,oI 54 (.call 39 0 true [(.t 46),(.t 53)]),oI 55 (.un .not (.t 54))] (some [(3,10),(5,10),(6,10),(3,12),(5,12),(6,12),(3,13),(5,13),(6,13),(14,14)]) [55,4,0]) (.cond (.t 55) (.seq (.region [oI 2 (.mov (.c (.bool false)))] none [2]) .ret) .skip))) (.region [oM 38 4,oI 39 (.bin .add (.t 38) (.c (.int .i64 1))),oM 4 39] none [4,0])))
def ZuN:Ze:=Zds
def ZfJ:=xw ZuN Zds rfl
def Zdh:Ze:=(.seq (.seq (.region [oI 4 (.mov (.c (.int .i64 0)))] none [4,0]) (.block 2 (.loop [4,0] ZuN))) ZwX)
def ZuS:Ze:=Zdh
def ZeP:=xw ZuS Zdh rfl
def ZdD:Ze:=(.seq (.seq (.region [oM 6 3,oM 7 0,oI 8 (.nilchk (.t 7)),oF 9 0 8,oL 10 9,oI 11 (.len (.t 10)),oI 12 (.bin .lss (.t 6) (.t 11))] none [12,3,0]) (.cond (.t 12) .skip (.exit 0))) (.seq (.block 1 (.seq (.region [oM 15 0,oI 16 (.nilchk (.t 15)),oF 17 0 16,oL 18 17,oM 19 3,oI 20 (.iaddr 1 (.t 18) (.t 19)),oL 21 20,oM 22 0,oI 23 (.nilchk (.t 22)),oF 24 1 23,oL 25 24,oM 26 3,oI 27 (.iaddr 1 (.t 25) (.t 26)),oL 28 27,oI 29 (.call 24 0 true [(.t 21),(.t 28)]),oI 30 (.un .not (.t 29))] (some [(3,10),(5,10),(6,10),(3,12),(5,12),(6,12),(3,13),(5,13),(6,13),(14,14)]) [30,3,0]) (.cond (.t 30) (.seq (.region [oI 2 (.mov (.c (.bool false)))] none [2]) .ret) .skip))) (.region [oM 13 3,oI 14 (.bin .add (.t 13) (.c (.int .i64 1))),oM 3 14] none [3,0])))
def ZtQ:Ze:=ZdD
def ZeK:=xw ZtQ ZdD rfl
def Zdt:Ze:=(.seq (.region [oI 2 (.mov (.c (.bool false)))] none [0]) (.seq (.seq (.region [oI 3 (.mov (.c (.int .i64 0)))] none [3,0]) (.block 0 (.loop [3,0] ZtQ))) ZuS))
def ZjU:Zae:=⟨[(.tmp 2)],Zdt⟩
theorem Zy7:FC 30=some ZjU:=by kernel_rfl
theorem Zex:ZjU.body=Zdt:=rfl
theorem Zfu:ZjU.res=[(.tmp 2)]:=rfl
def Zfv:Ze:=(.seq (.region [oI 2 (.mov (.c (.bool true)))] none [2]) .ret)
def ZuM:Ze:=Zfv
def ZhR:=xw ZuM Zfv rfl
def Zfg:Ze:=(.region [oM 74 8,oI 75 (.bin .add (.t 74) (.c (.int .i64 1))),oM 8 75] none [8,5,0])
def ZwI:Ze:=Zfg
def Zg9:=xw ZwI Zfg rfl
def Ze9:Ze:=(.seq (.region [oM 112 5,oM 113 8,oI 114 (.iaddr 1 (.t 112) (.t 113)),oL 115 114,oM 116 9,oI 117 (.iaddr 1 (.t 115) (.t 116)),oL 118 117,oM 119 8,oI 120 (.bin .add (.t 119) (.c (.int .i64 1000))),oI 121 (.bin .neq (.t 118) (.t 120)),oM 122 121,⟨(some 123),(.mov (.t 5)),(some (122,false)),[]⟩,⟨(some 124),(.mov (.t 8)),(some (122,false)),[]⟩,⟨(some 125),(.iaddr 1 (.t 123) (.t 124)),(some (122,false)),[]⟩,⟨(some 126),(.ld none (.t 125)),(some (122,false)),[]⟩,⟨(some 127),(.mov (.t 9)),(some (122,false)),[]⟩,⟨(some 128),(.bin .add (.t 127) (.c (.int .i64 1))),(some (122,false)),[]⟩,⟨(some 129),(.iaddr 1 (.t 126) (.t 128)),(some (122,false)),[]⟩,⟨(some 130),(.ld none (.t 129)),(some (122,false)),[]⟩,⟨(some 131),(.mov (.t 8)),(some (122,false)),[]⟩,⟨(some 132),(.bin .add (.t 131) (.c (.int .i64 1001))),(some (122,false)),[]⟩,⟨(some 133),(.bin .neq (.t 130) (.t 132)),(some (122,false)),[]⟩,oI 134 (.pick (.t 122) (.c (.bool true)) (.t 133))] none [134,8,5,0]) (.cond (.t 134) (.seq (.region [oI 2 (.mov (.c (.bool false)))] none [2]) .ret) .skip))
def Zvg:Ze:=Ze9
def ZhB:=xw Zvg Ze9 rfl
def Zfe:Ze:=(.seq (.seq (.region [oM 84 10,oM 85 9,oI 86 (.bin .lss (.t 84) (.t 85))] none [86,10,9,8,5,0]) (.cond (.t 86) .skip (.exit 8))) (.seq (.block 9 (.seq (.region [oM 89 0,oI 90 (.nilchk (.t 89)),oF 91 4 90,oL 92 91,oM 93 8,oI 94 (.iaddr 1 (.t 92) (.t 93)),oL 95 94,oM 96 10,oI 97 (.iaddr 1 (.t 95) (.t 96)),oL 98 97,oM 99 8,oI 100 (.bin .neq (.t 98) (.t 99)),oM 101 100,⟨(some 102),(.mov (.t 5)),(some (101,false)),[]⟩,⟨(some 103),(.mov (.t 8)),(some (101,false)),[]⟩,⟨(some 104),(.iaddr 1 (.t 102) (.t 103)),(some (101,false)),[]⟩,⟨(some 105),(.ld none (.t 104)),(some (101,false)),[]⟩,⟨(some 106),(.mov (.t 10)),(some (101,false)),[]⟩,⟨(some 107),(.iaddr 1 (.t 105) (.t 106)),(some (101,false)),[]⟩,⟨(some 108),(.ld none (.t 107)),(some (101,false)),[]⟩,⟨(some 109),(.mov (.t 8)),(some (101,false)),[]⟩,⟨(some 110),(.bin .neq (.t 108) (.t 109)),(some (101,false)),[]⟩,oI 111 (.pick (.t 101) (.c (.bool true)) (.t 110))] none [111,10,9,8,5,0]) (.cond (.t 111) (.seq (.region [oI 2 (.mov (.c (.bool false)))] none [2]) .ret) .skip))) (.region [oM 87 10,oI 88 (.bin .add (.t 87) (.c (.int .i64 1))),oM 10 88] none [10,9,8,5,0])))
def Zun:Ze:=Zfe
def ZhM:=xw Zun Zfe rfl
def Zfl:Ze:=(.seq (.seq (.region [oM 70 8,oM 71 5,oI 72 (.len (.t 71)),oI 73 (.bin .lss (.t 70) (.t 72))] none [73,8,5,0]) (.cond (.t 73) .skip (.exit 6))) (.seq (.block 7 (.seq (.region [oM 76 0,oI 77 (.nilchk (.t 76)),oF 78 4 77,oL 79 78,oM 80 8,oI 81 (.iaddr 1 (.t 79) (.t 80)),oL 82 81,oI 83 (.len (.t 82)),oM 9 83] none [9,8,5,0]) (.seq (.seq (.region [oI 10 (.mov (.c (.int .i64 0)))] none [10,9,8,5,0]) (.block 8 (.loop [10,9,8,5,0] Zun))) Zvg))) ZwI))
def ZwK:Ze:=Zfl
def ZhF:=xw ZwK Zfl rfl
def ZeY:Ze:=(.seq (.seq (.region [oI 8 (.mov (.c (.int .i64 0)))] none [8,5,0]) (.block 6 (.loop [8,5,0] ZwK))) ZuM)
def ZwS:Ze:=ZeY
def ZhL:=xw ZwS ZeY rfl
def Zfn:Ze:=(.seq (.seq (.region [oM 42 6,oM 43 0,oI 44 (.nilchk (.t 43)),oF 45 4 44,oL 46 45,oI 47 (.len (.t 46)),oI 48 (.bin .lss (.t 42) (.t 47))] none [48,6,5,0]) (.cond (.t 48) .skip (.exit 4))) (.seq (.block 5 (.seq (.region [oM 51 0,oI 52 (.nilchk (.t 51)),oF 53 4 52,oL 54 53,oM 55 6,oI 56 (.iaddr 1 (.t 54) (.t 55)),oL 57 56,oM 58 6,oI 59 (.bin .add (.t 58) (.c (.int .i64 1000))),oI 60 (.bslice false 1 1 (.int .i64 0) [(0,(.t 59))]),oI 61 (.app 1 8 (.int .i64 0) (.t 57) (.t 60)),oM 7 61] none [7,6,5,0]) (.region [oM 62 5,oM 63 7,oM 64 6,oI 65 (.bin .add (.t 64) (.c (.int .i64 1001))),oI 66 (.bslice false 1 1 (.int .i64 0) [(0,(.t 65))]),oI 67 (.app 1 8 (.int .i64 0) (.t 63) (.t 66)),oI 68 (.bslice false 1 1 (.lst true []) [(0,(.t 67))]),oI 69 (.app 1 24 (.lst true []) (.t 62) (.t 68)),oM 5 69] none [6,5,0]))) (.region [oM 49 6,oI 50 (.bin .add (.t 49) (.c (.int .i64 1))),oM 6 50] none [6,5,0])))
def ZvJ:Ze:=Zfn
def ZiZ:=xw ZvJ Zfn rfl
def ZeN:Ze:=(.seq (.region [oI 5 (.mov (.c (.lst true [])))] none [5,0]) (.seq (.seq (.region [oI 6 (.mov (.c (.int .i64 0)))] none [6,5,0]) (.block 4 (.loop [6,5,0] ZvJ))) ZwS))
def Zt8:Ze:=ZeN
def Zia:=xw Zt8 ZeN rfl
def ZeG:Ze:=(.region [oM 18 3,oI 19 (.bin .add (.t 18) (.c (.int .i64 1))),oM 3 19] none [3,0])
def ZvY:Ze:=ZeG
def ZiB:=xw ZvY ZeG rfl
def ZeE:Ze:=(.seq (.seq (.region [oM 20 4,oM 21 0,oI 22 (.nilchk (.t 21)),oF 23 4 22,oL 24 23,oM 25 3,oI 26 (.iaddr 1 (.t 24) (.t 25)),oL 27 26,oI 28 (.len (.t 27)),oI 29 (.bin .lss (.t 20) (.t 28))] none [29,4,3,0]) (.cond (.t 29) .skip (.exit 2))) (.seq (.block 3 (.region [oM 32 0,oI 33 (.nilchk (.t 32)),oF 34 4 33,oL 35 34,oM 36 3,oI 37 (.iaddr 1 (.t 35) (.t 36)),oL 38 37,oM 39 4,oM 40 3,oI 41 (.iaddr 1 (.t 38) (.t 39)),oN (.st 1 (.t 41) (.t 40))] none [4,3,0])) (.region [oM 30 4,oI 31 (.bin .add (.t 30) (.c (.int .i64 1))),oM 4 31] none [4,3,0])))
def Zwh:Ze:=ZeE
def ZiX:=xw Zwh ZeE rfl
def ZfG:Ze:=(.seq (.seq (.region [oM 11 3,oM 12 0,oI 13 (.nilchk (.t 12)),oF 14 4 13,oL 15 14,oI 16 (.len (.t 15)),oI 17 (.bin .lss (.t 11) (.t 16))] none [17,3,0]) (.cond (.t 17) .skip (.exit 0))) (.seq (.block 1 (.seq (.region [oI 4 (.mov (.c (.int .i64 0)))] none [4,3,0]) (.block 2 (.loop [4,3,0] Zwh)))) ZvY))
def Zuq:Ze:=ZfG
def ZhG:=xw Zuq ZfG rfl
def ZfB:Ze:=(.seq (.region [oI 2 (.mov (.c (.bool false)))] none [0]) (.seq (.seq (.region [oI 3 (.mov (.c (.int .i64 0)))] none [3,0]) (.block 0 (.loop [3,0] Zuq))) Zt8))
def ZkP:Zae:=⟨[(.tmp 2)],ZfB⟩
theorem Zyw:FC 33=some ZkP:=by kernel_rfl
theorem Zho:ZkP.body=ZfB:=rfl
theorem ZiS:ZkP.res=[(.tmp 2)]:=rfl
def ZfM:Ze:=(.seq (.region [oI 2 (.mov (.c (.bool true)))] none [2]) .ret)
def ZvG:Ze:=ZfM
def ZiD:=xw ZvG ZfM rfl
def Zfd:Ze:=(.region [oM 77 8,oI 78 (.bin .add (.t 77) (.c (.int .i64 1))),oM 8 78] none [8,5,0])
def ZtS:Ze:=Zfd
def Zhs:=xw ZtS Zfd rfl
def Zes:Ze:=(.seq (.region [oM 117 5,oM 118 8,oI 119 (.iaddr 1 (.t 117) (.t 118)),oL 120 119,oM 121 9,oI 122 (.iaddr 1 (.t 120) (.t 121)),oL 123 122,oM 124 8,oI 125 (.bin .add (.t 124) (.c (.int .i64 1000))),oI 126 (.i2i .u64 (.t 125)),oI 127 (.bin .neq (.t 123) (.t 126)),oM 128 127,⟨(some 129),(.mov (.t 5)),(some (128,false)),[]⟩,⟨(some 130),(.mov (.t 8)),(some (128,false)),[]⟩,⟨(some 131),(.iaddr 1 (.t 129) (.t 130)),(some (128,false)),[]⟩,⟨(some 132),(.ld none (.t 131)),(some (128,false)),[]⟩,⟨(some 133),(.mov (.t 9)),(some (128,false)),[]⟩,⟨(some 134),(.bin .add (.t 133) (.c (.int .i64 1))),(some (128,false)),[]⟩,⟨(some 135),(.iaddr 1 (.t 132) (.t 134)),(some (128,false)),[]⟩,⟨(some 136),(.ld none (.t 135)),(some (128,false)),[]⟩,⟨(some 137),(.mov (.t 8)),(some (128,false)),[]⟩,⟨(some 138),(.bin .add (.t 137) (.c (.int .i64 1001))),(some (128,false)),[]⟩,⟨(some 139),(.i2i .u64 (.t 138)),(some (128,false)),[]⟩,⟨(some 140),(.bin .neq (.t 136) (.t 139)),(some (128,false)),[]⟩,oI 141 (.pick (.t 128) (.c (.bool true)) (.t 140))] none [141,8,5,0]) (.cond (.t 141) (.seq (.region [oI 2 (.mov (.c (.bool false)))] none [2]) .ret) .skip))
def ZtC:Ze:=Zes
def ZhY:=xw ZtC Zes rfl
def ZeT:Ze:=(.seq (.seq (.region [oM 87 10,oM 88 9,oI 89 (.bin .lss (.t 87) (.t 88))] none [89,10,9,8,5,0]) (.cond (.t 89) .skip (.exit 8))) (.seq (.block 9 (.seq (.region [oM 92 0,oI 93 (.nilchk (.t 92)),oF 94 2 93,oL 95 94,oM 96 8,oI 97 (.iaddr 1 (.t 95) (.t 96)),oL 98 97,oM 99 10,oI 100 (.iaddr 1 (.t 98) (.t 99)),oL 101 100,oM 102 8,oI 103 (.i2i .u64 (.t 102)),oI 104 (.bin .neq (.t 101) (.t 103)),oM 105 104,⟨(some 106),(.mov (.t 5)),(some (105,false)),[]⟩,⟨(some 107),(.mov (.t 8)),(some (105,false)),[]⟩,⟨(some 108),(.iaddr 1 (.t 106) (.t 107)),(some (105,false)),[]⟩,⟨(some 109),(.ld none (.t 108)),(some (105,false)),[]⟩,⟨(some 110),(.mov (.t 10)),(some (105,false)),[]⟩,⟨(some 111),(.iaddr 1 (.t 109) (.t 110)),(some (105,false)),[]⟩,⟨(some 112),(.ld none (.t 111)),(some (105,false)),[]⟩,⟨(some 113),(.mov (.t 8)),(some (105,false)),[]⟩,⟨(some 114),(.i2i .u64 (.t 113)),(some (105,false)),[]⟩,⟨(some 115),(.bin .neq (.t 112) (.t 114)),(some (105,false)),[]⟩,oI 116 (.pick (.t 105) (.c (.bool true)) (.t 115))] none [116,10,9,8,5,0]) (.cond (.t 116) (.seq (.region [oI 2 (.mov (.c (.bool false)))] none [2]) .ret) .skip))) (.region [oM 90 10,oI 91 (.bin .add (.t 90) (.c (.int .i64 1))),oM 10 91] none [10,9,8,5,0])))
def Zty:Ze:=ZeT
def Zil:=xw Zty ZeT rfl
def Zfm:Ze:=(.seq (.seq (.region [oM 73 8,oM 74 5,oI 75 (.len (.t 74)),oI 76 (.bin .lss (.t 73) (.t 75))] none [76,8,5,0]) (.cond (.t 76) .skip (.exit 6))) (.seq (.block 7 (.seq (.region [oM 79 0,oI 80 (.nilchk (.t 79)),oF 81 2 80,oL 82 81,oM 83 8,oI 84 (.iaddr 1 (.t 82) (.t 83)),oL 85 84,oI 86 (.len (.t 85)),oM 9 86] none [9,8,5,0]) (.seq (.seq (.region [oI 10 (.mov (.c (.int .i64 0)))] none [10,9,8,5,0]) (.block 8 (.loop [10,9,8,5,0] Zty))) ZtC))) ZtS))
def Zt0:Ze:=Zfm
def Zii:=xw Zt0 Zfm rfl
def Zfb:Ze:=(.seq (.seq (.region [oI 8 (.mov (.c (.int .i64 0)))] none [8,5,0]) (.block 6 (.loop [8,5,0] Zt0))) ZvG)
def Zve:Ze:=Zfb
def Ziq:=xw Zve Zfb rfl
def Ze3:Ze:=(.seq (.seq (.region [oM 43 6,oM 44 0,oI 45 (.nilchk (.t 44)),oF 46 2 45,oL 47 46,oI 48 (.len (.t 47)),oI 49 (.bin .lss (.t 43) (.t 48))] none [49,6,5,0]) (.cond (.t 49) .skip (.exit 4))) (.seq (.block 5 (.seq (.region [oM 52 0,oI 53 (.nilchk (.t 52)),oF 54 2 53,oL 55 54,oM 56 6,oI 57 (.iaddr 1 (.t 55) (.t 56)),oL 58 57,oM 59 6,oI 60 (.bin .add (.t 59) (.c (.int .i64 1000))),oI 61 (.i2i .u64 (.t 60)),oI 62 (.bslice false 1 1 (.int .u64 0) [(0,(.t 61))]),oI 63 (.app 1 8 (.int .u64 0) (.t 58) (.t 62)),oM 7 63] none [7,6,5,0]) (.region [oM 64 5,oM 65 7,oM 66 6,oI 67 (.bin .add (.t 66) (.c (.int .i64 1001))),oI 68 (.i2i .u64 (.t 67)),oI 69 (.bslice false 1 1 (.int .u64 0) [(0,(.t 68))]),oI 70 (.app 1 8 (.int .u64 0) (.t 65) (.t 69)),oI 71 (.bslice false 1 1 (.lst true []) [(0,(.t 70))]),oI 72 (.app 1 24 (.lst true []) (.t 64) (.t 71)),oM 5 72] none [6,5,0]))) (.region [oM 50 6,oI 51 (.bin .add (.t 50) (.c (.int .i64 1))),oM 6 51] none [6,5,0])))
def Zu3:Ze:=Ze3
def Zg6:=xw Zu3 Ze3 rfl
def Zfh:Ze:=(.seq (.region [oI 5 (.mov (.c (.lst true [])))] none [5,0]) (.seq (.seq (.region [oI 6 (.mov (.c (.int .i64 0)))] none [6,5,0]) (.block 4 (.loop [6,5,0] Zu3))) Zve))
def ZwR:Ze:=Zfh
def Zhi:=xw ZwR Zfh rfl
def ZeA:Ze:=(.region [oM 18 3,oI 19 (.bin .add (.t 18) (.c (.int .i64 1))),oM 3 19] none [3,0])
def ZvP:Ze:=ZeA
def Zhu:=xw ZvP ZeA rfl
def ZfH:Ze:=(.seq (.seq (.region [oM 20 4,oM 21 0,oI 22 (.nilchk (.t 21)),oF 23 2 22,oL 24 23,oM 25 3,oI 26 (.iaddr 1 (.t 24) (.t 25)),oL 27 26,oI 28 (.len (.t 27)),oI 29 (.bin .lss (.t 20) (.t 28))] none [29,4,3,0]) (.cond (.t 29) .skip (.exit 2))) (.seq (.block 3 (.region [oM 32 0,oI 33 (.nilchk (.t 32)),oF 34 2 33,oL 35 34,oM 36 3,oI 37 (.iaddr 1 (.t 35) (.t 36)),oL 38 37,oM 39 4,oM 40 3,oI 41 (.i2i .u64 (.t 40)),oI 42 (.iaddr 1 (.t 38) (.t 39)),oN (.st 1 (.t 42) (.t 41))] none [4,3,0])) (.region [oM 30 4,oI 31 (.bin .add (.t 30) (.c (.int .i64 1))),oM 4 31] none [4,3,0])))
def Zv6:Ze:=ZfH
def Zg4:=xw Zv6 ZfH rfl
def ZeQ:Ze:=(.seq (.seq (.region [oM 11 3,oM 12 0,oI 13 (.nilchk (.t 12)),oF 14 2 13,oL 15 14,oI 16 (.len (.t 15)),oI 17 (.bin .lss (.t 11) (.t 16))] none [17,3,0]) (.cond (.t 17) .skip (.exit 0))) (.seq (.block 1 (.seq (.region [oI 4 (.mov (.c (.int .i64 0)))] none [4,3,0]) (.block 2 (.loop [4,3,0] Zv6)))) ZvP))
def ZtP:Ze:=ZeQ
def Zhf:=xw ZtP ZeQ rfl
def Zfs:Ze:=(.seq (.region [oI 2 (.mov (.c (.bool false)))] none [0]) (.seq (.seq (.region [oI 3 (.mov (.c (.int .i64 0)))] none [3,0]) (.block 0 (.loop [3,0] ZtP))) ZwR))
def ZsI:Zae:=⟨[(.tmp 2)],Zfs⟩
theorem ZBO:FC 32=some ZsI:=by kernel_rfl
theorem ZiT:ZsI.body=Zfs:=rfl
theorem Zih:ZsI.res=[(.tmp 2)]:=rfl
def Zgm:Ze:=(.seq (.region [oI 4 (.mov (.c (.bool true)))] none [4]) .ret)
def Zpu:Ze:=Zgm
def ZkS:=xw Zpu Zgm rfl
def ZfZ:Ze:=(.seq (.seq (.region [oM 31 6,oM 32 0,oI 33 (.len (.t 32)),oI 34 (.bin .lss (.t 31) (.t 33))] none [34,6,0]) (.cond (.t 34) .skip (.exit 0))) (.seq (.block 1 (.region [oM 37 0,oM 38 6,oM 39 0,oM 40 6,oI 41 (.iaddr 1 (.t 39) (.t 40)),oL 42 41,oI 43 (.bin .add (.t 42) (.c (.int .u8 77))),oI 44 (.iaddr 1 (.t 37) (.t 38)),oN (.st 1 (.t 44) (.t 43))] none [6,0])) (.region [oM 35 6,oI 36 (.bin .add (.t 35) (.c (.int .i64 1))),oM 6 36] none [6,0])))
def Zja:Ze:=ZfZ
def Zjx:=xw Zja ZfZ rfl
def ZgT:Ze:=(.seq (.region [oI 4 (.mov (.c (.bool false)))] none [1,0]) (.seq (.seq (.region [oM 7 0,oM 8 1,oI 9 (.call 24 0 true [(.t 7),(.t 8)]),oI 10 (.un .not (.t 9))] none [10,1,0]) (.cond (.t 10) (.seq (.region [oI 4 (.mov (.c (.bool false)))] none [4]) .ret) .skip)) (.seq (.region [oM 11 0,oM 12 1,oI 13 (.len (.t 12)),oI 14 (.bin .add (.t 13) (.c (.int .i64 2))),oI 15 (.slice 1 (.t 11) none (some (.t 14)) none),oM 5 15] none [5,1,0]) (.seq (.seq (.region [oM 16 5,oM 17 1,oI 18 (.len (.t 17)),oI 19 (.iaddr 1 (.t 16) (.t 18)),oL 20 19,oI 21 (.bin .neq (.t 20) (.c (.int .u8 165))),oM 22 21,⟨(some 23),(.mov (.t 5)),(some (22,false)),[]⟩,⟨(some 24),(.mov (.t 1)),(some (22,false)),[]⟩,⟨(some 25),(.len (.t 24)),(some (22,false)),[]⟩,⟨(some 26),(.bin .add (.t 25) (.c (.int .i64 1))),(some (22,false)),[]⟩,⟨(some 27),(.iaddr 1 (.t 23) (.t 26)),(some (22,false)),[]⟩,⟨(some 28),(.ld none (.t 27)),(some (22,false)),[]⟩,⟨(some 29),(.bin .neq (.t 28) (.c (.int .u8 90))),(some (22,false)),[]⟩,oI 30 (.pick (.t 22) (.c (.bool true)) (.t 29))] none [30,0]) (.cond (.t 30) (.seq (.region [oI 4 (.mov (.c (.bool false)))] none [4]) .ret) .skip)) (.seq (.seq (.region [oI 6 (.mov (.c (.int .i64 0)))] none [6,0]) (.block 0 (.loop [6,0] Zja))) Zpu)))))
def Zh1:Zae:=⟨[(.tmp 4)],ZgT⟩
theorem ZA1:FC 10=some Zh1:=by kernel_rfl
theorem Zqf:Zh1.body=ZgT:=rfl
theorem ZrH:Zh1.res=[(.tmp 4)]:=rfl
noncomputable def ZiY (m:Nat) (tm:Tms) (σ:Za):Option (AVal×Za):=(ZaV m Zh1 (Zbk FC PR BY m Zpu (Ws (Za2 0) (evL FC PR BY m [6,0] Zja tm σ))))
def Zg5:Ze:=(.seq (.region [oI 4 (.mov (.c (.lst true [])))] none [1,0]) (.seq (.seq (.region [oM 5 0,oI 6 (.len (.t 5)),oM 7 1,oI 8 (.bin .gtr (.t 6) (.t 7))] none [8,1,0]) (.cond (.t 8) (.seq (.region [oM 9 0,oM 10 1,oI 11 (.slice 1 (.t 9) none (some (.t 10)) none),oM 4 11] none [4]) .ret) .skip)) (.seq (.region [oM 12 0,oM 4 12] none [4]) .ret)))
def Zmu:Zae:=⟨[(.tmp 4)],Zg5⟩
theorem ZBN:FC 20=some Zmu:=by kernel_rfl
theorem Zv7:Zmu.body=Zg5:=rfl
theorem ZwO:Zmu.res=[(.tmp 4)]:=rfl
def Zq6:Ze:=(.seq (.region [oI 2 (.mov (.c (.lst true [])))] none [0]) (.seq (.region [oM 4 0,oI 5 (.len (.t 4)),oI 6 (.bin .add (.t 5) (.c (.int .i64 2))),oI 7 (.mkslice 1 1 (.int .u8 0) (.c (.int .i64 0)) (.t 6)),oM 3 7] none [3,0]) (.seq (.region [oM 8 3,oM 9 0,oI 10 (.app 1 1 (.int .u8 0) (.t 8) (.t 9)),oM 3 10] none [3,0]) (.seq (.region [oM 11 3,oI 12 (.bslice false 1 2 (.int .u8 0) [(0,(.c (.int .u8 165))),(1,(.c (.int .u8 90)))]),oI 13 (.app 1 1 (.int .u8 0) (.t 11) (.t 12)),oM 3 13] none [3,0]) (.seq (.region [oM 14 3,oM 15 0,oI 16 (.len (.t 15)),oI 17 (.slice 1 (.t 14) none (some (.t 16)) none),oM 2 17] none [2]) .ret)))))
def ZlS:Zae:=⟨[(.tmp 2)],Zq6⟩
theorem ZBS:FC 8=some ZlS:=by kernel_rfl
theorem Zxu:ZlS.body=Zq6:=rfl
theorem Zzh:ZlS.res=[(.tmp 2)]:=rfl
def Zo0:Ze:=(.seq (.region [oI 4 (.mov (.c (.bool false)))] none [1,0]) (.seq (.region [oM 5 0,oI 6 (.b2s (.t 5)),oM 7 1,oI 8 (.b2s (.t 7)),oI 9 (.bin .eql (.t 6) (.t 8)),oM 4 9] none [4]) .ret))
def ZrX:Zae:=⟨[(.tmp 4)],Zo0⟩
theorem ZAV:FC 24=some ZrX:=by kernel_rfl
theorem ZCh:ZrX.body=Zo0:=rfl
theorem Zy0:ZrX.res=[(.tmp 4)]:=rfl
def Zrr:Ze:=(.seq (.region [oI 2 (.mov (.c (.lst true [])))] none [0]) (.seq (.region [oI 3 (.mov (.c (.lst true [])))] none [3,0]) (.seq (.region [oM 4 3,oM 5 0,oI 6 (.app 1 1 (.int .u8 0) (.t 4) (.t 5)),oM 2 6] none [2]) .ret)))
def Zl3:Zae:=⟨[(.tmp 2)],Zrr⟩
theorem Zzn:FC 29=some Zl3:=by kernel_rfl
theorem ZCi:Zl3.body=Zrr:=rfl
theorem ZB8:Zl3.res=[(.tmp 2)]:=rfl
def Zhn:Ze:=(.seq (.region [oI 6 (.mov (.c (.int .i64 0)))] none [2,1,0]) (.seq (.region [oM 8 2,oM 9 1,oI 10 (.bin .sub (.t 8) (.t 9)),oI 11 (.bin .add (.t 10) (.c (.int .i64 1))),oM 7 11] none [7,1,0]) (.seq (.region [oM 12 0,oM 13 7,oI 14 (.bin .rem (.t 12) (.t 13)),oM 0 14] none [7,1,0]) (.seq (.seq (.region [oM 15 0,oI 16 (.bin .lss (.t 15) (.c (.int .i64 0)))] none [16,7,1,0]) (.cond (.t 16) (.region [oM 17 0,oM 18 7,oI 19 (.bin .add (.t 17) (.t 18)),oM 0 19] none [1,0]) .skip)) (.seq (.region [oM 20 1,oM 21 0,oI 22 (.bin .add (.t 20) (.t 21)),oM 6 22] none [6]) .ret)))))
def ZjW:Zae:=⟨[(.tmp 6)],Zhn⟩
theorem Zwb:FC 6=some ZjW:=by kernel_rfl
theorem ZtZ:ZjW.body=Zhn:=rfl
theorem ZuY:ZjW.res=[(.tmp 6)]:=rfl
end
section
def ZbJ (b:ZV):List AVal:=b.map Zb++[.int .u8 165,.int .u8 90]
theorem ZxO (b:ZV) (hb:b.length<=140737488355326):E 8 [Zk b] []=some (.sl 0 0 0 b.length,[.row 0 1 (ZbJ b)]):=by
 obtain ⟨n2,hn⟩:∃ n2,n2=b.length+2:=⟨_,rfl⟩
 have w1:IntKind.i64.wrap ((b.length:Int)+2)=((n2:Nat):Int):=by rw [ZcI (by omega) (by omega)];omega
 have m1:(0:Int)<=((n2:Nat):Int):=by omega
 have m2:((n2:Nat):Int)<=9223372036854775807:=by omega
 have m3:((1:Nat):Int)*((n2:Nat):Int)<=140737488355328:=by omega
 have r2:b.length<=n2:=by omega
 have r3:b.length*1<=140737488355328:=by omega
 have r4:(0=n2)=False:=by simp;omega
 have k1:=Zgn b
 have k2:kOk 1 [AVal.int .u8 165,.int .u8 90]=true:=rfl
 have hD:(List.replicate n2 (AVal.int .u8 0)).drop b.length=[.int .u8 0,.int .u8 0]:=by simp [List.drop_replicate,hn]
 have L1:(b.map Zb++[AVal.int .u8 0,.int .u8 0]).length=n2:=by simp;omega
 have L1':b.length+1+1=n2:=by omega
 have L2:(b.length=n2)=False:=by simp;omega
 have L3:(b.map Zb++[AVal.int .u8 0,.int .u8 0]).take b.length=b.map Zb:=by rw [WI (by simp)];simp [XQ]
 have L4:(b.map Zb++[AVal.int .u8 0,.int .u8 0]).drop n2=[]:=List.drop_eq_nil_of_le (by simp;omega)
 have L5:n2*1<=140737488355328:=by omega
 have L6:(b.map Zb++[AVal.int .u8 165,.int .u8 90]).length=n2:=by simp;omega
 have L7:(b.length:Int)<=((n2:Nat):Int):=by omega
 have L8:(0:Int)<=(b.length:Int):=by omega
 have L9:n2<=n2:=X5 _
 clear hn
 rw [Zar (by rfl) ZBS]
 unfold ZbJ
 simp -implicitDefEqProofs only [EQA,Zx,ZA,Zv,Zw,Zz,Zy,ZJ,ZN,ZP,ZM,ZL,ZO,ZI,ZK,ZQ,implies_true,forall_const,Xh,Xj,Xm,Xe,Xf,Xk,Xl,ZE,ZG,unA,Zt,ZC,unG,reduceCtorEq,Zj,decide_eq_true_eq,Xg,Xc,ite_self,↓reduceIte,Zu,ZF,gcT,gcA,Zn,Zg,Zf,Zh,Zo,Zd,Zm,Zi,Zp,Xd,Zxu,Zq6,Zzh,Zl,Zk,Zr,Zc,Zs,ZH,w1,m1,m2,m3,r2,r3,r4,hD,k1,k2,L1,L1',L2,L3,L4,L5,L6,L7,L8,L9,Int.le_refl,W5,WX,Xa6,AVal.cells,ZbR,ZaT,ZcH,Zav,viewAs,Zaw,Zaj,ZB,List.append_assoc,Xy,List.length_replicate,Zjs]
theorem ZBB (a b:ZV):E 24 [Zk a,Zk b] []=some (.bool (a == b),[]):=by
 rw [Zar (by rfl) ZAV]
 simp -implicitDefEqProofs only [EQA,Zx,ZA,Zv,Zw,Zz,Zy,ZJ,ZN,ZP,ZM,ZL,ZO,ZI,ZK,ZQ,implies_true,forall_const,Xh,Xj,Xm,Xe,Xf,Xk,Xl,ZE,ZG,unA,Zt,ZC,unG,reduceCtorEq,Zj,decide_eq_true_eq,Xg,Xc,ite_self,↓reduceIte,Zu,ZF,gcT,gcA,Zn,Zg,Zf,Zh,Zo,Zd,Zm,Zi,Zp,Xd,ZCh,Zo0,Zy0,Zl,Zk,Zr,Zc,Zs,ZH,Zl]
theorem ZoJ (σ:Za) (sq own:Nat) (a b:ZV) (t:Nat) (X:List AVal) (hs:σ[t]?=some (.row 0 1 (a.map Zb++X))):ZS E BY σ sq 24 own true [.sl t 0 0 a.length,.lst false (b.map Zb)]=some (.bool (a == b),σ,{ rd:=[t] }):=by
 refine Zf2 (vs:=[Zk a,Zk b]) (by kernel_rfl) ?_ rfl rfl (ZBB a b) rfl rfl sq own
 have h1:0+a.length<=(a.map Zb++X).length:=by simp
 have h2:(a.map Zb++X).take a.length=a.map Zb:=by rw [WI (by simp)];simp [XQ]
 simp only [showAs,showA,ZbE,Zj,hs,h1,and_self,if_true,W4,h2,Zk]
 rfl
theorem ZBz (k:Nat) (b:Bool) (xs:List AVal) (σ:Za):ZaP 1 (.row 0 k xs::σ) (.bool b)=some (.bool b,[.row 0 k xs]):=by
 simp [ZaP,gcA,Zn,Zg,ZX,Z3,Zf,Zh,Zo,Zd,Zm,ZU,Zq,Zi,Zp]
theorem ZuP (N:Nat) (hN:N<=9223372036854775807):∀ (m i:Nat) (X:List AVal),i+m=N->(∀ j,j < N->∃ b:UInt8,X[j]?=some (Zb b))->N<=X.length ->
  ∃ X',ZiY 1 [(6,.int .i64 i),(0,.sl 0 0 0 N)] [.row 0 1 X]=some (.bool true,[.row 0 1 X'])
 | 0,i,X,h,_,_=>by
  have h1:¬(i:Int) < (N:Int):=by omega
  refine ⟨X,?_⟩
  unfold ZiY
  rw [Zan]
  simp -implicitDefEqProofs only [EQA,Zx,ZA,Zv,Zw,Zz,Zy,ZJ,ZN,ZP,ZM,ZL,ZO,ZI,ZK,ZQ,implies_true,forall_const,Xh,Xj,Xm,Xe,Xf,Xk,Xl,ZE,ZG,unA,Zt,ZC,unG,reduceCtorEq,Zj,decide_eq_true_eq,Xg,Xc,ite_self,↓reduceIte,Zu,ZF,gcT,gcA,Zn,Zg,Zf,Zh,Zo,Zd,Zm,Zi,Zp,Xd,Zqf,ZgT,ZrH,ZkS,Zgm,Zjx,ZfZ,Zl,Zk,Zr,Zc,Zs,ZH,h1,ZBz]
 | m+1,i,X,h,hb,hX=>by
  have h1:(i:Int) < (N:Int):=by omega
  have h2:i < N:=by omega
  have i0:(0:Int)<=(i:Int):=by omega
  have hw:=Zcu h1 hN
  obtain ⟨b,hg⟩:=hb i h2
  obtain ⟨X',ih⟩:=ZuP N hN m (i+1) (X.set i (.int .u8 (IntKind.u8.wrap ((b.toNat:Int)+77)))) (by omega) (fun j hj=>by
   by_cases e:i=j
   ·subst e
    refine ⟨UInt8.ofNat (IntKind.u8.wrap ((b.toNat:Int)+77)).toNat,?_⟩
    rw [List.getElem?_set_self (by omega)]
    simp only [Zb,IntKind.wrap_u8]
    rw [UInt8.toNat_ofNat']
    congr 2
    have:=Int.emod_nonneg ((b.toNat:Int)+77) (show (256:Int)≠0 by decide)
    have:=Int.emod_lt_of_pos ((b.toNat:Int)+77) (show (0:Int) < 256 by decide)
    omega
   ·rw [Wz e];exact hb j hj) (by simpa using hX)
  refine ⟨X',?_⟩
  unfold Zb at hg
  unfold ZiY at ih ⊢
  rw [Zan]
  simp -implicitDefEqProofs only [EQA,Zx,ZA,Zv,Zw,Zz,Zy,ZJ,ZN,ZP,ZM,ZL,ZO,ZI,ZK,ZQ,implies_true,forall_const,Xh,Xj,Xm,Xe,Xf,Xk,Xl,ZE,ZG,unA,Zt,ZC,unG,reduceCtorEq,Zj,decide_eq_true_eq,Xg,Xc,ite_self,↓reduceIte,Zu,ZF,gcT,gcA,Zn,Zg,Zf,Zh,Zo,Zd,Zm,Zi,Zp,Xd,Zqf,ZgT,ZrH,ZkS,Zgm,Zjx,ZfZ,Zl,Zk,Zr,Zc,Zs,ZH,h1,h2,i0,hw,hg,Zbf,WX,AVal.cells,ZaH,Zaj,Zco,ZB]
  exact ih
theorem ZAl (b:ZV) (hb:b.length<=140737488355326):∃ X',E 10 [.sl 0 0 0 b.length,Zk b] [.row 0 1 (ZbJ b)]=some (.bool true,[.row 0 1 X']):=by
 obtain ⟨n2,hn⟩:∃ n2,n2=b.length+2:=⟨_,rfl⟩
 obtain ⟨X',key⟩:=ZuP b.length (by omega) b.length 0 (ZbJ b) (by omega) (fun j hj=>by
  unfold ZbJ
  rw [List.getElem?_append_left (by simpa using hj)]
  exact ⟨b[j],by simp [hj]⟩) (by simp [ZbJ])
 refine ⟨X',?_⟩
 have w1:IntKind.i64.wrap ((b.length:Int)+2)=((n2:Nat):Int):=by rw [ZcI (by omega) (by omega)];omega
 have w2:IntKind.i64.wrap ((b.length:Int)+1)=((b.length+1:Nat):Int):=by rw [ZcI (by omega) (by omega)];rfl
 have hS:∀ (σ:Za) (sq own:Nat),σ[0]?=some (.row 0 1 (b.map Zb++[AVal.int .u8 165,.int .u8 90]))->_:=fun σ sq own h=>ZoJ σ sq own b b 0 [.int .u8 165,.int .u8 90] h
 have e0:(b == b)=true:=by simp
 have L6:(ZbJ b).length=n2:=by unfold ZbJ;simp;omega
 have L7:(0:Int)<=((n2:Nat):Int):=by omega
 have L8:((n2:Nat):Int)<=((n2:Nat):Int):=by omega
 have L9:b.length < n2:=by omega
 have L10:b.length+1 < n2:=by omega
 have L11:(0:Int)<=(b.length:Int):=by omega
 have L12:(0:Int)<=((b.length+1:Nat):Int):=by omega
 have L13:b.length<=n2:=by omega
 have g1:(ZbJ b)[b.length]?=some (.int .u8 165):=by unfold ZbJ;rw [Wp (by simp)];simp
 have g2:(ZbJ b)[b.length+1]?=some (.int .u8 90):=by unfold ZbJ;rw [Wp (by simp)];simp
 have n1:((165:Int) != 165)=false:=rfl
 have n3:((90:Int) != 90)=false:=rfl
 clear hn
 rw [show b.map Zb++[AVal.int .u8 165,.int .u8 90]=ZbJ b from rfl,e0] at hS
 unfold Zk
 have z0:((0:Nat):Int)=0:=rfl
 rw [z0] at key
 generalize ZbJ b=X at *
 unfold ZiY at key
 rw [Zar (by rfl) ZA1]
 simp -implicitDefEqProofs only [EQA,Zx,ZA,Zv,Zw,Zz,Zy,ZJ,ZN,ZP,ZM,ZL,ZO,ZI,ZK,ZQ,implies_true,forall_const,Xh,Xj,Xm,Xe,Xf,Xk,Xl,ZE,ZG,unA,Zt,ZC,unG,reduceCtorEq,Zj,decide_eq_true_eq,Xg,Xc,ite_self,↓reduceIte,Zu,ZF,gcT,gcA,Zn,Zg,Zf,Zh,Zo,Zd,Zm,Zi,Zp,Xd,Zqf,ZgT,ZrH,ZkS,Zgm,Zjx,ZfZ,Zl,Zk,Zr,Zc,Zs,ZH,hS,w1,w2,L6,L7,L8,L9,L10,L11,L12,L13,g1,g2,n1,n3,WX,Xa6,AVal.cells,ZbR,Zbf,ZaT,ZcH]
 exact key
end
section
theorem ZfT {O:ZW} {bf:Nat->Bool} {σ:Za} {sq f own:Nat} {view:Bool} {args vs vs':List AVal} {ids:List Nat} {h0 h:Za} {r0 r:AVal} (hb:bf f=false) (hsh:showAs σ args=some (vs,[])) (hre:Zg σ 1000 (ZX vs) []=ids) (hne:ids.isEmpty=false)
  (hall:(ids.all fun t=>okB (σ.getD t .free))=true) (hvs:ZU (Zf σ 0 ids) vs=vs') (hh:Zh σ 0 ids (Zf σ 0 ids) ids 0=h0) {hh0:Za} (hO:O f vs' h0=some (r0,hh0)) (hv:Zai view ids.length (some (r0,hh0))=some (r,h))
  (hl1:h.length<=ids.length+own) (hl2:ids.length<=h.length) (hk:Zbm σ ids h 0=true) (hff:Zbq σ sq own=true) {r':AVal} (hr:Zq (ZaQ σ ids sq) r=r') {σ':Za} (hlay:Za6 σ ids sq h 0 σ=σ') {u:List (Nat×List AVal)} (hu:ZbA σ' ids=u) :
  ZS O bf σ sq f own view args=some (r',σ',{ any:=true,upd:=u }):=by
 subst hr hlay hu
 unfold ZS ZbS
 rw [hb]
 simp only [Xt,if_false,hsh,show ZB σ []=σ from rfl,hre]
 unfold Zbr
 rw [if_pos hall,hvs,hh,hO,hv]
 simp only [Zak,hne,WM,Xt,if_false,hl1,hl2,decide_true,hk,hff,Wu,if_true]
theorem Zv9 {O:ZW} {bf:Nat->Bool} {σ:Za} {t sq f own k:Nat} {view:Bool} {args args' xs xs':List AVal} {r:AVal} {b':Z1} (hs:σ[t]?=some (.row 0 k xs)) (hb:bf f=true) (hff:Zbq σ sq own=true)
  (href:ZX args=[t]) (hren:∀ ρ:Rho,ρ t 0=some (0,0)->ZU ρ args=args') (hr:∀ ρ:Rho,Zq ρ r=r) (hb':b'=.row 0 k xs'\/b'=.frow 0 k xs')
  (h:Zai view 1 (O f args' [.row 0 k xs])=some (r,[b'])):ZS O bf σ sq f own view args=some (r,σ.set t b',{ any:=true }):=by
 have hd:σ.getD t .free=.row 0 k xs:=by simp [Xq,hs]
 have hf0:ZB σ []=σ:=rfl
 unfold ZS ZbS
 rw [hb]
 simp only [if_true,hf0,href]
 have hreach:Zg σ 1000 [t] []=[t]:=by
  simp only [Zg,Xas,Xt,if_false,hd,Zp,X7]
 rw [hreach]
 unfold Zbr
 have hall:([t].all fun t=>okB (σ.getD t .free))=true:=by simp [Xs,Xu,hs,okB]
 rw [if_pos hall]
 have hρ:Zf σ 0 [t] t 0=some (0,0):=by simp [Zf,Zo,hs,Zd,Zm]
 have hheap:Zh σ 0 [t] (Zf σ 0 [t]) [t] 0=[.row 0 k xs]:=by
  simp only [Zh,hd,Zm,Zd,Zi,Nat.not_lt_zero,false_and,if_false]
 rw [hren _ hρ,hheap]
 simp only [Xw,Xx,XC]
 rw [h]
 have hk:Zbm σ [t] [b'] 0=true:=by
  rcases hb' with rfl | rfl <;> simp [Zbm,okB,hs,Zel,Zd]
 have hren':∀ ρ,Zi ρ (Zbx σ [t] 0 b') b'=b':=by
  intro ρ
  rcases hb' with rfl | rfl <;> simp [Zbx,hs,Zd,Zi]
 simp only [Zak,Xab,WM,Xt,if_false,Xw,Xx,XC,Nat.le_add_right,X5,decide_true,hk,hff,Wu,if_true,Za6,ZbA,ZaI,Xi,hr,hren']
 have htl:t < σ.length:=(Xo.1 hs).1
 have hg:(σ.set t b')[t]?=some b':=by simp [htl]
 simp only [List.flatMap_cons,List.flatMap_nil,X0,hg]
 rcases hb' with rfl | rfl <;> rfl
end
section
theorem ZuI (l:ZV):(l.map Zb).all ZaM=true:=by
 rw [List.all_eq_true]
 intro x hx
 obtain ⟨b,_,rfl⟩:=List.mem_map.1 hx
 rfl
theorem Zyu (σ:Za) (sq t:Nat) (l:ZV) (X:List AVal) (h:l.length<=140737488355328) (hs:σ[t]?=some (.row 0 1 (l.map Zb++X))):ZS E BY σ sq 21 1 false [.sl t 0 0 l.length]=some (.sl sq 0 0 l.length,σ.set sq (.row 0 1 (l.map Zb)),{ rd:=[t] }):=by
 have h1:0+l.length<=(l.map Zb++X).length:=by simp
 have h2:(l.map Zb++X).take l.length=l.map Zb:=by rw [WI (by simp)];simp [XQ]
 have hsh:showAs σ [.sl t 0 0 l.length]=some ([.lst false (l.map Zb)],[t]):=by
  simp only [showAs,showA,ZbE,Zj,hs,h1,and_self,if_true,W4,h2]
  rfl
 have hb:BY 21=false:=by kernel_rfl
 unfold ZS ZbS
 rw [hb]
 simp only [Xt,if_false,hsh]
 have h0:Zg (ZB σ [t]) 1000 (ZX [.lst false (l.map Zb)]) []=[]:=rfl
 rw [h0]
 unfold Zbr
 simp only [Xu,if_true,Zh,Xx,ZU,Zq,Zai,Xt,if_false]
 rw [ZvU l h]
 have hf:=ZuI l
 simp only [Zak,WA,Xab,Xa1,Xt,if_false,if_true,Zdw,hf,decide_true,Wu,XH]
end
section
theorem ZxH (a b:ZZ):E 36 [Zc a,Zc b] []=some (.bool (a.id == b.id && a.num == b.num && a.text == b.text && a.pair == b.pair && a.data == b.data),[]):=by
 rw [Zar (by rfl) ZAr]
 simp -implicitDefEqProofs only [EQA,Zx,ZA,Zv,Zw,Zz,Zy,ZJ,ZN,ZP,ZM,ZL,ZO,ZI,ZK,ZQ,implies_true,forall_const,Xh,Xj,Xm,Xe,Xf,Xk,Xl,ZE,ZG,unA,Zt,ZC,unG,reduceCtorEq,Zj,decide_eq_true_eq,Xg,Xc,ite_self,↓reduceIte,Zu,ZF,gcT,gcA,Zn,Zg,Zf,Zh,Zo,Zd,Zm,Zi,Zp,Xd,ZyH,Zs9,ZAc,Zl,Zk,Zr,Zc,Zs,ZH,ZH]
theorem ZAb (a b:ZZ):(a.id == b.id && a.num == b.num && a.text == b.text && a.pair == b.pair && a.data == b.data)=(a == b):=by
 obtain ⟨i,n,t,p,d⟩:=a
 obtain ⟨i',n',t',p',d'⟩:=b
 rw [Bool.eq_iff_iff]
 simp [and_assoc]
theorem Zyx (a:ZZ):Zam (Zc a)=true:=by
 simp -implicitDefEqProofs only [EQA,implies_true,forall_const,Zsn,ZsK,Zng,Zrx,Zi9,Ztf,Zs2,ZoR,Zhe,ZgG,Zj2,ZgH,Zro,Zr1,Zrz,Xv,XK,Xw,Xx,List.replicate_zero,XaE,X0,X7,Wf,XM,XX,XaG,XaH,X9,XC,Xh,Xj,Xm,Xe,Xf,Xk,Xl,WN,XaP,XaL,Xa3,XaO,XaD,Wu,Xa1,WM,if_true,if_false,ite_true,ite_false,XW,XaW,and_self,and_true,true_and,and_false,false_and,true_or,or_true,false_or,or_false,not_true_eq_false,not_false_eq_true,W4,Xae,Xaf,XaM,Xs,Xu,ZE,ZG,unA,ZnL,Zk2,Zp1,Znz,Zj6,ZrA,ZpI,Zkq,ZkL,ZsF,ZmN,ZnW,Zsv,ZkZ,Zt,ZC,unG,reduceCtorEq,Zj,ZH,decide_eq_true_eq,Xg,Xc,Zm8,Ztc,Zr6,Zrw,Zme,ZpU,ZmK,ZsO,Zo5,ZnT,ZlP,ZnF,Zj9,Zaa,Zip,ZfU,Zlr,ZsC,Zmn,ZjT,Zqj,Zpr,Zoi,ZgU,Zm0,Zl4,Zjp,Zkx,Zom,ZjI,Zon,Zj5,ZrT,Zqz,Zmw,Zqw,ZjK,ZnD,Zqt,ZqA,WA,Xac,W0,XH,Bool.bne_false,Bool.bne_true,ZJ,ZN,ZP,ZM,Z8,Z9,Zac,Zab,Z7,Z6,Xab,Xi,Xn,List.getD_nil,ZL,ZjR,ZrB,Zst,Zpa,Zsp,ZpH,Zmc,Zi6,ZO,ZI,ZK,ZQ,ite_self,ZiW,Zo6,ZqS,Zkh,ZoD,ZmZ,Zmx,ZmF,ZpE,ZmH,Zpk,ZnM,ZrW,Zm2,ZmV,Zlc,Zp2,Zk9,Zlt,Zi8,ZqP,ZsG,Znu,Zlm,Zq7,ZlO,Zk6,ZpT,Zql,ZpL,Zpq,ZqQ,ZoH,ZsW,Zra,Zk4,Zn1,Zqc,ZqO,ZoY,Zjj,Zsk,ZpB,Zog,Zsc,Zqq,ZkA,Zrt,Znr,Zkl,Zk8,ZqF,Znn,Zoe,Zrf,Zq8,Zma,Zkm,ZlN,Zjh,Zk0,ZlB,Zpy,Zr8,Zsx,Znj,Zs3,Zsq,ZqM,ZkH,ZsZ,ZlE,Zse,ZlD,Zps,Zlu,ZoC,ZsU,Zn0,ZrI,ZnU,ZsP,Znp,ZjY,Zqm,ZrG,Zoj,ZmP,ZnK,ZjP,Zq3,Zq9,Zli,Zqp,Znf,Zsy,Ztj,ZoM,Zsd,ZqX,Zjy,ZoV,ZnC,Zof,Zko,Zjc,Zj1,ZmU,ZjN,ZkJ,Zrc,Zjn,Ztu,Ztd,ZjX,Ztm,ZsM,ZkK,ZmJ,ZsS,ZkF,Zs1,ZmA,ZkW,ZkQ,ZqD,Znh,Zkj,ZoW,ZlF,ZjZ,Zrd,Zkw,Zmk,ZrL,Zsl,Znc,ZmM,ZsL,Zp3,Zln,Zjg,Zm1,ZjB,ZjV,Zoa,Zmb,Zmh,Zmo,ZnY,Zsj,Zmv,Zll,ZnA,ZjA,Zly,Zsi,Zod,ZoO,Zla,Znq,Zk5,ZrV,Zk7,Zpc,ZkU,ZrS,ZmO,Zld,Zrp,Zth,Zjo,Znw,ZqI,ZsB,Zpj,Zrk,ZoX,Zje,ZrP,Zs8,ZnH,Zrh,ZlA,Zrv,Zml,Zj0,Zno,Zrg,Zki,Zjq,Zmi,ZsH,ZkY,Zsr,Zn9,Zrm,Zkv,Znk,Zlb,Znm,Zpn,Zpb,Zsu,ZpC,Zo4,ZqH,ZrO,Zmy,Zkp,Zoh,Zku,Ztw,Zq0,ZpF,Zj4,ZmT,Zqx,Zpd,ZkB,Zmr,Zoo,ZlZ,Zsb,ZkO,Ztb,Zqu,ZmS,Zr3,ZpK,ZpS,ZpA,Znx,Zn4,Zp9,Zmq,ZmI,ZlC,ZjM,ZsN,ZkV,ZkX,Ztt,ZoF,ZpP,ZpD,Zjm,Zs7,Zr9,ZqJ,Zmp,Zj7,Zq4,ZpM,ZoP,Zlg,Zpz,Zmt,Zso,Zp5,Zrl,Zqi,Zms,Zkb,Zlf,ZsX,Zs5,Zry,ZlG,ZkR,Zn8,ZsE,Zkt,ZqZ,Zok,ZsQ,Zo9,Zlj,ZqC,Znb,ZrU,Zqy,Zpg,Zto,Zpp,Zp6,ZqL,ZmY,Zm7,ZrM,Zou,Zsz,Zqv,ZoQ,Zky,ZoU,ZnJ,Zn7,ZrY,ZnV,ZqV,Zqo,ZqU,Zjt,Zsw,ZlQ,Zl5,Zpw,ZlY,Zmm,Zo8,Zol,ZmQ,Zqr,Zoc,Zl6,Zle,ZnO,ZnI,Zsf,Zox,Zrq,Ztx,ZrF,Zm9,ZlR,Zj8,Zos,Zlp,ZpR,Zjr,Zkd,Zlz,ZnB,Zl9,Zp8,ZlW,ZjH,ZjC,Zob,Zor,Zke,ZpV,Zpl,ZqG,ZjS,ZrD,Znd,Zoz,Zqd,Zr7,Zsh,Zlk,ZnE,ZsD,Zne,Zkn,ZoN,ZpZ,Zka,ZsV,Zn3,Zs0,ZsJ,Zn5,Zqb,Zs6,Zni,Zks,Zlh,ZnZ,Zpe,Zrb,Zjl,ZsA,Zmg,ZjF,Ztq,ZlT,ZrE,ZpW,Zna,Zp0,Zjz,Zjw,Zlv,ZpJ,ZlV,Zi7,Zkz,Zls,Zta,Zti,Zqk,Zm5,Zkk,ZsY,Zsg,ZjG,Zmz,ZqB,ZpY,ZlJ,Zoq,ZrK,Zn2,ZoG,ZnN,ZpQ,Zlo,ZmG,ZnG,Zr4,Zi5,Zl7,ZlX,Zov,Ztv,Zr0,ZnQ,↓reduceIte,ZrN,Zu,ZF,Zc,Zs,Zk]
theorem ZAC (a:ZZ):Zag (Zc a)=Zc a:=by
 simp -implicitDefEqProofs only [EQA,implies_true,forall_const,Zsn,ZsK,Zng,Zrx,Zi9,Ztf,Zs2,ZoR,Zhe,ZgG,Zj2,ZgH,Zro,Zr1,Zrz,Xv,XK,Xw,Xx,List.replicate_zero,XaE,X0,X7,Wf,XM,XX,XaG,XaH,X9,XC,Xh,Xj,Xm,Xe,Xf,Xk,Xl,WN,XaP,XaL,Xa3,XaO,XaD,Wu,Xa1,WM,if_true,if_false,ite_true,ite_false,XW,XaW,and_self,and_true,true_and,and_false,false_and,true_or,or_true,false_or,or_false,not_true_eq_false,not_false_eq_true,W4,Xae,Xaf,XaM,Xs,Xu,ZE,ZG,unA,ZnL,Zk2,Zp1,Znz,Zj6,ZrA,ZpI,Zkq,ZkL,ZsF,ZmN,ZnW,Zsv,ZkZ,Zt,ZC,unG,reduceCtorEq,Zj,ZH,decide_eq_true_eq,Xg,Xc,Zm8,Ztc,Zr6,Zrw,Zme,ZpU,ZmK,ZsO,Zo5,ZnT,ZlP,ZnF,Zj9,Zaa,Zip,ZfU,Zlr,ZsC,Zmn,ZjT,Zqj,Zpr,Zoi,ZgU,Zm0,Zl4,Zjp,Zkx,Zom,ZjI,Zon,Zj5,ZrT,Zqz,Zmw,Zqw,ZjK,ZnD,Zqt,ZqA,WA,Xac,W0,XH,Bool.bne_false,Bool.bne_true,ZJ,ZN,ZP,ZM,Z8,Z9,Zac,Zab,Z7,Z6,Xab,Xi,Xn,List.getD_nil,ZL,ZjR,ZrB,Zst,Zpa,Zsp,ZpH,Zmc,Zi6,ZO,ZI,ZK,ZQ,ite_self,ZiW,Zo6,ZqS,Zkh,ZoD,ZmZ,Zmx,ZmF,ZpE,ZmH,Zpk,ZnM,ZrW,Zm2,ZmV,Zlc,Zp2,Zk9,Zlt,Zi8,ZqP,ZsG,Znu,Zlm,Zq7,ZlO,Zk6,ZpT,Zql,ZpL,Zpq,ZqQ,ZoH,ZsW,Zra,Zk4,Zn1,Zqc,ZqO,ZoY,Zjj,Zsk,ZpB,Zog,Zsc,Zqq,ZkA,Zrt,Znr,Zkl,Zk8,ZqF,Znn,Zoe,Zrf,Zq8,Zma,Zkm,ZlN,Zjh,Zk0,ZlB,Zpy,Zr8,Zsx,Znj,Zs3,Zsq,ZqM,ZkH,ZsZ,ZlE,Zse,ZlD,Zps,Zlu,ZoC,ZsU,Zn0,ZrI,ZnU,ZsP,Znp,ZjY,Zqm,ZrG,Zoj,ZmP,ZnK,ZjP,Zq3,Zq9,Zli,Zqp,Znf,Zsy,Ztj,ZoM,Zsd,ZqX,Zjy,ZoV,ZnC,Zof,Zko,Zjc,Zj1,ZmU,ZjN,ZkJ,Zrc,Zjn,Ztu,Ztd,ZjX,Ztm,ZsM,ZkK,ZmJ,ZsS,ZkF,Zs1,ZmA,ZkW,ZkQ,ZqD,Znh,Zkj,ZoW,ZlF,ZjZ,Zrd,Zkw,Zmk,ZrL,Zsl,Znc,ZmM,ZsL,Zp3,Zln,Zjg,Zm1,ZjB,ZjV,Zoa,Zmb,Zmh,Zmo,ZnY,Zsj,Zmv,Zll,ZnA,ZjA,Zly,Zsi,Zod,ZoO,Zla,Znq,Zk5,ZrV,Zk7,Zpc,ZkU,ZrS,ZmO,Zld,Zrp,Zth,Zjo,Znw,ZqI,ZsB,Zpj,Zrk,ZoX,Zje,ZrP,Zs8,ZnH,Zrh,ZlA,Zrv,Zml,Zj0,Zno,Zrg,Zki,Zjq,Zmi,ZsH,ZkY,Zsr,Zn9,Zrm,Zkv,Znk,Zlb,Znm,Zpn,Zpb,Zsu,ZpC,Zo4,ZqH,ZrO,Zmy,Zkp,Zoh,Zku,Ztw,Zq0,ZpF,Zj4,ZmT,Zqx,Zpd,ZkB,Zmr,Zoo,ZlZ,Zsb,ZkO,Ztb,Zqu,ZmS,Zr3,ZpK,ZpS,ZpA,Znx,Zn4,Zp9,Zmq,ZmI,ZlC,ZjM,ZsN,ZkV,ZkX,Ztt,ZoF,ZpP,ZpD,Zjm,Zs7,Zr9,ZqJ,Zmp,Zj7,Zq4,ZpM,ZoP,Zlg,Zpz,Zmt,Zso,Zp5,Zrl,Zqi,Zms,Zkb,Zlf,ZsX,Zs5,Zry,ZlG,ZkR,Zn8,ZsE,Zkt,ZqZ,Zok,ZsQ,Zo9,Zlj,ZqC,Znb,ZrU,Zqy,Zpg,Zto,Zpp,Zp6,ZqL,ZmY,Zm7,ZrM,Zou,Zsz,Zqv,ZoQ,Zky,ZoU,ZnJ,Zn7,ZrY,ZnV,ZqV,Zqo,ZqU,Zjt,Zsw,ZlQ,Zl5,Zpw,ZlY,Zmm,Zo8,Zol,ZmQ,Zqr,Zoc,Zl6,Zle,ZnO,ZnI,Zsf,Zox,Zrq,Ztx,ZrF,Zm9,ZlR,Zj8,Zos,Zlp,ZpR,Zjr,Zkd,Zlz,ZnB,Zl9,Zp8,ZlW,ZjH,ZjC,Zob,Zor,Zke,ZpV,Zpl,ZqG,ZjS,ZrD,Znd,Zoz,Zqd,Zr7,Zsh,Zlk,ZnE,ZsD,Zne,Zkn,ZoN,ZpZ,Zka,ZsV,Zn3,Zs0,ZsJ,Zn5,Zqb,Zs6,Zni,Zks,Zlh,ZnZ,Zpe,Zrb,Zjl,ZsA,Zmg,ZjF,Ztq,ZlT,ZrE,ZpW,Zna,Zp0,Zjz,Zjw,Zlv,ZpJ,ZlV,Zi7,Zkz,Zls,Zta,Zti,Zqk,Zm5,Zkk,ZsY,Zsg,ZjG,Zmz,ZqB,ZpY,ZlJ,Zoq,ZrK,Zn2,ZoG,ZnN,ZpQ,Zlo,ZmG,ZnG,Zr4,Zi5,Zl7,ZlX,Zov,Ztv,Zr0,ZnQ,↓reduceIte,ZrN,Zu,ZF,Zc,Zs,Zk]
theorem ZBb (σ:Za) (sq own:Nat) (view:Bool) (i n:Int) (t p d:ZV) (i' n':Int) (t' p' d':ZV):ZS E BY σ sq 36 own view [.agg [.int .i64 i,.int .i64 n,.str t,.str p,.lst false (d.map Zb)],.agg [.int .i64 i',.int .i64 n',.str t',.str p',.lst false (d'.map Zb)]]=some (.bool (i == i' && n == n' && t == t' && p == p' && d == d'),σ,{}) :=
 ZcJ (ZxH ⟨i,n,t,p,d⟩ ⟨i',n',t',p',d'⟩) (by kernel_rfl) (by simp only [Xs,Zyx];rfl) (by simp only [Xv,ZAC];rfl) rfl (fun _=>rfl) _ _ _ _
theorem Zwy (a b:List ZZ) (h:a.length=b.length) (hl:a.length<=9223372036854775807):∀ (r s:List ZZ) (i:Nat),a.drop i=r->b.drop i=s->ZiR 0 [(5,.int .i64 i),(1,Zr b),(0,Zr a)] []=some (.bool (r == s),[])
 | [],s,i,ha,hb=>by
  have hs:s=[]:=by
   subst hb;rw [XaC] at ha ⊢;omega
  subst hs
  have h1:=ZcM ha
  unfold ZiR
  rw [Zan]
  simp -implicitDefEqProofs only [EQA,Zx,ZA,Zv,Zw,Zz,Zy,ZJ,ZN,ZP,ZM,ZL,ZO,ZI,ZK,ZQ,implies_true,forall_const,Xh,Xj,Xm,Xe,Xf,Xk,Xl,ZE,ZG,unA,Zt,ZC,unG,reduceCtorEq,Zj,decide_eq_true_eq,Xg,Xc,ite_self,↓reduceIte,Zu,ZF,gcT,gcA,Zn,Zg,Zf,Zh,Zo,Zd,Zm,Zi,Zp,Xd,Zhc,Zfi,Ziv,ZhE,ZeV,Zh6,Zfa,Zl,Zk,Zr,Zc,Zs,ZH,h1]
 | x::r,[],i,ha,hb=>by
  have:=(Zaq ha).2.2;rw [XaC] at hb;omega
 | x::r,y::s,i,ha,hb=>by
  have ih:=Zwy a b h hl r s (i+1) (Zaq ha).2.1 (Zaq hb).2.1
  have h1:(i:Int) < a.length:=by have:=(Zaq ha).2.2;omega
  have e1:=iad (Zaq ha).1 Zc (k:=5) rfl
  have e2:=iad (Zaq hb).1 Zc (k:=5) rfl
  have e3:=Zcu h1 hl
  unfold ZiR at ih ⊢
  rw [Zan]
  simp -implicitDefEqProofs only [EQA,Zx,ZA,Zv,Zw,Zz,Zy,ZJ,ZN,ZP,ZM,ZL,ZO,ZI,ZK,ZQ,implies_true,forall_const,Xh,Xj,Xm,Xe,Xf,Xk,Xl,ZE,ZG,unA,Zt,ZC,unG,reduceCtorEq,Zj,decide_eq_true_eq,Xg,Xc,ite_self,↓reduceIte,Zu,ZF,gcT,gcA,Zn,Zg,Zf,Zh,Zo,Zd,Zm,Zi,Zp,Xd,Zhc,Zfi,Ziv,ZhE,ZeV,Zh6,Zfa,Zl,Zk,Zr,Zc,Zs,ZH,h1,e1,e2,e3,ZBb]
  simp only [Zr] at ih
  rw [ih,ZAb]
  by_cases hx:x=y <;> simp [hx]
theorem Zzr (a b:List ZZ) (hl:a.length<=9223372036854775807):E 25 [Zr a,Zr b] []=some (.bool (a == b),[]):=by
 rw [Zar (by rfl) ZxU]
 by_cases h:a.length=b.length
 ·have:=Zwy a b h hl a b 0 rfl rfl
  unfold ZiR at this
  simp only [Zr] at this
  have e:=Zzw h
  simp -implicitDefEqProofs only [EQA,Zx,ZA,Zv,Zw,Zz,Zy,ZJ,ZN,ZP,ZM,ZL,ZO,ZI,ZK,ZQ,implies_true,forall_const,Xh,Xj,Xm,Xe,Xf,Xk,Xl,ZE,ZG,unA,Zt,ZC,unG,reduceCtorEq,Zj,decide_eq_true_eq,Xg,Xc,ite_self,↓reduceIte,Zu,ZF,gcT,gcA,Zn,Zg,Zf,Zh,Zo,Zd,Zm,Zi,Zp,Xd,Zhc,Zfi,Ziv,ZhE,ZeV,Zh6,Zfa,Zl,Zk,Zr,Zc,Zs,ZH,e]
  exact this
 ·have e:=ZzD h
  simp -implicitDefEqProofs only [EQA,Zx,ZA,Zv,Zw,Zz,Zy,ZJ,ZN,ZP,ZM,ZL,ZO,ZI,ZK,ZQ,implies_true,forall_const,Xh,Xj,Xm,Xe,Xf,Xk,Xl,ZE,ZG,unA,Zt,ZC,unG,reduceCtorEq,Zj,decide_eq_true_eq,Xg,Xc,ite_self,↓reduceIte,Zu,ZF,gcT,gcA,Zn,Zg,Zf,Zh,Zo,Zd,Zm,Zi,Zp,Xd,Zhc,Zfi,Ziv,ZhE,ZeV,Zh6,Zfa,Zl,Zk,Zr,Zc,Zs,ZH,e,ZBP h]
theorem ZjE (σ:Za) (sq own:Nat) (view:Bool) (a b:List ZZ) (hl:a.length<=9223372036854775807):ZS E BY σ sq 25 own view [.lst false (a.map Zc),.lst false (b.map Zc)]=some (.bool (a == b),σ,{}) :=
 ZcJ (Zzr a b hl) (by kernel_rfl) (by simp -implicitDefEqProofs only [ZbM,ZbP,Zx,ZA,Zv,ZbH,Zw,Zz,ZbI,Zy,eq_self,implies_true,Xt,Zl,Zk,Zr,Zc,Zs,Zl]) (by simp -implicitDefEqProofs only [ZbM,ZbP,Zx,ZA,Zv,ZbH,Zw,Zz,ZbI,Zy,eq_self,implies_true,Xt,Zl,Zk,Zr,Zc,Zs,Zl]) rfl (fun _=>rfl) _ _ _ _
end
section
end
section
structure Zb4 where
 topic:ZV
 payload:ZV
 qos:Int
 retain:Bool
 sender:ZV
 expires:Int
 props:List ZZ
 origin:Int
 number:Int
 hops:Int
 deriving DecidableEq
structure Zbt where
 note:Zb4
 qos:Int
 retain:Bool
 ids:List Int
 share:ZV
 deriving DecidableEq
def Zdu (n:Zb4):List AVal:=[.str n.topic,Zk n.payload,.int .i64 n.qos,.bool n.retain,.str n.sender,.int .i64 n.expires,Zr n.props,.int .i64 n.origin,.int .i64 n.number,.int .i64 n.hops]
def ZbU (n:Zb4):AVal:=.agg (Zdu n)
def ZiV (n:Zbt):List AVal:=[.str n.note.topic,Zk n.note.payload,.int .i64 n.note.qos,.bool n.note.retain,.str n.note.sender,.int .i64 n.note.expires,Zr n.note.props,.int .i64 n.note.origin,.int .i64 n.note.number,.int .i64 n.note.hops,.int .i64 n.qos,.bool n.retain,Zl n.ids,.str n.share]
def ZdR (n:Zbt):AVal:=.agg (ZiV n)
def Zhr (a b:Zb4):Bool:=a.topic == b.topic && a.payload == b.payload && a.qos == b.qos && a.retain == b.retain && a.sender == b.sender && a.expires == b.expires && a.props == b.props && a.origin == b.origin && a.number == b.number && a.hops == b.hops
theorem ZCc (a b:Zb4) (hl:a.props.length<=9223372036854775807):E 11 [ZbU a,ZbU b] []=some (.bool (Zhr a b),[]):=by
 rw [Zar (by rfl) Zyq]
 simp -implicitDefEqProofs only [EQA,Zx,ZA,Zv,Zw,Zz,Zy,ZJ,ZN,ZP,ZM,ZL,ZO,ZI,ZK,ZQ,implies_true,forall_const,Xh,Xj,Xm,Xe,Xf,Xk,Xl,ZE,ZG,unA,Zt,ZC,unG,reduceCtorEq,Zj,decide_eq_true_eq,Xg,Xc,ite_self,↓reduceIte,Zu,ZF,gcT,gcA,Zn,Zg,Zf,Zh,Zo,Zd,Zm,Zi,Zp,Xd,Zyj,Zqh,ZBa,Zl,Zk,Zr,Zc,Zs,ZH,ZbU,Zdu,ZjE,hl,Zhr]
end
section
def ZbC (props:List ZZ) (now:Int):Int:=match Zc8 2 props with
 | none=>0
 | some x=>IntKind.i64.wrap (now+x.num)
def ofD (pl:ZV) (qos:Int) (rt:Bool) (props:List ZZ) (topic sender:ZV) (now:Int):Zb4:=⟨topic,pl,qos,rt,sender,ZbC props now,Zbj props,0,0,0⟩
theorem Zx5 (pl:ZV) (X:List AVal) (hpl:pl.length<=140737488355328) (qos:Int) (rt:Bool) (props:List ZZ) (hl:props.length*72<=140737488355328) (hd:∀ p ∈ props,p.data.length<=140737488355328) (topic sender:ZV) (now:Int) (c0 c1 c4 c5 c7 c8 c10 c11 c12 c13 c14 c15 c16 c17 c18 c19 c20 c21 c22 c23 c24 c25:AVal) :
  E 9 [.agg [c0,c1,.int .i64 qos,.bool rt,c4,c5,.sl 0 0 0 pl.length,c7,c8,.lst false (props.map Zc),c10,c11,c12,c13,c14,c15,c16,c17,c18,c19,c20,c21,c22,c23,c24,c25],.str topic,.str sender,.int .i64 now] [.row 0 1 (pl.map Zb++X)] =
   some (.agg [.str topic,.sl 1 0 0 pl.length,.int .i64 qos,.bool rt,.str sender,.int .i64 (ZbC props now),.lst false ((Zbj props).map Zc),.int .i64 0,.int .i64 0,.int .i64 0],[.row 0 1 (pl.map Zb++X),.row 0 1 (pl.map Zb)]):=by
 have hC:=fun σ sq=>Zyu σ sq 0 pl X hpl
 have hK:=fun σ sq own b=>Zxe σ sq own b props hl hd
 have hF:=fun σ sq own=>Zyb σ sq own props (by omega) hd 2
 generalize pl.map Zb++X=R at *
 generalize pl.map Zb=R2 at *
 rw [Zar (by rfl) Zzg]
 unfold ZbC
 cases h:Zc8 2 props with
 | none =>
  rw [h] at hF
  simp -implicitDefEqProofs only [EQA,Zx,ZA,Zv,Zw,Zz,Zy,ZJ,ZN,ZP,ZM,ZL,ZO,ZI,ZK,ZQ,implies_true,forall_const,Xh,Xj,Xm,Xe,Xf,Xk,Xl,ZE,ZG,unA,Zt,ZC,unG,reduceCtorEq,Zj,decide_eq_true_eq,Xg,Xc,ite_self,↓reduceIte,Zu,ZF,gcT,gcA,Zn,Zg,Zf,Zh,Zo,Zd,Zm,Zi,Zp,Xd,Zuc,ZhJ,Zwq,Zl,Zk,Zr,Zc,Zs,ZH,hC,hK,hF,Zd1,ZdH,Zaa,Z6,Z9,Z8,Zac,Zab,Z7,Xi,Xn,Zah,AVal.cells]
  simp [ZaP,gcA,Zn,Zg,ZX,Z3,Zf,Zh,Zo,Zd,Zm,ZU,Zq,Zi,Zp,Xd]
 | some x =>
  rw [h] at hF
  simp -implicitDefEqProofs only [EQA,Zx,ZA,Zv,Zw,Zz,Zy,ZJ,ZN,ZP,ZM,ZL,ZO,ZI,ZK,ZQ,implies_true,forall_const,Xh,Xj,Xm,Xe,Xf,Xk,Xl,ZE,ZG,unA,Zt,ZC,unG,reduceCtorEq,Zj,decide_eq_true_eq,Xg,Xc,ite_self,↓reduceIte,Zu,ZF,gcT,gcA,Zn,Zg,Zf,Zh,Zo,Zd,Zm,Zi,Zp,Xd,Zuc,ZhJ,Zwq,Zl,Zk,Zr,Zc,Zs,ZH,hC,hK,hF,Zd1,ZdH,Zaa,Z6,Z9,Z8,Zac,Zab,Z7,Xi,Xn,Zah,AVal.cells]
  simp [ZaP,gcA,Zn,Zg,ZX,Z3,Zf,Zh,Zo,Zd,Zm,ZU,Zq,Zi,Zp,Xd]
theorem ZzT (pl:ZV) (hpl:pl.length<=140737488355328) (qos:Int) (rt:Bool) (props:List ZZ) (hl:props.length*72<=140737488355328) (topic sender:ZV) (now:Int) (c0 c1 c4 c5 c7 c8 c10 c11 c12 c13 c14 c15 c16 c17 c18 c19 c20 c21 c22 c23 c24 c25:AVal) :
  E 12 [.agg [c0,c1,.int .i64 qos,.bool rt,c4,c5,.lst false (pl.map Zb),c7,c8,.lst false (props.map Zc),c10,c11,c12,c13,c14,c15,c16,c17,c18,c19,c20,c21,c22,c23,c24,c25],.str topic,.str sender,.int .i64 now] [] =
   some (.agg [.str topic,.sl 0 0 0 pl.length,.int .i64 qos,.bool rt,.str sender,.int .i64 (ZbC props now),.lst false ((Zbj props).map Zc),.int .i64 0,.int .i64 0,.int .i64 0],[.row 0 1 (pl.map Zb)]):=by
 have hK:=fun σ sq own b=>ZBp σ sq own b props hl
 have hF:=fun σ sq own=>ZBe σ sq own props (by omega) 2
 have k1:=Zgn pl
 have k2:pl.length*1<=140737488355328:=by omega
 rw [Zar (by rfl) ZyZ]
 unfold ZbC
 cases h:Zc8 2 props with
 | none =>
  rw [h] at hF
  simp -implicitDefEqProofs only [EQA,Zx,ZA,Zv,Zw,Zz,Zy,ZJ,ZN,ZP,ZM,ZL,ZO,ZI,ZK,ZQ,implies_true,forall_const,Xh,Xj,Xm,Xe,Xf,Xk,Xl,ZE,ZG,unA,Zt,ZC,unG,reduceCtorEq,Zj,decide_eq_true_eq,Xg,Xc,ite_self,↓reduceIte,Zu,ZF,gcT,gcA,Zn,Zg,Zf,Zh,Zo,Zd,Zm,Zi,Zp,Xd,ZwP,Zif,Zvn,Zl,Zk,Zr,Zc,Zs,ZH,hK,hF,k1,k2,Zav,viewAs,ZB,Zd1,ZdH,Zaa,Z6,Z9,Z8,Zac,Zab,Z7,Xi,Xn,Zah,AVal.cells]
  simp [ZaP,gcA,Zn,Zg,ZX,Z3,Zf,Zh,Zo,Zd,Zm,ZU,Zq,Zi,Zp,Xd]
 | some x =>
  rw [h] at hF
  simp -implicitDefEqProofs only [EQA,Zx,ZA,Zv,Zw,Zz,Zy,ZJ,ZN,ZP,ZM,ZL,ZO,ZI,ZK,ZQ,implies_true,forall_const,Xh,Xj,Xm,Xe,Xf,Xk,Xl,ZE,ZG,unA,Zt,ZC,unG,reduceCtorEq,Zj,decide_eq_true_eq,Xg,Xc,ite_self,↓reduceIte,Zu,ZF,gcT,gcA,Zn,Zg,Zf,Zh,Zo,Zd,Zm,Zi,Zp,Xd,ZwP,Zif,Zvn,Zl,Zk,Zr,Zc,Zs,ZH,hK,hF,k1,k2,Zav,viewAs,ZB,Zd1,ZdH,Zaa,Z6,Z9,Z8,Zac,Zab,Z7,Xi,Xn,Zah,AVal.cells]
  simp [ZaP,gcA,Zn,Zg,ZX,Z3,Zf,Zh,Zo,Zd,Zm,ZU,Zq,Zi,Zp,Xd]
theorem ZAR {t m:Nat} {σ:Za} {R:List AVal} (hs:σ[t]?=some (.row 0 1 R)) (hm:m<=t) (topic sender:ZV) (qos:Int) (rt:Bool) (e:Int) (ps:List AVal):viewR σ (.agg [.str topic,.sl t 0 0 R.length,.int .i64 qos,.bool rt,.str sender,.int .i64 e,.lst false ps,.int .i64 0,.int .i64 0,.int .i64 0])=some (.agg [.str topic,.lst false R,.int .i64 qos,.bool rt,.str sender,.int .i64 e,.lst false ps,.int .i64 0,.int .i64 0,.int .i64 0],[t]):=by
 simp [viewR,Zaw,ZaH,Zaj,Zj,hs]
end
section
structure ZjO where
 filter:ZV
 qos:Int
 noLocal:Bool
 asPublished:Bool
 handling:Int
 id:Int
 deriving DecidableEq
def Zb3 (s:ZjO):AVal:=.agg [.str s.filter,.int .i64 s.qos,.bool s.noLocal,.bool s.asPublished,.int .i64 s.handling,.int .i64 s.id]
structure Zxz where
 topic:ZV
 data:ZV
 qos:Int
 retain:Bool
 props:List ZZ
 deriving DecidableEq
structure Zb0 where
 type:Int
 dup:Bool
 qos:Int
 retain:Bool
 id:Int
 topic:ZV
 payload:ZV
 code:Int
 codes:List Int
 props:List ZZ
 subs:List ZjO
 filters:List ZV
 clean:Bool
 keep:Int
 client:ZV
 hasWill:Bool
 will:Zxz
 hasUser:Bool
 user:ZV
 hasPassword:Bool
 password:ZV
 present:Bool
 deriving DecidableEq
def Zuz (p:Zb0):AVal:=.agg [.int .i64 p.type,.bool p.dup,.int .i64 p.qos,.bool p.retain,.int .i64 p.id,.str p.topic,.lst false (p.payload.map Zb),.int .i64 p.code,.lst false (p.codes.map (AVal.int .i64)),.lst false (p.props.map Zc),.lst false (p.subs.map Zb3),.lst false (p.filters.map AVal.str),.bool p.clean,.int .i64 p.keep,.str p.client,.bool p.hasWill,.str p.will.topic,.lst false (p.will.data.map Zb),.int .i64 p.will.qos,.bool p.will.retain,.lst false (p.will.props.map Zc),.bool p.hasUser,.str p.user,.bool p.hasPassword,.lst false (p.password.map Zb),.bool p.present]
end
section
theorem Zul (l:List ZZ):kOk 5 (l.map Zc)=true:=by cases l <;> rfl
theorem Zxa (l:List ZZ) (h:l.length<=700000000):E 38 [.lst false (l.map Zc)] []=some (.sl 0 0 0 (l.map Zc).length,[.row 0 5 (l.map Zc)]):=by
 refine Zcy.2 ⟨1,?_⟩
 show ZcD 5 72 [.lst false (l.map Zc)] []=_
 have h1:(l.map Zc).length*72<=140737488355328/\kOk 5 (l.map Zc)=true:=⟨by simp;omega,Zul l⟩
 simp only [ZcD,Zj]
 rw [if_pos h1];rfl
def ZcG (n:Zb4) (a b:Nat):List AVal:=[.str n.topic,.sl a 0 0 n.payload.length,.int .i64 n.qos,.bool n.retain,.str n.sender,.int .i64 n.expires,.sl b 0 0 n.props.length,.int .i64 n.origin,.int .i64 n.number,.int .i64 n.hops]
def Zi4:List AVal:=[.str [],.lst true [],.int .i64 0,.bool false,.str [],.int .i64 0,.lst true [],.int .i64 0,.int .i64 0,.int .i64 0]
theorem ZtB (n:Zb4) (hl:n.props.length<=700000000) (hd:∀ p ∈ n.props,p.data.length<=140737488355328):∀ (r:List ZZ) (i:Nat),n.props.drop i=r ->
  ZiO 0 [(15,.int .i64 i),(14,.int .i64 n.props.length),(2,.ref 0 0),(1,.ref 1 0)] [.var Zi4,.var (ZcG n 2 3),.row 0 1 (n.payload.map Zb),.row 0 5 (n.props.map Zc)] =
  some (.agg (ZcG n 0 1),[.row 0 1 (n.payload.map Zb),.row 0 5 (n.props.map Zc)])
 | [],i,h=>by
  have h1:=ZcM h
  generalize n.payload.map Zb=L at *
  generalize n.props.map Zc=R at *
  unfold ZiO ZcG Zi4
  rw [Zan]
  simp -implicitDefEqProofs only [EQA,Zx,ZA,Zv,Zw,Zz,Zy,ZJ,ZN,ZP,ZM,ZL,ZO,ZI,ZK,ZQ,implies_true,forall_const,Xh,Xj,Xm,Xe,Xf,Xk,Xl,ZE,ZG,unA,Zt,ZC,unG,reduceCtorEq,Zj,decide_eq_true_eq,Xg,Xc,ite_self,↓reduceIte,Zu,ZF,gcT,gcA,Zn,Zg,Zf,Zh,Zo,Zd,Zm,Zi,Zp,Xd,Zqa,ZgN,Zts,Zo7,ZfV,ZoS,Zgh,Zl,Zk,Zr,Zc,Zs,ZH,h1,Zah,ZT,Xs,Xu,AVal.cells,Zaa,Z6,Za8,ZaO,XY,X4,Xs,Xu,Xw,Xx,Z9,Z8,Zac,Zab,Z7,Xi,Xn,Zap,Zaz,ZaE,ZaU,ZaW,ZaR,ZaY,Za0,ZaD,ZaZ,XL,XS]
  simp [ZaP,gcA,Zn,Zg,ZX,Z3,Zf,Zh,Zo,Zd,Zm,ZU,Zq,Zi,Zp,Xd]
 | p::r,i,h=>by
  have ih:=ZtB n hl hd r (i+1) (Zaq h).2.1
  have hp:=hd p (XF (Zaq h).1)
  have hC:=fun σ sq own=>Zux σ sq own p.data hp
  have h1:(i:Int) < n.props.length:=by have:=(Zaq h).2.2;omega
  have h2:i < n.props.length:=(Zaq h).2.2
  have h0:(0:Int)<=(i:Int):=by omega
  have hg:(n.props.map Zc)[i]?=some (.agg [.int .i64 p.id,.int .i64 p.num,.str p.text,.str p.pair,.lst false (p.data.map Zb)]):=by
   rw [List.getElem?_map,(Zaq h).1];rfl
  have hset:(n.props.map Zc).set i (.agg [.int .i64 p.id,.int .i64 p.num,.str p.text,.str p.pair,.lst false (p.data.map Zb)])=n.props.map Zc:=by
   apply List.ext_getElem?
   intro j
   rw [List.getElem?_set]
   by_cases e:i=j
   ·subst e;rw [if_pos rfl,if_pos (by simpa using h2),hg]
   ·simp [e]
  have hw:IntKind.i64.wrap ((i:Int)+1)=((i+1:Nat):Int):=by rw [ZcI (by omega) (by omega)];rfl
  have hn:((i:Nat):Int).toNat=i:=WX i
  generalize n.payload.map Zb=L at *
  generalize n.props.map Zc=R at *
  generalize p.data.map Zb=D at *
  unfold ZiO ZcG Zi4 at *
  rw [Zan]
  simp -implicitDefEqProofs only [EQA,Zx,ZA,Zv,Zw,Zz,Zy,ZJ,ZN,ZP,ZM,ZL,ZO,ZI,ZK,ZQ,implies_true,forall_const,Xh,Xj,Xm,Xe,Xf,Xk,Xl,ZE,ZG,unA,Zt,ZC,unG,reduceCtorEq,Zj,decide_eq_true_eq,Xg,Xc,ite_self,↓reduceIte,Zu,ZF,gcT,gcA,Zn,Zg,Zf,Zh,Zo,Zd,Zm,Zi,Zp,Xd,Zqa,ZgN,Zts,Zo7,ZfV,ZoS,Zgh,Zl,Zk,Zr,Zc,Zs,ZH,h1,h0,h2,hg,hset,hC,hw,hn,Zbf,Zco,ZaH,Zaj,ZB,Zah,ZT,Xs,Xu,AVal.cells,XC,Zaa,Z6,Za8,ZaO,XY,X4,Xs,Xu,Xw,Xx,Z9,Z8,Zac,Zab,Z7,Xi,Xn,Zap,Zaz,ZaE,ZaU,ZaW,ZaR,ZaY,Za0,ZaD,ZaZ,XL,XS]
  exact ih
def ZbD (x:Int):ZZ:=⟨2,x,[],[],[]⟩
def Zbc (x:Int):ZZ:=⟨11,x,[],[],[]⟩
def Zdx (e now:Int):List ZZ:=if e≠0 then [ZbD (if IntKind.i64.wrap (e - now) < 0 then 0 else IntKind.i64.wrap (e - now))] else []
def Za5 (it:Zbt) (now:Int):List ZZ:=it.note.props++Zdx it.note.expires now++it.ids.map Zbc
theorem ZBR (l:ZV) (h:l.length<=140737488355328):E 21 [.lst false (l.map Zb)] []=some (.sl 0 0 0 (l.map Zb).length,[.row 0 1 (l.map Zb)]):=by
 refine Zcy.2 ⟨1,?_⟩
 show ZcD 1 1 [.lst false (l.map Zb)] []=_
 have h1:(l.map Zb).length*1<=140737488355328/\kOk 1 (l.map Zb)=true:=⟨by simp;omega,by cases l <;> rfl⟩
 simp only [ZcD,Zj]
 rw [if_pos h1];rfl
theorem ZyU (n:Zb4) (hp:n.payload.length<=140737488355328) (hl:n.props.length<=700000000) (hd:∀ p ∈ n.props,p.data.length<=140737488355328) :
  E 28 [.agg [.str n.topic,.lst false (n.payload.map Zb),.int .i64 n.qos,.bool n.retain,.str n.sender,.int .i64 n.expires,.lst false (n.props.map Zc),.int .i64 n.origin,.int .i64 n.number,.int .i64 n.hops]] []=some (.agg (ZcG n 0 1),[.row 0 1 (n.payload.map Zb),.row 0 5 (n.props.map Zc)]):=by
 have h:=ZtB n hl hd n.props 0 rfl
 have z:((0:Nat):Int)=0:=rfl
 rw [z] at h
 have c1:=fun σ sq hs=>ZnX (bf:=BY) (ZBR n.payload hp) rfl rfl σ sq hs
 have c2:=fun σ sq hs=>ZnX (bf:=BY) (Zxa n.props hl) rfl rfl σ sq hs
 rw [XH] at c1 c2
 unfold ZcG Zi4 at h
 unfold ZcG
 generalize n.payload.map Zb=P at *
 generalize n.props.map Zc=R at *
 unfold ZiO at h
 rw [Zar (by rfl) ZCA]
 simp -implicitDefEqProofs only [EQA,Zx,ZA,Zv,Zw,Zz,Zy,ZJ,ZN,ZP,ZM,ZL,ZO,ZI,ZK,ZQ,implies_true,forall_const,Xh,Xj,Xm,Xe,Xf,Xk,Xl,ZE,ZG,unA,Zt,ZC,unG,reduceCtorEq,Zj,decide_eq_true_eq,Xg,Xc,ite_self,↓reduceIte,Zu,ZF,gcT,gcA,Zn,Zg,Zf,Zh,Zo,Zd,Zm,Zi,Zp,Xd,Zqa,ZgN,Zts,Zo7,ZfV,ZoS,Zgh,Zl,Zk,Zr,Zc,Zs,ZH,c1,c2,Zah,ZT,Xs,Xu,AVal.cells]
 exact h
theorem ZCC (n:Zb4) (hp:n.payload.length<=140737488355328) (hl:n.props.length<=700000000) (hd:∀ p ∈ n.props,p.data.length<=140737488355328) (σ:Za) (sq:Nat) (h0:σ[sq]?=some .free) (h1:σ[sq+1]?=some .free) :
  ZS E BY σ sq 28 2 false [.agg [.str n.topic,.lst false (n.payload.map Zb),.int .i64 n.qos,.bool n.retain,.str n.sender,.int .i64 n.expires,.lst false (n.props.map Zc),.int .i64 n.origin,.int .i64 n.number,.int .i64 n.hops]]=some (.agg (ZcG n sq (sq+1)),(σ.set sq (.row 0 1 (n.payload.map Zb))).set (sq+1) (.row 0 5 (n.props.map Zc)),{ any:=true }):=by
 rw [ZcW (by kernel_rfl) rfl]
 simp only [Xv,XK,Zag,ZaF]
 rw [ZyU n hp hl hd]
 have hf:Zbq σ sq 2=true:=by simp [Zbq,freeAt,h0,h1]
 unfold Zai
 rw [if_neg (by decide)]
 simp [Zak,Zdw,Zbm,okB,Zd,hf,Zq,ZU,ZaQ,Za6,ZbA,ZaI,Zbx,Zi,ZcG]
def Za3 (d:Bool) (qos:Int) (rt:Bool) (id:Int) (topic:ZV) (x y:AVal):List AVal:=[.int .i64 3,.bool d,.int .i64 qos,.bool rt,.int .i64 id,.str topic,x,.int .i64 0,.lst true [],y,.lst true [],.lst true [],.bool false,.int .i64 0,.str [],.bool false,.str [],.lst true [],.int .i64 0,.bool false,.lst true [],.bool false,.str [],.bool false,.lst true [],.bool false]
def Zck:List AVal:=[.int .i64 0,.bool false,.int .i64 0,.bool false,.int .i64 0,.str [],.lst true [],.int .i64 0,.lst true [],.lst true [],.lst true [],.lst true [],.bool false,.int .i64 0,.str [],.bool false,.str [],.lst true [],.int .i64 0,.bool false,.lst true [],.bool false,.str [],.bool false,.lst true [],.bool false]
theorem ZtX (ids:List Int) (hi:ids.length<=1000000) (d:Bool) (qos:Int) (rt:Bool) (id:Int) (topic:ZV) (P:List AVal) (full:List ZZ):∀ (r:List Int) (i:Nat) (acc:List ZZ),ids.drop i=r->acc.length+r.length<=800000000->full=acc++r.map Zbc ->
  Zea 0 [(51,.int .i64 i),(50,.int .i64 ids.length),(49,.lst false (ids.map (AVal.int .i64))),(10,.ref 0 0),(8,.ref 3 0)] [.var (Za3 d qos rt id topic (.sl 1 0 0 P.length) (.sl 2 0 0 acc.length)),.row 0 1 P,.row 0 5 (acc.map Zc),.var Zck] =
  some (.agg (Za3 d qos rt id topic (.sl 0 0 0 P.length) (.sl 1 0 0 full.length)),[.row 0 1 P,.row 0 5 (full.map Zc)])
 | [],i,acc,h,_,hf=>by
  have h1:=ZcM h
  rw [XK,X0] at hf
  subst hf
  generalize full.map Zc=R at *
  unfold Zea Za3 Zck
  rw [Zan]
  simp -implicitDefEqProofs only [EQA,Zx,ZA,Zv,Zw,Zz,Zy,ZJ,ZN,ZP,ZM,ZL,ZO,ZI,ZK,ZQ,implies_true,forall_const,Xh,Xj,Xm,Xe,Xf,Xk,Xl,ZE,ZG,unA,Zt,ZC,unG,reduceCtorEq,Zj,decide_eq_true_eq,Xg,Xc,ite_self,↓reduceIte,Zu,ZF,gcT,gcA,Zn,Zg,Zf,Zh,Zo,Zd,Zm,Zi,Zp,Xd,ZeC,ZdJ,ZeH,Zfk,Zdz,Zfz,Zdo,Zl,Zk,Zr,Zc,Zs,ZH,h1,Zah,ZT,Xs,Xu,AVal.cells]
  simp [ZaP,gcA,Zn,Zg,ZX,Z3,Zf,Zh,Zo,Zd,Zm,ZU,Zq,Zi,Zp,Xd]
 | x::r,i,acc,h,hn,hf=>by
  simp only [Xw] at hn
  have ih:=ZtX ids hi d qos rt id topic P full r (i+1) (acc++[Zbc x]) (Zaq h).2.1 (by rw [Xy];simp;omega) (by rw [hf];simp)
  have h1:(i:Int) < ids.length:=by have:=(Zaq h).2.2;omega
  have e1:=iad (Zaq h).1 (AVal.int .i64) (k:=1) rfl
  have e3:=Zcu h1 (by omega)
  have hb:(acc.length+1)*72<=140737488355328:=by omega
  simp only [X8,Xv,XK,Xy,Xw,Xx,XC,Zc,Zs,Zbc,Zk] at ih
  clear hf h
  generalize full.map Zc=F at *
  have hR:(acc.map Zc).length=acc.length:=XH ..
  generalize acc.map Zc=R at *
  unfold Zea Za3 Zck at *
  rw [Zan]
  simp -implicitDefEqProofs only [EQA,Zx,ZA,Zv,Zw,Zz,Zy,ZJ,ZN,ZP,ZM,ZL,ZO,ZI,ZK,ZQ,implies_true,forall_const,Xh,Xj,Xm,Xe,Xf,Xk,Xl,ZE,ZG,unA,Zt,ZC,unG,reduceCtorEq,Zj,decide_eq_true_eq,Xg,Xc,ite_self,↓reduceIte,Zu,ZF,gcT,gcA,Zn,Zg,Zf,Zh,Zo,Zd,Zm,Zi,Zp,Xd,ZeC,ZdJ,ZeH,Zfk,Zdz,Zfz,Zdo,Zl,Zk,Zr,Zc,Zs,ZH,h1,e1,e3,hb,hR,Zav,kOk,viewAs,Zaw,Zaj,ZaH,ZB,XZ,WQ,Zah,ZT,Xs,Xu,AVal.cells]
  exact ih
theorem Zzu (it:Zbt) (now id:Int) (dup:Bool) (hp:it.note.payload.length<=140737488355328) (hl:it.note.props.length<=600000000) (hd:∀ p ∈ it.note.props,p.data.length<=140737488355328) (hi:it.ids.length<=1000000) :
  E 15 [.agg [.str it.note.topic,.lst false (it.note.payload.map Zb),.int .i64 it.note.qos,.bool it.note.retain,.str it.note.sender,.int .i64 it.note.expires,.lst false (it.note.props.map Zc),.int .i64 it.note.origin,.int .i64 it.note.number,.int .i64 it.note.hops,.int .i64 it.qos,.bool it.retain,.lst false (it.ids.map (.int .i64 ·)),.str it.share],.int .i64 now,.int .i64 id,.bool dup] []=some (.agg (Za3 (if it.qos > 0 then dup else false) it.qos it.retain (if it.qos > 0 then id else 0) it.note.topic (.sl 0 0 0 it.note.payload.length) (.sl 1 0 0 (Za5 it now).length)),[.row 0 1 (it.note.payload.map Zb),.row 0 5 ((Za5 it now).map Zc)]):=by
 have hc:=fun σ sq=>ZCC it.note hp (by omega) hd σ sq
 have z:((0:Nat):Int)=0:=rfl
 have key:=fun (d:Bool) (id:Int) (acc:List ZZ) (ha:acc.length<=700000000)=>ZtX it.ids hi d it.qos it.retain id it.note.topic (it.note.payload.map Zb) (acc++it.ids.map Zbc) it.ids 0 acc rfl (by omega) rfl
 rw [z] at key
 unfold Za5 Zdx
 unfold ZcG at hc
 simp only [XH] at key
 by_cases hq:it.qos > 0
 ·rw [if_pos hq,if_pos hq]
  have hk:=key dup id
  by_cases he:it.note.expires=0
  ·have he':(it.note.expires != 0)=false:=by simp [he]
   rw [if_neg (by simp [he]),X0]
   have h:=hk it.note.props (by omega)
   clear hk key
   generalize it.note.payload.map Zb=P at *
   generalize it.note.props.map Zc=R at *
   generalize (it.note.props++it.ids.map Zbc).map Zc=F at *
   generalize (it.note.props++it.ids.map Zbc).length=N at *
   unfold Zea Za3 Zck at h
   unfold Za3
   rw [Zar (by rfl) ZiQ]
   simp -implicitDefEqProofs only [EQA,Zx,ZA,Zv,Zw,Zz,Zy,ZJ,ZN,ZP,ZM,ZL,ZO,ZI,ZK,ZQ,implies_true,forall_const,Xh,Xj,Xm,Xe,Xf,Xk,Xl,ZE,ZG,unA,Zt,ZC,unG,reduceCtorEq,Zj,decide_eq_true_eq,Xg,Xc,ite_self,↓reduceIte,Zu,ZF,gcT,gcA,Zn,Zg,Zf,Zh,Zo,Zd,Zm,Zi,Zp,Xd,ZeC,ZdJ,ZeH,Zfk,Zdz,Zfz,Zdo,Zl,Zk,Zr,Zc,Zs,ZH,hc,hq,he',gt_iff_lt,Zah,ZT,Xs,Xu,AVal.cells]
   exact h
  ·have he':(it.note.expires != 0)=true:=by simp [he]
   rw [if_pos he]
   generalize hx:(if IntKind.i64.wrap (it.note.expires - now) < 0 then 0 else IntKind.i64.wrap (it.note.expires - now))=x
   have h:=hk (it.note.props++[ZbD x]) (by rw [Xy];simp;omega)
   clear hk key
   have hb:(it.note.props.length+1)*72<=140737488355328:=by omega
   generalize (it.note.props++[ZbD x]++it.ids.map Zbc).length=N at *
   simp only [X8,Xv,XK,Xy,Xw,Xx,XC,Zc,Zs,ZbD,Zk] at h
   have hR:(it.note.props.map Zc).length=it.note.props.length:=XH ..
   generalize it.note.payload.map Zb=P at *
   have e:(it.note.props++[ZbD x]++it.ids.map Zbc).map Zc=it.note.props.map Zc++[.agg [.int .i64 2,.int .i64 x,.str [],.str [],.lst false []]]++(it.ids.map Zbc).map Zc:=by simp [ZbD,Zc,Zs,Zk]
   rw [e]
   generalize it.note.props.map Zc=R at *
   unfold Zea Za3 Zck at h
   unfold Za3
   rw [Zar (by rfl) ZiQ]
   simp -implicitDefEqProofs only [EQA,Zx,ZA,Zv,Zw,Zz,Zy,ZJ,ZN,ZP,ZM,ZL,ZO,ZI,ZK,ZQ,implies_true,forall_const,Xh,Xj,Xm,Xe,Xf,Xk,Xl,ZE,ZG,unA,Zt,ZC,unG,reduceCtorEq,Zj,decide_eq_true_eq,Xg,Xc,ite_self,↓reduceIte,Zu,ZF,gcT,gcA,Zn,Zg,Zf,Zh,Zo,Zd,Zm,Zi,Zp,Xd,ZeC,ZdJ,ZeH,Zfk,Zdz,Zfz,Zdo,Zl,Zk,Zr,Zc,Zs,ZH,hc,hq,he',hx,hb,hR,gt_iff_lt,Zav,kOk,viewAs,Zaw,Zaj,ZaH,ZB,XZ,WQ,Zah,ZT,Xs,Xu,AVal.cells]
   exact h
 ·rw [if_neg hq,if_neg hq]
  have hk:=key false 0
  by_cases he:it.note.expires=0
  ·have he':(it.note.expires != 0)=false:=by simp [he]
   rw [if_neg (by simp [he]),X0]
   have h:=hk it.note.props (by omega)
   clear hk key
   generalize it.note.payload.map Zb=P at *
   generalize it.note.props.map Zc=R at *
   generalize (it.note.props++it.ids.map Zbc).map Zc=F at *
   generalize (it.note.props++it.ids.map Zbc).length=N at *
   unfold Zea Za3 Zck at h
   unfold Za3
   rw [Zar (by rfl) ZiQ]
   simp -implicitDefEqProofs only [EQA,Zx,ZA,Zv,Zw,Zz,Zy,ZJ,ZN,ZP,ZM,ZL,ZO,ZI,ZK,ZQ,implies_true,forall_const,Xh,Xj,Xm,Xe,Xf,Xk,Xl,ZE,ZG,unA,Zt,ZC,unG,reduceCtorEq,Zj,decide_eq_true_eq,Xg,Xc,ite_self,↓reduceIte,Zu,ZF,gcT,gcA,Zn,Zg,Zf,Zh,Zo,Zd,Zm,Zi,Zp,Xd,ZeC,ZdJ,ZeH,Zfk,Zdz,Zfz,Zdo,Zl,Zk,Zr,Zc,Zs,ZH,hc,hq,he',gt_iff_lt,Zah,ZT,Xs,Xu,AVal.cells]
   exact h
  ·have he':(it.note.expires != 0)=true:=by simp [he]
   rw [if_pos he]
   generalize hx:(if IntKind.i64.wrap (it.note.expires - now) < 0 then 0 else IntKind.i64.wrap (it.note.expires - now))=x
   have h:=hk (it.note.props++[ZbD x]) (by rw [Xy];simp;omega)
   clear hk key
   have hb:(it.note.props.length+1)*72<=140737488355328:=by omega
   generalize (it.note.props++[ZbD x]++it.ids.map Zbc).length=N at *
   simp only [X8,Xv,XK,Xy,Xw,Xx,XC,Zc,Zs,ZbD,Zk] at h
   have hR:(it.note.props.map Zc).length=it.note.props.length:=XH ..
   generalize it.note.payload.map Zb=P at *
   have e:(it.note.props++[ZbD x]++it.ids.map Zbc).map Zc=it.note.props.map Zc++[.agg [.int .i64 2,.int .i64 x,.str [],.str [],.lst false []]]++(it.ids.map Zbc).map Zc:=by simp [ZbD,Zc,Zs,Zk]
   rw [e]
   generalize it.note.props.map Zc=R at *
   unfold Zea Za3 Zck at h
   unfold Za3
   rw [Zar (by rfl) ZiQ]
   simp -implicitDefEqProofs only [EQA,Zx,ZA,Zv,Zw,Zz,Zy,ZJ,ZN,ZP,ZM,ZL,ZO,ZI,ZK,ZQ,implies_true,forall_const,Xh,Xj,Xm,Xe,Xf,Xk,Xl,ZE,ZG,unA,Zt,ZC,unG,reduceCtorEq,Zj,decide_eq_true_eq,Xg,Xc,ite_self,↓reduceIte,Zu,ZF,gcT,gcA,Zn,Zg,Zf,Zh,Zo,Zd,Zm,Zi,Zp,Xd,ZeC,ZdJ,ZeH,Zfk,Zdz,Zfz,Zdo,Zl,Zk,Zr,Zc,Zs,ZH,hc,hq,he',hx,hb,hR,gt_iff_lt,Zav,kOk,viewAs,Zaw,Zaj,ZaH,ZB,XZ,WQ,Zah,ZT,Xs,Xu,AVal.cells]
   exact h
theorem Zv8 (n:Zb4) (now:Int):E 13 [.agg [.str n.topic,.lst false (n.payload.map Zb),.int .i64 n.qos,.bool n.retain,.str n.sender,.int .i64 n.expires,.lst false (n.props.map Zc),.int .i64 n.origin,.int .i64 n.number,.int .i64 n.hops],.int .i64 now] []=some (.bool (n.expires != 0 && decide (now>=n.expires)),[]):=by
 rw [Zar (by rfl) ZB4]
 simp -implicitDefEqProofs only [EQA,Zx,ZA,Zv,Zw,Zz,Zy,ZJ,ZN,ZP,ZM,ZL,ZO,ZI,ZK,ZQ,implies_true,forall_const,Xh,Xj,Xm,Xe,Xf,Xk,Xl,ZE,ZG,unA,Zt,ZC,unG,reduceCtorEq,Zj,decide_eq_true_eq,Xg,Xc,ite_self,↓reduceIte,Zu,ZF,gcT,gcA,Zn,Zg,Zf,Zh,Zo,Zd,Zm,Zi,Zp,Xd,Zyd,Zmd,ZzU,Zl,Zk,Zr,Zc,Zs,ZH,AVal.cells]
theorem Zyn (σ:Za) (sq own:Nat) (view:Bool) (n:Zb4) (now:Int):ZS E BY σ sq 13 own view [.agg [.str n.topic,.lst false (n.payload.map Zb),.int .i64 n.qos,.bool n.retain,.str n.sender,.int .i64 n.expires,.lst false (n.props.map Zc),.int .i64 n.origin,.int .i64 n.number,.int .i64 n.hops],.int .i64 now]=some (.bool (n.expires != 0 && decide (now>=n.expires)),σ,{}) :=
 ZcJ (Zv8 n now) (by kernel_rfl) (by simp -implicitDefEqProofs only [ZbM,ZbP,Zx,ZA,Zv,ZbH,Zw,Zz,ZbI,Zy,eq_self,implies_true,Xt,Zl,Zk,Zr,Zc,Zs,ZbU,Zdu]) (by simp -implicitDefEqProofs only [ZbM,ZbP,Zx,ZA,Zv,ZbH,Zw,Zz,ZbI,Zy,eq_self,implies_true,Xt,Zl,Zk,Zr,Zc,Zs,ZbU,Zdu]) rfl (fun _=>rfl) _ _ _ _
end
section
theorem ZvX (ids:List Int) (hi:ids.length<=1000000) (d:Bool) (qos:Int) (rt:Bool) (id:Int) (topic:ZV) (P I:List AVal) (hI1:ZX I=[]) (hI2:∀ ρ,ZU ρ I=I) (h12:I[12]?=some (.lst false (ids.map (AVal.int .i64)))) (full:List ZZ):∀ (r:List Int) (i:Nat) (acc:List ZZ),ids.drop i=r->acc.length+r.length<=800000000->full=acc++r.map Zbc ->
  Zgo 0 [(12,.int .i64 i),(10,.ref 0 0),(8,.ref 3 0),(4,.ref 4 0)] [.var (Za3 d qos rt id topic (.sl 1 0 0 P.length) (.sl 2 0 0 acc.length)),.row 0 1 P,.row 0 5 (acc.map Zc),.var Zck,.var I] =
  some (.agg (Za3 d qos rt id topic (.sl 0 0 0 P.length) (.sl 1 0 0 full.length)),[.row 0 1 P,.row 0 5 (full.map Zc)])
 | [],i,acc,h,_,hf=>by
  have h1:=ZcM h
  rw [XK,X0] at hf
  subst hf
  generalize full.map Zc=R at *
  unfold Zgo Za3 Zck
  rw [Zan]
  simp -implicitDefEqProofs only [EQA,Zx,ZA,Zv,Zw,Zz,Zy,ZJ,ZN,ZP,ZM,ZL,ZO,ZI,ZK,ZQ,implies_true,forall_const,Xh,Xj,Xm,Xe,Xf,Xk,Xl,ZE,ZG,unA,Zt,ZC,unG,reduceCtorEq,Zj,decide_eq_true_eq,Xg,Xc,ite_self,↓reduceIte,Zu,ZF,gcT,gcA,Zn,Zg,Zf,Zh,Zo,Zd,Zm,Zi,Zp,Xd,ZgI,ZdZ,ZgP,ZgO,ZdW,Zgw,ZdS,Zl,Zk,Zr,Zc,Zs,ZH,h1,h12,hI1,hI2,Zah,ZT,Xs,Xu,AVal.cells]
  simp [ZaP,gcA,Zn,Zg,ZX,Z3,Zf,Zh,Zo,Zd,Zm,ZU,Zq,Zi,Zp,Xd]
 | x::r,i,acc,h,hn,hf=>by
  simp only [Xw] at hn
  have ih:=ZvX ids hi d qos rt id topic P I hI1 hI2 h12 full r (i+1) (acc++[Zbc x]) (Zaq h).2.1 (by rw [Xy];simp;omega) (by rw [hf];simp)
  have h1:(i:Int) < ids.length:=by have:=(Zaq h).2.2;omega
  have e1:=iad (Zaq h).1 (AVal.int .i64) (k:=1) rfl
  have e3:=Zcu h1 (by omega)
  have hb:(acc.length+1)*72<=140737488355328:=by omega
  simp only [X8,Xv,XK,Xy,Xw,Xx,XC,Zc,Zs,Zbc,Zk] at ih
  clear hf h
  generalize full.map Zc=F at *
  have hR:(acc.map Zc).length=acc.length:=XH ..
  generalize acc.map Zc=R at *
  unfold Zgo Za3 Zck at *
  rw [Zan]
  simp -implicitDefEqProofs only [EQA,Zx,ZA,Zv,Zw,Zz,Zy,ZJ,ZN,ZP,ZM,ZL,ZO,ZI,ZK,ZQ,implies_true,forall_const,Xh,Xj,Xm,Xe,Xf,Xk,Xl,ZE,ZG,unA,Zt,ZC,unG,reduceCtorEq,Zj,decide_eq_true_eq,Xg,Xc,ite_self,↓reduceIte,Zu,ZF,gcT,gcA,Zn,Zg,Zf,Zh,Zo,Zd,Zm,Zi,Zp,Xd,ZgI,ZdZ,ZgP,ZgO,ZdW,Zgw,ZdS,Zl,Zk,Zr,Zc,Zs,ZH,h1,h12,hI1,hI2,e1,e3,hb,hR,Zav,kOk,viewAs,Zaw,Zaj,ZaH,ZB,XZ,WQ,Zah,ZT,Xs,Xu,AVal.cells,Zaa,Z6,Z9,Z8,Zac,Zab,Z7,Xi,Xn,Zaa,Z6,Za8,ZaO,XY,X4,Xs,Xu,Xw,Xx,Z9,Z8,Zac,Zab,Z7,Xi,Xn,Zap,Zaz,ZaE,ZaU,ZaW,ZaR,ZaY,Za0,ZaD,ZaZ,XL,XS]
  exact ih
theorem ZAw (it : Zbt) (now id : Int) (dup : Bool) (hp : it.note.payload.length <= 140737488355328) (hl : it.note.props.length <= 600000000) (hi : it.ids.length <= 1000000) :
    E 17 [.agg [.str it.note.topic, .lst false (it.note.payload.map Zb), .int .i64 it.note.qos, .bool it.note.retain, .str it.note.sender, .int .i64 it.note.expires, .lst false (it.note.props.map Zc), .int .i64 it.note.origin, .int .i64 it.note.number, .int .i64 it.note.hops, .int .i64 it.qos, .bool it.retain, .lst false (it.ids.map (.int .i64 ·)), .str it.share], .int .i64 now, .int .i64 id, .bool dup] [] = some (.agg (Za3 (if it.qos > 0 then dup else false) it.qos it.retain (if it.qos > 0 then id else 0) it.note.topic (.sl 0 0 0 it.note.payload.length) (.sl 1 0 0 (Za5 it now).length)), [.row 0 1 (it.note.payload.map Zb), .row 0 5 ((Za5 it now).map Zc)]) := by
  have z : ((0 : Nat) : Int) = 0 := rfl
  have k1 := Zgn it.note.payload
  have k2 : it.note.payload.length * 1 <= 140737488355328 := by omega
  have k3 := Zul it.note.props
  have k4 : it.note.props.length * 72 <= 140737488355328 := by omega
  have hb : (it.note.props.length + 1) * 72 <= 140737488355328 := by omega
  have key := fun (d : Bool) (id : Int) (acc : List ZZ) (ha : acc.length <= 700000000) => ZvX it.ids hi d it.qos it.retain id it.note.topic (it.note.payload.map Zb) ([.str it.note.topic, .lst false (it.note.payload.map Zb), .int .i64 it.note.qos, .bool it.note.retain, .str it.note.sender, .int .i64 it.note.expires, .lst false (it.note.props.map Zc), .int .i64 it.note.origin, .int .i64 it.note.number, .int .i64 it.note.hops, .int .i64 it.qos, .bool it.retain, .lst false (it.ids.map (.int .i64 ·)), .str it.share]) rfl (fun _ => rfl) rfl (acc ++ it.ids.map Zbc) it.ids 0 acc rfl (by omega) rfl
  rw [z] at key
  unfold Za5
  simp only [XH] at key
  rcases XaX (it.note.expires = 0) with he | he
  . rcases XaX (it.qos > 0) with hq | hq
    all_goals (
     have he' : (it.note.expires != 0) = false := by simp [he]
     have hL : Zdx it.note.expires now = [] := by unfold Zdx; rw [if_neg (by simp [he])]
     rw [hL, X0]
     first
       | (rw [if_pos hq, if_pos hq]; have h := key dup id it.note.props (by omega))
       | (rw [if_neg hq, if_neg hq]; have h := key false 0 it.note.props (by omega))
     clear key
     have hR : (it.note.props.map Zc).length = it.note.props.length := XH ..
     have hP : (it.note.payload.map Zb).length = it.note.payload.length := XH ..
     generalize it.note.payload.map Zb = P at *
     generalize (it.note.props ++ it.ids.map Zbc).map Zc = F at *
     generalize (it.note.props ++ it.ids.map Zbc).length = N at *
     generalize it.note.props.map Zc = R at *
     unfold Zgo Za3 Zck at h
     unfold Za3
     rw [Zar (by rfl) ZuF]
     simp -implicitDefEqProofs only [EQA,Zx,ZA,Zv,Zw,Zz,Zy,ZJ,ZN,ZP,ZM,ZL,ZO,ZI,ZK,ZQ,implies_true,forall_const,Xh,Xj,Xm,Xe,Xf,Xk,Xl,ZE,ZG,unA,Zt,ZC,unG,reduceCtorEq,Zj,decide_eq_true_eq,Xg,Xc,ite_self,↓reduceIte,Zu,ZF,gcT,gcA,Zn,Zg,Zf,Zh,Zo,Zd,Zm,Zi,Zp,Xd,ZgI,ZdZ,ZgP,ZgO,ZdW,Zgw,ZdS,Zl,Zk,Zr,Zc,Zs,ZH,hq,he',k1,k2,k3,k4,hR,hP,gt_iff_lt,Zav,viewAs,ZB,Zah,ZT,Xs,Xu,AVal.cells,Zaa,Z6,Z9,Z8,Zac,Zab,Z7,Xi,Xn]
     exact h)
  . rcases XaX (it.qos > 0) with hq | hq
    all_goals (
     have he' : (it.note.expires != 0) = true := by simp [he]
     have hL : Zdx it.note.expires now = [ZbD (if IntKind.i64.wrap (it.note.expires - now) < 0 then 0 else IntKind.i64.wrap (it.note.expires - now))] := by unfold Zdx; rw [if_pos he]
     rw [hL]
     clear hL
     generalize hx : (if IntKind.i64.wrap (it.note.expires - now) < 0 then 0 else IntKind.i64.wrap (it.note.expires - now)) = x
     first
       | (rw [if_pos hq, if_pos hq]; have h := key dup id (it.note.props ++ [ZbD x]) (by rw [Xy]; simp; omega))
       | (rw [if_neg hq, if_neg hq]; have h := key false 0 (it.note.props ++ [ZbD x]) (by rw [Xy]; simp; omega))
     clear key
     generalize (it.note.props ++ [ZbD x] ++ it.ids.map Zbc).length = N at *
     simp only [X8, Xv, XK, Xy, Xw, Xx, XC, Zc, Zs, ZbD, Zk] at h
     have hR : (it.note.props.map Zc).length = it.note.props.length := XH ..
     have hP : (it.note.payload.map Zb).length = it.note.payload.length := XH ..
     generalize it.note.payload.map Zb = P at *
     have e : (it.note.props ++ [ZbD x] ++ it.ids.map Zbc).map Zc = it.note.props.map Zc ++ [.agg [.int .i64 2, .int .i64 x, .str [], .str [], .lst false []]] ++ (it.ids.map Zbc).map Zc := by simp [ZbD, Zc, Zs, Zk]
     rw [e]
     generalize it.note.props.map Zc = R at *
     unfold Zgo Za3 Zck at h
     unfold Za3
     have k5 : kOk 5 [.agg [.int .i64 2, .int .i64 x, .str [], .str [], .lst true []]] = true := rfl
     have k6 : kOk 5 [.agg [.int .i64 2, .int .i64 x, .str [], .str [], .lst false []]] = true := rfl
     rw [Zar (by rfl) ZuF]
     rcases XaX (IntKind.i64.wrap (it.note.expires - now) < 0) with hs | hs
     . rw [if_pos hs] at hx
       subst hx
       simp -implicitDefEqProofs only [EQA,Zx,ZA,Zv,Zw,Zz,Zy,ZJ,ZN,ZP,ZM,ZL,ZO,ZI,ZK,ZQ,implies_true,forall_const,Xh,Xj,Xm,Xe,Xf,Xk,Xl,ZE,ZG,unA,Zt,ZC,unG,reduceCtorEq,Zj,decide_eq_true_eq,Xg,Xc,ite_self,↓reduceIte,Zu,ZF,gcT,gcA,Zn,Zg,Zf,Zh,Zo,Zd,Zm,Zi,Zp,Xd,ZgI,ZdZ,ZgP,ZgO,ZdW,Zgw,ZdS,Zl,Zk,Zr,Zc,Zs,ZH,hq,he',hs,hb,k1,k2,k3,k4,k5,k6,hR,hP,gt_iff_lt,Zav,viewAs,Zaw,Zaj,ZaH,XZ,WQ,ZB,Zah,ZT,Xs,Xu,AVal.cells,Zaa,Z6,Z9,Z8,Zac,Zab,Z7,Xi,Xn]
       exact h
     . rw [if_neg hs] at hx
       rw [hx] at hs
       simp -implicitDefEqProofs only [EQA,Zx,ZA,Zv,Zw,Zz,Zy,ZJ,ZN,ZP,ZM,ZL,ZO,ZI,ZK,ZQ,implies_true,forall_const,Xh,Xj,Xm,Xe,Xf,Xk,Xl,ZE,ZG,unA,Zt,ZC,unG,reduceCtorEq,Zj,decide_eq_true_eq,Xg,Xc,ite_self,↓reduceIte,Zu,ZF,gcT,gcA,Zn,Zg,Zf,Zh,Zo,Zd,Zm,Zi,Zp,Xd,ZgI,ZdZ,ZgP,ZgO,ZdW,Zgw,ZdS,Zl,Zk,Zr,Zc,Zs,ZH,hq,he',hx,hs,hb,k1,k2,k3,k4,k5,k6,hR,hP,gt_iff_lt,Zav,viewAs,Zaw,Zaj,ZaH,XZ,WQ,ZB,Zah,ZT,Xs,Xu,AVal.cells,Zaa,Z6,Z9,Z8,Zac,Zab,Z7,Xi,Xn]
       exact h)
end
section
def Zfo:Ze:=(.seq (.region [oF 218 16 2,oI 219 (.ld (some 5) (.t 218)),oF 220 16 3,oI 221 (.ld (some 5) (.t 220)),oI 8 (.alloc [(.str []),(.lst true []),(.int .i64 0),(.bool false),(.lst true [])]),oI 9 (.alloc [(.str []),(.lst true []),(.int .i64 0),(.bool false),(.lst true [])]),oN (.st 5 (.t 8) (.t 219)),oN (.st 5 (.t 9) (.t 221))] (some [(1,3),(1,4),(3,4),(1,5),(3,5),(4,5),(3,6)]) [9,8]) (.seq (.region [oF 222 0 8,oL 223 222,oF 224 0 9,oL 225 224,oI 226 (.bin .eql (.t 223) (.t 225)),oM 227 226,⟨(some 228),(.faddr 1 (.t 8)),(some (227,true)),[]⟩,⟨(some 229),(.ld none (.t 228)),(some (227,true)),[]⟩,⟨(some 230),(.b2s (.t 229)),(some (227,true)),[]⟩,⟨(some 231),(.faddr 1 (.t 9)),(some (227,true)),[]⟩,⟨(some 232),(.ld none (.t 231)),(some (227,true)),[]⟩,⟨(some 233),(.b2s (.t 232)),(some (227,true)),[]⟩,⟨(some 234),(.bin .eql (.t 230) (.t 233)),(some (227,true)),[]⟩,oI 235 (.pick (.t 227) (.t 234) (.c (.bool false))),oM 236 235,⟨(some 237),(.faddr 2 (.t 8)),(some (236,true)),[]⟩,⟨(some 238),(.ld none (.t 237)),(some (236,true)),[]⟩,⟨(some 239),(.faddr 2 (.t 9)),(some (236,true)),[]⟩,⟨(some 240),(.ld none (.t 239)),(some (236,true)),[]⟩,⟨(some 241),(.bin .eql (.t 238) (.t 240)),(some (236,true)),[]⟩,oI 242 (.pick (.t 236) (.t 241) (.c (.bool false))),oM 243 242,⟨(some 244),(.faddr 3 (.t 8)),(some (243,true)),[]⟩,⟨(some 245),(.ld none (.t 244)),(some (243,true)),[]⟩,⟨(some 246),(.faddr 3 (.t 9)),(some (243,true)),[]⟩,⟨(some 247),(.ld none (.t 246)),(some (243,true)),[]⟩,⟨(some 248),(.beq false (.t 245) (.t 247)),(some (243,true)),[]⟩,oI 249 (.pick (.t 243) (.t 248) (.c (.bool false))),oM 250 249,⟨(some 251),(.faddr 4 (.t 8)),(some (250,true)),[]⟩,⟨(some 252),(.ld none (.t 251)),(some (250,true)),[]⟩,⟨(some 253),(.faddr 4 (.t 9)),(some (250,true)),[]⟩,⟨(some 254),(.ld none (.t 253)),(some (250,true)),[]⟩,⟨(some 255),(.call 25 0 true [(.t 252),(.t 254)]),(some (250,true)),[]⟩,oI 256 (.pick (.t 250) (.t 255) (.c (.bool false))),oM 4 256] none [4]) .ret))
def Zwv:Ze:=Zfo
def Zht:=xw Zwv Zfo rfl
def Ze5:Ze:=(.seq (.seq (.region [oM 200 7,oF 201 11 2,oL 202 201,oI 203 (.len (.t 202)),oI 204 (.bin .lss (.t 200) (.t 203))] none [204,7,3,2]) (.cond (.t 204) .skip (.exit 4))) (.seq (.block 5 (.seq (.region [oF 207 11 2,oL 208 207,oM 209 7,oI 210 (.iaddr 1 (.t 208) (.t 209)),oL 211 210,oF 212 11 3,oL 213 212,oM 214 7,oI 215 (.iaddr 1 (.t 213) (.t 214)),oL 216 215,oI 217 (.bin .neq (.t 211) (.t 216))] (some [(1,6),(3,6),(4,6),(1,8),(3,8),(4,8),(1,9),(3,9),(4,9)]) [217,7,3,2]) (.cond (.t 217) (.seq (.region [oI 4 (.mov (.c (.bool false)))] none [4]) .ret) .skip))) (.region [oM 205 7,oI 206 (.bin .add (.t 205) (.c (.int .i64 1))),oM 7 206] none [7,3,2])))
def Zum:Ze:=Ze5
def ZhP:=xw Zum Ze5 rfl
def ZfL:Ze:=(.seq (.seq (.region [oI 7 (.mov (.c (.int .i64 0)))] none [7,3,2]) (.block 4 (.loop [7,3,2] Zum))) Zwv)
def ZwU:Ze:=ZfL
def ZiP:=xw ZwU ZfL rfl
def Zff:Ze:=(.seq (.seq (.region [oM 182 6,oF 183 10 2,oL 184 183,oI 185 (.len (.t 184)),oI 186 (.bin .lss (.t 182) (.t 185))] none [186,6,3,2]) (.cond (.t 186) .skip (.exit 2))) (.seq (.block 3 (.seq (.region [oF 189 10 2,oL 190 189,oM 191 6,oI 192 (.iaddr 6 (.t 190) (.t 191)),oI 193 (.ld (some 6) (.t 192)),oF 194 10 3,oL 195 194,oM 196 6,oI 197 (.iaddr 6 (.t 195) (.t 196)),oI 198 (.ld (some 6) (.t 197)),oI 199 (.eqv true [2,0,1,1,0,0] (.t 193) (.t 198))] (some [(1,6),(3,6),(4,6),(1,8),(3,8),(4,8),(1,9),(3,9),(4,9)]) [199,6,3,2]) (.cond (.t 199) (.seq (.region [oI 4 (.mov (.c (.bool false)))] none [4]) .ret) .skip))) (.region [oM 187 6,oI 188 (.bin .add (.t 187) (.c (.int .i64 1))),oM 6 188] none [6,3,2])))
def Zw0:Ze:=Zff
def Zha:=xw Zw0 Zff rfl
def ZeI:Ze:=(.seq (.seq (.region [oI 6 (.mov (.c (.int .i64 0)))] none [6,3,2]) (.block 2 (.loop [6,3,2] Zw0))) ZwU)
def ZuV:Ze:=ZeI
def ZgV:=xw ZuV ZeI rfl
def ZeW:Ze:=(.seq (.seq (.region [oM 164 5,oF 165 8 2,oL 166 165,oI 167 (.len (.t 166)),oI 168 (.bin .lss (.t 164) (.t 167))] none [168,5,3,2]) (.cond (.t 168) .skip (.exit 0))) (.seq (.block 1 (.seq (.region [oF 171 8 2,oL 172 171,oM 173 5,oI 174 (.iaddr 1 (.t 172) (.t 173)),oL 175 174,oF 176 8 3,oL 177 176,oM 178 5,oI 179 (.iaddr 1 (.t 177) (.t 178)),oL 180 179,oI 181 (.bin .neq (.t 175) (.t 180))] (some [(1,6),(3,6),(4,6),(1,8),(3,8),(4,8),(1,9),(3,9),(4,9)]) [181,5,3,2]) (.cond (.t 181) (.seq (.region [oI 4 (.mov (.c (.bool false)))] none [4]) .ret) .skip))) (.region [oM 169 5,oI 170 (.bin .add (.t 169) (.c (.int .i64 1))),oM 5 170] none [5,3,2])))
def ZtJ:Ze:=ZeW
def Ziy:=xw ZtJ ZeW rfl
def Zfw:Ze:=(.seq (.region [oI 2 (.box (.t 0)),oI 3 (.box (.t 1)),oI 4 (.mov (.c (.bool false)))] none [3,2]) (.seq (.seq (.region [oF 10 0 2,oL 11 10,oF 12 0 3,oL 13 12,oI 14 (.bin .neq (.t 11) (.t 13)),oM 15 14,⟨(some 16),(.faddr 1 (.t 2)),(some (15,false)),[]⟩,⟨(some 17),(.ld none (.t 16)),(some (15,false)),[]⟩,⟨(some 18),(.faddr 1 (.t 3)),(some (15,false)),[]⟩,⟨(some 19),(.ld none (.t 18)),(some (15,false)),[]⟩,⟨(some 20),(.beq true (.t 17) (.t 19)),(some (15,false)),[]⟩,oI 21 (.pick (.t 15) (.c (.bool true)) (.t 20)),oM 22 21,⟨(some 23),(.faddr 2 (.t 2)),(some (22,false)),[]⟩,⟨(some 24),(.ld none (.t 23)),(some (22,false)),[]⟩,⟨(some 25),(.faddr 2 (.t 3)),(some (22,false)),[]⟩,⟨(some 26),(.ld none (.t 25)),(some (22,false)),[]⟩,⟨(some 27),(.bin .neq (.t 24) (.t 26)),(some (22,false)),[]⟩,oI 28 (.pick (.t 22) (.c (.bool true)) (.t 27)),oM 29 28,⟨(some 30),(.faddr 3 (.t 2)),(some (29,false)),[]⟩,⟨(some 31),(.ld none (.t 30)),(some (29,false)),[]⟩,⟨(some 32),(.faddr 3 (.t 3)),(some (29,false)),[]⟩,⟨(some 33),(.ld none (.t 32)),(some (29,false)),[]⟩,⟨(some 34),(.beq true (.t 31) (.t 33)),(some (29,false)),[]⟩,oI 35 (.pick (.t 29) (.c (.bool true)) (.t 34)),oM 36 35,⟨(some 37),(.faddr 4 (.t 2)),(some (36,false)),[]⟩,⟨(some 38),(.ld none (.t 37)),(some (36,false)),[]⟩,⟨(some 39),(.faddr 4 (.t 3)),(some (36,false)),[]⟩,⟨(some 40),(.ld none (.t 39)),(some (36,false)),[]⟩,⟨(some 41),(.bin .neq (.t 38) (.t 40)),(some (36,false)),[]⟩,oI 42 (.pick (.t 36) (.c (.bool true)) (.t 41)),oM 43 42,⟨(some 44),(.faddr 5 (.t 2)),(some (43,false)),[]⟩,⟨(some 45),(.ld none (.t 44)),(some (43,false)),[]⟩,⟨(some 46),(.faddr 5 (.t 3)),(some (43,false)),[]⟩,⟨(some 47),(.ld none (.t 46)),(some (43,false)),[]⟩,⟨(some 48),(.bin .neq (.t 45) (.t 47)),(some (43,false)),[]⟩,oI 49 (.pick (.t 43) (.c (.bool true)) (.t 48)),oM 50 49,⟨(some 51),(.faddr 7 (.t 2)),(some (50,false)),[]⟩,⟨(some 52),(.ld none (.t 51)),(some (50,false)),[]⟩,⟨(some 53),(.faddr 7 (.t 3)),(some (50,false)),[]⟩,⟨(some 54),(.ld none (.t 53)),(some (50,false)),[]⟩,⟨(some 55),(.bin .neq (.t 52) (.t 54)),(some (50,false)),[]⟩,oI 56 (.pick (.t 50) (.c (.bool true)) (.t 55)),oM 57 56,⟨(some 58),(.faddr 12 (.t 2)),(some (57,false)),[]⟩,⟨(some 59),(.ld none (.t 58)),(some (57,false)),[]⟩,⟨(some 60),(.faddr 12 (.t 3)),(some (57,false)),[]⟩,⟨(some 61),(.ld none (.t 60)),(some (57,false)),[]⟩,⟨(some 62),(.beq true (.t 59) (.t 61)),(some (57,false)),[]⟩,oI 63 (.pick (.t 57) (.c (.bool true)) (.t 62)),oM 64 63,⟨(some 65),(.faddr 13 (.t 2)),(some (64,false)),[]⟩,⟨(some 66),(.ld none (.t 65)),(some (64,false)),[]⟩,⟨(some 67),(.faddr 13 (.t 3)),(some (64,false)),[]⟩,⟨(some 68),(.ld none (.t 67)),(some (64,false)),[]⟩,⟨(some 69),(.bin .neq (.t 66) (.t 68)),(some (64,false)),[]⟩,oI 70 (.pick (.t 64) (.c (.bool true)) (.t 69)),oM 71 70,⟨(some 72),(.faddr 14 (.t 2)),(some (71,false)),[]⟩,⟨(some 73),(.ld none (.t 72)),(some (71,false)),[]⟩,⟨(some 74),(.faddr 14 (.t 3)),(some (71,false)),[]⟩,⟨(some 75),(.ld none (.t 74)),(some (71,false)),[]⟩,⟨(some 76),(.bin .neq (.t 73) (.t 75)),(some (71,false)),[]⟩,oI 77 (.pick (.t 71) (.c (.bool true)) (.t 76)),oM 78 77,⟨(some 79),(.faddr 15 (.t 2)),(some (78,false)),[]⟩,⟨(some 80),(.ld none (.t 79)),(some (78,false)),[]⟩,⟨(some 81),(.faddr 15 (.t 3)),(some (78,false)),[]⟩,⟨(some 82),(.ld none (.t 81)),(some (78,false)),[]⟩,⟨(some 83),(.beq true (.t 80) (.t 82)),(some (78,false)),[]⟩,oI 84 (.pick (.t 78) (.c (.bool true)) (.t 83)),oM 85 84,⟨(some 86),(.faddr 21 (.t 2)),(some (85,false)),[]⟩,⟨(some 87),(.ld none (.t 86)),(some (85,false)),[]⟩,⟨(some 88),(.faddr 21 (.t 3)),(some (85,false)),[]⟩,⟨(some 89),(.ld none (.t 88)),(some (85,false)),[]⟩,⟨(some 90),(.beq true (.t 87) (.t 89)),(some (85,false)),[]⟩,oI 91 (.pick (.t 85) (.c (.bool true)) (.t 90)),oM 92 91,⟨(some 93),(.faddr 22 (.t 2)),(some (92,false)),[]⟩,⟨(some 94),(.ld none (.t 93)),(some (92,false)),[]⟩,⟨(some 95),(.faddr 22 (.t 3)),(some (92,false)),[]⟩,⟨(some 96),(.ld none (.t 95)),(some (92,false)),[]⟩,⟨(some 97),(.bin .neq (.t 94) (.t 96)),(some (92,false)),[]⟩,oI 98 (.pick (.t 92) (.c (.bool true)) (.t 97)),oM 99 98,⟨(some 100),(.faddr 23 (.t 2)),(some (99,false)),[]⟩,⟨(some 101),(.ld none (.t 100)),(some (99,false)),[]⟩,⟨(some 102),(.faddr 23 (.t 3)),(some (99,false)),[]⟩,⟨(some 103),(.ld none (.t 102)),(some (99,false)),[]⟩,⟨(some 104),(.beq true (.t 101) (.t 103)),(some (99,false)),[]⟩,oI 105 (.pick (.t 99) (.c (.bool true)) (.t 104)),oM 106 105,⟨(some 107),(.faddr 25 (.t 2)),(some (106,false)),[]⟩,⟨(some 108),(.ld none (.t 107)),(some (106,false)),[]⟩,⟨(some 109),(.faddr 25 (.t 3)),(some (106,false)),[]⟩,⟨(some 110),(.ld none (.t 109)),(some (106,false)),[]⟩,⟨(some 111),(.beq true (.t 108) (.t 110)),(some (106,false)),[]⟩,oI 112 (.pick (.t 106) (.c (.bool true)) (.t 111))] none [112,3,2]) (.cond (.t 112) (.seq (.region [oI 4 (.mov (.c (.bool false)))] none [4]) .ret) .skip)) (.seq (.seq (.region [oF 113 6 2,oL 114 113,oI 115 (.b2s (.t 114)),oF 116 6 3,oL 117 116,oI 118 (.b2s (.t 117)),oI 119 (.bin .neq (.t 115) (.t 118)),oM 120 119,⟨(some 121),(.faddr 24 (.t 2)),(some (120,false)),[]⟩,⟨(some 122),(.ld none (.t 121)),(some (120,false)),[]⟩,⟨(some 123),(.b2s (.t 122)),(some (120,false)),[]⟩,⟨(some 124),(.faddr 24 (.t 3)),(some (120,false)),[]⟩,⟨(some 125),(.ld none (.t 124)),(some (120,false)),[]⟩,⟨(some 126),(.b2s (.t 125)),(some (120,false)),[]⟩,⟨(some 127),(.bin .neq (.t 123) (.t 126)),(some (120,false)),[]⟩,oI 128 (.pick (.t 120) (.c (.bool true)) (.t 127)),oM 129 128,⟨(some 130),(.faddr 9 (.t 2)),(some (129,false)),[]⟩,⟨(some 131),(.ld none (.t 130)),(some (129,false)),[]⟩,⟨(some 132),(.faddr 9 (.t 3)),(some (129,false)),[]⟩,⟨(some 133),(.ld none (.t 132)),(some (129,false)),[]⟩,⟨(some 134),(.call 25 0 true [(.t 131),(.t 133)]),(some (129,false)),[]⟩,⟨(some 135),(.un .not (.t 134)),(some (129,false)),[]⟩,oI 136 (.pick (.t 129) (.c (.bool true)) (.t 135)),oM 137 136,⟨(some 138),(.faddr 8 (.t 2)),(some (137,false)),[]⟩,⟨(some 139),(.ld none (.t 138)),(some (137,false)),[]⟩,⟨(some 140),(.len (.t 139)),(some (137,false)),[]⟩,⟨(some 141),(.faddr 8 (.t 3)),(some (137,false)),[]⟩,⟨(some 142),(.ld none (.t 141)),(some (137,false)),[]⟩,⟨(some 143),(.len (.t 142)),(some (137,false)),[]⟩,⟨(some 144),(.bin .neq (.t 140) (.t 143)),(some (137,false)),[]⟩,oI 145 (.pick (.t 137) (.c (.bool true)) (.t 144)),oM 146 145,⟨(some 147),(.faddr 10 (.t 2)),(some (146,false)),[]⟩,⟨(some 148),(.ld none (.t 147)),(some (146,false)),[]⟩,⟨(some 149),(.len (.t 148)),(some (146,false)),[]⟩,⟨(some 150),(.faddr 10 (.t 3)),(some (146,false)),[]⟩,⟨(some 151),(.ld none (.t 150)),(some (146,false)),[]⟩,⟨(some 152),(.len (.t 151)),(some (146,false)),[]⟩,⟨(some 153),(.bin .neq (.t 149) (.t 152)),(some (146,false)),[]⟩,oI 154 (.pick (.t 146) (.c (.bool true)) (.t 153)),oM 155 154,⟨(some 156),(.faddr 11 (.t 2)),(some (155,false)),[]⟩,⟨(some 157),(.ld none (.t 156)),(some (155,false)),[]⟩,⟨(some 158),(.len (.t 157)),(some (155,false)),[]⟩,⟨(some 159),(.faddr 11 (.t 3)),(some (155,false)),[]⟩,⟨(some 160),(.ld none (.t 159)),(some (155,false)),[]⟩,⟨(some 161),(.len (.t 160)),(some (155,false)),[]⟩,⟨(some 162),(.bin .neq (.t 158) (.t 161)),(some (155,false)),[]⟩,oI 163 (.pick (.t 155) (.c (.bool true)) (.t 162))] none [163,3,2]) (.cond (.t 163) (.seq (.region [oI 4 (.mov (.c (.bool false)))] none [4]) .ret) .skip)) (.seq (.seq (.region [oI 5 (.mov (.c (.int .i64 0)))] none [5,3,2]) (.block 0 (.loop [5,3,2] ZtJ))) ZuV))))
def ZkG:Zae:=⟨[(.tmp 4)],Zfw⟩
theorem Zym:FC 16=some ZkG:=by kernel_rfl
theorem Zi2:ZkG.body=Zfw:=rfl
theorem Zid:ZkG.res=[(.tmp 4)]:=rfl
end
section
def ZcK (d:Bool) (qos:Int) (rt:Bool) (id:Int) (topic:ZV) (x y:AVal):List AVal:=[.int .i64 3,.bool d,.int .i64 qos,.bool rt,.int .i64 id,.str topic,x,.int .i64 0,.lst false [],y,.lst false [],.lst false [],.bool false,.int .i64 0,.str [],.bool false,.str [],.lst false [],.int .i64 0,.bool false,.lst false [],.bool false,.str [],.bool false,.lst false [],.bool false]
theorem Zzz (d:Bool) (qos:Int) (rt:Bool) (id:Int) (topic:ZV) (pl:ZV) (ps:List ZZ) (hp:ps.length<=9223372036854775807) :
  E 16 [.agg (ZcK d qos rt id topic (.lst false (pl.map Zb)) (.lst false (ps.map Zc))),.agg (ZcK d qos rt id topic (.lst false (pl.map Zb)) (.lst false (ps.map Zc)))] []=some (.bool true,[]):=by
 unfold ZcK
 have hb:bytesOf []=some []:=rfl
 have zl:¬(((0:Nat):Int) < ((0:Nat):Int)):=by omega
 have zl2:¬((0:Int) < ((0:Nat):Int)):=by omega
 have zn:(((0:Nat):Int) != ((0:Nat):Int))=false:=rfl
 have hps:∀ (σ:Za) (sq own:Nat),ZS E BY σ sq 25 own true [.lst false [],.lst false []]=some (.bool true,σ,{}):=fun σ sq own=>ZjE σ sq own true [] [] (by decide)
 have hps':∀ (σ:Za) (sq own:Nat),ZS E BY σ sq 25 own true [.lst true [],.lst true []]=some (.bool true,σ,{}):=hps
 have hpp:=fun σ sq own=>ZjE σ sq own true ps ps hp
 rw [show (ps == ps)=true from by simp] at hpp
 rw [Zar (by rfl) Zym]
 simp -implicitDefEqProofs only [EQA,Zx,ZA,Zv,Zw,Zz,Zy,ZJ,ZN,ZP,ZM,ZL,ZO,ZI,ZK,ZQ,implies_true,forall_const,Xh,Xj,Xm,Xe,Xf,Xk,Xl,ZE,ZG,unA,Zt,ZC,unG,reduceCtorEq,Zj,decide_eq_true_eq,Xg,Xc,ite_self,↓reduceIte,Zu,ZF,gcT,gcA,Zn,Zg,Zf,Zh,Zo,Zd,Zm,Zi,Zp,Xd,Zi2,Zfw,Zid,Zht,Zfo,ZhP,Ze5,ZiP,ZfL,Zha,Zff,ZgV,ZeI,Ziy,ZeW,Zl,Zk,Zr,Zc,Zs,ZH,AVal.cells,Zah,hb,zl,zl2,zn,hps,hps',hpp,bne_self_eq_false,W0,Xac,ZT,Xs,Xu,XaQ,XaY,XaR,Xx,Zaa,Z6,Za8,ZaO,XY,X4,Xs,Xu,Xw,Xx,Z9,Z8,Zac,Zab,Z7,Xi,Xn,Zap,Zaz,ZaE,ZaU,ZaW,ZaR,ZaY,Za0,ZaD,ZaZ,XL,XS]
 rw [Zan]
 simp -implicitDefEqProofs only [EQA,Zx,ZA,Zv,Zw,Zz,Zy,ZJ,ZN,ZP,ZM,ZL,ZO,ZI,ZK,ZQ,implies_true,forall_const,Xh,Xj,Xm,Xe,Xf,Xk,Xl,ZE,ZG,unA,Zt,ZC,unG,reduceCtorEq,Zj,decide_eq_true_eq,Xg,Xc,ite_self,↓reduceIte,Zu,ZF,gcT,gcA,Zn,Zg,Zf,Zh,Zo,Zd,Zm,Zi,Zp,Xd,Zi2,Zfw,Zid,Zht,Zfo,ZhP,Ze5,ZiP,ZfL,Zha,Zff,ZgV,ZeI,Ziy,ZeW,Zl,Zk,Zr,Zc,Zs,ZH,AVal.cells,Zah,hb,zl,zl2,zn,hps,hps',bne_self_eq_false,W0,Xac,ZT,Xs,Xu,XaQ,XaY,XaR,Xx,Zaa,Z6,Za8,ZaO,XY,X4,Xs,Xu,Xw,Xx,Z9,Z8,Zac,Zab,Z7,Xi,Xn,Zap,Zaz,ZaE,ZaU,ZaW,ZaR,ZaY,Za0,ZaD,ZaZ,XL,XS]
 rw [Zan]
 simp -implicitDefEqProofs only [EQA,Zx,ZA,Zv,Zw,Zz,Zy,ZJ,ZN,ZP,ZM,ZL,ZO,ZI,ZK,ZQ,implies_true,forall_const,Xh,Xj,Xm,Xe,Xf,Xk,Xl,ZE,ZG,unA,Zt,ZC,unG,reduceCtorEq,Zj,decide_eq_true_eq,Xg,Xc,ite_self,↓reduceIte,Zu,ZF,gcT,gcA,Zn,Zg,Zf,Zh,Zo,Zd,Zm,Zi,Zp,Xd,Zi2,Zfw,Zid,Zht,Zfo,ZhP,Ze5,ZiP,ZfL,Zha,Zff,ZgV,ZeI,Ziy,ZeW,Zl,Zk,Zr,Zc,Zs,ZH,AVal.cells,Zah,hb,zl,zl2,zn,hps,hps',bne_self_eq_false,W0,Xac,ZT,Xs,Xu,XaQ,XaY,XaR,Xx,Zaa,Z6,Za8,ZaO,XY,X4,Xs,Xu,Xw,Xx,Z9,Z8,Zac,Zab,Z7,Xi,Xn,Zap,Zaz,ZaE,ZaU,ZaW,ZaR,ZaY,Za0,ZaD,ZaZ,XL,XS]
 rw [Zan]
 simp -implicitDefEqProofs only [EQA,Zx,ZA,Zv,Zw,Zz,Zy,ZJ,ZN,ZP,ZM,ZL,ZO,ZI,ZK,ZQ,implies_true,forall_const,Xh,Xj,Xm,Xe,Xf,Xk,Xl,ZE,ZG,unA,Zt,ZC,unG,reduceCtorEq,Zj,decide_eq_true_eq,Xg,Xc,ite_self,↓reduceIte,Zu,ZF,gcT,gcA,Zn,Zg,Zf,Zh,Zo,Zd,Zm,Zi,Zp,Xd,Zi2,Zfw,Zid,Zht,Zfo,ZhP,Ze5,ZiP,ZfL,Zha,Zff,ZgV,ZeI,Ziy,ZeW,Zl,Zk,Zr,Zc,Zs,ZH,AVal.cells,Zah,hb,zl,zl2,zn,hps,hps',bne_self_eq_false,W0,Xac,ZT,Xs,Xu,XaQ,XaY,XaR,Xx,Zaa,Z6,Za8,ZaO,XY,X4,Xs,Xu,Xw,Xx,Z9,Z8,Zac,Zab,Z7,Xi,Xn,Zap,Zaz,ZaE,ZaU,ZaW,ZaR,ZaY,Za0,ZaD,ZaZ,XL,XS]
end
section
theorem ZB3 (l:ZV) (h:l.length<=140737488355328):E 29 [.sl 0 0 0 l.length] [.row 0 1 (l.map Zb)]=some (.sl 1 0 0 l.length,[.row 0 1 (l.map Zb),.row 0 1 (l.map Zb)]):=by
 have k1:=Zgn l
 have k2:l.length*1<=140737488355328:=by omega
 have k3:(l.map Zb).length=l.length:=XH ..
 have k4:(l.map Zb).take l.length=l.map Zb:=XQ (by omega)
 generalize l.map Zb=L at *
 rw [Zar (by rfl) Zzn]
 simp -implicitDefEqProofs only [EQA,Zx,ZA,Zv,Zw,Zz,Zy,ZJ,ZN,ZP,ZM,ZL,ZO,ZI,ZK,ZQ,implies_true,forall_const,Xh,Xj,Xm,Xe,Xf,Xk,Xl,ZE,ZG,unA,Zt,ZC,unG,reduceCtorEq,Zj,decide_eq_true_eq,Xg,Xc,ite_self,↓reduceIte,Zu,ZF,gcT,gcA,Zn,Zg,Zf,Zh,Zo,Zd,Zm,Zi,Zp,Xd,ZCi,Zrr,ZB8,Zl,Zk,Zr,Zc,Zs,ZH,k1,k2,k3,k4,X5,Zav,viewAs,ZB]
 simp [ZaP,gcA,Zn,Zg,ZX,Z3,Zf,Zh,Zo,Zd,Zm,ZU,Zq,Zi,Zp,Xd]
theorem Zwu (l:ZV) (h:l.length<=140737488355328) (σ:Za) (sq own t:Nat) (hs:σ[t]?=some (.row 0 1 (l.map Zb))) (hff:Zbq σ sq own=true) :
  ZS E BY σ sq 29 own true [.sl t 0 0 l.length]=some (.lst false (l.map Zb),σ.set t (.row 0 1 (l.map Zb)),{ any:=true }):=by
 refine Zv9 (args':=[.sl 0 0 0 l.length]) hs (by kernel_rfl) hff rfl (fun ρ h=>by simp only [ZU,Zq,h]) (fun ρ=>rfl) (Xz rfl) ?_
 rw [ZB3 l h]
 have k3:(l.map Zb).length=l.length:=XH ..
 have k4:(l.map Zb).take l.length=l.map Zb:=XQ (by omega)
 generalize l.map Zb=L at *
 unfold Zai
 rw [if_pos rfl]
 simp [Zbd,viewR,Zaw,Zaj,Zj,k3,k4,ZB,gcA,Zn,Zg,ZX,Z3,ZU,Zq,Zh,Zp,Zm,Zd,Zi,Xd]
theorem ZxX (l:ZV) (h:l.length<=140737488355328):E 18 [.ref 0 0,.sl 1 0 0 l.length] [.var [.lst true [],.lst true [],.lst true [],.lst true [],.lst true [],.lst true []],.row 0 1 (l.map Zb)] =
  some (.tup [],[.var [.sl 2 0 0 1,.sl 3 0 0 1,.lst true [],.lst true [],.lst true [],.lst true []],.row 0 1 (l.map Zb),.rrow 0 1 [.sl 1 0 0 l.length],.row 0 1 [.lst false (l.map Zb)]]):=by
 have hT:=fun (σ:Za) (sq t:Nat) (hs:σ[t]?=some (.row 0 1 (l.map Zb)))=>Zwu l h σ sq 0 t hs rfl
 generalize l.map Zb=L at *
 rw [Zar (by rfl) ZtF]
 simp -implicitDefEqProofs only [EQA,Zx,ZA,Zv,Zw,Zz,Zy,ZJ,ZN,ZP,ZM,ZL,ZO,ZI,ZK,ZQ,implies_true,forall_const,Xh,Xj,Xm,Xe,Xf,Xk,Xl,ZE,ZG,unA,Zt,ZC,unG,reduceCtorEq,Zj,decide_eq_true_eq,Xg,Xc,ite_self,↓reduceIte,Zu,ZF,gcT,gcA,Zn,Zg,Zf,Zh,Zo,Zd,Zm,Zi,Zp,Xd,ZwC,ZhT,Zvs,Zl,Zk,Zr,Zc,Zs,ZH,hT,Zav,kOk,viewAs,Zaw,Zaj,ZaH,ZB,XZ,WQ,Za9,Zah,ZT,Xs,Xu,AVal.cells,Zaa,Z6,Z9,Z8,Zac,Zab,Z7,Xi,Xn,Zaa,Z6,Za8,ZaO,XY,X4,Xs,Xu,Xw,Xx,Z9,Z8,Zac,Zab,Z7,Xi,Xn,Zap,Zaz,ZaE,ZaU,ZaW,ZaR,ZaY,Za0,ZaD,ZaZ,XL,XS]
 simp [ZaP,gcA,Zn,Zg,ZX,Z3,Zf,Zh,Zo,Zd,Zm,ZU,Zq,Zi,Zp,Xd]
theorem ZAF (l1 l2:ZV) (h:l2.length<=140737488355328):E 18 [.ref 0 0,.sl 4 0 0 l2.length] [.var [.sl 1 0 0 1,.sl 3 0 0 1,.lst true [],.lst true [],.lst true [],.lst true []],.rrow 0 1 [.sl 2 0 0 l1.length],.row 0 1 (l1.map Zb),.row 0 1 [.lst false (l1.map Zb)],.row 0 1 (l2.map Zb)] =
  some (.tup [],[.var [.sl 1 1 0 2,.sl 3 1 0 2,.lst true [],.lst true [],.lst true [],.lst true []],.rrow 1 1 [.sl 2 0 0 l1.length,.sl 4 0 0 l2.length],.row 0 1 (l1.map Zb),.row 1 1 [.lst false (l1.map Zb),.lst false (l2.map Zb)],.row 0 1 (l2.map Zb)]):=by
 have hT:=fun (σ:Za) (sq t:Nat) (hs:σ[t]?=some (.row 0 1 (l2.map Zb)))=>Zwu l2 h σ sq 0 t hs rfl
 generalize l1.map Zb=L1 at *
 generalize l2.map Zb=L2 at *
 rw [Zar (by rfl) ZtF]
 simp -implicitDefEqProofs only [EQA,Zx,ZA,Zv,Zw,Zz,Zy,ZJ,ZN,ZP,ZM,ZL,ZO,ZI,ZK,ZQ,implies_true,forall_const,Xh,Xj,Xm,Xe,Xf,Xk,Xl,ZE,ZG,unA,Zt,ZC,unG,reduceCtorEq,Zj,decide_eq_true_eq,Xg,Xc,ite_self,↓reduceIte,Zu,ZF,gcT,gcA,Zn,Zg,Zf,Zh,Zo,Zd,Zm,Zi,Zp,Xd,ZwC,ZhT,Zvs,Zl,Zk,Zr,Zc,Zs,ZH,hT,Zav,kOk,viewAs,Zaw,Zaj,ZaH,ZB,XZ,WQ,Za9,Zah,ZT,Xs,Xu,AVal.cells,Zaa,Z6,Z9,Z8,Zac,Zab,Z7,Xi,Xn,Zaa,Z6,Za8,ZaO,XY,X4,Xs,Xu,Xw,Xx,Z9,Z8,Zac,Zab,Z7,Xi,Xn,Zap,Zaz,ZaE,ZaU,ZaW,ZaR,ZaY,Za0,ZaD,ZaZ,XL,XS]
 simp [ZaP,gcA,Zn,Zg,ZX,Z3,Zf,Zh,Zo,Zd,Zm,ZU,Zq,Zi,Zp,Xd]
theorem ZAP (l1 l2:ZV):E 30 [.ref 0 0] [.var [.sl 1 0 0 2,.sl 4 0 0 2,.lst true [],.lst true [],.lst true [],.lst true []],.rrow 0 1 [.sl 2 0 0 l1.length,.sl 3 0 0 l2.length],.row 0 1 (l1.map Zb),.row 0 1 (l2.map Zb),.row 0 1 [.lst false (l1.map Zb),.lst false (l2.map Zb)]]=some (.bool true,[.var [.sl 1 0 0 2,.sl 4 0 0 2,.lst true [],.lst true [],.lst true [],.lst true []],.rrow 0 1 [.sl 2 0 0 l1.length,.sl 3 0 0 l2.length],.row 0 1 (l1.map Zb),.row 0 1 (l2.map Zb),.row 0 1 [.lst false (l1.map Zb),.lst false (l2.map Zb)]]):=by
 have h1:∀ (σ:Za) (sq:Nat),σ[2]?=some (.row 0 1 (l1.map Zb))->ZS E BY σ sq 24 0 true [.sl 2 0 0 l1.length,.lst false (l1.map Zb)]=some (.bool true,σ,{ rd:=[2] }):=fun σ sq hs=>by
  have:=ZoJ σ sq 0 l1 l1 2 [] (by rw [X0];exact hs)
  rwa [show (l1 == l1)=true by simp] at this
 have h2:∀ (σ:Za) (sq:Nat),σ[3]?=some (.row 0 1 (l2.map Zb))->ZS E BY σ sq 24 0 true [.sl 3 0 0 l2.length,.lst false (l2.map Zb)]=some (.bool true,σ,{ rd:=[3] }):=fun σ sq hs=>by
  have:=ZoJ σ sq 0 l2 l2 3 [] (by rw [X0];exact hs)
  rwa [show (l2 == l2)=true by simp] at this
 have c0:((0:Nat):Int)=0:=rfl
 have c2:((2:Nat):Int)=2:=rfl
 have z0:(0:Int) < 2:=by decide
 have z1:(1:Int) < 2:=by decide
 have z2:¬((2:Int) < 2):=by decide
 have w1:IntKind.i64.wrap (0+1)=1:=by decide
 have w2:IntKind.i64.wrap (1+1)=2:=by decide
 have z3:¬((0:Int) < 0):=by decide
 generalize l1.map Zb=L1 at *
 generalize l2.map Zb=L2 at *
 rw [Zar (by rfl) Zy7]
 simp -implicitDefEqProofs only [EQA,Zx,ZA,Zv,Zw,Zz,Zy,ZJ,ZN,ZP,ZM,ZL,ZO,ZI,ZK,ZQ,implies_true,forall_const,Xh,Xj,Xm,Xe,Xf,Xk,Xl,ZE,ZG,unA,Zt,ZC,unG,reduceCtorEq,Zj,decide_eq_true_eq,Xg,Xc,ite_self,↓reduceIte,Zu,ZF,gcT,gcA,Zn,Zg,Zf,Zh,Zo,Zd,Zm,Zi,Zp,Xd,Zex,Zdt,Zfu,Zfc,Zdl,Ze2,Zdk,Zez,Zdq,ZfJ,Zds,ZeP,Zdh,ZeK,ZdD,Zl,Zk,Zr,Zc,Zs,ZH,h1,h2,c0,c2,w1,w2,z0,z1,z2,z3,Zbf,Zco,WR,W8,Xm,XC,Xh,W5,Xaq,Za9,Zah,ZT,Xs,Xu,AVal.cells,Zaa,Z6,Z9,Z8,Zac,Zab,Z7,Xi,Xn,Zaa,Z6,Za8,ZaO,XY,X4,Xs,Xu,Xw,Xx,Z9,Z8,Zac,Zab,Z7,Xi,Xn,Zap,Zaz,ZaE,ZaU,ZaW,ZaR,ZaY,Za0,ZaD,ZaZ,XL,XS]
 rw [Zan]
 simp -implicitDefEqProofs only [EQA,Zx,ZA,Zv,Zw,Zz,Zy,ZJ,ZN,ZP,ZM,ZL,ZO,ZI,ZK,ZQ,implies_true,forall_const,Xh,Xj,Xm,Xe,Xf,Xk,Xl,ZE,ZG,unA,Zt,ZC,unG,reduceCtorEq,Zj,decide_eq_true_eq,Xg,Xc,ite_self,↓reduceIte,Zu,ZF,gcT,gcA,Zn,Zg,Zf,Zh,Zo,Zd,Zm,Zi,Zp,Xd,Zex,Zdt,Zfu,Zfc,Zdl,Ze2,Zdk,Zez,Zdq,ZfJ,Zds,ZeP,Zdh,ZeK,ZdD,Zl,Zk,Zr,Zc,Zs,ZH,h1,h2,c0,c2,w1,w2,z0,z1,z2,z3,Zbf,Zco,WR,W8,Xm,XC,Xh,W5,Xaq,Za9,Zah,ZT,Xs,Xu,AVal.cells,Zaa,Z6,Z9,Z8,Zac,Zab,Z7,Xi,Xn,Zaa,Z6,Za8,ZaO,XY,X4,Xs,Xu,Xw,Xx,Z9,Z8,Zac,Zab,Z7,Xi,Xn,Zap,Zaz,ZaE,ZaU,ZaW,ZaR,ZaY,Za0,ZaD,ZaZ,XL,XS]
 rw [Zan]
 simp -implicitDefEqProofs only [EQA,Zx,ZA,Zv,Zw,Zz,Zy,ZJ,ZN,ZP,ZM,ZL,ZO,ZI,ZK,ZQ,implies_true,forall_const,Xh,Xj,Xm,Xe,Xf,Xk,Xl,ZE,ZG,unA,Zt,ZC,unG,reduceCtorEq,Zj,decide_eq_true_eq,Xg,Xc,ite_self,↓reduceIte,Zu,ZF,gcT,gcA,Zn,Zg,Zf,Zh,Zo,Zd,Zm,Zi,Zp,Xd,Zex,Zdt,Zfu,Zfc,Zdl,Ze2,Zdk,Zez,Zdq,ZfJ,Zds,ZeP,Zdh,ZeK,ZdD,Zl,Zk,Zr,Zc,Zs,ZH,h1,h2,c0,c2,w1,w2,z0,z1,z2,z3,Zbf,Zco,WR,W8,Xm,XC,Xh,W5,Xaq,Za9,Zah,ZT,Xs,Xu,AVal.cells,Zaa,Z6,Z9,Z8,Zac,Zab,Z7,Xi,Xn,Zaa,Z6,Za8,ZaO,XY,X4,Xs,Xu,Xw,Xx,Z9,Z8,Zac,Zab,Z7,Xi,Xn,Zap,Zaz,ZaE,ZaU,ZaW,ZaR,ZaY,Za0,ZaD,ZaZ,XL,XS]
 rw [Zan]
 simp -implicitDefEqProofs only [EQA,Zx,ZA,Zv,Zw,Zz,Zy,ZJ,ZN,ZP,ZM,ZL,ZO,ZI,ZK,ZQ,implies_true,forall_const,Xh,Xj,Xm,Xe,Xf,Xk,Xl,ZE,ZG,unA,Zt,ZC,unG,reduceCtorEq,Zj,decide_eq_true_eq,Xg,Xc,ite_self,↓reduceIte,Zu,ZF,gcT,gcA,Zn,Zg,Zf,Zh,Zo,Zd,Zm,Zi,Zp,Xd,Zex,Zdt,Zfu,Zfc,Zdl,Ze2,Zdk,Zez,Zdq,ZfJ,Zds,ZeP,Zdh,ZeK,ZdD,Zl,Zk,Zr,Zc,Zs,ZH,h1,h2,c0,c2,w1,w2,z0,z1,z2,z3,Zbf,Zco,WR,W8,Xm,XC,Xh,W5,Xaq,Za9,Zah,ZT,Xs,Xu,AVal.cells,Zaa,Z6,Z9,Z8,Zac,Zab,Z7,Xi,Xn,Zaa,Z6,Za8,ZaO,XY,X4,Xs,Xu,Xw,Xx,Z9,Z8,Zac,Zab,Z7,Xi,Xn,Zap,Zaz,ZaE,ZaU,ZaW,ZaR,ZaY,Za0,ZaD,ZaZ,XL,XS]
 rw [Zan]
 simp -implicitDefEqProofs only [EQA,Zx,ZA,Zv,Zw,Zz,Zy,ZJ,ZN,ZP,ZM,ZL,ZO,ZI,ZK,ZQ,implies_true,forall_const,Xh,Xj,Xm,Xe,Xf,Xk,Xl,ZE,ZG,unA,Zt,ZC,unG,reduceCtorEq,Zj,decide_eq_true_eq,Xg,Xc,ite_self,↓reduceIte,Zu,ZF,gcT,gcA,Zn,Zg,Zf,Zh,Zo,Zd,Zm,Zi,Zp,Xd,Zex,Zdt,Zfu,Zfc,Zdl,Ze2,Zdk,Zez,Zdq,ZfJ,Zds,ZeP,Zdh,ZeK,ZdD,Zl,Zk,Zr,Zc,Zs,ZH,h1,h2,c0,c2,w1,w2,z0,z1,z2,z3,Zbf,Zco,WR,W8,Xm,XC,Xh,W5,Xaq,Za9,Zah,ZT,Xs,Xu,AVal.cells,Zaa,Z6,Z9,Z8,Zac,Zab,Z7,Xi,Xn,Zaa,Z6,Za8,ZaO,XY,X4,Xs,Xu,Xw,Xx,Z9,Z8,Zac,Zab,Z7,Xi,Xn,Zap,Zaz,ZaE,ZaU,ZaW,ZaR,ZaY,Za0,ZaD,ZaZ,XL,XS]
 rw [Zan]
 simp -implicitDefEqProofs only [EQA,Zx,ZA,Zv,Zw,Zz,Zy,ZJ,ZN,ZP,ZM,ZL,ZO,ZI,ZK,ZQ,implies_true,forall_const,Xh,Xj,Xm,Xe,Xf,Xk,Xl,ZE,ZG,unA,Zt,ZC,unG,reduceCtorEq,Zj,decide_eq_true_eq,Xg,Xc,ite_self,↓reduceIte,Zu,ZF,gcT,gcA,Zn,Zg,Zf,Zh,Zo,Zd,Zm,Zi,Zp,Xd,Zex,Zdt,Zfu,Zfc,Zdl,Ze2,Zdk,Zez,Zdq,ZfJ,Zds,ZeP,Zdh,ZeK,ZdD,Zl,Zk,Zr,Zc,Zs,ZH,h1,h2,c0,c2,w1,w2,z0,z1,z2,z3,Zbf,Zco,WR,W8,Xm,XC,Xh,W5,Xaq,Za9,Zah,ZT,Xs,Xu,AVal.cells,Zaa,Z6,Z9,Z8,Zac,Zab,Z7,Xi,Xn,Zaa,Z6,Za8,ZaO,XY,X4,Xs,Xu,Xw,Xx,Z9,Z8,Zac,Zab,Z7,Xi,Xn,Zap,Zaz,ZaE,ZaU,ZaW,ZaR,ZaY,Za0,ZaD,ZaZ,XL,XS]
 simp [ZaP,gcA,Zn,Zg,ZX,Z3,Zf,Zh,Zo,Zd,Zm,ZU,Zq,Zi,Zp,Xd]
theorem Zw6 (l1 l2:ZV):E 32 [.ref 0 0] [.var [.sl 1 0 0 2,.sl 4 0 0 2,.lst true [],.lst true [],.lst true [],.lst true []],.rrow 0 1 [.sl 2 0 0 l1.length,.sl 3 0 0 l2.length],.frow 0 1 [],.frow 0 1 [],.row 0 1 [.lst false (l1.map Zb),.lst false (l2.map Zb)]]=some (.bool true,[.var [.sl 1 0 0 2,.sl 4 0 0 2,.lst true [],.lst true [],.lst true [],.lst true []],.rrow 0 1 [.sl 2 0 0 l1.length,.sl 3 0 0 l2.length],.frow 0 1 [],.frow 0 1 [],.row 0 1 [.lst false (l1.map Zb),.lst false (l2.map Zb)]]):=by
 have c0:((0:Nat):Int)=0:=rfl
 have z3:¬((0:Int) < 0):=by decide
 generalize l1.map Zb=L1 at *
 generalize l2.map Zb=L2 at *
 rw [Zar (by rfl) ZBO]
 simp -implicitDefEqProofs only [EQA,Zx,ZA,Zv,Zw,Zz,Zy,ZJ,ZN,ZP,ZM,ZL,ZO,ZI,ZK,ZQ,implies_true,forall_const,Xh,Xj,Xm,Xe,Xf,Xk,Xl,ZE,ZG,unA,Zt,ZC,unG,reduceCtorEq,Zj,decide_eq_true_eq,Xg,Xc,ite_self,↓reduceIte,Zu,ZF,gcT,gcA,Zn,Zg,Zf,Zh,Zo,Zd,Zm,Zi,Zp,Xd,ZiT,Zfs,Zih,ZiD,ZfM,Zhs,Zfd,ZhY,Zes,Zil,ZeT,Zii,Zfm,Ziq,Zfb,Zg6,Ze3,Zhi,Zfh,Zhu,ZeA,Zg4,ZfH,Zhf,ZeQ,Zl,Zk,Zr,Zc,Zs,ZH,c0,z3,Za9,Zah,ZT,Xs,Xu,AVal.cells,Zaa,Z6,Z9,Z8,Zac,Zab,Z7,Xi,Xn,Zaa,Z6,Za8,ZaO,XY,X4,Xs,Xu,Xw,Xx,Z9,Z8,Zac,Zab,Z7,Xi,Xn,Zap,Zaz,ZaE,ZaU,ZaW,ZaR,ZaY,Za0,ZaD,ZaZ,XL,XS]
 rw [Zan]
 simp -implicitDefEqProofs only [EQA,Zx,ZA,Zv,Zw,Zz,Zy,ZJ,ZN,ZP,ZM,ZL,ZO,ZI,ZK,ZQ,implies_true,forall_const,Xh,Xj,Xm,Xe,Xf,Xk,Xl,ZE,ZG,unA,Zt,ZC,unG,reduceCtorEq,Zj,decide_eq_true_eq,Xg,Xc,ite_self,↓reduceIte,Zu,ZF,gcT,gcA,Zn,Zg,Zf,Zh,Zo,Zd,Zm,Zi,Zp,Xd,ZiT,Zfs,Zih,ZiD,ZfM,Zhs,Zfd,ZhY,Zes,Zil,ZeT,Zii,Zfm,Ziq,Zfb,Zg6,Ze3,Zhi,Zfh,Zhu,ZeA,Zg4,ZfH,Zhf,ZeQ,Zl,Zk,Zr,Zc,Zs,ZH,c0,z3,Za9,Zah,ZT,Xs,Xu,AVal.cells,Zaa,Z6,Z9,Z8,Zac,Zab,Z7,Xi,Xn,Zaa,Z6,Za8,ZaO,XY,X4,Xs,Xu,Xw,Xx,Z9,Z8,Zac,Zab,Z7,Xi,Xn,Zap,Zaz,ZaE,ZaU,ZaW,ZaR,ZaY,Za0,ZaD,ZaZ,XL,XS]
 rw [Zan]
 simp -implicitDefEqProofs only [EQA,Zx,ZA,Zv,Zw,Zz,Zy,ZJ,ZN,ZP,ZM,ZL,ZO,ZI,ZK,ZQ,implies_true,forall_const,Xh,Xj,Xm,Xe,Xf,Xk,Xl,ZE,ZG,unA,Zt,ZC,unG,reduceCtorEq,Zj,decide_eq_true_eq,Xg,Xc,ite_self,↓reduceIte,Zu,ZF,gcT,gcA,Zn,Zg,Zf,Zh,Zo,Zd,Zm,Zi,Zp,Xd,ZiT,Zfs,Zih,ZiD,ZfM,Zhs,Zfd,ZhY,Zes,Zil,ZeT,Zii,Zfm,Ziq,Zfb,Zg6,Ze3,Zhi,Zfh,Zhu,ZeA,Zg4,ZfH,Zhf,ZeQ,Zl,Zk,Zr,Zc,Zs,ZH,c0,z3,Za9,Zah,ZT,Xs,Xu,AVal.cells,Zaa,Z6,Z9,Z8,Zac,Zab,Z7,Xi,Xn,Zaa,Z6,Za8,ZaO,XY,X4,Xs,Xu,Xw,Xx,Z9,Z8,Zac,Zab,Z7,Xi,Xn,Zap,Zaz,ZaE,ZaU,ZaW,ZaR,ZaY,Za0,ZaD,ZaZ,XL,XS]
 rw [Zan]
 simp -implicitDefEqProofs only [EQA,Zx,ZA,Zv,Zw,Zz,Zy,ZJ,ZN,ZP,ZM,ZL,ZO,ZI,ZK,ZQ,implies_true,forall_const,Xh,Xj,Xm,Xe,Xf,Xk,Xl,ZE,ZG,unA,Zt,ZC,unG,reduceCtorEq,Zj,decide_eq_true_eq,Xg,Xc,ite_self,↓reduceIte,Zu,ZF,gcT,gcA,Zn,Zg,Zf,Zh,Zo,Zd,Zm,Zi,Zp,Xd,ZiT,Zfs,Zih,ZiD,ZfM,Zhs,Zfd,ZhY,Zes,Zil,ZeT,Zii,Zfm,Ziq,Zfb,Zg6,Ze3,Zhi,Zfh,Zhu,ZeA,Zg4,ZfH,Zhf,ZeQ,Zl,Zk,Zr,Zc,Zs,ZH,c0,z3,Za9,Zah,ZT,Xs,Xu,AVal.cells,Zaa,Z6,Z9,Z8,Zac,Zab,Z7,Xi,Xn,Zaa,Z6,Za8,ZaO,XY,X4,Xs,Xu,Xw,Xx,Z9,Z8,Zac,Zab,Z7,Xi,Xn,Zap,Zaz,ZaE,ZaU,ZaW,ZaR,ZaY,Za0,ZaD,ZaZ,XL,XS]
 simp [ZaP,gcA,Zn,Zg,ZX,Z3,Zf,Zh,Zo,Zd,Zm,ZU,Zq,Zi,Zp,Xd]
theorem ZzN (l1 l2:ZV):E 33 [.ref 0 0] [.var [.sl 1 0 0 2,.sl 4 0 0 2,.lst true [],.lst true [],.lst true [],.lst true []],.rrow 0 1 [.sl 2 0 0 l1.length,.sl 3 0 0 l2.length],.frow 0 1 [],.frow 0 1 [],.row 0 1 [.lst false (l1.map Zb),.lst false (l2.map Zb)]]=some (.bool true,[.var [.sl 1 0 0 2,.sl 4 0 0 2,.lst true [],.lst true [],.lst true [],.lst true []],.rrow 0 1 [.sl 2 0 0 l1.length,.sl 3 0 0 l2.length],.frow 0 1 [],.frow 0 1 [],.row 0 1 [.lst false (l1.map Zb),.lst false (l2.map Zb)]]):=by
 have c0:((0:Nat):Int)=0:=rfl
 have z3:¬((0:Int) < 0):=by decide
 generalize l1.map Zb=L1 at *
 generalize l2.map Zb=L2 at *
 rw [Zar (by rfl) Zyw]
 simp -implicitDefEqProofs only [EQA,Zx,ZA,Zv,Zw,Zz,Zy,ZJ,ZN,ZP,ZM,ZL,ZO,ZI,ZK,ZQ,implies_true,forall_const,Xh,Xj,Xm,Xe,Xf,Xk,Xl,ZE,ZG,unA,Zt,ZC,unG,reduceCtorEq,Zj,decide_eq_true_eq,Xg,Xc,ite_self,↓reduceIte,Zu,ZF,gcT,gcA,Zn,Zg,Zf,Zh,Zo,Zd,Zm,Zi,Zp,Xd,Zho,ZfB,ZiS,ZhR,Zfv,Zg9,Zfg,ZhB,Ze9,ZhM,Zfe,ZhF,Zfl,ZhL,ZeY,ZiZ,Zfn,Zia,ZeN,ZiB,ZeG,ZiX,ZeE,ZhG,ZfG,Zl,Zk,Zr,Zc,Zs,ZH,c0,z3,Za9,Zah,ZT,Xs,Xu,AVal.cells,Zaa,Z6,Z9,Z8,Zac,Zab,Z7,Xi,Xn,Zaa,Z6,Za8,ZaO,XY,X4,Xs,Xu,Xw,Xx,Z9,Z8,Zac,Zab,Z7,Xi,Xn,Zap,Zaz,ZaE,ZaU,ZaW,ZaR,ZaY,Za0,ZaD,ZaZ,XL,XS]
 rw [Zan]
 simp -implicitDefEqProofs only [EQA,Zx,ZA,Zv,Zw,Zz,Zy,ZJ,ZN,ZP,ZM,ZL,ZO,ZI,ZK,ZQ,implies_true,forall_const,Xh,Xj,Xm,Xe,Xf,Xk,Xl,ZE,ZG,unA,Zt,ZC,unG,reduceCtorEq,Zj,decide_eq_true_eq,Xg,Xc,ite_self,↓reduceIte,Zu,ZF,gcT,gcA,Zn,Zg,Zf,Zh,Zo,Zd,Zm,Zi,Zp,Xd,Zho,ZfB,ZiS,ZhR,Zfv,Zg9,Zfg,ZhB,Ze9,ZhM,Zfe,ZhF,Zfl,ZhL,ZeY,ZiZ,Zfn,Zia,ZeN,ZiB,ZeG,ZiX,ZeE,ZhG,ZfG,Zl,Zk,Zr,Zc,Zs,ZH,c0,z3,Za9,Zah,ZT,Xs,Xu,AVal.cells,Zaa,Z6,Z9,Z8,Zac,Zab,Z7,Xi,Xn,Zaa,Z6,Za8,ZaO,XY,X4,Xs,Xu,Xw,Xx,Z9,Z8,Zac,Zab,Z7,Xi,Xn,Zap,Zaz,ZaE,ZaU,ZaW,ZaR,ZaY,Za0,ZaD,ZaZ,XL,XS]
 rw [Zan]
 simp -implicitDefEqProofs only [EQA,Zx,ZA,Zv,Zw,Zz,Zy,ZJ,ZN,ZP,ZM,ZL,ZO,ZI,ZK,ZQ,implies_true,forall_const,Xh,Xj,Xm,Xe,Xf,Xk,Xl,ZE,ZG,unA,Zt,ZC,unG,reduceCtorEq,Zj,decide_eq_true_eq,Xg,Xc,ite_self,↓reduceIte,Zu,ZF,gcT,gcA,Zn,Zg,Zf,Zh,Zo,Zd,Zm,Zi,Zp,Xd,Zho,ZfB,ZiS,ZhR,Zfv,Zg9,Zfg,ZhB,Ze9,ZhM,Zfe,ZhF,Zfl,ZhL,ZeY,ZiZ,Zfn,Zia,ZeN,ZiB,ZeG,ZiX,ZeE,ZhG,ZfG,Zl,Zk,Zr,Zc,Zs,ZH,c0,z3,Za9,Zah,ZT,Xs,Xu,AVal.cells,Zaa,Z6,Z9,Z8,Zac,Zab,Z7,Xi,Xn,Zaa,Z6,Za8,ZaO,XY,X4,Xs,Xu,Xw,Xx,Z9,Z8,Zac,Zab,Z7,Xi,Xn,Zap,Zaz,ZaE,ZaU,ZaW,ZaR,ZaY,Za0,ZaD,ZaZ,XL,XS]
 rw [Zan]
 simp -implicitDefEqProofs only [EQA,Zx,ZA,Zv,Zw,Zz,Zy,ZJ,ZN,ZP,ZM,ZL,ZO,ZI,ZK,ZQ,implies_true,forall_const,Xh,Xj,Xm,Xe,Xf,Xk,Xl,ZE,ZG,unA,Zt,ZC,unG,reduceCtorEq,Zj,decide_eq_true_eq,Xg,Xc,ite_self,↓reduceIte,Zu,ZF,gcT,gcA,Zn,Zg,Zf,Zh,Zo,Zd,Zm,Zi,Zp,Xd,Zho,ZfB,ZiS,ZhR,Zfv,Zg9,Zfg,ZhB,Ze9,ZhM,Zfe,ZhF,Zfl,ZhL,ZeY,ZiZ,Zfn,Zia,ZeN,ZiB,ZeG,ZiX,ZeE,ZhG,ZfG,Zl,Zk,Zr,Zc,Zs,ZH,c0,z3,Za9,Zah,ZT,Xs,Xu,AVal.cells,Zaa,Z6,Z9,Z8,Zac,Zab,Z7,Xi,Xn,Zaa,Z6,Za8,ZaO,XY,X4,Xs,Xu,Xw,Xx,Z9,Z8,Zac,Zab,Z7,Xi,Xn,Zap,Zaz,ZaE,ZaU,ZaW,ZaR,ZaY,Za0,ZaD,ZaZ,XL,XS]
 simp [ZaP,gcA,Zn,Zg,ZX,Z3,Zf,Zh,Zo,Zd,Zm,ZU,Zq,Zi,Zp,Xd]
theorem ZBv (l1 l2:ZV) (h1:l1.length<=1099511627776) (h2:l2.length<=1099511627776):E 31 [.ref 0 0] [.var [.sl 1 0 0 2,.sl 4 0 0 2,.lst true [],.lst true [],.lst true [],.lst true []],.rrow 0 1 [.sl 2 0 0 l1.length,.sl 3 0 0 l2.length],.row 0 1 (l1.map Zb),.row 0 1 (l2.map Zb),.row 0 1 [.lst false (l1.map Zb),.lst false (l2.map Zb)]]=some (.bool true,[.var [.sl 1 0 0 2,.sl 4 0 0 2,.lst true [],.lst true [],.lst true [],.lst true []],.rrow 0 1 [.sl 2 0 0 l1.length,.sl 3 0 0 l2.length],.frow 0 1 [],.frow 0 1 [],.row 0 1 [.lst false (l1.map Zb),.lst false (l2.map Zb)]]):=by
 refine Zcy.2 ⟨1,?_⟩
 show Zgy [.ref 0 0] [.var [.sl 1 0 0 2,.sl 4 0 0 2,.lst true [],.lst true [],.lst true [],.lst true []],.rrow 0 1 [.sl 2 0 0 l1.length,.sl 3 0 0 l2.length],.row 0 1 (l1.map Zb),.row 0 1 (l2.map Zb),.row 0 1 [.lst false (l1.map Zb),.lst false (l2.map Zb)]]=_
 simp [Zgy,ZmD,ZeD,Zu2,relB,h1,h2]
theorem ZzY (l1 l2:ZV) (sq:Nat):ZS E BY [.var [.sl 1 0 0 2,.sl 4 0 0 2,.lst true [],.lst true [],.lst true [],.lst true []],.rrow 0 1 [.sl 2 0 0 l1.length,.sl 3 0 0 l2.length],.row 0 1 (l1.map Zb),.row 0 1 (l2.map Zb),.row 0 1 [.lst false (l1.map Zb),.lst false (l2.map Zb)]] sq 30 0 true [.ref 0 0]=some (.bool true,[.var [.sl 1 0 0 2,.sl 4 0 0 2,.lst true [],.lst true [],.lst true [],.lst true []],.rrow 0 1 [.sl 2 0 0 l1.length,.sl 3 0 0 l2.length],.row 0 1 (l1.map Zb),.row 0 1 (l2.map Zb),.row 0 1 [.lst false (l1.map Zb),.lst false (l2.map Zb)]],{ any:=true,upd:=[(0,[.sl 1 0 0 2,.sl 4 0 0 2,.lst true [],.lst true [],.lst true [],.lst true []])] }):=by
 have h:=ZAP l1 l2
 generalize l1.map Zb=L1 at *
 generalize l2.map Zb=L2 at *
 exact ZfT (σ:=[.var [.sl 1 0 0 2,.sl 4 0 0 2,.lst true [],.lst true [],.lst true [],.lst true []],.rrow 0 1 [.sl 2 0 0 l1.length,.sl 3 0 0 l2.length],.row 0 1 L1,.row 0 1 L2,.row 0 1 [.lst false L1,.lst false L2]]) (sq:=sq) (view:=true) (vs:=[.ref 0 0]) (vs':=[.ref 0 0]) (h0:=[.var [.sl 1 0 0 2,.sl 4 0 0 2,.lst true [],.lst true [],.lst true [],.lst true []],.rrow 0 1 [.sl 2 0 0 l1.length,.sl 3 0 0 l2.length],.row 0 1 L1,.row 0 1 L2,.row 0 1 [.lst false L1,.lst false L2]]) (hh0:=[.var [.sl 1 0 0 2,.sl 4 0 0 2,.lst true [],.lst true [],.lst true [],.lst true []],.rrow 0 1 [.sl 2 0 0 l1.length,.sl 3 0 0 l2.length],.row 0 1 L1,.row 0 1 L2,.row 0 1 [.lst false L1,.lst false L2]]) (r0:=.bool true) (r:=.bool true) (ids:=[0,1,2,3,4]) (own:=0) (h:=[.var [.sl 1 0 0 2,.sl 4 0 0 2,.lst true [],.lst true [],.lst true [],.lst true []],.rrow 0 1 [.sl 2 0 0 l1.length,.sl 3 0 0 l2.length],.row 0 1 L1,.row 0 1 L2,.row 0 1 [.lst false L1,.lst false L2]]) (by kernel_rfl) rfl rfl rfl rfl rfl rfl h (by unfold Zai;rw [if_pos rfl];simp [Zbd,viewR,Zaw,Zaj,Zj,ZB,gcA,Zn,Zg,ZX,Z3,Zf,Zh,Zo,Zd,Zm,ZU,Zq,Zi,Zp,Xd]) (by simp) (by simp) rfl rfl rfl rfl rfl
theorem ZA7 (l1 l2:ZV) (h1:l1.length<=1099511627776) (h2:l2.length<=1099511627776) (sq:Nat):ZS E BY [.var [.sl 1 0 0 2,.sl 4 0 0 2,.lst true [],.lst true [],.lst true [],.lst true []],.rrow 0 1 [.sl 2 0 0 l1.length,.sl 3 0 0 l2.length],.row 0 1 (l1.map Zb),.row 0 1 (l2.map Zb),.row 0 1 [.lst false (l1.map Zb),.lst false (l2.map Zb)]] sq 31 0 true [.ref 0 0]=some (.bool true,[.var [.sl 1 0 0 2,.sl 4 0 0 2,.lst true [],.lst true [],.lst true [],.lst true []],.rrow 0 1 [.sl 2 0 0 l1.length,.sl 3 0 0 l2.length],.frow 0 1 [],.frow 0 1 [],.row 0 1 [.lst false (l1.map Zb),.lst false (l2.map Zb)]],{ any:=true,upd:=[(0,[.sl 1 0 0 2,.sl 4 0 0 2,.lst true [],.lst true [],.lst true [],.lst true []])] }):=by
 have h:=ZBv l1 l2 h1 h2
 generalize l1.map Zb=L1 at *
 generalize l2.map Zb=L2 at *
 exact ZfT (σ:=[.var [.sl 1 0 0 2,.sl 4 0 0 2,.lst true [],.lst true [],.lst true [],.lst true []],.rrow 0 1 [.sl 2 0 0 l1.length,.sl 3 0 0 l2.length],.row 0 1 L1,.row 0 1 L2,.row 0 1 [.lst false L1,.lst false L2]]) (sq:=sq) (view:=true) (vs:=[.ref 0 0]) (vs':=[.ref 0 0]) (h0:=[.var [.sl 1 0 0 2,.sl 4 0 0 2,.lst true [],.lst true [],.lst true [],.lst true []],.rrow 0 1 [.sl 2 0 0 l1.length,.sl 3 0 0 l2.length],.row 0 1 L1,.row 0 1 L2,.row 0 1 [.lst false L1,.lst false L2]]) (hh0:=[.var [.sl 1 0 0 2,.sl 4 0 0 2,.lst true [],.lst true [],.lst true [],.lst true []],.rrow 0 1 [.sl 2 0 0 l1.length,.sl 3 0 0 l2.length],.frow 0 1 [],.frow 0 1 [],.row 0 1 [.lst false L1,.lst false L2]]) (r0:=.bool true) (r:=.bool true) (ids:=[0,1,2,3,4]) (own:=0) (h:=[.var [.sl 1 0 0 2,.sl 4 0 0 2,.lst true [],.lst true [],.lst true [],.lst true []],.rrow 0 1 [.sl 2 0 0 l1.length,.sl 3 0 0 l2.length],.frow 0 1 [],.frow 0 1 [],.row 0 1 [.lst false L1,.lst false L2]]) (by kernel_rfl) rfl rfl rfl rfl rfl rfl h (by unfold Zai;rw [if_pos rfl];simp [Zbd,viewR,Zaw,Zaj,Zj,ZB,gcA,Zn,Zg,ZX,Z3,Zf,Zh,Zo,Zd,Zm,ZU,Zq,Zi,Zp,Xd]) (by simp) (by simp) rfl rfl rfl rfl rfl
theorem Zy4 (l1 l2:ZV) (sq:Nat):ZS E BY [.var [.sl 1 0 0 2,.sl 4 0 0 2,.lst true [],.lst true [],.lst true [],.lst true []],.rrow 0 1 [.sl 2 0 0 l1.length,.sl 3 0 0 l2.length],.frow 0 1 [],.frow 0 1 [],.row 0 1 [.lst false (l1.map Zb),.lst false (l2.map Zb)]] sq 32 0 true [.ref 0 0]=some (.bool true,[.var [.sl 1 0 0 2,.sl 4 0 0 2,.lst true [],.lst true [],.lst true [],.lst true []],.rrow 0 1 [.sl 2 0 0 l1.length,.sl 3 0 0 l2.length],.frow 0 1 [],.frow 0 1 [],.row 0 1 [.lst false (l1.map Zb),.lst false (l2.map Zb)]],{ any:=true,upd:=[(0,[.sl 1 0 0 2,.sl 4 0 0 2,.lst true [],.lst true [],.lst true [],.lst true []])] }):=by
 have h:=Zw6 l1 l2
 generalize l1.map Zb=L1 at *
 generalize l2.map Zb=L2 at *
 exact ZfT (σ:=[.var [.sl 1 0 0 2,.sl 4 0 0 2,.lst true [],.lst true [],.lst true [],.lst true []],.rrow 0 1 [.sl 2 0 0 l1.length,.sl 3 0 0 l2.length],.frow 0 1 [],.frow 0 1 [],.row 0 1 [.lst false L1,.lst false L2]]) (sq:=sq) (view:=true) (vs:=[.ref 0 0]) (vs':=[.ref 0 0]) (h0:=[.var [.sl 1 0 0 2,.sl 4 0 0 2,.lst true [],.lst true [],.lst true [],.lst true []],.rrow 0 1 [.sl 2 0 0 l1.length,.sl 3 0 0 l2.length],.frow 0 1 [],.frow 0 1 [],.row 0 1 [.lst false L1,.lst false L2]]) (hh0:=[.var [.sl 1 0 0 2,.sl 4 0 0 2,.lst true [],.lst true [],.lst true [],.lst true []],.rrow 0 1 [.sl 2 0 0 l1.length,.sl 3 0 0 l2.length],.frow 0 1 [],.frow 0 1 [],.row 0 1 [.lst false L1,.lst false L2]]) (r0:=.bool true) (r:=.bool true) (ids:=[0,1,2,3,4]) (own:=0) (h:=[.var [.sl 1 0 0 2,.sl 4 0 0 2,.lst true [],.lst true [],.lst true [],.lst true []],.rrow 0 1 [.sl 2 0 0 l1.length,.sl 3 0 0 l2.length],.frow 0 1 [],.frow 0 1 [],.row 0 1 [.lst false L1,.lst false L2]]) (by kernel_rfl) rfl rfl rfl rfl rfl rfl h (by unfold Zai;rw [if_pos rfl];simp [Zbd,viewR,Zaw,Zaj,Zj,ZB,gcA,Zn,Zg,ZX,Z3,Zf,Zh,Zo,Zd,Zm,ZU,Zq,Zi,Zp,Xd]) (by simp) (by simp) rfl rfl rfl rfl rfl
theorem Zxw (l1 l2:ZV) (sq:Nat):ZS E BY [.var [.sl 1 0 0 2,.sl 4 0 0 2,.lst true [],.lst true [],.lst true [],.lst true []],.rrow 0 1 [.sl 2 0 0 l1.length,.sl 3 0 0 l2.length],.frow 0 1 [],.frow 0 1 [],.row 0 1 [.lst false (l1.map Zb),.lst false (l2.map Zb)]] sq 33 0 true [.ref 0 0]=some (.bool true,[.var [.sl 1 0 0 2,.sl 4 0 0 2,.lst true [],.lst true [],.lst true [],.lst true []],.rrow 0 1 [.sl 2 0 0 l1.length,.sl 3 0 0 l2.length],.frow 0 1 [],.frow 0 1 [],.row 0 1 [.lst false (l1.map Zb),.lst false (l2.map Zb)]],{ any:=true,upd:=[(0,[.sl 1 0 0 2,.sl 4 0 0 2,.lst true [],.lst true [],.lst true [],.lst true []])] }):=by
 have h:=ZzN l1 l2
 generalize l1.map Zb=L1 at *
 generalize l2.map Zb=L2 at *
 exact ZfT (σ:=[.var [.sl 1 0 0 2,.sl 4 0 0 2,.lst true [],.lst true [],.lst true [],.lst true []],.rrow 0 1 [.sl 2 0 0 l1.length,.sl 3 0 0 l2.length],.frow 0 1 [],.frow 0 1 [],.row 0 1 [.lst false L1,.lst false L2]]) (sq:=sq) (view:=true) (vs:=[.ref 0 0]) (vs':=[.ref 0 0]) (h0:=[.var [.sl 1 0 0 2,.sl 4 0 0 2,.lst true [],.lst true [],.lst true [],.lst true []],.rrow 0 1 [.sl 2 0 0 l1.length,.sl 3 0 0 l2.length],.frow 0 1 [],.frow 0 1 [],.row 0 1 [.lst false L1,.lst false L2]]) (hh0:=[.var [.sl 1 0 0 2,.sl 4 0 0 2,.lst true [],.lst true [],.lst true [],.lst true []],.rrow 0 1 [.sl 2 0 0 l1.length,.sl 3 0 0 l2.length],.frow 0 1 [],.frow 0 1 [],.row 0 1 [.lst false L1,.lst false L2]]) (r0:=.bool true) (r:=.bool true) (ids:=[0,1,2,3,4]) (own:=0) (h:=[.var [.sl 1 0 0 2,.sl 4 0 0 2,.lst true [],.lst true [],.lst true [],.lst true []],.rrow 0 1 [.sl 2 0 0 l1.length,.sl 3 0 0 l2.length],.frow 0 1 [],.frow 0 1 [],.row 0 1 [.lst false L1,.lst false L2]]) (by kernel_rfl) rfl rfl rfl rfl rfl rfl h (by unfold Zai;rw [if_pos rfl];simp [Zbd,viewR,Zaw,Zaj,Zj,ZB,gcA,Zn,Zg,ZX,Z3,Zf,Zh,Zo,Zd,Zm,ZU,Zq,Zi,Zp,Xd]) (by simp) (by simp) rfl rfl rfl rfl rfl
theorem ZAZ (l1 l2:ZV) (h1:l1.length<=1099511627776) (h2:l2.length<=1099511627776):E 19 [.ref 0 0] [.var [.sl 1 0 0 2,.sl 4 0 0 2,.lst true [],.lst true [],.lst true [],.lst true []],.rrow 0 1 [.sl 2 0 0 l1.length,.sl 3 0 0 l2.length],.row 0 1 (l1.map Zb),.row 0 1 (l2.map Zb),.row 0 1 [.lst false (l1.map Zb),.lst false (l2.map Zb)]]=some (.bool true,[.var [.sl 1 0 0 2,.sl 4 0 0 2,.lst true [],.lst true [],.lst true [],.lst true []],.rrow 0 1 [.sl 2 0 0 l1.length,.sl 3 0 0 l2.length],.frow 0 1 [],.frow 0 1 [],.row 0 1 [.lst false (l1.map Zb),.lst false (l2.map Zb)]]):=by
 have k1:=ZzY l1 l2
 have k2:=ZA7 l1 l2 h1 h2
 have k3:=Zy4 l1 l2
 have k4:=Zxw l1 l2
 generalize l1.map Zb=L1 at *
 generalize l2.map Zb=L2 at *
 rw [Zar (by rfl) ZCr]
 simp -implicitDefEqProofs only [EQA,Zx,ZA,Zv,Zw,Zz,Zy,ZJ,ZN,ZP,ZM,ZL,ZO,ZI,ZK,ZQ,implies_true,forall_const,Xh,Xj,Xm,Xe,Xf,Xk,Xl,ZE,ZG,unA,Zt,ZC,unG,reduceCtorEq,Zj,decide_eq_true_eq,Xg,Xc,ite_self,↓reduceIte,Zu,ZF,gcT,gcA,Zn,Zg,Zf,Zh,Zo,Zd,Zm,Zi,Zp,Xd,ZAU,ZlM,ZBI,Zl,Zk,Zr,Zc,Zs,ZH,k1,k2,k3,k4,Za9,Zah,ZT,Xs,Xu,AVal.cells,Zaa,Z6,Z9,Z8,Zac,Zab,Z7,Xi,Xn,Zaa,Z6,Za8,ZaO,XY,X4,Xs,Xu,Xw,Xx,Z9,Z8,Zac,Zab,Z7,Xi,Xn,Zap,Zaz,ZaE,ZaU,ZaW,ZaR,ZaY,Za0,ZaD,ZaZ,XL,XS]
 simp [ZaP,gcA,Zn,Zg,ZX,Z3,Zf,Zh,Zo,Zd,Zm,ZU,Zq,Zi,Zp,Xd]
end
section
def Zqs:Ze:=(.seq (.region [oI 1 (.box (.t 0)),oI 2 (.alloc [(.str []),(.lst true []),(.int .i64 0),(.bool false),(.str []),(.int .i64 0),(.lst true []),(.int .i64 0),(.int .i64 0),(.int .i64 0),(.int .i64 0),(.bool false),(.lst true []),(.str [])])] none [2,1]) (.seq (.region [oF 3 0 1,oF 4 1 3,oL 5 4,oI 6 (.call 20 0 true [(.t 5),(.c (.int .i64 600))]),oF 7 0 1,oF 8 1 7,oN (.st 1 (.t 8) (.t 6))] none [2,1]) (.seq (.seq (.region [oF 9 0 1,oF 10 6 9,oL 11 10,oI 12 (.len (.t 11)),oI 13 (.bin .gtr (.t 12) (.c (.int .i64 8)))] none [13,2,1]) (.cond (.t 13) (.region [oF 14 0 1,oF 15 6 14,oL 16 15,oI 17 (.slice 5 (.t 16) none (some (.c (.int .i64 8))) none),oF 18 0 1,oF 19 6 18,oN (.st 1 (.t 19) (.t 17))] none [2,1]) .skip)) (.seq (.seq (.region [oF 20 12 1,oL 21 20,oI 22 (.len (.t 21)),oI 23 (.bin .gtr (.t 22) (.c (.int .i64 8)))] none [23,2,1]) (.cond (.t 23) (.region [oF 24 12 1,oL 25 24,oI 26 (.slice 1 (.t 25) none (some (.c (.int .i64 8))) none),oF 27 12 1,oN (.st 1 (.t 27) (.t 26))] none [2,1]) .skip)) (.seq (.region [oI 28 (.ld (some 14) (.t 1)),oN (.st 14 (.t 2) (.t 28))] none [2]) .ret)))))
def ZoI:Zae:=⟨[(.cell 2 (some 14))],Zqs⟩
theorem ZyV:FC 5=some ZoI:=by kernel_rfl
theorem Zzb:ZoI.body=Zqs:=rfl
theorem ZB2:ZoI.res=[(.cell 2 (some 14))]:=rfl
def Zd6:Ze:=(.seq (.region [oI 56 (.ld (some 26) (.t 7)),oI 16 (.alloc [(.int .i64 0),(.bool false),(.int .i64 0),(.bool false),(.int .i64 0),(.str []),(.lst true []),(.int .i64 0),(.lst true []),(.lst true []),(.lst true []),(.lst true []),(.bool false),(.int .i64 0),(.str []),(.bool false),(.str []),(.lst true []),(.int .i64 0),(.bool false),(.lst true []),(.bool false),(.str []),(.bool false),(.lst true []),(.bool false)]),oN (.st 26 (.t 16) (.t 56))] none [16,10,7,6,5,4,2,1]) (.seq (.region [oF 57 6 7,oL 58 57,oI 59 (.call 8 1 false [(.t 58)]),oF 60 6 16,oN (.st 1 (.t 60) (.t 59))] none [16,10,7,6,5,4,2,1]) (.seq (.region [oI 61 (.ld (some 26) (.t 16)),oM 62 1,oM 63 2,oM 64 4,oI 65 (.call 9 1 false [(.t 61),(.t 62),(.t 63),(.t 64)]),oI 17 (.alloc [(.str []),(.lst true []),(.int .i64 0),(.bool false),(.str []),(.int .i64 0),(.lst true []),(.int .i64 0),(.int .i64 0),(.int .i64 0)]),oN (.st 10 (.t 17) (.t 65))] none [17,16,10,7,6,5,4,2,1]) (.seq (.seq (.region [oF 66 6 16,oL 67 66,oF 68 6 7,oL 69 68,oI 70 (.call 10 0 true [(.t 67),(.t 69)]),oI 71 (.un .not (.t 70)),oM 72 71,⟨(some 73),(.ld (some 10) (.t 17)),(some (72,false)),[]⟩,⟨(some 74),(.ld (some 26) (.t 7)),(some (72,false)),[]⟩,⟨(some 75),(.mov (.t 1)),(some (72,false)),[]⟩,⟨(some 76),(.mov (.t 2)),(some (72,false)),[]⟩,⟨(some 77),(.mov (.t 4)),(some (72,false)),[]⟩,⟨(some 78),(.call 12 0 true [(.t 74),(.t 75),(.t 76),(.t 77)]),(some (72,false)),[]⟩,⟨(some 79),(.call 11 0 true [(.t 73),(.t 78)]),(some (72,false)),[]⟩,⟨(some 80),(.un .not (.t 79)),(some (72,false)),[]⟩,oI 81 (.pick (.t 72) (.c (.bool true)) (.t 80)),oM 82 81,⟨(some 83),(.ld (some 10) (.t 17)),(some (82,false)),[]⟩,⟨(some 84),(.mov (.t 4)),(some (82,false)),[]⟩,⟨(some 85),(.call 13 0 true [(.t 83),(.t 84)]),(some (82,false)),[]⟩,⟨(some 86),(.ld (some 10) (.t 17)),(some (82,false)),[]⟩,⟨(some 87),(.mov (.t 4)),(some (82,false)),[]⟩,⟨(some 88),(.call 14 0 true [(.t 86),(.t 87)]),(some (82,false)),[]⟩,⟨(some 89),(.beq true (.t 85) (.t 88)),(some (82,false)),[]⟩,oI 90 (.pick (.t 82) (.c (.bool true)) (.t 89)),oM 91 90,⟨(some 92),(.faddr 0 (.t 10)),(some (91,false)),[]⟩,⟨(some 93),(.ld (some 10) (.t 92)),(some (91,false)),[]⟩,⟨(some 94),(.mov (.t 4)),(some (91,false)),[]⟩,⟨(some 95),(.call 13 0 true [(.t 93),(.t 94)]),(some (91,false)),[]⟩,⟨(some 96),(.faddr 0 (.t 10)),(some (91,false)),[]⟩,⟨(some 97),(.ld (some 10) (.t 96)),(some (91,false)),[]⟩,⟨(some 98),(.mov (.t 4)),(some (91,false)),[]⟩,⟨(some 99),(.call 14 0 true [(.t 97),(.t 98)]),(some (91,false)),[]⟩,⟨(some 100),(.beq true (.t 95) (.t 99)),(some (91,false)),[]⟩,oI 101 (.pick (.t 91) (.c (.bool true)) (.t 100))] (some [(1,3),(7,8),(7,12),(17,20),(19,20),(27,31),(29,31),(4,4),(12,12),(13,13),(22,22),(33,33)]) [101,17,10,6,5,4]) (.cond (.t 101) (.seq (.region [oI 14 (.mov (.c (.bool false)))] none [14]) .ret) .skip)) (.seq (.region [oI 102 (.ld (some 14) (.t 10)),oM 103 4,oM 104 5,oM 105 6,oI 106 (.call 15 2 false [(.t 102),(.t 103),(.t 104),(.t 105)]),oI 18 (.alloc [(.int .i64 0),(.bool false),(.int .i64 0),(.bool false),(.int .i64 0),(.str []),(.lst true []),(.int .i64 0),(.lst true []),(.lst true []),(.lst true []),(.lst true []),(.bool false),(.int .i64 0),(.str []),(.bool false),(.str []),(.lst true []),(.int .i64 0),(.bool false),(.lst true []),(.bool false),(.str []),(.bool false),(.lst true []),(.bool false)]),oN (.st 26 (.t 18) (.t 106))] none [18,17,10,6,5,4]) (.seq (.seq (.region [oI 107 (.ld (some 26) (.t 18)),oI 108 (.ld (some 14) (.t 10)),oM 109 4,oM 110 5,oM 111 6,oI 112 (.call 17 0 true [(.t 108),(.t 109),(.t 110),(.t 111)]),oI 113 (.call 16 0 true [(.t 107),(.t 112)]),oI 114 (.un .not (.t 113))] (some [(0,1),(0,5),(5,5),(6,6)]) [114,18,17]) (.cond (.t 114) (.seq (.region [oI 14 (.mov (.c (.bool false)))] none [14]) .ret) .skip)) (.seq (.region [oI 115 (.build [(.lst true []),(.lst true []),(.lst true []),(.lst true []),(.lst true []),(.lst true [])] []),oI 116 (.box (.t 115)),oM 19 116] none [19,18,17]) (.seq (.region [oM 117 19,oF 118 1 17,oL 119 118,oI 120 (.call 18 2 true [(.t 117),(.t 119)])] none [19,18]) (.seq (.region [oM 121 19,oF 122 6 18,oL 123 122,oI 124 (.call 18 2 true [(.t 121),(.t 123)])] none [19]) (.seq (.region [oM 125 19,oI 126 (.call 19 0 true [(.t 125)]),oM 127 126,⟨(some 128),(.call 7 0 true []),(some (127,true)),[]⟩,oI 129 (.pick (.t 127) (.t 128) (.c (.bool false))),oM 14 129] none [14]) .ret))))))))))
def Zju:Ze:=Zd6
def Zgt:=xw Zju Zd6 rfl
def ZdO:Ze:=(.seq (.seq (.region [oM 32 15,oF 33 9 7,oL 34 33,oI 35 (.len (.t 34)),oI 36 (.bin .lss (.t 32) (.t 35))] none [36,15,10,7,6,5,4,2,1]) (.cond (.t 36) .skip (.exit 0))) (.seq (.block 1 (.seq (.region [oF 39 9 7,oL 40 39,oM 41 15,oI 42 (.iaddr 5 (.t 40) (.t 41)),oF 43 1 42,oL 44 43,oI 45 (.bin .lss (.t 44) (.c (.int .i64 0))),oM 46 45,⟨(some 47),(.faddr 9 (.t 7)),(some (46,false)),[]⟩,⟨(some 48),(.ld none (.t 47)),(some (46,false)),[]⟩,⟨(some 49),(.mov (.t 15)),(some (46,false)),[]⟩,⟨(some 50),(.iaddr 5 (.t 48) (.t 49)),(some (46,false)),[]⟩,⟨(some 51),(.faddr 1 (.t 50)),(some (46,false)),[]⟩,⟨(some 52),(.ld none (.t 51)),(some (46,false)),[]⟩,⟨(some 53),(.bin .geq (.t 52) (.c (.int .i64 4294967296))),(some (46,false)),[]⟩,oI 54 (.pick (.t 46) (.c (.bool true)) (.t 53))] none [54,15,10,7,6,5,4,2,1]) (.cond (.t 54) (.seq (.region [oI 55 (.call 7 0 true []),oM 14 55] none [14]) .ret) .skip))) (.region [oM 37 15,oI 38 (.bin .add (.t 37) (.c (.int .i64 1))),oM 15 38] none [15,10,7,6,5,4,2,1])))
def Znv:Ze:=ZdO
def Zgl:=xw Znv ZdO rfl
def Zee:Ze:=(.seq (.region [oI 7 (.box (.t 0)),oI 10 (.box (.t 3)),oI 14 (.mov (.c (.bool false)))] none [10,7,6,5,4,2,1]) (.seq (.region [oI 20 (.ld (some 26) (.t 7)),oI 21 (.call 4 0 true [(.t 20)]),oI 22 (.ld (some 14) (.t 10)),oI 23 (.call 5 0 true [(.t 22)]),oN (.st 26 (.t 7) (.t 21)),oN (.st 14 (.t 10) (.t 23))] (some [(0,2),(1,2),(3,3)]) [10,7,6,5,4,2,1]) (.seq (.region [oM 24 4,oI 25 (.call 6 0 true [(.t 24),(.c (.int .i64 1)),(.c (.int .i64 1099511627776))]),oM 4 25] none [10,7,6,5,4,2,1]) (.seq (.region [oF 26 0 10,oF 27 5 26,oL 28 27,oI 29 (.bin .and (.t 28) (.c (.int .i64 4611686018427387903))),oF 30 0 10,oF 31 5 30,oN (.st 1 (.t 31) (.t 29))] none [10,7,6,5,4,2,1]) (.seq (.seq (.region [oI 15 (.mov (.c (.int .i64 0)))] none [15,10,7,6,5,4,2,1]) (.block 0 (.loop [15,10,7,6,5,4,2,1] Znv))) Zju)))))
def Zij:Zae:=⟨[(.tmp 14)],Zee⟩
theorem ZAy:FC 3=some Zij:=by kernel_rfl
theorem Zf8:Zij.body=Zee:=rfl
theorem Zgj:Zij.res=[(.tmp 14)]:=rfl
noncomputable def Zdj (m:Nat) (tm:Tms) (σ:Za):Option (AVal×Za):=(ZaV m Zij (Zbk FC PR BY m Zju (Ws (Za2 0) (evL FC PR BY m [15,10,7,6,5,4,2,1] Znv tm σ))))
end
section
set_option maxRecDepth 100000
theorem ZyY:E 7 [] []=some (.bool true,[]):=Zcy.2 ⟨30,by kernel_rfl⟩
end
section
def Zl8:Ze:=(.seq (.region [oI 1 (.box (.t 0)),oI 2 (.alloc [(.int .i64 0),(.bool false),(.int .i64 0),(.bool false),(.int .i64 0),(.str []),(.lst true []),(.int .i64 0),(.lst true []),(.lst true []),(.lst true []),(.lst true []),(.bool false),(.int .i64 0),(.str []),(.bool false),(.str []),(.lst true []),(.int .i64 0),(.bool false),(.lst true []),(.bool false),(.str []),(.bool false),(.lst true []),(.bool false)])] none [2,1]) (.seq (.seq (.region [oF 3 10 1,oL 4 3,oI 5 (.len (.t 4)),oI 6 (.bin .gtr (.t 5) (.c (.int .i64 8)))] none [6,2,1]) (.cond (.t 6) (.region [oF 7 10 1,oL 8 7,oI 9 (.slice 6 (.t 8) none (some (.c (.int .i64 8))) none),oF 10 10 1,oN (.st 1 (.t 10) (.t 9))] none [2,1]) .skip)) (.seq (.seq (.region [oF 11 11 1,oL 12 11,oI 13 (.len (.t 12)),oI 14 (.bin .gtr (.t 13) (.c (.int .i64 8)))] none [14,2,1]) (.cond (.t 14) (.region [oF 15 11 1,oL 16 15,oI 17 (.slice 1 (.t 16) none (some (.c (.int .i64 8))) none),oF 18 11 1,oN (.st 1 (.t 18) (.t 17))] none [2,1]) .skip)) (.seq (.seq (.region [oF 19 8 1,oL 20 19,oI 21 (.len (.t 20)),oI 22 (.bin .gtr (.t 21) (.c (.int .i64 8)))] none [22,2,1]) (.cond (.t 22) (.region [oF 23 8 1,oL 24 23,oI 25 (.slice 1 (.t 24) none (some (.c (.int .i64 8))) none),oF 26 8 1,oN (.st 1 (.t 26) (.t 25))] none [2,1]) .skip)) (.seq (.seq (.region [oF 27 9 1,oL 28 27,oI 29 (.len (.t 28)),oI 30 (.bin .gtr (.t 29) (.c (.int .i64 12)))] none [30,2,1]) (.cond (.t 30) (.region [oF 31 9 1,oL 32 31,oI 33 (.slice 5 (.t 32) none (some (.c (.int .i64 12))) none),oF 34 9 1,oN (.st 1 (.t 34) (.t 33))] none [2,1]) .skip)) (.seq (.seq (.region [oF 35 16 1,oF 36 4 35,oL 37 36,oI 38 (.len (.t 37)),oI 39 (.bin .gtr (.t 38) (.c (.int .i64 12)))] none [39,2,1]) (.cond (.t 39) (.region [oF 40 16 1,oF 41 4 40,oL 42 41,oI 43 (.slice 5 (.t 42) none (some (.c (.int .i64 12))) none),oF 44 16 1,oF 45 4 44,oN (.st 1 (.t 45) (.t 43))] none [2,1]) .skip)) (.seq (.region [oF 46 6 1,oL 47 46,oI 48 (.call 20 0 true [(.t 47),(.c (.int .i64 600))]),oF 49 24 1,oL 50 49,oI 51 (.call 20 0 true [(.t 50),(.c (.int .i64 100))]),oF 52 16 1,oF 53 1 52,oL 54 53,oI 55 (.call 20 0 true [(.t 54),(.c (.int .i64 100))]),oF 56 6 1,oN (.st 1 (.t 56) (.t 48)),oF 57 24 1,oN (.st 1 (.t 57) (.t 51)),oF 58 16 1,oF 59 1 58,oN (.st 1 (.t 59) (.t 55))] (some [(1,4),(2,4),(1,8),(2,8),(4,8),(5,8)]) [2,1]) (.seq (.region [oI 60 (.ld (some 26) (.t 1)),oN (.st 26 (.t 2) (.t 60))] none [2]) .ret))))))))
def Zjk:Zae:=⟨[(.cell 2 (some 26))],Zl8⟩
theorem ZzQ:FC 4=some Zjk:=by kernel_rfl
theorem ZBQ:Zjk.body=Zl8:=rfl
theorem ZAg:Zjk.res=[(.cell 2 (some 26))]:=rfl
end
section
theorem ZhU (σ:Za) (sq own:Nat) (view:Bool):ZS E BY σ sq 7 own view []=some (.bool true,σ,{}) :=
 ZcJ (ZyY) (by kernel_rfl) (by simp -implicitDefEqProofs only [ZbM,ZbP,Zx,ZA,Zv,ZbH,Zw,Zz,ZbI,Zy,eq_self,implies_true,Xt,Zl,Zk,Zr,Zc,Zs,Zl]) (by simp -implicitDefEqProofs only [ZbM,ZbP,Zx,ZA,Zv,ZbH,Zw,Zz,ZbI,Zy,eq_self,implies_true,Xt,Zl,Zk,Zr,Zc,Zs,Zl]) rfl (fun _=>rfl) _ _ _ _
theorem Zx3 (b:ZV) (n:Int) (h0:0<=n):E 20 [Zk b,.int .i64 n] []=some (Zk (b.take n.toNat),[]):=by
 rw [Zar (by rfl) ZBN]
 by_cases h:n < (b.length:Int)
 ·have hl:n<=(b.length:Int):=by omega
  simp -implicitDefEqProofs only [EQA,Zx,ZA,Zv,Zw,Zz,Zy,ZJ,ZN,ZP,ZM,ZL,ZO,ZI,ZK,ZQ,implies_true,forall_const,Xh,Xj,Xm,Xe,Xf,Xk,Xl,ZE,ZG,unA,Zt,ZC,unG,reduceCtorEq,Zj,decide_eq_true_eq,Xg,Xc,ite_self,↓reduceIte,Zu,ZF,gcT,gcA,Zn,Zg,Zf,Zh,Zo,Zd,Zm,Zi,Zp,Xd,Zv7,Zg5,ZwO,Zl,Zk,Zr,Zc,Zs,ZH,h0,h,hl,gt_iff_lt,ZmE]
 ·have hl:b.take n.toNat=b:=XQ (by omega)
  simp -implicitDefEqProofs only [EQA,Zx,ZA,Zv,Zw,Zz,Zy,ZJ,ZN,ZP,ZM,ZL,ZO,ZI,ZK,ZQ,implies_true,forall_const,Xh,Xj,Xm,Xe,Xf,Xk,Xl,ZE,ZG,unA,Zt,ZC,unG,reduceCtorEq,Zj,decide_eq_true_eq,Xg,Xc,ite_self,↓reduceIte,Zu,ZF,gcT,gcA,Zn,Zg,Zf,Zh,Zo,Zd,Zm,Zi,Zp,Xd,Zv7,Zg5,ZwO,Zl,Zk,Zr,Zc,Zs,ZH,h,hl,gt_iff_lt]
theorem ZtU (σ:Za) (sq own:Nat) (view:Bool) (b:ZV) (n:Int) (h0:0<=n):ZS E BY σ sq 20 own view [.lst false (b.map Zb),.int .i64 n]=some (.lst false ((b.take n.toNat).map Zb),σ,{}) :=
 ZcJ (Zx3 b n h0) (by kernel_rfl) (by simp -implicitDefEqProofs only [ZbM,ZbP,Zx,ZA,Zv,ZbH,Zw,Zz,ZbI,Zy,eq_self,implies_true,Xt,Zl,Zk,Zr,Zc,Zs,Zl]) (by simp -implicitDefEqProofs only [ZbM,ZbP,Zx,ZA,Zv,ZbH,Zw,Zz,ZbI,Zy,eq_self,implies_true,Xt,Zl,Zk,Zr,Zc,Zs,Zl]) rfl (fun _=>rfl) _ _ _ _
theorem Zlw {α:Type} (l:List α):((8:Int) < l.length/\(8:Int)<=l.length)\/(¬(8:Int) < l.length/\l.take 8=l):=by
 by_cases h:(8:Int) < l.length
 ·exact Xz ⟨h,by omega⟩
 ·exact XG ⟨h,XQ (by omega)⟩
theorem ZtH {α:Type} (l:List α):((12:Int) < l.length/\(12:Int)<=l.length)\/(¬(12:Int) < l.length/\l.take 12=l):=by
 by_cases h:(12:Int) < l.length
 ·exact Xz ⟨h,by omega⟩
 ·exact XG ⟨h,XQ (by omega)⟩
def Z5 (p:Zb0):Zb0:={ p with subs:=p.subs.take 8,filters:=p.filters.take 8,codes:=p.codes.take 8,props:=p.props.take 12,payload:=p.payload.take 600,password:=p.password.take 100,will:={ p.will with props:=p.will.props.take 12,data:=p.will.data.take 100 } }
theorem ZxW (p:Zb0):E 4 [.agg [.int .i64 p.type,.bool p.dup,.int .i64 p.qos,.bool p.retain,.int .i64 p.id,.str p.topic,.lst false (p.payload.map Zb),.int .i64 p.code,.lst false (p.codes.map (AVal.int .i64)),.lst false (p.props.map Zc),.lst false (p.subs.map Zb3),.lst false (p.filters.map AVal.str),.bool p.clean,.int .i64 p.keep,.str p.client,.bool p.hasWill,.str p.will.topic,.lst false (p.will.data.map Zb),.int .i64 p.will.qos,.bool p.will.retain,.lst false (p.will.props.map Zc),.bool p.hasUser,.str p.user,.bool p.hasPassword,.lst false (p.password.map Zb),.bool p.present]] []=some (.agg [.int .i64 (Z5 p).type,.bool (Z5 p).dup,.int .i64 (Z5 p).qos,.bool (Z5 p).retain,.int .i64 (Z5 p).id,.str (Z5 p).topic,.lst false ((Z5 p).payload.map Zb),.int .i64 (Z5 p).code,.lst false ((Z5 p).codes.map (AVal.int .i64)),.lst false ((Z5 p).props.map Zc),.lst false ((Z5 p).subs.map Zb3),.lst false ((Z5 p).filters.map AVal.str),.bool (Z5 p).clean,.int .i64 (Z5 p).keep,.str (Z5 p).client,.bool (Z5 p).hasWill,.str (Z5 p).will.topic,.lst false ((Z5 p).will.data.map Zb),.int .i64 (Z5 p).will.qos,.bool (Z5 p).will.retain,.lst false ((Z5 p).will.props.map Zc),.bool (Z5 p).hasUser,.str (Z5 p).user,.bool (Z5 p).hasPassword,.lst false ((Z5 p).password.map Zb),.bool (Z5 p).present],[]):=by
 rw [Zar (by rfl) ZzQ]
 have k6:(600:Int).toNat=600:=rfl
 have k1:(100:Int).toNat=100:=rfl
 unfold Z5
 rcases Zlw p.subs with ⟨h1,h2⟩ | ⟨h1,h2⟩ <;> rcases Zlw p.filters with ⟨h3,h4⟩ | ⟨h3,h4⟩ <;> rcases Zlw p.codes with ⟨h5,h6⟩ | ⟨h5,h6⟩ <;> rcases ZtH p.props with ⟨h7,h8⟩ | ⟨h7,h8⟩ <;> rcases ZtH p.will.props with ⟨h9,h10⟩ | ⟨h9,h10⟩
 all_goals simp -implicitDefEqProofs only [EQA,Zx,ZA,Zv,Zw,Zz,Zy,ZJ,ZN,ZP,ZM,ZL,ZO,ZI,ZK,ZQ,implies_true,forall_const,Xh,Xj,Xm,Xe,Xf,Xk,Xl,ZE,ZG,unA,Zt,ZC,unG,reduceCtorEq,Zj,decide_eq_true_eq,Xg,Xc,ite_self,↓reduceIte,Zu,ZF,gcT,gcA,Zn,Zg,Zf,Zh,Zo,Zd,Zm,Zi,Zp,Xd,ZBQ,Zl8,ZAg,Zl,Zk,Zr,Zc,Zs,ZH,gt_iff_lt,ZtU,ZmE,h1,h2,h3,h4,h5,h6,h7,h8,h9,h10,k6,k1,WR,W8,Zaa,Z6,Z9,Z8,Zac,Zab,Z7,Xi,Xn]
def Zbb (it:Zbt):Zbt:=⟨⟨it.note.topic,it.note.payload.take 600,it.note.qos,it.note.retain,it.note.sender,it.note.expires,it.note.props.take 8,it.note.origin,it.note.number,it.note.hops⟩,it.qos,it.retain,it.ids.take 8,it.share⟩
theorem Zvz {α:Type} (l:List α):((8:Int) < l.length/\(8:Int)<=l.length)\/(¬(8:Int) < l.length/\l.take 8=l):=by
 by_cases h:(8:Int) < l.length
 ·exact Xz ⟨h,by omega⟩
 ·exact XG ⟨h,XQ (by omega)⟩
theorem ZxJ (it:Zbt):E 5 [ZdR it] []=some (ZdR (Zbb it),[]):=by
 rw [Zar (by rfl) ZyV]
 rcases Zvz it.note.props with ⟨h1,h2⟩ | ⟨h1,h2⟩ <;> rcases Zvz it.ids with ⟨h3,h4⟩ | ⟨h3,h4⟩
 all_goals simp -implicitDefEqProofs only [EQA,Zx,ZA,Zv,Zw,Zz,Zy,ZJ,ZN,ZP,ZM,ZL,ZO,ZI,ZK,ZQ,implies_true,forall_const,Xh,Xj,Xm,Xe,Xf,Xk,Xl,ZE,ZG,unA,Zt,ZC,unG,reduceCtorEq,Zj,decide_eq_true_eq,Xg,Xc,ite_self,↓reduceIte,Zu,ZF,gcT,gcA,Zn,Zg,Zf,Zh,Zo,Zd,Zm,Zi,Zp,Xd,Zzb,Zqs,ZB2,Zl,Zk,Zr,Zc,Zs,ZH,ZdR,ZiV,Zbb,gt_iff_lt,ZtU,ZmE,h1,h2,h3,h4,WR,W8]
theorem ZyA (σ:Za) (sq own:Nat) (view:Bool) (a:Zbt):ZS E BY σ sq 5 own view [.agg [.str a.note.topic,.lst false (a.note.payload.map Zb),.int .i64 a.note.qos,.bool a.note.retain,.str a.note.sender,.int .i64 a.note.expires,.lst false (a.note.props.map Zc),.int .i64 a.note.origin,.int .i64 a.note.number,.int .i64 a.note.hops,.int .i64 a.qos,.bool a.retain,.lst false (a.ids.map (.int .i64 ·)),.str a.share]]=some (.agg [.str (Zbb a).note.topic,.lst false ((Zbb a).note.payload.map Zb),.int .i64 (Zbb a).note.qos,.bool (Zbb a).note.retain,.str (Zbb a).note.sender,.int .i64 (Zbb a).note.expires,.lst false ((Zbb a).note.props.map Zc),.int .i64 (Zbb a).note.origin,.int .i64 (Zbb a).note.number,.int .i64 (Zbb a).note.hops,.int .i64 (Zbb a).qos,.bool (Zbb a).retain,.lst false ((Zbb a).ids.map (.int .i64 ·)),.str (Zbb a).share],σ,{}) :=
 ZcJ (ZxJ a) (by kernel_rfl) (by simp -implicitDefEqProofs only [ZbM,ZbP,Zx,ZA,Zv,ZbH,Zw,Zz,ZbI,Zy,eq_self,implies_true,Xt,Zl,Zk,Zr,Zc,Zs,ZdR,ZiV]) (by simp -implicitDefEqProofs only [ZbM,ZbP,Zx,ZA,Zv,ZbH,Zw,Zz,ZbI,Zy,eq_self,implies_true,Xt,Zl,Zk,Zr,Zc,Zs,ZdR,ZiV]) rfl (fun _=>rfl) _ _ _ _
theorem Zw8 (p:Zb0) (σ:Za) (sq own:Nat):ZS E BY σ sq 4 own true [.agg [.int .i64 p.type,.bool p.dup,.int .i64 p.qos,.bool p.retain,.int .i64 p.id,.str p.topic,.lst false (p.payload.map Zb),.int .i64 p.code,.lst false (p.codes.map (AVal.int .i64)),.lst false (p.props.map Zc),.lst false (p.subs.map Zb3),.lst false (p.filters.map AVal.str),.bool p.clean,.int .i64 p.keep,.str p.client,.bool p.hasWill,.str p.will.topic,.lst false (p.will.data.map Zb),.int .i64 p.will.qos,.bool p.will.retain,.lst false (p.will.props.map Zc),.bool p.hasUser,.str p.user,.bool p.hasPassword,.lst false (p.password.map Zb),.bool p.present]]=some (.agg [.int .i64 (Z5 p).type,.bool (Z5 p).dup,.int .i64 (Z5 p).qos,.bool (Z5 p).retain,.int .i64 (Z5 p).id,.str (Z5 p).topic,.lst false ((Z5 p).payload.map Zb),.int .i64 (Z5 p).code,.lst false ((Z5 p).codes.map (AVal.int .i64)),.lst false ((Z5 p).props.map Zc),.lst false ((Z5 p).subs.map Zb3),.lst false ((Z5 p).filters.map AVal.str),.bool (Z5 p).clean,.int .i64 (Z5 p).keep,.str (Z5 p).client,.bool (Z5 p).hasWill,.str (Z5 p).will.topic,.lst false ((Z5 p).will.data.map Zb),.int .i64 (Z5 p).will.qos,.bool (Z5 p).will.retain,.lst false ((Z5 p).will.props.map Zc),.bool (Z5 p).hasUser,.str (Z5 p).user,.bool (Z5 p).hasPassword,.lst false ((Z5 p).password.map Zb),.bool (Z5 p).present],σ,{}) :=
 Zeg (ZxW p) (by kernel_rfl) (by rfl) rfl rfl (fun _=>rfl) σ sq own
theorem Zye (n lo hi:Int) (h0:0<=lo) (h1:lo<=hi) (h2:hi<=4611686018427387904):∃ k:Int,(lo<=k/\k<=hi)/\E 6 [.int .i64 n,.int .i64 lo,.int .i64 hi] []=some (.int .i64 k,[]):=by
 have w1:IntKind.i64.wrap (hi - lo)=hi - lo:=ZcI (by omega) (by omega)
 have w2:IntKind.i64.wrap (hi - lo+1)=hi - lo+1:=ZcI (by omega) (by omega)
 generalize hw:hi - lo+1=w at w2
 have hz:(w=0)=False:=by simp;omega
 have hb:-w < n.tmod w/\n.tmod w < w:=⟨Int.lt_tmod_of_pos n (by omega),Int.tmod_lt_of_pos n (by omega)⟩
 by_cases h:n.tmod w < 0
 ·refine ⟨lo+(n.tmod w+w),by omega,?_⟩
  have w3:IntKind.i64.wrap (n.tmod w+w)=n.tmod w+w:=ZcI (by omega) (by omega)
  have w4:IntKind.i64.wrap (lo+(n.tmod w+w))=lo+(n.tmod w+w):=ZcI (by omega) (by omega)
  rw [Zar (by rfl) Zwb]
  simp -implicitDefEqProofs only [EQA,Zx,ZA,Zv,Zw,Zz,Zy,ZJ,ZN,ZP,ZM,ZL,ZO,ZI,ZK,ZQ,implies_true,forall_const,Xh,Xj,Xm,Xe,Xf,Xk,Xl,ZE,ZG,unA,Zt,ZC,unG,reduceCtorEq,Zj,decide_eq_true_eq,Xg,Xc,ite_self,↓reduceIte,Zu,ZF,gcT,gcA,Zn,Zg,Zf,Zh,Zo,Zd,Zm,Zi,Zp,Xd,ZtZ,Zhn,ZuY,Zl,Zk,Zr,Zc,Zs,ZH,w1,hw,w2,w3,w4,hz,h]
 ·refine ⟨lo+n.tmod w,by omega,?_⟩
  have w4:IntKind.i64.wrap (lo+n.tmod w)=lo+n.tmod w:=ZcI (by omega) (by omega)
  rw [Zar (by rfl) Zwb]
  simp -implicitDefEqProofs only [EQA,Zx,ZA,Zv,Zw,Zz,Zy,ZJ,ZN,ZP,ZM,ZL,ZO,ZI,ZK,ZQ,implies_true,forall_const,Xh,Xj,Xm,Xe,Xf,Xk,Xl,ZE,ZG,unA,Zt,ZC,unG,reduceCtorEq,Zj,decide_eq_true_eq,Xg,Xc,ite_self,↓reduceIte,Zu,ZF,gcT,gcA,Zn,Zg,Zf,Zh,Zo,Zd,Zm,Zi,Zp,Xd,ZtZ,Zhn,ZuY,Zl,Zk,Zr,Zc,Zs,ZH,w1,hw,w2,w4,hz,h]
theorem Zx1 (n lo hi:Int) (h0:0<=lo) (h1:lo<=hi) (h2:hi<=4611686018427387904):∃ k:Int,(lo<=k/\k<=hi)/\∀ (σ:Za) (sq own:Nat) (view:Bool),ZS E BY σ sq 6 own view [.int .i64 n,.int .i64 lo,.int .i64 hi]=some (.int .i64 k,σ,{}):=by
 obtain ⟨k,hk,h⟩:=Zye n lo hi h0 h1 h2
 exact ⟨k,hk,fun σ sq own view=>ZcJ h (by kernel_rfl) rfl rfl rfl (fun _=>rfl) _ _ _ _⟩
theorem Zx0 (σ:Za) (sq:Nat) (b:ZV) (hb:b.length<=140737488355326) (hs:freeAt σ sq=true):ZS E BY σ sq 8 1 false [.lst false (b.map Zb)]=some (.sl sq 0 0 b.length,σ.set sq (.row 0 1 (b.map Zb++[.int .u8 165,.int .u8 90])),{}):=by
 have h:=ZnX (bf:=BY) (ZxO b hb) rfl rfl σ sq hs
 have hf:(ZbJ b).all ZaM=true:=by unfold ZbJ;rw [List.all_append,ZuI];rfl
 rw [hf] at h
 exact h
theorem ZzO (b:ZV) (hb:b.length<=140737488355326):∃ X',∀ (σ:Za) (sq t:Nat),σ[t]?=some (.row 0 1 (b.map Zb++[.int .u8 165,.int .u8 90]))->ZS E BY σ sq 10 0 true [.sl t 0 0 b.length,.lst false (b.map Zb)]=some (.bool true,σ.set t (.row 0 1 X'),{ any:=true }):=by
 obtain ⟨X',h⟩:=ZAl b hb
 refine ⟨X',fun σ sq t hs=>?_⟩
 refine Zv9 (args':=[.sl 0 0 0 b.length,Zk b]) hs (by kernel_rfl) rfl rfl (fun ρ h=>by simp only [ZU,Zq,h];rfl) (fun ρ=>rfl) (Xz rfl) ?_
 have h':=h
 unfold ZbJ at h'
 rw [h']
 unfold Zai
 rw [if_pos rfl]
 simp [Zbd,viewR,Zaw,Zaj,ZB,gcA,Zn,Zg,ZX,Z3,ZU,Zq,Zh,Zp,Zm,Zd,Zi,Xd]
theorem ZCu {O:ZW} {bf:Nat->Bool} {σ:Za} {t sq f k k2:Nat} {args args' xs ys:List AVal} {r r':AVal} (hs:σ[t]?=some (.row 0 k xs)) (hb:bf f=true) (hf:freeAt σ sq=true)
  (href:ZX args=[t]) (hren:∀ ρ:Rho,ρ t 0=some (0,0)->ZU ρ args=args') (hr:∀ ρ:Rho,ρ 1 0=some (sq,0)->Zq ρ r=r')
  (h:O f args' [.row 0 k xs]=some (r,[.row 0 k xs,.row 0 k2 ys])):ZS O bf σ sq f 1 false args=some (r',(σ.set t (.row 0 k xs)).set sq (.row 0 k2 ys),{ any:=true }):=by
 have hd:σ.getD t .free=.row 0 k xs:=by simp [Xq,hs]
 have hf0:ZB σ []=σ:=rfl
 have hff:Zbq σ sq 1=true:=by simp [Zbq,hf]
 unfold ZS ZbS
 rw [hb]
 simp only [if_true,hf0,href]
 have hreach:Zg σ 1000 [t] []=[t]:=by
  simp only [Zg,Xas,Xt,if_false,hd,Zp,X7]
 rw [hreach]
 unfold Zbr
 have hall:([t].all fun t=>okB (σ.getD t .free))=true:=by simp [Xs,Xu,hs,okB]
 rw [if_pos hall]
 have hρ:Zf σ 0 [t] t 0=some (0,0):=by simp [Zf,Zo,hs,Zd,Zm]
 have hheap:Zh σ 0 [t] (Zf σ 0 [t]) [t] 0=[.row 0 k xs]:=by
  simp only [Zh,hd,Zm,Zd,Zi,Nat.not_lt_zero,false_and,if_false]
 rw [hren _ hρ,hheap]
 rw [h]
 have hk:Zbm σ [t] [.row 0 k xs,.row 0 k2 ys] 0=true:=by simp [Zbm,okB,hs,Zel,Zd]
 have htl:t < σ.length:=(Xo.1 hs).1
 have hne:t≠sq:=by
  rintro rfl
  simp [freeAt,hs] at hf
 have hρ2:ZaQ σ [t] sq 1 0=some (sq,0):=by simp [ZaQ]
 simp only [Zai,Xt,if_false,Zak,Xab,WM,Xw,Xx,XC,Xh,X5,decide_true,hk,hff,Wu,if_true,Xe,hr _ hρ2]
 simp only [Za6,ZaI,Xi,Zbx,XM,hd,Zd,Zi,ZbA,XX,List.getElem?_nil,X9]
 have : [t].getD 1 (sq+(1 - [t].length))=sq:=by simp
 simp only [XC,this]
 have hg:((σ.set t (.row 0 k xs)).set sq (.row 0 k2 ys))[t]?=some (.row 0 k xs):=by
  rw [Wz (fun e=>hne e.symm)]
  simp [htl]
 rw [hg]
end
section
theorem ZCk (p:Zb0) (X:List AVal) (hpl:p.payload.length<=140737488355328) (hl:p.props.length*72<=140737488355328) (hd:∀ q ∈ p.props,q.data.length<=140737488355328) (topic sender:ZV) (now:Int) (σ:Za) (sq t:Nat) (hs:σ[t]?=some (.row 0 1 (p.payload.map Zb++X))) (hf:freeAt σ sq=true) :
  ZS E BY σ sq 9 1 false [.agg [.int .i64 p.type,.bool p.dup,.int .i64 p.qos,.bool p.retain,.int .i64 p.id,.str p.topic,.sl t 0 0 p.payload.length,.int .i64 p.code,.lst false (p.codes.map (AVal.int .i64)),.lst false (p.props.map Zc),.lst false (p.subs.map Zb3),.lst false (p.filters.map AVal.str),.bool p.clean,.int .i64 p.keep,.str p.client,.bool p.hasWill,.str p.will.topic,.lst false (p.will.data.map Zb),.int .i64 p.will.qos,.bool p.will.retain,.lst false (p.will.props.map Zc),.bool p.hasUser,.str p.user,.bool p.hasPassword,.lst false (p.password.map Zb),.bool p.present],.str topic,.str sender,.int .i64 now]=some (.agg [.str topic,.sl sq 0 0 p.payload.length,.int .i64 p.qos,.bool p.retain,.str sender,.int .i64 (ZbC p.props now),.lst false ((Zbj p.props).map Zc),.int .i64 0,.int .i64 0,.int .i64 0],(σ.set t (.row 0 1 (p.payload.map Zb++X))).set sq (.row 0 1 (p.payload.map Zb)),{ any:=true }):=by
 have h:=Zx5 p.payload X hpl p.qos p.retain p.props hl hd topic sender now (.int .i64 p.type) (.bool p.dup) (.int .i64 p.id) (.str p.topic) (.int .i64 p.code) (.lst false (p.codes.map (AVal.int .i64))) (.lst false (p.subs.map Zb3)) (.lst false (p.filters.map AVal.str)) (.bool p.clean) (.int .i64 p.keep) (.str p.client) (.bool p.hasWill) (.str p.will.topic) (.lst false (p.will.data.map Zb)) (.int .i64 p.will.qos) (.bool p.will.retain) (.lst false (p.will.props.map Zc)) (.bool p.hasUser) (.str p.user) (.bool p.hasPassword) (.lst false (p.password.map Zb)) (.bool p.present)
 exact ZCu hs (by kernel_rfl) hf rfl (fun ρ h=>by simp only [ZU,Zq,h]) (fun ρ h=>by simp only [ZU,Zq,h]) h
theorem ZBV (p:Zb0) (hpl:p.payload.length<=140737488355328) (hl:p.props.length*72<=140737488355328) (topic sender:ZV) (now:Int) (σ:Za) (sq:Nat) :
  ZS E BY σ sq 12 0 true [.agg [.int .i64 p.type,.bool p.dup,.int .i64 p.qos,.bool p.retain,.int .i64 p.id,.str p.topic,.lst false (p.payload.map Zb),.int .i64 p.code,.lst false (p.codes.map (AVal.int .i64)),.lst false (p.props.map Zc),.lst false (p.subs.map Zb3),.lst false (p.filters.map AVal.str),.bool p.clean,.int .i64 p.keep,.str p.client,.bool p.hasWill,.str p.will.topic,.lst false (p.will.data.map Zb),.int .i64 p.will.qos,.bool p.will.retain,.lst false (p.will.props.map Zc),.bool p.hasUser,.str p.user,.bool p.hasPassword,.lst false (p.password.map Zb),.bool p.present],.str topic,.str sender,.int .i64 now]=some (ZbU (ofD p.payload p.qos p.retain p.props topic sender now),σ,{}):=by
 have h:=ZzT p.payload hpl p.qos p.retain p.props hl topic sender now (.int .i64 p.type) (.bool p.dup) (.int .i64 p.id) (.str p.topic) (.int .i64 p.code) (.lst false (p.codes.map (AVal.int .i64))) (.lst false (p.subs.map Zb3)) (.lst false (p.filters.map AVal.str)) (.bool p.clean) (.int .i64 p.keep) (.str p.client) (.bool p.hasWill) (.str p.will.topic) (.lst false (p.will.data.map Zb)) (.int .i64 p.will.qos) (.bool p.will.retain) (.lst false (p.will.props.map Zc)) (.bool p.hasUser) (.str p.user) (.bool p.hasPassword) (.lst false (p.password.map Zb)) (.bool p.present)
 rw [ZcW (by kernel_rfl) rfl]
 simp only [Xv,XK,Zag,ZaF]
 rw [h]
 unfold Zai
 rw [if_pos rfl]
 have hv:=ZAR (t:=0) (m:=0) (σ:=[.row 0 1 (p.payload.map Zb)]) rfl (by omega) topic sender p.qos p.retain (ZbC p.props now) ((Zbj p.props).map Zc)
 rw [XH] at hv
 show Zak σ σ [] [] sq 0 (match viewR _ _ with | some (r',ts)=>(match gcA 0 [r'] (ZB _ ts) with | ([r''],σ')=>some (r'',σ') | _=>none) | none=>none)=_
 rw [hv]
 simp [Zak,Za4,ZaM,ZaK,ZB,gcA,Zn,Zg,ZX,Z3,ZU,Zq,Zh,Zp,Zm,Zd,Zi,Xd,ZbU,Zdu,ofD,Zk,Zr]
theorem ZsR {t:Nat} {σ:Za} {R:List AVal} (hs:σ[t]?=some (.row 0 1 R)) (topic sender:ZV) (qos:Int) (rt:Bool) (e:Int) (ps:List AVal) (n:Nat) (hn:n=R.length):showA σ (.agg [.str topic,.sl t 0 0 n,.int .i64 qos,.bool rt,.str sender,.int .i64 e,.lst false ps,.int .i64 0,.int .i64 0,.int .i64 0])=some (.agg [.str topic,.lst false R,.int .i64 qos,.bool rt,.str sender,.int .i64 e,.lst false ps,.int .i64 0,.int .i64 0,.int .i64 0],[t]):=by
 subst hn
 simp [showA,ZbG,ZbE,Zj,hs]
theorem ZBk (p:Zb0) (hk:(Zbj p.props).length<=9223372036854775807) (topic sender:ZV) (now:Int) (σ:Za) (sq t:Nat) (hs:σ[t]?=some (.row 0 1 (p.payload.map Zb))) :
  ZS E BY σ sq 11 0 true [.agg [.str topic,.sl t 0 0 p.payload.length,.int .i64 p.qos,.bool p.retain,.str sender,.int .i64 (ZbC p.props now),.lst false ((Zbj p.props).map Zc),.int .i64 0,.int .i64 0,.int .i64 0],ZbU (ofD p.payload p.qos p.retain p.props topic sender now)]=some (.bool true,σ,{ rd:=[t] }):=by
 have h:=ZCc (ofD p.payload p.qos p.retain p.props topic sender now) (ofD p.payload p.qos p.retain p.props topic sender now) hk
 have e:Zhr (ofD p.payload p.qos p.retain p.props topic sender now) (ofD p.payload p.qos p.retain p.props topic sender now)=true:=by simp [Zhr]
 rw [e] at h
 refine Zf2 (vs:=[ZbU (ofD p.payload p.qos p.retain p.props topic sender now),ZbU (ofD p.payload p.qos p.retain p.props topic sender now)]) (by kernel_rfl) ?_ rfl rfl h rfl rfl sq 0
 have h1:=ZsR hs topic sender p.qos p.retain (ZbC p.props now) ((Zbj p.props).map Zc) p.payload.length (by simp)
 show showAs σ [_,_]=_
 simp only [showAs]
 rw [h1]
 rfl
theorem Zzl (p:Zb0) (topic sender:ZV) (now:Int) (σ:Za) (sq t:Nat) (hs:σ[t]?=some (.row 0 1 (p.payload.map Zb))) :
  ZS E BY σ sq 13 0 true [.agg [.str topic,.sl t 0 0 p.payload.length,.int .i64 p.qos,.bool p.retain,.str sender,.int .i64 (ZbC p.props now),.lst false ((Zbj p.props).map Zc),.int .i64 0,.int .i64 0,.int .i64 0],.int .i64 now]=some (.bool (ZbC p.props now != 0 && decide (now>=ZbC p.props now)),σ,{ rd:=[t] }):=by
 have h:=Zv8 (ofD p.payload p.qos p.retain p.props topic sender now) now
 refine Zf2 (vs:=[ZbU (ofD p.payload p.qos p.retain p.props topic sender now),.int .i64 now]) (by kernel_rfl) ?_ rfl rfl h rfl rfl sq 0
 have h1:=ZsR hs topic sender p.qos p.retain (ZbC p.props now) ((Zbj p.props).map Zc) p.payload.length (by simp)
 show showAs σ [_,_]=_
 simp only [showAs]
 rw [h1]
 rfl
theorem Zuy (n:Zb4) (now:Int):E 14 [.agg [.str n.topic,.lst false (n.payload.map Zb),.int .i64 n.qos,.bool n.retain,.str n.sender,.int .i64 n.expires,.lst false (n.props.map Zc),.int .i64 n.origin,.int .i64 n.number,.int .i64 n.hops],.int .i64 now] []=some (.bool (n.expires != 0 && decide (now>=n.expires)),[]):=by
 rw [Zar (by rfl) ZyS]
 simp -implicitDefEqProofs only [EQA,Zx,ZA,Zv,Zw,Zz,Zy,ZJ,ZN,ZP,ZM,ZL,ZO,ZI,ZK,ZQ,implies_true,forall_const,Xh,Xj,Xm,Xe,Xf,Xk,Xl,ZE,ZG,unA,Zt,ZC,unG,reduceCtorEq,Zj,decide_eq_true_eq,Xg,Xc,ite_self,↓reduceIte,Zu,ZF,gcT,gcA,Zn,Zg,Zf,Zh,Zo,Zd,Zm,Zi,Zp,Xd,ZCm,Zow,ZAt,Zl,Zk,Zr,Zc,Zs,ZH,AVal.cells]
theorem Zxp (σ:Za) (sq own:Nat) (view:Bool) (n:Zb4) (now:Int):ZS E BY σ sq 14 own view [.agg [.str n.topic,.lst false (n.payload.map Zb),.int .i64 n.qos,.bool n.retain,.str n.sender,.int .i64 n.expires,.lst false (n.props.map Zc),.int .i64 n.origin,.int .i64 n.number,.int .i64 n.hops],.int .i64 now]=some (.bool (n.expires != 0 && decide (now>=n.expires)),σ,{}) :=
 ZcJ (Zuy n now) (by kernel_rfl) (by simp -implicitDefEqProofs only [ZbM,ZbP,Zx,ZA,Zv,ZbH,Zw,Zz,ZbI,Zy,eq_self,implies_true,Xt,Zl,Zk,Zr,Zc,Zs,ZbU,Zdu]) (by simp -implicitDefEqProofs only [ZbM,ZbP,Zx,ZA,Zv,ZbH,Zw,Zz,ZbI,Zy,eq_self,implies_true,Xt,Zl,Zk,Zr,Zc,Zs,ZbU,Zdu]) rfl (fun _=>rfl) _ _ _ _
theorem ZCB (p:Zb0) (topic sender:ZV) (now:Int) (σ:Za) (sq t:Nat) (hs:σ[t]?=some (.row 0 1 (p.payload.map Zb))) :
  ZS E BY σ sq 14 0 true [.agg [.str topic,.sl t 0 0 p.payload.length,.int .i64 p.qos,.bool p.retain,.str sender,.int .i64 (ZbC p.props now),.lst false ((Zbj p.props).map Zc),.int .i64 0,.int .i64 0,.int .i64 0],.int .i64 now]=some (.bool (ZbC p.props now != 0 && decide (now>=ZbC p.props now)),σ,{ rd:=[t] }):=by
 have h:=Zuy (ofD p.payload p.qos p.retain p.props topic sender now) now
 refine Zf2 (vs:=[ZbU (ofD p.payload p.qos p.retain p.props topic sender now),.int .i64 now]) (by kernel_rfl) ?_ rfl rfl h rfl rfl sq 0
 have h1:=ZsR hs topic sender p.qos p.retain (ZbC p.props now) ((Zbj p.props).map Zc) p.payload.length (by simp)
 show showAs σ [_,_]=_
 simp only [showAs]
 rw [h1]
 rfl
def Zcv (it:Zbt) (dup:Bool):Bool:=if it.qos > 0 then dup else false
def idO (it:Zbt) (id:Int):Int:=if it.qos > 0 then id else 0
theorem Zyi (it:Zbt) (now id:Int) (dup:Bool) (hp:it.note.payload.length<=140737488355328) (hl:it.note.props.length<=600000000) (hd:∀ p ∈ it.note.props,p.data.length<=140737488355328) (hi:it.ids.length<=1000000) (σ:Za) (sq:Nat) (h0:σ[sq]?=some .free) (h1:σ[sq+1]?=some .free) :
  ZS E BY σ sq 15 2 false [.agg [.str it.note.topic,.lst false (it.note.payload.map Zb),.int .i64 it.note.qos,.bool it.note.retain,.str it.note.sender,.int .i64 it.note.expires,.lst false (it.note.props.map Zc),.int .i64 it.note.origin,.int .i64 it.note.number,.int .i64 it.note.hops,.int .i64 it.qos,.bool it.retain,.lst false (it.ids.map (.int .i64 ·)),.str it.share],.int .i64 now,.int .i64 id,.bool dup]=some (.agg (Za3 (Zcv it dup) it.qos it.retain (idO it id) it.note.topic (.sl sq 0 0 it.note.payload.length) (.sl (sq+1) 0 0 (Za5 it now).length)),(σ.set sq (.row 0 1 (it.note.payload.map Zb))).set (sq+1) (.row 0 5 ((Za5 it now).map Zc)),{ any:=true }):=by
 have h:=Zzu it now id dup hp hl hd hi
 rw [ZcW (by kernel_rfl) rfl]
 simp only [Xv,XK,Zag,ZaF]
 rw [h]
 have hf:Zbq σ sq 2=true:=by simp [Zbq,freeAt,h0,h1]
 unfold Zai
 rw [if_neg (by decide)]
 simp [Zak,Zdw,Zbm,okB,Zd,hf,Zq,ZU,ZaQ,Za6,ZbA,ZaI,Zbx,Zi,Za3,Zcv,idO]
def Zgc (it:Zbt) (now id:Int) (dup:Bool):AVal:=.agg (ZcK (Zcv it dup) it.qos it.retain (idO it id) it.note.topic (.lst false (it.note.payload.map Zb)) (.lst false ((Za5 it now).map Zc)))
theorem ZAH (it:Zbt) (now id:Int) (dup:Bool) (hp:it.note.payload.length<=140737488355328) (hl:it.note.props.length<=600000000) (hi:it.ids.length<=1000000) (σ:Za) (sq:Nat) :
  ZS E BY σ sq 17 0 true [.agg [.str it.note.topic,.lst false (it.note.payload.map Zb),.int .i64 it.note.qos,.bool it.note.retain,.str it.note.sender,.int .i64 it.note.expires,.lst false (it.note.props.map Zc),.int .i64 it.note.origin,.int .i64 it.note.number,.int .i64 it.note.hops,.int .i64 it.qos,.bool it.retain,.lst false (it.ids.map (.int .i64 ·)),.str it.share],.int .i64 now,.int .i64 id,.bool dup]=some (Zgc it now id dup,σ,{}):=by
 rw [ZcW (by kernel_rfl) rfl]
 simp only [Xv,XK,Zag,ZaF]
 rw [ZAw it now id dup hp hl hi]
 have hL:(Za5 it now).length=((Za5 it now).map Zc).length:=by rw [XH]
 have hP:it.note.payload.length=(it.note.payload.map Zb).length:=by rw [XH]
 unfold Zai Zgc ZcK Zcv idO
 rw [if_pos rfl]
 rw [hL,hP]
 generalize (Za5 it now).map Zc=R
 generalize it.note.payload.map Zb=P
 unfold Za3
 simp [Zbd,viewR,Zaw,ZaH,Zaj,Zj,ZB,gcA,Zn,Zg,ZX,Z3,ZU,Zq,Zh,Zp,Zm,Zd,Zi,Xd,Zak,Za4,ZaM,ZaK,Zcm,ZaQ]
theorem ZzI (it:Zbt) (now id:Int) (dup:Bool) (ho:(Za5 it now).length<=9223372036854775807) (σ:Za) (sq a b:Nat) (ha:σ[a]?=some (.row 0 1 (it.note.payload.map Zb))) (hb:σ[b]?=some (.row 0 5 ((Za5 it now).map Zc))) :
  ZS E BY σ sq 16 0 true [.agg (Za3 (Zcv it dup) it.qos it.retain (idO it id) it.note.topic (.sl a 0 0 it.note.payload.length) (.sl b 0 0 (Za5 it now).length)),Zgc it now id dup]=some (.bool true,σ,{ rd:=[a,b] }):=by
 have h:=Zzz (Zcv it dup) it.qos it.retain (idO it id) it.note.topic it.note.payload (Za5 it now) ho
 have hL:(Za5 it now).length=((Za5 it now).map Zc).length:=by rw [XH]
 have hP:it.note.payload.length=(it.note.payload.map Zb).length:=by rw [XH]
 refine Zf2 (vs:=[.agg (ZcK (Zcv it dup) it.qos it.retain (idO it id) it.note.topic (.lst false (it.note.payload.map Zb)) (.lst false ((Za5 it now).map Zc))),.agg (ZcK (Zcv it dup) it.qos it.retain (idO it id) it.note.topic (.lst false (it.note.payload.map Zb)) (.lst false ((Za5 it now).map Zc)))]) (by kernel_rfl) ?_ rfl rfl h rfl rfl sq 0
 have e:Zgc it now id dup=.agg (ZcK (Zcv it dup) it.qos it.retain (idO it id) it.note.topic (.lst false (it.note.payload.map Zb)) (.lst false ((Za5 it now).map Zc))):=rfl
 rw [e,hL,hP]
 clear e h
 generalize (Za5 it now).map Zc=R at *
 generalize it.note.payload.map Zb=P at *
 unfold Za3 ZcK
 simp [showAs,showA,ZbG,ZbE,Zj,ha,hb]
end
section
theorem Zug {O:ZW} {bf:Nat->Bool} {σ:Za} {sq f own:Nat} {view:Bool} {args vs':List AVal} {ids:List Nat} {h0 h:Za} {r0 r:AVal} (hb:bf f=true) (hre:Zg σ 1000 (ZX args) []=ids) (hne:ids.isEmpty=false)
  (hall:(ids.all fun t=>okB (σ.getD t .free))=true) (hvs:ZU (Zf σ 0 ids) args=vs') (hh:Zh σ 0 ids (Zf σ 0 ids) ids 0=h0) {hh0:Za} (hO:O f vs' h0=some (r0,hh0)) (hv:Zai view ids.length (some (r0,hh0))=some (r,h))
  (hl1:h.length<=ids.length+own) (hl2:ids.length<=h.length) (hk:Zbm σ ids h 0=true) (hff:Zbq σ sq own=true) {r':AVal} (hr:Zq (ZaQ σ ids sq) r=r') {σ':Za} (hlay:Za6 σ ids sq h 0 σ=σ') {u:List (Nat×List AVal)} (hu:ZbA σ' ids=u) :
  ZS O bf σ sq f own view args=some (r',σ',{ any:=true,upd:=u }):=by
 subst hr hlay hu
 unfold ZS ZbS
 rw [hb]
 simp only [if_true,show ZB σ []=σ from rfl,hre]
 unfold Zbr
 rw [if_pos hall,hvs,hh,hO,hv]
 simp only [Zak,hne,WM,Xt,if_false,hl1,hl2,decide_true,hk,hff,Wu,if_true]
theorem ZxM (B0 B1 B2 B3 B5 B6 B7 B8:Z1) (l1 l2:ZV) (hl:l1.length<=140737488355328):ZS E BY [B0,B1,B2,B3,.row 0 1 (l1.map Zb),B5,B6,B7,B8,.var [.lst true [],.lst true [],.lst true [],.lst true [],.lst true [],.lst true []],.free,.free] 10 18 2 true [.ref 9 0,.sl 4 0 0 l1.length]=some (.tup [],[B0,B1,B2,B3,.row 0 1 (l1.map Zb),B5,B6,B7,B8,.var [.sl 10 0 0 1,.sl 11 0 0 1,.lst true [],.lst true [],.lst true [],.lst true []],.rrow 0 1 [.sl 4 0 0 l1.length],.row 0 1 [.lst false (l1.map Zb)]],{ any:=true,upd:=[(9,[.sl 10 0 0 1,.sl 11 0 0 1,.lst true [],.lst true [],.lst true [],.lst true []])] }):=by
 have h:=ZxX l1 hl
 generalize l1.map Zb=L1 at *
 generalize l2.map Zb=L2 at *
 exact Zug (σ:=[B0,B1,B2,B3,.row 0 1 L1,B5,B6,B7,B8,.var [.lst true [],.lst true [],.lst true [],.lst true [],.lst true [],.lst true []],.free,.free]) (sq:=10) (view:=true) (vs':=[.ref 0 0,.sl 1 0 0 l1.length]) (h0:=[.var [.lst true [],.lst true [],.lst true [],.lst true [],.lst true [],.lst true []],.row 0 1 L1]) (hh0:=[.var [.sl 2 0 0 1,.sl 3 0 0 1,.lst true [],.lst true [],.lst true [],.lst true []],.row 0 1 L1,.rrow 0 1 [.sl 1 0 0 l1.length],.row 0 1 [.lst false L1]]) (r0:=.tup []) (r:=.tup []) (ids:=[9,4]) (own:=2) (h:=[.var [.sl 2 0 0 1,.sl 3 0 0 1,.lst true [],.lst true [],.lst true [],.lst true []],.row 0 1 L1,.rrow 0 1 [.sl 1 0 0 l1.length],.row 0 1 [.lst false L1]]) (by kernel_rfl) rfl rfl rfl rfl rfl h (by unfold Zai;rw [if_pos rfl];simp [Zbd,viewR,viewAs,Zaw,Zaj,ZaH,Zj,ZB,gcA,Zn,Zg,ZX,Z3,Zf,Zh,Zo,Zd,Zm,ZU,Zq,Zi,Zp,Xd]) (by simp) (by simp) rfl rfl rfl rfl rfl
theorem ZyR (B0 B1 B2 B3 B5 B7 B8:Z1) (l1 l2:ZV) (hl:l2.length<=140737488355328):ZS E BY [B0,B1,B2,B3,.row 0 1 (l1.map Zb),B5,.row 0 1 (l2.map Zb),B7,B8,.var [.sl 10 0 0 1,.sl 11 0 0 1,.lst true [],.lst true [],.lst true [],.lst true []],.rrow 0 1 [.sl 4 0 0 l1.length],.row 0 1 [.lst false (l1.map Zb)],.free,.free] 12 18 2 true [.ref 9 0,.sl 6 0 0 l2.length]=some (.tup [],[B0,B1,B2,B3,.row 0 1 (l1.map Zb),B5,.row 0 1 (l2.map Zb),B7,B8,.var [.sl 10 1 0 2,.sl 11 1 0 2,.lst true [],.lst true [],.lst true [],.lst true []],.rrow 1 1 [.sl 4 0 0 l1.length,.sl 6 0 0 l2.length],.row 1 1 [.lst false (l1.map Zb),.lst false (l2.map Zb)],.free,.free],{ any:=true,upd:=[(9,[.sl 10 1 0 2,.sl 11 1 0 2,.lst true [],.lst true [],.lst true [],.lst true []])] }):=by
 have h:=ZAF l1 l2 hl
 generalize l1.map Zb=L1 at *
 generalize l2.map Zb=L2 at *
 exact Zug (σ:=[B0,B1,B2,B3,.row 0 1 L1,B5,.row 0 1 L2,B7,B8,.var [.sl 10 0 0 1,.sl 11 0 0 1,.lst true [],.lst true [],.lst true [],.lst true []],.rrow 0 1 [.sl 4 0 0 l1.length],.row 0 1 [.lst false L1],.free,.free]) (sq:=12) (view:=true) (vs':=[.ref 0 0,.sl 4 0 0 l2.length]) (h0:=[.var [.sl 1 0 0 1,.sl 3 0 0 1,.lst true [],.lst true [],.lst true [],.lst true []],.rrow 0 1 [.sl 2 0 0 l1.length],.row 0 1 L1,.row 0 1 [.lst false L1],.row 0 1 L2]) (hh0:=[.var [.sl 1 1 0 2,.sl 3 1 0 2,.lst true [],.lst true [],.lst true [],.lst true []],.rrow 1 1 [.sl 2 0 0 l1.length,.sl 4 0 0 l2.length],.row 0 1 L1,.row 1 1 [.lst false L1,.lst false L2],.row 0 1 L2]) (r0:=.tup []) (r:=.tup []) (ids:=[9,10,4,11,6]) (own:=2) (h:=[.var [.sl 1 1 0 2,.sl 3 1 0 2,.lst true [],.lst true [],.lst true [],.lst true []],.rrow 1 1 [.sl 2 0 0 l1.length,.sl 4 0 0 l2.length],.row 0 1 L1,.row 1 1 [.lst false L1,.lst false L2],.row 0 1 L2]) (by kernel_rfl) rfl rfl rfl rfl rfl h (by unfold Zai;rw [if_pos rfl];simp [Zbd,viewR,viewAs,Zaw,Zaj,ZaH,Zj,ZB,gcA,Zn,Zg,ZX,Z3,Zf,Zh,Zo,Zd,Zm,ZU,Zq,Zi,Zp,Xd]) (by simp) (by simp) rfl rfl rfl rfl rfl
theorem ZCD (B0 B1 B2 B3 B5 B7 B8:Z1) (l1 l2:ZV) (h1:l1.length<=1099511627776) (h2:l2.length<=1099511627776) (sq:Nat):ZS E BY [B0,B1,B2,B3,.row 0 1 (l1.map Zb),B5,.row 0 1 (l2.map Zb),B7,B8,.var [.sl 10 1 0 2,.sl 11 1 0 2,.lst true [],.lst true [],.lst true [],.lst true []],.rrow 1 1 [.sl 4 0 0 l1.length,.sl 6 0 0 l2.length],.row 1 1 [.lst false (l1.map Zb),.lst false (l2.map Zb)],.free,.free] sq 19 0 true [.ref 9 0]=some (.bool true,[B0,B1,B2,B3,.frow 0 1 [],B5,.frow 0 1 [],B7,B8,.var [.sl 10 1 0 2,.sl 11 1 0 2,.lst true [],.lst true [],.lst true [],.lst true []],.rrow 1 1 [.sl 4 0 0 l1.length,.sl 6 0 0 l2.length],.row 1 1 [.lst false (l1.map Zb),.lst false (l2.map Zb)],.free,.free],{ any:=true,upd:=[(9,[.sl 10 1 0 2,.sl 11 1 0 2,.lst true [],.lst true [],.lst true [],.lst true []])] }):=by
 have h:=ZAZ l1 l2 h1 h2
 generalize l1.map Zb=L1 at *
 generalize l2.map Zb=L2 at *
 exact ZfT (σ:=[B0,B1,B2,B3,.row 0 1 L1,B5,.row 0 1 L2,B7,B8,.var [.sl 10 1 0 2,.sl 11 1 0 2,.lst true [],.lst true [],.lst true [],.lst true []],.rrow 1 1 [.sl 4 0 0 l1.length,.sl 6 0 0 l2.length],.row 1 1 [.lst false L1,.lst false L2],.free,.free]) (sq:=sq) (view:=true) (vs:=[.ref 9 0]) (vs':=[.ref 0 0]) (h0:=[.var [.sl 1 0 0 2,.sl 4 0 0 2,.lst true [],.lst true [],.lst true [],.lst true []],.rrow 0 1 [.sl 2 0 0 l1.length,.sl 3 0 0 l2.length],.row 0 1 L1,.row 0 1 L2,.row 0 1 [.lst false L1,.lst false L2]]) (hh0:=[.var [.sl 1 0 0 2,.sl 4 0 0 2,.lst true [],.lst true [],.lst true [],.lst true []],.rrow 0 1 [.sl 2 0 0 l1.length,.sl 3 0 0 l2.length],.frow 0 1 [],.frow 0 1 [],.row 0 1 [.lst false L1,.lst false L2]]) (r0:=.bool true) (r:=.bool true) (ids:=[9,10,4,6,11]) (own:=0) (h:=[.var [.sl 1 0 0 2,.sl 4 0 0 2,.lst true [],.lst true [],.lst true [],.lst true []],.rrow 0 1 [.sl 2 0 0 l1.length,.sl 3 0 0 l2.length],.frow 0 1 [],.frow 0 1 [],.row 0 1 [.lst false L1,.lst false L2]]) (by kernel_rfl) rfl rfl rfl rfl rfl rfl h (by unfold Zai;rw [if_pos rfl];simp [Zbd,viewR,viewAs,Zaw,Zaj,ZaH,Zj,ZB,gcA,Zn,Zg,ZX,Z3,Zf,Zh,Zo,Zd,Zm,ZU,Zq,Zi,Zp,Xd]) (by simp) (by simp) rfl rfl rfl rfl rfl
end
section
theorem ZAx (p:Zb0) (it:Zbt) (hpl:p.payload.length<=600) (hpp:p.props.length<=12) (hpd:∀ q ∈ p.props,q.data.length<=140737488355328) (hil:it.note.payload.length<=600) (hip:it.note.props.length<=8) (hii:it.ids.length<=8) (hid:∀ q ∈ it.note.props,q.data.length<=140737488355328)
  (topic sender:ZV) (now id:Int) (dup:Bool) :
  Zdj 0 [(15,.int .i64 p.props.length),(10,.ref 0 0),(7,.ref 1 0),(6,.bool dup),(5,.int .i64 id),(4,.int .i64 now),(2,.str sender),(1,.str topic)] [.var ([.str it.note.topic,.lst false (it.note.payload.map Zb),.int .i64 it.note.qos,.bool it.note.retain,.str it.note.sender,.int .i64 it.note.expires,.lst false (it.note.props.map Zc),.int .i64 it.note.origin,.int .i64 it.note.number,.int .i64 it.note.hops,.int .i64 it.qos,.bool it.retain,.lst false (it.ids.map (.int .i64 ·)),.str it.share]),.var ([.int .i64 p.type,.bool p.dup,.int .i64 p.qos,.bool p.retain,.int .i64 p.id,.str p.topic,.lst false (p.payload.map Zb),.int .i64 p.code,.lst false (p.codes.map (AVal.int .i64)),.lst false (p.props.map Zc),.lst false (p.subs.map Zb3),.lst false (p.filters.map AVal.str),.bool p.clean,.int .i64 p.keep,.str p.client,.bool p.hasWill,.str p.will.topic,.lst false (p.will.data.map Zb),.int .i64 p.will.qos,.bool p.will.retain,.lst false (p.will.props.map Zc),.bool p.hasUser,.str p.user,.bool p.hasPassword,.lst false (p.password.map Zb),.bool p.present])]=some (.bool true,[]):=by
 have hL:=fun (σ:Za) (sq:Nat) (hs:freeAt σ sq=true)=>Zx0 σ sq p.payload (by omega) hs
 have hO:=fun (σ:Za) (sq t:Nat) hs hf=>ZCk p [.int .u8 165,.int .u8 90] (by omega) (by omega) hpd topic sender now σ sq t hs hf
 obtain ⟨X',hB⟩:=ZzO p.payload (by omega)
 have hR:=fun (σ:Za) (sq:Nat)=>ZBV p (by omega) (by omega) topic sender now σ sq
 have hkl:(Zbj p.props).length<=9223372036854775807:=by
  have : (Zbj p.props).length<=p.props.length:=List.length_filter_le ..
  omega
 have hS:=ZBk p hkl topic sender now
 have hD:=Zzl p topic sender now
 have hRD:=ZCB p topic sender now
 have hID:=fun (σ:Za) (sq:Nat)=>Zyn σ sq 0 true it.note now
 have hIR:=fun (σ:Za) (sq:Nat)=>Zxp σ sq 0 true it.note now
 have hOut:=fun (σ:Za) (sq:Nat) h0 h1=>Zyi it now id dup (by omega) (by omega) hid (by omega) σ sq h0 h1
 have hROut:=fun (σ:Za) (sq:Nat)=>ZAH it now id dup (by omega) (by omega) (by omega) σ sq
 have hlo:(Za5 it now).length<=9223372036854775807:=by
  have : (Zdx it.note.expires now).length<=1:=by unfold Zdx;split <;> simp
  unfold Za5
  simp only [Xy,XH]
  omega
 have hS12:=ZzI it now id dup hlo
 have hK1:=fun B0 B1 B2 B3 B5 B6 B7 B8=>ZxM B0 B1 B2 B3 B5 B6 B7 B8 p.payload it.note.payload (by omega)
 have hK2:=fun B0 B1 B2 B3 B5 B7 B8=>ZyR B0 B1 B2 B3 B5 B7 B8 p.payload it.note.payload (by omega)
 have hKc:=fun B0 B1 B2 B3 B5 B7 B8=>ZCD B0 B1 B2 B3 B5 B7 B8 p.payload it.note.payload (by omega) (by omega)
 unfold ZbU at hR hS
 generalize Zdu (ofD p.payload p.qos p.retain p.props topic sender now)=NC at *
 unfold Zgc at hROut hS12
 generalize ZcK (Zcv it dup) it.qos it.retain (idO it id) it.note.topic (.lst false (it.note.payload.map Zb)) (.lst false ((Za5 it now).map Zc))=OC at *
 unfold Za3 at hOut hS12
 generalize Zcv it dup=dd at *
 generalize idO it id=ii at *
 generalize (Za5 it now).length=on at *
 generalize (Za5 it now).map Zc=OL at *
 generalize ZbC p.props now=ee at *
 generalize (Zbj p.props).map Zc=KL at *
 unfold Zdj
 rw [Zan]
 simp -implicitDefEqProofs only [EQA,Zx,ZA,Zv,Zw,Zz,Zy,ZJ,ZN,ZP,ZM,ZL,ZO,ZI,ZK,ZQ,implies_true,forall_const,Xh,Xj,Xm,Xe,Xf,Xk,Xl,ZE,ZG,unA,Zt,ZC,unG,reduceCtorEq,Zj,decide_eq_true_eq,Xg,Xc,ite_self,↓reduceIte,Zu,ZF,gcT,gcA,Zn,Zg,Zf,Zh,Zo,Zd,Zm,Zi,Zp,Xd,Zf8,Zee,Zgj,Zgt,Zd6,Zgl,ZdO,Zl,Zk,Zr,Zc,Zs,ZH,hL,hO,hB,hR,hS,hD,hRD,hID,hIR,hOut,hROut,hS12,hK1,hK2,hKc,ZhU,Int.lt_irrefl,Zah,ZT,Xs,Xu,AVal.cells,Zaa,Z6,Z9,Z8,Zac,Zab,Z7,Xi,Xn,Zaa,Z6,Za8,ZaO,XY,X4,Xs,Xu,Xw,Xx,Z9,Z8,Zac,Zab,Z7,Xi,Xn,Zap,Zaz,ZaE,ZaU,ZaW,ZaR,ZaY,Za0,ZaD,ZaZ,XL,XS]
theorem Zwt (p:Zb0) (it:Zbt) (hpp:p.props.length<=12) (topic sender:ZV) (now id:Int) (dup:Bool)
  (hend:Zdj 0 [(15,.int .i64 p.props.length),(10,.ref 0 0),(7,.ref 1 0),(6,.bool dup),(5,.int .i64 id),(4,.int .i64 now),(2,.str sender),(1,.str topic)] [.var ([.str it.note.topic,.lst false (it.note.payload.map Zb),.int .i64 it.note.qos,.bool it.note.retain,.str it.note.sender,.int .i64 it.note.expires,.lst false (it.note.props.map Zc),.int .i64 it.note.origin,.int .i64 it.note.number,.int .i64 it.note.hops,.int .i64 it.qos,.bool it.retain,.lst false (it.ids.map (.int .i64 ·)),.str it.share]),.var ([.int .i64 p.type,.bool p.dup,.int .i64 p.qos,.bool p.retain,.int .i64 p.id,.str p.topic,.lst false (p.payload.map Zb),.int .i64 p.code,.lst false (p.codes.map (AVal.int .i64)),.lst false (p.props.map Zc),.lst false (p.subs.map Zb3),.lst false (p.filters.map AVal.str),.bool p.clean,.int .i64 p.keep,.str p.client,.bool p.hasWill,.str p.will.topic,.lst false (p.will.data.map Zb),.int .i64 p.will.qos,.bool p.will.retain,.lst false (p.will.props.map Zc),.bool p.hasUser,.str p.user,.bool p.hasPassword,.lst false (p.password.map Zb),.bool p.present])]=some (.bool true,[])) :
  ∀ (r:List ZZ) (i:Nat),p.props.drop i=r->i<=p.props.length->Zdj 0 [(15,.int .i64 i),(10,.ref 0 0),(7,.ref 1 0),(6,.bool dup),(5,.int .i64 id),(4,.int .i64 now),(2,.str sender),(1,.str topic)] [.var ([.str it.note.topic,.lst false (it.note.payload.map Zb),.int .i64 it.note.qos,.bool it.note.retain,.str it.note.sender,.int .i64 it.note.expires,.lst false (it.note.props.map Zc),.int .i64 it.note.origin,.int .i64 it.note.number,.int .i64 it.note.hops,.int .i64 it.qos,.bool it.retain,.lst false (it.ids.map (.int .i64 ·)),.str it.share]),.var ([.int .i64 p.type,.bool p.dup,.int .i64 p.qos,.bool p.retain,.int .i64 p.id,.str p.topic,.lst false (p.payload.map Zb),.int .i64 p.code,.lst false (p.codes.map (AVal.int .i64)),.lst false (p.props.map Zc),.lst false (p.subs.map Zb3),.lst false (p.filters.map AVal.str),.bool p.clean,.int .i64 p.keep,.str p.client,.bool p.hasWill,.str p.will.topic,.lst false (p.will.data.map Zb),.int .i64 p.will.qos,.bool p.will.retain,.lst false (p.will.props.map Zc),.bool p.hasUser,.str p.user,.bool p.hasPassword,.lst false (p.password.map Zb),.bool p.present])]=some (.bool true,[])
 | [],i,h,hi=>by
  have h2:i=p.props.length:=by
   have:=congrArg List.length h
   rw [List.length_drop,Xx] at this
   omega
  subst h2
  exact hend
 | q::r,i,h,hi=>by
  have h1:(i:Int) < p.props.length:=by have:=(Zaq h).2.2;omega
  have ih:=Zwt p it hpp topic sender now id dup hend r (i+1) (Zaq h).2.1 (by omega)
  have e1:=iad (Zaq h).1 Zc (k:=5) rfl
  have e3:=Zcu h1 (by omega)
  clear hend h
  by_cases hq:q.num < 0
  ·unfold Zdj
   rw [Zan]
   simp -implicitDefEqProofs only [EQA,Zx,ZA,Zv,Zw,Zz,Zy,ZJ,ZN,ZP,ZM,ZL,ZO,ZI,ZK,ZQ,implies_true,forall_const,Xh,Xj,Xm,Xe,Xf,Xk,Xl,ZE,ZG,unA,Zt,ZC,unG,reduceCtorEq,Zj,decide_eq_true_eq,Xg,Xc,ite_self,↓reduceIte,Zu,ZF,gcT,gcA,Zn,Zg,Zf,Zh,Zo,Zd,Zm,Zi,Zp,Xd,Zf8,Zee,Zgj,Zgt,Zd6,Zgl,ZdO,Zl,Zk,Zr,Zc,Zs,ZH,h1,e1,e3,hq,ZhU,AVal.cells]
  ·by_cases hq2:4294967296<=q.num
   ·unfold Zdj
    rw [Zan]
    simp -implicitDefEqProofs only [EQA,Zx,ZA,Zv,Zw,Zz,Zy,ZJ,ZN,ZP,ZM,ZL,ZO,ZI,ZK,ZQ,implies_true,forall_const,Xh,Xj,Xm,Xe,Xf,Xk,Xl,ZE,ZG,unA,Zt,ZC,unG,reduceCtorEq,Zj,decide_eq_true_eq,Xg,Xc,ite_self,↓reduceIte,Zu,ZF,gcT,gcA,Zn,Zg,Zf,Zh,Zo,Zd,Zm,Zi,Zp,Xd,Zf8,Zee,Zgj,Zgt,Zd6,Zgl,ZdO,Zl,Zk,Zr,Zc,Zs,ZH,h1,e1,e3,hq,hq2,ge_iff_le,ZhU,AVal.cells]
   ·unfold Zdj at ih ⊢
    rw [Zan]
    simp -implicitDefEqProofs only [EQA,Zx,ZA,Zv,Zw,Zz,Zy,ZJ,ZN,ZP,ZM,ZL,ZO,ZI,ZK,ZQ,implies_true,forall_const,Xh,Xj,Xm,Xe,Xf,Xk,Xl,ZE,ZG,unA,Zt,ZC,unG,reduceCtorEq,Zj,decide_eq_true_eq,Xg,Xc,ite_self,↓reduceIte,Zu,ZF,gcT,gcA,Zn,Zg,Zf,Zh,Zo,Zd,Zm,Zi,Zp,Xd,Zf8,Zee,Zgj,Zgt,Zd6,Zgl,ZdO,Zl,Zk,Zr,Zc,Zs,ZH,h1,e1,e3,hq,hq2,ge_iff_le,ZhU,AVal.cells]
    exact ih
theorem ZyE (p:Zb0) (it:Zbt) (hpd:∀ q ∈ p.props,q.data.length<=140737488355328) (hid:∀ q ∈ it.note.props,q.data.length<=140737488355328) (topic sender:ZV) (now0 id:Int) (dup:Bool) :
  E 3 [.agg [.int .i64 p.type,.bool p.dup,.int .i64 p.qos,.bool p.retain,.int .i64 p.id,.str p.topic,.lst false (p.payload.map Zb),.int .i64 p.code,.lst false (p.codes.map (AVal.int .i64)),.lst false (p.props.map Zc),.lst false (p.subs.map Zb3),.lst false (p.filters.map AVal.str),.bool p.clean,.int .i64 p.keep,.str p.client,.bool p.hasWill,.str p.will.topic,.lst false (p.will.data.map Zb),.int .i64 p.will.qos,.bool p.will.retain,.lst false (p.will.props.map Zc),.bool p.hasUser,.str p.user,.bool p.hasPassword,.lst false (p.password.map Zb),.bool p.present],.str topic,.str sender,.agg [.str it.note.topic,.lst false (it.note.payload.map Zb),.int .i64 it.note.qos,.bool it.note.retain,.str it.note.sender,.int .i64 it.note.expires,.lst false (it.note.props.map Zc),.int .i64 it.note.origin,.int .i64 it.note.number,.int .i64 it.note.hops,.int .i64 it.qos,.bool it.retain,.lst false (it.ids.map (.int .i64 ·)),.str it.share],.int .i64 now0,.int .i64 id,.bool dup] []=some (.bool true,[]):=by
 obtain ⟨now,hnow,hN⟩:=Zx1 now0 1 1099511627776 (by decide) (by decide) (by decide)
 have hP:=Zw8 p
 have hI:=ZyA (a:=it)
 have key:=fun (e:Int)=>Zwt (Z5 p) { Zbb it with note:={ (Zbb it).note with expires:=e } } (by simp only [Z5,Wd];omega) topic sender now id dup (ZAx (Z5 p) { Zbb it with note:={ (Zbb it).note with expires:=e } } (by simp only [Z5,Wd];omega) (by simp only [Z5,Wd];omega) (fun q hq=>hpd q (Wk hq)) (by simp only [Zbb,Wd];omega) (by simp only [Zbb,Wd];omega) (by simp only [Zbb,Wd];omega) (fun q hq=>hid q (Wk hq)) topic sender now id dup) (Z5 p).props 0 rfl (by omega)
 have z:((0:Nat):Int)=0:=rfl
 rw [z] at key
 simp only at key
 generalize Zbb it=jt at *
 generalize Z5 p=pp at *
 unfold Zdj at key
 rw [Zar (by rfl) ZAy]
 simp -implicitDefEqProofs only [EQA,Zx,ZA,Zv,Zw,Zz,Zy,ZJ,ZN,ZP,ZM,ZL,ZO,ZI,ZK,ZQ,implies_true,forall_const,Xh,Xj,Xm,Xe,Xf,Xk,Xl,ZE,ZG,unA,Zt,ZC,unG,reduceCtorEq,Zj,decide_eq_true_eq,Xg,Xc,ite_self,↓reduceIte,Zu,ZF,gcT,gcA,Zn,Zg,Zf,Zh,Zo,Zd,Zm,Zi,Zp,Xd,Zf8,Zee,Zgj,Zgt,Zd6,Zgl,ZdO,Zl,Zk,Zr,Zc,Zs,ZH,hP,hI,hN,Zah,ZT,Xs,Xu,AVal.cells,Zaa,Z6,Z9,Z8,Zac,Zab,Z7,Xi,Xn,Zaa,Z6,Za8,ZaO,XY,X4,Xs,Xu,Xw,Xx,Z9,Z8,Zac,Zab,Z7,Xi,Xn,Zap,Zaz,ZaE,ZaU,ZaW,ZaR,ZaY,Za0,ZaD,ZaZ,XL,XS]
 exact key _
end
end Go.Proofs.Ytnlnmdnmgachgaa
