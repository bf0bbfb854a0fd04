/- packed -/
import Derived.Test.YtlekmfmkkcpbcaaDoorMq4
import Derived.Test.YtlekmfmkkcpbcaaDoorMq3
import Derived.Sort.Walk0
set_option linter.defProp false
set_option linter.unusedSectionVars false
set_option linter.unusedSimpArgs false
set_option linter.unusedVariables false
open Option.some renaming injEq→Xa
open Bool renaming decide_eq_true→Xb,not_eq_true→Xd,false_eq_true→Xq,and_eq_true→XE,and_self→WD,or_eq_true→WK,or_eq_false_iff→WN,false_and→Xap,or_false→XaU,and_true→XaV,not_false→XbB
open List renaming range_succ→Xc,getD_cons_zero→Xm,getD_cons_succ→Xn,contains_nil→Xo,all_cons→Xp,length_cons→Xr,all_nil→Xs,length_nil→Xt,getElem?_eq_some_iff→Xu,nil_append→Xv,append_nil→Xw,getElem?_cons_zero→Xx,lookup_cons→Xy,getD_eq_getElem?_getD→Xz,lookup_nil→XA,getElem?_set→XB,getElem?_cons_succ→XC,flatMap_cons→XD,any_cons→XF,cons_append→XG,any_nil→XH,flatMap_append→XJ,flatMap_nil→XM,range_zero→XP,length_singleton→XQ,zip_cons_cons→XR,map_cons→XS,mem_map→X0,all_eq_true→X1,set_cons_zero→X2,length_append→X3,set_cons_succ→X4,eq_nil_of_length_eq_zero→X6,length_map→X7,isEmpty_cons→X8,zip_nil_left→X9,take_of_length_le→Wc,getElem?_nil→Wf,drop_eq_nil_iff→Wl,map_append→Wm,contains_cons→Wo,ext_getElem?→Wv,length_drop→WJ,take_length→W2,append_assoc→W4,length_filter_le→Xaf,length_erase_le→Xaz,drop_zero→XaX,filter_cons→Xa0,map_take→Xbh,le_antisymm→Xbw,map_drop→XbE
open Nat renaming reduceLeDiff→Xe,reduceEqDiff→Xf,reduceAdd→Xh,reduceSub→Xi,reduceBEq→Xj,reduceMul→Xk,reduceLT→Xl,zero_add→XX,le_refl→X5,le_of_ble_eq_true→Wn,one_mul→Wy,zero_le→W7,le_trans→Xao
open Sum renaming map_inl→XT,map_inr→XU
open Ne renaming symm→W0
open List.cons renaming injEq→XaD
open Option renaming isSome_none→XaK
open List.Perm renaming refl→Xbr
namespace Go.Proofs.YtlekmfmkkcpbcaaDoor
set_option maxHeartbeats 16000000
set_option maxRecDepth 10000
section
def P7:List UInt8:=[36,115,104,97,114,101,47]
def Zcu (s:List UInt8):Bool:=s.take 7 == P7
def Zhu (s:List UInt8):Bool:=s == [36,115,104,97,114,101] || Zcu s
theorem ZnY {s:List UInt8} (h:Zcu s=true):7<=s.length:=by
 have : s.take 7=P7:=by simpa [Zcu] using h
 have:=congrArg List.length this
 simp [P7] at this;omega
theorem Zvg {s:List UInt8} (h:¬((s.length:Int)>=((7:Nat):Int))):Zcu s=false:=by
 cases hp:Zcu s with
 | false=>rfl
 | true=>have:=ZnY hp;omega
theorem l7:((7:Nat):Int).toNat=7:=rfl
theorem i7:(0:Int)<=((7:Nat):Int):=by decide
theorem ZE8 (s:List UInt8):E 59 [.str s,.str [36,115,104,97,114,101,47]] []=some (.bool (Zcu s),[]):=by
 rw [ZaJ (by rfl) ZBx]
 by_cases h:(s.length:Int)>=((7:Nat):Int)
 ·have h':((7:Nat):Int)<=(s.length:Int):=h
  simp -implicitDefEqProofs only [EQA,Zn,Zi,Zm,Zk,Zj,Zl,Zz,ZG,ZC,Zy,ZE,ZF,ZA,ZB,ZD,implies_true,forall_const,Xh,Xi,Xl,Xe,Xf,Xj,Xk,Zv,Zx,unA,Zt,Zu,unG,reduceCtorEq,Zr,decide_eq_true_eq,Xd,Xb,ite_self,↓reduceIte,Zs,Zw,gcT,gcA,Zq,Zd,Zc,Ze,Zh,Zb,Zg,Zf,Zo,Xc,Ztv,ZkH,ZuN,Zp,ZI,ZK,ZJ,ZH,ZL,h,h',l7,i7,ZaQ,Zbv,Zcu,P7]
 ·have:=Zvg h
  simp -implicitDefEqProofs only [EQA,Zn,Zi,Zm,Zk,Zj,Zl,Zz,ZG,ZC,Zy,ZE,ZF,ZA,ZB,ZD,implies_true,forall_const,Xh,Xi,Xl,Xe,Xf,Xj,Xk,Zv,Zx,unA,Zt,Zu,unG,reduceCtorEq,Zr,decide_eq_true_eq,Xd,Xb,ite_self,↓reduceIte,Zs,Zw,gcT,gcA,Zq,Zd,Zc,Ze,Zh,Zb,Zg,Zf,Zo,Xc,Ztv,ZkH,ZuN,Zp,ZI,ZK,ZJ,ZH,ZL,h,this]
theorem Zt5 (σ:Za) (sq own:Nat) (view:Bool) (s:List UInt8):ZQ E BY σ sq 59 own view [.str s,.str [36,115,104,97,114,101,47]]=some (.bool (Zcu s),σ,{}) :=
 Za5 (ZE8 s) (by kernel_rfl) (by simp -implicitDefEqProofs only [Zam,Zao,Zn,Zi,Zm,Zaq,Zk,Zj,Zap,Zl,eq_self,implies_true,Xq,Zp,ZI,ZK,ZJ,ZH,Zp]) (by simp -implicitDefEqProofs only [Zam,Zao,Zn,Zi,Zm,Zaq,Zk,Zj,Zap,Zl,eq_self,implies_true,Xq,Zp,ZI,ZK,ZJ,ZH,Zp]) rfl (fun _=>rfl) _ _ _ _
theorem ZGK (s:List UInt8):E 42 [.str s] []=some (.bool (Zhu s),[]):=by
 rw [ZaJ (by rfl) Zxc]
 unfold Zhu
 cases h:(s == [36,115,104,97,114,101])
 ·by_cases h1:(s.length:Int)>=7
  ·have h':(7:Int)<=(s.length:Int):=h1
   have i7':(0:Int)<=7:=by decide
   have l7':(7:Int).toNat=7:=rfl
   simp -implicitDefEqProofs only [EQA,Zn,Zi,Zm,Zk,Zj,Zl,Zz,ZG,ZC,Zy,ZE,ZF,ZA,ZB,ZD,implies_true,forall_const,Xh,Xi,Xl,Xe,Xf,Xj,Xk,Zv,Zx,unA,Zt,Zu,unG,reduceCtorEq,Zr,decide_eq_true_eq,Xd,Xb,ite_self,↓reduceIte,Zs,Zw,gcT,gcA,Zq,Zd,Zc,Ze,Zh,Zb,Zg,Zf,Zo,Xc,ZoK,ZjH,Zo7,Zp,ZI,ZK,ZJ,ZH,ZL,h,h1,h',l7',i7',ZaQ,Zbv,Zcu,P7]
  ·have:=Zvg (s:=s) (by omega)
   simp -implicitDefEqProofs only [EQA,Zn,Zi,Zm,Zk,Zj,Zl,Zz,ZG,ZC,Zy,ZE,ZF,ZA,ZB,ZD,implies_true,forall_const,Xh,Xi,Xl,Xe,Xf,Xj,Xk,Zv,Zx,unA,Zt,Zu,unG,reduceCtorEq,Zr,decide_eq_true_eq,Xd,Xb,ite_self,↓reduceIte,Zs,Zw,gcT,gcA,Zq,Zd,Zc,Ze,Zh,Zb,Zg,Zf,Zo,Xc,ZoK,ZjH,Zo7,Zp,ZI,ZK,ZJ,ZH,ZL,h,h1,this]
 ·simp -implicitDefEqProofs only [EQA,Zn,Zi,Zm,Zk,Zj,Zl,Zz,ZG,ZC,Zy,ZE,ZF,ZA,ZB,ZD,implies_true,forall_const,Xh,Xi,Xl,Xe,Xf,Xj,Xk,Zv,Zx,unA,Zt,Zu,unG,reduceCtorEq,Zr,decide_eq_true_eq,Xd,Xb,ite_self,↓reduceIte,Zs,Zw,gcT,gcA,Zq,Zd,Zc,Ze,Zh,Zb,Zg,Zf,Zo,Xc,ZoK,ZjH,Zo7,Zp,ZI,ZK,ZJ,ZH,ZL,h]
theorem Zeu (σ:Za) (sq own:Nat) (view:Bool) (s:List UInt8):ZQ E BY σ sq 42 own view [.str s]=some (.bool (Zhu s),σ,{}) :=
 Za5 (ZGK s) (by kernel_rfl) (by simp -implicitDefEqProofs only [Zam,Zao,Zn,Zi,Zm,Zaq,Zk,Zj,Zap,Zl,eq_self,implies_true,Xq,Zp,ZI,ZK,ZJ,ZH,Zp]) (by simp -implicitDefEqProofs only [Zam,Zao,Zn,Zi,Zm,Zaq,Zk,Zj,Zap,Zl,eq_self,implies_true,Xq,Zp,ZI,ZK,ZJ,ZH,Zp]) rfl (fun _=>rfl) _ _ _ _
theorem ZuI (s:List UInt8):E 51 [.str s,.str [36,115,104,97,114,101,47]] []=some (if Zcu s then .tup [.str (s.drop 7),.bool true] else .tup [.str s,.bool false],[]):=by
 rw [ZaJ (by rfl) ZAq]
 cases h:Zcu s
 ·simp -implicitDefEqProofs only [EQA,Zn,Zi,Zm,Zk,Zj,Zl,Zz,ZG,ZC,Zy,ZE,ZF,ZA,ZB,ZD,implies_true,forall_const,Xh,Xi,Xl,Xe,Xf,Xj,Xk,Zv,Zx,unA,Zt,Zu,unG,reduceCtorEq,Zr,decide_eq_true_eq,Xd,Xb,ite_self,↓reduceIte,Zs,Zw,gcT,gcA,Zq,Zd,Zc,Ze,Zh,Zb,Zg,Zf,Zo,Xc,Ztu,Zly,Zvc,Zp,ZI,ZK,ZJ,ZH,ZL,h,Zt5]
 ·have h':((7:Nat):Int)<=(s.length:Int):=by have:=ZnY h;omega
  simp -implicitDefEqProofs only [EQA,Zn,Zi,Zm,Zk,Zj,Zl,Zz,ZG,ZC,Zy,ZE,ZF,ZA,ZB,ZD,implies_true,forall_const,Xh,Xi,Xl,Xe,Xf,Xj,Xk,Zv,Zx,unA,Zt,Zu,unG,reduceCtorEq,Zr,decide_eq_true_eq,Xd,Xb,ite_self,↓reduceIte,Zs,Zw,gcT,gcA,Zq,Zd,Zc,Ze,Zh,Zb,Zg,Zf,Zo,Xc,Ztu,Zly,Zvc,Zp,ZI,ZK,ZJ,ZH,ZL,h,Zt5,h',l7,i7,ZaQ,Zbv,W2]
theorem ZLR (s:List UInt8) (h:Zcu s=true):E 37 [.str s,.str [36,115,104,97,114,101,47]] []=some (.tup [.str (s.drop 7),.bool true],[]):=by
 have h0:=ZuI s
 rw [h,if_pos rfl] at h0
 have hC:∀ (σ:Za) (sq own:Nat) (view:Bool),ZQ E BY σ sq 51 own view [.str s,.str [36,115,104,97,114,101,47]]=some (.tup [.str (s.drop 7),.bool true],σ,{}):=fun _ _ _ _=>Za5 (h0) (by kernel_rfl) (by simp -implicitDefEqProofs only [Zam,Zao,Zn,Zi,Zm,Zaq,Zk,Zj,Zap,Zl,eq_self,implies_true,Xq,Zp,ZI,ZK,ZJ,ZH,Zp]) (by simp -implicitDefEqProofs only [Zam,Zao,Zn,Zi,Zm,Zaq,Zk,Zj,Zap,Zl,eq_self,implies_true,Xq,Zp,ZI,ZK,ZJ,ZH,Zp]) rfl (fun _=>rfl) _ _ _ _
 rw [ZaJ (by rfl) Zt1]
 simp -implicitDefEqProofs only [EQA,Zn,Zi,Zm,Zk,Zj,Zl,Zz,ZG,ZC,Zy,ZE,ZF,ZA,ZB,ZD,implies_true,forall_const,Xh,Xi,Xl,Xe,Xf,Xj,Xk,Zv,Zx,unA,Zt,Zu,unG,reduceCtorEq,Zr,decide_eq_true_eq,Xd,Xb,ite_self,↓reduceIte,Zs,Zw,gcT,gcA,Zq,Zd,Zc,Ze,Zh,Zb,Zg,Zf,Zo,Xc,ZvE,ZkS,Zs3,Zp,ZI,ZK,ZJ,ZH,ZL,hC]
theorem Zyo (s:List UInt8) (h:Zcu s=false):E 37 [.str s,.str [36,115,104,97,114,101,47]] []=some (.tup [.str s,.bool false],[]):=by
 have h0:=ZuI s
 rw [h] at h0
 simp only [Xq,if_false] at h0
 have hC:∀ (σ:Za) (sq own:Nat) (view:Bool),ZQ E BY σ sq 51 own view [.str s,.str [36,115,104,97,114,101,47]]=some (.tup [.str s,.bool false],σ,{}):=fun _ _ _ _=>Za5 (h0) (by kernel_rfl) (by simp -implicitDefEqProofs only [Zam,Zao,Zn,Zi,Zm,Zaq,Zk,Zj,Zap,Zl,eq_self,implies_true,Xq,Zp,ZI,ZK,ZJ,ZH,Zp]) (by simp -implicitDefEqProofs only [Zam,Zao,Zn,Zi,Zm,Zaq,Zk,Zj,Zap,Zl,eq_self,implies_true,Xq,Zp,ZI,ZK,ZJ,ZH,Zp]) rfl (fun _=>rfl) _ _ _ _
 rw [ZaJ (by rfl) Zt1]
 simp -implicitDefEqProofs only [EQA,Zn,Zi,Zm,Zk,Zj,Zl,Zz,ZG,ZC,Zy,ZE,ZF,ZA,ZB,ZD,implies_true,forall_const,Xh,Xi,Xl,Xe,Xf,Xj,Xk,Zv,Zx,unA,Zt,Zu,unG,reduceCtorEq,Zr,decide_eq_true_eq,Xd,Xb,ite_self,↓reduceIte,Zs,Zw,gcT,gcA,Zq,Zd,Zc,Ze,Zh,Zb,Zg,Zf,Zo,Xc,ZvE,ZkS,Zs3,Zp,ZI,ZK,ZJ,ZH,ZL,hC]
def ZkP (s:List UInt8):AVal:=if s.count 47=0 then .tup [.str s,.str [],.bool false] else .tup [.str ((Zau s).headD []),.str (s.drop (((Zau s).headD []).length+1)),.bool true]
theorem Zvy (s:List UInt8) (hs:s.length<=9223372036854775807):E 52 [.str s,.str [47]] []=some (ZkP s,[]):=by
 rw [ZaJ (by rfl) ZJ5]
 unfold ZkP
 cases hk:s.count 47 with
 | zero =>
  have hi:Lib.indexByte s 47=-1:=by
   clear hs
   induction s with
   | nil=>rfl
   | cons b r ih =>
    rw [List.count_cons] at hk
    have hb:(b == 47)=false:=by
     cases h:(b == 47) with
     | false=>rfl
     | true=>rw [h] at hk;simp at hk
    simp [Lib.indexByte,hb,ih (by omega)]
  have n1:¬((-1:Int)>=0):=by decide
  rw [if_pos rfl]
  simp -implicitDefEqProofs only [EQA,Zn,Zi,Zm,Zk,Zj,Zl,Zz,ZG,ZC,Zy,ZE,ZF,ZA,ZB,ZD,implies_true,forall_const,Xh,Xi,Xl,Xe,Xf,Xj,Xk,Zv,Zx,unA,Zt,Zu,unG,reduceCtorEq,Zr,decide_eq_true_eq,Xd,Xb,ite_self,↓reduceIte,Zs,Zw,gcT,gcA,Zq,Zd,Zc,Ze,Zh,Zb,Zg,Zf,Zo,Xc,ZvI,Zl4,ZuR,Zp,ZI,ZK,ZJ,ZH,ZL,Zqh,hi,n1]
 | succ k =>
  obtain ⟨p,t,rfl,ht,hsp,hidx⟩:=ZvB hk
  rw [hsp,if_neg (by omega)]
  simp only [List.headD_cons]
  have hlen:(p++47::t).length=p.length+t.length+1:=by simp;omega
  have n1:((p.length:Int)>=0):=by omega
  have p0:(0:Int)<=(p.length:Int):=by omega
  have p1:(0:Int)<=(p.length:Int)+1:=by omega
  have w2:IntKind.i64.wrap ((p.length:Int)+((1:Nat):Int))=p.length+1:=by rw [Zbp (by omega) (by omega)];rfl
  have e1:((p++47::t).take p.length)=p:=by simp
  have e3:((p++47::t).take (p++47::t).length)=p++47::t:=W2
  have t1:((p.length:Int)+1).toNat=p.length+1:=by omega
  have l1:(p.length:Int)<=(((p++47::t).length:Nat):Int):=by omega
  have l2:(p.length:Int)+1<=(((p++47::t).length:Nat):Int):=by omega
  generalize p++47::t=S at *
  simp -implicitDefEqProofs only [EQA,Zn,Zi,Zm,Zk,Zj,Zl,Zz,ZG,ZC,Zy,ZE,ZF,ZA,ZB,ZD,implies_true,forall_const,Xh,Xi,Xl,Xe,Xf,Xj,Xk,Zv,Zx,unA,Zt,Zu,unG,reduceCtorEq,Zr,decide_eq_true_eq,Xd,Xb,ite_self,↓reduceIte,Zs,Zw,gcT,gcA,Zq,Zd,Zc,Ze,Zh,Zb,Zg,Zf,Zo,Xc,ZvI,Zl4,ZuR,Zp,ZI,ZK,ZJ,ZH,ZL,Zqh,hidx,n1,p0,p1,w2,e1,e3,t1,l1,l2,ZaQ,Zbv,Int.toNat_natCast]
theorem ZsH (s:List UInt8) (hs:s.length<=9223372036854775807) (h:s.count 47=0):E 38 [.str s,.str [47]] []=some (.tup [.str s,.str [],.bool false],[]):=by
 have h0:=Zvy s hs
 rw [ZkP,if_pos h] at h0
 have hC:∀ (σ:Za) (sq own:Nat) (view:Bool),ZQ E BY σ sq 52 own view [.str s,.str [47]]=some (.tup [.str s,.str [],.bool false],σ,{}):=fun _ _ _ _=>Za5 (h0) (by kernel_rfl) (by simp -implicitDefEqProofs only [Zam,Zao,Zn,Zi,Zm,Zaq,Zk,Zj,Zap,Zl,eq_self,implies_true,Xq,Zp,ZI,ZK,ZJ,ZH,Zp]) (by simp -implicitDefEqProofs only [Zam,Zao,Zn,Zi,Zm,Zaq,Zk,Zj,Zap,Zl,eq_self,implies_true,Xq,Zp,ZI,ZK,ZJ,ZH,Zp]) rfl (fun _=>rfl) _ _ _ _
 rw [ZaJ (by rfl) Zum]
 simp -implicitDefEqProofs only [EQA,Zn,Zi,Zm,Zk,Zj,Zl,Zz,ZG,ZC,Zy,ZE,ZF,ZA,ZB,ZD,implies_true,forall_const,Xh,Xi,Xl,Xe,Xf,Xj,Xk,Zv,Zx,unA,Zt,Zu,unG,reduceCtorEq,Zr,decide_eq_true_eq,Xd,Xb,ite_self,↓reduceIte,Zs,Zw,gcT,gcA,Zq,Zd,Zc,Ze,Zh,Zb,Zg,Zf,Zo,Xc,Zsf,Zke,ZsX,Zp,ZI,ZK,ZJ,ZH,ZL,hC]
theorem ZuT (s:List UInt8) (hs:s.length<=9223372036854775807) (h:s.count 47≠0):E 38 [.str s,.str [47]] []=some (.tup [.str ((Zau s).headD []),.str (s.drop (((Zau s).headD []).length+1)),.bool true],[]):=by
 have h0:=Zvy s hs
 rw [ZkP,if_neg h] at h0
 have hC:∀ (σ:Za) (sq own:Nat) (view:Bool),ZQ E BY σ sq 52 own view [.str s,.str [47]]=some (.tup [.str ((Zau s).headD []),.str (s.drop (((Zau s).headD []).length+1)),.bool true],σ,{}):=fun _ _ _ _=>Za5 (h0) (by kernel_rfl) (by simp -implicitDefEqProofs only [Zam,Zao,Zn,Zi,Zm,Zaq,Zk,Zj,Zap,Zl,eq_self,implies_true,Xq,Zp,ZI,ZK,ZJ,ZH,Zp]) (by simp -implicitDefEqProofs only [Zam,Zao,Zn,Zi,Zm,Zaq,Zk,Zj,Zap,Zl,eq_self,implies_true,Xq,Zp,ZI,ZK,ZJ,ZH,Zp]) rfl (fun _=>rfl) _ _ _ _
 rw [ZaJ (by rfl) Zum]
 simp -implicitDefEqProofs only [EQA,Zn,Zi,Zm,Zk,Zj,Zl,Zz,ZG,ZC,Zy,ZE,ZF,ZA,ZB,ZD,implies_true,forall_const,Xh,Xi,Xl,Xe,Xf,Xj,Xk,Zv,Zx,unA,Zt,Zu,unG,reduceCtorEq,Zr,decide_eq_true_eq,Xd,Xb,ite_self,↓reduceIte,Zs,Zw,gcT,gcA,Zq,Zd,Zc,Ze,Zh,Zb,Zg,Zf,Zo,Xc,Zsf,Zke,ZsX,Zp,ZI,ZK,ZJ,ZH,ZL,hC]
def grp (s:List UInt8):List UInt8:=(Zau (s.drop 7)).headD []
def fil (s:List UInt8):List UInt8:=s.drop (8+(grp s).length)
def ZaD (s:List UInt8):Bool:=Zcu s && decide ((s.drop 7).count 47≠0) && Zcy s && decide (1<=(grp s).length) && decide ((grp s).length<=16) && !ZbC (grp s) && Zdu (fil s)
def ZcB (s:List UInt8):AVal:=if ZaD s then .tup [.str (grp s),.str (fil s),.bool true] else .tup [.str [],.str [],.bool false]
theorem Zvd (s:List UInt8) (hs:s.length<=9223372036854775807):E 21 [.str s] []=some (ZcB s,[]):=by
 rw [ZaJ (by rfl) ZEB]
 unfold ZcB ZaD
 cases h1:Zcu s
 ·have hA:∀ (σ:Za) (sq own:Nat) (view:Bool),ZQ E BY σ sq 37 own view [.str s,.str [36,115,104,97,114,101,47]]=some (.tup [.str s,.bool false],σ,{}):=fun _ _ _ _=>Za5 (Zyo s h1) (by kernel_rfl) (by simp -implicitDefEqProofs only [Zam,Zao,Zn,Zi,Zm,Zaq,Zk,Zj,Zap,Zl,eq_self,implies_true,Xq,Zp,ZI,ZK,ZJ,ZH,Zp]) (by simp -implicitDefEqProofs only [Zam,Zao,Zn,Zi,Zm,Zaq,Zk,Zj,Zap,Zl,eq_self,implies_true,Xq,Zp,ZI,ZK,ZJ,ZH,Zp]) rfl (fun _=>rfl) _ _ _ _
  by_cases h2:s.count 47=0
  ·have hB:∀ (σ:Za) (sq own:Nat) (view:Bool),ZQ E BY σ sq 38 own view [.str s,.str [47]]=some (.tup [.str s,.str [],.bool false],σ,{}):=fun _ _ _ _=>Za5 (ZsH s (by omega) h2) (by kernel_rfl) (by simp -implicitDefEqProofs only [Zam,Zao,Zn,Zi,Zm,Zaq,Zk,Zj,Zap,Zl,eq_self,implies_true,Xq,Zp,ZI,ZK,ZJ,ZH,Zp]) (by simp -implicitDefEqProofs only [Zam,Zao,Zn,Zi,Zm,Zaq,Zk,Zj,Zap,Zl,eq_self,implies_true,Xq,Zp,ZI,ZK,ZJ,ZH,Zp]) rfl (fun _=>rfl) _ _ _ _
   simp -implicitDefEqProofs only [EQA,Zn,Zi,Zm,Zk,Zj,Zl,Zz,ZG,ZC,Zy,ZE,ZF,ZA,ZB,ZD,implies_true,forall_const,Xh,Xi,Xl,Xe,Xf,Xj,Xk,Zv,Zx,unA,Zt,Zu,unG,reduceCtorEq,Zr,decide_eq_true_eq,Xd,Xb,ite_self,↓reduceIte,Zs,Zw,gcT,gcA,Zq,Zd,Zc,Ze,Zh,Zb,Zg,Zf,Zo,Xc,Zfp,Zeb,ZeS,Zp,ZI,ZK,ZJ,ZH,ZL,hA,hB]
  ·have hB:∀ (σ:Za) (sq own:Nat) (view:Bool),ZQ E BY σ sq 38 own view [.str s,.str [47]]=some (.tup [.str ((Zau s).headD []),.str (s.drop (((Zau s).headD []).length+1)),.bool true],σ,{}):=fun _ _ _ _=>Za5 (ZuT s (by omega) h2) (by kernel_rfl) (by simp -implicitDefEqProofs only [Zam,Zao,Zn,Zi,Zm,Zaq,Zk,Zj,Zap,Zl,eq_self,implies_true,Xq,Zp,ZI,ZK,ZJ,ZH,Zp]) (by simp -implicitDefEqProofs only [Zam,Zao,Zn,Zi,Zm,Zaq,Zk,Zj,Zap,Zl,eq_self,implies_true,Xq,Zp,ZI,ZK,ZJ,ZH,Zp]) rfl (fun _=>rfl) _ _ _ _
   simp -implicitDefEqProofs only [EQA,Zn,Zi,Zm,Zk,Zj,Zl,Zz,ZG,ZC,Zy,ZE,ZF,ZA,ZB,ZD,implies_true,forall_const,Xh,Xi,Xl,Xe,Xf,Xj,Xk,Zv,Zx,unA,Zt,Zu,unG,reduceCtorEq,Zr,decide_eq_true_eq,Xd,Xb,ite_self,↓reduceIte,Zs,Zw,gcT,gcA,Zq,Zd,Zc,Ze,Zh,Zb,Zg,Zf,Zo,Xc,Zfp,Zeb,ZeS,Zp,ZI,ZK,ZJ,ZH,ZL,hA,hB]
 ·have hA:∀ (σ:Za) (sq own:Nat) (view:Bool),ZQ E BY σ sq 37 own view [.str s,.str [36,115,104,97,114,101,47]]=some (.tup [.str (s.drop 7),.bool true],σ,{}):=fun _ _ _ _=>Za5 (ZLR s h1) (by kernel_rfl) (by simp -implicitDefEqProofs only [Zam,Zao,Zn,Zi,Zm,Zaq,Zk,Zj,Zap,Zl,eq_self,implies_true,Xq,Zp,ZI,ZK,ZJ,ZH,Zp]) (by simp -implicitDefEqProofs only [Zam,Zao,Zn,Zi,Zm,Zaq,Zk,Zj,Zap,Zl,eq_self,implies_true,Xq,Zp,ZI,ZK,ZJ,ZH,Zp]) rfl (fun _=>rfl) _ _ _ _
  have hdl:(s.drop 7).length<=s.length:=by simp
  by_cases h2:(s.drop 7).count 47=0
  ·have hB:∀ (σ:Za) (sq own:Nat) (view:Bool),ZQ E BY σ sq 38 own view [.str (s.drop 7),.str [47]]=some (.tup [.str (s.drop 7),.str [],.bool false],σ,{}):=fun _ _ _ _=>Za5 (ZsH (s.drop 7) (by omega) h2) (by kernel_rfl) (by simp -implicitDefEqProofs only [Zam,Zao,Zn,Zi,Zm,Zaq,Zk,Zj,Zap,Zl,eq_self,implies_true,Xq,Zp,ZI,ZK,ZJ,ZH,Zp]) (by simp -implicitDefEqProofs only [Zam,Zao,Zn,Zi,Zm,Zaq,Zk,Zj,Zap,Zl,eq_self,implies_true,Xq,Zp,ZI,ZK,ZJ,ZH,Zp]) rfl (fun _=>rfl) _ _ _ _
   simp -implicitDefEqProofs only [EQA,Zn,Zi,Zm,Zk,Zj,Zl,Zz,ZG,ZC,Zy,ZE,ZF,ZA,ZB,ZD,implies_true,forall_const,Xh,Xi,Xl,Xe,Xf,Xj,Xk,Zv,Zx,unA,Zt,Zu,unG,reduceCtorEq,Zr,decide_eq_true_eq,Xd,Xb,ite_self,↓reduceIte,Zs,Zw,gcT,gcA,Zq,Zd,Zc,Ze,Zh,Zb,Zg,Zf,Zo,Xc,Zfp,Zeb,ZeS,Zp,ZI,ZK,ZJ,ZH,ZL,hA,hB,h2]
  ·have hf:(s.drop 7).drop (((Zau (s.drop 7)).headD []).length+1)=fil s:=by
    unfold fil grp;rw [List.drop_drop];congr 1;omega
   have hB:∀ (σ:Za) (sq own:Nat) (view:Bool),ZQ E BY σ sq 38 own view [.str (s.drop 7),.str [47]]=some (.tup [.str (grp s),.str (fil s),.bool true],σ,{}):=fun _ _ _ _=>by
    have:=ZuT (s.drop 7) (by omega) h2
    rw [hf] at this
    exact Za5 (this) (by kernel_rfl) (by simp -implicitDefEqProofs only [Zam,Zao,Zn,Zi,Zm,Zaq,Zk,Zj,Zap,Zl,eq_self,implies_true,Xq,Zp,ZI,ZK,ZJ,ZH,Zp]) (by simp -implicitDefEqProofs only [Zam,Zao,Zn,Zi,Zm,Zaq,Zk,Zj,Zap,Zl,eq_self,implies_true,Xq,Zp,ZI,ZK,ZJ,ZH,Zp]) rfl (fun _=>rfl) _ _ _ _
   cases h3:Zcy s
   ·simp -implicitDefEqProofs only [EQA,Zn,Zi,Zm,Zk,Zj,Zl,Zz,ZG,ZC,Zy,ZE,ZF,ZA,ZB,ZD,implies_true,forall_const,Xh,Xi,Xl,Xe,Xf,Xj,Xk,Zv,Zx,unA,Zt,Zu,unG,reduceCtorEq,Zr,decide_eq_true_eq,Xd,Xb,ite_self,↓reduceIte,Zs,Zw,gcT,gcA,Zq,Zd,Zc,Ze,Zh,Zb,Zg,Zf,Zo,Xc,Zfp,Zeb,ZeS,Zp,ZI,ZK,ZJ,ZH,ZL,hA,hB,h2,Ze9,h3]
   have hs16:=ZeT h3
   by_cases h4:(((grp s).length:Int) < 1)
   ·have h4':¬(1<=(grp s).length):=by omega
    simp -implicitDefEqProofs only [EQA,Zn,Zi,Zm,Zk,Zj,Zl,Zz,ZG,ZC,Zy,ZE,ZF,ZA,ZB,ZD,implies_true,forall_const,Xh,Xi,Xl,Xe,Xf,Xj,Xk,Zv,Zx,unA,Zt,Zu,unG,reduceCtorEq,Zr,decide_eq_true_eq,Xd,Xb,ite_self,↓reduceIte,Zs,Zw,gcT,gcA,Zq,Zd,Zc,Ze,Zh,Zb,Zg,Zf,Zo,Xc,Zfp,Zeb,ZeS,Zp,ZI,ZK,ZJ,ZH,ZL,hA,hB,h2,Ze9,h3,h4,h4']
   have h4':(1<=(grp s).length):=by omega
   by_cases h5:(((grp s).length:Int) > 16)
   ·have h5':¬((grp s).length<=16):=by omega
    simp -implicitDefEqProofs only [EQA,Zn,Zi,Zm,Zk,Zj,Zl,Zz,ZG,ZC,Zy,ZE,ZF,ZA,ZB,ZD,implies_true,forall_const,Xh,Xi,Xl,Xe,Xf,Xj,Xk,Zv,Zx,unA,Zt,Zu,unG,reduceCtorEq,Zr,decide_eq_true_eq,Xd,Xb,ite_self,↓reduceIte,Zs,Zw,gcT,gcA,Zq,Zd,Zc,Ze,Zh,Zb,Zg,Zf,Zo,Xc,Zfp,Zeb,ZeS,Zp,ZI,ZK,ZJ,ZH,ZL,hA,hB,h2,Ze9,h3,h4,h4',h5,h5']
   have h5':((grp s).length<=16):=by omega
   have hC:=fun σ sq own view=>Znu σ sq own view (grp s) (by omega)
   have hfl:(fil s).length<=s.length:=by simp [fil]
   have hD:=fun σ sq own view=>ZtC σ sq own view (fil s) (by omega)
   cases h6:ZbC (grp s)
   ·cases h7:Zdu (fil s)
    ·simp -implicitDefEqProofs only [EQA,Zn,Zi,Zm,Zk,Zj,Zl,Zz,ZG,ZC,Zy,ZE,ZF,ZA,ZB,ZD,implies_true,forall_const,Xh,Xi,Xl,Xe,Xf,Xj,Xk,Zv,Zx,unA,Zt,Zu,unG,reduceCtorEq,Zr,decide_eq_true_eq,Xd,Xb,ite_self,↓reduceIte,Zs,Zw,gcT,gcA,Zq,Zd,Zc,Ze,Zh,Zb,Zg,Zf,Zo,Xc,Zfp,Zeb,ZeS,Zp,ZI,ZK,ZJ,ZH,ZL,hA,hB,h2,Ze9,h3,h4,h4',h5,h5',hC,h6,hD,h7]
    ·simp -implicitDefEqProofs only [EQA,Zn,Zi,Zm,Zk,Zj,Zl,Zz,ZG,ZC,Zy,ZE,ZF,ZA,ZB,ZD,implies_true,forall_const,Xh,Xi,Xl,Xe,Xf,Xj,Xk,Zv,Zx,unA,Zt,Zu,unG,reduceCtorEq,Zr,decide_eq_true_eq,Xd,Xb,ite_self,↓reduceIte,Zs,Zw,gcT,gcA,Zq,Zd,Zc,Ze,Zh,Zb,Zg,Zf,Zo,Xc,Zfp,Zeb,ZeS,Zp,ZI,ZK,ZJ,ZH,ZL,hA,hB,h2,Ze9,h3,h4,h4',h5,h5',hC,h6,hD,h7]
   ·simp -implicitDefEqProofs only [EQA,Zn,Zi,Zm,Zk,Zj,Zl,Zz,ZG,ZC,Zy,ZE,ZF,ZA,ZB,ZD,implies_true,forall_const,Xh,Xi,Xl,Xe,Xf,Xj,Xk,Zv,Zx,unA,Zt,Zu,unG,reduceCtorEq,Zr,decide_eq_true_eq,Xd,Xb,ite_self,↓reduceIte,Zs,Zw,gcT,gcA,Zq,Zd,Zc,Ze,Zh,Zb,Zg,Zf,Zo,Xc,Zfp,Zeb,ZeS,Zp,ZI,ZK,ZJ,ZH,ZL,hA,hB,h2,Ze9,h3,h4,h4',h5,h5',hC,h6]
theorem ZEP (s:List UInt8) (hs:s.length*16<=140737488355328 - 64):E 21 [.str s] []=some (ZcB s,[]):=Zvd s (by omega)
theorem ZzV (σ:Za) (sq own:Nat) (view:Bool) (s:List UInt8) (hs:s.length*16<=140737488355328 - 64):ZQ E BY σ sq 21 own view [.str s]=some (ZcB s,σ,{}):=by
 have h:=ZEP s hs
 unfold ZcB at h ⊢
 by_cases e:ZaD s=true
 ·rw [if_pos e] at h ⊢;exact Za5 (h) (by kernel_rfl) (by simp -implicitDefEqProofs only [Zam,Zao,Zn,Zi,Zm,Zaq,Zk,Zj,Zap,Zl,eq_self,implies_true,Xq,Zp,ZI,ZK,ZJ,ZH,Zp]) (by simp -implicitDefEqProofs only [Zam,Zao,Zn,Zi,Zm,Zaq,Zk,Zj,Zap,Zl,eq_self,implies_true,Xq,Zp,ZI,ZK,ZJ,ZH,Zp]) rfl (fun _=>rfl) _ _ _ _
 ·rw [if_neg e] at h ⊢;exact Za5 (h) (by kernel_rfl) (by simp -implicitDefEqProofs only [Zam,Zao,Zn,Zi,Zm,Zaq,Zk,Zj,Zap,Zl,eq_self,implies_true,Xq,Zp,ZI,ZK,ZJ,ZH,Zp]) (by simp -implicitDefEqProofs only [Zam,Zao,Zn,Zi,Zm,Zaq,Zk,Zj,Zap,Zl,eq_self,implies_true,Xq,Zp,ZI,ZK,ZJ,ZH,Zp]) rfl (fun _=>rfl) _ _ _ _
theorem ZHj (σ:Za) (sq own:Nat) (view:Bool) (s:List UInt8) (hs:s.length<=9223372036854775807):ZQ E BY σ sq 21 own view [.str s]=some (ZcB s,σ,{}):=by
 have h:=Zvd s hs
 unfold ZcB at h ⊢
 by_cases e:ZaD s=true
 ·rw [if_pos e] at h ⊢;exact Za5 (h) (by kernel_rfl) (by simp -implicitDefEqProofs only [Zam,Zao,Zn,Zi,Zm,Zaq,Zk,Zj,Zap,Zl,eq_self,implies_true,Xq,Zp,ZI,ZK,ZJ,ZH,Zp]) (by simp -implicitDefEqProofs only [Zam,Zao,Zn,Zi,Zm,Zaq,Zk,Zj,Zap,Zl,eq_self,implies_true,Xq,Zp,ZI,ZK,ZJ,ZH,Zp]) rfl (fun _=>rfl) _ _ _ _
 ·rw [if_neg e] at h ⊢;exact Za5 (h) (by kernel_rfl) (by simp -implicitDefEqProofs only [Zam,Zao,Zn,Zi,Zm,Zaq,Zk,Zj,Zap,Zl,eq_self,implies_true,Xq,Zp,ZI,ZK,ZJ,ZH,Zp]) (by simp -implicitDefEqProofs only [Zam,Zao,Zn,Zi,Zm,Zaq,Zk,Zj,Zap,Zl,eq_self,implies_true,Xq,Zp,ZI,ZK,ZJ,ZH,Zp]) rfl (fun _=>rfl) _ _ _ _
theorem ZJa {s:List UInt8} (h:ZaD s=true):s.length<=64:=by
 unfold ZaD at h
 simp only [XE] at h
 exact ZeT h.1.1.1.1.2
theorem ZE7 (s:List UInt8):(grp s).length<=s.length - 7:=by
 unfold grp
 obtain ⟨x,r,hx⟩:∃ x r,Zau (s.drop 7)=x::r:=by
  cases h:Zau (s.drop 7) with
  | nil=>exact absurd h (Zgi _)
  | cons x r=>exact ⟨x,r,rfl⟩
 have:=Zp5 (s.drop 7) x (by rw [hx];simp)
 rw [hx];simpa using this
theorem ZEL {s:List UInt8} (h0:7<=s.length) (h:8+(grp s).length < s.length):(s.drop 7).count 47≠0:=by
 intro hc
 have : grp s=s.drop 7:=by unfold grp;rw [Zud hc];rfl
 rw [this] at h
 simp at h;omega
theorem ZBH {s:List UInt8} (h:s.length<=8+(grp s).length):Zdu (fil s)=false:=by
 have : fil s=[]:=by unfold fil;rw [Wl];omega
 rw [this];rfl
theorem Zfj {s:List UInt8} (h:ZaD s=false):ZcB s=.tup [.str [],.str [],.bool false]:=by simp [ZcB,h]
theorem ZFf (s:List UInt8):E 23 [.str s] []=some (ZcB s,[]):=by
 rw [ZaJ (by rfl) Zz2]
 cases h1:Zhu s
 ·have hp:Zcu s=false:=by simp only [Zhu,WN] at h1;exact h1.2
  rw [Zfj (by simp [ZaD,hp])]
  simp -implicitDefEqProofs only [EQA,Zn,Zi,Zm,Zk,Zj,Zl,Zz,ZG,ZC,Zy,ZE,ZF,ZA,ZB,ZD,implies_true,forall_const,Xh,Xi,Xl,Xe,Xf,Xj,Xk,Zv,Zx,unA,Zt,Zu,unG,reduceCtorEq,Zr,decide_eq_true_eq,Xd,Xb,ite_self,↓reduceIte,Zs,Zw,gcT,gcA,Zq,Zd,Zc,Ze,Zh,Zb,Zg,Zf,Zo,Xc,Zel,ZdT,Zei,Zp,ZI,ZK,ZJ,ZH,ZL,Zeu,h1]
 cases h3:Zcy s
 ·rw [Zfj (by simp [ZaD,h3])]
  simp -implicitDefEqProofs only [EQA,Zn,Zi,Zm,Zk,Zj,Zl,Zz,ZG,ZC,Zy,ZE,ZF,ZA,ZB,ZD,implies_true,forall_const,Xh,Xi,Xl,Xe,Xf,Xj,Xk,Zv,Zx,unA,Zt,Zu,unG,reduceCtorEq,Zr,decide_eq_true_eq,Xd,Xb,ite_self,↓reduceIte,Zs,Zw,gcT,gcA,Zq,Zd,Zc,Ze,Zh,Zb,Zg,Zf,Zo,Xc,Zel,ZdT,Zei,Zp,ZI,ZK,ZJ,ZH,ZL,Zeu,h1,Zdm,h3]
 have hfl:=ZeT h3
 by_cases h8:((s.length:Int) < 8)
 ·rw [Zfj (by
   have hd:(s.drop 7).length<=0+(s.length - 7):=by simp
   by_cases hp:Zcu s=true
   ·have:=ZnY hp
    have : s.drop 7=[]:=by rw [Wl];omega
    simp [ZaD,this]
   ·have : Zcu s=false:=by simpa using hp
    simp [ZaD,this])]
  simp -implicitDefEqProofs only [EQA,Zn,Zi,Zm,Zk,Zj,Zl,Zz,ZG,ZC,Zy,ZE,ZF,ZA,ZB,ZD,implies_true,forall_const,Xh,Xi,Xl,Xe,Xf,Xj,Xk,Zv,Zx,unA,Zt,Zu,unG,reduceCtorEq,Zr,decide_eq_true_eq,Xd,Xb,ite_self,↓reduceIte,Zs,Zw,gcT,gcA,Zq,Zd,Zc,Ze,Zh,Zb,Zg,Zf,Zo,Xc,Zel,ZdT,Zei,Zp,ZI,ZK,ZJ,ZH,ZL,Zeu,h1,Zdm,h3,h8]
 have hp:Zcu s=true:=by
  simp only [Zhu,WK] at h1
  rcases h1 with h | h
  ·have : s=[36,115,104,97,114,101]:=by simpa using h
   rw [this] at h8;exact absurd (by decide) h8
  ·exact h
 have h7:((7:Nat):Int)<=(s.length:Int):=by omega
 have h7':(7:Int)<=(s.length:Int):=by omega
 have i7':(0:Int)<=7:=by decide
 have l7':(7:Int).toNat=7:=rfl
 have hlv:=fun σ sq own=>ZlK σ sq own (s.drop 7) (by simp only [WJ];omega)
 have hg:(Zau (s.drop 7)).headD []=grp s:=rfl
 have hgl:=ZE7 s
 obtain ⟨r0,hx⟩:∃ r,Zau (s.drop 7)=grp s::r:=by
  cases h:Zau (s.drop 7) with
  | nil=>exact absurd h (Zgi _)
  | cons x r=>refine ⟨r,?_⟩;rw [<-hg,h];rfl
 rw [hx] at hlv
 have hi0:=fun σ kk=>Znl (grp s) r0 σ kk
 simp only [XS] at hlv hi0
 have hC1:=fun σ sq own view=>ZhS σ sq own view (grp s) 43 (by omega)
 have hC2:=fun σ sq own view=>ZhS σ sq own view (grp s) 35 (by omega)
 simp only [show (((43:UInt8).toNat:Nat):Int)=43 from rfl] at hC1
 simp only [show (((35:UInt8).toNat:Nat):Int)=35 from rfl] at hC2
 have w1:IntKind.i64.wrap (8+((grp s).length:Int))=8+((grp s).length:Int):=Zbp (by omega) (by omega)
 by_cases h4:(((grp s).length:Int) < 1)
 ·rw [Zfj (by (have : ¬(1<=(grp s).length):=(by omega));simp [ZaD,this])]
  simp -implicitDefEqProofs only [EQA,Zn,Zi,Zm,Zk,Zj,Zl,Zz,ZG,ZC,Zy,ZE,ZF,ZA,ZB,ZD,implies_true,forall_const,Xh,Xi,Xl,Xe,Xf,Xj,Xk,Zv,Zx,unA,Zt,Zu,unG,reduceCtorEq,Zr,decide_eq_true_eq,Xd,Xb,ite_self,↓reduceIte,Zs,Zw,gcT,gcA,Zq,Zd,Zc,Ze,Zh,Zb,Zg,Zf,Zo,Xc,Zel,ZdT,Zei,Zp,ZI,ZK,ZJ,ZH,ZL,Zeu,h1,Zdm,h3,h8,h7,h7',i7',l7',ZaQ,Zbv,W2,hlv,hi0,h4]
 by_cases h5:(((grp s).length:Int) > 16)
 ·rw [Zfj (by (have : ¬((grp s).length<=16):=(by omega));simp [ZaD,this])]
  simp -implicitDefEqProofs only [EQA,Zn,Zi,Zm,Zk,Zj,Zl,Zz,ZG,ZC,Zy,ZE,ZF,ZA,ZB,ZD,implies_true,forall_const,Xh,Xi,Xl,Xe,Xf,Xj,Xk,Zv,Zx,unA,Zt,Zu,unG,reduceCtorEq,Zr,decide_eq_true_eq,Xd,Xb,ite_self,↓reduceIte,Zs,Zw,gcT,gcA,Zq,Zd,Zc,Ze,Zh,Zb,Zg,Zf,Zo,Xc,Zel,ZdT,Zei,Zp,ZI,ZK,ZJ,ZH,ZL,Zeu,h1,Zdm,h3,h8,h7,h7',i7',l7',ZaQ,Zbv,W2,hlv,hi0,h4,h5]
 cases ha:Zcz (grp s) 43
 ·cases hb:Zcz (grp s) 35
  ·have hph:ZbC (grp s)=false:=by rw [Zi1,ha,hb];rfl
   by_cases h9:((s.length:Int)<=8+((grp s).length:Int))
   ·rw [Zfj (by simp [ZaD,ZBH (s:=s) (by omega)])]
    simp -implicitDefEqProofs only [EQA,Zn,Zi,Zm,Zk,Zj,Zl,Zz,ZG,ZC,Zy,ZE,ZF,ZA,ZB,ZD,implies_true,forall_const,Xh,Xi,Xl,Xe,Xf,Xj,Xk,Zv,Zx,unA,Zt,Zu,unG,reduceCtorEq,Zr,decide_eq_true_eq,Xd,Xb,ite_self,↓reduceIte,Zs,Zw,gcT,gcA,Zq,Zd,Zc,Ze,Zh,Zb,Zg,Zf,Zo,Xc,Zel,ZdT,Zei,Zp,ZI,ZK,ZJ,ZH,ZL,Zeu,h1,Zdm,h3,h8,h7,h7',i7',l7',ZaQ,Zbv,W2,hlv,hi0,h4,h5,hC1,hC2,ha,hb,w1,h9]
   ·have hcnt:=ZEL (s:=s) (by omega) (by omega)
    have k0:(0:Int)<=8+((grp s).length:Int):=by omega
    have k1:8+((grp s).length:Int)<=(s.length:Int):=by omega
    have k2:(8+((grp s).length:Int)).toNat=8+(grp s).length:=by omega
    have hfd:s.drop (8+(grp s).length)=fil s:=rfl
    cases h10:Zdu (fil s)
    ·rw [Zfj (by simp [ZaD,h10])]
     simp -implicitDefEqProofs only [EQA,Zn,Zi,Zm,Zk,Zj,Zl,Zz,ZG,ZC,Zy,ZE,ZF,ZA,ZB,ZD,implies_true,forall_const,Xh,Xi,Xl,Xe,Xf,Xj,Xk,Zv,Zx,unA,Zt,Zu,unG,reduceCtorEq,Zr,decide_eq_true_eq,Xd,Xb,ite_self,↓reduceIte,Zs,Zw,gcT,gcA,Zq,Zd,Zc,Ze,Zh,Zb,Zg,Zf,Zo,Xc,Zel,ZdT,Zei,Zp,ZI,ZK,ZJ,ZH,ZL,Zeu,h1,Zdm,h3,h8,h7,h7',i7',l7',ZaQ,Zbv,W2,hlv,hi0,h4,h5,hC1,hC2,ha,hb,w1,h9,k0,k1,k2,hfd,Zfk,h10]
    ·have hok:ZaD s=true:=by
      have g1:1<=(grp s).length:=by omega
      have g2:(grp s).length<=16:=by omega
      simp only [ZaD,hp,h3,h10,hph,XaV,Bool.true_and,XbB,decide_eq_true_eq,XE]
      exact ⟨⟨hcnt,g1⟩,g2⟩
     have hV:ZcB s=.tup [.str (grp s),.str (fil s),.bool true]:=by simp [ZcB,hok]
     rw [hV]
     simp -implicitDefEqProofs only [EQA,Zn,Zi,Zm,Zk,Zj,Zl,Zz,ZG,ZC,Zy,ZE,ZF,ZA,ZB,ZD,implies_true,forall_const,Xh,Xi,Xl,Xe,Xf,Xj,Xk,Zv,Zx,unA,Zt,Zu,unG,reduceCtorEq,Zr,decide_eq_true_eq,Xd,Xb,ite_self,↓reduceIte,Zs,Zw,gcT,gcA,Zq,Zd,Zc,Ze,Zh,Zb,Zg,Zf,Zo,Xc,Zel,ZdT,Zei,Zp,ZI,ZK,ZJ,ZH,ZL,Zeu,h1,Zdm,h3,h8,h7,h7',i7',l7',ZaQ,Zbv,W2,hlv,hi0,h4,h5,hC1,hC2,ha,hb,w1,h9,k0,k1,k2,hfd,Zfk,h10]
  ·rw [Zfj (by simp [ZaD,Zi1,hb])]
   simp -implicitDefEqProofs only [EQA,Zn,Zi,Zm,Zk,Zj,Zl,Zz,ZG,ZC,Zy,ZE,ZF,ZA,ZB,ZD,implies_true,forall_const,Xh,Xi,Xl,Xe,Xf,Xj,Xk,Zv,Zx,unA,Zt,Zu,unG,reduceCtorEq,Zr,decide_eq_true_eq,Xd,Xb,ite_self,↓reduceIte,Zs,Zw,gcT,gcA,Zq,Zd,Zc,Ze,Zh,Zb,Zg,Zf,Zo,Xc,Zel,ZdT,Zei,Zp,ZI,ZK,ZJ,ZH,ZL,Zeu,h1,Zdm,h3,h8,h7,h7',i7',l7',ZaQ,Zbv,W2,hlv,hi0,h4,h5,hC1,hC2,ha,hb]
 ·rw [Zfj (by simp [ZaD,Zi1,ha])]
  simp -implicitDefEqProofs only [EQA,Zn,Zi,Zm,Zk,Zj,Zl,Zz,ZG,ZC,Zy,ZE,ZF,ZA,ZB,ZD,implies_true,forall_const,Xh,Xi,Xl,Xe,Xf,Xj,Xk,Zv,Zx,unA,Zt,Zu,unG,reduceCtorEq,Zr,decide_eq_true_eq,Xd,Xb,ite_self,↓reduceIte,Zs,Zw,gcT,gcA,Zq,Zd,Zc,Ze,Zh,Zb,Zg,Zf,Zo,Xc,Zel,ZdT,Zei,Zp,ZI,ZK,ZJ,ZH,ZL,Zeu,h1,Zdm,h3,h8,h7,h7',i7',l7',ZaQ,Zbv,W2,hlv,hi0,h4,h5,hC1,hC2,ha]
theorem Zvi (σ:Za) (sq own:Nat) (view:Bool) (s:List UInt8):ZQ E BY σ sq 23 own view [.str s]=some (ZcB s,σ,{}):=by
 have h:=ZFf s
 unfold ZcB at h ⊢
 by_cases e:ZaD s=true
 ·rw [if_pos e] at h ⊢;exact Za5 (h) (by kernel_rfl) (by simp -implicitDefEqProofs only [Zam,Zao,Zn,Zi,Zm,Zaq,Zk,Zj,Zap,Zl,eq_self,implies_true,Xq,Zp,ZI,ZK,ZJ,ZH,Zp]) (by simp -implicitDefEqProofs only [Zam,Zao,Zn,Zi,Zm,Zaq,Zk,Zj,Zap,Zl,eq_self,implies_true,Xq,Zp,ZI,ZK,ZJ,ZH,Zp]) rfl (fun _=>rfl) _ _ _ _
 ·rw [if_neg e] at h ⊢;exact Za5 (h) (by kernel_rfl) (by simp -implicitDefEqProofs only [Zam,Zao,Zn,Zi,Zm,Zaq,Zk,Zj,Zap,Zl,eq_self,implies_true,Xq,Zp,ZI,ZK,ZJ,ZH,Zp]) (by simp -implicitDefEqProofs only [Zam,Zao,Zn,Zi,Zm,Zaq,Zk,Zj,Zap,Zl,eq_self,implies_true,Xq,Zp,ZI,ZK,ZJ,ZH,Zp]) rfl (fun _=>rfl) _ _ _ _
end
section
end
section
theorem ZfK {O:Zat} {bf:Nat->Bool} {σ:Za} {sq f own:Nat} {view:Bool} {args vs vs':List AVal} {ids:List Nat} {h0 h:Za} {r:AVal} (hb:bf f=false) (hsh:showAs σ args=some (vs,[])) (hre:Zd σ 1000 (ZP vs) []=ids) (hne:ids.isEmpty=false)
  (hall:(ids.all fun t=>okB (σ.getD t .free))=true) (hvs:ZR (Zc σ 0 ids) vs=vs') (hh:Ze σ 0 ids (Zc σ 0 ids) ids 0=h0) (hask:ZaG view ids.length (O f vs' h0)=some (r,h))
  (hl1:h.length<=ids.length+own) (hl2:ids.length<=h.length) (hk:Za4 σ ids h 0=true) (hff:ZaN σ sq own=true) {r':AVal} (hr:ZN (ZaM σ ids sq) r=r') {σ':Za} (hlay:ZaR σ ids sq h 0 σ=σ') {u:List (Nat×List AVal)} (hu:Za7 σ' ids=u) :
  ZQ O bf σ sq f own view args=some (r',σ',{ any:=true,upd:=u }):=by
 cases hO:O f vs' h0 with
 | none =>
  rw [hO] at hask
  unfold ZaG at hask
  split at hask <;> cases hask
 | some p =>
  rw [hO] at hask
  exact Zl3 hb hsh hre hne hall hvs hh hO hask hl1 hl2 hk hff hr hlay hu
end
section
theorem Zus {M:List Sh} {R:List Mb} (hi:Inv M R) (hl:R.length<=1000000) (s c:Tx):E 29 [.str s,.ref 0 0,.ref 3 0] [.var [.ref 1 0],.var [.map 2],.rmap (GR M),.var [.str c]]=some (.bool (R.contains (s,c)),[.var [.ref 1 0],.var [.map 2],.rmap (GR M),.var [.str c]]):=by
 have hml:=ZfU R s
 have hk:=fun {σ:Za} {t:Nat} hs=>Zqp hi s (σ:=σ) (t:=t) hs
 have hC:=fun {b:Bool} (σ:Za) (sq own:Nat)=>ZkU (ZW R s) b (by omega) c σ sq own
 rw [ZgD] at hC
 unfold ZgA at hk
 generalize decide (ZW R s=[])=b0 at *
 generalize (ZW R s).map AVal.str=S at *
 generalize R.contains (s,c)=q at *
 rw [ZaJ (by rfl) ZI2]
 simp -implicitDefEqProofs only [EQA,Zn,Zi,Zm,Zk,Zj,Zl,Zz,ZG,ZC,Zy,ZE,ZF,ZA,ZB,ZD,implies_true,forall_const,Xh,Xi,Xl,Xe,Xf,Xj,Xk,Zv,Zx,unA,Zt,Zu,unG,reduceCtorEq,Zr,decide_eq_true_eq,Xd,Xb,ite_self,↓reduceIte,Zs,Zw,gcT,gcA,Zq,Zd,Zc,Ze,Zh,Zb,Zg,Zf,Zo,Xc,ZbM,ZbB,ZbK,Zp,ZI,ZK,ZJ,ZH,ZL,hC,hk,AVal.cells,Zag,Z0,Zah,Z3,XF,XH,Xp,Xs,Xr,Xt,Zaa,Zae,Zab,Zaf,Zac,Xm,Xn,ZU,ZX,ZV,Z1,Z6,Z4,Z9,Z7,ZZ,Z8,Xy,XA,Xp,Xs,Xo]
 simp -implicitDefEqProofs only [EQA,Zan,gcA,Zq,ZP,Xw,Xv,Xc,XP,XJ,XD,XM,Xm,Xn,Zal,Zak,Zay,Zaz,Zax,XT,XU,id_eq,ZR,Zd,Zo,ZT,Ze,Zf,ZN,Xo,Zc,Zh,Zb,Zg,Zn,Zi,Zm,Zk,Zj,Zl,Zz,ZG,ZC,Zy,ZE,ZF,ZA,ZB,ZD,implies_true,forall_const,Xh,Xi,Xl,Xe,Xf,Xj,Xk,Zv,Zx,unA,Zt,Zu,unG,reduceCtorEq,Zr,decide_eq_true_eq,Xd,Xb,ite_self,↓reduceIte,Zs,Zw,gcT,gcA,Zq,Zd,Zc,Ze,Zh,Zb,Zg,Zf,Zo,Xc,Zbb,Zbc,or_false,XG]
theorem ZrR (s n:Tx) (hs:s.length*16<=140737488355328 - 64):E 31 [.str s,.ref 0 0] [.var [.str n]]=some (.bool (Zbg (if ZaD s then fil s else []) n),[.var [.str n]]):=by
 have hS:=fun σ sq own view=>ZzV σ sq own view s hs
 have hf:(if ZaD s then fil s else ([]:Tx)).length<=s.length:=by
  split
  ·unfold fil;rw [WJ];omega
  ·simp
 have hM:=fun σ sq own view=>ZAx σ sq own view (if ZaD s then fil s else []) n (by omega)
 unfold ZcB at hS
 cases h:ZaD s with
 | true =>
  rw [h] at hS hM
  simp only [if_true] at hS hM ⊢
  rw [ZaJ (by rfl) ZtY]
  simp -implicitDefEqProofs only [EQA,Zn,Zi,Zm,Zk,Zj,Zl,Zz,ZG,ZC,Zy,ZE,ZF,ZA,ZB,ZD,implies_true,forall_const,Xh,Xi,Xl,Xe,Xf,Xj,Xk,Zv,Zx,unA,Zt,Zu,unG,reduceCtorEq,Zr,decide_eq_true_eq,Xd,Xb,ite_self,↓reduceIte,Zs,Zw,gcT,gcA,Zq,Zd,Zc,Ze,Zh,Zb,Zg,Zf,Zo,Xc,ZtM,Zmb,ZqX,Zp,ZI,ZK,ZJ,ZH,ZL,hS,hM]
  try (simp -implicitDefEqProofs only [EQA,Zan,gcA,Zq,ZP,Xw,Xv,Xc,XP,XJ,XD,XM,Xm,Xn,Zal,Zak,Zay,Zaz,Zax,XT,XU,id_eq,ZR,Zd,Zo,ZT,Ze,Zf,ZN,Xo,Zc,Zh,Zb,Zg,Zn,Zi,Zm,Zk,Zj,Zl,Zz,ZG,ZC,Zy,ZE,ZF,ZA,ZB,ZD,implies_true,forall_const,Xh,Xi,Xl,Xe,Xf,Xj,Xk,Zv,Zx,unA,Zt,Zu,unG,reduceCtorEq,Zr,decide_eq_true_eq,Xd,Xb,ite_self,↓reduceIte,Zs,Zw,gcT,gcA,Zq,Zd,Zc,Ze,Zh,Zb,Zg,Zf,Zo,Xc,or_false])
 | false =>
  rw [h] at hS hM
  simp only [Xq,if_false] at hS hM ⊢
  rw [ZaJ (by rfl) ZtY]
  simp -implicitDefEqProofs only [EQA,Zn,Zi,Zm,Zk,Zj,Zl,Zz,ZG,ZC,Zy,ZE,ZF,ZA,ZB,ZD,implies_true,forall_const,Xh,Xi,Xl,Xe,Xf,Xj,Xk,Zv,Zx,unA,Zt,Zu,unG,reduceCtorEq,Zr,decide_eq_true_eq,Xd,Xb,ite_self,↓reduceIte,Zs,Zw,gcT,gcA,Zq,Zd,Zc,Ze,Zh,Zb,Zg,Zf,Zo,Xc,ZtM,Zmb,ZqX,Zp,ZI,ZK,ZJ,ZH,ZL,hS,hM]
  try (simp -implicitDefEqProofs only [EQA,Zan,gcA,Zq,ZP,Xw,Xv,Xc,XP,XJ,XD,XM,Xm,Xn,Zal,Zak,Zay,Zaz,Zax,XT,XU,id_eq,ZR,Zd,Zo,ZT,Ze,Zf,ZN,Xo,Zc,Zh,Zb,Zg,Zn,Zi,Zm,Zk,Zj,Zl,Zz,ZG,ZC,Zy,ZE,ZF,ZA,ZB,ZD,implies_true,forall_const,Xh,Xi,Xl,Xe,Xf,Xj,Xk,Zv,Zx,unA,Zt,Zu,unG,reduceCtorEq,Zr,decide_eq_true_eq,Xd,Xb,ite_self,↓reduceIte,Zs,Zw,gcT,gcA,Zq,Zd,Zc,Ze,Zh,Zb,Zg,Zf,Zo,Xc,or_false])
end
section
def Zbm (l:List (List UInt8)):List (List UInt8):=l.mergeSort fun x y=>decide (x<=y)
theorem Zhm (l:List (List UInt8)):(Zbm l).Perm l:=List.mergeSort_perm l _
theorem Zpe (l:List (List UInt8)):(Zbm l).Pairwise (·<=·):=by
 have h:=List.pairwise_mergeSort (le:=fun x y:List UInt8=>decide (x<=y)) (fun a b c h1 h2=>by simp only [decide_eq_true_eq] at h1 h2 ⊢;exact List.le_trans h1 h2) (fun a b=>by simp only [WK,decide_eq_true_eq];exact List.le_total a b) l
 exact h.imp fun h=>by simpa using h
theorem ZvS {d l:List (List UInt8)} (h:d.Perm l):Zbm d=Zbm l :=
 (((Zhm d).trans h).trans (Zhm l).symm).eq_of_pairwise (fun a b _ _ h1 h2=>Xbw h1 h2) (Zpe d) (Zpe l)
theorem Zv2 {d l:List (List UInt8)} (h:d.Perm l) (hl:l.Pairwise (·<=·)):Zbm d=l :=
 ((Zhm d).trans h).eq_of_pairwise (fun a b _ _ h1 h2=>Xbw h1 h2) (Zpe d) hl
theorem Zt8:∀ d:List (List UInt8),Zdt Zgv (d.map AVal.str)=some d
 | []=>rfl
 | x::d=>by
  show (Zdt Zgv (d.map AVal.str)).map (x::·)=_
  rw [Zt8 d];rfl
theorem Zw2 (d:List (List UInt8)) (h:d.length < 4611686018427387904):E 47 [.sl 0 0 0 d.length] [.row 0 1 (d.map AVal.str)]=some (.tup [],[.row 0 1 ((Zbm d).map AVal.str)]):=by
 refine Zcp.2 ⟨1,?_⟩
 show ZlH [.sl 0 0 0 d.length] [.row 0 1 (d.map AVal.str)]=_
 simp only [ZlH,Zmk,Zt8,X7,h,and_self,if_true]
 rfl
theorem ZsI (d:List (List UInt8)) (h:d.length < 4611686018427387904) {σ:Za} {t sq:Nat} (hs:σ[t]?=some (.row 0 1 (d.map AVal.str))):ZQ E BY σ sq 47 0 true [.sl t 0 0 d.length]=some (.tup [],σ.set t (.row 0 1 ((Zbm d).map AVal.str)),{ any:=true }):=by
 refine ZwY (args':=[.sl 0 0 0 d.length]) hs (by kernel_rfl) rfl rfl (fun ρ h=>by simp only [ZR,ZN,h]) (fun ρ=>rfl) (Or.inl rfl) ?_
 rw [Zw2 d h]
 rfl
theorem ZvR (σ:Za) (sq:Nat):ZQ E BY σ sq 47 0 true [.lst true []]=some (.tup [],σ,{}):=by
 have h:E 47 [.lst true []] []=some (.tup [],[]):=Zcp.2 ⟨1,rfl⟩
 unfold ZQ ZcK
 rw [show BY 47=true by kernel_rfl]
 simp only [if_true,show ZP [AVal.lst true []]=[] from rfl,show ZS σ []=σ from rfl]
 rw [show Zd σ 1000 [] []=[] from rfl]
 unfold Zb8
 rw [if_pos (by rfl),show ZR (Zc σ 0 []) [AVal.lst true []]=[.lst true []] from rfl,show Ze σ 0 [] (Zc σ 0 []) [] 0=[] from rfl,h]
 rfl
end
section
theorem Zf0 (cs:List AVal):Zce (.var cs)=false:=rfl
theorem Zgc (es:List (AVal×AVal)):Zce (.rmap es)=true:=rfl
theorem Zf1 (g k:Nat) (xs:List AVal):Zce (.row g k xs)=false:=rfl
theorem Zfw:Zce .free=false:=rfl
theorem ZfS (M:List Sh) (n:Nat):∀ p ∈ GR M,ZkM n p.2=true:=by
 intro p hp
 obtain ⟨x,_,rfl⟩:=X0.1 hp
 rfl
theorem ZtF {es:List (AVal×AVal)} {tm:Tms} {σ:Za} {out:AVal×Za} {m ms en b1:Nat} {live:List Nat} {aslE:List AOp} {c2:ZM} {fin:Tms->Za->Option (AVal×Za)} (h:∀ es':List (AVal×AVal),es'.Perm es->ZfL FC PR BY m live ms en b1 aslE c2 fin es es' tm σ=some out):ZlD FC PR BY m live ms en b1 aslE c2 fin es tm σ=some out:=by
 have h':∃ out,∀ es':List (AVal×AVal),es'.Perm es->ZfL FC PR BY m live ms en b1 aslE c2 fin es es' tm σ=some out:=⟨out,h⟩
 unfold ZlD
 rw [dif_pos h']
 refine congrArg some ?_
 have:=(h'.choose_spec es (Xbr _)).symm.trans (h es (Xbr _))
 injection this
theorem ZuG {α β:Type} {f:α->β}:∀ {l:List α} {es:List β},es.Perm (l.map f)->∃ d:List α,d.Perm l/\es=d.map f:=by
 intro l es h
 have key:∀ {xs ys:List β},xs.Perm ys->∀ l:List α,ys=l.map f->∃ d:List α,d.Perm l/\xs=d.map f:=by
  intro xs ys h
  induction h with
  | nil=>intro l e;exact ⟨l,Xbr _,e⟩
  | cons x _ ih =>
   intro l e
   cases l with
   | nil=>simp at e
   | cons a l =>
    simp only [XS,XaD] at e
    obtain ⟨d,h1,h2⟩:=ih l e.2
    exact ⟨a::d,h1.cons a,by rw [XS,<-h2,e.1]⟩
  | swap x y r =>
   intro l e
   match l,e with
   | a::b::l,e =>
    simp only [XS,XaD] at e
    refine ⟨b::a::l,List.Perm.swap a b l,?_⟩
    simp only [XS,e.1,e.2.1,e.2.2]
  | trans _ _ ih1 ih2 =>
   intro l e
   obtain ⟨d,h1,h2⟩:=ih2 l e
   obtain ⟨d',h3,h4⟩:=ih1 d h2
   exact ⟨d',h3.trans h1,h4⟩
 exact key h l rfl
def gvT (m:Nat) (T:List Tx):AVal:=if T=[] then .lst true [] else .sl m 0 0 T.length
def ghT (T:List Tx):Za:=if T=[] then [] else [.row 0 1 (T.map AVal.str)]
theorem ZpX (T:List Tx):Zis (.row 0 1 (T.map AVal.str))=true:=by
 unfold Zis
 rw [X1]
 intro x hx
 obtain ⟨b,_,rfl⟩:=X0.1 hx
 rfl
theorem ZrQ {d M:List Sh} (h:d.Perm M) (P:Tx->Bool):(((Zai d).filter P)).Perm ((Zai M).filter P):=(h.map _).filter _
open Classical in
theorem Zlg {g:List AVal->Za->Option (AVal×Za)} {args:List AVal} {M:List Sh} {X Y:Za} {r:AVal} (h:g args (rb M++X)=some (r,rb M++Y)) (hr:flxV r=true) (hY:Y.all Zis=true):ZdM 1 g args (bk M++X)=some (r,bk M++Y):=by
 have e1:(bk M++X)[1]?=some (.gmap 1 (GM M)):=rfl
 have e2:(bk M++X).set 1 (.rmap (GR M))=rb M++X:=rfl
 have e3:(rb M++Y)[1]?=some (.rmap (GR M)):=rfl
 have e4:(rb M++Y).set 1 (.gmap 1 (GM M))=bk M++Y:=rfl
 unfold ZdM
 rw [e1]
 simp only [Zuh,e2,h]
 rw [if_pos,e4]
 refine ⟨e3,hr,fun u x hu hx=>?_⟩
 match u,hu,hx with
 | 0,_,hx=>simp only [rb,XG,Xx,Xa] at hx;subst hx;rfl
 | u+2,_,hx =>
  have hx':Y[u]?=some x:=hx
  exact X1.1 hY x (List.mem_of_getElem? hx')
end
section
section
variable {M:List Sh} {R:List Mb} (hi:Inv M R) (hl:R.length<=1000000) (n:Tx)
include hi hl
theorem Ztb (D:List AVal) (s:Tx) (hs:s.length*16<=140737488355328 - 64):ZQ E BY [.var [.map 1],.rmap (GR M),.var [.str n],.free,.free,.free,.free] 3 31 4 false [.str s,.ref 2 0]=some (.bool (Zbg (if ZaD s then fil s else []) n),[.var [.map 1],.rmap (GR M),.var [.str n],.free,.free,.free,.free],{ any:=true,upd:=[(2,[.str n])] }):=by
 have h1:=ZrR s n hs
 generalize Zbg (if ZaD s then fil s else []) n=q at *
 exact ZfK (O:=E) (bf:=BY) (σ:=[.var [.map 1],.rmap (GR M),.var [.str n],.free,.free,.free,.free]) (sq:=3) (own:=4) (f:=31) (view:=false) (args:=[.str s,.ref 2 0]) (vs:=[.str s,.ref 2 0]) (vs':=[.str s,.ref 0 0]) (ids:=[2]) (h0:=[.var [.str n]]) (h:=[.var [.str n]]) (r:=.bool q) (by kernel_rfl) rfl (by simp -implicitDefEqProofs only [EQA,Zd,ZP,ZT,Zo,Xw,Xv,XG,Xo,Xm,Xn,Xp,Xs,X8,okB,ZR,ZN,Zc,Zh,Ze,Zb,Zg,Zf,Za4,Zbk,ZbV,ZaM,ZaH,Za1,ZaR,ZaN,Za7,Zal,Zak,Zay,Zaz,Zax,Zbb,Zbc,XT,XU,Xr,Xt,Xx,XC,Wf,X2,X4,Zn,Zi,Zm,Zk,Zj,Zl,Zz,ZG,ZC,Zy,ZE,ZF,ZA,ZB,ZD,implies_true,forall_const,Xh,Xi,Xl,Xe,Xf,Xj,Xk,Zv,Zx,unA,Zt,Zu,unG,reduceCtorEq,Zr,decide_eq_true_eq,Xd,Xb,ite_self,↓reduceIte,Zs,Zw,gcT,gcA,Zq,Zd,Zc,Ze,Zh,Zb,Zg,Zf,Zo,Xc,or_false]) rfl rfl rfl (by simp -implicitDefEqProofs only [EQA,Zd,ZP,ZT,Zo,Xw,Xv,XG,Xo,Xm,Xn,Xp,Xs,X8,okB,ZR,ZN,Zc,Zh,Ze,Zb,Zg,Zf,Za4,Zbk,ZbV,ZaM,ZaH,Za1,ZaR,ZaN,Za7,Zal,Zak,Zay,Zaz,Zax,Zbb,Zbc,XT,XU,Xr,Xt,Xx,XC,Wf,X2,X4,Zn,Zi,Zm,Zk,Zj,Zl,Zz,ZG,ZC,Zy,ZE,ZF,ZA,ZB,ZD,implies_true,forall_const,Xh,Xi,Xl,Xe,Xf,Xj,Xk,Zv,Zx,unA,Zt,Zu,unG,reduceCtorEq,Zr,decide_eq_true_eq,Xd,Xb,ite_self,↓reduceIte,Zs,Zw,gcT,gcA,Zq,Zd,Zc,Ze,Zh,Zb,Zg,Zf,Zo,Xc,or_false]) (by rw [h1];rfl) (Wn rfl) (Wn rfl) rfl rfl rfl (by simp -implicitDefEqProofs only [EQA,Zd,ZP,ZT,Zo,Xw,Xv,XG,Xo,Xm,Xn,Xp,Xs,X8,okB,ZR,ZN,Zc,Zh,Ze,Zb,Zg,Zf,Za4,Zbk,ZbV,ZaM,ZaH,Za1,ZaR,ZaN,Za7,Zal,Zak,Zay,Zaz,Zax,Zbb,Zbc,XT,XU,Xr,Xt,Xx,XC,Wf,X2,X4,Zn,Zi,Zm,Zk,Zj,Zl,Zz,ZG,ZC,Zy,ZE,ZF,ZA,ZB,ZD,implies_true,forall_const,Xh,Xi,Xl,Xe,Xf,Xj,Xk,Zv,Zx,unA,Zt,Zu,unG,reduceCtorEq,Zr,decide_eq_true_eq,Xd,Xb,ite_self,↓reduceIte,Zs,Zw,gcT,gcA,Zq,Zd,Zc,Ze,Zh,Zb,Zg,Zf,Zo,Xc,or_false]) rfl
theorem ZtE (D:List AVal) (s:Tx) (hs:s.length*16<=140737488355328 - 64):ZQ E BY [.var [.map 1],.rmap (GR M),.var [.str n],.row 0 1 D,.free,.free,.free,.free] 4 31 4 false [.str s,.ref 2 0]=some (.bool (Zbg (if ZaD s then fil s else []) n),[.var [.map 1],.rmap (GR M),.var [.str n],.row 0 1 D,.free,.free,.free,.free],{ any:=true,upd:=[(2,[.str n])] }):=by
 have h1:=ZrR s n hs
 generalize Zbg (if ZaD s then fil s else []) n=q at *
 exact ZfK (O:=E) (bf:=BY) (σ:=[.var [.map 1],.rmap (GR M),.var [.str n],.row 0 1 D,.free,.free,.free,.free]) (sq:=4) (own:=4) (f:=31) (view:=false) (args:=[.str s,.ref 2 0]) (vs:=[.str s,.ref 2 0]) (vs':=[.str s,.ref 0 0]) (ids:=[2]) (h0:=[.var [.str n]]) (h:=[.var [.str n]]) (r:=.bool q) (by kernel_rfl) rfl (by simp -implicitDefEqProofs only [EQA,Zd,ZP,ZT,Zo,Xw,Xv,XG,Xo,Xm,Xn,Xp,Xs,X8,okB,ZR,ZN,Zc,Zh,Ze,Zb,Zg,Zf,Za4,Zbk,ZbV,ZaM,ZaH,Za1,ZaR,ZaN,Za7,Zal,Zak,Zay,Zaz,Zax,Zbb,Zbc,XT,XU,Xr,Xt,Xx,XC,Wf,X2,X4,Zn,Zi,Zm,Zk,Zj,Zl,Zz,ZG,ZC,Zy,ZE,ZF,ZA,ZB,ZD,implies_true,forall_const,Xh,Xi,Xl,Xe,Xf,Xj,Xk,Zv,Zx,unA,Zt,Zu,unG,reduceCtorEq,Zr,decide_eq_true_eq,Xd,Xb,ite_self,↓reduceIte,Zs,Zw,gcT,gcA,Zq,Zd,Zc,Ze,Zh,Zb,Zg,Zf,Zo,Xc,or_false]) rfl rfl rfl (by simp -implicitDefEqProofs only [EQA,Zd,ZP,ZT,Zo,Xw,Xv,XG,Xo,Xm,Xn,Xp,Xs,X8,okB,ZR,ZN,Zc,Zh,Ze,Zb,Zg,Zf,Za4,Zbk,ZbV,ZaM,ZaH,Za1,ZaR,ZaN,Za7,Zal,Zak,Zay,Zaz,Zax,Zbb,Zbc,XT,XU,Xr,Xt,Xx,XC,Wf,X2,X4,Zn,Zi,Zm,Zk,Zj,Zl,Zz,ZG,ZC,Zy,ZE,ZF,ZA,ZB,ZD,implies_true,forall_const,Xh,Xi,Xl,Xe,Xf,Xj,Xk,Zv,Zx,unA,Zt,Zu,unG,reduceCtorEq,Zr,decide_eq_true_eq,Xd,Xb,ite_self,↓reduceIte,Zs,Zw,gcT,gcA,Zq,Zd,Zc,Ze,Zh,Zb,Zg,Zf,Zo,Xc,or_false]) (by rw [h1];rfl) (Wn rfl) (Wn rfl) rfl rfl rfl (by simp -implicitDefEqProofs only [EQA,Zd,ZP,ZT,Zo,Xw,Xv,XG,Xo,Xm,Xn,Xp,Xs,X8,okB,ZR,ZN,Zc,Zh,Ze,Zb,Zg,Zf,Za4,Zbk,ZbV,ZaM,ZaH,Za1,ZaR,ZaN,Za7,Zal,Zak,Zay,Zaz,Zax,Zbb,Zbc,XT,XU,Xr,Xt,Xx,XC,Wf,X2,X4,Zn,Zi,Zm,Zk,Zj,Zl,Zz,ZG,ZC,Zy,ZE,ZF,ZA,ZB,ZD,implies_true,forall_const,Xh,Xi,Xl,Xe,Xf,Xj,Xk,Zv,Zx,unA,Zt,Zu,unG,reduceCtorEq,Zr,decide_eq_true_eq,Xd,Xb,ite_self,↓reduceIte,Zs,Zw,gcT,gcA,Zq,Zd,Zc,Ze,Zh,Zb,Zg,Zf,Zo,Xc,or_false]) rfl
theorem ZAE (D:List AVal) (s:Tx) (ms:List Tx) (hs:s.length*16<=140737488355328 - 64) (hP:(Zbg (if ZaD s then fil s else []) n)=true) (tm:Tms) (σ:Za) (h:gcT 3 (keepL [10,5,1] tm) σ=([(10,.map 1),(5,.lst true []),(1,(.fn 31 [.ref 2 0]))],[.var [.map 1],.map (GR M),.var [.str n]])) :
  ∃ tm' σ',ZbU FC PR BY 3 [10,5,1] 10 14 1 Zbx c2S (GR M) (.str s,.lst false (ms.map AVal.str)) tm σ=some (tm',σ')/\gcT 3 (keepL [10,5,1] tm') σ'=([(10,.map 1),(5,.sl 3 0 0 1),(1,(.fn 31 [.ref 2 0]))],[.var [.map 1],.map (GR M),.var [.str n],.row 0 1 [.str s]]):=by
 have hC:=Ztb hi hl n D s hs
 rw [hP] at hC
 have hk:=eq_true (ZfS M 3)
 have hv:∀ (σ:Za),viewAs σ [.str s]=some ([.str s],[]):=fun _=>rfl
 have b1:1*16<=140737488355328:=by decide
 have hr:=Zbb M
 have hm:=fun ρ=>Zbc M ρ
 generalize GR M=G at *
 generalize ms.map AVal.str=T at *
 refine ⟨?_,?_,?_,?_⟩
 rotate_left 2
 ·unfold ZbU
  rw [h]
  simp -implicitDefEqProofs only [EQA,Zn,Zi,Zm,Zk,Zj,Zl,Zz,ZG,ZC,Zy,ZE,ZF,ZA,ZB,ZD,implies_true,forall_const,Xh,Xi,Xl,Xe,Xf,Xj,Xk,Zv,Zx,unA,Zt,Zu,unG,reduceCtorEq,Zr,decide_eq_true_eq,Xd,Xb,ite_self,↓reduceIte,Zs,Zw,gcT,gcA,Zq,Zd,Zc,Ze,Zh,Zb,Zg,Zf,Zo,Xc,ZbM,ZbB,ZbK,Zp,ZI,ZK,ZJ,ZH,ZL,hC,hk,hv,b1,Zdr,Zbx,c2S,kOk,ZS,ZaI,AVal.cells,Zar,XQ,Xr,Xt,Wy,XR,X9,Zc4,Zf0,Zgc,Zf1,Zfw,Zag,Z0,Zah,Z3,XF,XH,Xp,Xs,Xr,Xt,Zaa,Zae,Zab,Zaf,Zac,Xm,Xn,ZU,ZX,ZV,Z1,Z6,Z4,Z9,Z7,ZZ,Z8,Xy,XA,Xp,Xs,Xo]
  rfl
 ·simp -implicitDefEqProofs only [EQA,Zn,Zi,Zm,Zk,Zj,Zl,Zz,ZG,ZC,Zy,ZE,ZF,ZA,ZB,ZD,implies_true,forall_const,Xh,Xi,Xl,Xe,Xf,Xj,Xk,Zv,Zx,unA,Zt,Zu,unG,reduceCtorEq,Zr,decide_eq_true_eq,Xd,Xb,ite_self,↓reduceIte,Zs,Zw,gcT,gcA,Zq,Zd,Zc,Ze,Zh,Zb,Zg,Zf,Zo,Xc,ZbM,ZbB,ZbK,Zp,ZI,ZK,ZJ,ZH,ZL,hr,hm]
theorem ZJ1 (D:List AVal) (s:Tx) (ms:List Tx) (hs:s.length*16<=140737488355328 - 64) (hP:(Zbg (if ZaD s then fil s else []) n)=false) (tm:Tms) (σ:Za) (h:gcT 3 (keepL [10,5,1] tm) σ=([(10,.map 1),(5,.lst true []),(1,(.fn 31 [.ref 2 0]))],[.var [.map 1],.map (GR M),.var [.str n]])) :
  ∃ tm' σ',ZbU FC PR BY 3 [10,5,1] 10 14 1 Zbx c2S (GR M) (.str s,.lst false (ms.map AVal.str)) tm σ=some (tm',σ')/\gcT 3 (keepL [10,5,1] tm') σ'=([(10,.map 1),(5,.lst true []),(1,(.fn 31 [.ref 2 0]))],[.var [.map 1],.map (GR M),.var [.str n]]):=by
 have hC:=Ztb hi hl n D s hs
 rw [hP] at hC
 have hk:=eq_true (ZfS M 3)
 have hv:∀ (σ:Za),viewAs σ [.str s]=some ([.str s],[]):=fun _=>rfl
 have b1:1*16<=140737488355328:=by decide
 have hr:=Zbb M
 have hm:=fun ρ=>Zbc M ρ
 generalize GR M=G at *
 generalize ms.map AVal.str=T at *
 refine ⟨?_,?_,?_,?_⟩
 rotate_left 2
 ·unfold ZbU
  rw [h]
  simp -implicitDefEqProofs only [EQA,Zn,Zi,Zm,Zk,Zj,Zl,Zz,ZG,ZC,Zy,ZE,ZF,ZA,ZB,ZD,implies_true,forall_const,Xh,Xi,Xl,Xe,Xf,Xj,Xk,Zv,Zx,unA,Zt,Zu,unG,reduceCtorEq,Zr,decide_eq_true_eq,Xd,Xb,ite_self,↓reduceIte,Zs,Zw,gcT,gcA,Zq,Zd,Zc,Ze,Zh,Zb,Zg,Zf,Zo,Xc,ZbM,ZbB,ZbK,Zp,ZI,ZK,ZJ,ZH,ZL,hC,hk,hv,b1,Zdr,Zbx,c2S,kOk,ZS,ZaI,AVal.cells,Zar,XQ,Xr,Xt,Wy,XR,X9,Zc4,Zf0,Zgc,Zf1,Zfw,Zag,Z0,Zah,Z3,XF,XH,Xp,Xs,Xr,Xt,Zaa,Zae,Zab,Zaf,Zac,Xm,Xn,ZU,ZX,ZV,Z1,Z6,Z4,Z9,Z7,ZZ,Z8,Xy,XA,Xp,Xs,Xo]
  rfl
 ·simp -implicitDefEqProofs only [EQA,Zn,Zi,Zm,Zk,Zj,Zl,Zz,ZG,ZC,Zy,ZE,ZF,ZA,ZB,ZD,implies_true,forall_const,Xh,Xi,Xl,Xe,Xf,Xj,Xk,Zv,Zx,unA,Zt,Zu,unG,reduceCtorEq,Zr,decide_eq_true_eq,Xd,Xb,ite_self,↓reduceIte,Zs,Zw,gcT,gcA,Zq,Zd,Zc,Ze,Zh,Zb,Zg,Zf,Zo,Xc,ZbM,ZbB,ZbK,Zp,ZI,ZK,ZJ,ZH,ZL,hr,hm]
theorem ZKn (D:List AVal) (s:Tx) (ms:List Tx) (hs:s.length*16<=140737488355328 - 64) (hd:(D.length+1)*16<=140737488355328) (hP:(Zbg (if ZaD s then fil s else []) n)=true) (tm:Tms) (σ:Za) (h:gcT 3 (keepL [10,5,1] tm) σ=([(10,.map 1),(5,.sl 3 0 0 D.length),(1,(.fn 31 [.ref 2 0]))],[.var [.map 1],.map (GR M),.var [.str n],.row 0 1 D])) :
  ∃ tm' σ',ZbU FC PR BY 3 [10,5,1] 10 14 1 Zbx c2S (GR M) (.str s,.lst false (ms.map AVal.str)) tm σ=some (tm',σ')/\gcT 3 (keepL [10,5,1] tm') σ'=([(10,.map 1),(5,.sl 3 0 0 (D.length+1)),(1,(.fn 31 [.ref 2 0]))],[.var [.map 1],.map (GR M),.var [.str n],.row 0 1 (D++[.str s])]):=by
 have hC:=ZtE hi hl n D s hs
 rw [hP] at hC
 have hk:=eq_true (ZfS M 4)
 have hv:∀ (σ:Za),viewAs σ [.str s]=some ([.str s],[]):=fun _=>rfl
 have b1:1*16<=140737488355328:=by decide
 have hr:=Zbb M
 have hm:=fun ρ=>Zbc M ρ
 generalize GR M=G at *
 generalize ms.map AVal.str=T at *
 refine ⟨?_,?_,?_,?_⟩
 rotate_left 2
 ·unfold ZbU
  rw [h]
  simp -implicitDefEqProofs only [EQA,Zn,Zi,Zm,Zk,Zj,Zl,Zz,ZG,ZC,Zy,ZE,ZF,ZA,ZB,ZD,implies_true,forall_const,Xh,Xi,Xl,Xe,Xf,Xj,Xk,Zv,Zx,unA,Zt,Zu,unG,reduceCtorEq,Zr,decide_eq_true_eq,Xd,Xb,ite_self,↓reduceIte,Zs,Zw,gcT,gcA,Zq,Zd,Zc,Ze,Zh,Zb,Zg,Zf,Zo,Xc,ZbM,ZbB,ZbK,Zp,ZI,ZK,ZJ,ZH,ZL,hC,hk,hv,b1,hd,Zdr,Zbx,c2S,kOk,ZS,ZaI,AVal.cells,Zar,XQ,Xr,Xt,Wy,XR,X9,Zc4,Zf0,Zgc,Zf1,Zfw,Zag,Z0,Zah,Z3,XF,XH,Xp,Xs,Xr,Xt,Zaa,Zae,Zab,Zaf,Zac,Xm,Xn,ZU,ZX,ZV,Z1,Z6,Z4,Z9,Z7,ZZ,Z8,Xy,XA,Xp,Xs,Xo]
  rfl
 ·simp -implicitDefEqProofs only [EQA,Zn,Zi,Zm,Zk,Zj,Zl,Zz,ZG,ZC,Zy,ZE,ZF,ZA,ZB,ZD,implies_true,forall_const,Xh,Xi,Xl,Xe,Xf,Xj,Xk,Zv,Zx,unA,Zt,Zu,unG,reduceCtorEq,Zr,decide_eq_true_eq,Xd,Xb,ite_self,↓reduceIte,Zs,Zw,gcT,gcA,Zq,Zd,Zc,Ze,Zh,Zb,Zg,Zf,Zo,Xc,ZbM,ZbB,ZbK,Zp,ZI,ZK,ZJ,ZH,ZL,hr,hm]
theorem ZyC (D:List AVal) (s:Tx) (ms:List Tx) (hs:s.length*16<=140737488355328 - 64) (hP:(Zbg (if ZaD s then fil s else []) n)=false) (tm:Tms) (σ:Za) (h:gcT 3 (keepL [10,5,1] tm) σ=([(10,.map 1),(5,.sl 3 0 0 D.length),(1,(.fn 31 [.ref 2 0]))],[.var [.map 1],.map (GR M),.var [.str n],.row 0 1 D])) :
  ∃ tm' σ',ZbU FC PR BY 3 [10,5,1] 10 14 1 Zbx c2S (GR M) (.str s,.lst false (ms.map AVal.str)) tm σ=some (tm',σ')/\gcT 3 (keepL [10,5,1] tm') σ'=([(10,.map 1),(5,.sl 3 0 0 D.length),(1,(.fn 31 [.ref 2 0]))],[.var [.map 1],.map (GR M),.var [.str n],.row 0 1 D]):=by
 have hC:=ZtE hi hl n D s hs
 rw [hP] at hC
 have hk:=eq_true (ZfS M 4)
 have hv:∀ (σ:Za),viewAs σ [.str s]=some ([.str s],[]):=fun _=>rfl
 have b1:1*16<=140737488355328:=by decide
 have hr:=Zbb M
 have hm:=fun ρ=>Zbc M ρ
 generalize GR M=G at *
 generalize ms.map AVal.str=T at *
 refine ⟨?_,?_,?_,?_⟩
 rotate_left 2
 ·unfold ZbU
  rw [h]
  simp -implicitDefEqProofs only [EQA,Zn,Zi,Zm,Zk,Zj,Zl,Zz,ZG,ZC,Zy,ZE,ZF,ZA,ZB,ZD,implies_true,forall_const,Xh,Xi,Xl,Xe,Xf,Xj,Xk,Zv,Zx,unA,Zt,Zu,unG,reduceCtorEq,Zr,decide_eq_true_eq,Xd,Xb,ite_self,↓reduceIte,Zs,Zw,gcT,gcA,Zq,Zd,Zc,Ze,Zh,Zb,Zg,Zf,Zo,Xc,ZbM,ZbB,ZbK,Zp,ZI,ZK,ZJ,ZH,ZL,hC,hk,hv,b1,Zdr,Zbx,c2S,kOk,ZS,ZaI,AVal.cells,Zar,XQ,Xr,Xt,Wy,XR,X9,Zc4,Zf0,Zgc,Zf1,Zfw,Zag,Z0,Zah,Z3,XF,XH,Xp,Xs,Xr,Xt,Zaa,Zae,Zab,Zaf,Zac,Xm,Xn,ZU,ZX,ZV,Z1,Z6,Z4,Z9,Z7,ZZ,Z8,Xy,XA,Xp,Xs,Xo]
  rfl
 ·simp -implicitDefEqProofs only [EQA,Zn,Zi,Zm,Zk,Zj,Zl,Zz,ZG,ZC,Zy,ZE,ZF,ZA,ZB,ZD,implies_true,forall_const,Xh,Xi,Xl,Xe,Xf,Xj,Xk,Zv,Zx,unA,Zt,Zu,unG,reduceCtorEq,Zr,decide_eq_true_eq,Xd,Xb,ite_self,↓reduceIte,Zs,Zw,gcT,gcA,Zq,Zd,Zc,Ze,Zh,Zb,Zg,Zf,Zo,Xc,ZbM,ZbB,ZbK,Zp,ZI,ZK,ZJ,ZH,ZL,hr,hm]
def stM (M:List Sh) (n:Tx):List Tx->Tms×Za
 | []=>([(10,.map 1),(5,.lst true []),(1,(.fn 31 [.ref 2 0]))],[.var [.map 1],.map (GR M),.var [.str n]])
 | x::D=>([(10,.map 1),(5,.sl 3 0 0 (x::D).length),(1,(.fn 31 [.ref 2 0]))],[.var [.map 1],.map (GR M),.var [.str n],.row 0 1 ((x::D).map AVal.str)])
omit hi hl in
theorem Zjy (M:List Sh) (n:Tx) {D:List Tx} (h:D≠[]):stM M n D=([(10,.map 1),(5,.sl 3 0 0 (D.map AVal.str).length),(1,(.fn 31 [.ref 2 0]))],[.var [.map 1],.map (GR M),.var [.str n],.row 0 1 (D.map AVal.str)]):=by
 cases D with
 | nil=>exact absurd rfl h
 | cons x D=>unfold stM;rw [X7]
theorem fdM:∀ (d:List Sh) (hM:∀ p ∈ d,p.1.length*16<=140737488355328 - 64) (D:List Tx) (tm:Tms) (σ:Za),D.length+d.length<=1000000->gcT 3 (keepL [10,5,1] tm) σ=stM M n D ->
  ∃ tm' σ',ZcE FC PR BY 3 [10,5,1] 10 14 1 Zbx c2S (GR M) (GR d) tm σ=some (tm',σ')/\gcT 3 (keepL [10,5,1] tm') σ'=stM M n (D++(Zai d).filter (fun s=>Zbg (if ZaD s then fil s else []) n))
 | [],_,D,tm,σ,_,h=>⟨tm,σ,rfl,by rw [h];simp [Zai]⟩
 | (s,ms)::d,hM,D,tm,σ,hl2,h=>by
  have hlen:D.length+1+d.length<=1000000:=by rw [Xr] at hl2;omega
  have step:∃ tm' σ',ZbU FC PR BY 3 [10,5,1] 10 14 1 Zbx c2S (GR M) (.str s,.lst false (ms.map AVal.str)) tm σ=some (tm',σ')/\gcT 3 (keepL [10,5,1] tm') σ'=stM M n (D++if (Zbg (if ZaD s then fil s else []) n)=true then [s] else []):=by
   cases D with
   | nil =>
    cases hP:(Zbg (if ZaD s then fil s else []) n) with
    | true=>exact ZAE hi hl n [] s ms (hM (s,ms) (by simp)) hP tm σ h
    | false=>exact ZJ1 hi hl n [] s ms (hM (s,ms) (by simp)) hP tm σ h
   | cons x D =>
    have hne:x::D≠[]:=by simp
    rw [Zjy M n hne] at h
    cases hP:(Zbg (if ZaD s then fil s else []) n) with
    | true =>
     obtain ⟨tm',σ',e1,e2⟩:=ZKn hi hl n ((x::D).map AVal.str) s ms (hM (s,ms) (by simp)) (by rw [X7];simp only [Xr] at hlen ⊢;omega) hP tm σ h
     refine ⟨tm',σ',e1,?_⟩
     rw [e2,if_pos rfl,Zjy M n (by simp)]
     simp
    | false =>
     obtain ⟨tm',σ',e1,e2⟩:=ZyC hi hl n ((x::D).map AVal.str) s ms (hM (s,ms) (by simp)) hP tm σ h
     refine ⟨tm',σ',e1,?_⟩
     rw [e2,if_neg (by simp),Xw,Zjy M n hne]
  obtain ⟨tm1,σ1,e1,e2⟩:=step
  obtain ⟨tm2,σ2,f1,f2⟩:=fdM d (fun p hp=>hM p (by simp [hp])) (D++if (Zbg (if ZaD s then fil s else []) n)=true then [s] else []) tm1 σ1 (by
   have h9:(if (Zbg (if ZaD s then fil s else []) n)=true then [s] else ([]:List Tx)).length<=1:=by
    by_cases hP:(Zbg (if ZaD s then fil s else []) n)=true
    ·rw [if_pos hP];exact X5 _
    ·rw [if_neg hP];exact W7 _
   rw [X3];omega) e2
  refine ⟨tm2,σ2,?_,?_⟩
  ·show (match ZbU FC PR BY 3 [10,5,1] 10 14 1 Zbx c2S (GR M) (.str s,.lst false (ms.map AVal.str)) tm σ with
    | some (tm',σ')=>ZcE FC PR BY 3 [10,5,1] 10 14 1 Zbx c2S (GR M) (GR d) tm' σ'
    | none=>none)=_
   rw [e1]
   exact f1
  ·rw [f2,W4]
   congr 2
   show _=List.filter (fun s=>Zbg (if ZaD s then fil s else []) n) (s::Zai d)
   rw [Xa0]
   by_cases hP:(Zbg (if ZaD s then fil s else []) n)=true
   ·rw [if_pos hP,if_pos hP];rfl
   ·rw [if_neg hP,if_neg hP];rfl
omit hi hl in
theorem ZIO:ZaL 3 ⟨[.tmp 4],c3S⟩ (evC FC PR BY 3 c3S (stM M n []).1 ((stM M n []).2.set 1 (.rmap (GR M))))=some (.lst true [],[.var [.map 1],.rmap (GR M),.var [.str n]]):=by
 have hS:=ZvR
 unfold stM c3S
 simp only [X4,X2]
 simp -implicitDefEqProofs only [EQA,Zn,Zi,Zm,Zk,Zj,Zl,Zz,ZG,ZC,Zy,ZE,ZF,ZA,ZB,ZD,implies_true,forall_const,Xh,Xi,Xl,Xe,Xf,Xj,Xk,Zv,Zx,unA,Zt,Zu,unG,reduceCtorEq,Zr,decide_eq_true_eq,Xd,Xb,ite_self,↓reduceIte,Zs,Zw,gcT,gcA,Zq,Zd,Zc,Ze,Zh,Zb,Zg,Zf,Zo,Xc,ZbM,ZbB,ZbK,Zp,ZI,ZK,ZJ,ZH,ZL,hS]
 simp -implicitDefEqProofs only [EQA,Zan,gcA,Zq,ZP,Xw,Xv,Xc,XP,XJ,XD,XM,Xm,Xn,Zal,Zak,Zay,Zaz,Zax,XT,XU,id_eq,ZR,Zd,Zo,ZT,Ze,Zf,ZN,Xo,Zc,Zh,Zb,Zg,Zn,Zi,Zm,Zk,Zj,Zl,Zz,ZG,ZC,Zy,ZE,ZF,ZA,ZB,ZD,implies_true,forall_const,Xh,Xi,Xl,Xe,Xf,Xj,Xk,Zv,Zx,unA,Zt,Zu,unG,reduceCtorEq,Zr,decide_eq_true_eq,Xd,Xb,ite_self,↓reduceIte,Zs,Zw,gcT,gcA,Zq,Zd,Zc,Ze,Zh,Zb,Zg,Zf,Zo,Xc,or_false,Zbb,Zbc]
omit hi hl in
theorem ZIG {D:List Tx} (hD:D≠[]) (hDl:D.length < 4611686018427387904):ZaL 3 ⟨[.tmp 4],c3S⟩ (evC FC PR BY 3 c3S (stM M n D).1 ((stM M n D).2.set 1 (.rmap (GR M))))=some (.sl 3 0 0 D.length,[.var [.map 1],.rmap (GR M),.var [.str n],.row 0 1 ((Zbm D).map AVal.str)]):=by
 have hS:=fun {σ:Za} {sq:Nat} hs=>ZsI D hDl (σ:=σ) (t:=3) (sq:=sq) hs
 rw [Zjy M n hD,X7]
 generalize (Zbm D).map AVal.str=S2 at *
 generalize D.map AVal.str=S1 at *
 unfold c3S
 simp only [X4,X2]
 simp -implicitDefEqProofs only [EQA,Zn,Zi,Zm,Zk,Zj,Zl,Zz,ZG,ZC,Zy,ZE,ZF,ZA,ZB,ZD,implies_true,forall_const,Xh,Xi,Xl,Xe,Xf,Xj,Xk,Zv,Zx,unA,Zt,Zu,unG,reduceCtorEq,Zr,decide_eq_true_eq,Xd,Xb,ite_self,↓reduceIte,Zs,Zw,gcT,gcA,Zq,Zd,Zc,Ze,Zh,Zb,Zg,Zf,Zo,Xc,ZbM,ZbB,ZbK,Zp,ZI,ZK,ZJ,ZH,ZL,hS]
 simp -implicitDefEqProofs only [EQA,Zan,gcA,Zq,ZP,Xw,Xv,Xc,XP,XJ,XD,XM,Xm,Xn,Zal,Zak,Zay,Zaz,Zax,XT,XU,id_eq,ZR,Zd,Zo,ZT,Ze,Zf,ZN,Xo,Zc,Zh,Zb,Zg,Zn,Zi,Zm,Zk,Zj,Zl,Zz,ZG,ZC,Zy,ZE,ZF,ZA,ZB,ZD,implies_true,forall_const,Xh,Xi,Xl,Xe,Xf,Xj,Xk,Zv,Zx,unA,Zt,Zu,unG,reduceCtorEq,Zr,decide_eq_true_eq,Xd,Xb,ite_self,↓reduceIte,Zs,Zw,gcT,gcA,Zq,Zd,Zc,Ze,Zh,Zb,Zg,Zf,Zo,Xc,or_false,Zbb,Zbc]
theorem ZHE (hM:∀ s ∈ Zai M,s.length*16<=140737488355328 - 64) (hMl:M.length<=1000000):ZeK [.ref 0 0,(.fn 31 [.ref 2 0])] (rb M++[.var [.str n]])=some (gvT 3 (Zbm ((Zai M).filter (fun s=>Zbg (if ZaD s then fil s else []) n))),rb M++([.var [.str n]]++ghT (Zbm ((Zai M).filter (fun s=>Zbg (if ZaD s then fil s else []) n))))):=by
 have s1:evC FC PR BY 3 c1S (enterA 0 [.ref 0 0,(.fn 31 [.ref 2 0])] []) [.var [.map 1],.rmap (GR M),.var [.str n]]=some (.normal,[(5,.lst true []),(1,(.fn 31 [.ref 2 0])),(0,.ref 0 0)],[.var [.map 1],.rmap (GR M),.var [.str n]]):=by
  generalize GR M=G
  simp -implicitDefEqProofs only [EQA,Zn,Zi,Zm,Zk,Zj,Zl,Zz,ZG,ZC,Zy,ZE,ZF,ZA,ZB,ZD,implies_true,forall_const,Xh,Xi,Xl,Xe,Xf,Xj,Xk,Zv,Zx,unA,Zt,Zu,unG,reduceCtorEq,Zr,decide_eq_true_eq,Xd,Xb,ite_self,↓reduceIte,Zs,Zw,gcT,gcA,Zq,Zd,Zc,Ze,Zh,Zb,Zg,Zf,Zo,Xc,ZbM,ZbB,ZbK,Zp,ZI,ZK,ZJ,ZH,ZL,c1S]
 have s2:Zdr BY Zmq [(5,.lst true []),(1,(.fn 31 [.ref 2 0])),(0,.ref 0 0)] [.var [.map 1],.rmap (GR M),.var [.str n]]=some ([(10,.map 1),(9,.ref 0 0),(8,.ref 0 0),(7,.ref 0 0),(5,.lst true []),(1,(.fn 31 [.ref 2 0])),(0,.ref 0 0)],[.var [.map 1],.rmap (GR M),.var [.str n]]):=by
  generalize GR M=G
  rfl
 have hro:∀ u x,u≠1->([.var [.map 1],.rmap (GR M),.var [.str n]]:Za)[u]?=some x->Zce x=false:=by
  intro u x hu hx
  match u,hu,hx with
  | 0,_,hx=>simp only [Xx,Xa] at hx;subst hx;rfl
  | 2,_,hx=>simp only [Xx,XC,Xa] at hx;subst hx;rfl
  | u+3,_,hx=>simp at hx
 have hg:gcT 3 (keepL [10,5,1] [(10,.map 1),(9,.ref 0 0),(8,.ref 0 0),(7,.ref 0 0),(5,.lst true []),(1,(.fn 31 [.ref 2 0])),(0,.ref 0 0)]) [.var [.map 1],.map (GR M),.var [.str n]]=stM M n []:=by
  have hr:=Zbb M
  have hm:=fun ρ=>Zbc M ρ
  unfold stM
  generalize GR M=G at *
  simp -implicitDefEqProofs only [EQA,Zn,Zi,Zm,Zk,Zj,Zl,Zz,ZG,ZC,Zy,ZE,ZF,ZA,ZB,ZD,implies_true,forall_const,Xh,Xi,Xl,Xe,Xf,Xj,Xk,Zv,Zx,unA,Zt,Zu,unG,reduceCtorEq,Zr,decide_eq_true_eq,Xd,Xb,ite_self,↓reduceIte,Zs,Zw,gcT,gcA,Zq,Zd,Zc,Ze,Zh,Zb,Zg,Zf,Zo,Xc,ZbM,ZbB,ZbK,Zp,ZI,ZK,ZJ,ZH,ZL,hr,hm]
 show ZeK [.ref 0 0,(.fn 31 [.ref 2 0])] [.var [.map 1],.rmap (GR M),.var [.str n]]=_
 unfold ZeK Zi0
 rw [show ([.var [.map 1],.rmap (GR M),.var [.str n]]:Za).length=3 from rfl,s1]
 simp only [s2]
 rw [show tget [(10,.map 1),(9,.ref 0 0),(8,.ref 0 0),(7,.ref 0 0),(5,.lst true []),(1,(.fn 31 [.ref 2 0])),(0,.ref 0 0)] 10=.map 1 from rfl]
 simp only
 rw [show ([.var [.map 1],.rmap (GR M),.var [.str n]]:Za)[1]?=some (.rmap (GR M)) from rfl]
 simp only
 rw [if_pos ⟨by decide,hro⟩]
 refine ZtF fun es' hp=>?_
 obtain ⟨d,hd,rfl⟩:=ZuG hp
 have hf:=fdM hi hl n d (fun p hp=>hM p.1 (X0.2 ⟨p,hd.mem_iff.1 hp,rfl⟩)) [] _ _ (by rw [hd.length_eq];simpa using hMl) hg
 obtain ⟨tm2,σ2,f1,f2⟩:=hf
 rw [Xv] at f2
 unfold ZfL
 have f1':ZcE FC PR BY 3 [10,5,1] 10 14 1 Zbx c2S (GR M) (List.map (fun p=>(AVal.str p.1,AVal.lst false (p.2.map AVal.str))) d) [(10,.map 1),(9,.ref 0 0),(8,.ref 0 0),(7,.ref 0 0),(5,.lst true []),(1,(.fn 31 [.ref 2 0])),(0,.ref 0 0)] (([.var [.map 1],.rmap (GR M),.var [.str n]]:Za).set 1 (.map (GR M)))=some (tm2,σ2):=f1
 rw [f1']
 simp only
 unfold Zja
 have hT:Zbm ((Zai d).filter (fun s=>Zbg (if ZaD s then fil s else []) n))=Zbm ((Zai M).filter (fun s=>Zbg (if ZaD s then fil s else []) n)):=ZvS (ZrQ hd _)
 have hDl:((Zai d).filter (fun s=>Zbg (if ZaD s then fil s else []) n)).length < 4611686018427387904:=by
  have h1:=Xaf (fun s=>Zbg (if ZaD s then fil s else []) n) (Zai d)
  have h2:(Zai d).length=M.length:=by unfold Zai;rw [X7,hd.length_eq]
  omega
 have hlT:(Zbm ((Zai M).filter (fun s=>Zbg (if ZaD s then fil s else []) n))).length=((Zai d).filter (fun s=>Zbg (if ZaD s then fil s else []) n)).length:=by rw [<-hT,(Zhm _).length_eq]
 rw [f2]
 generalize (Zai d).filter (fun s=>Zbg (if ZaD s then fil s else []) n)=D at *
 by_cases hD:D=[]
 ·subst hD
  rw [if_pos,ZIO]
  ·have : Zbm ((Zai M).filter (fun s=>Zbg (if ZaD s then fil s else []) n))=[]:=X6 hlT
   rw [this];rfl
  ·refine ⟨rfl,fun u x hu hx=>?_⟩
   unfold stM at hx
   match u,hu,hx with
   | 0,_,hx=>simp only [Xx,Xa] at hx;subst hx;rfl
   | 2,_,hx=>simp only [Xx,XC,Xa] at hx;subst hx;rfl
   | u+3,_,hx=>simp at hx
 ·rw [if_pos,ZIG n hD hDl,hT]
  ·have hne:Zbm ((Zai M).filter (fun s=>Zbg (if ZaD s then fil s else []) n))≠[]:=fun e=>hD (X6 (by rw [<-hlT,e];rfl))
   unfold gvT ghT
   rw [if_neg hne,if_neg hne,hlT];rfl
  ·rw [Zjy M n hD]
   refine ⟨rfl,fun u x hu hx=>?_⟩
   match u,hu,hx with
   | 0,_,hx=>simp only [Xx,Xa] at hx;subst hx;rfl
   | 2,_,hx=>simp only [Xx,XC,Xa] at hx;subst hx;rfl
   | 3,_,hx=>simp only [Xx,XC,Xa] at hx;subst hx;rfl
   | u+4,_,hx=>simp at hx
theorem Zzk (hM:∀ s ∈ Zai M,s.length*16<=140737488355328 - 64) (hMl:M.length<=1000000):EP 28 [.ref 0 0,(.fn 31 [.ref 2 0])] (bk M++[.var [.str n]])=some (gvT 3 (Zbm ((Zai M).filter (fun s=>Zbg (if ZaD s then fil s else []) n))),bk M++([.var [.str n]]++ghT (Zbm ((Zai M).filter (fun s=>Zbg (if ZaD s then fil s else []) n))))):=by
 rw [ZuQ]
 refine Zlg (ZHE hi hl n hM hMl) ?_ ?_
 ·unfold gvT;split <;> rfl
 ·unfold ghT
  split
  ·rfl
  ·rename_i hne
   rw [List.all_append]
   simp only [Xp,Xs,ZpX,XaV];rfl
end
end
section
section
variable {M:List Sh} {R:List Mb} (hi:Inv M R) (hl:R.length<=1000000) (c:Tx)
include hi hl
theorem Zul (D:List AVal) (s:Tx):ZQ E BY [.var [.map 1],.rmap (GR M),.var [.ref 0 0],.var [.str c],.free,.free,.free,.free] 4 29 4 false [.str s,.ref 2 0,.ref 3 0]=some (.bool (R.contains (s,c)),[.var [.map 1],.rmap (GR M),.var [.ref 0 0],.var [.str c],.free,.free,.free,.free],{ any:=true,upd:=[(2,[.ref 0 0]),(0,[.map 1]),(3,[.str c])] }):=by
 have h1:=Zus hi hl s c
 generalize R.contains (s,c)=q at *
 exact ZfK (O:=E) (bf:=BY) (σ:=[.var [.map 1],.rmap (GR M),.var [.ref 0 0],.var [.str c],.free,.free,.free,.free]) (sq:=4) (own:=4) (f:=29) (view:=false) (args:=[.str s,.ref 2 0,.ref 3 0]) (vs:=[.str s,.ref 2 0,.ref 3 0]) (vs':=[.str s,.ref 0 0,.ref 3 0]) (ids:=[2,0,1,3]) (h0:=[.var [.ref 1 0],.var [.map 2],.rmap (GR M),.var [.str c]]) (h:=[.var [.ref 1 0],.var [.map 2],.rmap (GR M),.var [.str c]]) (r:=.bool q) (by kernel_rfl) rfl (by simp -implicitDefEqProofs only [EQA,Zd,ZP,ZT,Zo,Xw,Xv,XG,Xo,Xm,Xn,Xp,Xs,X8,okB,ZR,ZN,Zc,Zh,Ze,Zb,Zg,Zf,Za4,Zbk,ZbV,ZaM,ZaH,Za1,ZaR,ZaN,Za7,Zal,Zak,Zay,Zaz,Zax,Zbb,Zbc,XT,XU,Xr,Xt,Xx,XC,Wf,X2,X4,Zn,Zi,Zm,Zk,Zj,Zl,Zz,ZG,ZC,Zy,ZE,ZF,ZA,ZB,ZD,implies_true,forall_const,Xh,Xi,Xl,Xe,Xf,Xj,Xk,Zv,Zx,unA,Zt,Zu,unG,reduceCtorEq,Zr,decide_eq_true_eq,Xd,Xb,ite_self,↓reduceIte,Zs,Zw,gcT,gcA,Zq,Zd,Zc,Ze,Zh,Zb,Zg,Zf,Zo,Xc,or_false]) rfl rfl rfl (by simp -implicitDefEqProofs only [EQA,Zd,ZP,ZT,Zo,Xw,Xv,XG,Xo,Xm,Xn,Xp,Xs,X8,okB,ZR,ZN,Zc,Zh,Ze,Zb,Zg,Zf,Za4,Zbk,ZbV,ZaM,ZaH,Za1,ZaR,ZaN,Za7,Zal,Zak,Zay,Zaz,Zax,Zbb,Zbc,XT,XU,Xr,Xt,Xx,XC,Wf,X2,X4,Zn,Zi,Zm,Zk,Zj,Zl,Zz,ZG,ZC,Zy,ZE,ZF,ZA,ZB,ZD,implies_true,forall_const,Xh,Xi,Xl,Xe,Xf,Xj,Xk,Zv,Zx,unA,Zt,Zu,unG,reduceCtorEq,Zr,decide_eq_true_eq,Xd,Xb,ite_self,↓reduceIte,Zs,Zw,gcT,gcA,Zq,Zd,Zc,Ze,Zh,Zb,Zg,Zf,Zo,Xc,or_false]) (by rw [h1];rfl) (Wn rfl) (Wn rfl) rfl rfl rfl (by simp -implicitDefEqProofs only [EQA,Zd,ZP,ZT,Zo,Xw,Xv,XG,Xo,Xm,Xn,Xp,Xs,X8,okB,ZR,ZN,Zc,Zh,Ze,Zb,Zg,Zf,Za4,Zbk,ZbV,ZaM,ZaH,Za1,ZaR,ZaN,Za7,Zal,Zak,Zay,Zaz,Zax,Zbb,Zbc,XT,XU,Xr,Xt,Xx,XC,Wf,X2,X4,Zn,Zi,Zm,Zk,Zj,Zl,Zz,ZG,ZC,Zy,ZE,ZF,ZA,ZB,ZD,implies_true,forall_const,Xh,Xi,Xl,Xe,Xf,Xj,Xk,Zv,Zx,unA,Zt,Zu,unG,reduceCtorEq,Zr,decide_eq_true_eq,Xd,Xb,ite_self,↓reduceIte,Zs,Zw,gcT,gcA,Zq,Zd,Zc,Ze,Zh,Zb,Zg,Zf,Zo,Xc,or_false]) rfl
theorem ZrN (D:List AVal) (s:Tx):ZQ E BY [.var [.map 1],.rmap (GR M),.var [.ref 0 0],.var [.str c],.row 0 1 D,.free,.free,.free,.free] 5 29 4 false [.str s,.ref 2 0,.ref 3 0]=some (.bool (R.contains (s,c)),[.var [.map 1],.rmap (GR M),.var [.ref 0 0],.var [.str c],.row 0 1 D,.free,.free,.free,.free],{ any:=true,upd:=[(2,[.ref 0 0]),(0,[.map 1]),(3,[.str c])] }):=by
 have h1:=Zus hi hl s c
 generalize R.contains (s,c)=q at *
 exact ZfK (O:=E) (bf:=BY) (σ:=[.var [.map 1],.rmap (GR M),.var [.ref 0 0],.var [.str c],.row 0 1 D,.free,.free,.free,.free]) (sq:=5) (own:=4) (f:=29) (view:=false) (args:=[.str s,.ref 2 0,.ref 3 0]) (vs:=[.str s,.ref 2 0,.ref 3 0]) (vs':=[.str s,.ref 0 0,.ref 3 0]) (ids:=[2,0,1,3]) (h0:=[.var [.ref 1 0],.var [.map 2],.rmap (GR M),.var [.str c]]) (h:=[.var [.ref 1 0],.var [.map 2],.rmap (GR M),.var [.str c]]) (r:=.bool q) (by kernel_rfl) rfl (by simp -implicitDefEqProofs only [EQA,Zd,ZP,ZT,Zo,Xw,Xv,XG,Xo,Xm,Xn,Xp,Xs,X8,okB,ZR,ZN,Zc,Zh,Ze,Zb,Zg,Zf,Za4,Zbk,ZbV,ZaM,ZaH,Za1,ZaR,ZaN,Za7,Zal,Zak,Zay,Zaz,Zax,Zbb,Zbc,XT,XU,Xr,Xt,Xx,XC,Wf,X2,X4,Zn,Zi,Zm,Zk,Zj,Zl,Zz,ZG,ZC,Zy,ZE,ZF,ZA,ZB,ZD,implies_true,forall_const,Xh,Xi,Xl,Xe,Xf,Xj,Xk,Zv,Zx,unA,Zt,Zu,unG,reduceCtorEq,Zr,decide_eq_true_eq,Xd,Xb,ite_self,↓reduceIte,Zs,Zw,gcT,gcA,Zq,Zd,Zc,Ze,Zh,Zb,Zg,Zf,Zo,Xc,or_false]) rfl rfl rfl (by simp -implicitDefEqProofs only [EQA,Zd,ZP,ZT,Zo,Xw,Xv,XG,Xo,Xm,Xn,Xp,Xs,X8,okB,ZR,ZN,Zc,Zh,Ze,Zb,Zg,Zf,Za4,Zbk,ZbV,ZaM,ZaH,Za1,ZaR,ZaN,Za7,Zal,Zak,Zay,Zaz,Zax,Zbb,Zbc,XT,XU,Xr,Xt,Xx,XC,Wf,X2,X4,Zn,Zi,Zm,Zk,Zj,Zl,Zz,ZG,ZC,Zy,ZE,ZF,ZA,ZB,ZD,implies_true,forall_const,Xh,Xi,Xl,Xe,Xf,Xj,Xk,Zv,Zx,unA,Zt,Zu,unG,reduceCtorEq,Zr,decide_eq_true_eq,Xd,Xb,ite_self,↓reduceIte,Zs,Zw,gcT,gcA,Zq,Zd,Zc,Ze,Zh,Zb,Zg,Zf,Zo,Xc,or_false]) (by rw [h1];rfl) (Wn rfl) (Wn rfl) rfl rfl rfl (by simp -implicitDefEqProofs only [EQA,Zd,ZP,ZT,Zo,Xw,Xv,XG,Xo,Xm,Xn,Xp,Xs,X8,okB,ZR,ZN,Zc,Zh,Ze,Zb,Zg,Zf,Za4,Zbk,ZbV,ZaM,ZaH,Za1,ZaR,ZaN,Za7,Zal,Zak,Zay,Zaz,Zax,Zbb,Zbc,XT,XU,Xr,Xt,Xx,XC,Wf,X2,X4,Zn,Zi,Zm,Zk,Zj,Zl,Zz,ZG,ZC,Zy,ZE,ZF,ZA,ZB,ZD,implies_true,forall_const,Xh,Xi,Xl,Xe,Xf,Xj,Xk,Zv,Zx,unA,Zt,Zu,unG,reduceCtorEq,Zr,decide_eq_true_eq,Xd,Xb,ite_self,↓reduceIte,Zs,Zw,gcT,gcA,Zq,Zd,Zc,Ze,Zh,Zb,Zg,Zf,Zo,Xc,or_false]) rfl
theorem Zx9 (D:List AVal) (s:Tx) (ms:List Tx) (hP:(R.contains (s,c))=true) (tm:Tms) (σ:Za) (h:gcT 4 (keepL [10,5,1] tm) σ=([(10,.map 1),(5,.lst true []),(1,(.fn 29 [.ref 2 0,.ref 3 0]))],[.var [.map 1],.map (GR M),.var [.ref 0 0],.var [.str c]])) :
  ∃ tm' σ',ZbU FC PR BY 4 [10,5,1] 10 14 1 Zbx c2S (GR M) (.str s,.lst false (ms.map AVal.str)) tm σ=some (tm',σ')/\gcT 4 (keepL [10,5,1] tm') σ'=([(10,.map 1),(5,.sl 4 0 0 1),(1,(.fn 29 [.ref 2 0,.ref 3 0]))],[.var [.map 1],.map (GR M),.var [.ref 0 0],.var [.str c],.row 0 1 [.str s]]):=by
 have hC:=Zul hi hl c D s
 rw [hP] at hC
 have hk:=eq_true (ZfS M 4)
 have hv:∀ (σ:Za),viewAs σ [.str s]=some ([.str s],[]):=fun _=>rfl
 have b1:1*16<=140737488355328:=by decide
 have hr:=Zbb M
 have hm:=fun ρ=>Zbc M ρ
 generalize GR M=G at *
 generalize ms.map AVal.str=T at *
 refine ⟨?_,?_,?_,?_⟩
 rotate_left 2
 ·unfold ZbU
  rw [h]
  simp -implicitDefEqProofs only [EQA,Zn,Zi,Zm,Zk,Zj,Zl,Zz,ZG,ZC,Zy,ZE,ZF,ZA,ZB,ZD,implies_true,forall_const,Xh,Xi,Xl,Xe,Xf,Xj,Xk,Zv,Zx,unA,Zt,Zu,unG,reduceCtorEq,Zr,decide_eq_true_eq,Xd,Xb,ite_self,↓reduceIte,Zs,Zw,gcT,gcA,Zq,Zd,Zc,Ze,Zh,Zb,Zg,Zf,Zo,Xc,ZbM,ZbB,ZbK,Zp,ZI,ZK,ZJ,ZH,ZL,hC,hk,hv,b1,Zdr,Zbx,c2S,kOk,ZS,ZaI,AVal.cells,Zar,XQ,Xr,Xt,Wy,XR,X9,Zc4,Zf0,Zgc,Zf1,Zfw,Zag,Z0,Zah,Z3,XF,XH,Xp,Xs,Xr,Xt,Zaa,Zae,Zab,Zaf,Zac,Xm,Xn,ZU,ZX,ZV,Z1,Z6,Z4,Z9,Z7,ZZ,Z8,Xy,XA,Xp,Xs,Xo]
  rfl
 ·simp -implicitDefEqProofs only [EQA,Zn,Zi,Zm,Zk,Zj,Zl,Zz,ZG,ZC,Zy,ZE,ZF,ZA,ZB,ZD,implies_true,forall_const,Xh,Xi,Xl,Xe,Xf,Xj,Xk,Zv,Zx,unA,Zt,Zu,unG,reduceCtorEq,Zr,decide_eq_true_eq,Xd,Xb,ite_self,↓reduceIte,Zs,Zw,gcT,gcA,Zq,Zd,Zc,Ze,Zh,Zb,Zg,Zf,Zo,Xc,ZbM,ZbB,ZbK,Zp,ZI,ZK,ZJ,ZH,ZL,hr,hm]
theorem ZGE (D:List AVal) (s:Tx) (ms:List Tx) (hP:(R.contains (s,c))=false) (tm:Tms) (σ:Za) (h:gcT 4 (keepL [10,5,1] tm) σ=([(10,.map 1),(5,.lst true []),(1,(.fn 29 [.ref 2 0,.ref 3 0]))],[.var [.map 1],.map (GR M),.var [.ref 0 0],.var [.str c]])) :
  ∃ tm' σ',ZbU FC PR BY 4 [10,5,1] 10 14 1 Zbx c2S (GR M) (.str s,.lst false (ms.map AVal.str)) tm σ=some (tm',σ')/\gcT 4 (keepL [10,5,1] tm') σ'=([(10,.map 1),(5,.lst true []),(1,(.fn 29 [.ref 2 0,.ref 3 0]))],[.var [.map 1],.map (GR M),.var [.ref 0 0],.var [.str c]]):=by
 have hC:=Zul hi hl c D s
 rw [hP] at hC
 have hk:=eq_true (ZfS M 4)
 have hv:∀ (σ:Za),viewAs σ [.str s]=some ([.str s],[]):=fun _=>rfl
 have b1:1*16<=140737488355328:=by decide
 have hr:=Zbb M
 have hm:=fun ρ=>Zbc M ρ
 generalize GR M=G at *
 generalize ms.map AVal.str=T at *
 refine ⟨?_,?_,?_,?_⟩
 rotate_left 2
 ·unfold ZbU
  rw [h]
  simp -implicitDefEqProofs only [EQA,Zn,Zi,Zm,Zk,Zj,Zl,Zz,ZG,ZC,Zy,ZE,ZF,ZA,ZB,ZD,implies_true,forall_const,Xh,Xi,Xl,Xe,Xf,Xj,Xk,Zv,Zx,unA,Zt,Zu,unG,reduceCtorEq,Zr,decide_eq_true_eq,Xd,Xb,ite_self,↓reduceIte,Zs,Zw,gcT,gcA,Zq,Zd,Zc,Ze,Zh,Zb,Zg,Zf,Zo,Xc,ZbM,ZbB,ZbK,Zp,ZI,ZK,ZJ,ZH,ZL,hC,hk,hv,b1,Zdr,Zbx,c2S,kOk,ZS,ZaI,AVal.cells,Zar,XQ,Xr,Xt,Wy,XR,X9,Zc4,Zf0,Zgc,Zf1,Zfw,Zag,Z0,Zah,Z3,XF,XH,Xp,Xs,Xr,Xt,Zaa,Zae,Zab,Zaf,Zac,Xm,Xn,ZU,ZX,ZV,Z1,Z6,Z4,Z9,Z7,ZZ,Z8,Xy,XA,Xp,Xs,Xo]
  rfl
 ·simp -implicitDefEqProofs only [EQA,Zn,Zi,Zm,Zk,Zj,Zl,Zz,ZG,ZC,Zy,ZE,ZF,ZA,ZB,ZD,implies_true,forall_const,Xh,Xi,Xl,Xe,Xf,Xj,Xk,Zv,Zx,unA,Zt,Zu,unG,reduceCtorEq,Zr,decide_eq_true_eq,Xd,Xb,ite_self,↓reduceIte,Zs,Zw,gcT,gcA,Zq,Zd,Zc,Ze,Zh,Zb,Zg,Zf,Zo,Xc,ZbM,ZbB,ZbK,Zp,ZI,ZK,ZJ,ZH,ZL,hr,hm]
theorem ZFU (D:List AVal) (s:Tx) (ms:List Tx) (hd:(D.length+1)*16<=140737488355328) (hP:(R.contains (s,c))=true) (tm:Tms) (σ:Za) (h:gcT 4 (keepL [10,5,1] tm) σ=([(10,.map 1),(5,.sl 4 0 0 D.length),(1,(.fn 29 [.ref 2 0,.ref 3 0]))],[.var [.map 1],.map (GR M),.var [.ref 0 0],.var [.str c],.row 0 1 D])) :
  ∃ tm' σ',ZbU FC PR BY 4 [10,5,1] 10 14 1 Zbx c2S (GR M) (.str s,.lst false (ms.map AVal.str)) tm σ=some (tm',σ')/\gcT 4 (keepL [10,5,1] tm') σ'=([(10,.map 1),(5,.sl 4 0 0 (D.length+1)),(1,(.fn 29 [.ref 2 0,.ref 3 0]))],[.var [.map 1],.map (GR M),.var [.ref 0 0],.var [.str c],.row 0 1 (D++[.str s])]):=by
 have hC:=ZrN hi hl c D s
 rw [hP] at hC
 have hk:=eq_true (ZfS M 5)
 have hv:∀ (σ:Za),viewAs σ [.str s]=some ([.str s],[]):=fun _=>rfl
 have b1:1*16<=140737488355328:=by decide
 have hr:=Zbb M
 have hm:=fun ρ=>Zbc M ρ
 generalize GR M=G at *
 generalize ms.map AVal.str=T at *
 refine ⟨?_,?_,?_,?_⟩
 rotate_left 2
 ·unfold ZbU
  rw [h]
  simp -implicitDefEqProofs only [EQA,Zn,Zi,Zm,Zk,Zj,Zl,Zz,ZG,ZC,Zy,ZE,ZF,ZA,ZB,ZD,implies_true,forall_const,Xh,Xi,Xl,Xe,Xf,Xj,Xk,Zv,Zx,unA,Zt,Zu,unG,reduceCtorEq,Zr,decide_eq_true_eq,Xd,Xb,ite_self,↓reduceIte,Zs,Zw,gcT,gcA,Zq,Zd,Zc,Ze,Zh,Zb,Zg,Zf,Zo,Xc,ZbM,ZbB,ZbK,Zp,ZI,ZK,ZJ,ZH,ZL,hC,hk,hv,b1,hd,Zdr,Zbx,c2S,kOk,ZS,ZaI,AVal.cells,Zar,XQ,Xr,Xt,Wy,XR,X9,Zc4,Zf0,Zgc,Zf1,Zfw,Zag,Z0,Zah,Z3,XF,XH,Xp,Xs,Xr,Xt,Zaa,Zae,Zab,Zaf,Zac,Xm,Xn,ZU,ZX,ZV,Z1,Z6,Z4,Z9,Z7,ZZ,Z8,Xy,XA,Xp,Xs,Xo]
  rfl
 ·simp -implicitDefEqProofs only [EQA,Zn,Zi,Zm,Zk,Zj,Zl,Zz,ZG,ZC,Zy,ZE,ZF,ZA,ZB,ZD,implies_true,forall_const,Xh,Xi,Xl,Xe,Xf,Xj,Xk,Zv,Zx,unA,Zt,Zu,unG,reduceCtorEq,Zr,decide_eq_true_eq,Xd,Xb,ite_self,↓reduceIte,Zs,Zw,gcT,gcA,Zq,Zd,Zc,Ze,Zh,Zb,Zg,Zf,Zo,Xc,ZbM,ZbB,ZbK,Zp,ZI,ZK,ZJ,ZH,ZL,hr,hm]
theorem Zv0 (D:List AVal) (s:Tx) (ms:List Tx) (hP:(R.contains (s,c))=false) (tm:Tms) (σ:Za) (h:gcT 4 (keepL [10,5,1] tm) σ=([(10,.map 1),(5,.sl 4 0 0 D.length),(1,(.fn 29 [.ref 2 0,.ref 3 0]))],[.var [.map 1],.map (GR M),.var [.ref 0 0],.var [.str c],.row 0 1 D])) :
  ∃ tm' σ',ZbU FC PR BY 4 [10,5,1] 10 14 1 Zbx c2S (GR M) (.str s,.lst false (ms.map AVal.str)) tm σ=some (tm',σ')/\gcT 4 (keepL [10,5,1] tm') σ'=([(10,.map 1),(5,.sl 4 0 0 D.length),(1,(.fn 29 [.ref 2 0,.ref 3 0]))],[.var [.map 1],.map (GR M),.var [.ref 0 0],.var [.str c],.row 0 1 D]):=by
 have hC:=ZrN hi hl c D s
 rw [hP] at hC
 have hk:=eq_true (ZfS M 5)
 have hv:∀ (σ:Za),viewAs σ [.str s]=some ([.str s],[]):=fun _=>rfl
 have b1:1*16<=140737488355328:=by decide
 have hr:=Zbb M
 have hm:=fun ρ=>Zbc M ρ
 generalize GR M=G at *
 generalize ms.map AVal.str=T at *
 refine ⟨?_,?_,?_,?_⟩
 rotate_left 2
 ·unfold ZbU
  rw [h]
  simp -implicitDefEqProofs only [EQA,Zn,Zi,Zm,Zk,Zj,Zl,Zz,ZG,ZC,Zy,ZE,ZF,ZA,ZB,ZD,implies_true,forall_const,Xh,Xi,Xl,Xe,Xf,Xj,Xk,Zv,Zx,unA,Zt,Zu,unG,reduceCtorEq,Zr,decide_eq_true_eq,Xd,Xb,ite_self,↓reduceIte,Zs,Zw,gcT,gcA,Zq,Zd,Zc,Ze,Zh,Zb,Zg,Zf,Zo,Xc,ZbM,ZbB,ZbK,Zp,ZI,ZK,ZJ,ZH,ZL,hC,hk,hv,b1,Zdr,Zbx,c2S,kOk,ZS,ZaI,AVal.cells,Zar,XQ,Xr,Xt,Wy,XR,X9,Zc4,Zf0,Zgc,Zf1,Zfw,Zag,Z0,Zah,Z3,XF,XH,Xp,Xs,Xr,Xt,Zaa,Zae,Zab,Zaf,Zac,Xm,Xn,ZU,ZX,ZV,Z1,Z6,Z4,Z9,Z7,ZZ,Z8,Xy,XA,Xp,Xs,Xo]
  rfl
 ·simp -implicitDefEqProofs only [EQA,Zn,Zi,Zm,Zk,Zj,Zl,Zz,ZG,ZC,Zy,ZE,ZF,ZA,ZB,ZD,implies_true,forall_const,Xh,Xi,Xl,Xe,Xf,Xj,Xk,Zv,Zx,unA,Zt,Zu,unG,reduceCtorEq,Zr,decide_eq_true_eq,Xd,Xb,ite_self,↓reduceIte,Zs,Zw,gcT,gcA,Zq,Zd,Zc,Ze,Zh,Zb,Zg,Zf,Zo,Xc,ZbM,ZbB,ZbK,Zp,ZI,ZK,ZJ,ZH,ZL,hr,hm]
def stG (M:List Sh) (c:Tx):List Tx->Tms×Za
 | []=>([(10,.map 1),(5,.lst true []),(1,(.fn 29 [.ref 2 0,.ref 3 0]))],[.var [.map 1],.map (GR M),.var [.ref 0 0],.var [.str c]])
 | x::D=>([(10,.map 1),(5,.sl 4 0 0 (x::D).length),(1,(.fn 29 [.ref 2 0,.ref 3 0]))],[.var [.map 1],.map (GR M),.var [.ref 0 0],.var [.str c],.row 0 1 ((x::D).map AVal.str)])
omit hi hl in
theorem Zjo (M:List Sh) (c:Tx) {D:List Tx} (h:D≠[]):stG M c D=([(10,.map 1),(5,.sl 4 0 0 (D.map AVal.str).length),(1,(.fn 29 [.ref 2 0,.ref 3 0]))],[.var [.map 1],.map (GR M),.var [.ref 0 0],.var [.str c],.row 0 1 (D.map AVal.str)]):=by
 cases D with
 | nil=>exact absurd rfl h
 | cons x D=>unfold stG;rw [X7]
theorem fdG:∀ (d:List Sh) (D:List Tx) (tm:Tms) (σ:Za),D.length+d.length<=1000000->gcT 4 (keepL [10,5,1] tm) σ=stG M c D ->
  ∃ tm' σ',ZcE FC PR BY 4 [10,5,1] 10 14 1 Zbx c2S (GR M) (GR d) tm σ=some (tm',σ')/\gcT 4 (keepL [10,5,1] tm') σ'=stG M c (D++(Zai d).filter (fun s=>R.contains (s,c)))
 | [],D,tm,σ,_,h=>⟨tm,σ,rfl,by rw [h];simp [Zai]⟩
 | (s,ms)::d,D,tm,σ,hl2,h=>by
  have hlen:D.length+1+d.length<=1000000:=by rw [Xr] at hl2;omega
  have step:∃ tm' σ',ZbU FC PR BY 4 [10,5,1] 10 14 1 Zbx c2S (GR M) (.str s,.lst false (ms.map AVal.str)) tm σ=some (tm',σ')/\gcT 4 (keepL [10,5,1] tm') σ'=stG M c (D++if (R.contains (s,c))=true then [s] else []):=by
   cases D with
   | nil =>
    cases hP:(R.contains (s,c)) with
    | true=>exact Zx9 hi hl c [] s ms hP tm σ h
    | false=>exact ZGE hi hl c [] s ms hP tm σ h
   | cons x D =>
    have hne:x::D≠[]:=by simp
    rw [Zjo M c hne] at h
    cases hP:(R.contains (s,c)) with
    | true =>
     obtain ⟨tm',σ',e1,e2⟩:=ZFU hi hl c ((x::D).map AVal.str) s ms (by rw [X7];simp only [Xr] at hlen ⊢;omega) hP tm σ h
     refine ⟨tm',σ',e1,?_⟩
     rw [e2,if_pos rfl,Zjo M c (by simp)]
     simp
    | false =>
     obtain ⟨tm',σ',e1,e2⟩:=Zv0 hi hl c ((x::D).map AVal.str) s ms hP tm σ h
     refine ⟨tm',σ',e1,?_⟩
     rw [e2,if_neg (by simp),Xw,Zjo M c hne]
  obtain ⟨tm1,σ1,e1,e2⟩:=step
  obtain ⟨tm2,σ2,f1,f2⟩:=fdG d (D++if (R.contains (s,c))=true then [s] else []) tm1 σ1 (by
   have h9:(if (R.contains (s,c))=true then [s] else ([]:List Tx)).length<=1:=by
    by_cases hP:(R.contains (s,c))=true
    ·rw [if_pos hP];exact X5 _
    ·rw [if_neg hP];exact W7 _
   rw [X3];omega) e2
  refine ⟨tm2,σ2,?_,?_⟩
  ·show (match ZbU FC PR BY 4 [10,5,1] 10 14 1 Zbx c2S (GR M) (.str s,.lst false (ms.map AVal.str)) tm σ with
    | some (tm',σ')=>ZcE FC PR BY 4 [10,5,1] 10 14 1 Zbx c2S (GR M) (GR d) tm' σ'
    | none=>none)=_
   rw [e1]
   exact f1
  ·rw [f2,W4]
   congr 2
   show _=List.filter (fun s=>R.contains (s,c)) (s::Zai d)
   rw [Xa0]
   by_cases hP:(R.contains (s,c))=true
   ·rw [if_pos hP,if_pos hP];rfl
   ·rw [if_neg hP,if_neg hP];rfl
omit hi hl in
theorem ZHZ:ZaL 4 ⟨[.tmp 4],c3S⟩ (evC FC PR BY 4 c3S (stG M c []).1 ((stG M c []).2.set 1 (.rmap (GR M))))=some (.lst true [],[.var [.map 1],.rmap (GR M),.var [.ref 0 0],.var [.str c]]):=by
 have hS:=ZvR
 unfold stG c3S
 simp only [X4,X2]
 simp -implicitDefEqProofs only [EQA,Zn,Zi,Zm,Zk,Zj,Zl,Zz,ZG,ZC,Zy,ZE,ZF,ZA,ZB,ZD,implies_true,forall_const,Xh,Xi,Xl,Xe,Xf,Xj,Xk,Zv,Zx,unA,Zt,Zu,unG,reduceCtorEq,Zr,decide_eq_true_eq,Xd,Xb,ite_self,↓reduceIte,Zs,Zw,gcT,gcA,Zq,Zd,Zc,Ze,Zh,Zb,Zg,Zf,Zo,Xc,ZbM,ZbB,ZbK,Zp,ZI,ZK,ZJ,ZH,ZL,hS]
 simp -implicitDefEqProofs only [EQA,Zan,gcA,Zq,ZP,Xw,Xv,Xc,XP,XJ,XD,XM,Xm,Xn,Zal,Zak,Zay,Zaz,Zax,XT,XU,id_eq,ZR,Zd,Zo,ZT,Ze,Zf,ZN,Xo,Zc,Zh,Zb,Zg,Zn,Zi,Zm,Zk,Zj,Zl,Zz,ZG,ZC,Zy,ZE,ZF,ZA,ZB,ZD,implies_true,forall_const,Xh,Xi,Xl,Xe,Xf,Xj,Xk,Zv,Zx,unA,Zt,Zu,unG,reduceCtorEq,Zr,decide_eq_true_eq,Xd,Xb,ite_self,↓reduceIte,Zs,Zw,gcT,gcA,Zq,Zd,Zc,Ze,Zh,Zb,Zg,Zf,Zo,Xc,or_false,Zbb,Zbc]
omit hi hl in
theorem ZyZ {D:List Tx} (hD:D≠[]) (hDl:D.length < 4611686018427387904):ZaL 4 ⟨[.tmp 4],c3S⟩ (evC FC PR BY 4 c3S (stG M c D).1 ((stG M c D).2.set 1 (.rmap (GR M))))=some (.sl 4 0 0 D.length,[.var [.map 1],.rmap (GR M),.var [.ref 0 0],.var [.str c],.row 0 1 ((Zbm D).map AVal.str)]):=by
 have hS:=fun {σ:Za} {sq:Nat} hs=>ZsI D hDl (σ:=σ) (t:=4) (sq:=sq) hs
 rw [Zjo M c hD,X7]
 generalize (Zbm D).map AVal.str=S2 at *
 generalize D.map AVal.str=S1 at *
 unfold c3S
 simp only [X4,X2]
 simp -implicitDefEqProofs only [EQA,Zn,Zi,Zm,Zk,Zj,Zl,Zz,ZG,ZC,Zy,ZE,ZF,ZA,ZB,ZD,implies_true,forall_const,Xh,Xi,Xl,Xe,Xf,Xj,Xk,Zv,Zx,unA,Zt,Zu,unG,reduceCtorEq,Zr,decide_eq_true_eq,Xd,Xb,ite_self,↓reduceIte,Zs,Zw,gcT,gcA,Zq,Zd,Zc,Ze,Zh,Zb,Zg,Zf,Zo,Xc,ZbM,ZbB,ZbK,Zp,ZI,ZK,ZJ,ZH,ZL,hS]
 simp -implicitDefEqProofs only [EQA,Zan,gcA,Zq,ZP,Xw,Xv,Xc,XP,XJ,XD,XM,Xm,Xn,Zal,Zak,Zay,Zaz,Zax,XT,XU,id_eq,ZR,Zd,Zo,ZT,Ze,Zf,ZN,Xo,Zc,Zh,Zb,Zg,Zn,Zi,Zm,Zk,Zj,Zl,Zz,ZG,ZC,Zy,ZE,ZF,ZA,ZB,ZD,implies_true,forall_const,Xh,Xi,Xl,Xe,Xf,Xj,Xk,Zv,Zx,unA,Zt,Zu,unG,reduceCtorEq,Zr,decide_eq_true_eq,Xd,Xb,ite_self,↓reduceIte,Zs,Zw,gcT,gcA,Zq,Zd,Zc,Ze,Zh,Zb,Zg,Zf,Zo,Xc,or_false,Zbb,Zbc]
theorem ZFa (hMl:M.length<=1000000):ZeK [.ref 0 0,(.fn 29 [.ref 2 0,.ref 3 0])] (rb M++[.var [.ref 0 0],.var [.str c]])=some (gvT 4 (Zbm ((Zai M).filter (fun s=>R.contains (s,c)))),rb M++([.var [.ref 0 0],.var [.str c]]++ghT (Zbm ((Zai M).filter (fun s=>R.contains (s,c)))))):=by
 have s1:evC FC PR BY 4 c1S (enterA 0 [.ref 0 0,(.fn 29 [.ref 2 0,.ref 3 0])] []) [.var [.map 1],.rmap (GR M),.var [.ref 0 0],.var [.str c]]=some (.normal,[(5,.lst true []),(1,(.fn 29 [.ref 2 0,.ref 3 0])),(0,.ref 0 0)],[.var [.map 1],.rmap (GR M),.var [.ref 0 0],.var [.str c]]):=by
  generalize GR M=G
  simp -implicitDefEqProofs only [EQA,Zn,Zi,Zm,Zk,Zj,Zl,Zz,ZG,ZC,Zy,ZE,ZF,ZA,ZB,ZD,implies_true,forall_const,Xh,Xi,Xl,Xe,Xf,Xj,Xk,Zv,Zx,unA,Zt,Zu,unG,reduceCtorEq,Zr,decide_eq_true_eq,Xd,Xb,ite_self,↓reduceIte,Zs,Zw,gcT,gcA,Zq,Zd,Zc,Ze,Zh,Zb,Zg,Zf,Zo,Xc,ZbM,ZbB,ZbK,Zp,ZI,ZK,ZJ,ZH,ZL,c1S]
 have s2:Zdr BY Zmq [(5,.lst true []),(1,(.fn 29 [.ref 2 0,.ref 3 0])),(0,.ref 0 0)] [.var [.map 1],.rmap (GR M),.var [.ref 0 0],.var [.str c]]=some ([(10,.map 1),(9,.ref 0 0),(8,.ref 0 0),(7,.ref 0 0),(5,.lst true []),(1,(.fn 29 [.ref 2 0,.ref 3 0])),(0,.ref 0 0)],[.var [.map 1],.rmap (GR M),.var [.ref 0 0],.var [.str c]]):=by
  generalize GR M=G
  rfl
 have hro:∀ u x,u≠1->([.var [.map 1],.rmap (GR M),.var [.ref 0 0],.var [.str c]]:Za)[u]?=some x->Zce x=false:=by
  intro u x hu hx
  match u,hu,hx with
  | 0,_,hx=>simp only [Xx,Xa] at hx;subst hx;rfl
  | 2,_,hx=>simp only [Xx,XC,Xa] at hx;subst hx;rfl
  | 3,_,hx=>simp only [Xx,XC,Xa] at hx;subst hx;rfl
  | u+4,_,hx=>simp at hx
 have hg:gcT 4 (keepL [10,5,1] [(10,.map 1),(9,.ref 0 0),(8,.ref 0 0),(7,.ref 0 0),(5,.lst true []),(1,(.fn 29 [.ref 2 0,.ref 3 0])),(0,.ref 0 0)]) [.var [.map 1],.map (GR M),.var [.ref 0 0],.var [.str c]]=stG M c []:=by
  have hr:=Zbb M
  have hm:=fun ρ=>Zbc M ρ
  unfold stG
  generalize GR M=G at *
  simp -implicitDefEqProofs only [EQA,Zn,Zi,Zm,Zk,Zj,Zl,Zz,ZG,ZC,Zy,ZE,ZF,ZA,ZB,ZD,implies_true,forall_const,Xh,Xi,Xl,Xe,Xf,Xj,Xk,Zv,Zx,unA,Zt,Zu,unG,reduceCtorEq,Zr,decide_eq_true_eq,Xd,Xb,ite_self,↓reduceIte,Zs,Zw,gcT,gcA,Zq,Zd,Zc,Ze,Zh,Zb,Zg,Zf,Zo,Xc,ZbM,ZbB,ZbK,Zp,ZI,ZK,ZJ,ZH,ZL,hr,hm]
 show ZeK [.ref 0 0,(.fn 29 [.ref 2 0,.ref 3 0])] [.var [.map 1],.rmap (GR M),.var [.ref 0 0],.var [.str c]]=_
 unfold ZeK Zi0
 rw [show ([.var [.map 1],.rmap (GR M),.var [.ref 0 0],.var [.str c]]:Za).length=4 from rfl,s1]
 simp only [s2]
 rw [show tget [(10,.map 1),(9,.ref 0 0),(8,.ref 0 0),(7,.ref 0 0),(5,.lst true []),(1,(.fn 29 [.ref 2 0,.ref 3 0])),(0,.ref 0 0)] 10=.map 1 from rfl]
 simp only
 rw [show ([.var [.map 1],.rmap (GR M),.var [.ref 0 0],.var [.str c]]:Za)[1]?=some (.rmap (GR M)) from rfl]
 simp only
 rw [if_pos ⟨by decide,hro⟩]
 refine ZtF fun es' hp=>?_
 obtain ⟨d,hd,rfl⟩:=ZuG hp
 have hf:=fdG hi hl c d [] _ _ (by rw [hd.length_eq];simpa using hMl) hg
 obtain ⟨tm2,σ2,f1,f2⟩:=hf
 rw [Xv] at f2
 unfold ZfL
 have f1':ZcE FC PR BY 4 [10,5,1] 10 14 1 Zbx c2S (GR M) (List.map (fun p=>(AVal.str p.1,AVal.lst false (p.2.map AVal.str))) d) [(10,.map 1),(9,.ref 0 0),(8,.ref 0 0),(7,.ref 0 0),(5,.lst true []),(1,(.fn 29 [.ref 2 0,.ref 3 0])),(0,.ref 0 0)] (([.var [.map 1],.rmap (GR M),.var [.ref 0 0],.var [.str c]]:Za).set 1 (.map (GR M)))=some (tm2,σ2):=f1
 rw [f1']
 simp only
 unfold Zja
 have hT:Zbm ((Zai d).filter (fun s=>R.contains (s,c)))=Zbm ((Zai M).filter (fun s=>R.contains (s,c))):=ZvS (ZrQ hd _)
 have hDl:((Zai d).filter (fun s=>R.contains (s,c))).length < 4611686018427387904:=by
  have h1:=Xaf (fun s=>R.contains (s,c)) (Zai d)
  have h2:(Zai d).length=M.length:=by unfold Zai;rw [X7,hd.length_eq]
  omega
 have hlT:(Zbm ((Zai M).filter (fun s=>R.contains (s,c)))).length=((Zai d).filter (fun s=>R.contains (s,c))).length:=by rw [<-hT,(Zhm _).length_eq]
 rw [f2]
 generalize (Zai d).filter (fun s=>R.contains (s,c))=D at *
 by_cases hD:D=[]
 ·subst hD
  rw [if_pos,ZHZ]
  ·have : Zbm ((Zai M).filter (fun s=>R.contains (s,c)))=[]:=X6 hlT
   rw [this];rfl
  ·refine ⟨rfl,fun u x hu hx=>?_⟩
   unfold stG at hx
   match u,hu,hx with
   | 0,_,hx=>simp only [Xx,Xa] at hx;subst hx;rfl
   | 2,_,hx=>simp only [Xx,XC,Xa] at hx;subst hx;rfl
   | 3,_,hx=>simp only [Xx,XC,Xa] at hx;subst hx;rfl
   | u+4,_,hx=>simp at hx
 ·rw [if_pos,ZyZ c hD hDl,hT]
  ·have hne:Zbm ((Zai M).filter (fun s=>R.contains (s,c)))≠[]:=fun e=>hD (X6 (by rw [<-hlT,e];rfl))
   unfold gvT ghT
   rw [if_neg hne,if_neg hne,hlT];rfl
  ·rw [Zjo M c hD]
   refine ⟨rfl,fun u x hu hx=>?_⟩
   match u,hu,hx with
   | 0,_,hx=>simp only [Xx,Xa] at hx;subst hx;rfl
   | 2,_,hx=>simp only [Xx,XC,Xa] at hx;subst hx;rfl
   | 3,_,hx=>simp only [Xx,XC,Xa] at hx;subst hx;rfl
   | 4,_,hx=>simp only [Xx,XC,Xa] at hx;subst hx;rfl
   | u+5,_,hx=>simp at hx
theorem ZK7 (hMl:M.length<=1000000):EP 28 [.ref 0 0,(.fn 29 [.ref 2 0,.ref 3 0])] (bk M++[.var [.ref 0 0],.var [.str c]])=some (gvT 4 (Zbm ((Zai M).filter (fun s=>R.contains (s,c)))),bk M++([.var [.ref 0 0],.var [.str c]]++ghT (Zbm ((Zai M).filter (fun s=>R.contains (s,c)))))):=by
 rw [ZuQ]
 refine Zlg (ZFa hi hl c hMl) ?_ ?_
 ·unfold gvT;split <;> rfl
 ·unfold ghT
  split
  ·rfl
  ·rename_i hne
   rw [List.all_append]
   simp only [Xp,Xs,ZpX,XaV];rfl
end
end
section
theorem ZFe {O:Zat} {bf:Nat->Bool} {f sq own:Nat} {view:Bool} {rest rest':List AVal} {M M':List Sh} {r:AVal} {σ:Za} {a b:Nat} (h:ZaG view 2 (O f (.ref 0 0::rest') (bk M))=some (r,bk M')) (hb:bf f=false) (hp:rest.all ZaX=true) (hn:rest.map Zaw=rest') (hr:∀ ρ,ZN ρ r=r)
  (ha:σ[a]?=some (.var [.map b])) (hg:σ[b]?=some (.gmap 1 (GM M))) (hff:ZaN σ sq own=true):ZQ O bf σ sq f own view (.ref a 0::rest)=some (r,σ.set b (.gmap 1 (GM M')),{ any:=true,upd:=[(a,[.map b])] }):=by
 subst hn
 have hab:a≠b:=by
  rintro rfl
  rw [ha] at hg;cases hg
 have hal:a < σ.length:=(Xu.1 ha).1
 have hbl:b < σ.length:=(Xu.1 hg).1
 have da:σ.getD a .free=.var [.map b]:=by simp [Xz,ha]
 have db:σ.getD b .free=.gmap 1 (GM M):=by simp [Xz,hg]
 have hsh:showAs σ (.ref a 0::rest)=some (.ref a 0::rest.map Zaw,[]):=by
  rw [showAs,show showA σ (.ref a 0)=some (.ref a 0,[]) from rfl,Zh7 hp]
  rfl
 have href:ZP (.ref a 0::rest.map Zaw)=[a]:=by
  rw [ZP,Zgp hp];rfl
 have hba:(b == a)=false:=by simpa using W0 hab
 have hre:Zd σ 1000 (ZP (.ref a 0::rest.map Zaw)) []=[a,b]:=by
  rw [href]
  show Zd σ (997+1+1+1) [a] []=_
  simp only [Zd,Xo,Xq,if_false,da,Zo,ZP,ZT,Xv,Xw,XG,Wo,hba,XaU,db,Zal]
 have hρa:Zc σ 0 [a,b] a 0=some (0,0):=by simp [Zc,Zh,ha,Zb,Zg]
 have hρb:Zc σ 0 [a,b] b 0=some (1,0):=by simp [Zc,Zh,hg,Zb,Zg,hab]
 have hargs:ZR (Zc σ 0 [a,b]) (.ref a 0::rest.map Zaw)=.ref 0 0::rest.map Zaw:=by
  rw [ZR,ZgB hp]
  simp only [ZN,hρa]
 have hheap:Ze σ 0 [a,b] (Zc σ 0 [a,b]) [a,b] 0=bk M:=by
  unfold bk
  simp only [Ze,da,db,Zg,Zb,Zf,ZR,ZN,hρb,Zak]
 have hall:([a,b].all fun t=>okB (σ.getD t .free))=true:=by simp only [Xp,Xs,da,db,okB,WD]
 cases hO:O f (.ref 0 0::rest.map Zaw) (bk M) with
 | none =>
  rw [hO] at h
  unfold ZaG at h
  split at h <;> cases h
 | some p =>
 obtain ⟨r0,hh0⟩:=p
 rw [hO] at h
 have hlay:ZaR σ [a,b] sq (bk M') 0 σ=σ.set b (.gmap 1 (GM M')):=by
  unfold bk
  have e1:ZaM σ [a,b] sq 1 0=some (b,0):=by simp [ZaM,hg,Zb]
  simp only [ZaR,ZaH,Xm,Xn,Zf,ZR,ZN,e1,Zak]
  have e2:σ.set a (.var [.map b])=σ:=by
   apply Wv
   intro i
   rw [XB]
   by_cases e:a=i
   ·subst e
    rw [if_pos rfl,if_pos hal,ha]
   ·rw [if_neg e]
  rw [e2]
 refine Zl3 hb hsh hre rfl hall hargs hheap hO h (by simp [bk]) (by simp [bk]) ?_ hff (hr _) hlay ?_
 ·unfold bk
  simp only [Za4,okB,Xx,XC,da,db,Zbk,Zb,W7,decide_true,WD]
 ·have e1:(σ.set b (.gmap 1 (GM M')))[a]?=some (.var [.map b]):=by rw [XB,if_neg (W0 hab)];exact ha
  have e2:(σ.set b (.gmap 1 (GM M')))[b]?=some (.gmap 1 (GM M')):=by rw [XB,if_pos rfl,if_pos hbl]
  simp only [Za7,e1,e2]
theorem Zn9 {M : List Sh} {r : AVal} {view : Bool} (h1 : viewR (bk M) r = some (r, [])) (h2 : ZT r = []) (h3 : ∀ ρ, ZN ρ r = r) (h4 : ∀ x, r ≠ .pan x) : ZaG view 2 (some (r, bk M)) = some (r, bk M) := by
  unfold ZaG
  split
  . rw [show Zc8 2 (some (r, bk M)) = (match viewR (bk M) r with
        | some (r', ts) => match gcA 2 [r'] (ZS (bk M) ts) with
          | ([r''], σ') => some (r'', σ')
          | _ => none
        | none => none) from by cases r <;> first | rfl | exact absurd rfl (h4 _)]
    rw [h1]
    have := Zko M r h2 h3
    unfold Zan at this
    exact this
  . rfl
theorem ZqZ {M : List Sh} (T : List Tx) : ZaG true 2 (some (.sl 2 0 0 T.length, bk M ++ [Z5.row 0 1 (T.map AVal.str)])) = some (.lst false (T.map AVal.str), bk M) := by
  have he : Zr (bk M ++ [Z5.row 0 1 (T.map AVal.str)]) (.sl 2 0 0 T.length) = some (T.map AVal.str, [2]) := ZpG _ 2 0 T.length false (T.map AVal.str) (by simp) rfl
  unfold ZaG
  rw [if_pos rfl]
  show (match viewR (bk M ++ [Z5.row 0 1 (T.map AVal.str)]) (.sl 2 0 0 T.length) with
        | some (r', ts) => match gcA 2 [r'] (ZS (bk M ++ [Z5.row 0 1 (T.map AVal.str)]) ts) with
          | ([r''], σ') => some (r'', σ')
          | _ => none
        | none => none) = _
  simp only [viewR, Zcb, ZbA, he]
  have e3 : ZS (bk M ++ [Z5.row 0 1 (T.map AVal.str)]) [2] = [.var [.map 1], .gmap 1 (GM M), .frow 0 1 (T.map AVal.str)] := rfl
  rw [e3]
  have ho : Zan 2 [.var [.map 1], .gmap 1 (GM M), .frow 0 1 (T.map AVal.str)] (.lst false (T.map AVal.str)) = some (.lst false (T.map AVal.str), bk M) := by
    unfold bk
    simp -implicitDefEqProofs only [EQA,Zan,gcA,Zq,ZP,Xw,Xv,Xc,XP,XJ,XD,XM,Xm,Xn,Zal,Zak,Zay,Zaz,Zax,XT,XU,id_eq,ZR,Zd,Zo,ZT,Ze,Zf,ZN,Xo,Zc,Zh,Zb,Zg,Zn,Zi,Zm,Zk,Zj,Zl,Zz,ZG,ZC,Zy,ZE,ZF,ZA,ZB,ZD,implies_true,forall_const,Xh,Xi,Xl,Xe,Xf,Xj,Xk,Zv,Zx,unA,Zt,Zu,unG,reduceCtorEq,Zr,decide_eq_true_eq,Xd,Xb,ite_self,↓reduceIte,Zs,Zw,gcT,gcA,Zq,Zd,Zc,Ze,Zh,Zb,Zg,Zf,Zo,Xc,or_false]
  unfold Zan at ho
  exact ho
end
section
def ZfQ (f:Nat) (rest:List AVal) (M:List Sh) (r:AVal) (M':List Sh):Prop:=∀ (σ:Za) (a b:Nat),σ[a]?=some (.var [.map b])->σ[b]?=some (.gmap 1 (GM M))->∀ sq own:Nat,ZaN σ sq own=true->ZQ EP BY σ sq f own true (.ref a 0::rest)=some (r,σ.set b (.gmap 1 (GM M')),{ any:=true,upd:=[(a,[.map b])] })
theorem Zhn {f:Nat} {rest rest':List AVal} {M M':List Sh} {r:AVal} (h:ZaG true 2 (EP f (.ref 0 0::rest') (bk M))=some (r,bk M')) (hb:BY f=false) (hp:rest.all ZaX=true) (hn:rest.map Zaw=rest') (hr:∀ ρ,ZN ρ r=r):ZfQ f rest M r M':=fun σ a b ha hg sq own hff=>ZFe h hb hp hn hr ha hg hff
theorem ZoY {M:List Sh} {R:List Mb} {s c:Tx} {ok:Bool} (hi:Inv M R) (hs:ShC s ok) (hl:R.length<=1000000):∃ M',Inv M' (Zdf ok R s c)/\ZfQ 7 [.str s,.str c] M (.tup []) M':=by
 obtain ⟨M',h1,h2⟩:=ZBI (c:=c) hi hs hl
 exact ⟨M',h2,Zhn (rest':=[.str s,.str c]) (by rw [h1];exact Zn9 rfl rfl (fun _=>rfl) (by simp)) (by kernel_rfl) rfl rfl (fun _=>rfl)⟩
theorem Zut {M:List Sh} {R:List Mb} {s c:Tx} (hi:Inv M R) (hl:R.length<=1000000):∃ M',Inv M' (R.erase (s,c))/\ZfQ 9 [.str s,.str c] M (.bool (R.contains (s,c))) M':=by
 obtain ⟨M',h1,h2⟩:=ZGC (s:=s) (c:=c) hi hl
 exact ⟨M',h2,Zhn (rest':=[.str s,.str c]) (by rw [h1];exact Zn9 rfl rfl (fun _=>rfl) (by simp)) (by kernel_rfl) rfl rfl (fun _=>rfl)⟩
theorem ZHw {M:List Sh} {R:List Mb} (hi:Inv M R) (s:Tx) (hl:R.length<=1000000):EP 14 [.ref 0 0,.str s] (bk M)=some (.sl 2 0 0 (ZW R s).length,bk M++[Z5.row 0 1 ((ZW R s).map AVal.str)]):=by
 have h:=Zlg (X:=[]) (Y:=[Z5.row 0 1 ((ZW R s).map AVal.str)]) (g:=EI 14) (by rw [Xw];exact ZBC hi s hl) rfl (by simp only [Xp,Xs,ZpX,XaV])
 rw [Xw] at h
 rw [ZDy]
 exact h
theorem ZvU {M:List Sh} {R:List Mb} (hi:Inv M R) (s:Tx) (hl:R.length<=1000000):ZfQ 14 [.str s] M (.lst false ((ZW R s).map AVal.str)) M :=
 Zhn (rest':=[.str s]) (by rw [ZHw hi s hl];exact ZqZ _) (by kernel_rfl) rfl rfl (fun _=>rfl)
def chA (L:List Tx) (d:Int):AVal:=match L[Zb3 d L.length]? with
 | some x=>.tup [.str x,.bool true]
 | none=>.tup [.str [],.bool false]
theorem ZoF (L:List Tx) (d:Int):∃ x b,chA L d=.tup [.str x,.bool b]:=by
 unfold chA
 split
 ·exact ⟨_,_,rfl⟩
 ·exact ⟨_,_,rfl⟩
theorem ZpJ {M:List Sh} {R:List Mb} (hi:Inv M R) (s:Tx) (d:Int) (first but:List Tx) (b1 b2:Bool) (hl:R.length<=1000000) (hf:first.length<=9223372036854775807) (hbt:but.length<=9223372036854775807) :
  ZfQ 18 [.str s,.int .i64 d,.lst b1 (first.map AVal.str),.lst b2 (but.map AVal.str)] M (chA (chL first but (ZW R s)) d) M:=by
 have h:=Zlg (X:=[]) (Y:=[]) (g:=EI 18) (by rw [Xw];exact ZDn hi s d first but false false hl hf hbt) (by split <;> rfl) rfl
 rw [Xw] at h
 rw [<-ZLx] at h
 obtain ⟨x,b,hx⟩:=ZoF (chL first but (ZW R s)) d
 have h':EP 18 [.ref 0 0,.str s,.int .i64 d,.lst false (first.map AVal.str),.lst false (but.map AVal.str)] (bk M)=some (chA (chL first but (ZW R s)) d,bk M):=h
 rw [hx] at h'
 rw [hx]
 exact Zhn (rest:=[.str s,.int .i64 d,.lst b1 (first.map AVal.str),.lst b2 (but.map AVal.str)]) (rest':=[.str s,.int .i64 d,.lst false (first.map AVal.str),.lst false (but.map AVal.str)]) (by rw [h'];exact Zn9 rfl rfl (fun _=>rfl) (by simp)) (by kernel_rfl) rfl rfl (fun _=>rfl)
end
section
def mtT (n:Tx) (s:Tx):Bool:=Zbg (if ZaD s then fil s else []) n
def mtL (M:List Sh) (n:Tx):List Tx:=Zbm ((Zai M).filter (mtT n))
section
variable {M:List Sh} {R:List Mb} (hi:Inv M R) (hl:R.length<=1000000) (hMl:M.length<=1000000)
include hi hl hMl
theorem Zxs (n:Tx) (hM:∀ s ∈ Zai M,s.length*16<=140737488355328 - 64):ZQ EP BY [.var [.map 1],.gmap 1 (GM M),.var [.str n],.free] 3 28 1 false [.ref 0 0,.fn 31 [.ref 2 0]]=some (gvT 3 (mtL M n),[.var [.map 1],.gmap 1 (GM M),.var [.str n]]++(if mtL M n=[] then [.free] else [.row 0 1 ((mtL M n).map AVal.str)]),{ any:=true,upd:=[(0,[.map 1]),(2,[.str n])] }):=by
 have h1:=Zzk hi hl n hM hMl
 have h1':EP 28 [.ref 0 0,.fn 31 [.ref 2 0]] [.var [.map 1],.gmap 1 (GM M),.var [.str n]]=some (gvT 3 (mtL M n),[.var [.map 1],.gmap 1 (GM M),.var [.str n]]++ghT (mtL M n)):=h1
 clear h1
 by_cases hT:mtL M n=[]
 ·unfold gvT ghT at *
  rw [if_pos hT] at h1' ⊢
  rw [if_pos hT] at h1' ⊢
  exact ZfK (O:=EP) (bf:=BY) (σ:=[.var [.map 1],.gmap 1 (GM M),.var [.str n],.free]) (sq:=3) (own:=1) (f:=28) (view:=false) (args:=[.ref 0 0,.fn 31 [.ref 2 0]]) (vs:=[.ref 0 0,.fn 31 [.ref 2 0]]) (vs':=[.ref 0 0,.fn 31 [.ref 2 0]]) (ids:=[0,1,2]) (h0:=[.var [.map 1],.gmap 1 (GM M),.var [.str n]]) (h:=[.var [.map 1],.gmap 1 (GM M),.var [.str n]]) (r:=.lst true []) (by kernel_rfl) rfl (by simp -implicitDefEqProofs only [EQA,Zd,ZP,ZT,Zo,Xw,Xv,XG,Xo,Xm,Xn,Xp,Xs,X8,okB,ZR,ZN,Zc,Zh,Ze,Zb,Zg,Zf,Za4,Zbk,ZbV,ZaM,ZaH,Za1,ZaR,ZaN,Za7,Zal,Zak,Zay,Zaz,Zax,Zbb,Zbc,XT,XU,Xr,Xt,Xx,XC,Wf,X2,X4,Zn,Zi,Zm,Zk,Zj,Zl,Zz,ZG,ZC,Zy,ZE,ZF,ZA,ZB,ZD,implies_true,forall_const,Xh,Xi,Xl,Xe,Xf,Xj,Xk,Zv,Zx,unA,Zt,Zu,unG,reduceCtorEq,Zr,decide_eq_true_eq,Xd,Xb,ite_self,↓reduceIte,Zs,Zw,gcT,gcA,Zq,Zd,Zc,Ze,Zh,Zb,Zg,Zf,Zo,Xc,or_false]) rfl rfl rfl (by simp -implicitDefEqProofs only [EQA,Zd,ZP,ZT,Zo,Xw,Xv,XG,Xo,Xm,Xn,Xp,Xs,X8,okB,ZR,ZN,Zc,Zh,Ze,Zb,Zg,Zf,Za4,Zbk,ZbV,ZaM,ZaH,Za1,ZaR,ZaN,Za7,Zal,Zak,Zay,Zaz,Zax,Zbb,Zbc,XT,XU,Xr,Xt,Xx,XC,Wf,X2,X4,Zn,Zi,Zm,Zk,Zj,Zl,Zz,ZG,ZC,Zy,ZE,ZF,ZA,ZB,ZD,implies_true,forall_const,Xh,Xi,Xl,Xe,Xf,Xj,Xk,Zv,Zx,unA,Zt,Zu,unG,reduceCtorEq,Zr,decide_eq_true_eq,Xd,Xb,ite_self,↓reduceIte,Zs,Zw,gcT,gcA,Zq,Zd,Zc,Ze,Zh,Zb,Zg,Zf,Zo,Xc,or_false]) (by rw [h1'];rfl) (Wn rfl) (Wn rfl) rfl rfl rfl (by simp -implicitDefEqProofs only [EQA,Zd,ZP,ZT,Zo,Xw,Xv,XG,Xo,Xm,Xn,Xp,Xs,X8,okB,ZR,ZN,Zc,Zh,Ze,Zb,Zg,Zf,Za4,Zbk,ZbV,ZaM,ZaH,Za1,ZaR,ZaN,Za7,Zal,Zak,Zay,Zaz,Zax,Zbb,Zbc,XT,XU,Xr,Xt,Xx,XC,Wf,X2,X4,Zn,Zi,Zm,Zk,Zj,Zl,Zz,ZG,ZC,Zy,ZE,ZF,ZA,ZB,ZD,implies_true,forall_const,Xh,Xi,Xl,Xe,Xf,Xj,Xk,Zv,Zx,unA,Zt,Zu,unG,reduceCtorEq,Zr,decide_eq_true_eq,Xd,Xb,ite_self,↓reduceIte,Zs,Zw,gcT,gcA,Zq,Zd,Zc,Ze,Zh,Zb,Zg,Zf,Zo,Xc,or_false]) rfl
 ·unfold gvT ghT at *
  rw [if_neg hT] at h1' ⊢
  rw [if_neg hT] at h1' ⊢
  generalize mtL M n=T at *
  exact ZfK (O:=EP) (bf:=BY) (σ:=[.var [.map 1],.gmap 1 (GM M),.var [.str n],.free]) (sq:=3) (own:=1) (f:=28) (view:=false) (args:=[.ref 0 0,.fn 31 [.ref 2 0]]) (vs:=[.ref 0 0,.fn 31 [.ref 2 0]]) (vs':=[.ref 0 0,.fn 31 [.ref 2 0]]) (ids:=[0,1,2]) (h0:=[.var [.map 1],.gmap 1 (GM M),.var [.str n]]) (h:=[.var [.map 1],.gmap 1 (GM M),.var [.str n],.row 0 1 (T.map AVal.str)]) (r:=.sl 3 0 0 T.length) (by kernel_rfl) rfl (by simp -implicitDefEqProofs only [EQA,Zd,ZP,ZT,Zo,Xw,Xv,XG,Xo,Xm,Xn,Xp,Xs,X8,okB,ZR,ZN,Zc,Zh,Ze,Zb,Zg,Zf,Za4,Zbk,ZbV,ZaM,ZaH,Za1,ZaR,ZaN,Za7,Zal,Zak,Zay,Zaz,Zax,Zbb,Zbc,XT,XU,Xr,Xt,Xx,XC,Wf,X2,X4,Zn,Zi,Zm,Zk,Zj,Zl,Zz,ZG,ZC,Zy,ZE,ZF,ZA,ZB,ZD,implies_true,forall_const,Xh,Xi,Xl,Xe,Xf,Xj,Xk,Zv,Zx,unA,Zt,Zu,unG,reduceCtorEq,Zr,decide_eq_true_eq,Xd,Xb,ite_self,↓reduceIte,Zs,Zw,gcT,gcA,Zq,Zd,Zc,Ze,Zh,Zb,Zg,Zf,Zo,Xc,or_false]) rfl rfl rfl (by simp -implicitDefEqProofs only [EQA,Zd,ZP,ZT,Zo,Xw,Xv,XG,Xo,Xm,Xn,Xp,Xs,X8,okB,ZR,ZN,Zc,Zh,Ze,Zb,Zg,Zf,Za4,Zbk,ZbV,ZaM,ZaH,Za1,ZaR,ZaN,Za7,Zal,Zak,Zay,Zaz,Zax,Zbb,Zbc,XT,XU,Xr,Xt,Xx,XC,Wf,X2,X4,Zn,Zi,Zm,Zk,Zj,Zl,Zz,ZG,ZC,Zy,ZE,ZF,ZA,ZB,ZD,implies_true,forall_const,Xh,Xi,Xl,Xe,Xf,Xj,Xk,Zv,Zx,unA,Zt,Zu,unG,reduceCtorEq,Zr,decide_eq_true_eq,Xd,Xb,ite_self,↓reduceIte,Zs,Zw,gcT,gcA,Zq,Zd,Zc,Ze,Zh,Zb,Zg,Zf,Zo,Xc,or_false]) (by rw [h1'];rfl) (Wn rfl) (Wn rfl) rfl rfl rfl (by simp -implicitDefEqProofs only [EQA,Zd,ZP,ZT,Zo,Xw,Xv,XG,Xo,Xm,Xn,Xp,Xs,X8,okB,ZR,ZN,Zc,Zh,Ze,Zb,Zg,Zf,Za4,Zbk,ZbV,ZaM,ZaH,Za1,ZaR,ZaN,Za7,Zal,Zak,Zay,Zaz,Zax,Zbb,Zbc,XT,XU,Xr,Xt,Xx,XC,Wf,X2,X4,Zn,Zi,Zm,Zk,Zj,Zl,Zz,ZG,ZC,Zy,ZE,ZF,ZA,ZB,ZD,implies_true,forall_const,Xh,Xi,Xl,Xe,Xf,Xj,Xk,Zv,Zx,unA,Zt,Zu,unG,reduceCtorEq,Zr,decide_eq_true_eq,Xd,Xb,ite_self,↓reduceIte,Zs,Zw,gcT,gcA,Zq,Zd,Zc,Ze,Zh,Zb,Zg,Zf,Zo,Xc,or_false]) rfl
theorem ZLK (n:Tx) (hM:∀ s ∈ Zai M,s.length*16<=140737488355328 - 64):EP 16 [.ref 0 0,.str n] (bk M)=some (gvT 2 (mtL M n),bk M++ghT (mtL M n)):=by
 have hS:=Zxs hi hl hMl n hM
 unfold bk
 by_cases hT:mtL M n=[]
 ·unfold gvT ghT at *
  rw [if_pos hT] at hS ⊢
  rw [if_pos hT] at hS ⊢
  simp only [XG,Xv] at hS
  rw [ZjD (by rfl) ZqT]
  simp -implicitDefEqProofs only [EQA,Zn,Zi,Zm,Zk,Zj,Zl,Zz,ZG,ZC,Zy,ZE,ZF,ZA,ZB,ZD,implies_true,forall_const,Xh,Xi,Xl,Xe,Xf,Xj,Xk,Zv,Zx,unA,Zt,Zu,unG,reduceCtorEq,Zr,decide_eq_true_eq,Xd,Xb,ite_self,↓reduceIte,Zs,Zw,gcT,gcA,Zq,Zd,Zc,Ze,Zh,Zb,Zg,Zf,Zo,Xc,Zuy,Zmi,Zu4,Zp,ZI,ZK,ZJ,ZH,ZL,hS,AVal.cells,Zar,Zag,Z0,Zah,Z3,XF,XH,Xp,Xs,Xr,Xt,Zaa,Zae,Zab,Zaf,Zac,Xm,Xn,ZU,ZX,ZV,Z1,Z6,Z4,Z9,Z7,ZZ,Z8,Xy,XA,Xp,Xs,Xo]
  simp -implicitDefEqProofs only [EQA,Zan,gcA,Zq,ZP,Xw,Xv,Xc,XP,XJ,XD,XM,Xm,Xn,Zal,Zak,Zay,Zaz,Zax,XT,XU,id_eq,ZR,Zd,Zo,ZT,Ze,Zf,ZN,Xo,Zc,Zh,Zb,Zg,Zn,Zi,Zm,Zk,Zj,Zl,Zz,ZG,ZC,Zy,ZE,ZF,ZA,ZB,ZD,implies_true,forall_const,Xh,Xi,Xl,Xe,Xf,Xj,Xk,Zv,Zx,unA,Zt,Zu,unG,reduceCtorEq,Zr,decide_eq_true_eq,Xd,Xb,ite_self,↓reduceIte,Zs,Zw,gcT,gcA,Zq,Zd,Zc,Ze,Zh,Zb,Zg,Zf,Zo,Xc,or_false]
 ·unfold gvT ghT at *
  rw [if_neg hT] at hS ⊢
  rw [if_neg hT] at hS ⊢
  generalize mtL M n=T at *
  simp only [XG,Xv] at hS
  rw [ZjD (by rfl) ZqT]
  simp -implicitDefEqProofs only [EQA,Zn,Zi,Zm,Zk,Zj,Zl,Zz,ZG,ZC,Zy,ZE,ZF,ZA,ZB,ZD,implies_true,forall_const,Xh,Xi,Xl,Xe,Xf,Xj,Xk,Zv,Zx,unA,Zt,Zu,unG,reduceCtorEq,Zr,decide_eq_true_eq,Xd,Xb,ite_self,↓reduceIte,Zs,Zw,gcT,gcA,Zq,Zd,Zc,Ze,Zh,Zb,Zg,Zf,Zo,Xc,Zuy,Zmi,Zu4,Zp,ZI,ZK,ZJ,ZH,ZL,hS,AVal.cells,Zar,Zag,Z0,Zah,Z3,XF,XH,Xp,Xs,Xr,Xt,Zaa,Zae,Zab,Zaf,Zac,Xm,Xn,ZU,ZX,ZV,Z1,Z6,Z4,Z9,Z7,ZZ,Z8,Xy,XA,Xp,Xs,Xo]
  simp -implicitDefEqProofs only [EQA,Zan,gcA,Zq,ZP,Xw,Xv,Xc,XP,XJ,XD,XM,Xm,Xn,Zal,Zak,Zay,Zaz,Zax,XT,XU,id_eq,ZR,Zd,Zo,ZT,Ze,Zf,ZN,Xo,Zc,Zh,Zb,Zg,Zn,Zi,Zm,Zk,Zj,Zl,Zz,ZG,ZC,Zy,ZE,ZF,ZA,ZB,ZD,implies_true,forall_const,Xh,Xi,Xl,Xe,Xf,Xj,Xk,Zv,Zx,unA,Zt,Zu,unG,reduceCtorEq,Zr,decide_eq_true_eq,Xd,Xb,ite_self,↓reduceIte,Zs,Zw,gcT,gcA,Zq,Zd,Zc,Ze,Zh,Zb,Zg,Zf,Zo,Xc,or_false,XG]
theorem Zrh (n:Tx) (hM:∀ s ∈ Zai M,s.length*16<=140737488355328 - 64):ZfQ 16 [.str n] M (.lst false ((mtL M n).map AVal.str)) M:=by
 have h:=ZLK hi hl hMl n hM
 refine Zhn (rest:=[.str n]) (rest':=[.str n]) ?_ (by kernel_rfl) rfl rfl (fun _=>rfl)
 rw [h]
 unfold gvT ghT
 by_cases hT:mtL M n=[]
 ·rw [if_pos hT,if_pos hT,hT]
  have ho:=Zko M (.lst false []) rfl (fun _=>rfl)
  unfold Zan at ho
  rw [Xw]
  exact ho
 ·rw [if_neg hT,if_neg hT]
  exact ZqZ _
def goL (M:List Sh) (R:List Mb) (c:Tx):List Tx:=Zbm ((Zai M).filter fun s=>R.contains (s,c))
theorem ZKN (c:Tx):ZQ EP BY [.var [.map 1],.gmap 1 (GM M),.var [.ref 0 0],.var [.str c]] 4 28 0 true [.ref 0 0,.fn 29 [.ref 2 0,.ref 3 0]]=some (.lst false ((goL M R c).map AVal.str),[.var [.map 1],.gmap 1 (GM M),.var [.ref 0 0],.var [.str c]],{ any:=true,upd:=[(0,[.map 1]),(2,[.ref 0 0]),(3,[.str c])] }):=by
 have h1:=ZK7 hi hl c hMl
 have h1':EP 28 [.ref 0 0,.fn 29 [.ref 2 0,.ref 3 0]] [.var [.map 1],.gmap 1 (GM M),.var [.ref 0 0],.var [.str c]]=some (gvT 4 (goL M R c),[.var [.map 1],.gmap 1 (GM M),.var [.ref 0 0],.var [.str c]]++ghT (goL M R c)):=h1
 clear h1
 have hask:ZaG true 4 (some (gvT 4 (goL M R c),[.var [.map 1],.gmap 1 (GM M),.var [.ref 0 0],.var [.str c]]++ghT (goL M R c)))=some (.lst false ((goL M R c).map AVal.str),[.var [.map 1],.gmap 1 (GM M),.var [.ref 0 0],.var [.str c]]):=by
  generalize goL M R c=T
  unfold gvT ghT ZaG
  rw [if_pos rfl]
  by_cases hT:T=[]
  ·subst hT
   rw [if_pos rfl,if_pos rfl]
   have ho:Zan 4 [.var [.map 1],.gmap 1 (GM M),.var [.ref 0 0],.var [.str c]] (.lst false [])=some (.lst false [],[.var [.map 1],.gmap 1 (GM M),.var [.ref 0 0],.var [.str c]]):=by
    simp -implicitDefEqProofs only [EQA,Zan,gcA,Zq,ZP,Xw,Xv,Xc,XP,XJ,XD,XM,Xm,Xn,Zal,Zak,Zay,Zaz,Zax,XT,XU,id_eq,ZR,Zd,Zo,ZT,Ze,Zf,ZN,Xo,Zc,Zh,Zb,Zg,Zn,Zi,Zm,Zk,Zj,Zl,Zz,ZG,ZC,Zy,ZE,ZF,ZA,ZB,ZD,implies_true,forall_const,Xh,Xi,Xl,Xe,Xf,Xj,Xk,Zv,Zx,unA,Zt,Zu,unG,reduceCtorEq,Zr,decide_eq_true_eq,Xd,Xb,ite_self,↓reduceIte,Zs,Zw,gcT,gcA,Zq,Zd,Zc,Ze,Zh,Zb,Zg,Zf,Zo,Xc,or_false]
   unfold Zan at ho
   exact ho
  ·rw [if_neg hT,if_neg hT]
   have he:Zr [.var [.map 1],.gmap 1 (GM M),.var [.ref 0 0],.var [.str c],.row 0 1 (T.map AVal.str)] (.sl 4 0 0 T.length)=some (T.map AVal.str,[4]):=ZpG _ 4 0 T.length false (T.map AVal.str) (by simp) rfl
   show (match viewR [.var [.map 1],.gmap 1 (GM M),.var [.ref 0 0],.var [.str c],.row 0 1 (T.map AVal.str)] (.sl 4 0 0 T.length) with
    | some (r',ts)=>match gcA 4 [r'] (ZS [.var [.map 1],.gmap 1 (GM M),.var [.ref 0 0],.var [.str c],.row 0 1 (T.map AVal.str)] ts) with
     | ([r''],σ')=>some (r'',σ')
     | _=>none
    | none=>none)=_
   simp only [viewR,Zcb,ZbA,he]
   have e3:ZS [.var [.map 1],.gmap 1 (GM M),.var [.ref 0 0],.var [.str c],.row 0 1 (T.map AVal.str)] [4]=[.var [.map 1],.gmap 1 (GM M),.var [.ref 0 0],.var [.str c],.frow 0 1 (T.map AVal.str)]:=rfl
   rw [e3]
   have ho:Zan 4 [.var [.map 1],.gmap 1 (GM M),.var [.ref 0 0],.var [.str c],.frow 0 1 (T.map AVal.str)] (.lst false (T.map AVal.str))=some (.lst false (T.map AVal.str),[.var [.map 1],.gmap 1 (GM M),.var [.ref 0 0],.var [.str c]]):=by
    simp -implicitDefEqProofs only [EQA,Zan,gcA,Zq,ZP,Xw,Xv,Xc,XP,XJ,XD,XM,Xm,Xn,Zal,Zak,Zay,Zaz,Zax,XT,XU,id_eq,ZR,Zd,Zo,ZT,Ze,Zf,ZN,Xo,Zc,Zh,Zb,Zg,Zn,Zi,Zm,Zk,Zj,Zl,Zz,ZG,ZC,Zy,ZE,ZF,ZA,ZB,ZD,implies_true,forall_const,Xh,Xi,Xl,Xe,Xf,Xj,Xk,Zv,Zx,unA,Zt,Zu,unG,reduceCtorEq,Zr,decide_eq_true_eq,Xd,Xb,ite_self,↓reduceIte,Zs,Zw,gcT,gcA,Zq,Zd,Zc,Ze,Zh,Zb,Zg,Zf,Zo,Xc,or_false]
   unfold Zan at ho
   exact ho
 generalize (goL M R c).map AVal.str=S at *
 exact ZfK (O:=EP) (bf:=BY) (σ:=[.var [.map 1],.gmap 1 (GM M),.var [.ref 0 0],.var [.str c]]) (sq:=4) (own:=0) (f:=28) (view:=true) (args:=[.ref 0 0,.fn 29 [.ref 2 0,.ref 3 0]]) (vs:=[.ref 0 0,.fn 29 [.ref 2 0,.ref 3 0]]) (vs':=[.ref 0 0,.fn 29 [.ref 2 0,.ref 3 0]]) (ids:=[0,1,2,3]) (h0:=[.var [.map 1],.gmap 1 (GM M),.var [.ref 0 0],.var [.str c]]) (h:=[.var [.map 1],.gmap 1 (GM M),.var [.ref 0 0],.var [.str c]]) (r:=.lst false S) (by kernel_rfl) rfl (by simp -implicitDefEqProofs only [EQA,Zd,ZP,ZT,Zo,Xw,Xv,XG,Xo,Xm,Xn,Xp,Xs,X8,okB,ZR,ZN,Zc,Zh,Ze,Zb,Zg,Zf,Za4,Zbk,ZbV,ZaM,ZaH,Za1,ZaR,ZaN,Za7,Zal,Zak,Zay,Zaz,Zax,Zbb,Zbc,XT,XU,Xr,Xt,Xx,XC,Wf,X2,X4,Zn,Zi,Zm,Zk,Zj,Zl,Zz,ZG,ZC,Zy,ZE,ZF,ZA,ZB,ZD,implies_true,forall_const,Xh,Xi,Xl,Xe,Xf,Xj,Xk,Zv,Zx,unA,Zt,Zu,unG,reduceCtorEq,Zr,decide_eq_true_eq,Xd,Xb,ite_self,↓reduceIte,Zs,Zw,gcT,gcA,Zq,Zd,Zc,Ze,Zh,Zb,Zg,Zf,Zo,Xc,or_false]) rfl rfl rfl (by simp -implicitDefEqProofs only [EQA,Zd,ZP,ZT,Zo,Xw,Xv,XG,Xo,Xm,Xn,Xp,Xs,X8,okB,ZR,ZN,Zc,Zh,Ze,Zb,Zg,Zf,Za4,Zbk,ZbV,ZaM,ZaH,Za1,ZaR,ZaN,Za7,Zal,Zak,Zay,Zaz,Zax,Zbb,Zbc,XT,XU,Xr,Xt,Xx,XC,Wf,X2,X4,Zn,Zi,Zm,Zk,Zj,Zl,Zz,ZG,ZC,Zy,ZE,ZF,ZA,ZB,ZD,implies_true,forall_const,Xh,Xi,Xl,Xe,Xf,Xj,Xk,Zv,Zx,unA,Zt,Zu,unG,reduceCtorEq,Zr,decide_eq_true_eq,Xd,Xb,ite_self,↓reduceIte,Zs,Zw,gcT,gcA,Zq,Zd,Zc,Ze,Zh,Zb,Zg,Zf,Zo,Xc,or_false]) (by rw [h1'];exact hask) (Wn rfl) (Wn rfl) rfl rfl rfl (by simp -implicitDefEqProofs only [EQA,Zd,ZP,ZT,Zo,Xw,Xv,XG,Xo,Xm,Xn,Xp,Xs,X8,okB,ZR,ZN,Zc,Zh,Ze,Zb,Zg,Zf,Za4,Zbk,ZbV,ZaM,ZaH,Za1,ZaR,ZaN,Za7,Zal,Zak,Zay,Zaz,Zax,Zbb,Zbc,XT,XU,Xr,Xt,Xx,XC,Wf,X2,X4,Zn,Zi,Zm,Zk,Zj,Zl,Zz,ZG,ZC,Zy,ZE,ZF,ZA,ZB,ZD,implies_true,forall_const,Xh,Xi,Xl,Xe,Xf,Xj,Xk,Zv,Zx,unA,Zt,Zu,unG,reduceCtorEq,Zr,decide_eq_true_eq,Xd,Xb,ite_self,↓reduceIte,Zs,Zw,gcT,gcA,Zq,Zd,Zc,Ze,Zh,Zb,Zg,Zf,Zo,Xc,or_false]) rfl
end
end
section
def ZsF:=xwP ZkC Zio rfl
def ZtX:=xwP Zlp Zhy rfl
def Zb6 (R:List Mb) (c:Tx) (T:List Tx):List Mb:=T.foldl (fun R s=>R.erase (s,c)) R
noncomputable def KG (tm:Tms) (σ:Za):Option (AVal×Za):=ZaL 2 ZjX (Zbi FC PRP BY 2 Zlp (Option.map (Za6 0) (evL FC PRP BY 2 [13,12,11,5,3,2] ZkC tm σ)))
theorem ZvY (c:Tx) (T:List Tx) (hT:T.length<=1000000):∀ (r:List Tx) (i:Nat) (M:List Sh) (R:List Mb),T.drop i=r->Inv M R->R.length<=1000000 ->
  ∃ M',Inv M' (Zb6 R c r)/\KG [(13,.int .i64 (i:Int)),(12,.int .i64 (T.length:Int)),(11,.lst false (T.map AVal.str)),(5,.lst false (T.map AVal.str)),(3,.ref 2 0),(2,.ref 3 0)] [.var [.map 1],.gmap 1 (GM M),.var [.str c],.var [.ref 0 0]]=some (.lst false (T.map AVal.str),bk M')
 | [],i,M,R,h,hi,hl=>by
  have h1:=ZbF h
  refine ⟨M,hi,?_⟩
  unfold KG bk
  generalize T.map AVal.str=S at *
  rw [ZY]
  simp -implicitDefEqProofs only [EQA,Zn,Zi,Zm,Zk,Zj,Zl,Zz,ZG,ZC,Zy,ZE,ZF,ZA,ZB,ZD,implies_true,forall_const,Xh,Xi,Xl,Xe,Xf,Xj,Xk,Zv,Zx,unA,Zt,Zu,unG,reduceCtorEq,Zr,decide_eq_true_eq,Xd,Xb,ite_self,↓reduceIte,Zs,Zw,gcT,gcA,Zq,Zd,Zc,Ze,Zh,Zb,Zg,Zf,Zo,Xc,Zqx,ZiO,Zpl,Zqc,Zhy,Zm0,Zio,Zp,ZI,ZK,ZJ,ZH,ZL,ZsF,ZtX,h1]
  simp -implicitDefEqProofs only [EQA,Zan,gcA,Zq,ZP,Xw,Xv,Xc,XP,XJ,XD,XM,Xm,Xn,Zal,Zak,Zay,Zaz,Zax,XT,XU,id_eq,ZR,Zd,Zo,ZT,Ze,Zf,ZN,Xo,Zc,Zh,Zb,Zg,Zn,Zi,Zm,Zk,Zj,Zl,Zz,ZG,ZC,Zy,ZE,ZF,ZA,ZB,ZD,implies_true,forall_const,Xh,Xi,Xl,Xe,Xf,Xj,Xk,Zv,Zx,unA,Zt,Zu,unG,reduceCtorEq,Zr,decide_eq_true_eq,Xd,Xb,ite_self,↓reduceIte,Zs,Zw,gcT,gcA,Zq,Zd,Zc,Ze,Zh,Zb,Zg,Zf,Zo,Xc,or_false]
 | s::r,i,M,R,h,hi,hl=>by
  obtain ⟨M1,i1,hL⟩:=Zut (s:=s) (c:=c) hi hl
  have hl1:(R.erase (s,c)).length<=1000000:=Xao Xaz hl
  obtain ⟨M2,i2,ih⟩:=ZvY c T hT r (i+1) M1 (R.erase (s,c)) (ZaC h).2.1 i1 hl1
  refine ⟨M2,i2,?_⟩
  have h1:(i:Int) < T.length:=by have:=(ZaC h).2.2;omega
  have e1:=iad (ZaC h).1 AVal.str (k:=1) rfl
  have e3:=Zbh h1 (by omega)
  have hC:=fun (σ:Za) (ha:σ[0]?=some (.var [.map 1])) (hg:σ[1]?=some (.gmap 1 (GM M))) sq own hff=>hL σ 0 1 ha hg sq own hff
  generalize R.contains (s,c)=q at *
  unfold KG at ih ⊢
  generalize T.map AVal.str=S at *
  rw [ZY]
  simp -implicitDefEqProofs only [EQA,Zn,Zi,Zm,Zk,Zj,Zl,Zz,ZG,ZC,Zy,ZE,ZF,ZA,ZB,ZD,implies_true,forall_const,Xh,Xi,Xl,Xe,Xf,Xj,Xk,Zv,Zx,unA,Zt,Zu,unG,reduceCtorEq,Zr,decide_eq_true_eq,Xd,Xb,ite_self,↓reduceIte,Zs,Zw,gcT,gcA,Zq,Zd,Zc,Ze,Zh,Zb,Zg,Zf,Zo,Xc,Zqx,ZiO,Zpl,Zqc,Zhy,Zm0,Zio,Zp,ZI,ZK,ZJ,ZH,ZL,ZsF,ZtX,h1,e1,e3,hC,AVal.cells,ZaN,Zag,Z0,Zah,Z3,XF,XH,Xp,Xs,Xr,Xt,Zaa,Zae,Zab,Zaf,Zac,Xm,Xn,ZU,ZX,ZV,Z1,Z6,Z4,Z9,Z7,ZZ,Z8,Xy,XA,Xp,Xs,Xo]
  simp -implicitDefEqProofs only [EQA,Zal,Zak,Zn,Zi,Zm,Zk,Zj,Zl,Zz,ZG,ZC,Zy,ZE,ZF,ZA,ZB,ZD,implies_true,forall_const,Xh,Xi,Xl,Xe,Xf,Xj,Xk,Zv,Zx,unA,Zt,Zu,unG,reduceCtorEq,Zr,decide_eq_true_eq,Xd,Xb,ite_self,↓reduceIte,Zs,Zw,gcT,gcA,Zq,Zd,Zc,Ze,Zh,Zb,Zg,Zf,Zo,Xc]
  exact ih
theorem Ztt (c:Tx):∀ (T:List Tx) (R:List Mb),(Zb6 R c T).length<=R.length
 | [],R=>X5 _
 | s::T,R=>Xao (Ztt c T (R.erase (s,c))) Xaz
theorem Zy1 {M:List Sh} {R:List Mb} (hi:Inv M R) (hl:R.length<=1000000) (hMl:M.length<=1000000) (c:Tx):∃ M',Inv M' (Zb6 R c (goL M R c))/\EP 12 [.ref 0 0,.str c] (bk M)=some (.lst false ((goL M R c).map AVal.str),bk M'):=by
 have hS:=ZKN hi hl hMl c
 have hTl:(goL M R c).length<=1000000:=by
  unfold goL
  rw [(Zhm _).length_eq]
  refine Xao (Xaf _ _) ?_
  have h2:(Zai M).length=M.length:=by unfold Zai;rw [X7]
  omega
 obtain ⟨M',i1,h⟩:=ZvY c (goL M R c) hTl (goL M R c) 0 M R rfl hi hl
 refine ⟨M',i1,?_⟩
 have z0:((0:Nat):Int)=0:=rfl
 rw [z0] at h
 have hLn:((goL M R c).map AVal.str).length=(goL M R c).length:=by simp
 unfold KG bk at *
 generalize (goL M R c).map AVal.str=S at *
 generalize (goL M R c).length=k at *
 rw [ZjD (by rfl) ZKO]
 simp -implicitDefEqProofs only [EQA,Zn,Zi,Zm,Zk,Zj,Zl,Zz,ZG,ZC,Zy,ZE,ZF,ZA,ZB,ZD,implies_true,forall_const,Xh,Xi,Xl,Xe,Xf,Xj,Xk,Zv,Zx,unA,Zt,Zu,unG,reduceCtorEq,Zr,decide_eq_true_eq,Xd,Xb,ite_self,↓reduceIte,Zs,Zw,gcT,gcA,Zq,Zd,Zc,Ze,Zh,Zb,Zg,Zf,Zo,Xc,Zqx,ZiO,Zpl,Zqc,Zhy,Zm0,Zio,Zp,ZI,ZK,ZJ,ZH,ZL,hS,hLn,AVal.cells,Zar,Zag,Z0,Zah,Z3,XF,XH,Xp,Xs,Xr,Xt,Zaa,Zae,Zab,Zaf,Zac,Xm,Xn,ZU,ZX,ZV,Z1,Z6,Z4,Z9,Z7,ZZ,Z8,Xy,XA,Xp,Xs,Xo]
 simp -implicitDefEqProofs only [EQA,Zal,Zak,Zn,Zi,Zm,Zk,Zj,Zl,Zz,ZG,ZC,Zy,ZE,ZF,ZA,ZB,ZD,implies_true,forall_const,Xh,Xi,Xl,Xe,Xf,Xj,Xk,Zv,Zx,unA,Zt,Zu,unG,reduceCtorEq,Zr,decide_eq_true_eq,Xd,Xb,ite_self,↓reduceIte,Zs,Zw,gcT,gcA,Zq,Zd,Zc,Ze,Zh,Zb,Zg,Zf,Zo,Xc]
 exact h
theorem ZFY {M:List Sh} {R:List Mb} (hi:Inv M R) (hl:R.length<=1000000) (hMl:M.length<=1000000) (c:Tx):∃ M',Inv M' (Zb6 R c (goL M R c))/\ZfQ 12 [.str c] M (.lst false ((goL M R c).map AVal.str)) M':=by
 obtain ⟨M',i1,h⟩:=Zy1 hi hl hMl c
 refine ⟨M',i1,Zhn (rest:=[.str c]) (rest':=[.str c]) ?_ (by kernel_rfl) rfl rfl (fun _=>rfl)⟩
 rw [h]
 have ho:=Zko M' (.lst false ((goL M R c).map AVal.str)) rfl (fun _=>rfl)
 unfold Zan at ho
 exact ho
end
section
theorem Zss (a b:List (List UInt8)) (h:a.length=b.length) (hl:a.length<=9223372036854775807):∀ (r s:List (List UInt8)) (i:Nat),a.drop i=r->b.drop i=s->Zku 0 [(5,.int .i64 i),(1,.lst false (b.map AVal.str)),(0,.lst false (a.map AVal.str))] []=some (.bool (r == s),[])
 | [],s,i,ha,hb=>by
  have hs:s=[]:=by
   subst hb;rw [Wl] at ha ⊢;omega
  subst hs
  have h1:=ZbF ha
  unfold Zku
  rw [ZY]
  simp -implicitDefEqProofs only [EQA,Zn,Zi,Zm,Zk,Zj,Zl,Zz,ZG,ZC,Zy,ZE,ZF,ZA,ZB,ZD,implies_true,forall_const,Xh,Xi,Xl,Xe,Xf,Xj,Xk,Zv,Zx,unA,Zt,Zu,unG,reduceCtorEq,Zr,decide_eq_true_eq,Xd,Xb,ite_self,↓reduceIte,Zs,Zw,gcT,gcA,Zq,Zd,Zc,Ze,Zh,Zb,Zg,Zf,Zo,Xc,Zmn,Zht,Zkz,Zk0,Zin,ZlO,ZhN,Zp,ZI,ZK,ZJ,ZH,ZL,h1]
 | x::r,[],i,ha,hb=>by
  have:=(ZaC ha).2.2;rw [Wl] at hb;omega
 | x::r,y::s,i,ha,hb=>by
  have ih:=Zss a b h hl r s (i+1) (ZaC ha).2.1 (ZaC hb).2.1
  have h1:(i:Int) < a.length:=by have:=(ZaC ha).2.2;omega
  have e1:=iad (ZaC ha).1 AVal.str (k:=1) rfl
  have e2:=iad (ZaC hb).1 AVal.str (k:=1) rfl
  have e3:=Zbh h1 hl
  unfold Zku at ih ⊢
  rw [ZY]
  simp -implicitDefEqProofs only [EQA,Zn,Zi,Zm,Zk,Zj,Zl,Zz,ZG,ZC,Zy,ZE,ZF,ZA,ZB,ZD,implies_true,forall_const,Xh,Xi,Xl,Xe,Xf,Xj,Xk,Zv,Zx,unA,Zt,Zu,unG,reduceCtorEq,Zr,decide_eq_true_eq,Xd,Xb,ite_self,↓reduceIte,Zs,Zw,gcT,gcA,Zq,Zd,Zc,Ze,Zh,Zb,Zg,Zf,Zo,Xc,Zmn,Zht,Zkz,Zk0,Zin,ZlO,ZhN,Zp,ZI,ZK,ZJ,ZH,ZL,h1,e1,e2,e3]
  rw [ih]
  by_cases hx:x=y <;> simp [hx]
theorem ZES (a b:List (List UInt8)) (hl:a.length<=9223372036854775807):E 11 [.lst false (a.map AVal.str),.lst false (b.map AVal.str)] []=some (.bool (a == b),[]):=by
 rw [ZaJ (by rfl) Zy3]
 by_cases h:a.length=b.length
 ·have:=Zss a b h hl a b 0 rfl rfl
  unfold Zku at this
  have z0:((0:Nat):Int)=0:=rfl
  rw [z0] at this
  have e:=ZIm h
  simp -implicitDefEqProofs only [EQA,Zn,Zi,Zm,Zk,Zj,Zl,Zz,ZG,ZC,Zy,ZE,ZF,ZA,ZB,ZD,implies_true,forall_const,Xh,Xi,Xl,Xe,Xf,Xj,Xk,Zv,Zx,unA,Zt,Zu,unG,reduceCtorEq,Zr,decide_eq_true_eq,Xd,Xb,ite_self,↓reduceIte,Zs,Zw,gcT,gcA,Zq,Zd,Zc,Ze,Zh,Zb,Zg,Zf,Zo,Xc,Zmn,Zht,Zkz,Zk0,Zin,ZlO,ZhN,Zp,ZI,ZK,ZJ,ZH,ZL,e]
  exact this
 ·have e:=Zxg h
  simp -implicitDefEqProofs only [EQA,Zn,Zi,Zm,Zk,Zj,Zl,Zz,ZG,ZC,Zy,ZE,ZF,ZA,ZB,ZD,implies_true,forall_const,Xh,Xi,Xl,Xe,Xf,Xj,Xk,Zv,Zx,unA,Zt,Zu,unG,reduceCtorEq,Zr,decide_eq_true_eq,Xd,Xb,ite_self,↓reduceIte,Zs,Zw,gcT,gcA,Zq,Zd,Zc,Ze,Zh,Zb,Zg,Zf,Zo,Xc,Zmn,Zht,Zkz,Zk0,Zin,ZlO,ZhN,Zp,ZI,ZK,ZJ,ZH,ZL,e,Zzq h]
theorem ZFh (a b:List Tx) (x y:Bool) (hl:a.length<=9223372036854775807) (σ:Za) (sq own:Nat):ZQ E BY σ sq 11 own true [.lst x (a.map AVal.str),.lst y (b.map AVal.str)]=some (.bool (a == b),σ,{}) :=
 ZfF (ZES a b hl) (by kernel_rfl) rfl rfl rfl (fun _=>rfl) σ sq own
end
section
def mbV (q:Mb):AVal:=.agg [.str q.1,.str q.2]
theorem Zta (l:List Mb):kOk 2 (l.map mbV)=true:=by cases l <;> rfl
def rk (R:List Mb):Za:=[.var [.sl 1 0 0 R.length],.row 0 2 (R.map mbV)]
def atI (q:Mb):Nat->List Mb->Int
 | _,[]=>-1
 | i,x::r=>if (x.1 == q.1 && x.2 == q.2)=true then (i:Int) else atI q (i+1) r
section
variable {R:List Mb} {i:Nat} {x:Mb}
theorem Zjg (h:R[i]?=some x) {σ:Za} (hs:σ[1]?=some (.row 0 2 (R.map mbV))):ZbN σ 2 (.sl 1 0 0 R.length) (.int .i64 (i:Int))=some (.eref 1 0 i 0,σ,{ rd:=[1] }):=by
 have l1:i < R.length:=(Xu.1 h).1
 simp [ZbN,hs,l1]
theorem ZiK (h:R[i]?=some x):(R.map mbV)[i]?=some (.agg [.str x.1,.str x.2]):=by
 rw [List.getElem?_map,h];rfl
end
theorem Zra (R:List Mb) (hl:R.length<=9223372036854775807) (q:Mb):∀ (r:List Mb) (i:Nat),R.drop i=r ->
  ZkI 2 [(7,.int .i64 (i:Int)),(2,.str q.2),(1,.str q.1),(0,.ref 0 0)] (rk R)=some (.int .i64 (atI q i r),rk R)
 | [],i,h=>by
  have h1:=ZbF h
  unfold ZkI rk atI
  generalize R.map mbV=S at *
  rw [ZY]
  simp -implicitDefEqProofs only [EQA,Zn,Zi,Zm,Zk,Zj,Zl,Zz,ZG,ZC,Zy,ZE,ZF,ZA,ZB,ZD,implies_true,forall_const,Xh,Xi,Xl,Xe,Xf,Xj,Xk,Zv,Zx,unA,Zt,Zu,unG,reduceCtorEq,Zr,decide_eq_true_eq,Xd,Xb,ite_self,↓reduceIte,Zs,Zw,gcT,gcA,Zq,Zd,Zc,Ze,Zh,Zb,Zg,Zf,Zo,Xc,Ziy,ZgI,ZiM,Ziz,ZgT,ZjR,Zgs,Zp,ZI,ZK,ZJ,ZH,ZL,h1,AVal.cells,Zag,Z0,Zah,Z3,XF,XH,Xp,Xs,Xr,Xt,Zaa,Zae,Zab,Zaf,Zac,Xm,Xn,ZU,ZX,ZV,Z1,Z6,Z4,Z9,Z7,ZZ,Z8,Xy,XA,Xp,Xs,Xo]
  simp -implicitDefEqProofs only [EQA,Zan,gcA,Zq,ZP,Xw,Xv,Xc,XP,XJ,XD,XM,Xm,Xn,Zal,Zak,Zay,Zaz,Zax,XT,XU,id_eq,ZR,Zd,Zo,ZT,Ze,Zf,ZN,Xo,Zc,Zh,Zb,Zg,Zn,Zi,Zm,Zk,Zj,Zl,Zz,ZG,ZC,Zy,ZE,ZF,ZA,ZB,ZD,implies_true,forall_const,Xh,Xi,Xl,Xe,Xf,Xj,Xk,Zv,Zx,unA,Zt,Zu,unG,reduceCtorEq,Zr,decide_eq_true_eq,Xd,Xb,ite_self,↓reduceIte,Zs,Zw,gcT,gcA,Zq,Zd,Zc,Ze,Zh,Zb,Zg,Zf,Zo,Xc,or_false]
 | x::r,i,h=>by
  have ih:=Zra R hl q r (i+1) (ZaC h).2.1
  obtain ⟨g1,d1,l1⟩:=ZaC h
  have h1:(i:Int) < R.length:=by omega
  have e3:=Zbh h1 hl
  have hel:=fun {σ:Za} hs=>Zjg g1 (σ:=σ) hs
  have hXi:=ZiK g1
  unfold ZkI rk at *
  generalize R.map mbV=S at *
  unfold atI
  cases h2:(x.1 == q.1)
  ·rw [if_neg (by simp)]
   rw [ZY]
   simp -implicitDefEqProofs only [EQA,Zn,Zi,Zm,Zk,Zj,Zl,Zz,ZG,ZC,Zy,ZE,ZF,ZA,ZB,ZD,implies_true,forall_const,Xh,Xi,Xl,Xe,Xf,Xj,Xk,Zv,Zx,unA,Zt,Zu,unG,reduceCtorEq,Zr,decide_eq_true_eq,Xd,Xb,ite_self,↓reduceIte,Zs,Zw,gcT,gcA,Zq,Zd,Zc,Ze,Zh,Zb,Zg,Zf,Zo,Xc,Ziy,ZgI,ZiM,Ziz,ZgT,ZjR,Zgs,Zp,ZI,ZK,ZJ,ZH,ZL,h1,e3,hel,hXi,h2,AVal.cells,Zag,Z0,Zah,Z3,XF,XH,Xp,Xs,Xr,Xt,Zaa,Zae,Zab,Zaf,Zac,Xm,Xn,ZU,ZX,ZV,Z1,Z6,Z4,Z9,Z7,ZZ,Z8,Xy,XA,Xp,Xs,Xo]
   exact ih
  ·cases h3:(x.2 == q.2)
   ·rw [if_neg (by simp)]
    rw [ZY]
    simp -implicitDefEqProofs only [EQA,Zn,Zi,Zm,Zk,Zj,Zl,Zz,ZG,ZC,Zy,ZE,ZF,ZA,ZB,ZD,implies_true,forall_const,Xh,Xi,Xl,Xe,Xf,Xj,Xk,Zv,Zx,unA,Zt,Zu,unG,reduceCtorEq,Zr,decide_eq_true_eq,Xd,Xb,ite_self,↓reduceIte,Zs,Zw,gcT,gcA,Zq,Zd,Zc,Ze,Zh,Zb,Zg,Zf,Zo,Xc,Ziy,ZgI,ZiM,Ziz,ZgT,ZjR,Zgs,Zp,ZI,ZK,ZJ,ZH,ZL,h1,e3,hel,hXi,h2,h3,AVal.cells,Zag,Z0,Zah,Z3,XF,XH,Xp,Xs,Xr,Xt,Zaa,Zae,Zab,Zaf,Zac,Xm,Xn,ZU,ZX,ZV,Z1,Z6,Z4,Z9,Z7,ZZ,Z8,Xy,XA,Xp,Xs,Xo]
    exact ih
   ·rw [if_pos (by simp)]
    rw [ZY]
    simp -implicitDefEqProofs only [EQA,Zn,Zi,Zm,Zk,Zj,Zl,Zz,ZG,ZC,Zy,ZE,ZF,ZA,ZB,ZD,implies_true,forall_const,Xh,Xi,Xl,Xe,Xf,Xj,Xk,Zv,Zx,unA,Zt,Zu,unG,reduceCtorEq,Zr,decide_eq_true_eq,Xd,Xb,ite_self,↓reduceIte,Zs,Zw,gcT,gcA,Zq,Zd,Zc,Ze,Zh,Zb,Zg,Zf,Zo,Xc,Ziy,ZgI,ZiM,Ziz,ZgT,ZjR,Zgs,Zp,ZI,ZK,ZJ,ZH,ZL,h1,e3,hel,hXi,h2,h3,AVal.cells,Zag,Z0,Zah,Z3,XF,XH,Xp,Xs,Xr,Xt,Zaa,Zae,Zab,Zaf,Zac,Xm,Xn,ZU,ZX,ZV,Z1,Z6,Z4,Z9,Z7,ZZ,Z8,Xy,XA,Xp,Xs,Xo]
    simp -implicitDefEqProofs only [EQA,Zan,gcA,Zq,ZP,Xw,Xv,Xc,XP,XJ,XD,XM,Xm,Xn,Zal,Zak,Zay,Zaz,Zax,XT,XU,id_eq,ZR,Zd,Zo,ZT,Ze,Zf,ZN,Xo,Zc,Zh,Zb,Zg,Zn,Zi,Zm,Zk,Zj,Zl,Zz,ZG,ZC,Zy,ZE,ZF,ZA,ZB,ZD,implies_true,forall_const,Xh,Xi,Xl,Xe,Xf,Xj,Xk,Zv,Zx,unA,Zt,Zu,unG,reduceCtorEq,Zr,decide_eq_true_eq,Xd,Xb,ite_self,↓reduceIte,Zs,Zw,gcT,gcA,Zq,Zd,Zc,Ze,Zh,Zb,Zg,Zf,Zo,Xc,or_false]
theorem ZHt (R:List Mb) (hl:R.length<=9223372036854775807) (q:Mb):E 24 [.ref 0 0,.str q.1,.str q.2] (rk R)=some (.int .i64 (atI q 0 R),rk R):=by
 have h:=Zra R hl q R 0 rfl
 have z0:((0:Nat):Int)=0:=rfl
 rw [z0] at h
 unfold ZkI rk at *
 generalize R.map mbV=S at *
 rw [ZaJ (by rfl) ZAg]
 simp -implicitDefEqProofs only [EQA,Zn,Zi,Zm,Zk,Zj,Zl,Zz,ZG,ZC,Zy,ZE,ZF,ZA,ZB,ZD,implies_true,forall_const,Xh,Xi,Xl,Xe,Xf,Xj,Xk,Zv,Zx,unA,Zt,Zu,unG,reduceCtorEq,Zr,decide_eq_true_eq,Xd,Xb,ite_self,↓reduceIte,Zs,Zw,gcT,gcA,Zq,Zd,Zc,Ze,Zh,Zb,Zg,Zf,Zo,Xc,Ziy,ZgI,ZiM,Ziz,ZgT,ZjR,Zgs,Zp,ZI,ZK,ZJ,ZH,ZL,AVal.cells]
 exact h
theorem ZoQ {q:Mb}:∀ (R:List Mb) (i:Nat),R.contains q=false->atI q i R=-1
 | [],i,_=>rfl
 | x::r,i,h=>by
  rw [Wo,WN] at h
  unfold atI
  have : (x.1 == q.1 && x.2 == q.2)=false:=by
   rw [<-Xd]
   intro e
   rw [XE] at e
   have e1:=eq_of_beq e.1
   have e2:=eq_of_beq e.2
   have : q=x:=by
    obtain ⟨a,b⟩:=x
    obtain ⟨c,d⟩:=q
    simp only at e1 e2
    rw [e1,e2]
   rw [this] at h
   simp at h
  rw [this,if_neg (by simp)]
  exact ZoQ r (i+1) h.2
theorem Zor {q:Mb}:∀ (R:List Mb) (i:Nat),R.contains q=true->∃ j,j < R.length/\atI q i R=((i+j:Nat):Int)/\R.eraseIdx j=R.erase q
 | [],i,h=>by simp at h
 | x::r,i,h=>by
  unfold atI
  by_cases e:x=q
  ·subst e
   exact ⟨0,by simp,by simp,by simp⟩
  ·have e1:(x.1 == q.1 && x.2 == q.2)=false:=by
    rw [<-Xd]
    intro e'
    rw [XE] at e'
    exact e (Prod.ext (eq_of_beq e'.1) (eq_of_beq e'.2))
   have e2:(q == x)=false:=by simpa using fun h=>e h.symm
   have e3:(x == q)=false:=by simpa using e
   rw [Wo,e2,Bool.false_or] at h
   obtain ⟨j,h1,h2,h3⟩:=Zor r (i+1) h
   refine ⟨j+1,by simp;omega,?_,?_⟩
   ·rw [e1,if_neg (by simp),h2]
    congr 1;omega
   ·rw [List.eraseIdx_cons_succ,List.erase_cons,e3,if_neg (by simp),h3]
end
section
def ZlL (s:Tx) (ok:Bool):Prop:=∃ a b:Tx,∀ (σ:Za) (sq own:Nat),ZQ E BY σ sq 23 own true [.str s]=some (.tup [.str a,.str b,.bool ok],σ,{})
theorem Zkp (R:List Mb) (hl:R.length<=9223372036854775807) (s c:Tx) (sq:Nat):ZQ E BY [.var [.sl 1 0 0 R.length],.row 0 2 (R.map mbV)] sq 24 0 true [.ref 0 0,.str s,.str c]=some (.int .i64 (atI (s,c) 0 R),[.var [.sl 1 0 0 R.length],.row 0 2 (R.map mbV)],{ any:=true,upd:=[(0,[.sl 1 0 0 R.length])] }):=by
 have h1:=ZHt R hl (s,c)
 unfold rk at h1
 exact ZfK (vs:=[.ref 0 0,.str s,.str c]) (vs':=[.ref 0 0,.str s,.str c]) (ids:=[0,1]) (h0:=[.var [.sl 1 0 0 R.length],.row 0 2 (R.map mbV)]) (h:=[.var [.sl 1 0 0 R.length],.row 0 2 (R.map mbV)]) (r:=.int .i64 (atI (s,c) 0 R)) (by kernel_rfl) rfl rfl rfl rfl rfl rfl (by rw [h1];rfl) (X5 _) (X5 _) rfl rfl rfl rfl rfl
section
variable {s c:Tx} {R:List Mb} (hl:R.length<=1000000)
include hl
theorem Zyv (hs:ZlL s false):E 8 [.ref 0 0,.str s,.str c] (rk R)=some (.tup [],rk R):=by
 obtain ⟨a,b,hS⟩:=hs
 unfold rk
 generalize R.map mbV=S at *
 rw [ZaJ (by rfl) Zpj]
 simp -implicitDefEqProofs only [EQA,Zn,Zi,Zm,Zk,Zj,Zl,Zz,ZG,ZC,Zy,ZE,ZF,ZA,ZB,ZD,implies_true,forall_const,Xh,Xi,Xl,Xe,Xf,Xj,Xk,Zv,Zx,unA,Zt,Zu,unG,reduceCtorEq,Zr,decide_eq_true_eq,Xd,Xb,ite_self,↓reduceIte,Zs,Zw,gcT,gcA,Zq,Zd,Zc,Ze,Zh,Zb,Zg,Zf,Zo,Xc,ZnT,ZiX,Zn6,Zp,ZI,ZK,ZJ,ZH,ZL,hS,AVal.cells,Zag,Z0,Zah,Z3,XF,XH,Xp,Xs,Xr,Xt,Zaa,Zae,Zab,Zaf,Zac,Xm,Xn,ZU,ZX,ZV,Z1,Z6,Z4,Z9,Z7,ZZ,Z8,Xy,XA,Xp,Xs,Xo]
 simp -implicitDefEqProofs only [EQA,Zan,gcA,Zq,ZP,Xw,Xv,Xc,XP,XJ,XD,XM,Xm,Xn,Zal,Zak,Zay,Zaz,Zax,XT,XU,id_eq,ZR,Zd,Zo,ZT,Ze,Zf,ZN,Xo,Zc,Zh,Zb,Zg,Zn,Zi,Zm,Zk,Zj,Zl,Zz,ZG,ZC,Zy,ZE,ZF,ZA,ZB,ZD,implies_true,forall_const,Xh,Xi,Xl,Xe,Xf,Xj,Xk,Zv,Zx,unA,Zt,Zu,unG,reduceCtorEq,Zr,decide_eq_true_eq,Xd,Xb,ite_self,↓reduceIte,Zs,Zw,gcT,gcA,Zq,Zd,Zc,Ze,Zh,Zb,Zg,Zf,Zo,Xc,or_false]
theorem ZBK (hs:ZlL s true) (hc:R.contains (s,c)=true):E 8 [.ref 0 0,.str s,.str c] (rk R)=some (.tup [],rk R):=by
 obtain ⟨a,b,hS⟩:=hs
 have hA:=Zkp R (by omega) s c
 obtain ⟨j,_,h2,_⟩:=Zor (q:=(s,c)) R 0 hc
 rw [h2] at hA
 have w1:¬(((0+j:Nat):Int) < 0):=by omega
 unfold rk
 generalize R.map mbV=S at *
 generalize ((0+j:Nat):Int)=z at *
 rw [ZaJ (by rfl) Zpj]
 simp -implicitDefEqProofs only [EQA,Zn,Zi,Zm,Zk,Zj,Zl,Zz,ZG,ZC,Zy,ZE,ZF,ZA,ZB,ZD,implies_true,forall_const,Xh,Xi,Xl,Xe,Xf,Xj,Xk,Zv,Zx,unA,Zt,Zu,unG,reduceCtorEq,Zr,decide_eq_true_eq,Xd,Xb,ite_self,↓reduceIte,Zs,Zw,gcT,gcA,Zq,Zd,Zc,Ze,Zh,Zb,Zg,Zf,Zo,Xc,ZnT,ZiX,Zn6,Zp,ZI,ZK,ZJ,ZH,ZL,hS,hA,w1,AVal.cells,Zag,Z0,Zah,Z3,XF,XH,Xp,Xs,Xr,Xt,Zaa,Zae,Zab,Zaf,Zac,Xm,Xn,ZU,ZX,ZV,Z1,Z6,Z4,Z9,Z7,ZZ,Z8,Xy,XA,Xp,Xs,Xo]
 simp -implicitDefEqProofs only [EQA,Zan,gcA,Zq,ZP,Xw,Xv,Xc,XP,XJ,XD,XM,Xm,Xn,Zal,Zak,Zay,Zaz,Zax,XT,XU,id_eq,ZR,Zd,Zo,ZT,Ze,Zf,ZN,Xo,Zc,Zh,Zb,Zg,Zn,Zi,Zm,Zk,Zj,Zl,Zz,ZG,ZC,Zy,ZE,ZF,ZA,ZB,ZD,implies_true,forall_const,Xh,Xi,Xl,Xe,Xf,Xj,Xk,Zv,Zx,unA,Zt,Zu,unG,reduceCtorEq,Zr,decide_eq_true_eq,Xd,Xb,ite_self,↓reduceIte,Zs,Zw,gcT,gcA,Zq,Zd,Zc,Ze,Zh,Zb,Zg,Zf,Zo,Xc,or_false]
theorem ZIJ (hs:ZlL s true) (hc:R.contains (s,c)=false):E 8 [.ref 0 0,.str s,.str c] (rk R)=some (.tup [],[.var [.sl 1 1 0 (R.length+1)],.row 1 2 ((R++[(s,c)]).map mbV)]):=by
 obtain ⟨a,b,hS⟩:=hs
 have hA:=Zkp R (by omega) s c
 rw [ZoQ R 0 hc] at hA
 have w1:((-1:Int) < 0):=by decide
 have hm:(R.map mbV).length=R.length:=by simp
 have b1:(R.length+1)*32<=140737488355328:=by omega
 have e1:(R++[(s,c)]).map mbV=R.map mbV++[.agg [.str s,.str c]]:=by rw [Wm];rfl
 have hv:∀ σ:Za,viewAs σ [.agg [.str s,.str c]]=some ([.agg [.str s,.str c]],[]):=fun _=>rfl
 have hk:kOk 2 [.agg [.str s,.str c]]=true:=rfl
 unfold rk
 rw [e1]
 generalize R.map mbV=S at *
 generalize R.length=n at *
 rw [ZaJ (by rfl) Zpj]
 simp -implicitDefEqProofs only [EQA,Zn,Zi,Zm,Zk,Zj,Zl,Zz,ZG,ZC,Zy,ZE,ZF,ZA,ZB,ZD,implies_true,forall_const,Xh,Xi,Xl,Xe,Xf,Xj,Xk,Zv,Zx,unA,Zt,Zu,unG,reduceCtorEq,Zr,decide_eq_true_eq,Xd,Xb,ite_self,↓reduceIte,Zs,Zw,gcT,gcA,Zq,Zd,Zc,Ze,Zh,Zb,Zg,Zf,Zo,Xc,ZnT,ZiX,Zn6,Zp,ZI,ZK,ZJ,ZH,ZL,hS,hA,w1,hm,b1,hv,hk,AVal.cells,ZS,ZaI,XQ,Wy,XR,X9,ZcT,Zar,Zag,Z0,Zah,Z3,XF,XH,Xp,Xs,Xr,Xt,Zaa,Zae,Zab,Zaf,Zac,Xm,Xn,ZU,ZX,ZV,Z1,Z6,Z4,Z9,Z7,ZZ,Z8,Xy,XA,Xp,Xs,Xo]
 simp -implicitDefEqProofs only [EQA,Zan,gcA,Zq,ZP,Xw,Xv,Xc,XP,XJ,XD,XM,Xm,Xn,Zal,Zak,Zay,Zaz,Zax,XT,XU,id_eq,ZR,Zd,Zo,ZT,Ze,Zf,ZN,Xo,Zc,Zh,Zb,Zg,Zn,Zi,Zm,Zk,Zj,Zl,Zz,ZG,ZC,Zy,ZE,ZF,ZA,ZB,ZD,implies_true,forall_const,Xh,Xi,Xl,Xe,Xf,Xj,Xk,Zv,Zx,unA,Zt,Zu,unG,reduceCtorEq,Zr,decide_eq_true_eq,Xd,Xb,ite_self,↓reduceIte,Zs,Zw,gcT,gcA,Zq,Zd,Zc,Ze,Zh,Zb,Zg,Zf,Zo,Xc,or_false]
theorem ZLk (hc:R.contains (s,c)=false):E 10 [.ref 0 0,.str s,.str c] (rk R)=some (.bool false,rk R):=by
 have hA:=Zkp R (by omega) s c
 rw [ZoQ R 0 hc] at hA
 have w1:((-1:Int) < 0):=by decide
 unfold rk
 generalize R.map mbV=S at *
 rw [ZaJ (by rfl) Zrt]
 simp -implicitDefEqProofs only [EQA,Zn,Zi,Zm,Zk,Zj,Zl,Zz,ZG,ZC,Zy,ZE,ZF,ZA,ZB,ZD,implies_true,forall_const,Xh,Xi,Xl,Xe,Xf,Xj,Xk,Zv,Zx,unA,Zt,Zu,unG,reduceCtorEq,Zr,decide_eq_true_eq,Xd,Xb,ite_self,↓reduceIte,Zs,Zw,gcT,gcA,Zq,Zd,Zc,Ze,Zh,Zb,Zg,Zf,Zo,Xc,ZtI,Zl2,Zun,Zp,ZI,ZK,ZJ,ZH,ZL,hA,w1,AVal.cells,Zag,Z0,Zah,Z3,XF,XH,Xp,Xs,Xr,Xt,Zaa,Zae,Zab,Zaf,Zac,Xm,Xn,ZU,ZX,ZV,Z1,Z6,Z4,Z9,Z7,ZZ,Z8,Xy,XA,Xp,Xs,Xo]
 simp -implicitDefEqProofs only [EQA,Zan,gcA,Zq,ZP,Xw,Xv,Xc,XP,XJ,XD,XM,Xm,Xn,Zal,Zak,Zay,Zaz,Zax,XT,XU,id_eq,ZR,Zd,Zo,ZT,Ze,Zf,ZN,Xo,Zc,Zh,Zb,Zg,Zn,Zi,Zm,Zk,Zj,Zl,Zz,ZG,ZC,Zy,ZE,ZF,ZA,ZB,ZD,implies_true,forall_const,Xh,Xi,Xl,Xe,Xf,Xj,Xk,Zv,Zx,unA,Zt,Zu,unG,reduceCtorEq,Zr,decide_eq_true_eq,Xd,Xb,ite_self,↓reduceIte,Zs,Zw,gcT,gcA,Zq,Zd,Zc,Ze,Zh,Zb,Zg,Zf,Zo,Xc,or_false]
end
theorem Zmy {σ:Za} {t p n:Nat} {xs:List AVal} (hs:σ[t]?=some (.row 0 2 xs)) (hn:p+n<=xs.length):Zr σ (.sl t 0 p n)=some ((xs.drop p).take n,[t]):=by
 simp only [Zr,hs]
 rw [if_pos ⟨trivial,hn⟩]
theorem ZyL {s c:Tx} {R:List Mb} (hl:R.length<=1000000) (hc:R.contains (s,c)=true):E 10 [.ref 0 0,.str s,.str c] (rk R)=some (.bool true,[.var [.sl 2 0 0 (R.erase (s,c)).length],.row 0 2 (R.map mbV),.row 0 2 ((R.erase (s,c)).map mbV)]):=by
 have hA:=Zkp R (by omega) s c
 obtain ⟨j,h1,h2,h3⟩:=Zor (q:=(s,c)) R 0 hc
 rw [h2,XX] at hA
 rw [<-h3]
 have w1:¬((j:Int) < 0):=by omega
 have e3:=Zbh (i:=j) (n:=R.length) (by omega) (by omega)
 have hm:(R.map mbV).length=R.length:=by simp
 have g2:∀ {σ:Za},σ[1]?=some (.row 0 2 (R.map mbV))->Zbq σ 2 (.sl 1 0 0 R.length) none (some (.int .i64 (j:Int))) none=some (.sl 1 0 0 j,σ,{ rd:=[1] }):=by
  intro σ hs
  simp only [Zbq,Zmy hs (show 0+R.length<=(R.map mbV).length by omega),hs,ZaQ,Nat.add_zero,Nat.sub_zero,if_true,Zd1 (show j<=(R.map mbV).length by omega)]
 have g3:∀ {σ:Za},σ[1]?=some (.row 0 2 (R.map mbV))->Zbq σ 2 (.sl 1 0 0 R.length) (some (.int .i64 ((j+1:Nat):Int))) none none=some (.sl 1 0 (j+1) (R.length - (j+1)),σ,{ rd:=[1] }):=by
  intro σ hs
  simp only [Zbq,Zmy hs (show 0+R.length<=(R.map mbV).length by omega),hs,ZaQ,Zd1 (show j+1<=R.length by omega),XX,if_true]
 have t1:((R.map mbV).drop 0).take j=(R.take j).map mbV:=by rw [XaX,Xbh]
 have t2:((R.map mbV).drop (j+1)).take (R.length - (j+1))=(R.drop (j+1)).map mbV:=by rw [<-XbE,Wc (by simp)]
 have a1:∀ {σ:Za} {sq:Nat},σ[1]?=some (.row 0 2 (R.map mbV))->ZaI σ sq 2 32 (.lst true []) (.sl 1 0 0 j)=some (.sl sq 0 0 j,σ.set sq (.row 0 2 ((R.take j).map mbV)),{ rd:=[1] }):=by
  intro σ sq hs
  have hl1:((R.take j).map mbV).length=j:=by simp;omega
  unfold ZaI
  rw [Zmy hs (show 0+j<=(R.map mbV).length by omega),t1]
  simp only [Zta,if_true,hl1]
  rw [if_pos (by omega)]
 have a2:∀ {σ:Za} {sq:Nat},σ[1]?=some (.row 0 2 (R.map mbV))->σ[2]?=some (.row 0 2 ((R.take j).map mbV))->ZaI σ sq 2 32 (.sl 2 0 0 j) (.sl 1 0 (j+1) (R.length - (j+1)))=some (.sl 2 1 0 (R.eraseIdx j).length,σ.set 2 (.row 1 2 ((R.eraseIdx j).map mbV)),{ rd:=[1],wr:=[2] }):=by
  intro σ sq hs hs2
  have hl1:((R.take j).map mbV).length=j:=by simp;omega
  have hl2:((R.drop (j+1)).map mbV).length=R.length - (j+1):=by simp
  have hl3:j+(R.length - (j+1))=(R.eraseIdx j).length:=by rw [List.length_eraseIdx,if_pos h1];omega
  unfold ZaI
  rw [Zmy hs (show j+1+(R.length - (j+1))<=(R.map mbV).length by omega),t2]
  simp only [Zta,if_true,hs2,hl1,hl2]
  rw [if_pos ⟨trivial,trivial,trivial,by omega⟩,hl3,List.eraseIdx_eq_take_drop_succ,Wm]
 unfold rk
 generalize R.map mbV=S at *
 generalize (R.take j).map mbV=T at *
 generalize (R.eraseIdx j).map mbV=V at *
 generalize (R.eraseIdx j).length=k at *
 rw [ZaJ (by rfl) Zrt]
 simp -implicitDefEqProofs only [EQA,Zn,Zi,Zm,Zk,Zj,Zl,Zz,ZG,ZC,Zy,ZE,ZF,ZA,ZB,ZD,implies_true,forall_const,Xh,Xi,Xl,Xe,Xf,Xj,Xk,Zv,Zx,unA,Zt,Zu,unG,reduceCtorEq,Zr,decide_eq_true_eq,Xd,Xb,ite_self,↓reduceIte,Zs,Zw,gcT,gcA,Zq,Zd,Zc,Ze,Zh,Zb,Zg,Zf,Zo,Xc,ZtI,Zl2,Zun,Zp,ZI,ZK,ZJ,ZH,ZL,hA,w1,e3,g2,g3,a1,a2,AVal.cells,Zar,Zag,Z0,Zah,Z3,XF,XH,Xp,Xs,Xr,Xt,Zaa,Zae,Zab,Zaf,Zac,Xm,Xn,ZU,ZX,ZV,Z1,Z6,Z4,Z9,Z7,ZZ,Z8,Xy,XA,Xp,Xs,Xo]
 simp -implicitDefEqProofs only [EQA,Zan,gcA,Zq,ZP,Xw,Xv,Xc,XP,XJ,XD,XM,Xm,Xn,Zal,Zak,Zay,Zaz,Zax,XT,XU,id_eq,ZR,Zd,Zo,ZT,Ze,Zf,ZN,Xo,Zc,Zh,Zb,Zg,Zn,Zi,Zm,Zk,Zj,Zl,Zz,ZG,ZC,Zy,ZE,ZF,ZA,ZB,ZD,implies_true,forall_const,Xh,Xi,Xl,Xe,Xf,Xj,Xk,Zv,Zx,unA,Zt,Zu,unG,reduceCtorEq,Zr,decide_eq_true_eq,Xd,Xb,ite_self,↓reduceIte,Zs,Zw,gcT,gcA,Zq,Zd,Zc,Ze,Zh,Zb,Zg,Zf,Zo,Xc,or_false]
end
section
theorem ZJi (σ:Za) (l:List Tx) (j:Nat) (h:j<=l.length):Zbq σ 1 (.lst false (l.map AVal.str)) none (some (.int .i64 (j:Int))) none=some (.lst false ((l.take j).map AVal.str),σ,{}):=by
 have hm:(l.map AVal.str).length=l.length:=by simp
 simp only [Zbq,ZaQ,hm,Zd1 h,beq_self_eq_true,Bool.true_or,if_true,XaK,Xq,if_false,Xap,XaX,Xbh]
theorem Zwu (σ:Za) (l:List Tx) (j:Nat) (h:j<=l.length):Zbq σ 1 (.lst false (l.map AVal.str)) (some (.int .i64 (j:Int))) none none=some (.lst false ((l.drop j).map AVal.str),σ,{}):=by
 have hm:(l.map AVal.str).length=l.length:=by simp
 have ht:(l.map AVal.str).take l.length=l.map AVal.str:=Wc (by simp)
 simp only [Zbq,ZaQ,hm,Zd1 h,Zjl,Bool.or_true,if_true,XaK,Xq,if_false,Xap,ht,XbE]
def Zjj (l:List Tx) (s:Tx) (j:Nat):AVal×Za:=if l[j]?=some s then (.lst false (l.map AVal.str),[]) else (.sl 0 0 0 (l.length+1),[.row 0 1 ((l.take j++s::l.drop j).map AVal.str)])
theorem ZCl {σ:Za} {sq:Nat} (P:List Tx) (hP:P.length<=1000001):ZaI σ sq 1 16 (.lst true []) (.lst false (P.map AVal.str))=some (.sl sq 0 0 P.length,σ.set sq (.row 0 1 (P.map AVal.str)),{}):=by
 have hm:(P.map AVal.str).length=P.length:=by simp
 simp only [ZaI,Zr,Zjl,if_true,hm]
 rw [if_pos (by omega)]
theorem Zrv {σ:Za} {sq t g:Nat} {b:Bool} (P Q:List Tx) (hP:P.length<=1000001) (hQ:Q.length<=1000001) (hs:σ[t]?=some (.row g 1 (P.map AVal.str))):ZaI σ sq 1 16 (.sl t g 0 P.length) (.lst b (Q.map AVal.str))=some (.sl t (g+1) 0 (P++Q).length,σ.set t (.row (g+1) 1 ((P++Q).map AVal.str)),{ wr:=[t] }):=by
 have hm:(P.map AVal.str).length=P.length:=by simp
 have hm2:(Q.map AVal.str).length=Q.length:=by simp
 simp only [ZaI,Zr,Zjl,if_true,hm,hm2,hs]
 rw [if_pos ⟨trivial,trivial,trivial,by omega⟩]
 simp
def below (s:Tx):List Tx->Nat
 | []=>0
 | x::r=>if x < s then below s r+1 else 0
theorem ZvL (l:List Tx) (s:Tx) (hl:l.length<=1000000) (i:Nat) (hi:i<=l.length):ZaL 0 ZiZ (evC FC PR BY 0 Zki [(18,.bool false),(5,.int .i64 (i:Int)),(1,.str s),(0,.lst false (l.map AVal.str))] [])=some (Zjj l s i):=by
 have hm:(l.map AVal.str).length=l.length:=by simp
 have g1:=fun σ=>ZJi σ l i hi
 have g2:=fun σ=>Zwu σ l i hi
 have k1:(l.take i).length=i:=by simp;omega
 have A1:=fun {σ:Za} {sq:Nat}=>ZCl (σ:=σ) (sq:=sq) (l.take i) (by omega)
 have A2:=fun {σ:Za} {sq t g:Nat} {b:Bool} hs=>Zrv (b:=b) (σ:=σ) (sq:=sq) (t:=t) (g:=g) (l.take i) [s] (by omega) (by simp) hs
 have A3:=fun {σ:Za} {sq t g:Nat} hs=>Zrv (b:=false) (σ:=σ) (sq:=sq) (t:=t) (g:=g) (l.take i++[s]) (l.drop i) (by simp;omega) (by simp;omega) hs
 have k2:(l.take i++[s]).length=i+1:=by simp;omega
 have k3:(l.take i++[s]++l.drop i).length=l.length+1:=by simp;omega
 have e2:([s]:List Tx).map AVal.str=[.str s]:=rfl
 rw [k1] at A1 A2
 rw [k2] at A2 A3
 rw [k3] at A3
 rw [e2] at A2
 have e3:l.take i++[s]++l.drop i=l.take i++s::l.drop i:=by simp
 rw [e3] at A3
 have hv:∀ σ:Za,viewAs σ [.str s]=some ([.str s],[]):=fun _=>rfl
 unfold Zjj
 cases hx:l[i]? with
 | none =>
  have h1:¬(i:Int) < l.length:=by have:=List.getElem?_eq_none_iff.1 hx;omega
  rw [if_neg (by simp)]
  generalize (l.take i++s::l.drop i).map AVal.str=W at *
  generalize (l.take i++[s]).map AVal.str=P2 at *
  generalize (l.take i).map AVal.str=P at *
  generalize (l.drop i).map AVal.str=Q at *
  generalize l.map AVal.str=S at *
  simp -implicitDefEqProofs only [EQA,Zn,Zi,Zm,Zk,Zj,Zl,Zz,ZG,ZC,Zy,ZE,ZF,ZA,ZB,ZD,implies_true,forall_const,Xh,Xi,Xl,Xe,Xf,Xj,Xk,Zv,Zx,unA,Zt,Zu,unG,reduceCtorEq,Zr,decide_eq_true_eq,Xd,Xb,ite_self,↓reduceIte,Zs,Zw,gcT,gcA,Zq,Zd,Zc,Ze,Zh,Zb,Zg,Zf,Zo,Xc,ZkZ,ZhW,ZlR,Znj,Zjx,ZhC,ZfV,Zp,ZI,ZK,ZJ,ZH,ZL,h1,hm,g1,g2,A1,A2,A3,hv,AVal.cells,ZS,Zar,XR,X9,Zag,Z0,Zah,Z3,XF,XH,Xp,Xs,Xr,Xt,Zaa,Zae,Zab,Zaf,Zac,Xm,Xn,ZU,ZX,ZV,Z1,Z6,Z4,Z9,Z7,ZZ,Z8,Xy,XA,Xp,Xs,Xo]
  simp -implicitDefEqProofs only [EQA,Zan,gcA,Zq,ZP,Xw,Xv,Xc,XP,XJ,XD,XM,Xm,Xn,Zal,Zak,Zay,Zaz,Zax,XT,XU,id_eq,ZR,Zd,Zo,ZT,Ze,Zf,ZN,Xo,Zc,Zh,Zb,Zg,Zn,Zi,Zm,Zk,Zj,Zl,Zz,ZG,ZC,Zy,ZE,ZF,ZA,ZB,ZD,implies_true,forall_const,Xh,Xi,Xl,Xe,Xf,Xj,Xk,Zv,Zx,unA,Zt,Zu,unG,reduceCtorEq,Zr,decide_eq_true_eq,Xd,Xb,ite_self,↓reduceIte,Zs,Zw,gcT,gcA,Zq,Zd,Zc,Ze,Zh,Zb,Zg,Zf,Zo,Xc,or_false]
 | some x =>
  have h1:(i:Int) < l.length:=by have:=(Xu.1 hx).1;omega
  have e1:=iad hx AVal.str (k:=1) rfl
  cases hxs:(x == s) with
  | true =>
   have:=eq_of_beq hxs
   subst this
   rw [if_pos rfl]
   generalize l.map AVal.str=S at *
   simp -implicitDefEqProofs only [EQA,Zn,Zi,Zm,Zk,Zj,Zl,Zz,ZG,ZC,Zy,ZE,ZF,ZA,ZB,ZD,implies_true,forall_const,Xh,Xi,Xl,Xe,Xf,Xj,Xk,Zv,Zx,unA,Zt,Zu,unG,reduceCtorEq,Zr,decide_eq_true_eq,Xd,Xb,ite_self,↓reduceIte,Zs,Zw,gcT,gcA,Zq,Zd,Zc,Ze,Zh,Zb,Zg,Zf,Zo,Xc,ZkZ,ZhW,ZlR,Znj,Zjx,ZhC,ZfV,Zp,ZI,ZK,ZJ,ZH,ZL,h1,hm,e1,hxs,AVal.cells,Zag,Z0,Zah,Z3,XF,XH,Xp,Xs,Xr,Xt,Zaa,Zae,Zab,Zaf,Zac,Xm,Xn,ZU,ZX,ZV,Z1,Z6,Z4,Z9,Z7,ZZ,Z8,Xy,XA,Xp,Xs,Xo]
  | false =>
   rw [if_neg (by simpa using hxs)]
   generalize (l.take i++s::l.drop i).map AVal.str=W at *
   generalize (l.take i++[s]).map AVal.str=P2 at *
   generalize (l.take i).map AVal.str=P at *
   generalize (l.drop i).map AVal.str=Q at *
   generalize l.map AVal.str=S at *
   simp -implicitDefEqProofs only [EQA,Zn,Zi,Zm,Zk,Zj,Zl,Zz,ZG,ZC,Zy,ZE,ZF,ZA,ZB,ZD,implies_true,forall_const,Xh,Xi,Xl,Xe,Xf,Xj,Xk,Zv,Zx,unA,Zt,Zu,unG,reduceCtorEq,Zr,decide_eq_true_eq,Xd,Xb,ite_self,↓reduceIte,Zs,Zw,gcT,gcA,Zq,Zd,Zc,Ze,Zh,Zb,Zg,Zf,Zo,Xc,ZkZ,ZhW,ZlR,Znj,Zjx,ZhC,ZfV,Zp,ZI,ZK,ZJ,ZH,ZL,h1,hm,e1,hxs,g1,g2,A1,A2,A3,hv,AVal.cells,ZS,Zar,XR,X9,Zag,Z0,Zah,Z3,XF,XH,Xp,Xs,Xr,Xt,Zaa,Zae,Zab,Zaf,Zac,Xm,Xn,ZU,ZX,ZV,Z1,Z6,Z4,Z9,Z7,ZZ,Z8,Xy,XA,Xp,Xs,Xo]
   simp -implicitDefEqProofs only [EQA,Zan,gcA,Zq,ZP,Xw,Xv,Xc,XP,XJ,XD,XM,Xm,Xn,Zal,Zak,Zay,Zaz,Zax,XT,XU,id_eq,ZR,Zd,Zo,ZT,Ze,Zf,ZN,Xo,Zc,Zh,Zb,Zg,Zn,Zi,Zm,Zk,Zj,Zl,Zz,ZG,ZC,Zy,ZE,ZF,ZA,ZB,ZD,implies_true,forall_const,Xh,Xi,Xl,Xe,Xf,Xj,Xk,Zv,Zx,unA,Zt,Zu,unG,reduceCtorEq,Zr,decide_eq_true_eq,Xd,Xb,ite_self,↓reduceIte,Zs,Zw,gcT,gcA,Zq,Zd,Zc,Ze,Zh,Zb,Zg,Zf,Zo,Xc,or_false]
theorem Zp0 (s:Tx):∀ r:List Tx,below s r<=r.length
 | []=>X5 _
 | x::r=>by
  have:=Zp0 s r
  unfold below
  split <;> simp <;> omega
theorem ZrC (l:List Tx) (s:Tx) (hl:l.length<=1000000):∀ (r:List Tx) (i:Nat),l.drop i=r->i<=l.length ->
  Zjr 0 [(5,.int .i64 (i:Int)),(1,.str s),(0,.lst false (l.map AVal.str))] []=some (Zjj l s (i+below s r))
 | [],i,h,hi=>by
  have h1:=ZbF h
  have hm:(l.map AVal.str).length=l.length:=by simp
  have hk:=ZvL l s hl i hi
  have e0:i+below s []=i:=rfl
  rw [e0]
  unfold Zjr
  generalize l.map AVal.str=S at *
  rw [ZY]
  simp -implicitDefEqProofs only [EQA,Zn,Zi,Zm,Zk,Zj,Zl,Zz,ZG,ZC,Zy,ZE,ZF,ZA,ZB,ZD,implies_true,forall_const,Xh,Xi,Xl,Xe,Xf,Xj,Xk,Zv,Zx,unA,Zt,Zu,unG,reduceCtorEq,Zr,decide_eq_true_eq,Xd,Xb,ite_self,↓reduceIte,Zs,Zw,gcT,gcA,Zq,Zd,Zc,Ze,Zh,Zb,Zg,Zf,Zo,Xc,ZhC,ZfV,h1,hm,AVal.cells]
  exact hk
 | x::r,i,h,hi=>by
  obtain ⟨g1,d1,l1⟩:=ZaC h
  have h1:(i:Int) < l.length:=by omega
  have hm:(l.map AVal.str).length=l.length:=by simp
  have e1:=iad g1 AVal.str (k:=1) rfl
  have e3:=Zbh h1 (by omega)
  by_cases hx:x < s
  ·have ih:=ZrC l s hl r (i+1) d1 (by omega)
   have hb:Op.bytesLess x s=true:=by rw [Go.Proofs.bytesLess_eq];simpa using hx
   have e0:i+below s (x::r)=i+1+below s r:=by
    show i+(if x < s then below s r+1 else 0)=_
    rw [if_pos hx];omega
   rw [e0]
   unfold Zjr at *
   generalize l.map AVal.str=S at *
   rw [ZY]
   simp -implicitDefEqProofs only [EQA,Zn,Zi,Zm,Zk,Zj,Zl,Zz,ZG,ZC,Zy,ZE,ZF,ZA,ZB,ZD,implies_true,forall_const,Xh,Xi,Xl,Xe,Xf,Xj,Xk,Zv,Zx,unA,Zt,Zu,unG,reduceCtorEq,Zr,decide_eq_true_eq,Xd,Xb,ite_self,↓reduceIte,Zs,Zw,gcT,gcA,Zq,Zd,Zc,Ze,Zh,Zb,Zg,Zf,Zo,Xc,ZhC,ZfV,h1,hm,e1,e3,hb,AVal.cells]
   exact ih
  ·have hk:=ZvL l s hl i hi
   have hb:Op.bytesLess x s=false:=by rw [Go.Proofs.bytesLess_eq];simpa using hx
   have e0:i+below s (x::r)=i:=by
    show i+(if x < s then below s r+1 else 0)=_
    rw [if_neg hx];rfl
   rw [e0]
   unfold Zjr at *
   generalize l.map AVal.str=S at *
   rw [ZY]
   simp -implicitDefEqProofs only [EQA,Zn,Zi,Zm,Zk,Zj,Zl,Zz,ZG,ZC,Zy,ZE,ZF,ZA,ZB,ZD,implies_true,forall_const,Xh,Xi,Xl,Xe,Xf,Xj,Xk,Zv,Zx,unA,Zt,Zu,unG,reduceCtorEq,Zr,decide_eq_true_eq,Xd,Xb,ite_self,↓reduceIte,Zs,Zw,gcT,gcA,Zq,Zd,Zc,Ze,Zh,Zb,Zg,Zf,Zo,Xc,ZhC,ZfV,h1,hm,e1,e3,hb,AVal.cells]
   exact hk
def Zbo (l:List Tx) (s:Tx):List Tx:=if l[below s l]?=some s then l else l.take (below s l)++s::l.drop (below s l)
theorem ZDK (l:List Tx) (s:Tx) (hl:l.length<=1000000):E 30 [.lst false (l.map AVal.str),.str s] []=some (Zjj l s (below s l)):=by
 have h:=ZrC l s hl l 0 rfl (W7 _)
 rw [XX] at h
 have z0:((0:Nat):Int)=0:=rfl
 rw [z0] at h
 unfold Zjr at h
 generalize l.map AVal.str=S at *
 rw [ZaJ (by rfl) ZGS]
 simp -implicitDefEqProofs only [EQA,Zn,Zi,Zm,Zk,Zj,Zl,Zz,ZG,ZC,Zy,ZE,ZF,ZA,ZB,ZD,implies_true,forall_const,Xh,Xi,Xl,Xe,Xf,Xj,Xk,Zv,Zx,unA,Zt,Zu,unG,reduceCtorEq,Zr,decide_eq_true_eq,Xd,Xb,ite_self,↓reduceIte,Zs,Zw,gcT,gcA,Zq,Zd,Zc,Ze,Zh,Zb,Zg,Zf,Zo,Xc,ZkZ,ZhW,ZlR,AVal.cells]
 exact h
theorem ZGy (l:List Tx) (s:Tx) (hl:l.length<=1000000):ZaG true 0 (E 30 [.lst false (l.map AVal.str),.str s] [])=some (.lst false ((Zbo l s).map AVal.str),[]):=by
 rw [ZDK l s hl]
 unfold Zjj Zbo ZaG
 rw [if_pos rfl]
 split
 ·rfl
 ·have hb:=Zp0 s l
  rw [ZoI (k:=1) (g:=0) (t:=0) (xs:=(l.take (below s l)++s::l.drop (below s l)).map AVal.str) rfl (by simp;omega),Wc (by simp;omega)]
theorem ZtB (l:List Tx) (b:Bool) (s:Tx) (hl:l.length<=1000000) (σ:Za) (sq own:Nat):ZQ E BY σ sq 30 own true [.lst b (l.map AVal.str),.str s]=some (.lst false ((Zbo l s).map AVal.str),σ,{}) :=
 Zva (ZGy l s hl) (by kernel_rfl) rfl rfl (fun _=>rfl) σ sq own
end
section
theorem Zj9 (l:List Tx) (s:Tx):(Zbo l s).length<=l.length+1:=by
 have:=Zp0 s l
 unfold Zbo
 split <;> simp <;> omega
def Zbs (l:List Tx) (R:List Mb):List Tx:=R.foldl (fun l q=>Zbo l q.1) l
theorem ZlE:∀ (R:List Mb) (l:List Tx),(Zbs l R).length<=l.length+R.length
 | [],l=>X5 _
 | q::R,l=>by
  have h1:=ZlE R (Zbo l q.1)
  have h2:=Zj9 l q.1
  show (Zbs (Zbo l q.1) R).length<=_
  simp only [Xr];omega
theorem ZsL (R:List Mb) (hl:R.length<=500000):∀ (r:List Mb) (i:Nat) (l:List Tx) (b:Bool),R.drop i=r->l.length<=i->i<=R.length ->
  ∃ b',Zkf 2 [(4,.int .i64 (i:Int)),(3,.lst b (l.map AVal.str)),(0,.ref 0 0)] (rk R)=some (.lst b' ((Zbs l r).map AVal.str),rk R)
 | [],i,l,b,h,hli,hi=>by
  have h1:=ZbF h
  refine ⟨b,?_⟩
  rw [show Zbs l []=l from rfl]
  unfold Zkf rk
  generalize R.map mbV=S at *
  generalize l.map AVal.str=L at *
  rw [ZY]
  simp -implicitDefEqProofs only [EQA,Zn,Zi,Zm,Zk,Zj,Zl,Zz,ZG,ZC,Zy,ZE,ZF,ZA,ZB,ZD,implies_true,forall_const,Xh,Xi,Xl,Xe,Xf,Xj,Xk,Zv,Zx,unA,Zt,Zu,unG,reduceCtorEq,Zr,decide_eq_true_eq,Xd,Xb,ite_self,↓reduceIte,Zs,Zw,gcT,gcA,Zq,Zd,Zc,Ze,Zh,Zb,Zg,Zf,Zo,Xc,ZoM,ZjV,Zog,Zo4,ZiS,Zqj,ZiN,Zp,ZI,ZK,ZJ,ZH,ZL,h1,AVal.cells,Zag,Z0,Zah,Z3,XF,XH,Xp,Xs,Xr,Xt,Zaa,Zae,Zab,Zaf,Zac,Xm,Xn,ZU,ZX,ZV,Z1,Z6,Z4,Z9,Z7,ZZ,Z8,Xy,XA,Xp,Xs,Xo]
  simp -implicitDefEqProofs only [EQA,Zan,gcA,Zq,ZP,Xw,Xv,Xc,XP,XJ,XD,XM,Xm,Xn,Zal,Zak,Zay,Zaz,Zax,XT,XU,id_eq,ZR,Zd,Zo,ZT,Ze,Zf,ZN,Xo,Zc,Zh,Zb,Zg,Zn,Zi,Zm,Zk,Zj,Zl,Zz,ZG,ZC,Zy,ZE,ZF,ZA,ZB,ZD,implies_true,forall_const,Xh,Xi,Xl,Xe,Xf,Xj,Xk,Zv,Zx,unA,Zt,Zu,unG,reduceCtorEq,Zr,decide_eq_true_eq,Xd,Xb,ite_self,↓reduceIte,Zs,Zw,gcT,gcA,Zq,Zd,Zc,Ze,Zh,Zb,Zg,Zf,Zo,Xc,or_false]
 | x::r,i,l,b,h,hli,hi=>by
  obtain ⟨g1,d1,l1⟩:=ZaC h
  have hp:=Zj9 l x.1
  obtain ⟨b',ih⟩:=ZsL R hl r (i+1) (Zbo l x.1) false d1 (by omega) (by omega)
  refine ⟨b',?_⟩
  rw [show Zbs l (x::r)=Zbs (Zbo l x.1) r from rfl]
  have h1:(i:Int) < R.length:=by omega
  have e3:=Zbh h1 (by omega)
  have hel:=fun {σ:Za} hs=>Zjg g1 (σ:=σ) hs
  have hXi:=ZiK g1
  have hC:=fun σ sq own=>ZtB l b x.1 (by omega) σ sq own
  unfold Zkf rk at *
  generalize R.map mbV=S at *
  generalize (Zbs (Zbo l x.1) r).map AVal.str=Z at *
  generalize (Zbo l x.1).map AVal.str=L2 at *
  generalize l.map AVal.str=L at *
  rw [ZY]
  simp -implicitDefEqProofs only [EQA,Zn,Zi,Zm,Zk,Zj,Zl,Zz,ZG,ZC,Zy,ZE,ZF,ZA,ZB,ZD,implies_true,forall_const,Xh,Xi,Xl,Xe,Xf,Xj,Xk,Zv,Zx,unA,Zt,Zu,unG,reduceCtorEq,Zr,decide_eq_true_eq,Xd,Xb,ite_self,↓reduceIte,Zs,Zw,gcT,gcA,Zq,Zd,Zc,Ze,Zh,Zb,Zg,Zf,Zo,Xc,ZoM,ZjV,Zog,Zo4,ZiS,Zqj,ZiN,Zp,ZI,ZK,ZJ,ZH,ZL,h1,e3,hel,hXi,hC,AVal.cells,Zag,Z0,Zah,Z3,XF,XH,Xp,Xs,Xr,Xt,Zaa,Zae,Zab,Zaf,Zac,Xm,Xn,ZU,ZX,ZV,Z1,Z6,Z4,Z9,Z7,ZZ,Z8,Xy,XA,Xp,Xs,Xo]
  exact ih
theorem ZLz (R:List Mb) (hl:R.length<=500000):∃ b',E 20 [.ref 0 0] (rk R)=some (.lst b' ((Zbs [] R).map AVal.str),rk R):=by
 obtain ⟨b',h⟩:=ZsL R hl R 0 [] true rfl (X5 _) (W7 _)
 refine ⟨b',?_⟩
 have z0:((0:Nat):Int)=0:=rfl
 rw [z0,show ([]:List Tx).map AVal.str=[] from rfl] at h
 unfold Zkf rk at *
 generalize R.map mbV=S at *
 generalize (Zbs [] R).map AVal.str=Z at *
 rw [ZaJ (by rfl) ZKP]
 simp -implicitDefEqProofs only [EQA,Zn,Zi,Zm,Zk,Zj,Zl,Zz,ZG,ZC,Zy,ZE,ZF,ZA,ZB,ZD,implies_true,forall_const,Xh,Xi,Xl,Xe,Xf,Xj,Xk,Zv,Zx,unA,Zt,Zu,unG,reduceCtorEq,Zr,decide_eq_true_eq,Xd,Xb,ite_self,↓reduceIte,Zs,Zw,gcT,gcA,Zq,Zd,Zc,Ze,Zh,Zb,Zg,Zf,Zo,Xc,ZoM,ZjV,Zog,Zo4,ZiS,Zqj,ZiN,Zp,ZI,ZK,ZJ,ZH,ZL,AVal.cells]
 exact h
theorem ZnZ (R:List Mb) (hl:R.length<=500000) (s:Tx):∀ (r:List Mb) (i:Nat) (a:List Tx),R.drop i=r->a.length<=i->i<=R.length ->
  ZeO 2 [(6,.int .i64 (i:Int)),(5,.sl 2 0 0 a.length),(1,.str s),(0,.ref 0 0)] (rk R++[Z5.row 0 1 (a.map AVal.str)])=some (.sl 2 0 0 (a++ZW r s).length,rk R++[Z5.row 0 1 ((a++ZW r s).map AVal.str)])
 | [],i,a,h,ha,hi=>by
  have h1:=ZbF h
  rw [show ZW [] s=[] from rfl,Xw]
  unfold ZeO rk
  generalize R.map mbV=S at *
  generalize a.map AVal.str=A at *
  simp only [XG,Xv]
  rw [ZY]
  simp -implicitDefEqProofs only [EQA,Zn,Zi,Zm,Zk,Zj,Zl,Zz,ZG,ZC,Zy,ZE,ZF,ZA,ZB,ZD,implies_true,forall_const,Xh,Xi,Xl,Xe,Xf,Xj,Xk,Zv,Zx,unA,Zt,Zu,unG,reduceCtorEq,Zr,decide_eq_true_eq,Xd,Xb,ite_self,↓reduceIte,Zs,Zw,gcT,gcA,Zq,Zd,Zc,Ze,Zh,Zb,Zg,Zf,Zo,Xc,Zg9,Ze6,Zhb,Zgt,Zfm,Zg8,Zfv,Zp,ZI,ZK,ZJ,ZH,ZL,h1,AVal.cells,Zag,Z0,Zah,Z3,XF,XH,Xp,Xs,Xr,Xt,Zaa,Zae,Zab,Zaf,Zac,Xm,Xn,ZU,ZX,ZV,Z1,Z6,Z4,Z9,Z7,ZZ,Z8,Xy,XA,Xp,Xs,Xo]
  simp -implicitDefEqProofs only [EQA,Zan,gcA,Zq,ZP,Xw,Xv,Xc,XP,XJ,XD,XM,Xm,Xn,Zal,Zak,Zay,Zaz,Zax,XT,XU,id_eq,ZR,Zd,Zo,ZT,Ze,Zf,ZN,Xo,Zc,Zh,Zb,Zg,Zn,Zi,Zm,Zk,Zj,Zl,Zz,ZG,ZC,Zy,ZE,ZF,ZA,ZB,ZD,implies_true,forall_const,Xh,Xi,Xl,Xe,Xf,Xj,Xk,Zv,Zx,unA,Zt,Zu,unG,reduceCtorEq,Zr,decide_eq_true_eq,Xd,Xb,ite_self,↓reduceIte,Zs,Zw,gcT,gcA,Zq,Zd,Zc,Ze,Zh,Zb,Zg,Zf,Zo,Xc,or_false]
 | x::r,i,a,h,ha,hi=>by
  obtain ⟨g1,d1,l1⟩:=ZaC h
  have h1:(i:Int) < R.length:=by omega
  have e3:=Zbh h1 (by omega)
  have hel:=fun {σ:Za} hs=>Zjg g1 (σ:=σ) hs
  have hXi:=ZiK g1
  have hv:∀ (σ:Za),viewAs σ [.str x.2]=some ([.str x.2],[]):=fun _=>rfl
  have b1:(a.length+1)*16<=140737488355328:=by omega
  have hS1:(a.map AVal.str).length=a.length:=by simp
  rw [ZeR]
  cases hc:(x.1 == s) with
  | false =>
   have ih:=ZnZ R hl s r (i+1) a d1 (by omega) (by omega)
   rw [if_neg (by simp)]
   unfold ZeO rk at *
   generalize R.map mbV=S at *
   generalize (a++ZW r s).map AVal.str=Z at *
   generalize a.map AVal.str=A at *
   simp only [XG,Xv] at ih ⊢
   rw [ZY]
   simp -implicitDefEqProofs only [EQA,Zn,Zi,Zm,Zk,Zj,Zl,Zz,ZG,ZC,Zy,ZE,ZF,ZA,ZB,ZD,implies_true,forall_const,Xh,Xi,Xl,Xe,Xf,Xj,Xk,Zv,Zx,unA,Zt,Zu,unG,reduceCtorEq,Zr,decide_eq_true_eq,Xd,Xb,ite_self,↓reduceIte,Zs,Zw,gcT,gcA,Zq,Zd,Zc,Ze,Zh,Zb,Zg,Zf,Zo,Xc,Zg9,Ze6,Zhb,Zgt,Zfm,Zg8,Zfv,Zp,ZI,ZK,ZJ,ZH,ZL,h1,e3,hel,hXi,hc,AVal.cells,Zag,Z0,Zah,Z3,XF,XH,Xp,Xs,Xr,Xt,Zaa,Zae,Zab,Zaf,Zac,Xm,Xn,ZU,ZX,ZV,Z1,Z6,Z4,Z9,Z7,ZZ,Z8,Xy,XA,Xp,Xs,Xo]
   exact ih
  | true =>
   have ih:=ZnZ R hl s r (i+1) (a++[x.2]) d1 (by simp;omega) (by omega)
   rw [if_pos rfl]
   have e5:(a++[x.2]).map AVal.str=a.map AVal.str++[.str x.2]:=by simp
   have e6:a++x.2::ZW r s=a++[x.2]++ZW r s:=by simp
   have e7:(a++[x.2]).length=a.length+1:=by simp
   rw [e6]
   rw [e5,e7] at ih
   unfold ZeO rk at *
   generalize R.map mbV=S at *
   generalize (a++[x.2]++ZW r s).map AVal.str=Z at *
   generalize a.map AVal.str=A at *
   simp only [XG,Xv] at ih ⊢
   rw [ZY]
   simp -implicitDefEqProofs only [EQA,Zn,Zi,Zm,Zk,Zj,Zl,Zz,ZG,ZC,Zy,ZE,ZF,ZA,ZB,ZD,implies_true,forall_const,Xh,Xi,Xl,Xe,Xf,Xj,Xk,Zv,Zx,unA,Zt,Zu,unG,reduceCtorEq,Zr,decide_eq_true_eq,Xd,Xb,ite_self,↓reduceIte,Zs,Zw,gcT,gcA,Zq,Zd,Zc,Ze,Zh,Zb,Zg,Zf,Zo,Xc,Zg9,Ze6,Zhb,Zgt,Zfm,Zg8,Zfv,Zp,ZI,ZK,ZJ,ZH,ZL,h1,e3,hel,hXi,hc,hv,b1,hS1,AVal.cells,kOk,ZS,ZaI,XQ,Wy,XR,X9,Zag,Z0,Zah,Z3,XF,XH,Xp,Xs,Xr,Xt,Zaa,Zae,Zab,Zaf,Zac,Xm,Xn,ZU,ZX,ZV,Z1,Z6,Z4,Z9,Z7,ZZ,Z8,Xy,XA,Xp,Xs,Xo]
   exact ih
theorem Zq3 (R:List Mb) (hl:R.length<=500000) (s:Tx):∀ (r:List Mb) (i:Nat),R.drop i=r->i<=R.length ->
  ZeO 2 [(6,.int .i64 (i:Int)),(5,.lst true []),(1,.str s),(0,.ref 0 0)] (rk R)=(if ZW r s=[] then some (.lst true [],rk R) else some (.sl 2 0 0 (ZW r s).length,rk R++[Z5.row 0 1 ((ZW r s).map AVal.str)]))
 | [],i,h,hi=>by
  have h1:=ZbF h
  rw [if_pos (show ZW [] s=[] from rfl)]
  unfold ZeO rk
  generalize R.map mbV=S at *
  rw [ZY]
  simp -implicitDefEqProofs only [EQA,Zn,Zi,Zm,Zk,Zj,Zl,Zz,ZG,ZC,Zy,ZE,ZF,ZA,ZB,ZD,implies_true,forall_const,Xh,Xi,Xl,Xe,Xf,Xj,Xk,Zv,Zx,unA,Zt,Zu,unG,reduceCtorEq,Zr,decide_eq_true_eq,Xd,Xb,ite_self,↓reduceIte,Zs,Zw,gcT,gcA,Zq,Zd,Zc,Ze,Zh,Zb,Zg,Zf,Zo,Xc,Zg9,Ze6,Zhb,Zgt,Zfm,Zg8,Zfv,Zp,ZI,ZK,ZJ,ZH,ZL,h1,AVal.cells,Zag,Z0,Zah,Z3,XF,XH,Xp,Xs,Xr,Xt,Zaa,Zae,Zab,Zaf,Zac,Xm,Xn,ZU,ZX,ZV,Z1,Z6,Z4,Z9,Z7,ZZ,Z8,Xy,XA,Xp,Xs,Xo]
  simp -implicitDefEqProofs only [EQA,Zan,gcA,Zq,ZP,Xw,Xv,Xc,XP,XJ,XD,XM,Xm,Xn,Zal,Zak,Zay,Zaz,Zax,XT,XU,id_eq,ZR,Zd,Zo,ZT,Ze,Zf,ZN,Xo,Zc,Zh,Zb,Zg,Zn,Zi,Zm,Zk,Zj,Zl,Zz,ZG,ZC,Zy,ZE,ZF,ZA,ZB,ZD,implies_true,forall_const,Xh,Xi,Xl,Xe,Xf,Xj,Xk,Zv,Zx,unA,Zt,Zu,unG,reduceCtorEq,Zr,decide_eq_true_eq,Xd,Xb,ite_self,↓reduceIte,Zs,Zw,gcT,gcA,Zq,Zd,Zc,Ze,Zh,Zb,Zg,Zf,Zo,Xc,or_false]
 | x::r,i,h,hi=>by
  obtain ⟨g1,d1,l1⟩:=ZaC h
  have h1:(i:Int) < R.length:=by omega
  have e3:=Zbh h1 (by omega)
  have hel:=fun {σ:Za} hs=>Zjg g1 (σ:=σ) hs
  have hXi:=ZiK g1
  have hv:∀ (σ:Za),viewAs σ [.str x.2]=some ([.str x.2],[]):=fun _=>rfl
  have b1:1*16<=140737488355328:=by omega
  rw [ZeR]
  cases hc:(x.1 == s) with
  | false =>
   have ih:=Zq3 R hl s r (i+1) d1 (by omega)
   rw [if_neg (show ¬(false=true) by simp),<-ih]
   unfold ZeO rk
   generalize R.map mbV=S at *
   rw [ZY]
   simp -implicitDefEqProofs only [EQA,Zn,Zi,Zm,Zk,Zj,Zl,Zz,ZG,ZC,Zy,ZE,ZF,ZA,ZB,ZD,implies_true,forall_const,Xh,Xi,Xl,Xe,Xf,Xj,Xk,Zv,Zx,unA,Zt,Zu,unG,reduceCtorEq,Zr,decide_eq_true_eq,Xd,Xb,ite_self,↓reduceIte,Zs,Zw,gcT,gcA,Zq,Zd,Zc,Ze,Zh,Zb,Zg,Zf,Zo,Xc,Zg9,Ze6,Zhb,Zgt,Zfm,Zg8,Zfv,Zp,ZI,ZK,ZJ,ZH,ZL,h1,e3,hel,hXi,hc,AVal.cells,Zag,Z0,Zah,Z3,XF,XH,Xp,Xs,Xr,Xt,Zaa,Zae,Zab,Zaf,Zac,Xm,Xn,ZU,ZX,ZV,Z1,Z6,Z4,Z9,Z7,ZZ,Z8,Xy,XA,Xp,Xs,Xo]
  | true =>
   have ih:=ZnZ R hl s r (i+1) [x.2] d1 (by simp) (by omega)
   rw [if_pos (show true=true from rfl),if_neg (by simp)]
   rw [show x.2::ZW r s=[x.2]++ZW r s from rfl,<-ih,show [x.2].map AVal.str=[.str x.2] from rfl]
   unfold ZeO rk
   generalize R.map mbV=S at *
   simp only [XG,Xv]
   rw [ZY]
   simp -implicitDefEqProofs only [EQA,Zn,Zi,Zm,Zk,Zj,Zl,Zz,ZG,ZC,Zy,ZE,ZF,ZA,ZB,ZD,implies_true,forall_const,Xh,Xi,Xl,Xe,Xf,Xj,Xk,Zv,Zx,unA,Zt,Zu,unG,reduceCtorEq,Zr,decide_eq_true_eq,Xd,Xb,ite_self,↓reduceIte,Zs,Zw,gcT,gcA,Zq,Zd,Zc,Ze,Zh,Zb,Zg,Zf,Zo,Xc,Zg9,Ze6,Zhb,Zgt,Zfm,Zg8,Zfv,Zp,ZI,ZK,ZJ,ZH,ZL,h1,e3,hel,hXi,hc,hv,b1,AVal.cells,kOk,ZS,ZaI,XQ,Wy,XR,X9,Zag,Z0,Zah,Z3,XF,XH,Xp,Xs,Xr,Xt,Zaa,Zae,Zab,Zaf,Zac,Xm,Xn,ZU,ZX,ZV,Z1,Z6,Z4,Z9,Z7,ZZ,Z8,Xy,XA,Xp,Xs,Xo]
theorem ZHg (R:List Mb) (hl:R.length<=500000) (s:Tx):E 15 [.ref 0 0,.str s] (rk R)=(if ZW R s=[] then some (.lst true [],rk R) else some (.sl 2 0 0 (ZW R s).length,rk R++[Z5.row 0 1 ((ZW R s).map AVal.str)])):=by
 have h:=Zq3 R hl s R 0 rfl (W7 _)
 have z0:((0:Nat):Int)=0:=rfl
 rw [z0] at h
 rw [<-h]
 unfold ZeO rk
 generalize R.map mbV=S at *
 rw [ZaJ (by rfl) ZEV]
 simp -implicitDefEqProofs only [EQA,Zn,Zi,Zm,Zk,Zj,Zl,Zz,ZG,ZC,Zy,ZE,ZF,ZA,ZB,ZD,implies_true,forall_const,Xh,Xi,Xl,Xe,Xf,Xj,Xk,Zv,Zx,unA,Zt,Zu,unG,reduceCtorEq,Zr,decide_eq_true_eq,Xd,Xb,ite_self,↓reduceIte,Zs,Zw,gcT,gcA,Zq,Zd,Zc,Ze,Zh,Zb,Zg,Zf,Zo,Xc,Zg9,Ze6,Zhb,Zgt,Zfm,Zg8,Zfv,Zp,ZI,ZK,ZJ,ZH,ZL,AVal.cells]
end
section
theorem ZtK (R:List Mb) (r:AVal) (hr:ZT r=[]) (hn:∀ ρ,ZN ρ r=r):Zan 2 (rk R) r=some (r,rk R):=by
 unfold rk
 generalize R.map mbV=S at *
 simp -implicitDefEqProofs only [EQA,Zan,gcA,Zq,ZP,Xw,Xv,Xc,XP,XJ,XD,XM,Xm,Xn,Zal,Zak,Zay,Zaz,Zax,XT,XU,id_eq,ZR,Zd,Zo,ZT,Ze,Zf,ZN,Xo,Zc,Zh,Zb,Zg,Zn,Zi,Zm,Zk,Zj,Zl,Zz,ZG,ZC,Zy,ZE,ZF,ZA,ZB,ZD,implies_true,forall_const,Xh,Xi,Xl,Xe,Xf,Xj,Xk,Zv,Zx,unA,Zt,Zu,unG,reduceCtorEq,Zr,decide_eq_true_eq,Xd,Xb,ite_self,↓reduceIte,Zs,Zw,gcT,gcA,Zq,Zd,Zc,Ze,Zh,Zb,Zg,Zf,Zo,Xc,hr,hn,or_false]
theorem ZD5 (R:List Mb) (T:List Tx):Zan 2 [.var [.sl 1 0 0 R.length],.row 0 2 (R.map mbV),.frow 0 1 (T.map AVal.str)] (.lst false (T.map AVal.str))=some (.lst false (T.map AVal.str),rk R):=by
 unfold rk
 generalize R.map mbV=S at *
 simp -implicitDefEqProofs only [EQA,Zan,gcA,Zq,ZP,Xw,Xv,Xc,XP,XJ,XD,XM,Xm,Xn,Zal,Zak,Zay,Zaz,Zax,XT,XU,id_eq,ZR,Zd,Zo,ZT,Ze,Zf,ZN,Xo,Zc,Zh,Zb,Zg,Zn,Zi,Zm,Zk,Zj,Zl,Zz,ZG,ZC,Zy,ZE,ZF,ZA,ZB,ZD,implies_true,forall_const,Xh,Xi,Xl,Xe,Xf,Xj,Xk,Zv,Zx,unA,Zt,Zu,unG,reduceCtorEq,Zr,decide_eq_true_eq,Xd,Xb,ite_self,↓reduceIte,Zs,Zw,gcT,gcA,Zq,Zd,Zc,Ze,Zh,Zb,Zg,Zf,Zo,Xc,or_false]
theorem Zmp {R : List Mb} {r : AVal} {view : Bool} (h1 : viewR (rk R) r = some (r, [])) (h2 : ZT r = []) (h3 : ∀ ρ, ZN ρ r = r) (h4 : ∀ x, r ≠ .pan x) : ZaG view 2 (some (r, rk R)) = some (r, rk R) := by
  unfold ZaG
  split
  . rw [show Zc8 2 (some (r, rk R)) = (match viewR (rk R) r with
        | some (r', ts) => match gcA 2 [r'] (ZS (rk R) ts) with
          | ([r''], σ') => some (r'', σ')
          | _ => none
        | none => none) from by cases r <;> first | rfl | exact absurd rfl (h4 _)]
    rw [h1]
    have := ZtK R r h2 h3
    unfold Zan at this
    exact this
  . rfl
theorem ZkD {R:List Mb} (b:Bool) (T:List Tx):ZaG true 2 (some (.lst b (T.map AVal.str),rk R))=some (.lst false (T.map AVal.str),rk R):=by
 have:=ZtK R (.lst false (T.map AVal.str)) rfl (fun _=>rfl)
 unfold Zan at this
 exact this
theorem ZsD {R : List Mb} (T : List Tx) : ZaG true 2 (some (.sl 2 0 0 T.length, rk R ++ [Z5.row 0 1 (T.map AVal.str)])) = some (.lst false (T.map AVal.str), rk R) := by
  have he : Zr (rk R ++ [Z5.row 0 1 (T.map AVal.str)]) (.sl 2 0 0 T.length) = some (T.map AVal.str, [2]) := ZpG _ 2 0 T.length false (T.map AVal.str) (by simp) rfl
  unfold ZaG
  rw [if_pos rfl]
  show (match viewR (rk R ++ [Z5.row 0 1 (T.map AVal.str)]) (.sl 2 0 0 T.length) with
        | some (r', ts) => match gcA 2 [r'] (ZS (rk R ++ [Z5.row 0 1 (T.map AVal.str)]) ts) with
          | ([r''], σ') => some (r'', σ')
          | _ => none
        | none => none) = _
  simp only [viewR, Zcb, ZbA, he]
  have e3 : ZS (rk R ++ [Z5.row 0 1 (T.map AVal.str)]) [2] = [.var [.sl 1 0 0 R.length], .row 0 2 (R.map mbV), .frow 0 1 (T.map AVal.str)] := rfl
  rw [e3]
  have ho := ZD5 R T
  unfold Zan at ho
  exact ho
theorem Zv3 {O:Zat} {bf:Nat->Bool} {f sq own:Nat} {view:Bool} {rest rest':List AVal} {R:List Mb} {r:AVal} {σ:Za} {a b:Nat} (h:ZaG view 2 (O f (.ref 0 0::rest') (rk R))=some (r,rk R)) (hb:bf f=false) (hp:rest.all ZaX=true) (hn:rest.map Zaw=rest') (hr:∀ ρ,ZN ρ r=r)
  (ha:σ[a]?=some (.var [.sl b 0 0 R.length])) (hg:σ[b]?=some (.row 0 2 (R.map mbV))) (hff:ZaN σ sq own=true):ZQ O bf σ sq f own view (.ref a 0::rest)=some (r,σ,{ any:=true,upd:=[(a,[.sl b 0 0 R.length])] }):=by
 subst hn
 have hab:a≠b:=by
  rintro rfl
  rw [ha] at hg;cases hg
 have hal:a < σ.length:=(Xu.1 ha).1
 have hbl:b < σ.length:=(Xu.1 hg).1
 have da:σ.getD a .free=.var [.sl b 0 0 R.length]:=by simp [Xz,ha]
 have db:σ.getD b .free=.row 0 2 (R.map mbV):=by simp [Xz,hg]
 have hsh:showAs σ (.ref a 0::rest)=some (.ref a 0::rest.map Zaw,[]):=by
  rw [showAs,show showA σ (.ref a 0)=some (.ref a 0,[]) from rfl,Zh7 hp]
  rfl
 have href:ZP (.ref a 0::rest.map Zaw)=[a]:=by
  rw [ZP,Zgp hp];rfl
 have hba:(b == a)=false:=by simpa using W0 hab
 have hre:Zd σ 1000 (ZP (.ref a 0::rest.map Zaw)) []=[a,b]:=by
  rw [href]
  show Zd σ (997+1+1+1) [a] []=_
  simp only [Zd,Xo,Xq,if_false,da,Zo,ZP,ZT,Xv,Xw,XG,Wo,hba,XaU,db]
 have hρa:Zc σ 0 [a,b] a 0=some (0,0):=by simp [Zc,Zh,ha,Zb,Zg]
 have hρb:Zc σ 0 [a,b] b 0=some (1,0):=by simp [Zc,Zh,hg,Zb,Zg,hab]
 have hargs:ZR (Zc σ 0 [a,b]) (.ref a 0::rest.map Zaw)=.ref 0 0::rest.map Zaw:=by
  rw [ZR,ZgB hp]
  simp only [ZN,hρa]
 have hheap:Ze σ 0 [a,b] (Zc σ 0 [a,b]) [a,b] 0=rk R:=by
  unfold rk
  simp only [Ze,da,db,Zg,Zb,Zf,ZR,ZN,hρb]
  rfl
 have hall:([a,b].all fun t=>okB (σ.getD t .free))=true:=by simp only [Xp,Xs,da,db,okB,WD]
 cases hO:O f (.ref 0 0::rest.map Zaw) (rk R) with
 | none =>
  rw [hO] at h
  unfold ZaG at h
  split at h <;> cases h
 | some p =>
 obtain ⟨r0,hh0⟩:=p
 rw [hO] at h
 have hlay:ZaR σ [a,b] sq (rk R) 0 σ=σ:=by
  unfold rk
  have e1:ZaM σ [a,b] sq 1 0=some (b,0):=by simp [ZaM,hg,Zb]
  have e0:Za1 σ [a,b] 1 (.row 0 2 (R.map mbV))=0:=by simp [Za1,hg,Zb]
  have es:∀ (t:Nat) (x:Z5),t < σ.length->σ[t]?=some x->σ.set t x=σ:=fun t x ht hx=>by
   apply Wv
   intro i
   rw [XB]
   by_cases e:t=i
   ·subst e
    rw [if_pos rfl,if_pos ht,hx]
   ·rw [if_neg e]
  simp only [ZaR,ZaH,Xm,Xn,Zf,ZR,ZN,e1,e0]
  rw [es a _ hal ha,es b _ hbl hg]
 refine Zl3 hb hsh hre rfl hall hargs hheap hO h (by simp [rk]) (by simp [rk]) ?_ hff (hr _) hlay ?_
 ·unfold rk
  simp only [Za4,okB,Xx,XC,da,db,Zbk,Zb,W7,decide_true,WD]
 ·simp only [Za7,ha,hg]
theorem Zrn {O:Zat} {bf:Nat->Bool} {f sq own:Nat} {view:Bool} {rest rest':List AVal} {R:List Mb} {r:AVal} {hh:Za} {σ σ':Za} {a b:Nat} {u:List (Nat×List AVal)} (h:ZaG view 2 (O f (.ref 0 0::rest') (rk R))=some (r,hh)) (hb:bf f=false) (hp:rest.all ZaX=true) (hn:rest.map Zaw=rest') (hr:∀ ρ,ZN ρ r=r)
  (ha:σ[a]?=some (.var [.sl b 0 0 R.length])) (hg:σ[b]?=some (.row 0 2 (R.map mbV))) (hff:ZaN σ sq own=true) (hl1:hh.length<=2+own) (hl2:2<=hh.length) (hk:Za4 σ [a,b] hh 0=true) (hlay:ZaR σ [a,b] sq hh 0 σ=σ') (hu:Za7 σ' [a,b]=u):ZQ O bf σ sq f own view (.ref a 0::rest)=some (r,σ',{ any:=true,upd:=u }):=by
 subst hn
 have hab:a≠b:=by
  rintro rfl
  rw [ha] at hg;cases hg
 have da:σ.getD a .free=.var [.sl b 0 0 R.length]:=by simp [Xz,ha]
 have db:σ.getD b .free=.row 0 2 (R.map mbV):=by simp [Xz,hg]
 have hsh:showAs σ (.ref a 0::rest)=some (.ref a 0::rest.map Zaw,[]):=by
  rw [showAs,show showA σ (.ref a 0)=some (.ref a 0,[]) from rfl,Zh7 hp]
  rfl
 have href:ZP (.ref a 0::rest.map Zaw)=[a]:=by
  rw [ZP,Zgp hp];rfl
 have hba:(b == a)=false:=by simpa using W0 hab
 have hre:Zd σ 1000 (ZP (.ref a 0::rest.map Zaw)) []=[a,b]:=by
  rw [href]
  show Zd σ (997+1+1+1) [a] []=_
  simp only [Zd,Xo,Xq,if_false,da,Zo,ZP,ZT,Xv,Xw,XG,Wo,hba,XaU,db]
 have hρa:Zc σ 0 [a,b] a 0=some (0,0):=by simp [Zc,Zh,ha,Zb,Zg]
 have hρb:Zc σ 0 [a,b] b 0=some (1,0):=by simp [Zc,Zh,hg,Zb,Zg,hab]
 have hargs:ZR (Zc σ 0 [a,b]) (.ref a 0::rest.map Zaw)=.ref 0 0::rest.map Zaw:=by
  rw [ZR,ZgB hp]
  simp only [ZN,hρa]
 have hheap:Ze σ 0 [a,b] (Zc σ 0 [a,b]) [a,b] 0=rk R:=by
  unfold rk
  simp only [Ze,da,db,Zg,Zb,Zf,ZR,ZN,hρb]
  rfl
 have hall:([a,b].all fun t=>okB (σ.getD t .free))=true:=by simp only [Xp,Xs,da,db,okB,WD]
 cases hO:O f (.ref 0 0::rest.map Zaw) (rk R) with
 | none =>
  rw [hO] at h
  unfold ZaG at h
  split at h <;> cases h
 | some p =>
 obtain ⟨r0,hh0⟩:=p
 rw [hO] at h
 exact Zl3 hb hsh hre rfl hall hargs hheap hO h hl1 hl2 hk hff (hr _) hlay hu
theorem ZFb {O:Zat} {bf:Nat->Bool} {f sq own k:Nat} {view:Bool} {rest rest':List AVal} {R R':List Mb} {r:AVal} {σ:Za} {a b:Nat} (h:ZaG view 2 (O f (.ref 0 0::rest') (rk R))=some (r,[.var [.sl 1 1 0 k],.row 1 2 (R'.map mbV)])) (hb:bf f=false) (hp:rest.all ZaX=true) (hn:rest.map Zaw=rest') (hr:∀ ρ,ZN ρ r=r)
  (ha:σ[a]?=some (.var [.sl b 0 0 R.length])) (hg:σ[b]?=some (.row 0 2 (R.map mbV))) (hff:ZaN σ sq own=true):ZQ O bf σ sq f own view (.ref a 0::rest)=some (r,(σ.set a (.var [.sl b 1 0 k])).set b (.row 1 2 (R'.map mbV)),{ any:=true,upd:=[(a,[.sl b 1 0 k])] }):=by
 have hab:a≠b:=by
  rintro rfl
  rw [ha] at hg;cases hg
 have hal:a < σ.length:=(Xu.1 ha).1
 have hbl:b < σ.length:=(Xu.1 hg).1
 have da:σ.getD a .free=.var [.sl b 0 0 R.length]:=by simp [Xz,ha]
 have db:σ.getD b .free=.row 0 2 (R.map mbV):=by simp [Xz,hg]
 refine Zrn h hb hp hn hr ha hg hff (by simp) (by simp) ?_ ?_ ?_
 ·simp only [Za4,okB,Xx,XC,da,db,Zbk,Zb,W7,X5,decide_true,WD]
 ·have e1:ZaM σ [a,b] sq 1 1=some (b,1):=by simp [ZaM,hg,Zb]
  have e0:Za1 σ [a,b] 1 (.row 1 2 (R'.map mbV))=1:=by simp [Za1,hg,Zb]
  simp only [ZaR,ZaH,Xm,Xn,Zf,ZR,ZN,e1,e0]
 ·have e1:((σ.set a (.var [.sl b 1 0 k])).set b (.row 1 2 (R'.map mbV)))[a]?=some (.var [.sl b 1 0 k]):=by
   rw [XB,if_neg (W0 hab),XB,if_pos rfl,if_pos hal]
  have e2:((σ.set a (.var [.sl b 1 0 k])).set b (.row 1 2 (R'.map mbV)))[b]?=some (.row 1 2 (R'.map mbV)):=by
   rw [XB,if_pos rfl,if_pos (by simpa using hbl)]
  simp only [Za7,e1,e2]
theorem Ztp {O:Zat} {bf:Nat->Bool} {f sq k:Nat} {view:Bool} {rest rest':List AVal} {R R':List Mb} {r:AVal} {σ:Za} {a b:Nat} (h:ZaG view 2 (O f (.ref 0 0::rest') (rk R))=some (r,[.var [.sl 2 0 0 k],.row 0 2 (R.map mbV),.row 0 2 (R'.map mbV)])) (hb:bf f=false) (hp:rest.all ZaX=true) (hn:rest.map Zaw=rest') (hr:∀ ρ,ZN ρ r=r)
  (ha:σ[a]?=some (.var [.sl b 0 0 R.length])) (hg:σ[b]?=some (.row 0 2 (R.map mbV))) (hff:ZaN σ sq 1=true):ZQ O bf σ sq f 1 view (.ref a 0::rest)=some (r,(σ.set a (.var [.sl sq 0 0 k])).set sq (.row 0 2 (R'.map mbV)),{ any:=true,upd:=[(a,[.sl sq 0 0 k])] }):=by
 have hab:a≠b:=by
  rintro rfl
  rw [ha] at hg;cases hg
 have hal:a < σ.length:=(Xu.1 ha).1
 have hbl:b < σ.length:=(Xu.1 hg).1
 have hsf:σ[sq]?=some .free:=by
  simp only [ZaN,XaV] at hff
  unfold freeAt at hff
  split at hff
  ·assumption
  ·cases hff
 have has:a≠sq:=by rintro rfl;rw [ha] at hsf;cases hsf
 have hbs:b≠sq:=by rintro rfl;rw [hg] at hsf;cases hsf
 have da:σ.getD a .free=.var [.sl b 0 0 R.length]:=by simp [Xz,ha]
 have db:σ.getD b .free=.row 0 2 (R.map mbV):=by simp [Xz,hg]
 refine Zrn h hb hp hn hr ha hg hff (by simp) (by simp) ?_ ?_ ?_
 ·simp only [Za4,okB,Xx,XC,Wf,da,db,Zbk,ZbV,Zb,W7,X5,decide_true,WD,beq_self_eq_true,Zce,XbB]
 ·have e2:ZaM σ [a,b] sq 2 0=some (sq,0):=by simp [ZaM]
  have e0:Za1 σ [a,b] 1 (.row 0 2 (R.map mbV))=0:=by simp [Za1,hg,Zb]
  have e3:Za1 σ [a,b] 2 (.row 0 2 (R'.map mbV))=0:=by simp [Za1,Zb]
  have eb:(σ.set a (.var [.sl sq 0 0 k])).set b (.row 0 2 (R.map mbV))=σ.set a (.var [.sl sq 0 0 k]):=by
   apply Wv
   intro i
   rw [XB]
   by_cases e:b=i
   ·subst e
    rw [if_pos rfl,if_pos (by simpa using hbl),XB,if_neg hab,hg]
   ·rw [if_neg e]
  have et:ZaH [a,b] sq 2=sq:=rfl
  simp only [ZaR,show ZaH [a,b] sq 0=a from rfl,show ZaH [a,b] sq (0+1)=b from rfl,show ZaH [a,b] sq (0+1+1)=sq from rfl,Zf,ZR,ZN,e2,show (0+1:Nat)=1 from rfl,show (0+1+1:Nat)=2 from rfl,e0,e3,eb]
 ·have e1:((σ.set a (.var [.sl sq 0 0 k])).set sq (.row 0 2 (R'.map mbV)))[a]?=some (.var [.sl sq 0 0 k]):=by
   rw [XB,if_neg (W0 has),XB,if_pos rfl,if_pos hal]
  have e2:((σ.set a (.var [.sl sq 0 0 k])).set sq (.row 0 2 (R'.map mbV)))[b]?=some (.row 0 2 (R.map mbV)):=by
   rw [XB,if_neg (W0 hbs),XB,if_neg hab,hg]
  simp only [Za7,e1,e2]
def ZfZ (f:Nat) (rest:List AVal) (R:List Mb) (r:AVal):Prop:=∀ (σ:Za) (a b:Nat),σ[a]?=some (.var [.sl b 0 0 R.length])->σ[b]?=some (.row 0 2 (R.map mbV))->∀ sq own:Nat,ZaN σ sq own=true->ZQ E BY σ sq f own true (.ref a 0::rest)=some (r,σ,{ any:=true,upd:=[(a,[.sl b 0 0 R.length])] })
theorem Zgl {f:Nat} {rest rest':List AVal} {R:List Mb} {r:AVal} (h:ZaG true 2 (E f (.ref 0 0::rest') (rk R))=some (r,rk R)) (hb:BY f=false) (hp:rest.all ZaX=true) (hn:rest.map Zaw=rest') (hr:∀ ρ,ZN ρ r=r):ZfZ f rest R r:=fun σ a b ha hg sq own hff=>Zv3 h hb hp hn hr ha hg hff
theorem ZoL (R:List Mb) (hl:R.length<=500000) (s:Tx):ZfZ 15 [.str s] R (.lst false ((ZW R s).map AVal.str)):=by
 refine Zgl (rest:=[.str s]) (rest':=[.str s]) ?_ (by kernel_rfl) rfl rfl (fun _=>rfl)
 rw [ZHg R hl s]
 by_cases hT:ZW R s=[]
 ·rw [if_pos hT,hT];exact ZkD true []
 ·rw [if_neg hT];exact ZsD _
theorem Zu9 (R:List Mb) (hl:R.length<=500000):ZfZ 20 [] R (.lst false ((Zbs [] R).map AVal.str)):=by
 obtain ⟨b,h⟩:=ZLz R hl
 refine Zgl (rest:=[]) (rest':=[]) ?_ (by kernel_rfl) rfl rfl (fun _=>rfl)
 rw [h]
 exact ZkD b _
end
section
def ZaZ (c:Tx) (l:List Tx) (R:List Mb):List Tx:=R.foldl (fun l q=>if (q.2 == c)=true then Zbo l q.1 else l) l
theorem Zqu (c:Tx):∀ (R:List Mb) (l:List Tx),(ZaZ c l R).length<=l.length+R.length
 | [],l=>X5 _
 | q::R,l=>by
  have h1:=Zqu c R (if (q.2 == c)=true then Zbo l q.1 else l)
  have h2:=Zj9 l q.1
  show (ZaZ c (if (q.2 == c)=true then Zbo l q.1 else l) R).length<=_
  simp only [Xr]
  split at h1 <;> rename_i h <;> simp only [h,if_true,if_false,Xq] <;> omega
theorem Zo1 (R:List Mb) (hl:R.length<=500000) (c:Tx):∀ (r:List Mb) (i:Nat) (l:List Tx) (b:Bool),R.drop i=r->l.length<=i->i<=R.length ->
  ∃ b',evL FC PR BY 2 [6,5,1,0] ZpY [(6,.int .i64 (i:Int)),(5,.lst b (l.map AVal.str)),(1,.str c),(0,.ref 0 0)] (rk R)=some (.exit 0,[(14,.bool false),(6,.int .i64 (R.length:Int)),(5,.lst b' ((ZaZ c l r).map AVal.str)),(1,.str c),(0,.ref 0 0)],rk R)
 | [],i,l,b,h,hli,hi=>by
  have h1:=ZbF h
  have hin:i=R.length:=by have:=Wl.1 h;omega
  subst hin
  refine ⟨b,?_⟩
  rw [show ZaZ c l []=l from rfl]
  unfold rk
  generalize R.map mbV=S at *
  generalize l.map AVal.str=L at *
  rw [ZY]
  simp -implicitDefEqProofs only [EQA,Zn,Zi,Zm,Zk,Zj,Zl,Zz,ZG,ZC,Zy,ZE,ZF,ZA,ZB,ZD,implies_true,forall_const,Xh,Xi,Xl,Xe,Xf,Xj,Xk,Zv,Zx,unA,Zt,Zu,unG,reduceCtorEq,Zr,decide_eq_true_eq,Xd,Xb,ite_self,↓reduceIte,Zs,Zw,gcT,gcA,Zq,Zd,Zc,Ze,Zh,Zb,Zg,Zf,Zo,Xc,Ze4,Zd5,Zfg,Zft,Zd7,Zfh,Zd2,Ze0,Zd3,Zfs,Zd8,Zp,ZI,ZK,ZJ,ZH,ZL,h1,AVal.cells,Zag,Z0,Zah,Z3,XF,XH,Xp,Xs,Xr,Xt,Zaa,Zae,Zab,Zaf,Zac,Xm,Xn,ZU,ZX,ZV,Z1,Z6,Z4,Z9,Z7,ZZ,Z8,Xy,XA,Xp,Xs,Xo]
 | x::r,i,l,b,h,hli,hi=>by
  obtain ⟨g1,d1,l1⟩:=ZaC h
  have h1:(i:Int) < R.length:=by omega
  have e3:=Zbh h1 (by omega)
  have hel:=fun {σ:Za} hs=>Zjg g1 (σ:=σ) hs
  have hXi:=ZiK g1
  have hp:=Zj9 l x.1
  cases hc:(x.2 == c) with
  | false =>
   obtain ⟨b',ih⟩:=Zo1 R hl c r (i+1) l b d1 (by omega) (by omega)
   refine ⟨b',?_⟩
   rw [show ZaZ c l (x::r)=ZaZ c l r from by
    show ZaZ c (if (x.2 == c)=true then Zbo l x.1 else l) r=_
    rw [hc,if_neg (by simp)]]
   unfold rk at *
   generalize R.map mbV=S at *
   generalize (ZaZ c l r).map AVal.str=Z at *
   generalize l.map AVal.str=L at *
   rw [ZY]
   simp -implicitDefEqProofs only [EQA,Zn,Zi,Zm,Zk,Zj,Zl,Zz,ZG,ZC,Zy,ZE,ZF,ZA,ZB,ZD,implies_true,forall_const,Xh,Xi,Xl,Xe,Xf,Xj,Xk,Zv,Zx,unA,Zt,Zu,unG,reduceCtorEq,Zr,decide_eq_true_eq,Xd,Xb,ite_self,↓reduceIte,Zs,Zw,gcT,gcA,Zq,Zd,Zc,Ze,Zh,Zb,Zg,Zf,Zo,Xc,Ze4,Zd5,Zfg,Zft,Zd7,Zfh,Zd2,Ze0,Zd3,Zfs,Zd8,Zp,ZI,ZK,ZJ,ZH,ZL,h1,e3,hel,hXi,hc,AVal.cells,Zag,Z0,Zah,Z3,XF,XH,Xp,Xs,Xr,Xt,Zaa,Zae,Zab,Zaf,Zac,Xm,Xn,ZU,ZX,ZV,Z1,Z6,Z4,Z9,Z7,ZZ,Z8,Xy,XA,Xp,Xs,Xo]
   exact ih
  | true =>
   obtain ⟨b',ih⟩:=Zo1 R hl c r (i+1) (Zbo l x.1) false d1 (by omega) (by omega)
   refine ⟨b',?_⟩
   rw [show ZaZ c l (x::r)=ZaZ c (Zbo l x.1) r from by
    show ZaZ c (if (x.2 == c)=true then Zbo l x.1 else l) r=_
    rw [hc,if_pos rfl]]
   have hC:=fun σ sq own=>ZtB l b x.1 (by omega) σ sq own
   unfold rk at *
   generalize R.map mbV=S at *
   generalize (ZaZ c (Zbo l x.1) r).map AVal.str=Z at *
   generalize (Zbo l x.1).map AVal.str=L2 at *
   generalize l.map AVal.str=L at *
   rw [ZY]
   simp -implicitDefEqProofs only [EQA,Zn,Zi,Zm,Zk,Zj,Zl,Zz,ZG,ZC,Zy,ZE,ZF,ZA,ZB,ZD,implies_true,forall_const,Xh,Xi,Xl,Xe,Xf,Xj,Xk,Zv,Zx,unA,Zt,Zu,unG,reduceCtorEq,Zr,decide_eq_true_eq,Xd,Xb,ite_self,↓reduceIte,Zs,Zw,gcT,gcA,Zq,Zd,Zc,Ze,Zh,Zb,Zg,Zf,Zo,Xc,Ze4,Zd5,Zfg,Zft,Zd7,Zfh,Zd2,Ze0,Zd3,Zfs,Zd8,Zp,ZI,ZK,ZJ,ZH,ZL,h1,e3,hel,hXi,hc,hC,AVal.cells,Zag,Z0,Zah,Z3,XF,XH,Xp,Xs,Xr,Xt,Zaa,Zae,Zab,Zaf,Zac,Xm,Xn,ZU,ZX,ZV,Z1,Z6,Z4,Z9,Z7,ZZ,Z8,Xy,XA,Xp,Xs,Xo]
   exact ih
def r1 (X:List AVal) (R:List Mb):Za:=[.var [.sl 2 0 0 R.length],.row 0 2 X,.row 0 2 (R.map mbV)]
theorem ZCA {s c:Tx} {R:List Mb} (hl:R.length<=1000000) (hc:R.contains (s,c)=true):ZaG true 2 (E 10 [.ref 0 0,.str s,.str c] (rk R))=some (.bool true,[.var [.sl 2 0 0 (R.erase (s,c)).length],.row 0 2 (R.map mbV),.row 0 2 ((R.erase (s,c)).map mbV)]):=by
 rw [ZyL hl hc]
 generalize R.map mbV=S
 generalize (R.erase (s,c)).map mbV=S2
 rfl
theorem ZG0 {s c:Tx} {R:List Mb} (hl:R.length<=1000000) (hc:R.contains (s,c)=false):ZaG true 2 (E 10 [.ref 0 0,.str s,.str c] (rk R))=some (.bool false,rk R):=by
 rw [ZLk hl hc]
 exact Zmp rfl rfl (fun _=>rfl) (by simp)
theorem Zq7 {s c:Tx} {R:List Mb} (hl:R.length<=1000000) (hc:R.contains (s,c)=false):ZfZ 10 [.str s,.str c] R (.bool false) :=
 Zgl (rest:=[.str s,.str c]) (rest':=[.str s,.str c]) (ZG0 hl hc) (by kernel_rfl) rfl rfl (fun _=>rfl)
theorem Zqi {s c:Tx} {R:List Mb} (hl:R.length<=1000000) (hc:R.contains (s,c)=true) {σ:Za} {a b sq:Nat} (ha:σ[a]?=some (.var [.sl b 0 0 R.length])) (hg:σ[b]?=some (.row 0 2 (R.map mbV))) (hff:ZaN σ sq 1=true):ZQ E BY σ sq 10 1 true [.ref a 0,.str s,.str c]=some (.bool true,(σ.set a (.var [.sl sq 0 0 (R.erase (s,c)).length])).set sq (.row 0 2 ((R.erase (s,c)).map mbV)),{ any:=true,upd:=[(a,[.sl sq 0 0 (R.erase (s,c)).length])] }) :=
 Ztp (rest:=[.str s,.str c]) (rest':=[.str s,.str c]) (ZCA hl hc) (by kernel_rfl) rfl rfl (fun _=>rfl) ha hg hff
theorem Zrs (c:Tx) (T:List Tx) (b:Bool) (X:List AVal) (hT:T.length<=1000000):∀ (r:List Tx) (i:Nat) (R:List Mb),T.drop i=r->R.length<=500000 ->
  ZfE 2 [(7,.int .i64 (i:Int)),(5,.lst b (T.map AVal.str)),(1,.str c),(0,.ref 0 0)] (r1 X R)=some (.lst b (T.map AVal.str),r1 X (Zb6 R c r))
 | [],i,R,h,hl=>by
  have h1:=ZbF h
  have hm:(T.map AVal.str).length=T.length:=by simp
  rw [show Zb6 R c []=R from rfl]
  unfold ZfE r1
  generalize R.map mbV=S at *
  generalize T.map AVal.str=L at *
  rw [ZY]
  simp -implicitDefEqProofs only [EQA,Zn,Zi,Zm,Zk,Zj,Zl,Zz,ZG,ZC,Zy,ZE,ZF,ZA,ZB,ZD,implies_true,forall_const,Xh,Xi,Xl,Xe,Xf,Xj,Xk,Zv,Zx,unA,Zt,Zu,unG,reduceCtorEq,Zr,decide_eq_true_eq,Xd,Xb,ite_self,↓reduceIte,Zs,Zw,gcT,gcA,Zq,Zd,Zc,Ze,Zh,Zb,Zg,Zf,Zo,Xc,Ze4,Zd5,Zfg,Zft,Zd7,Zfh,Zd2,Ze0,Zd3,Zfs,Zd8,Zp,ZI,ZK,ZJ,ZH,ZL,h1,hm,AVal.cells,Zag,Z0,Zah,Z3,XF,XH,Xp,Xs,Xr,Xt,Zaa,Zae,Zab,Zaf,Zac,Xm,Xn,ZU,ZX,ZV,Z1,Z6,Z4,Z9,Z7,ZZ,Z8,Xy,XA,Xp,Xs,Xo]
  simp -implicitDefEqProofs only [EQA,Zan,gcA,Zq,ZP,Xw,Xv,Xc,XP,XJ,XD,XM,Xm,Xn,Zal,Zak,Zay,Zaz,Zax,XT,XU,id_eq,ZR,Zd,Zo,ZT,Ze,Zf,ZN,Xo,Zc,Zh,Zb,Zg,Zn,Zi,Zm,Zk,Zj,Zl,Zz,ZG,ZC,Zy,ZE,ZF,ZA,ZB,ZD,implies_true,forall_const,Xh,Xi,Xl,Xe,Xf,Xj,Xk,Zv,Zx,unA,Zt,Zu,unG,reduceCtorEq,Zr,decide_eq_true_eq,Xd,Xb,ite_self,↓reduceIte,Zs,Zw,gcT,gcA,Zq,Zd,Zc,Ze,Zh,Zb,Zg,Zf,Zo,Xc,or_false]
 | s::r,i,R,h,hl=>by
  obtain ⟨g1,d1,l1⟩:=ZaC h
  have h1:(i:Int) < T.length:=by omega
  have e1:=iad g1 AVal.str (k:=1) rfl
  have e3:=Zbh h1 (by omega)
  have hm:(T.map AVal.str).length=T.length:=by simp
  rw [show Zb6 R c (s::r)=Zb6 (R.erase (s,c)) c r from rfl]
  have ih:=Zrs c T b X hT r (i+1) (R.erase (s,c)) d1 (Xao Xaz hl)
  cases hc:R.contains (s,c) with
  | false =>
   have hC:=fun (σ:Za) (ha:σ[0]?=some (.var [.sl 2 0 0 R.length])) (hg:σ[2]?=some (.row 0 2 (R.map mbV))) sq own hff=>Zq7 (s:=s) (c:=c) (R:=R) (by omega) hc σ 0 2 ha hg sq own hff
   rw [List.erase_of_not_mem (Zeq.1 hc)] at ih ⊢
   unfold ZfE r1 at *
   generalize (Zb6 R c r).map mbV=Z at *
   generalize R.map mbV=S at *
   generalize T.map AVal.str=L at *
   rw [ZY]
   simp -implicitDefEqProofs only [EQA,Zn,Zi,Zm,Zk,Zj,Zl,Zz,ZG,ZC,Zy,ZE,ZF,ZA,ZB,ZD,implies_true,forall_const,Xh,Xi,Xl,Xe,Xf,Xj,Xk,Zv,Zx,unA,Zt,Zu,unG,reduceCtorEq,Zr,decide_eq_true_eq,Xd,Xb,ite_self,↓reduceIte,Zs,Zw,gcT,gcA,Zq,Zd,Zc,Ze,Zh,Zb,Zg,Zf,Zo,Xc,Ze4,Zd5,Zfg,Zft,Zd7,Zfh,Zd2,Ze0,Zd3,Zfs,Zd8,Zp,ZI,ZK,ZJ,ZH,ZL,h1,e1,e3,hm,hC,ZaN,AVal.cells,Zag,Z0,Zah,Z3,XF,XH,Xp,Xs,Xr,Xt,Zaa,Zae,Zab,Zaf,Zac,Xm,Xn,ZU,ZX,ZV,Z1,Z6,Z4,Z9,Z7,ZZ,Z8,Xy,XA,Xp,Xs,Xo]
   exact ih
  | true =>
   have hC:=fun (σ:Za) (sq:Nat) (ha:σ[0]?=some (.var [.sl 2 0 0 R.length])) (hg:σ[2]?=some (.row 0 2 (R.map mbV))) hff=>Zqi (s:=s) (c:=c) (R:=R) (by omega) hc (σ:=σ) (a:=0) (b:=2) (sq:=sq) ha hg hff
   unfold ZfE r1 at *
   generalize (Zb6 (R.erase (s,c)) c r).map mbV=Z at *
   generalize (R.erase (s,c)).map mbV=S2 at *
   generalize R.map mbV=S at *
   generalize T.map AVal.str=L at *
   rw [ZY]
   simp -implicitDefEqProofs only [EQA,Zn,Zi,Zm,Zk,Zj,Zl,Zz,ZG,ZC,Zy,ZE,ZF,ZA,ZB,ZD,implies_true,forall_const,Xh,Xi,Xl,Xe,Xf,Xj,Xk,Zv,Zx,unA,Zt,Zu,unG,reduceCtorEq,Zr,decide_eq_true_eq,Xd,Xb,ite_self,↓reduceIte,Zs,Zw,gcT,gcA,Zq,Zd,Zc,Ze,Zh,Zb,Zg,Zf,Zo,Xc,Ze4,Zd5,Zfg,Zft,Zd7,Zfh,Zd2,Ze0,Zd3,Zfs,Zd8,Zp,ZI,ZK,ZJ,ZH,ZL,h1,e1,e3,hm,hC,ZaN,AVal.cells,Zag,Z0,Zah,Z3,XF,XH,Xp,Xs,Xr,Xt,Zaa,Zae,Zab,Zaf,Zac,Xm,Xn,ZU,ZX,ZV,Z1,Z6,Z4,Z9,Z7,ZZ,Z8,Xy,XA,Xp,Xs,Xo]
   exact ih
theorem ZzC (c:Tx) (T:List Tx) (b:Bool) (hT:T.length<=1000000) (R:List Mb) (hl:R.length<=500000) (h0:∀ s r,T=s::r->R.contains (s,c)=true) :
  ZfE 2 [(7,.int .i64 0),(5,.lst b (T.map AVal.str)),(1,.str c),(0,.ref 0 0)] (rk R)=some (.lst b (T.map AVal.str),if T=[] then rk R else r1 (R.map mbV) (Zb6 R c T)):=by
 cases T with
 | nil =>
  have h1:¬(0:Int) < ((0:Nat):Int):=by decide
  rw [if_pos rfl]
  unfold ZfE rk
  generalize R.map mbV=S at *
  rw [ZY]
  simp only [List.map_nil]
  simp -implicitDefEqProofs only [EQA,Zn,Zi,Zm,Zk,Zj,Zl,Zz,ZG,ZC,Zy,ZE,ZF,ZA,ZB,ZD,implies_true,forall_const,Xh,Xi,Xl,Xe,Xf,Xj,Xk,Zv,Zx,unA,Zt,Zu,unG,reduceCtorEq,Zr,decide_eq_true_eq,Xd,Xb,ite_self,↓reduceIte,Zs,Zw,gcT,gcA,Zq,Zd,Zc,Ze,Zh,Zb,Zg,Zf,Zo,Xc,Ze4,Zd5,Zfg,Zft,Zd7,Zfh,Zd2,Ze0,Zd3,Zfs,Zd8,Zp,ZI,ZK,ZJ,ZH,ZL,h1,Xt,AVal.cells,Zag,Z0,Zah,Z3,XF,XH,Xp,Xs,Xr,Xt,Zaa,Zae,Zab,Zaf,Zac,Xm,Xn,ZU,ZX,ZV,Z1,Z6,Z4,Z9,Z7,ZZ,Z8,Xy,XA,Xp,Xs,Xo]
  simp -implicitDefEqProofs only [EQA,Zan,gcA,Zq,ZP,Xw,Xv,Xc,XP,XJ,XD,XM,Xm,Xn,Zal,Zak,Zay,Zaz,Zax,XT,XU,id_eq,ZR,Zd,Zo,ZT,Ze,Zf,ZN,Xo,Zc,Zh,Zb,Zg,Zn,Zi,Zm,Zk,Zj,Zl,Zz,ZG,ZC,Zy,ZE,ZF,ZA,ZB,ZD,implies_true,forall_const,Xh,Xi,Xl,Xe,Xf,Xj,Xk,Zv,Zx,unA,Zt,Zu,unG,reduceCtorEq,Zr,decide_eq_true_eq,Xd,Xb,ite_self,↓reduceIte,Zs,Zw,gcT,gcA,Zq,Zd,Zc,Ze,Zh,Zb,Zg,Zf,Zo,Xc,or_false]
 | cons s r =>
  have hc:=h0 s r rfl
  rw [if_neg (by simp)]
  have ih:=Zrs c (s::r) b (R.map mbV) hT r 1 (R.erase (s,c)) rfl (Xao Xaz hl)
  have e1:=iad (show (s::r)[0]?=some s from rfl) AVal.str (k:=1) rfl
  have z0:((0:Nat):Int)=0:=rfl
  have z1:((1:Nat):Int)=1:=rfl
  rw [z0] at e1
  rw [z1] at ih
  have h1:(0:Int) < ((s::r).length:Nat):=by simp only [Xr];omega
  have e3:IntKind.i64.wrap (0+1)=1:=by decide
  have hm:((s::r).map AVal.str).length=(s::r).length:=X7 ..
  have hC:=fun (σ:Za) (sq:Nat) (ha:σ[0]?=some (.var [.sl 1 0 0 R.length])) (hg:σ[1]?=some (.row 0 2 (R.map mbV))) hff=>Zqi (s:=s) (c:=c) (R:=R) (by omega) hc (σ:=σ) (a:=0) (b:=1) (sq:=sq) ha hg hff
  rw [show Zb6 R c (s::r)=Zb6 (R.erase (s,c)) c r from rfl]
  unfold ZfE r1 rk at *
  generalize (Zb6 (R.erase (s,c)) c r).map mbV=Z at *
  generalize (R.erase (s,c)).map mbV=S2 at *
  generalize R.map mbV=S at *
  generalize (s::r).map AVal.str=L at *
  generalize (s::r).length=k at *
  rw [ZY]
  simp -implicitDefEqProofs only [EQA,Zn,Zi,Zm,Zk,Zj,Zl,Zz,ZG,ZC,Zy,ZE,ZF,ZA,ZB,ZD,implies_true,forall_const,Xh,Xi,Xl,Xe,Xf,Xj,Xk,Zv,Zx,unA,Zt,Zu,unG,reduceCtorEq,Zr,decide_eq_true_eq,Xd,Xb,ite_self,↓reduceIte,Zs,Zw,gcT,gcA,Zq,Zd,Zc,Ze,Zh,Zb,Zg,Zf,Zo,Xc,Ze4,Zd5,Zfg,Zft,Zd7,Zfh,Zd2,Ze0,Zd3,Zfs,Zd8,Zp,ZI,ZK,ZJ,ZH,ZL,h1,e1,e3,hm,hC,ZaN,AVal.cells,Zag,Z0,Zah,Z3,XF,XH,Xp,Xs,Xr,Xt,Zaa,Zae,Zab,Zaf,Zac,Xm,Xn,ZU,ZX,ZV,Z1,Z6,Z4,Z9,Z7,ZZ,Z8,Xy,XA,Xp,Xs,Xo]
  exact ih
theorem ZtH (R:List Mb) (hl:R.length<=500000) (c:Tx) (h0:∀ s r,ZaZ c [] R=s::r->R.contains (s,c)=true):∃ b,E 13 [.ref 0 0,.str c] (rk R)=some (.lst b ((ZaZ c [] R).map AVal.str),if ZaZ c [] R=[] then rk R else r1 (R.map mbV) (Zb6 R c (ZaZ c [] R))):=by
 obtain ⟨b,h⟩:=Zo1 R hl c R 0 [] true rfl (X5 _) (W7 _)
 have hTl:=Zqu c R []
 have h2:=ZzC c (ZaZ c [] R) b (by simp at hTl;omega) R hl h0
 refine ⟨b,?_⟩
 have z0:((0:Nat):Int)=0:=rfl
 rw [z0,show ([]:List Tx).map AVal.str=[] from rfl] at h
 rw [<-h2]
 unfold ZfE rk at *
 generalize R.map mbV=S at *
 generalize (ZaZ c [] R).map AVal.str=Z at *
 rw [ZaJ (by rfl) ZKl]
 simp -implicitDefEqProofs only [EQA,Zn,Zi,Zm,Zk,Zj,Zl,Zz,ZG,ZC,Zy,ZE,ZF,ZA,ZB,ZD,implies_true,forall_const,Xh,Xi,Xl,Xe,Xf,Xj,Xk,Zv,Zx,unA,Zt,Zu,unG,reduceCtorEq,Zr,decide_eq_true_eq,Xd,Xb,ite_self,↓reduceIte,Zs,Zw,gcT,gcA,Zq,Zd,Zc,Ze,Zh,Zb,Zg,Zf,Zo,Xc,Ze4,Zd5,Zfg,Zft,Zd7,Zfh,Zd2,Ze0,Zd3,Zfs,Zd8,Zp,ZI,ZK,ZJ,ZH,ZL,h,AVal.cells,Za6,if_true]
end
end Go.Proofs.YtlekmfmkkcpbcaaDoor
