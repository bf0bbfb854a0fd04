/- packed -/
import Derived.Test.YtbcbhgbffjkheaaDoorMq4
import Derived.Test.YtbcbhgbffjkheaaDoorMq3
set_option linter.defProp false
set_option linter.unusedSimpArgs false
set_option linter.unusedVariables false
open Nat renaming reduceEqDiff→Xb,reduceLT→Xd,reduceLeDiff→Xe,reduceAdd→Xf,reduceBEq→Xg,zero_add→Xv,le_refl→XD,add_assoc→Wf,one_mul→Wv,zero_le→Xay,le_trans→XaU,sub_zero→Xa9,reduceMul→Xbv
open List renaming getElem?_eq_some_iff→Xh,getD_eq_getElem?_getD→Xi,length_append→Xk,length_cons→Xm,map_cons→Xn,map_nil→Xo,mem_append→Xs,length_nil→Xu,mem_of_getElem?→Xx,take_of_length_le→Xy,replicate→XA,getElem?_eq_getElem→XB,append_nil→XC,getElem?_cons_zero→XE,all_eq_true→XF,map_append→XH,length_map→XL,getElem?_take→XO,getElem?_cons_succ→XP,getElem?_set_ne→XS,nil_append→XU,length_drop→XV,all_cons→XW,length_take→X0,getD_cons_zero→X1,append_assoc→Wa,getElem?_set_self→Wb,all_nil→Wc,drop_eq_nil_iff→Wl,cons_append→Wm,isEmpty_nil→Wo,getD_cons_succ→Wq,range_succ→Ww,getElem?_append_right→Wy,flatten_cons→WD,isEmpty_cons→WE,contains_cons→WP,take_append_of_le_length→WR,length_singleton→WT,singleton_append→WU,drop_zero→W2,lookup_nil→W4,flatten_nil→W9,lookup_cons→XaG,filter_cons→Xa3,length→Xa6
open Bool renaming false_eq_true→Xl,false_and→X8,and_self→Wp,true_and→WN,true_or→Xah,or_true→Xan,and_true→Xao,not_eq_true→Xar,eq_iff_iff→Xav,or_false→XaB,not_false→XaT,false_or→Xa5
open Or renaming inl→Xp,inr→Xt
open Int renaming reduceBEq→Xw,toNat_natCast→X3,le_refl→W0,lt_tmod_of_pos→Xbc,tmod_lt_of_pos→Xbd
open BitVec renaming ofInt→XJ
open UInt8 renaming ofNat→XK,toNat_ofNat'→Wk
open Option renaming map→XY
namespace Go.Proofs.YtbcbhgbffjkheaaDoor
set_option maxHeartbeats 16000000
set_option maxRecDepth 10000
section
theorem ZvL(l:List Int)(hl:l.length<=9223372036854775807)(v:Int):∀ (r:List Int) (i:Nat),l.drop i=r ->
  ∃ z,Zi2 0 [(8,.int .i64 i),(7,.int .i64 l.length),(1,.int .i64 v),(0,.lst false (l.map (AVal.int .i64 ·)))] []=some (.int .i64 z,[])/\decide (z>=0)=r.contains v
 | [],i,h=>by
  have h1:=ZcG h
  refine⟨-1,?_,by simp⟩
  unfold Zi2
  rw[Zr]
  simp only[EQA,Xd,Xb,reduceCtorEq,↓reduceIte,ZvV,ZSO,Zq9,Zpt,Zi6,Zb,h1]
 |x::r,i,h=>by
  obtain⟨z,ih,hz⟩:=ZvL l hl v r (i+1) (ZP h).2.1
  have h1:(i:Int)<l.length:=by have:=(ZP h).2.2;omega
  have e1:=iad (ZP h).1 (AVal.int .i64 ·) (k:=1) rfl
  have e3:=Zcp h1 hl
  cases hb:(v==x)
  ·refine⟨z,?_,by rw[hz];simp only[WP,hb,Xa5]⟩
   unfold Zi2 at ih ⊢
   rw[Zr]
   have hb':(x==v)=false:=by simp only[beq_eq_false_iff_ne,ne_eq]at hb ⊢;exact fun e=>hb e.symm
   simp only[EQA,ZR,ZB,Xd,Xb,reduceCtorEq,↓reduceIte,gcT,gcA,gcIds,reach,heapOf,refsB,Zpt,Zi6,Zb,h1,e1,e3,hb]
   exact ih
  ·refine⟨i,?_,by simp only[WP,hb,Xah];simp⟩
   have hb':(x==v)=true:=by simp only[beq_iff_eq]at hb ⊢;exact hb.symm
   unfold Zi2 at ih ⊢
   rw[Zr]
   simp only[EQA,ZR,Xd,Xb,reduceCtorEq,↓reduceIte,ZvV,Zpt,Zi6,Zb,h1,e1,hb]
theorem ZNi(l:List Int)(hl:l.length<=9223372036854775807)(v:Int):∃ z,E 102 [Zbm l,.int .i64 v] []=some (.int .i64 z,[])/\decide (z>=0)=l.contains v:=by
 obtain⟨z,h,hz⟩:=ZvL l hl v l 0 rfl
 refine⟨z,?_,hz⟩
 have z0:((0:Nat):Int)=0:=rfl
 rw[z0]at h
 unfold Zi2 at h
 rw[Zg (by rfl) ZMP]
 simp only[EQA,ZB,Xd,Xb,reduceCtorEq,↓reduceIte,gcT,gcA,gcIds,reach,heapOf,refsB,ZNO,ZnF,Zb,Zbm,Zbm]
 exact h
theorem ZCL(l:List Int)(hl:l.length<=9223372036854775807)(v:Int):E 100 [Zbm l,.int .i64 v] []=some (.bool (l.contains v),[]):=by
 obtain⟨z,h,hz⟩:=ZNi l hl v
 have hC:∀ (σ:Za) (sq own:Nat) (view:Bool),Zl E BY σ sq 102 own view [.lst false (l.map (AVal.int .i64 ·)),.int .i64 v]=some (.int .i64 z,σ,{}):=fun σ sq own view=>ZcC (h) (by kernel_rfl) (by simp only[Zba,Zbz,eq_self,Zbm,Zbm]) (by simp only[ZR,Zbz,eq_self,Zbm,Zbm]) rfl (fun _=>rfl) _ _ _ _
 rw[Zg (by rfl) ZE1]
 rw[<-hz]
 simp only[EQA,Xd,Xb,reduceCtorEq,↓reduceIte,ZND,Zrs,ZFM,Zb,Zbm,hC]
theorem ZP5(σ:Za)(sq own:Nat)(l:List Int)(hl:l.length<=9223372036854775807)(v:Int)(b:Bool):Zl E BY σ sq 100 own true [.lst b (l.map (AVal.int .i64 ·)),.int .i64 v]=some (.bool (l.contains v),σ,{}) :=
 Zal (ZCL l hl v) (by kernel_rfl) rfl rfl rfl (fun _=>rfl) _ _ _
def Za6(ids:List Int)(l:List Zp):List Zp:=l.filter fun p=>ids.contains p.id
theorem ZsQ(ids:List Int)(hi:ids.length<=9223372036854775807)(l:List Zp)(hl:l.length*72<=140737488355328)(hd:∀ p∈l,p.data.length<=140737488355328)(full:List AVal):∀ (r:List Zp) (i:Nat) (acc:List Zp),l.drop i=r->acc.length+r.length<=l.length->full=(acc++Za6 ids r).map Zi ->
  Zkc 0 [(10,.int .i64 i),(9,.int .i64 l.length),(8,.lst false (l.map Zi)),(5,ZaX (acc.map Zi)),(1,.lst false (ids.map (AVal.int .i64 ·)))] (ZaS 5 (acc.map Zi))=some (ZaX full,ZaS 5 full)
 | [],i,acc,h,_,hf=>by
  have h1:=ZcG h
  have e:acc++Za6 ids []=acc:=by simp[Za6]
  rw[e]at hf
  subst hf
  unfold Zkc
  rw[Zr]
  cases acc with
  |nil=>simp only[EQA,Zk,Xd,Xb,↓reduceIte,Zxa,Zu2,Zkw,Zhu,ZfX,Zb,h1,ZaZ,ZaF]
  |cons a acc=>simp only[EQA,Xd,Xb,↓reduceIte,Zxa,Zu2,Zkw,Zhu,ZfX,Zb,Zf,Zi,ZZ,h1,Zbi,Za0,ZlY]
 |p::r,i,acc,h,hn,hf=>by
  have h1:(i:Int)<l.length:=by have:=(ZP h).2.2;omega
  have e1:=iad (ZP h).1 Zi (k:=5) rfl
  have e3:=Zcp h1 (by omega)
  have hC:=fun σ sq own=>ZvW σ sq own p (hd p (Xx (ZP h).1))
  have hK:=fun σ sq own b=>ZP5 σ sq own ids hi p.id b
  cases hb:ids.contains p.id
  ·have e:Za6 ids (p::r)=Za6 ids r:=by unfold Za6;rw[Xa3,hb];rfl
   rw[e]at hf
   have ih:=ZsQ ids hi l hl hd full r (i+1) acc (ZP h).2.1 (by simp at hn;omega) hf
   clear hf
   rw[hb]at hK
   unfold Zkc at ih ⊢
   rw[Zr]
   cases acc with
   |nil =>
    simp only[EQA,ZR,ZB,Xf,Xd,Xe,Xb,Xg,↓reduceIte,gcT,gcA,gcIds,reach,heapOf,refsB,Zhu,ZfX,Zb,Zf,Zi,ZZ,h1,e1,e3,hK,ZaZ,ZaF]
    exact ih
   |cons a acc =>
    simp only[EQA,ZR,ZB,ZX,Xf,Xd,Xe,Xb,Xg,↓reduceIte,gcT,gcA,gcIds,reach,rhoOf,heapOf,idxA,genB,newGen,renB,refsB,Zhu,ZfX,Zb,Zf,Zi,ZZ,h1,e1,e3,hK,Zbi,Za0]
    simp only[Xn,Zbi,Za0,Xm,XL,Zi,ZZ,Zf]at ih
    exact ih
  ·have e:acc++Za6 ids (p::r)=(acc++[p])++Za6 ids r:=by unfold Za6;rw[Xa3,hb];simp
   rw[e]at hf
   have ih:=ZsQ ids hi l hl hd full r (i+1) (acc++[p]) (ZP h).2.1 (by simp at hn ⊢;omega) hf
   clear hf
   rw[hb]at hK
   unfold Zkc at ih ⊢
   rw[Zr]
   cases acc with
   |nil =>
    simp only[EQA,ZB,ZX,Xf,Xd,Xe,Xb,Xg,Zq,↓reduceIte,gcT,gcA,gcIds,reach,rhoOf,heapOf,idxA,genB,newGen,renB,refsB,Zhu,ZfX,Zb,Zf,Zi,ZZ,h1,e1,e3,hK,hC,ZaZ,ZaF,ZI,kOk,viewAs,Zv,Zs,Zao,Zj,Wv,AVal.cells]
    simp only[Xn,Xo,XU,Zbi,Za0,Xm,Xu,Zi,ZZ,Zf,Xv]at ih
    exact ih
   |cons a acc =>
    have hz:(acc.length+1+1)*72<=140737488355328:=by simp at hn;omega
    simp only[EQA,ZB,ZX,Xf,Xd,Xe,Xb,Xg,reduceCtorEq,Zq,↓reduceIte,gcT,gcA,gcIds,reach,rhoOf,heapOf,idxA,genB,newGen,renB,refsB,Zhu,ZfX,Zb,Zf,Zi,ZZ,h1,e1,e3,hK,hC,Zbi,Za0,ZI,kOk,viewAs,Zv,Zs,Zao,Zj,AVal.cells,hz]
    simp only[XH,Xn,Xo,Wm,Zbi,Za0,Xk,Xm,XL,Xu,Zi,ZZ,Zf,Xv,Wf,Xf]at ih
    exact ih
theorem ZC6(ids:List Int)(hi:ids.length<=9223372036854775807)(l:List Zp)(hl:l.length*72<=140737488355328)(hd:∀ p∈l,p.data.length<=140737488355328):E 88 [ZD l,Zbm ids] []=some (ZaX ((Za6 ids l).map Zi),ZaS 5 ((Za6 ids l).map Zi)):=by
 have:=ZsQ ids hi l hl hd ((Za6 ids l).map Zi) l 0 [] rfl (by simp) (by simp)
 have z0:((0:Nat):Int)=0:=rfl
 rw[z0,Xo,ZaZ,ZaF]at this
 unfold Zkc at this
 rw[Zg (by rfl) ZBC]
 simp only[EQA,ZB,Xd,Xb,reduceCtorEq,↓reduceIte,gcT,gcA,gcIds,reach,heapOf,refsB,ZNF,Ztr,Zb,Zbm,ZD,Zbm]
 exact this
theorem ZHO(σ:Za)(sq own:Nat)(b:Bool)(ids:List Int)(hi:ids.length<=9223372036854775807)(l:List Zp)(hl:l.length*72<=140737488355328)(hd:∀ p∈l,p.data.length<=140737488355328)(b':Bool):Zl E BY σ sq 88 own true [.lst b' (l.map Zi),.lst b (ids.map (AVal.int .i64 ·))]=some (.lst false ((Za6 ids l).map Zi),σ,{}) :=
 ZsL (ZC6 ids hi l hl hd) (by kernel_rfl) rfl rfl σ sq own
def Zdp(l:List Zp):List Zp:=Za6 [1,3,8,9,38] l
theorem ZFk(l:List Zp)(hl:l.length*72<=140737488355328)(hd:∀ p∈l,p.data.length<=140737488355328):E 62 [ZD l] []=some (ZD (Zdp l),[]):=by
 have hC:=fun σ sq own b b'=>ZHO σ sq own b [1,3,8,9,38] (by decide) l hl hd b'
 simp only[Xn,Xo]at hC
 have e:Za6 [1,3,8,9,38] l=Zdp l:=rfl
 rw[e]at hC
 rw[Zg (by rfl) ZIo]
 simp only[EQA,Zk,Xd,Xb,reduceCtorEq,↓reduceIte,ZNt,ZoK,ZIC,Zb,ZD,hC,viewAs,Zv,Zs,Zj,AVal.cells]
theorem ZG3(σ:Za)(sq own:Nat)(b:Bool)(l:List Zp)(hl:l.length*72<=140737488355328)(hd:∀ p∈l,p.data.length<=140737488355328):Zl E BY σ sq 62 own true [.lst b (l.map Zi)]=some (.lst false ((Zdp l).map Zi),σ,{}) :=
 Zal (ZFk l hl hd) (by kernel_rfl) rfl rfl rfl (fun _=>rfl) σ sq own
theorem Zql(ids:List Int)(hi:ids.length<=9223372036854775807)(l:List Zp)(hl:l.length*72<=140737488355328)(full:List AVal):∀ (r:List Zp) (i:Nat) (acc:List Zp),l.drop i=r->acc.length+r.length<=l.length->full=(acc++Za6 ids r).map Zi ->
  Zkh 0 [(6,.int .i64 i),(5,ZaX (acc.map Zi)),(1,.lst false (ids.map (AVal.int .i64 ·))),(0,.lst false (l.map Zi))] (ZaS 5 (acc.map Zi))=some (ZaX full,ZaS 5 full)
 | [],i,acc,h,_,hf=>by
  have h1:=ZcG h
  have e:acc++Za6 ids []=acc:=by simp[Za6]
  rw[e]at hf
  subst hf
  unfold Zkh
  rw[Zr]
  cases acc with
  |nil=>simp only[EQA,Zk,Xd,Xb,reduceCtorEq,↓reduceIte,ZvM,Zvs,Zmf,ZhQ,ZgG,Zb,h1,ZaZ,ZaF]
  |cons a acc=>simp only[EQA,Xd,Xb,reduceCtorEq,↓reduceIte,ZvM,Zvs,Zmf,ZhQ,ZgG,Zb,Zf,Zi,ZZ,h1,Zbi,Za0,ZlY]
 |p::r,i,acc,h,hn,hf=>by
  have h1:(i:Int)<l.length:=by have:=(ZP h).2.2;omega
  have e1:=iad (ZP h).1 Zi (k:=5) rfl
  have e3:=Zcp h1 (by omega)
  have hK:=fun σ sq own b=>ZwN σ sq own ids hi p.id b
  cases hb:ids.contains p.id
  ·have e:Za6 ids (p::r)=Za6 ids r:=by unfold Za6;rw[Xa3,hb];rfl
   rw[e]at hf
   have ih:=Zql ids hi l hl full r (i+1) acc (ZP h).2.1 (by simp at hn;omega) hf
   clear hf
   rw[hb]at hK
   unfold Zkh at ih ⊢
   rw[Zr]
   cases acc with
   |nil =>
    simp only[EQA,ZR,ZB,Xd,Xb,reduceCtorEq,↓reduceIte,gcT,gcA,gcIds,reach,heapOf,refsB,ZhQ,ZgG,Zb,Zf,Zi,ZZ,h1,e1,e3,hK,ZaZ,ZaF]
    exact ih
   |cons a acc =>
    simp only[EQA,ZR,ZB,ZX,Xd,Xe,Xb,reduceCtorEq,↓reduceIte,gcT,gcA,gcIds,reach,rhoOf,heapOf,idxA,genB,newGen,renB,refsB,ZhQ,ZgG,Zb,Zf,Zi,ZZ,h1,e1,e3,hK,Zbi,Za0]
    simp only[Xn,Zbi,Za0,Xm,XL,Zi,ZZ,Zf]at ih
    exact ih
  ·have e:acc++Za6 ids (p::r)=(acc++[p])++Za6 ids r:=by unfold Za6;rw[Xa3,hb];simp
   rw[e]at hf
   have ih:=Zql ids hi l hl full r (i+1) (acc++[p]) (ZP h).2.1 (by simp at hn ⊢;omega) hf
   clear hf
   rw[hb]at hK
   unfold Zkh at ih ⊢
   rw[Zr]
   cases acc with
   |nil =>
    simp only[EQA,ZB,ZX,Xf,Xd,Xe,Xb,Xg,reduceCtorEq,Zq,↓reduceIte,gcT,gcA,gcIds,reach,rhoOf,heapOf,idxA,genB,newGen,renB,refsB,ZhQ,ZgG,Zb,Zf,Zi,ZZ,h1,e1,e3,hK,ZaZ,ZaF,ZI,kOk,viewAs,Zv,Zs,Zao,Zj,Wv,AVal.cells]
    simp only[Xn,Xo,XU,Zbi,Za0,Xm,Xu,Zi,ZZ,Zf,Xv]at ih
    exact ih
   |cons a acc =>
    have hz:(acc.length+1+1)*72<=140737488355328:=by simp at hn;omega
    simp only[EQA,ZB,ZX,Xf,Xd,Xe,Xb,Xg,reduceCtorEq,Zq,↓reduceIte,gcT,gcA,gcIds,reach,rhoOf,heapOf,idxA,genB,newGen,renB,refsB,ZhQ,ZgG,Zb,Zf,Zi,ZZ,h1,e1,e3,hK,Zbi,Za0,ZI,kOk,viewAs,Zv,Zs,Zao,Zj,AVal.cells,hz]
    simp only[XH,Xn,Xo,Wm,Zbi,Za0,Xk,Xm,XL,Xu,Zi,ZZ,Zf,Xv,Wf,Xf]at ih
    exact ih
theorem ZSi(ids:List Int)(hi:ids.length<=9223372036854775807)(l:List Zp)(hl:l.length*72<=140737488355328):E 56 [ZD l,Zbm ids] []=some (ZaX ((Za6 ids l).map Zi),ZaS 5 ((Za6 ids l).map Zi)):=by
 have:=Zql ids hi l hl ((Za6 ids l).map Zi) l 0 [] rfl (by simp) (by simp)
 have z0:((0:Nat):Int)=0:=rfl
 rw[z0,Xo,ZaZ,ZaF]at this
 unfold Zkh at this
 rw[Zg (by rfl) ZF0]
 simp only[EQA,ZB,Xd,Xb,reduceCtorEq,↓reduceIte,gcT,gcA,gcIds,reach,heapOf,refsB,ZMs,ZnI,Zb,Zbm,ZD,Zbm]
 exact this
theorem ZKw(σ:Za)(sq own:Nat)(b:Bool)(ids:List Int)(hi:ids.length<=9223372036854775807)(l:List Zp)(hl:l.length*72<=140737488355328)(b':Bool):Zl E BY σ sq 56 own true [.lst b' (l.map Zi),.lst b (ids.map (AVal.int .i64 ·))]=some (.lst false ((Za6 ids l).map Zi),σ,{}) :=
 ZsL (ZSi ids hi l hl) (by kernel_rfl) rfl rfl σ sq own
theorem ZJT(l:List Zp)(hl:l.length*72<=140737488355328):E 28 [ZD l] []=some (ZD (Zdp l),[]):=by
 have hC:=fun σ sq own b b'=>ZKw σ sq own b [1,3,8,9,38] (by decide) l hl b'
 simp only[Xn,Xo]at hC
 have e:Za6 [1,3,8,9,38] l=Zdp l:=rfl
 rw[e]at hC
 rw[Zg (by rfl) ZKP]
 simp only[EQA,Zk,Xd,Xb,reduceCtorEq,↓reduceIte,ZOf,ZnR,ZCz,Zb,ZD,hC,viewAs,Zv,Zs,Zj,AVal.cells]
theorem ZIG(σ:Za)(sq own:Nat)(b:Bool)(l:List Zp)(hl:l.length*72<=140737488355328):Zl E BY σ sq 28 own true [.lst b (l.map Zi)]=some (.lst false ((Zdp l).map Zi),σ,{}) :=
 Zal (ZJT l hl) (by kernel_rfl) rfl rfl rfl (fun _=>rfl) σ sq own
end
section
def ZtI:Ze:=(.seq (.region [oI 4 (.mov (.c (.bool true)))] none [4]) .ret)
@[irreducible] def ZoP:Ze:=ZtI
def ZLt:=xw ZoP ZtI (by kernel_rfl)
def Znq:Ze:=by apply Zb 20 [1,1,1,1,0,1,0,0] [];conv=>lhs;reduce;dsimp only[zi]
@[irreducible] def ZrC:Ze:=Znq
def ZyS:=xw ZrC Znq (by kernel_rfl)
def Zpu:Ze:=by apply Zb 20 [] [([1,1,1,1,0,1,0,0],ZrC),([1,1,1,1,1],ZoP)];conv=>lhs;reduce;dsimp only[zi]
def Zmo:Zz:=⟨[(.tmp 4)],Zpu⟩
theorem ZCH:FC 20=some Zmo:=by kernel_rfl
theorem ZL2:Zmo.body=Zpu:=rfl
theorem ZJM:Zmo.res=[(.tmp 4)]:=rfl
noncomputable def Zk8(m:Nat)(tm:Tms)(σ:Za):Option (AVal×Za):=(Zac m Zmo (Zaz FC PR BY m ZoP (XY (Zah 0) (evL FC PR BY m [6,0] ZrC tm σ))))
def Zkv:Ze:=by apply Zb 10 [] [];conv=>lhs;reduce;dsimp only[zi]
def Zpq:Zz:=⟨[(.tmp 4)],Zkv⟩
theorem ZRI:FC 10=some Zpq:=by kernel_rfl
theorem ZyD:Zpq.body=Zkv:=rfl
theorem Zww:Zpq.res=[(.tmp 4)]:=rfl
def Zof:Ze:=by apply Zb 12 [] [];conv=>lhs;reduce;dsimp only[zi]
def Zsj:Zz:=⟨[(.tmp 2)],Zof⟩
theorem ZJb:FC 12=some Zsj:=by kernel_rfl
theorem ZRm:Zsj.body=Zof:=rfl
theorem ZCX:Zsj.res=[(.tmp 2)]:=rfl
def ZsD:Ze:=by apply Zb 7 [] [];conv=>lhs;reduce;dsimp only[zi]
def ZqW:Zz:=⟨[(.tmp 4)],ZsD⟩
theorem ZF5:FC 7=some ZqW:=by kernel_rfl
theorem ZN3:ZqW.body=ZsD:=rfl
theorem ZKF:ZqW.res=[(.tmp 4)]:=rfl
def ZqK:Ze:=by apply Zb 38 [] [];conv=>lhs;reduce;dsimp only[zi]
def Zsb:Zz:=⟨[(.tmp 2)],ZqK⟩
theorem ZLZ:FC 38=some Zsb:=by kernel_rfl
theorem ZP4:Zsb.body=ZqK:=rfl
theorem ZLK:Zsb.res=[(.tmp 2)]:=rfl
def Zh0:Ze:=by apply Zb 23 [] [];conv=>lhs;reduce;dsimp only[zi]
def Zsx:Zz:=⟨[(.tmp 6)],Zh0⟩
theorem Zsa:FC 23=some Zsx:=by kernel_rfl
theorem ZlF:Zsx.body=Zh0:=rfl
theorem Zni:Zsx.res=[(.tmp 6)]:=rfl
end
section
end
section
structure Zab where
 topic:Zd
 payload:Zd
 qos:Int
 retain:Bool
 sender:Zd
 expires:Int
 props:List Zp
 origin:Int
 number:Int
 hops:Int
 deriving DecidableEq
structure ZaH where
 note:Zab
 qos:Int
 retain:Bool
 ids:List Int
 share:Zd
 deriving DecidableEq
def Zev(n:Zab):List AVal:=[.str n.topic,Zf n.payload,.int .i64 n.qos,.bool n.retain,.str n.sender,.int .i64 n.expires,ZD n.props,.int .i64 n.origin,.int .i64 n.number,.int .i64 n.hops]
def ZcL(n:Zab):AVal:=.agg (Zev n)
def ZgC(n:ZaH):List AVal:=[.str n.note.topic,Zf n.note.payload,.int .i64 n.note.qos,.bool n.note.retain,.str n.note.sender,.int .i64 n.note.expires,ZD n.note.props,.int .i64 n.note.origin,.int .i64 n.note.number,.int .i64 n.note.hops,.int .i64 n.qos,.bool n.retain,Zbm n.ids,.str n.share]
def Zbp(n:ZaH):AVal:=.agg (ZgC n)
end
section
def u8B(x:Int):UInt8:=XK (x%256).toNat
theorem ZeP(x:Int):IntKind.u8.wrap x=((u8B x).toNat:Int):=by
 rw[IntKind.wrap_u8,u8B,Wk];omega
def or4(q:Int):Int:=IntKind.i64.wrap (((XJ IntKind.i64.bits q |||XJ IntKind.i64.bits 4).toNat:Nat):Int)
def ZaV(q:Int)(r:Bool):Zd:=[u8B (if r=true then or4 q else q)]
theorem ZOk(q:Int)(r:Bool):E 35 [.int .i64 q,.bool r] []=some (.lst true ((ZaV q r).map Zc),[]):=by
 have h1:=ZeP q
 have h2:=ZeP (or4 q)
 unfold or4 at h2
 unfold ZaV or4
 rw[Zg (by rfl) ZLl]
 cases r
 ·simp only[EQA,Zk,Xd,Xb,reduceCtorEq,↓reduceIte,ZvA,Zmb,ZuQ,Zb,h1,viewAs,Zv,Zs,Zj,AVal.cells]
  rfl
 ·simp only[EQA,Zk,ZX,Xd,Xb,reduceCtorEq,↓reduceIte,ZvA,Zmb,ZuQ,Zb,h2,viewAs,Zv,Zs,Zj,AVal.cells]
  rfl
theorem ZtX(σ:Za)(sq own:Nat)(q:Int)(r:Bool):Zl E BY σ sq 35 own true [.int .i64 q,.bool r]=some (.lst false ((ZaV q r).map Zc),σ,{}) :=
 Zal (ZOk q r) (by kernel_rfl) rfl rfl rfl (fun _=>rfl) _ _ _
theorem ZGV(x:Int):E 36 [.int .i64 x] []=some (.lst false ((beB (ZH x) 8).map Zc),[]):=by
 have h1:=Zha x
 have hP:=fun σ sq own=>ZmU σ sq own (ZH x) 8 (by omega) (by omega)
 have z8:((8:Nat):Int)=8:=rfl
 rw[z8]at hP
 generalize beB (ZH x) 8=B at *
 rw[Zg (by rfl) ZH8]
 simp only[EQA,Zk,Xd,Xb,reduceCtorEq,↓reduceIte,ZS0,ZqA,ZN2,Zb,h1,hP]
theorem ZwF(σ:Za)(sq own:Nat)(x:Int):Zl E BY σ sq 36 own true [.int .i64 x]=some (.lst false ((beB (ZH x) 8).map Zc),σ,{}) :=
 Zal (ZGV x) (by kernel_rfl) rfl rfl rfl (fun _=>rfl) _ _ _
def ZaE(n:Zab):Zd:=(Zy n.topic).1++((Z0 n.payload).1++(ZaV n.qos n.retain++((Zy n.sender).1++(beB (ZH n.expires) 8++(beB (ZH n.number) 8++([u8B n.origin,u8B n.hops]++(Zav 3 n.props).1))))))
theorem ZSb(σ:Za)(sq own:Nat)(fl:Bool)(a b c d e f g h:Zd)(hn:a.length+(b.length+(c.length+(d.length+(e.length+(f.length+(g.length+h.length))))))<=140737488355328):Zl E BY σ sq 34 own true [.lst fl [.lst false (a.map Zc),.lst false (b.map Zc),.lst false (c.map Zc),.lst false (d.map Zc),.lst false (e.map Zc),.lst false (f.map Zc),.lst false (g.map Zc),.lst false (h.map Zc)]]=some (.lst false ((a++(b++(c++(d++(e++(f++(g++h))))))).map Zc),σ,{}):=by
 have:=Zk9 σ sq own fl a [b,c,d,e,f,g,h] (by simp) (by simpa using hn)
 simpa only[Xn,Xo,Zf,WD,W9,XC]using this
theorem ZNR(w:Int)(b:Zd)(h:(Z1 w b).2.2=0):(Z1 w b).2.1<=268435460:=by
 have h1:=Ziu b
 have h2:(ZL b).2.1<=5:=by
  have : ∀ (b:Zd) (i n:Nat),i<=4->(gvA i n b).2.1<=5:=by
   intro b
   induction b with
   |nil=>intro i n hi;unfold gvA;split<;>simp
   |cons c r ih =>
    intro i n hi
    unfold gvA
    repeat' split
    all_goals (try simp only)
    all_goals first
     |omega
     |exact ih _ _ (by omega)
  exact this b 0 0 (by omega)
 unfold Z1 at h⊢
 split
 ·rename_i hc;rw[if_pos hc]at h;simp at h
 ·rename_i hc
  rw[if_neg hc]at h
  split
  ·simp only;omega
  ·rename_i h3;rw[if_neg h3]at h;exact absurd h h3
theorem Znc(w:Int)(l:List Zp):(Zav w l).1.length<=268435460:=by
 unfold Zav Zez
 split
 ·simp
 ·split
  ·simp
  ·rename_i h
   simp only[not_or,Decidable.not_not]at h
   have:=ZNR _ _ h.1
   rw[<-h.2.1];exact this
structure Zb6(n:Zab):Prop where
 topic:n.topic.length<=9223372036854775807
 payload:n.payload.length<=9223372036854775807
 sender:n.sender.length<=9223372036854775807
 props:n.props.length<=700000000
 tx:∀ p∈n.props,Zd1 p
 dat:∀ p∈n.props,p.data.length<=140737488355328
theorem ZNV(n:Zab)(h:Zb6 n):E 8 [ZcL n] []=some (.lst false ((ZaE n).map Zc),[]):=by
 have hT:=fun σ sq own=>ZiT σ sq own n.topic h.topic
 have hD:=fun σ sq own f=>ZkV σ sq own f n.payload h.payload
 have hS:=fun σ sq own=>ZiT σ sq own n.sender h.sender
 have hL:=fun σ sq own f=>ZMJ σ sq own f 3 n.props h.props h.tx
 have hM:=fun σ sq own=>ZtX σ sq own n.qos n.retain
 have hE:=fun σ sq own=>ZwF σ sq own n.expires
 have hN:=fun σ sq own=>ZwF σ sq own n.number
 have w1:=ZeP n.origin
 have w2:=ZeP n.hops
 have l1:=Zcz n.topic
 have l2:=ZeG n.payload
 have l3:=Zcz n.sender
 have l4:=Znc 3 n.props
 have hJ:=fun σ sq own f=>ZSb σ sq own f (Zy n.topic).1 (Z0 n.payload).1 (ZaV n.qos n.retain) (Zy n.sender).1 (beB (ZH n.expires) 8) (beB (ZH n.number) 8) [u8B n.origin,u8B n.hops] (Zav 3 n.props).1 (by
  simp only[ZbJ,ZaV,Xm,Xu];omega)
 unfold ZaE
 unfold byT at hT hD hS
 unfold Zd3 at hL
 have e7:[u8B n.origin,u8B n.hops].map Zc=[AVal.int .u8 ((u8B n.origin).toNat:Int),.int .u8 ((u8B n.hops).toNat:Int)]:=rfl
 simp only[e7]at hJ
 generalize beB (ZH n.expires) 8=B1 at *
 generalize beB (ZH n.number) 8=B2 at *
 generalize ZaV n.qos n.retain=M at *
 generalize Zav 3 n.props=L at *
 generalize hR:(Zy n.topic).1++((Z0 n.payload).1++(M++((Zy n.sender).1++(B1++(B2++([u8B n.origin,u8B n.hops]++L.1))))))=R at *
 generalize u8B n.origin=U1 at *
 generalize u8B n.hops=U2 at *
 rw[Zg (by rfl) ZFX]
 simp only[EQA,Zk,Xd,Xb,Xg,↓reduceIte,ZB1,Zpc,ZFc,Zb,Zf,ZD,ZcL,Zev,hT,hD,hS,hL,hM,hE,hN,hJ,w1,w2,viewAs,Zv,Zs,Zj,AVal.cells]
theorem Ztt(σ:Za)(sq own:Nat)(n:Zab)(h:Zb6 n):Zl E BY σ sq 8 own true [.agg [.str n.topic,.lst false (n.payload.map Zc),.int .i64 n.qos,.bool n.retain,.str n.sender,.int .i64 n.expires,.lst false (n.props.map Zi),.int .i64 n.origin,.int .i64 n.number,.int .i64 n.hops]]=some (.lst false ((ZaE n).map Zc),σ,{}) :=
 Zal (ZNV n h) (by kernel_rfl) rfl rfl rfl (fun _=>rfl) _ _ _
def ZfW(n:Zab):Bool:=decide (n.qos<3)&&decide (n.expires>=0)&&decide (n.expires<=4611686018427387904)&&decide (n.number>=0)&&decide (n.number<=4611686018427387904)&&((Zdp n.props).length==n.props.length)
theorem ZLX(n:Zab)(h:Zb6 n):E 40 [ZcL n] []=some (.bool (ZfW n),[]):=by
 have hK:=fun σ sq own b=>ZG3 σ sq own b n.props (by have:=h.props;omega) h.dat
 have e1:(((Zdp n.props).length:Int)==(n.props.length:Int))=((Zdp n.props).length==n.props.length):=by
  rw[Xav];simp only[beq_iff_eq];omega
 unfold ZfW
 by_cases c1:n.qos<3
 ·by_cases c2:n.expires>=0
  ·by_cases c3:n.expires<=4611686018427387904
   ·by_cases c4:n.number>=0
    ·by_cases c5:n.number<=4611686018427387904
     ·rw[Zg (by rfl) Zh4]
      simp only[EQA,ZR,Xd,Xb,Xg,Zh,unG,↓reduceIte,ZhT,ZgL,Zix,Zb,Zf,ZD,ZcL,Zev,hK,c1,c2,c3,c4,c5,e1]
     ·rw[Zg (by rfl) Zh4]
      simp only[EQA,ZR,Xd,Xb,Xg,Zh,Zw,unG,↓reduceIte,ZhT,ZgL,Zix,Zb,Zf,ZD,ZcL,Zev,c1,c2,c3,c4,c5]
    ·rw[Zg (by rfl) Zh4]
     simp only[EQA,ZR,Xd,Xb,Xg,Zh,Zw,unG,↓reduceIte,ZhT,ZgL,Zix,Zb,Zf,ZD,ZcL,Zev,c1,c2,c3,c4]
   ·rw[Zg (by rfl) Zh4]
    simp only[EQA,ZR,Xd,Xb,Xg,Zh,Zw,unG,↓reduceIte,ZhT,ZgL,Zix,Zb,Zf,ZD,ZcL,Zev,c1,c2,c3]
  ·rw[Zg (by rfl) Zh4]
   simp only[EQA,ZR,Xd,Xb,Xg,Zh,Zw,unG,↓reduceIte,ZhT,ZgL,Zix,Zb,Zf,ZD,ZcL,Zev,c1,c2]
 ·rw[Zg (by rfl) Zh4]
  simp only[EQA,ZR,Xd,Xb,Xg,Zh,Zw,↓reduceIte,ZhT,ZgL,Zix,Zb,Zf,ZD,ZcL,Zev,c1]
theorem ZQe(σ:Za)(sq own:Nat)(n:Zab)(h:Zb6 n):Zl E BY σ sq 40 own true [.agg [.str n.topic,.lst false (n.payload.map Zc),.int .i64 n.qos,.bool n.retain,.str n.sender,.int .i64 n.expires,.lst false (n.props.map Zi),.int .i64 n.origin,.int .i64 n.number,.int .i64 n.hops]]=some (.bool (ZfW n),σ,{}) :=
 Zal (ZLX n h) (by kernel_rfl) rfl rfl rfl (fun _=>rfl) _ _ _
end
section
end
section
structure ZK where
 b:Zd
 short:Bool
def ZcF(c:ZK):List AVal:=[.lst false (c.b.map Zc),.bool c.short]
def Zn(n:Nat)(c:ZK):Zd×ZK:=if c.short=true\/n>c.b.length then([],⟨c.b,true⟩)else(c.b.take n,⟨c.b.drop n,c.short⟩)
theorem ZbN(n:Nat)(c:ZK):(Zn n c).1.length<=c.b.length/\(Zn n c).2.b.length<=c.b.length:=by
 unfold Zn
 split<;>simp<;>omega
def ZE(b:Zd):Int:=IntKind.i64.wrap (Zbf b:Int)
def Zag(c:ZK):Zd×ZK:=((ZG c.b).1,(Zn (ZG c.b).2.1 ⟨c.b,c.short ||(ZG c.b).2.2 != 0⟩).2)
def Zat(c:ZK):Zd×ZK:=((Zt c.b).1,(Zn (Zt c.b).2.1 ⟨c.b,c.short ||(Zt c.b).2.2 != 0⟩).2)
theorem ZxX(c:ZK):(Zag c).2.b.length<=c.b.length:=(ZbN _ ⟨c.b,_⟩).2
theorem Zuo(c:ZK):(Zat c).2.b.length<=c.b.length:=(ZbN _ ⟨c.b,_⟩).2
end
section
theorem ZNc(a b:Zd):E 41 [Zf a,Zf b] []=some (.bool (a==b),[]):=by
 rw[Zg (by rfl) ZIT]
 simp only[EQA,Xd,Xb,Zbw,reduceCtorEq,Zq,↓reduceIte,ZI4,Zqc,ZJo,Zb,Zf]
end
section
def Zcv(x:Int):Int:=IntKind.i64.wrap (((XJ IntKind.i64.bits x&&&XJ IntKind.i64.bits 3).toNat:Nat):Int)
def ZdR(x:Int):Int:=IntKind.i64.wrap (((XJ IntKind.i64.bits x&&&XJ IntKind.i64.bits 4).toNat:Nat):Int)
structure Zpm where
 r1:Zd×ZK
 r2:Zd×ZK
 r3:Zd×ZK
 r4:Zd×ZK
 r5:Zd×ZK
 r6:Zd×ZK
 r7:Zd×ZK
 r8:Zd×ZK
def Zu(c:ZK):Zpm :=
 let r1:=Zag c
 let r2:=Zat r1.2
 let r3:=Zn 1 r2.2
 let r4:=Zag r3.2
 let r5:=Zn 8 r4.2
 let r6:=Zn 8 r5.2
 let r7:=Zn 1 r6.2
 ⟨r1,r2,r3,r4,r5,r6,r7,Zn 1 r7.2⟩
def ZaL(c:ZK):Zab×ZK :=
 let x:=Zu c
 let l:=Z1 3 x.r8.2.b
 (⟨x.r1.1,x.r2.1,Zcv (ZE x.r3.1),ZdR (ZE x.r3.1) != 0,x.r4.1,ZE x.r5.1,l.1,ZE x.r7.1,ZE x.r6.1,ZE x.r8.1⟩,⟨x.r8.2.b,x.r8.2.short ||l.2.2 != 0 ||((l.2.1:Int) != (x.r8.2.b.length:Int))⟩)
theorem ZMu(c:ZK):(Zu c).r1.2.b.length<=c.b.length/\(Zu c).r2.2.b.length<=c.b.length/\(Zu c).r3.2.b.length<=c.b.length/\(Zu c).r4.2.b.length<=c.b.length/\(Zu c).r5.2.b.length<=c.b.length/\(Zu c).r6.2.b.length<=c.b.length/\(Zu c).r7.2.b.length<=c.b.length/\(Zu c).r8.2.b.length<=c.b.length:=by
 have h1:=ZxX c
 have h2:=Zuo (Zag c).2
 have h3:=(ZbN 1 (Zat (Zag c).2).2).2
 have h4:=ZxX (Zn 1 (Zat (Zag c).2).2).2
 have h5:=(ZbN 8 (Zag (Zn 1 (Zat (Zag c).2).2).2).2).2
 have h6:=(ZbN 8 (Zn 8 (Zag (Zn 1 (Zat (Zag c).2).2).2).2).2).2
 have h7:=(ZbN 1 (Zn 8 (Zn 8 (Zag (Zn 1 (Zat (Zag c).2).2).2).2).2).2).2
 have h8:=(ZbN 1 (Zn 1 (Zn 8 (Zn 8 (Zag (Zn 1 (Zat (Zag c).2).2).2).2).2).2).2).2
 simp only[Zu]
 omega
end
section
theorem ZyP(P:Zp->Prop)(w:Int)(N:Nat)(h1:∀ (b:Zd) (l:List Zp),b.length<=N->(ZaJ w b l).2.2=0->P (ZaJ w b l).1):∀ (n:Nat) (b:Zd) (l:List Zp),b.length<=N->(∀ p∈l,P p)->∀ p∈(Zcb w n b l).1,P p
 |n,[],l,_,hl=>by rw[ZhJ];exact hl
 |0,c::r,l,_,hl=>by simp[Zcb]
 |n+1,c::r,l,hb,hl=>by
  rw[ZiE]
  split
  ·rename_i h
   refine ZyP P w N h1 n _ _ (by rw[XV];omega) ?_
   intro p hp
   rcases Xs.1 hp with hp |hp
   ·exact hl p hp
   ·simp only[List.mem_singleton]at hp
    subst hp
    exact h1 _ _ hb h
  ·simp
theorem ZKx(P:Zp->Prop)(w:Int)(b:Zd)(h1:∀ (b':Zd) (l:List Zp),b'.length<=b.length->(ZaJ w b' l).2.2=0->P (ZaJ w b' l).1):∀ p∈(Z1 w b).1,P p:=by
 unfold Z1
 split
 ·simp
 ·split
  ·exact ZyP P w b.length h1 _ _ [] (by simp;omega) (by simp)
  ·simp
theorem Zqg(w:Int)(b:Zd):(Z1 w b).1.length<=268435455:=by
 have hlt:=Ziu b
 unfold Z1
 split
 ·simp
 ·split
  ·have:=Zpl w (ZL b).1 ((b.take ((ZL b).2.1+(ZL b).1)).drop (ZL b).2.1) []
   simp only[XV,X0,Xu]at this
   simp only
   omega
  ·simp
theorem Zis(b:Zd):(ZG b).1.length<=65535:=by
 have:=ZgP b
 unfold ZG
 split
 ·simp
 ·split
  ·exact this
  ·simp
theorem ZFD(id:Int)(b:Zd):(Zam id b).1.text.length<=65535/\(Zam id b).1.pair.length<=65535/\(Zam id b).1.data.length<=65535:=by
 have h1:=Zis b
 have h2:=Zis (b.drop (ZG b).2.1)
 have h3:=ZgP b
 unfold Zam Zb2 Zcy Zd0
 repeat' split
 all_goals exact⟨by first |exact h1 |exact Xay _,by first |exact h2 |exact Xay _,by first |exact h3 |exact Xay _⟩
theorem ZCn{w:Int}{b:Zd}{l:List Zp}:(ZaJ w b l).1.text.length<=65535/\(ZaJ w b l).1.pair.length<=65535/\(ZaJ w b l).1.data.length<=65535:=by
 unfold ZaJ Zfo
 repeat' split
 all_goals first
  |exact ZFD _ _
  |exact⟨Xay _,Xay _,Xay _⟩
theorem ZlA(w:Int)(b:Zd):∀ p∈(Z1 w b).1,p.text.length<=65535/\p.pair.length<=65535/\p.data.length<=65535:=ZKx _ w b fun _ _ _ _=>ZCn
theorem ZHd(w:Int)(b:Zd):∀ p∈(Z1 w b).1,Zd1 p:=fun p hp=>by
 have:=ZlA w b p hp
 exact⟨by omega,by omega,by omega⟩
theorem Zyh(c:ZK):Zb6 (ZaL c).1:=by
 have h1:=Zis c.b
 have h4:=Zis (Zu c).r3.2.b
 have h2:=ZgP (Zu c).r1.2.b
 have e1:(Zu c).r1.1=(ZG c.b).1:=rfl
 have e2:(Zu c).r2.1=(Zt (Zu c).r1.2.b).1:=rfl
 have e4:(Zu c).r4.1=(ZG (Zu c).r3.2.b).1:=rfl
 have h9:=Zqg 3 (Zu c).r8.2.b
 have ht:=ZlA 3 (Zu c).r8.2.b
 refine⟨?_,?_,?_,?_,?_,?_⟩
 ·show(Zu c).r1.1.length<=_;rw[e1];omega
 ·show(Zu c).r2.1.length<=_;rw[e2];omega
 ·show(Zu c).r4.1.length<=_;rw[e4];omega
 ·show(Z1 3 (Zu c).r8.2.b).1.length<=_;omega
 ·exact ZHd 3 _
 ·exact fun p hp=>by have:=ht p hp;omega
def Zco:Zab:=⟨[],[],0,false,[],0,[],0,0,0⟩
def Zbo(b:Zd):Zab×Int :=
 if(ZaL ⟨b,false⟩).2.short=true\/ZfW (ZaL ⟨b,false⟩).1=false\/(ZaE (ZaL ⟨b,false⟩).1==b)=false then(Zco,190)else((ZaL ⟨b,false⟩).1,0)
def ZcD(f:Bool)(x:Zab×Int):AVal:=.tup [.agg [.str x.1.topic,.lst f (x.1.payload.map Zc),.int .i64 x.1.qos,.bool x.1.retain,.str x.1.sender,.int .i64 x.1.expires,.lst f (x.1.props.map Zi),.int .i64 x.1.origin,.int .i64 x.1.number,.int .i64 x.1.hops],.int .i64 x.2]
end
section
theorem Zs0(b:Zd):(b.map Zc).all Zas=true:=by
 rw[XF]
 intro x hx
 obtain⟨p,_,rfl⟩:=List.mem_map.1 hx
 rfl
theorem Zwz{O:ZJ}{bf:Nat->Bool}{f:Nat}{args args':List AVal}{k n:Nat}{xs:List AVal}(h:O f args' []=some (.sl 0 0 0 n,[.row 0 k xs]))(hb:bf f=false)(hp:args.all Z2=true)(hn:args.map ZM=args')(hx:xs.all Zas=true)(σ:Za)(sq:Nat)(hs:freeAt σ sq=true):Zl O bf σ sq f 1 false args=some (.sl sq 0 0 n,σ.set sq (.row 0 k xs),{}):=by
 rw[ZbK hb hp,hn,h]
 simp[ZO,Z8,Zdc,hx]
theorem ZP7(σ:Za)(sq:Nat)(fl:Bool)(a b c:Zd)(hn:a.length+(b.length+c.length)<=140737488355328)(hs:freeAt σ sq=true):Zl E BY σ sq 34 1 false [.lst fl [.lst false (a.map Zc),.lst false (b.map Zc),.lst false (c.map Zc)]]=some (.sl sq 0 0 (a++(b++c)).length,σ.set sq (.row 0 1 ((a++(b++c)).map Zc)),{}):=by
 have h:=ZpT a [b,c] (by simp) (by simpa using hn)
 have e:[a,b,c].flatten=a++(b++c):=by simp
 rw[e]at h
 exact Zwz (args:=[.lst fl [.lst false (a.map Zc),.lst false (b.map Zc),.lst false (c.map Zc)]]) h (by kernel_rfl) rfl rfl (Zs0 _) σ sq hs
def Zbb(l:List Int):Zd:=(l.map fun i=>beB (ZH i) 4).flatten
theorem ZhF:∀ l:List Int,(Zbb l).length=l.length*4
 | []=>rfl
 |i::l=>by
  have:=ZhF l
  unfold Zbb at this ⊢
  simp only[Xn,WD,Xk,ZbJ,this,Xm];omega
def ZaW(it:ZaH):Zd:=((Z0 (ZaE it.note)).1++(ZaV it.qos it.retain++[u8B it.ids.length]))++(Zbb it.ids++(Zy it.share).1)
theorem Zws(l:List Int)(hl:l.length<=1000000)(sh:Zd)(hsh:sh.length<=65537):∀ (r:List Int) (i:Nat) (acc full:Zd),l.drop i=r->full=acc++(Zbb r++sh)->full.length<=140737488355328 ->
  Zm8 0 [(39,.int .i64 i),(38,.int .i64 l.length),(37,.lst false (l.map (AVal.int .i64))),(7,.sl 0 0 0 acc.length),(5,.lst false (sh.map Zc))] [.row 0 1 (acc.map Zc)]=some (.sl 0 0 0 full.length,[.row 0 1 (full.map Zc)])
 | [],i,acc,full,h,hf,hn=>by
  have h1:=ZcG h
  have e:full=acc++sh:=by rw[hf];simp[Zbb]
  subst e
  have k1:=Zbe sh
  have k2:(acc.length+sh.length)*1<=140737488355328:=by simp at hn;omega
  have e4:(acc++sh).map Zc=acc.map Zc++sh.map Zc:=by simp
  rw[e4,Xk]
  clear hf
  unfold Zm8
  rw[Zr]
  simp only[EQA,Xf,Xd,Xb,Xg,Zq,↓reduceIte,ZPO,ZHi,ZsZ,Zx3,ZkC,Zb,h1,k1,k2,ZI,ZIr]
 |x::r,i,acc,full,h,hf,hn=>by
  have ih:=Zws l hl sh hsh r (i+1) (acc++beB (ZH x) 4) full (ZP h).2.1 (by rw[hf];simp[Zbb]) hn
  have h1:(i:Int)<l.length:=by have:=(ZP h).2.2;omega
  have e1:=iad (ZP h).1 (AVal.int .i64) (k:=1) rfl
  have e3:=Zcp h1 (by omega)
  have hP:=fun σ sq own=>ZmU σ sq own (ZH x) 4 (by omega) (by omega)
  have z4:((4:Nat):Int)=4:=rfl
  rw[z4]at hP
  have hu:=Zha x
  have lq:=ZbJ 4 (ZH x)
  generalize beB (ZH x) 4=q at *
  have k1:=Zbe q
  have k2:(acc.length+q.length)*1<=140737488355328:=by have:=congrArg Xa6 hf;simp only[Xk,ZhF,Xm]at this;omega
  have e4:(acc++q).map Zc=acc.map Zc++q.map Zc:=by simp
  have e5:(acc++q).length=acc.length+q.length:=by simp
  rw[e4,e5]at ih
  clear hf
  unfold Zm8 at ih ⊢
  rw[Zr]
  simp only[EQA,ZB,ZX,Xf,Xd,Xe,Xb,Xg,reduceCtorEq,Zq,↓reduceIte,gcT,gcA,gcIds,reach,rhoOf,heapOf,idxA,genB,newGen,renB,refsB,Zx3,ZkC,Zb,h1,e1,e3,hu,hP,k1,k2,ZI,AVal.cells]
  exact ih
structure ZdO(it:ZaH):Prop where
 note:Zb6 it.note
 ids:it.ids.length<=1000000
 share:it.share.length<=9223372036854775807
theorem ZxV(n:Zab):(ZaE n).length<=1000000000:=by
 have l1:=Zcz n.topic
 have l2:=ZeG n.payload
 have l3:=Zcz n.sender
 have l4:=Znc 3 n.props
 unfold ZaE
 simp only[Xk,ZbJ,ZaV,Xm,Xu];omega
theorem Zyv(it:ZaH)(h:ZdO it):E 9 [Zbp it] []=some (.sl 0 0 0 (ZaW it).length,[.row 0 1 ((ZaW it).map Zc)]):=by
 have hL:=fun σ sq own=>Ztt σ sq own it.note h.note
 have ln:=ZxV it.note
 have hD:=fun σ sq own f=>ZkV σ sq own f (ZaE it.note) (by omega)
 have hS:=fun σ sq own=>ZiT σ sq own it.share h.share
 have hM:=fun σ sq own=>ZtX σ sq own it.qos it.retain
 have w1:=ZeP (it.ids.length:Int)
 have l1:=ZeG (ZaE it.note)
 have l3:=Zcz it.share
 have hids:=h.ids
 have lm:(ZaV it.qos it.retain).length=1:=rfl
 have hJ:=fun σ sq fl hs=>ZP7 σ sq fl (Z0 (ZaE it.note)).1 (ZaV it.qos it.retain) [u8B it.ids.length] (by simp only[Xm,Xu];omega) hs
 have e7:[u8B it.ids.length].map Zc=[AVal.int .u8 ((u8B it.ids.length).toNat:Int)]:=rfl
 simp only[e7]at hJ
 have li:=ZhF it.ids
 have key:=Zws it.ids h.ids (Zy it.share).1 l3 it.ids 0 ((Z0 (ZaE it.note)).1++(ZaV it.qos it.retain++[u8B it.ids.length])) (ZaW it) rfl rfl (by
  unfold ZaW
  simp only[Xk,Xm,Xu];omega)
 unfold byT at hD hS
 have z0:((0:Nat):Int)=0:=rfl
 rw[z0]at key
 generalize ZaW it=full at *
 generalize (Z0 (ZaE it.note)).1++(ZaV it.qos it.retain++[u8B it.ids.length])=acc at *
 generalize ZaV it.qos it.retain=M at *
 generalize u8B it.ids.length=U1 at *
 generalize hq:(Zy it.share).1=T at *
 unfold Zm8 at key
 rw[Zg (by rfl) ZJa]
 simp only[EQA,ZB,ZX,Xf,Xd,Xe,Xb,Xg,↓reduceIte,gcT,gcA,gcIds,reach,rhoOf,heapOf,idxA,genB,newGen,renB,refsB,ZO8,Zoo,Zb,Zbm,Zf,ZD,Zbp,ZgC,hL,hD,hS,hM,hJ,w1,viewAs,Zv,Zs,Zj,AVal.cells]
 exact key
theorem Zu4(σ:Za)(sq own:Nat)(it:ZaH)(h:ZdO it):Zl E BY σ sq 9 own true [.agg [.str it.note.topic,.lst false (it.note.payload.map Zc),.int .i64 it.note.qos,.bool it.note.retain,.str it.note.sender,.int .i64 it.note.expires,.lst false (it.note.props.map Zi),.int .i64 it.note.origin,.int .i64 it.note.number,.int .i64 it.note.hops,.int .i64 it.qos,.bool it.retain,.lst false (it.ids.map (.int .i64 ·)),.str it.share]]=some (.lst false ((ZaW it).map Zc),σ,{}) :=
 ZiZ (bf:=BY) (Zyv it h) (by simp) rfl rfl σ sq own
end
section
def ZcO(b:Zd):List AVal:=b.map Zc++[.int .u8 165,.int .u8 90]
theorem ZBv(b:Zd)(hb:b.length<=140737488355326):E 12 [Zf b] []=some (.sl 0 0 0 b.length,[.row 0 1 (ZcO b)]):=by
 obtain⟨n2,hn⟩:∃ n2,n2=b.length+2:=⟨_,rfl⟩
 have w1:IntKind.i64.wrap ((b.length:Int)+2)=((n2:Nat):Int):=by rw[ZQ (by omega) (by omega)];omega
 have m1:(0:Int)<=((n2:Nat):Int):=by omega
 have m2:((n2:Nat):Int)<=9223372036854775807:=by omega
 have m3:((1:Nat):Int)*((n2:Nat):Int)<=140737488355328:=by omega
 have r2:b.length<=n2:=by omega
 have r3:b.length*1<=140737488355328:=by omega
 have r4:(0=n2)=False:=by simp;omega
 have k1:=Zqv b
 have k2:kOk 1 [AVal.int .u8 165,.int .u8 90]=true:=rfl
 have hD:(XA n2 (AVal.int .u8 0)).drop b.length=[.int .u8 0,.int .u8 0]:=by simp[List.drop_replicate,hn]
 have L1:(b.map Zc++[AVal.int .u8 0,.int .u8 0]).length=n2:=by simp;omega
 have L1':b.length+1+1=n2:=by omega
 have L2:(b.length=n2)=False:=by simp;omega
 have L3:(b.map Zc++[AVal.int .u8 0,.int .u8 0]).take b.length=b.map Zc:=by rw[WR (by simp)];simp[Xy]
 have L4:(b.map Zc++[AVal.int .u8 0,.int .u8 0]).drop n2=[]:=List.drop_eq_nil_of_le (by simp;omega)
 have L5:n2*1<=140737488355328:=by omega
 have L6:(b.map Zc++[AVal.int .u8 165,.int .u8 90]).length=n2:=by simp;omega
 have L7:(b.length:Int)<=((n2:Nat):Int):=by omega
 have L8:(0:Int)<=(b.length:Int):=by omega
 have L9:n2<=n2:=XD _
 clear hn
 rw[Zg (by rfl) ZJb]
 unfold ZcO
 simp only[EQA,Xf,Xd,Xb,Xg,reduceCtorEq,Zq,↓reduceIte,ZRm,Zof,ZCX,Zb,Zf,w1,m1,m2,m3,r2,r3,r4,hD,k1,k2,L1,L1',L2,L3,L4,L5,L6,L7,L8,L9,W0,Int.toNat_zero,X3,Xa9,AVal.cells,Zbj,ZaN,Zb0,ZI,viewAs,Zv,Zs,Zj,List.length_replicate,ZlY]
theorem Zvp(a b:Zd):E 7 [Zf a,Zf b] []=some (.bool (a==b),[]):=by
 rw[Zg (by rfl) ZF5]
 simp only[EQA,Xd,Xb,Zbw,reduceCtorEq,Zq,↓reduceIte,ZN3,ZsD,ZKF,Zb,Zf]
theorem ZJP(σ:Za)(sq own:Nat)(a b:Zd)(t:Nat)(X:List AVal)(hs:σ[t]?=some (.row 0 1 (a.map Zc++X))):Zl E BY σ sq 7 own true [.sl t 0 0 a.length,.lst false (b.map Zc)]=some (.bool (a==b),σ,{ rd:=[t] }):=by
 refine ZlJ (vs:=[Zf a,Zf b]) (by kernel_rfl) ?_ rfl rfl (Zvp a b) rfl rfl sq own
 have h1:0+a.length<=(a.map Zc++X).length:=by simp
 have h2:(a.map Zc++X).take a.length=a.map Zc:=by rw[WR (by simp)];simp[Xy]
 simp only[showAs,showA,ZbX,Zq,hs,h1,and_self,if_true,W2,h2,Zf]
 rfl
theorem ZFJ(k:Nat)(b:Bool)(xs:List AVal)(σ:Za):outA 1 (.row 0 k xs::σ) (.bool b)=some (.bool b,[.row 0 k xs]):=by
 simp[EQO]
theorem Zzs(N:Nat)(hN:N<=9223372036854775807):∀ (m i:Nat) (X:List AVal),i+m=N->(∀ j,j<N->∃ b:UInt8,X[j]?=some (Zc b))->N<=X.length ->
  ∃ X',Zk8 1 [(6,.int .i64 i),(0,.sl 0 0 0 N)] [.row 0 1 X]=some (.bool true,[.row 0 1 X'])
 |0,i,X,h,_,_=>by
  have h1:¬(i:Int)<(N:Int):=by omega
  refine⟨X,?_⟩
  unfold Zk8
  rw[Zr]
  simp only[EQA,Xd,Xb,reduceCtorEq,↓reduceIte,ZJM,ZLt,ZtI,ZyS,Znq,Zb,h1,ZFJ]
 |m+1,i,X,h,hb,hX=>by
  have h1:(i:Int)<(N:Int):=by omega
  have h2:i<N:=by omega
  have i0:(0:Int)<=(i:Int):=by omega
  have hw:=Zcp h1 hN
  obtain⟨b,hg⟩:=hb i h2
  obtain⟨X',ih⟩:=Zzs N hN m (i+1) (X.set i (.int .u8 (IntKind.u8.wrap ((b.toNat:Int)+77)))) (by omega) (fun j hj=>by
   by_cases e:i=j
   ·subst e
    refine⟨XK (IntKind.u8.wrap ((b.toNat:Int)+77)).toNat,?_⟩
    rw[Wb (by omega)]
    simp only[Zc,IntKind.wrap_u8]
    rw[Wk]
    congr 2
    have:=Int.emod_nonneg ((b.toNat:Int)+77) (show(256:Int)≠0 by decide)
    have:=Int.emod_lt_of_pos ((b.toNat:Int)+77) (show(0:Int)<256 by decide)
    omega
   ·rw[XS e];exact hb j hj) (by simpa using hX)
  refine⟨X',?_⟩
  unfold Zc at hg
  unfold Zk8 at ih ⊢
  rw[Zr]
  simp only[EQA,ZB,Xd,Xe,Xb,reduceCtorEq,↓reduceIte,gcT,gcA,gcIds,reach,rhoOf,heapOf,idxA,genB,newGen,renB,refsB,Ww,ZyS,Znq,Zb,h1,h2,i0,hw,hg,Zct,X3,AVal.cells,Zao,Zs,Zgv,Zj]
  exact ih
theorem ZF2(b:Zd)(hb:b.length<=140737488355326):∃ X',E 20 [.sl 0 0 0 b.length,Zf b] [.row 0 1 (ZcO b)]=some (.bool true,[.row 0 1 X']):=by
 obtain⟨n2,hn⟩:∃ n2,n2=b.length+2:=⟨_,rfl⟩
 obtain⟨X',key⟩:=Zzs b.length (by omega) b.length 0 (ZcO b) (by omega) (fun j hj=>by
  unfold ZcO
  rw[List.getElem?_append_left (by simpa using hj)]
  exact⟨b[j],by simp[hj]⟩) (by simp[ZcO])
 refine⟨X',?_⟩
 have w1:IntKind.i64.wrap ((b.length:Int)+2)=((n2:Nat):Int):=by rw[ZQ (by omega) (by omega)];omega
 have w2:IntKind.i64.wrap ((b.length:Int)+1)=((b.length+1:Nat):Int):=by rw[ZQ (by omega) (by omega)];rfl
 have hS:∀ (σ:Za) (sq own:Nat),σ[0]?=some (.row 0 1 (b.map Zc++[AVal.int .u8 165,.int .u8 90]))->_:=fun σ sq own h=>ZJP σ sq own b b 0 [.int .u8 165,.int .u8 90] h
 have e0:(b==b)=true:=by simp
 have L6:(ZcO b).length=n2:=by unfold ZcO;simp;omega
 have L7:(0:Int)<=((n2:Nat):Int):=by omega
 have L8:((n2:Nat):Int)<=((n2:Nat):Int):=by omega
 have L9:b.length<n2:=by omega
 have L10:b.length+1<n2:=by omega
 have L11:(0:Int)<=(b.length:Int):=by omega
 have L12:(0:Int)<=((b.length+1:Nat):Int):=by omega
 have L13:b.length<=n2:=by omega
 have g1:(ZcO b)[b.length]?=some (.int .u8 165):=by unfold ZcO;rw[Wy (by simp)];simp
 have g2:(ZcO b)[b.length+1]?=some (.int .u8 90):=by unfold ZcO;rw[Wy (by simp)];simp
 have n1:((165:Int) != 165)=false:=rfl
 have n3:((90:Int) != 90)=false:=rfl
 clear hn
 rw[show b.map Zc++[AVal.int .u8 165,.int .u8 90]=ZcO b from rfl,e0]at hS
 unfold Zf
 have z0:((0:Nat):Int)=0:=rfl
 rw[z0]at key
 generalize ZcO b=X at *
 unfold Zk8 at key
 rw[Zg (by rfl) ZCH]
 simp only[EQA,ZB,Xd,Xe,Xb,unA,Zh,unG,reduceCtorEq,Zq,↓reduceIte,gcT,gcA,gcIds,reach,rhoOf,heapOf,idxA,genB,newGen,renB,refsB,Ww,ZL2,Zpu,Zb,hS,w1,w2,L6,L7,L8,L9,L10,L11,L12,L13,g1,g2,n1,n3,X3,Xa9,AVal.cells,Zbj,Zct,ZaN,Zb0]
 exact key
theorem ZQi(σ:Za)(sq:Nat)(b:Zd)(hb:b.length<=140737488355326)(hs:freeAt σ sq=true):Zl E BY σ sq 12 1 false [.lst false (b.map Zc)]=some (.sl sq 0 0 b.length,σ.set sq (.row 0 1 (b.map Zc++[.int .u8 165,.int .u8 90])),{}):=by
 have h:=Zza (bf:=BY) (ZBv b hb) rfl rfl σ sq hs
 have hf:(ZcO b).all Zas=true:=by unfold ZcO;rw[List.all_append,Zs0];rfl
 rw[hf]at h
 exact h
theorem ZF9(b:Zd)(hb:b.length<=140737488355326):∃ X',∀ (σ:Za) (sq own t:Nat),σ[t]?=some (.row 0 1 (b.map Zc++[.int .u8 165,.int .u8 90]))->Zbv σ sq own=true->Zl E BY σ sq 20 own true [.sl t 0 0 b.length,.lst false (b.map Zc)]=some (.bool true,σ.set t (.row 0 1 X'),{ any:=true }):=by
 obtain⟨X',h⟩:=ZF2 b hb
 refine⟨X',fun σ sq own t hs hff=>?_⟩
 refine Zk3 (args':=[.sl 0 0 0 b.length,Zf b]) hs (by kernel_rfl) hff rfl (fun ρ h=>by simp only[renL,renV,h];rfl) (fun ρ=>rfl) (Xp rfl) ?_
 have h':=h
 unfold ZcO at h'
 rw[h']
 unfold ZO
 rw[if_pos rfl]
 simp[EQO,ZaI,viewR,Zv,Zs,Zj]
theorem ZSp(n lo hi:Int)(h0:0<=lo)(h1:lo<=hi)(h2:hi<=4611686018427387904):∃ k:Int,(lo<=k/\k<=hi)/\E 23 [.int .i64 n,.int .i64 lo,.int .i64 hi] []=some (.int .i64 k,[]):=by
 have w1:IntKind.i64.wrap (hi-lo)=hi-lo:=ZQ (by omega) (by omega)
 have w2:IntKind.i64.wrap (hi-lo+1)=hi-lo+1:=ZQ (by omega) (by omega)
 generalize hw:hi-lo+1=w at w2
 have hz:(w=0)=False:=by simp;omega
 have hb:-w<n.tmod w/\n.tmod w<w:=⟨Xbc n (by omega),Xbd n (by omega)⟩
 by_cases h:n.tmod w<0
 ·refine⟨lo+(n.tmod w+w),by omega,?_⟩
  have w3:IntKind.i64.wrap (n.tmod w+w)=n.tmod w+w:=ZQ (by omega) (by omega)
  have w4:IntKind.i64.wrap (lo+(n.tmod w+w))=lo+(n.tmod w+w):=ZQ (by omega) (by omega)
  rw[Zg (by rfl) Zsa]
  simp only[EQA,ZX,Xf,Xd,Xb,reduceCtorEq,↓reduceIte,ZlF,Zh0,Zni,Zb,w1,hw,w2,w3,w4,hz,h]
 ·refine⟨lo+n.tmod w,by omega,?_⟩
  have w4:IntKind.i64.wrap (lo+n.tmod w)=lo+n.tmod w:=ZQ (by omega) (by omega)
  rw[Zg (by rfl) Zsa]
  simp only[EQA,ZX,Xf,Xd,Xb,reduceCtorEq,↓reduceIte,ZlF,Zh0,Zni,Zb,w1,hw,w2,w4,hz,h]
theorem ZEU(n lo hi:Int)(h0:0<=lo)(h1:lo<=hi)(h2:hi<=4611686018427387904):∃ k:Int,(lo<=k/\k<=hi)/\∀ (σ:Za) (sq own:Nat) (view:Bool),Zl E BY σ sq 23 own view [.int .i64 n,.int .i64 lo,.int .i64 hi]=some (.int .i64 k,σ,{}):=by
 obtain⟨k,hk,h⟩:=ZSp n lo hi h0 h1 h2
 exact⟨k,hk,fun σ sq own view=>ZcC h (by kernel_rfl) rfl rfl rfl (fun _=>rfl) _ _ _ _⟩
theorem ZD8(l:Zd)(h:l.length<=140737488355328):E 38 [.lst false (l.map Zc)] []=some (.sl 0 0 0 l.length,[.row 0 1 (l.map Zc)]):=by
 have k1:=Zqv l
 have k2:l.length*1<=140737488355328:=by omega
 have k3:(l.map Zc).length=l.length:=XL ..
 have k4:(l.map Zc).take l.length=l.map Zc:=Xy (by omega)
 generalize l.map Zc=L at *
 rw[Zg (by rfl) ZLZ]
 simp only[EQA,Xd,Xb,Xg,reduceCtorEq,Zq,↓reduceIte,ZP4,ZqK,ZLK,Zb,k1,k2,k3,ZI]
 simp[EQO]
theorem ZPJ(σ:Za)(sq:Nat)(b:Zd)(hb:b.length<=140737488355328)(hs:freeAt σ sq=true):Zl E BY σ sq 38 1 false [.lst false (b.map Zc)]=some (.sl sq 0 0 b.length,σ.set sq (.row 0 1 (b.map Zc)),{}):=by
 have h:=ZD8 b hb
 have hb0:=Zs0 b
 by_cases hby:BY 38=true
 ·unfold Zl Zb1
  rw[hby]
  simp only[if_true]
  have h0:reach (Zj σ []) 1000 (refsL [AVal.lst false (b.map Zc)]) []=[]:=rfl
  rw[h0]
  unfold Zbl
  have hn:renL (rhoOf (Zj σ []) 0 []) [AVal.lst false (b.map Zc)]=[.lst false (b.map Zc)]:=rfl
  simp only[Wc,if_true,hn,heapOf,h]
  simp[ZO,Z8,Zdc,hb0]
 ·exact Zwz (args:=[.lst false (b.map Zc)]) h (by simpa using hby) rfl rfl hb0 σ sq hs
def ZcJ(b:Zd)(k:Nat)(x:UInt8):Zd:=if b.length=0 then b else if x.toNat=0 then b.take k++b.drop (k+1)else b.set k (b.getD k 0 ^^^ x)
theorem ZxL(b:Zd)(k:Nat)(x:UInt8):(ZcJ b k x).length<=b.length:=by
 unfold ZcJ
 split
 ·exact XD _
 ·split
  ·simp;omega
  ·simp
end
section
theorem ZEL(σ:Za)(sq own:Nat)(id n:Int):Zl E BY σ sq 69 own true [.int .i64 id,.int .i64 n]=some (.int .i64 (ZfG id n),σ,{}) :=
 Zal (ZAB id n) (by kernel_rfl) rfl rfl rfl (fun _=>rfl) _ _ _
theorem ZA3(σ:Za)(sq own:Nat)(id:Int)(l:List Zp)(hl2:l.length<=9223372036854775807) :
  Zl E BY (.row 0 5 (l.map Zi)::σ) sq 68 own true [.int .i64 id,.sl 0 0 0 (l.map Zi).length]=some (ZiD false (Zcf id l),.row 0 5 (l.map Zi)::σ,{ rd:=[0] }):=by
 have h:=Zun l hl2 id
 rw[Zlo]at h
 refine ZPq (vs:=[.int .i64 id,ZD l]) (by kernel_rfl) ?_ rfl rfl h (r':=ZiD false (Zcf id l)) ?_ ?_ _ _
 ·simp[showAs,showA,ZbX,Zq,ZD]
  exact Xy (by simp)
 ·cases Zcf id l<;>rfl
 ·have h1:=ZE4 l
  rw[Zno]
  have h2:=ZnC ((Zcf id l).getD Zep).data
  unfold Zck
  simp only[WE,XaT,Zgp,ZgH,ZgA,XW,Wc,Z5,h2,Zew,XE,h1,Wp,Xan]
theorem ZOZ(σ:Za)(sq own:Nat)(f:Bool)(l:List Zp)(hl:l.length<=9223372036854775807)(id:Int):Zl E BY σ sq 68 own true [.int .i64 id,.lst f (l.map Zi)]=some (ZiD false (Zcf id l),σ,{}):=by
 have h:=Zun l hl id
 rw[Zlo]at h
 exact Zal h (by kernel_rfl) rfl rfl (by cases Zcf id l<;>rfl) (fun _=>by rw[Zno];rfl) σ sq own
theorem ZAn(w:Int)(l:List Zp)(id:Int)(u:Nat)(v:Zp×Nat×Bool)(hid:v.1.id=id):Zfo w l id u v =
  if v.2.2=false then(v.1,0,129)else if((Zcf id l).isSome && !ZcI id w)=true then(v.1,0,130)else(v.1,if ZfG id v.1.num=0 then u+v.2.1 else 0,ZfG id v.1.num):=by
 unfold Zfo ZfG
 rw[hid]
 cases v.2.2
 ·rfl
 ·cases ((Zcf id l).isSome && !ZcI id w)
  ·cases Zda id v.1.num
   ·cases (id==35)<;>rfl
   ·rfl
  ·rfl
theorem ZQZ(w:Int)(N U:Nat)(hU:U+N<=140737488355328)(l:List Zp) :
  Zc7 0 [(11,ZaX (l.map Zi)),(10,.lst false []),(8,.int .i64 (U:Nat)),(7,.int .i64 (N:Nat)),(0,.int .i64 w)] (ZaS 5 (l.map Zi))=some (ZcX (U+N) (l,0)):=by
 have hw:IntKind.i64.wrap ((U:Int)+(N:Int))=((U+N:Nat):Int):=by rw[ZQ (by omega) (by omega)];rfl
 have h1:¬(((0:Nat):Int)>0):=by simp
 unfold ZcX Zc7
 rw[Zr]
 cases l with
 |nil =>
  simp only[EQA,Zk,Xd,Xb,reduceCtorEq,↓reduceIte,Zm,Zcl,Zw8,Zl0,ZbL,Zbs,Zb,ZaZ,ZaF,hw,h1]
  try (simp[EQO])
 |cons p l =>
  generalize hX:(p::l).map Zi=X
  have hpos:0<X.length:=by rw[<-hX];simp
  simp only[ZbY hpos,Zbk hpos]
  simp only[EQA,Xd,Xb,reduceCtorEq,↓reduceIte,Zcl,Zw8,Zl0,ZbL,Zbs,Zb,hw,h1]
  simp[EQO]
theorem Zk1(w:Int)(N U:Nat)(hU:U+N<=140737488355328)(hN9:N<=1000000000):∀ (n:Nat) (b:Zd) (l:List Zp),b.length<=n->l.length+b.length<=N->(∀ p∈l,p.data.length<=140737488355328) ->
  Zc7 0 [(11,ZaX (l.map Zi)),(10,.lst false (b.map Zc)),(8,.int .i64 (U:Nat)),(7,.int .i64 (N:Nat)),(0,.int .i64 w)] (ZaS 5 (l.map Zi))=some (ZcX (U+N) (Zcb w n b l))
 |n,[],l,hb,hN,hd=>by
  rw[ZhJ]
  exact ZQZ w N U hU l
 |0,c::r,l,hb,hN,hd=>by simp at hb
 |n+1,c::r,l,hb,hN,hd=>by
  rw[ZiE]
  generalize hB:c::r=b at *
  have hlen:0<b.length:=by rw[<-hB];simp
  have hpos:((b.length:Nat):Int)>0:=by omega
  have hu:=Znp (w:=w) (b:=b) (l:=l)
  have hGV:=fun σ sq own f=>ZnE σ sq own f b (by omega)
  have hgu:=Zhn b
  unfold gvT at hGV
  unfold ZaJ at hu ⊢
  rcases hx:ZL b with⟨k,u,e⟩
  rw[hx]at hGV hu hgu
  simp only at hGV hu hgu ⊢
  have n0:((0:Int) != 0)=false:=rfl
  by_cases he:e=0
  ·subst he
   have hul:=(hgu rfl).2
   have hM:=fun σ sq own=>ZCc σ sq own (k:Int) w
   cases hm:ZF (k:Int) w<;>rw[hm]at hM hu
   ·rw[if_pos (Xt rfl)]
    have e9:¬((129:Int)=0):=by decide
    rw[if_neg e9]
    unfold ZcX Zc7
    simp only
    rw[if_neg e9,Zr]
    cases l with
    |nil =>
     simp only[Xo,ZaZ,ZaF]
     simp only[EQA,Zk,Xd,Xb,unA,Zh,unG,reduceCtorEq,↓reduceIte,Zm,Zcl,ZbL,Zbs,Zb,hpos,hGV,hM,n0]
     try (simp[EQO])
    |cons a l =>
     generalize hX:(a::l).map Zi=X at *
     have hXp:0<X.length:=by rw[<-hX];simp
     simp only[ZbY hXp,Zbk hXp]
     simp only[EQA,Zk,Xd,Xb,unA,Zh,unG,reduceCtorEq,↓reduceIte,Zm,Zcl,ZbL,Zbs,Zb,hpos,hGV,hM,n0]
     try (simp[EQO])
   ·have hc:¬((0:Int)≠0\/true=false):=by simp
    rw[if_neg hc]at hu ⊢
    have hs:=fun σ kk=>Zfp σ b kk ((u:Nat):Int) (by omega) (by omega)
    have e2:(((u:Nat):Int)).toNat=u:=rfl
    rw[e2]at hs
    have hV:=fun σ sq own f=>ZHo σ sq own f (k:Int) (b.drop u) (by simp;omega)
    have hF:=fun σ sq own f=>ZOZ σ sq own f l (by omega) (k:Int)
    have hS:=fun σ sq own=>ZA3 σ sq own (k:Int) l (by omega)
    have hid:=Zo4 (k:Int) (b.drop u)
    have hused:(Zam (k:Int) (b.drop u)).2.1<=b.length:=XaU (ZoD _ _) (by simp)
    have hdat:(Zam (k:Int) (b.drop u)).1.data.length<=b.length:=XaU (Zzn _ _) (by simp)
    unfold Zbx at hV
    simp only[Zno]at hF hS
    rw[ZAn w l _ u _ hid]at hu ⊢
    generalize Zam (k:Int) (b.drop u)=v at *
    obtain⟨p,m,ok⟩:=v
    simp only at hV hid hused hdat hu ⊢
    have hC:=fun σ sq own=>ZEL σ sq own (k:Int) p.num
    generalize ZfG (k:Int) p.num=cd at *
    generalize (Zcf (k:Int) l).getD Zep=q at *
    cases ok
    ·rw[if_pos rfl]
     have e9:¬((129:Int)=0):=by decide
     rw[if_neg e9]
     unfold ZcX Zc7
     simp only
     rw[if_neg e9,Zr]
     cases l with
     |nil =>
      simp only[Xo,ZaZ,ZaF]
      simp only[EQA,Zk,Xf,Xd,Xe,Xb,Xg,unA,Zh,unG,reduceCtorEq,↓reduceIte,Zm,Zcl,ZbL,Zbs,Zb,hpos,hGV,hM,hs,hV,n0,AVal.cells]
      try (simp[EQO])
     |cons a l =>
      generalize hX:(a::l).map Zi=X at *
      have hXp:0<X.length:=by rw[<-hX];simp
      simp only[ZbY hXp,Zbk hXp]
      simp only[EQA,Zk,Xf,Xd,Xe,Xb,Xg,unA,Zh,unG,reduceCtorEq,↓reduceIte,Zm,Zcl,ZbL,Zbs,Zb,hpos,hGV,hM,hs,hV,n0,AVal.cells]
      try (simp[EQO])
    ·have ht:¬(true=false):=by decide
     rw[if_neg ht]at hu ⊢
     have n3:∀ b:Bool,((k:Int)==38)=b->((k:Int) != 38)=!b:=fun b h=>by rw[bne,h]
     cases h4:(Zcf (k:Int) l).isSome<;>rw[h4]at hF hS
     ·have hb0:(false && !ZcI (k:Int) w)=false:=rfl
      rw[h4]at hu
      by_cases hcd:cd=0
      ·subst hcd
       obtain⟨u1,u2,u3⟩:=hu (by simp[hb0])
       have hb1:¬(false=true):=by decide
       simp only[hb0,if_neg hb1,if_true]at u1 u2 u3 ⊢
       have hw2:IntKind.i64.wrap ((u:Int)+(m:Int))=((u+m:Nat):Int):=by rw[ZQ (by omega) (by omega)];rfl
       have hs2:=fun σ kk=>Zfp σ b kk ((u+m:Nat):Int) (by omega) (by omega)
       have e3:(((u+m:Nat):Int)).toNat=u+m:=rfl
       rw[e3]at hs2
       have ih:=Zk1 w N U hU hN9 n (b.drop (u+m)) (l++[p]) (by rw[XV];omega) (by rw[XV,Xk,WT];omega) (by
        intro q hq
        rcases Xs.1 hq with h |h
        ·exact hd q h
        ·simp at h;subst h;omega)
       generalize Zcb w n (b.drop (u+m)) (l++[p])=R at *
       unfold Zc7 at ih ⊢
       rw[Zr]
       cases l with
       |nil =>
        simp only[Xo]at hF
        simp only[XU,Xn,Xo,Zbi,Za0,ZaZ,ZaF,Xm,Xu,Xv,Zi,ZZ,Zf]at ih ⊢
        simp only[EQA,ZB,ZX,Xf,Xd,Xe,Xb,Xg,unA,Zh,Zw,unG,reduceCtorEq,Zq,↓reduceIte,gcT,gcA,gcIds,reach,rhoOf,heapOf,idxA,genB,newGen,renB,refsB,ZbL,Zbs,Zb,hpos,hGV,hM,hs,hV,hF,hC,hw2,hs2,n0,ZI,kOk,viewAs,Zv,Zs,Zao,Zj,Wv,AVal.cells]
        exact ih
       |cons a l =>
        have hXl:((a::l).map Zi).length=l.length+1:=by simp
        rw[XH]at ih
        generalize hX:(a::l).map Zi=X at *
        have hXp:0<X.length:=by omega
        have hXq:0<(X++[p].map Zi).length:=by rw[Xk];omega
        simp only[ZbY hXp,Zbk hXp,ZbY hXq,Zbk hXq]at ih ⊢
        have hk:kOk 5 X=true:=by rw[<-hX];rfl
        have hb9:(X.length+1)*72<=140737488355328:=by simp at hN;omega
        try simp only[Xn,Xo,Zi,ZZ,Zf,Xk,Xm,Xu,Xv]at ih
        simp only[EQA,ZB,ZX,Xf,Xd,Xe,Xb,Xg,unA,Zh,Zw,unG,reduceCtorEq,Zq,↓reduceIte,gcT,gcA,gcIds,reach,rhoOf,heapOf,idxA,genB,newGen,renB,refsB,ZbL,Zbs,Zb,hpos,hGV,hM,hs,hV,hS,hC,hw2,hs2,n0,hb9,ZI,kOk,viewAs,Zv,Zs,Zao,Zj,AVal.cells]
        exact ih
      ·have n1:(cd != 0)=true:=by simpa using hcd
       have hb1:¬(false=true):=by decide
       simp only[hb0,if_neg hb1,if_neg hcd]
       unfold ZcX Zc7
       simp only
       rw[if_neg hcd,Zr]
       cases l with
       |nil =>
        simp only[Xo,ZaZ,ZaF]at hF ⊢
        simp only[EQA,Zk,Xf,Xd,Xe,Xb,Xg,unA,Zh,Zw,unG,reduceCtorEq,↓reduceIte,Zm,Zcl,ZbL,Zbs,Zb,hpos,hGV,hM,hs,hV,hF,hC,n1,n0,AVal.cells]
        try (simp[EQO])
       |cons a l =>
        generalize hX:(a::l).map Zi=X at *
        have hXp:0<X.length:=by rw[<-hX];simp
        simp only[ZbY hXp,Zbk hXp]
        simp only[EQA,Zk,Xf,Xd,Xe,Xb,Xg,unA,Zh,Zw,unG,reduceCtorEq,↓reduceIte,Zm,Zcl,ZbL,Zbs,Zb,hpos,hGV,hM,hs,hV,hS,hC,n1,n0,AVal.cells]
        try (simp[EQO])
     ·cases h38:((k:Int)==38)<;>have h38':=n3 _ h38<;>simp only[Bool.not_true,XaT]at h38'
      ·cases h11:((k:Int)==11)
       ·have hb0:(true && !ZcI (k:Int) w)=true:=by simp[ZcI,h38,h11]
        have e9:¬((130:Int)=0):=by decide
        rw[if_pos hb0,if_neg e9]
        unfold ZcX Zc7
        simp only
        rw[if_neg e9,Zr]
        cases l with
        |nil =>
         simp only[Xo,ZaZ,ZaF]at hF ⊢
         simp only[EQA,Zk,Xf,Xd,Xe,Xb,Xg,unA,Zh,Zw,unG,reduceCtorEq,↓reduceIte,Zm,Zcl,ZbL,Zbs,Zb,hpos,hGV,hM,hs,hV,hF,h38',h11,n0,AVal.cells]
         try (simp[EQO])
        |cons a l =>
         generalize hX:(a::l).map Zi=X at *
         have hXp:0<X.length:=by rw[<-hX];simp
         simp only[ZbY hXp,Zbk hXp]
         simp only[EQA,Zk,Xf,Xd,Xe,Xb,Xg,unA,Zh,Zw,unG,reduceCtorEq,↓reduceIte,Zm,Zcl,ZbL,Zbs,Zb,hpos,hGV,hM,hs,hV,hS,h38',h11,n0,AVal.cells]
         try (simp[EQO])
       ·cases h3:(w==3)
        ·have hb0:(true && !ZcI (k:Int) w)=true:=by simp[ZcI,h38,h11,h3]
         have e9:¬((130:Int)=0):=by decide
         rw[if_pos hb0,if_neg e9]
         unfold ZcX Zc7
         simp only
         rw[if_neg e9,Zr]
         cases l with
         |nil =>
          simp only[Xo,ZaZ,ZaF]at hF ⊢
          simp only[EQA,Zk,Xf,Xd,Xe,Xb,Xg,unA,Zh,unG,reduceCtorEq,↓reduceIte,Zm,Zcl,ZbL,Zbs,Zb,hpos,hGV,hM,hs,hV,hF,h38',h11,h3,n0,AVal.cells]
          try (simp[EQO])
         |cons a l =>
          generalize hX:(a::l).map Zi=X at *
          have hXp:0<X.length:=by rw[<-hX];simp
          simp only[ZbY hXp,Zbk hXp]
          simp only[EQA,Zk,Xf,Xd,Xe,Xb,Xg,unA,Zh,unG,reduceCtorEq,↓reduceIte,Zm,Zcl,ZbL,Zbs,Zb,hpos,hGV,hM,hs,hV,hS,h38',h11,h3,n0,AVal.cells]
          try (simp[EQO])
        ·have hb0:(true && !ZcI (k:Int) w)=false:=by simp[ZcI,h11,h3]
         rw[h4]at hu
         by_cases hcd:cd=0
         ·subst hcd
          obtain⟨u1,u2,u3⟩:=hu (by simp[hb0])
          have hb1:¬(false=true):=by decide
          simp only[hb0,if_neg hb1,if_true]at u1 u2 u3 ⊢
          have hw2:IntKind.i64.wrap ((u:Int)+(m:Int))=((u+m:Nat):Int):=by rw[ZQ (by omega) (by omega)];rfl
          have hs2:=fun σ kk=>Zfp σ b kk ((u+m:Nat):Int) (by omega) (by omega)
          have e3:(((u+m:Nat):Int)).toNat=u+m:=rfl
          rw[e3]at hs2
          have ih:=Zk1 w N U hU hN9 n (b.drop (u+m)) (l++[p]) (by rw[XV];omega) (by rw[XV,Xk,WT];omega) (by
           intro q hq
           rcases Xs.1 hq with h |h
           ·exact hd q h
           ·simp at h;subst h;omega)
          generalize Zcb w n (b.drop (u+m)) (l++[p])=R at *
          unfold Zc7 at ih ⊢
          rw[Zr]
          cases l with
          |nil =>
           simp only[Xo]at hF
           simp only[XU,Xn,Xo,Zbi,Za0,ZaZ,ZaF,Xm,Xu,Xv,Zi,ZZ,Zf]at ih ⊢
           simp only[EQA,ZB,ZX,Xf,Xd,Xe,Xb,Xg,unA,Zh,unG,reduceCtorEq,Zq,↓reduceIte,gcT,gcA,gcIds,reach,rhoOf,heapOf,idxA,genB,newGen,renB,refsB,ZbL,Zbs,Zb,hpos,hGV,hM,hs,hV,hF,hC,h38',h11,h3,hw2,hs2,n0,ZI,kOk,viewAs,Zv,Zs,Zao,Zj,Wv,AVal.cells]
           exact ih
          |cons a l =>
           have hXl:((a::l).map Zi).length=l.length+1:=by simp
           rw[XH]at ih
           generalize hX:(a::l).map Zi=X at *
           have hXp:0<X.length:=by omega
           have hXq:0<(X++[p].map Zi).length:=by rw[Xk];omega
           simp only[ZbY hXp,Zbk hXp,ZbY hXq,Zbk hXq]at ih ⊢
           have hk:kOk 5 X=true:=by rw[<-hX];rfl
           have hb9:(X.length+1)*72<=140737488355328:=by simp at hN;omega
           try simp only[Xn,Xo,Zi,ZZ,Zf,Xk,Xm,Xu,Xv]at ih
           simp only[EQA,ZB,ZX,Xf,Xd,Xe,Xb,Xg,unA,Zh,unG,reduceCtorEq,Zq,↓reduceIte,gcT,gcA,gcIds,reach,rhoOf,heapOf,idxA,genB,newGen,renB,refsB,ZbL,Zbs,Zb,hpos,hGV,hM,hs,hV,hS,hC,h38',h11,h3,hw2,hs2,n0,hb9,ZI,kOk,viewAs,Zv,Zs,Zao,Zj,AVal.cells]
           exact ih
         ·have n1:(cd != 0)=true:=by simpa using hcd
          have hb1:¬(false=true):=by decide
          simp only[hb0,if_neg hb1,if_neg hcd]
          unfold ZcX Zc7
          simp only
          rw[if_neg hcd,Zr]
          cases l with
          |nil =>
           simp only[Xo,ZaZ,ZaF]at hF ⊢
           simp only[EQA,Zk,Xf,Xd,Xe,Xb,Xg,unA,Zh,unG,reduceCtorEq,↓reduceIte,Zm,Zcl,ZbL,Zbs,Zb,hpos,hGV,hM,hs,hV,hF,hC,h38',h11,h3,n1,n0,AVal.cells]
           try (simp[EQO])
          |cons a l =>
           generalize hX:(a::l).map Zi=X at *
           have hXp:0<X.length:=by rw[<-hX];simp
           simp only[ZbY hXp,Zbk hXp]
           simp only[EQA,Zk,Xf,Xd,Xe,Xb,Xg,unA,Zh,unG,reduceCtorEq,↓reduceIte,Zm,Zcl,ZbL,Zbs,Zb,hpos,hGV,hM,hs,hV,hS,hC,h38',h11,h3,n1,n0,AVal.cells]
           try (simp[EQO])
      ·have hb0:(true && !ZcI (k:Int) w)=false:=by simp[ZcI,h38]
       rw[h4]at hu
       by_cases hcd:cd=0
       ·subst hcd
        obtain⟨u1,u2,u3⟩:=hu (by simp[hb0])
        have hb1:¬(false=true):=by decide
        simp only[hb0,if_neg hb1,if_true]at u1 u2 u3 ⊢
        have hw2:IntKind.i64.wrap ((u:Int)+(m:Int))=((u+m:Nat):Int):=by rw[ZQ (by omega) (by omega)];rfl
        have hs2:=fun σ kk=>Zfp σ b kk ((u+m:Nat):Int) (by omega) (by omega)
        have e3:(((u+m:Nat):Int)).toNat=u+m:=rfl
        rw[e3]at hs2
        have ih:=Zk1 w N U hU hN9 n (b.drop (u+m)) (l++[p]) (by rw[XV];omega) (by rw[XV,Xk,WT];omega) (by
         intro q hq
         rcases Xs.1 hq with h |h
         ·exact hd q h
         ·simp at h;subst h;omega)
        generalize Zcb w n (b.drop (u+m)) (l++[p])=R at *
        unfold Zc7 at ih ⊢
        rw[Zr]
        cases l with
        |nil =>
         simp only[Xo]at hF
         simp only[XU,Xn,Xo,Zbi,Za0,ZaZ,ZaF,Xm,Xu,Xv,Zi,ZZ,Zf]at ih ⊢
         simp only[EQA,ZB,ZX,Xf,Xd,Xe,Xb,Xg,unA,Zh,Zw,unG,reduceCtorEq,Zq,↓reduceIte,gcT,gcA,gcIds,reach,rhoOf,heapOf,idxA,genB,newGen,renB,refsB,ZbL,Zbs,Zb,hpos,hGV,hM,hs,hV,hF,hC,h38',hw2,hs2,n0,ZI,kOk,viewAs,Zv,Zs,Zao,Zj,Wv,AVal.cells]
         exact ih
        |cons a l =>
         have hXl:((a::l).map Zi).length=l.length+1:=by simp
         rw[XH]at ih
         generalize hX:(a::l).map Zi=X at *
         have hXp:0<X.length:=by omega
         have hXq:0<(X++[p].map Zi).length:=by rw[Xk];omega
         simp only[ZbY hXp,Zbk hXp,ZbY hXq,Zbk hXq]at ih ⊢
         have hk:kOk 5 X=true:=by rw[<-hX];rfl
         have hb9:(X.length+1)*72<=140737488355328:=by simp at hN;omega
         try simp only[Xn,Xo,Zi,ZZ,Zf,Xk,Xm,Xu,Xv]at ih
         simp only[EQA,ZB,ZX,Xf,Xd,Xe,Xb,Xg,unA,Zh,Zw,unG,reduceCtorEq,Zq,↓reduceIte,gcT,gcA,gcIds,reach,rhoOf,heapOf,idxA,genB,newGen,renB,refsB,ZbL,Zbs,Zb,hpos,hGV,hM,hs,hV,hS,hC,h38',hw2,hs2,n0,hb9,ZI,kOk,viewAs,Zv,Zs,Zao,Zj,AVal.cells]
         exact ih
       ·have n1:(cd != 0)=true:=by simpa using hcd
        have hb1:¬(false=true):=by decide
        simp only[hb0,if_neg hb1,if_neg hcd]
        unfold ZcX Zc7
        simp only
        rw[if_neg hcd,Zr]
        cases l with
        |nil =>
         simp only[Xo,ZaZ,ZaF]at hF ⊢
         simp only[EQA,Zk,Xf,Xd,Xe,Xb,Xg,unA,Zh,Zw,unG,reduceCtorEq,↓reduceIte,Zm,Zcl,ZbL,Zbs,Zb,hpos,hGV,hM,hs,hV,hF,hC,h38',n1,n0,AVal.cells]
         try (simp[EQO])
        |cons a l =>
         generalize hX:(a::l).map Zi=X at *
         have hXp:0<X.length:=by rw[<-hX];simp
         simp only[ZbY hXp,Zbk hXp]
         simp only[EQA,Zk,Xf,Xd,Xe,Xb,Xg,unA,Zh,Zw,unG,reduceCtorEq,↓reduceIte,Zm,Zcl,ZbL,Zbs,Zb,hpos,hGV,hM,hs,hV,hS,hC,h38',n1,n0,AVal.cells]
         try (simp[EQO])
  ·have n1:(e != 0)=true:=by simpa using he
   have e9:¬((129:Int)=0):=by decide
   rw[if_pos (Xp he)]
   rw[if_neg e9]
   unfold ZcX Zc7
   simp only
   rw[if_neg e9,Zr]
   cases l with
   |nil =>
    simp only[Xo,ZaZ,ZaF]
    simp only[EQA,Zk,Xd,Xb,Zh,Zw,reduceCtorEq,↓reduceIte,Zm,Zcl,ZbL,Zbs,Zb,hpos,hGV,n1]
    try (simp[EQO])
   |cons a l =>
    generalize hX:(a::l).map Zi=X at *
    have hXp:0<X.length:=by rw[<-hX];simp
    simp only[ZbY hXp,Zbk hXp]
    simp only[EQA,Zk,Xd,Xb,Zh,Zw,reduceCtorEq,↓reduceIte,Zm,Zcl,ZbL,Zbs,Zb,hpos,hGV,n1]
    try (simp[EQO])
end
section
theorem ZjC{O:ZJ}{bf:Nat->Bool}{f k:Nat}{args args':List AVal}{full vs:List AVal}(h:O f args' []=some (.tup (.sl 0 0 0 full.length::vs),[.row 0 k full]))(hv:vs.all Z5=true)(hb:bf f=false)(hp:args.all Z2=true)(hn:args.map ZM=args')(σ:Za)(sq own:Nat):Zl O bf σ sq f own true args=some (.tup (.lst false full::vs),σ,{}):=by
 have hr:∀ sq,renV (ZaR [] [] sq) (.tup (.lst false full::vs))=.tup (.lst false full::vs):=fun sq=>by
  simp only[renV,renL,(ZhB (σ:=[]) hv).2.2]
 rw[ZbK hb hp,hn,h]
 have : ZO true 0 (some (.tup (.sl 0 0 0 full.length::vs),[.row 0 k full]))=some (.tup (.lst false full::vs),[]):=by
  unfold ZO
  rw[if_pos rfl]
  obtain⟨b1,b2,b3⟩:=ZhB (σ:=[Zx.row 0 k full]) hv
  simp[EQO,ZaI,viewR,viewAs,Zv,Zs,Zq,b1,Zj,b2,b3]
 rw[this,ZdP _ _ _ _ (hr sq)]
theorem ZoL(k:Nat):kOk k []=true:=rfl
theorem ZwJ(σ:Za)(sq own:Nat)(p:Zp)(h:Zd1 p):Zl E BY σ sq 79 own true [.agg [.int .i64 p.id,.int .i64 p.num,.str p.text,.str p.pair,.lst false (p.data.map Zc)]]=some (.tup [.lst false ((ZeU p).map Zc),.bool (okV (ZaG p.id) p)],σ,{}):=by
 have hC:=fun σ sq own=>Zr6 σ sq own p.id
 obtain⟨ht,hp,hd⟩:=h
 have hu:=Zha p.num
 have z1:((1:Nat):Int)=1:=rfl
 have z2:((2:Nat):Int)=2:=rfl
 have z4:((4:Nat):Int)=4:=rfl
 have hlt:ZH p.num<18446744073709551616:=by unfold ZH;omega
 unfold ZeU
 rcases Zj5 p.id with hk |hk |hk |hk |hk |hk |hk |hk
 all_goals rw[hk]at hC ⊢
 ·refine Zal (r:=.tup [.lst true [],.bool false]) ?_ (by kernel_rfl) rfl rfl rfl (fun _=>rfl) _ _ _
  rw[Zg (by rfl) ZfO]
  simp only[EQA,Zba,ZR,Zk,Xd,Xb,Xg,↓reduceIte,Zm,Zdb,ZcS,Zdo,Zb,hC,Xw]
 ·have hP:=fun σ sq own=>Zh6 σ sq own (ZH p.num) 1 hlt (by omega) (by omega)
  rw[z1]at hP
  rw[show Zcu 1 p=(beB (ZH p.num) 1,[])from rfl,show okV 1 p=(decide (p.num>=0)&&decide (p.num<256))from rfl]
  simp only[XC]
  refine Zal (r:=.tup [.lst false ((beB (ZH p.num) 1).map Zc),.bool (decide (p.num>=0)&&decide (p.num<256))]) ?_ (by kernel_rfl) rfl rfl rfl (fun _=>rfl) _ _ _
  generalize beB (ZH p.num) 1=B at *
  rw[Zg (by rfl) ZfO]
  by_cases hg:p.num>=0
  ·simp only[EQA,Zba,ZR,Zk,Xd,Xb,Xg,Zh,unG,↓reduceIte,Zm,Zdb,ZcS,Zdo,Zb,hC,hP,hu,hg]
  ·simp only[EQA,Zba,ZR,Zk,Xd,Xb,Xg,Zh,Zw,↓reduceIte,Zm,Zdb,ZcS,Zdo,Zb,hC,hP,hu,hg]
 ·have hP:=fun σ sq own=>Zh6 σ sq own (ZH p.num) 2 hlt (by omega) (by omega)
  rw[z2]at hP
  rw[show Zcu 2 p=(beB (ZH p.num) 2,[])from rfl,show okV 2 p=(decide (p.num>=0)&&decide (p.num<65536))from rfl]
  simp only[XC]
  refine Zal (r:=.tup [.lst false ((beB (ZH p.num) 2).map Zc),.bool (decide (p.num>=0)&&decide (p.num<65536))]) ?_ (by kernel_rfl) rfl rfl rfl (fun _=>rfl) _ _ _
  generalize beB (ZH p.num) 2=B at *
  rw[Zg (by rfl) ZfO]
  by_cases hg:p.num>=0
  ·simp only[EQA,Zba,ZR,Zk,Xd,Xb,Xg,Zh,unG,↓reduceIte,Zm,Zdb,ZcS,Zdo,Zb,hC,hP,hu,hg,Xw]
  ·simp only[EQA,Zba,ZR,Zk,Xd,Xb,Xg,Zh,Zw,↓reduceIte,Zm,Zdb,ZcS,Zdo,Zb,hC,hP,hu,hg,Xw]
 ·have hP:=fun σ sq own=>Zh6 σ sq own (ZH p.num) 4 hlt (by omega) (by omega)
  rw[z4]at hP
  rw[show Zcu 3 p=(beB (ZH p.num) 4,[])from rfl,show okV 3 p=(decide (p.num>=0)&&decide (p.num<4294967296))from rfl]
  simp only[XC]
  refine Zal (r:=.tup [.lst false ((beB (ZH p.num) 4).map Zc),.bool (decide (p.num>=0)&&decide (p.num<4294967296))]) ?_ (by kernel_rfl) rfl rfl rfl (fun _=>rfl) _ _ _
  generalize beB (ZH p.num) 4=B at *
  rw[Zg (by rfl) ZfO]
  by_cases hg:p.num>=0
  ·simp only[EQA,Zba,ZR,Zk,Xd,Xb,Xg,Zh,unG,↓reduceIte,Zm,Zdb,ZcS,Zdo,Zb,hC,hP,hu,hg,Xw]
  ·simp only[EQA,Zba,ZR,Zk,Xd,Xb,Xg,Zh,Zw,↓reduceIte,Zm,Zdb,ZcS,Zdo,Zb,hC,hP,hu,hg,Xw]
 ·have hV:=fun σ sq own=>Zqp σ sq own p.num
  unfold Zen at hV
  rw[show Zcu 4 p=((Zan p.num).1,[])from rfl,show okV 4 p=((Zan p.num).2==0)from rfl]
  simp only[XC]
  refine Zal (r:=.tup [.lst false ((Zan p.num).1.map Zc),.bool ((Zan p.num).2==0)]) ?_ (by kernel_rfl) rfl rfl rfl (fun _=>rfl) _ _ _
  rw[Zg (by rfl) ZfO]
  simp only[EQA,Zba,ZR,Zk,Xd,Xb,Xg,↓reduceIte,Zm,Zdb,ZcS,Zdo,Zb,hC,hV,Xw]
 ·rw[show Zcu 5 p=((Zy p.text).1,[])from rfl,show okV 5 p=((Zy p.text).2==0)from rfl]
  simp only[XC]
  have hx:=Zlv p.text
  by_cases h0:(Zy p.text).2=0
  ·have hT:=fun σ sq hs=>Zh7 (bf:=BY) (ZeK p.text ht) h0 (by kernel_rfl) (args:=[.str p.text]) rfl rfl σ sq hs
   have e0:((Zy p.text).2==0)=true:=by simpa using h0
   have n0:((0:Int)==0)=true:=rfl
   rw[e0]
   generalize (Zy p.text).1=T at *
   refine ZjC (k:=1) (vs:=[.bool true]) ?_ rfl (by kernel_rfl) rfl rfl _ _ _
   rw[Zg (by rfl) ZfO]
   have hl:(T.map Zc).length=T.length:=by simp
   rw[hl]
   generalize T.map Zc=Q at *
   simp only[EQA,Zba,ZR,Xf,Xd,Xb,Xg,↓reduceIte,Zdb,ZcS,Zdo,Zb,hC,hT,Xw]
   try (simp[EQO])
  ·have hT:=fun σ sq own=>ZhA (bf:=BY) (ZeK p.text ht) h0 (by kernel_rfl) (args:=[.str p.text]) rfl rfl σ sq own
   have e0:((Zy p.text).2==0)=false:=by simpa using h0
   rw[hx h0]
   refine Zal (r:=.tup [.lst true [],.bool ((Zy p.text).2==0)]) ?_ (by kernel_rfl) rfl rfl rfl (fun _=>rfl) _ _ _
   rw[Zg (by rfl) ZfO]
   simp only[EQA,Zba,ZR,Zk,Xf,Xd,Xb,Xg,↓reduceIte,Zm,Zdb,ZcS,Zdo,Zb,hC,hT,Xw]
 ·have hV:=fun σ sq own f=>ZrZ σ sq own f p.data hd
  unfold byT at hV
  rw[show Zcu 6 p=((Z0 p.data).1,[])from rfl,show okV 6 p=((Z0 p.data).2==0)from rfl]
  simp only[XC]
  refine Zal (r:=.tup [.lst false ((Z0 p.data).1.map Zc),.bool ((Z0 p.data).2==0)]) ?_ (by kernel_rfl) rfl rfl rfl (fun _=>rfl) _ _ _
  rw[Zg (by rfl) ZfO]
  simp only[EQA,Zba,ZR,Zk,Xd,Xb,Xg,↓reduceIte,Zm,Zdb,ZcS,Zdo,Zb,hC,hV,Xw]
 ·rw[show Zcu 7 p=((Zy p.text).1,(Zy p.pair).1)from rfl,show okV 7 p=((Zy p.text).2==0&&(Zy p.pair).2==0)from rfl]
  simp only
  have hx:=Zlv p.text
  have hy:=Zlv p.pair
  have l1:=Zcz p.text
  have l2:=Zcz p.pair
  have n0:((0:Int)==0)=true:=rfl
  refine ZjC (k:=1) (full:=((Zy p.text).1++(Zy p.pair).1).map Zc) (vs:=[.bool ((Zy p.text).2==0&&(Zy p.pair).2==0)]) ?_ rfl (by kernel_rfl) rfl rfl _ _ _
  rw[Zg (by rfl) ZfO,XL]
  by_cases h0:(Zy p.text).2=0<;>by_cases h1:(Zy p.pair).2=0
  ·have hT:=fun σ sq hs=>Zh7 (bf:=BY) (ZeK p.text ht) h0 (by kernel_rfl) (args:=[.str p.text]) rfl rfl σ sq hs
   have hP:=fun σ sq hs=>Zh7 (bf:=BY) (ZeK p.pair hp) h1 (by kernel_rfl) (args:=[.str p.pair]) rfl rfl σ sq hs
   have e0:((Zy p.text).2==0)=true:=by simpa using h0
   have e1:((Zy p.pair).2==0)=true:=by simpa using h1
   rw[e0,e1]
   generalize (Zy p.text).1=T at *
   generalize (Zy p.pair).1=U at *
   have k1:=Zbe U
   have k2:(T.length+U.length)*1<=140737488355328:=by omega
   have hl:=Zd7 U
   simp only[XH,Xk]
   simp only[EQA,Zba,ZR,Xf,Xd,Xb,Xg,Zh,unG,Zq,↓reduceIte,Zdb,ZcS,Zdo,Zb,hC,hT,hP,k1,k2,hl,ZI,XD,Xw]
   try (simp[EQO])
  ·have hT:=fun σ sq hs=>Zh7 (bf:=BY) (ZeK p.text ht) h0 (by kernel_rfl) (args:=[.str p.text]) rfl rfl σ sq hs
   have hP:=fun σ sq own=>ZhA (bf:=BY) (ZeK p.pair hp) h1 (by kernel_rfl) (args:=[.str p.pair]) rfl rfl σ sq own
   have e0:((Zy p.text).2==0)=true:=by simpa using h0
   have e1:((Zy p.pair).2==0)=false:=by simpa using h1
   rw[e0,e1,hy h1]
   generalize (Zy p.text).1=T at *
   have k2:T.length*1<=140737488355328:=by omega
   simp only[XC]
   simp only[EQA,Zba,ZR,Xf,Xd,Xb,Xg,Zh,unG,Zq,↓reduceIte,Zdb,ZcS,Zdo,Zb,hC,hT,hP,e1,k2,ZoL,ZI,Xw]
   try (simp[EQO])
  ·have hT:=fun σ sq own=>ZhA (bf:=BY) (ZeK p.text ht) h0 (by kernel_rfl) (args:=[.str p.text]) rfl rfl σ sq own
   have hP:=fun σ sq hs=>Zh7 (bf:=BY) (ZeK p.pair hp) h1 (by kernel_rfl) (args:=[.str p.pair]) rfl rfl σ sq hs
   have e0:((Zy p.text).2==0)=false:=by simpa using h0
   have e1:((Zy p.pair).2==0)=true:=by simpa using h1
   rw[e0,hx h0]
   generalize (Zy p.pair).1=U at *
   have k1:=Zbe U
   have k2:U.length*1<=140737488355328:=by omega
   have hl:=Zd7 U
   simp only[XU]
   simp only[EQA,Zba,ZR,Xf,Xd,Xb,Xg,Zh,Zw,Zq,↓reduceIte,Zdb,ZcS,Zdo,Zb,hC,hT,hP,e0,k1,k2,hl,ZI,XD,Xw]
   try (simp[EQO])
  ·have hT:=fun σ sq own=>ZhA (bf:=BY) (ZeK p.text ht) h0 (by kernel_rfl) (args:=[.str p.text]) rfl rfl σ sq own
   have hP:=fun σ sq own=>ZhA (bf:=BY) (ZeK p.pair hp) h1 (by kernel_rfl) (args:=[.str p.pair]) rfl rfl σ sq own
   have e0:((Zy p.text).2==0)=false:=by simpa using h0
   have e1:((Zy p.pair).2==0)=false:=by simpa using h1
   rw[e0,hx h0,hy h1]
   simp only[EQA,Zba,ZR,Xf,Xd,Xe,Xb,Xg,Xbv,Zh,Zw,Zq,↓reduceIte,Zdb,ZcS,Zdo,Zb,hC,hT,hP,e0,ZoL,ZI,Xw]
   simp[EQO]
def Zzo(b:Zd):AVal×Za:=(.tup [.sl 0 0 0 ((Zan b.length).1++b).length,.bool ((Zan b.length).2==0)],[.row 0 1 (((Zan b.length).1++b).map Zc)])
def ZeW(g:Bool)(b:Zd):AVal×Za:=if g then Zzo b else(.tup [.lst true [],.bool false],[])
theorem Zwf(l:List Zp)(hl:l.length<=9223372036854775807)(hx:∀ p∈l,Zd1 p):∀ (r:List Zp) (i:Nat) (acc:Zd),l.drop i=r->acc.length+r.length*200000<=140737488355000 ->
  Zhq 0 [(5,.int .i64 i),(4,.sl 0 0 0 acc.length),(0,.lst false (l.map Zi))] [.row 0 1 (acc.map Zc)]=some (ZeW (r.all ZbR) (acc++(r.map ZaP).flatten))
 | [],i,acc,h,hn=>by
  have h1:=ZcG h
  have hV:=fun σ sq own=>Zqp σ sq own (acc.length:Int)
  have l0:=Zf2 (acc.length:Int)
  simp only[Wc,Xo,W9,XC,ZeW,Zzo,if_true]
  unfold Zen at hV
  have n0:((0:Int)==0)=true:=rfl
  generalize Zan acc.length=V at *
  obtain⟨v,e⟩:=V
  simp only at hV l0 ⊢
  have k1:=Zbe v
  have k2:v.length*1<=140737488355328:=by omega
  have k3:=Zbe acc
  have k4:(v.length+acc.length)*1<=140737488355328:=by simp at hn;omega
  have hl:=Zd7 acc
  simp only[XH,Xk]
  unfold Zhq
  rw[Zr]
  simp only[EQA,ZX,Xf,Xd,Xb,Xg,reduceCtorEq,Zq,↓reduceIte,ZfZ,Zwi,Znl,ZeN,Zeh,Zb,h1,hV,k1,k2,k3,k4,hl,ZI,viewAs,Zj,XD,AVal.cells]
  try (simp[EQO])
 |p::r,i,acc,h,hn=>by
  simp only[Xm]at hn
  have hlp:=ZiY p
  have h1:(i:Int)<l.length:=by have:=(ZP h).2.2;omega
  have e1:=iad (ZP h).1 Zi (k:=5) rfl
  have e3:=Zcp h1 hl
  have hC:=fun σ sq own=>ZwJ σ sq own p (hx p (Xx (ZP h).1))
  by_cases hid:p.id<1\/p.id>127
  ·have hg:ZbR p=false:=by
    unfold ZbR
    rcases hid with c |c<;>simp[c]
   rw[XW,hg]
   simp only[X8,ZeW,Xl,if_false]
   unfold Zhq
   rw[Zr]
   by_cases c1:p.id<1
   ·simp only[EQA,Zk,Xf,Xd,Xe,Xb,Xg,Zh,Zw,reduceCtorEq,↓reduceIte,Zm,ZfZ,ZeN,Zeh,Zb,Zf,Zi,ZZ,h1,e1,c1,AVal.cells]
    try (simp[EQO])
   ·have c2:p.id>127:=by omega
    simp only[EQA,Zk,Xf,Xd,Xe,Xb,Xg,Zh,unG,reduceCtorEq,↓reduceIte,Zm,ZfZ,ZeN,Zeh,Zb,Zf,Zi,ZZ,h1,e1,c1,c2,AVal.cells]
    try (simp[EQO])
  ·have c1:¬(p.id<1):=by omega
   have c2:¬(p.id>127):=by omega
   have hg:ZbR p=okV (ZaG p.id) p:=by unfold ZbR;simp[c1,c2]
   have hw:IntKind.u8.wrap p.id=((XK p.id.toNat).toNat:Int):=by
    rw[IntKind.wrap_u8,Wk];omega
   rw[XW,hg]
   have e7:=Zy9 hid
   have k1:=Zbe (ZeU p)
   have e9:(ZaP p).length=(ZeU p).length+1:=by rw[e7];rfl
   cases hok:okV (ZaG p.id) p<;>rw[hok]at hC
   ·simp only[X8,ZeW,Xl,if_false]
    have k2:(acc.length+1)*1<=140737488355328:=by omega
    have k9:kOk 1 [AVal.int .u8 ((XK p.id.toNat).toNat:Int)]=true:=rfl
    unfold Zhq
    rw[Zr]
    simp only[EQA,Zk,Xf,Xd,Xb,Xg,unA,Zh,unG,reduceCtorEq,Zq,↓reduceIte,Zm,ZfZ,ZeN,Zeh,Zb,Zf,Zi,ZZ,h1,e1,c1,c2,hw,hC,k2,k9,ZI,viewAs,Zv,Zs,Zj,XD,AVal.cells]
    try (simp[EQO])
   ·have ih:=Zwf l hl hx r (i+1) (acc++ZaP p) (ZP h).2.1 (by rw[Xk];omega)
    rw[Wa]at ih
    rw[Xn,WD,WN]
    generalize hR:ZeW (r.all ZbR) (acc++(ZaP p++(r.map ZaP).flatten))=R at *
    rw[e7]at ih
    generalize ZeU p=v at *
    have k2:(acc.length+1)*1<=140737488355328:=by omega
    have k9:kOk 1 [AVal.int .u8 ((XK p.id.toNat).toNat:Int)]=true:=rfl
    have k3:(acc.length+1+v.length)*1<=140737488355328:=by omega
    have e4:(acc++XK p.id.toNat::v).map Zc=acc.map Zc++[AVal.int .u8 ((XK p.id.toNat).toNat:Int)]++v.map Zc:=by simp[Zc]
    have e5:(acc++XK p.id.toNat::v).length=acc.length+1+v.length:=by simp;omega
    rw[e4,e5]at ih
    unfold Zhq at ih ⊢
    rw[Zr]
    simp only[EQA,ZB,ZX,Xf,Xd,Xe,Xb,Xg,unA,Zh,unG,reduceCtorEq,Zq,↓reduceIte,gcT,gcA,gcIds,reach,rhoOf,heapOf,idxA,genB,newGen,renB,refsB,ZeN,Zeh,Zb,Zf,Zi,ZZ,h1,e1,e3,c1,c2,hw,hC,k1,k2,k3,k9,Xk,ZI,viewAs,Zv,Zs,Zj,XD,AVal.cells]
    exact ih
end
section
def ZeO:Ze:=by apply Zb 4 [1,1,1,1,1] [];conv=>lhs;reduce;simp only[zi,zb]
@[irreducible] def ZnM:Ze:=ZeO
def Zgq:=xw ZnM ZeO (by kernel_rfl)
def Zer:Ze:=by apply Zb 4 [1,1,1,1,0,1,0,0] [];conv=>lhs;reduce;dsimp only[zi]
@[irreducible] def Zp1:Ze:=Zer
def Zfd:=xw Zp1 Zer (by kernel_rfl)
def ZkP:Ze:=by apply Zb 4 [] [([1,1,1,1,0,1,0,0],Zp1),([1,1,1,1,1],ZnM)];conv=>lhs;reduce;simp only[zi,zb]
def Zlq:Zz:=⟨[(.cell 2 (some 14))],ZkP⟩
theorem ZGK:FC 4=some Zlq:=by kernel_rfl
theorem Zwm:Zlq.body=ZkP:=rfl
theorem ZgI:Zlq.res=[(.cell 2 (some 14))]:=rfl
noncomputable def Zi8(m:Nat)(tm:Tms)(σ:Za):Option (AVal×Za):=(Zac m Zlq (Zaz FC PR BY m ZnM (XY (Zah 0) (evL FC PR BY m [5,4,2,1] Zp1 tm σ))))
def ZiA:Ze:=(.seq (.region [oM 62 3,oM 2 62] none [2]) .ret)
@[irreducible] def Zsu:Ze:=ZiA
def ZlX:=xw Zsu ZiA (by kernel_rfl)
def ZgN:Ze:=by apply Zb 24 [1,1,1,1,1,0,1,0,0] [];conv=>lhs;reduce;dsimp only[zi]
@[irreducible] def ZsM:Ze:=ZgN
def ZiJ:=xw ZsM ZgN (by kernel_rfl)
def Ztu:Ze:=by apply Zb 24 [] [([1,1,1,1,1,0,1,0,0],ZsM),([1,1,1,1,1,1],Zsu)];conv=>lhs;reduce;dsimp only[zi]
def Zm6:Zz:=⟨[(.tmp 2)],Ztu⟩
theorem ZLq:FC 24=some Zm6:=by kernel_rfl
theorem ZDj:Zm6.body=Ztu:=rfl
theorem Zlu:Zm6.res=[(.tmp 2)]:=rfl
noncomputable def ZlO(m:Nat)(tm:Tms)(σ:Za):Option (AVal×Za):=(Zac m Zm6 (Zaz FC PR BY m Zsu (XY (Zah 0) (evL FC PR BY m [4,3,1] ZsM tm σ))))
def ZrO:Ze:=(.seq (.region [oI 145 (.call 21 0 true []),oM 8 145] none [8]) .ret)
@[irreducible] def Zqm:Ze:=ZrO
def ZMh:=xw Zqm ZrO (by kernel_rfl)
def ZkS:Ze:=by apply Zb 3 [1,1,1,1,1,1,1,0,1,0,0] [];conv=>lhs;reduce;dsimp only[zi]
@[irreducible] def Zsr:Ze:=ZkS
def ZxP:=xw Zsr ZkS (by kernel_rfl)
def Zo6:Ze:=by apply Zb 3 [] [([1,1,1,1,1,1,1,0,1,0,0],Zsr),([1,1,1,1,1,1,1,1],Zqm)];conv=>lhs;reduce;dsimp only[zi]
def ZmI:Zz:=⟨[(.tmp 8)],Zo6⟩
theorem ZN5:FC 3=some ZmI:=by kernel_rfl
theorem ZIp:ZmI.body=Zo6:=rfl
theorem ZOx:ZmI.res=[(.tmp 8)]:=rfl
noncomputable def Zmq(m:Nat)(tm:Tms)(σ:Za):Option (AVal×Za):=(Zac m ZmI (Zaz FC PR BY m Zqm (XY (Zah 0) (evL FC PR BY m [15,14] Zsr tm σ))))
def Zro:Ze:=(.seq (.region [oI 2 (.mov (.c (.int .i64 0)))] none [0]) (.seq (.region [oM 3 0,oM 2 3] none [2]) .ret))
def Zpi:Zz:=⟨[(.tmp 2)],Zro⟩
theorem ZLu:FC 17=some Zpi:=by kernel_rfl
theorem ZJ6:Zpi.body=Zro:=rfl
theorem ZAY:Zpi.res=[(.tmp 2)]:=rfl
def ZkU:Ze:=(.seq (.region [oM 25 3,oM 2 25] none [2]) .ret)
@[irreducible] def Zrn:Ze:=ZkU
def ZxZ:=xw Zrn ZkU (by kernel_rfl)
def ZjT:Ze:=by apply Zb 22 [1,1,0,1,0,0] [];conv=>lhs;reduce;dsimp only[zi]
@[irreducible] def Ztv:Ze:=ZjT
def Zqk:=xw Ztv ZjT (by kernel_rfl)
def ZsG:Ze:=by apply Zb 22 [] [([1,1,0,1,0,0],Ztv),([1,1,1],Zrn)];conv=>lhs;reduce;dsimp only[zi]
def Zl7:Zz:=⟨[(.tmp 2)],ZsG⟩
theorem ZKz:FC 22=some Zl7:=by kernel_rfl
theorem ZHD:Zl7.body=ZsG:=rfl
theorem Zw7:Zl7.res=[(.tmp 2)]:=rfl
noncomputable def Znw(m:Nat)(tm:Tms)(σ:Za):Option (AVal×Za):=(Zac m Zl7 (Zaz FC PR BY m Zrn (XY (Zah 0) (evL FC PR BY m [4,3,0] Ztv tm σ))))
def Zjp:Ze:=by apply Zb 11 [] [];conv=>lhs;reduce;dsimp only[zi]
def ZpL:Zz:=⟨[(.tmp 6)],Zjp⟩
theorem Zov:FC 11=some ZpL:=by kernel_rfl
theorem Zn3:ZpL.body=Zjp:=rfl
theorem Zrx:ZpL.res=[(.tmp 6)]:=rfl
end
section
theorem ZAs(a b:UInt8):IntKind.u8.wrap (((XJ IntKind.u8.bits (a.toNat:Int) ^^^ XJ IntKind.u8.bits (b.toNat:Int)).toNat:Nat):Int)=((a ^^^ b).toNat:Int):=by
 have e:∀ c:UInt8,XJ IntKind.u8.bits (c.toNat:Int)=c.toBitVec:=fun c=>by
  apply BitVec.eq_of_toNat_eq
  show(XJ 8 (c.toNat:Int)).toNat=c.toNat
  rw[BitVec.ofInt_natCast,BitVec.toNat_ofNat]
  have:=c.toNat_lt
  exact Nat.mod_eq_of_lt (by omega)
 rw[e,e,IntKind.wrap_u8]
 have h:(a.toBitVec ^^^ b.toBitVec).toNat=(a ^^^ b).toNat:=rfl
 have:=(a ^^^ b).toNat_lt
 show(((a ^^^ b).toNat:Nat):Int)%256=_
 omega
def Zgt(b:Zd)(k:Nat)(x:UInt8):List AVal:=if b.length=0 then b.map Zc else if x.toNat=0 then(b.take k++b.drop (k+1)).map Zc++(b.drop (b.length-1)).map Zc else(b.set k (b.getD k 0 ^^^ x)).map Zc
theorem ZL3(b:Zd)(hb:b.length<=140737488355326)(at0:Int)(x:UInt8):∃ k:Nat,E 11 [Zf b,.int .i64 at0,.int .u8 (x.toNat:Int)] []=some (.sl 0 0 0 (ZcJ b k x).length,[.row 0 1 (Zgt b k x)]):=by
 have hT:=fun σ sq hs=>ZPJ σ sq b (by omega) hs
 have hL:Lent (b.map Zc) 0 b:=⟨by rw[W2];exact Xy (by simp),by simp⟩
 by_cases h0:b.length=0
 ·refine⟨0,?_⟩
  unfold ZcJ Zgt
  rw[if_pos h0,if_pos h0]
  have h0':((b.length:Int)==0)=true:=by simp[h0]
  generalize hX:b.map Zc=X at *
  have hl:X.length=b.length:=by rw[<-hX];simp
  rw[Zg (by rfl) Zov]
  simp only[EQA,Xf,Xd,Xb,Xg,reduceCtorEq,↓reduceIte,Zn3,Zjp,Zrx,Zb,Zf,hX,hT,h0']
  simp[EQO]
 ·have hw:IntKind.i64.wrap ((b.length:Int)-1)=(b.length:Int)-1:=ZQ (by omega) (by omega)
  obtain⟨k0,hk,hW⟩:=ZEU at0 0 ((b.length:Int)-1) (by omega) (by omega) (by omega)
  obtain⟨k,rfl⟩:∃ k:Nat,k0=(k:Int):=⟨k0.toNat,by omega⟩
  refine⟨k,?_⟩
  have h0':((b.length:Int)==0)=false:=by rw[beq_eq_false_iff_ne];omega
  unfold ZcJ Zgt
  rw[if_neg h0,if_neg h0]
  have hw2:IntKind.i64.wrap ((k:Int)+1)=((k+1:Nat):Int):=by rw[ZQ (by omega) (by omega)];rfl
  by_cases hx:x.toNat=0
  ·rw[if_pos hx,if_pos hx]
   have hx':((x.toNat:Int)==0)=true:=by simp[hx]
   have s1:=fun{σ:Za} {t:Nat} (hs:σ[t]?=some (.row 0 1 (b.map Zc)))=>Zy5 hL hs (m:=k) (by omega)
   have s2:=fun{σ:Za} {t:Nat} (hs:σ[t]?=some (.row 0 1 (b.map Zc)))=>Zow hL hs (m:=k+1) (by omega)
   have L2:=hL.drop (m:=k+1) (by omega)
   have s3:=fun{σ:Za} {t:Nat} (hs:σ[t]?=some (.row 0 1 (b.map Zc)))=>ZjE L2 hs
   have ha:∀ {σ:Za} {sq t:Nat},σ[t]?=some (.row 0 1 (b.map Zc))->ZI σ sq 1 1 (.sl t 0 0 (b.take k).length) (.sl t 0 (0+(k+1)) (b.drop (k+1)).length)=some (.sl t 0 0 ((b.take k++b.drop (k+1)).length),σ.set t (.row 0 1 ((b.take k++b.drop (k+1)).map Zc++(b.drop (b.length-1)).map Zc)),{ rd:=[t],wr:=[t] }):=by
    intro σ sq t hs
    have e1:(b.take k).length=k:=by simp;omega
    have e2:(b.drop (k+1)).length=b.length-(k+1):=by simp
    unfold ZI
    rw[s3 hs]
    simp only[Zbe,if_true,hs]
    rw[if_pos ⟨trivial,trivial,trivial,by rw[XL];omega⟩,if_neg (by rw[XL];omega),if_pos (by rw[XL,XL];omega)]
    have e3:(b.map Zc).take (b.take k).length=(b.take k).map Zc:=by rw[e1,List.map_take]
    have e4:(b.map Zc).drop ((b.take k).length+((b.drop (k+1)).map Zc).length)=(b.drop (b.length-1)).map Zc:=by
     rw[XL,e1,e2,<-List.map_drop]
     congr 2
     omega
    rw[e3,e4,XH,XL,Xk]
   simp only[Xv]at s2 ha
   have hlr:((b.take k++b.drop (k+1)).map Zc++(b.drop (b.length-1)).map Zc).length=b.length:=by simp;omega
   generalize (b.take k++b.drop (k+1)).map Zc++(b.drop (b.length-1)).map Zc=R at *
   generalize (b.take k++b.drop (k+1)).length=rl at *
   generalize (b.take k).length=l1 at *
   generalize (b.drop (k+1)).length=l2 at *
   generalize hX:b.map Zc=X at *
   rw[Zg (by rfl) Zov]
   simp only[EQA,Xf,Xd,Xb,Xg,reduceCtorEq,↓reduceIte,Zn3,Zjp,Zrx,Zb,Zf,hX,hT,h0',hw,hW,hw2,hx',s1,s2,ha,Za3,Zbd,Zby,Zce,ZcZ,ZcQ,Zc8,Zc6,ZbC]
   simp[EQO]
  ·rw[if_neg hx,if_neg hx]
   have hx':((x.toNat:Int)==0)=false:=by rw[beq_eq_false_iff_ne];omega
   have hkb:k<b.length:=by omega
   have hg:(b.map Zc)[k]?=some (.int .u8 ((b.getD k 0).toNat:Int)):=by
    rw[List.getElem?_map,XB hkb,Xi,XB hkb]
    rfl
   have hxo:=ZAs (b.getD k 0) x
   have hset:(b.map Zc).set k (.int .u8 ((b.getD k 0 ^^^ x).toNat:Int))=(b.set k (b.getD k 0 ^^^ x)).map Zc:=by
    rw[List.map_set]
    rfl
   have hll:(b.set k (b.getD k 0 ^^^ x)).length=b.length:=by simp
   have hlX:(b.map Zc).length=b.length:=by simp
   rw[hll,<-hset]
   have hk0:(0:Int)<=(k:Int):=by omega
   have hk1:(k:Int)<(b.length:Int):=by omega
   generalize hX:b.map Zc=X at *
   generalize (b.getD k 0).toNat=y at *
   rw[Zg (by rfl) Zov]
   simp only[EQA,Xf,Xd,Xb,Xg,reduceCtorEq,↓reduceIte,Zn3,Zjp,Zrx,Zb,Zf,hX,hT,h0',hw,hW,hx',hg,hxo,hkb,hk0,Zct,X3,AVal.cells,Zao,Zs,Zgv,Zj]
   try (simp[EQO])
end
section
theorem ZI0(w:Int)(b:Zd)(hl:b.length<=140737488355328):E 45 [.int .i64 w,Zf b] []=some (Zjj (Z1 w b)):=by
 have hGV:=fun σ sq own f=>ZnE σ sq own f b (by omega)
 have hu:=Zhn b
 have hlt:=Ziu b
 have hle:=ZkA b
 unfold Z1 Zjj
 rcases hx:ZL b with⟨n,u,e⟩
 rw[hx]at hGV hu hlt hle
 unfold gvT at hGV
 simp only at hGV hu hlt hle ⊢
 have hw:IntKind.i64.wrap ((b.length:Int)-(u:Int))=(b.length:Int)-(u:Int):=ZQ (by omega) (by omega)
 by_cases he:e=0
 ·subst he
  have n0:((0:Int) != 0)=false:=rfl
  by_cases hn:(n:Int)>(b.length:Int)-(u:Int)
  ·rw[if_pos (Xt hn),Zg (by rfl) Zn8]
   simp only[EQA,Zk,Xd,Xb,Zh,unG,reduceCtorEq,↓reduceIte,Zm,Zoh,Zka,Zcl,Zb,Zf,hGV,n0,hw,hn]
   simp[]
   exact⟨rfl,rfl⟩
  ·have hc:¬((0:Int)≠0\/(n:Int)>(b.length:Int)-(u:Int)):=by simpa using hn
   rw[if_neg hc,Zg (by rfl) Zn8]
   have hw2:IntKind.i64.wrap ((u:Int)+(n:Int))=((u+n:Nat):Int):=by rw[ZQ (by omega) (by omega)];rfl
   have hs:=fun σ k1 k2=>Zki σ b k1 k2 ((u:Nat):Int) ((u+n:Nat):Int) (by omega) (by omega) (by omega)
   have e1:(((u:Nat):Int)).toNat=u:=rfl
   have e2:(((u+n:Nat):Int)).toNat=u+n:=rfl
   rw[e1,e2]at hs
   have key:=Zk1 w n u (by omega) (by omega) n ((b.take (u+n)).drop u) [] (by simp;omega) (by simp;omega) (by simp)
   generalize (b.take (u+n)).drop u=B at *
   unfold Zc7 at key
   simp only[Xo,ZaZ,ZaF]at key
   simp only[EQA,ZB,Xd,Xb,Zh,unG,reduceCtorEq,↓reduceIte,gcT,gcA,gcIds,reach,heapOf,refsB,Zoh,Zka,Zb,Zf,hGV,n0,hw,hn,hw2,hs]
   rw[key]
   unfold ZcX
   split<;>rfl
 ·have n1:(e != 0)=true:=by simpa using he
  rw[if_pos (Xp he),Zg (by rfl) Zn8]
  simp only[EQA,Zk,Xd,Xb,Zh,Zw,reduceCtorEq,↓reduceIte,Zm,Zoh,Zka,Zcl,Zb,Zf,hGV,n1]
  simp[]
  exact⟨rfl,rfl⟩
theorem ZuJ(σ:Za)(sq own:Nat)(f:Bool)(w:Int)(b:Zd)(hl:b.length<=140737488355328):Zl E BY σ sq 45 own true [.int .i64 w,.lst f (b.map Zc)]=some (.tup [.lst false ((Z1 w b).1.map Zi),.int .i64 ((Z1 w b).2.1:Nat),.int .i64 (Z1 w b).2.2],σ,{}) :=
 ZCM (k:=5) (ZI0 w b hl) rfl (by kernel_rfl) rfl rfl _ _ _
theorem ZH3(l:List Zp)(hl:l.length<=700000000)(hx:∀ p∈l,Zd1 p):E 55 [ZD l] []=some (ZeW (l.all ZbR) (l.map ZaP).flatten):=by
 have z0:((0:Nat):Int)=0:=rfl
 have z1:((1:Nat):Int)=1:=rfl
 cases l with
 |nil =>
  have hV:=fun σ sq own=>Zqp σ sq own 0
  have hv:Zan 0=([0],0):=rfl
  unfold Zen at hV
  rw[hv]at hV
  have e:ZeW (([]:List Zp).all ZbR) (([]:List Zp).map ZaP).flatten=(.tup [.sl 0 0 0 1,.bool true],[.row 0 1 [.int .u8 0]]):=rfl
  rw[e]
  have b0:Zc 0=.int .u8 0:=rfl
  have k1:kOk 1 [AVal.int .u8 0]=true:=rfl
  have n0:((0:Int)==0)=true:=rfl
  simp only[Xo,Xn,b0]at hV
  rw[Zg (by rfl) Zk7]
  simp only[EQA,ZB,Xd,Xb,reduceCtorEq,↓reduceIte,gcT,gcA,gcIds,reach,heapOf,refsB,Zkx,Zh2,Zb,ZD]
  rw[Zr]
  simp only[EQA,ZX,Xf,Xd,Xe,Xb,Xg,reduceCtorEq,Zq,↓reduceIte,ZfZ,Zwi,Znl,ZeN,Zeh,Zb,z0,hV,k1,ZoL,ZI,viewAs,Zj,Wv,AVal.cells,Int.reduceLT,Xe]
  try (simp[EQO])
 |cons p r =>
  simp only[Xm]at hl
  have hlp:=ZiY p
  have e1:=iad (l:=p::r) (i:=0) rfl Zi (k:=5) rfl
  have h1:(0:Int)<((p::r).length:Int):=by simp only[Xm];omega
  have w1:IntKind.i64.wrap (0+1)=1:=rfl
  have hC:=fun σ sq own=>ZwJ σ sq own p (hx p (by simp))
  rw[z0]at e1
  by_cases hid:p.id<1\/p.id>127
  ·have hg:ZbR p=false:=by
    unfold ZbR
    rcases hid with c |c<;>simp[c]
   rw[XW,hg]
   simp only[X8,ZeW,Xl,if_false]
   generalize hL:p::r=L at *
   rw[Zg (by rfl) Zk7]
   simp only[EQA,ZB,Xd,Xb,reduceCtorEq,↓reduceIte,gcT,gcA,gcIds,reach,heapOf,refsB,Zkx,Zh2,Zb,ZD]
   rw[Zr]
   by_cases c1:p.id<1
   ·simp only[EQA,Zk,Xf,Xd,Xe,Xb,Xg,Zh,Zw,reduceCtorEq,↓reduceIte,Zm,ZfZ,ZeN,Zeh,Zb,Zf,Zi,ZZ,h1,e1,c1,AVal.cells]
    try (simp[EQO])
   ·have c2:p.id>127:=by omega
    simp only[EQA,Zk,Xf,Xd,Xe,Xb,Xg,Zh,unG,reduceCtorEq,↓reduceIte,Zm,ZfZ,ZeN,Zeh,Zb,Zf,Zi,ZZ,h1,e1,c1,c2,AVal.cells]
    try (simp[EQO])
  ·have c1:¬(p.id<1):=by omega
   have c2:¬(p.id>127):=by omega
   have hg:ZbR p=okV (ZaG p.id) p:=by unfold ZbR;simp[c1,c2]
   have hw:IntKind.u8.wrap p.id=((XK p.id.toNat).toNat:Int):=by
    rw[IntKind.wrap_u8,Wk];omega
   rw[XW,hg]
   have e7:=Zy9 hid
   have k1:=Zbe (ZeU p)
   have k9:kOk 1 [AVal.int .u8 ((XK p.id.toNat).toNat:Int)]=true:=rfl
   have e9:(ZaP p).length=(ZeU p).length+1:=by rw[e7];rfl
   cases hok:okV (ZaG p.id) p<;>rw[hok]at hC
   ·simp only[X8,ZeW,Xl,if_false]
    generalize hL:p::r=L at *
    rw[Zg (by rfl) Zk7]
    simp only[EQA,ZB,Xd,Xb,reduceCtorEq,↓reduceIte,gcT,gcA,gcIds,reach,heapOf,refsB,Zkx,Zh2,Zb,ZD]
    rw[Zr]
    simp only[EQA,Zk,Xf,Xd,Xe,Xb,Xg,unA,Zh,unG,reduceCtorEq,Zq,↓reduceIte,Zm,ZfZ,ZeN,Zeh,Zb,Zf,Zi,ZZ,h1,e1,c1,c2,hw,hC,k9,ZI,viewAs,Zv,Zs,Zj,Wv,XD,AVal.cells,Xe]
    try (simp[EQO])
   ·have ih:=Zwf (p::r) (by simp only[Xm];omega) hx r 1 (ZaP p) rfl (by omega)
    rw[Xn,WD,WN]
    generalize hR:ZeW (r.all ZbR) (ZaP p++(r.map ZaP).flatten)=R at *
    rw[e7]at ih
    generalize ZeU p=v at *
    have k3:(1+v.length)*1<=140737488355328:=by omega
    have e4:(XK p.id.toNat::v).map Zc=AVal.int .u8 ((XK p.id.toNat).toNat:Int)::v.map Zc:=rfl
    have e5:(XK p.id.toNat::v).length=1+v.length:=by simp;omega
    rw[e4,e5,z1]at ih
    generalize hL:p::r=L at *
    unfold Zhq at ih
    rw[Zg (by rfl) Zk7]
    simp only[EQA,ZB,Xd,Xb,reduceCtorEq,↓reduceIte,gcT,gcA,gcIds,reach,heapOf,refsB,Zkx,Zh2,Zb,ZD]
    rw[Zr]
    simp only[EQA,ZB,ZX,Xf,Xd,Xe,Xb,Xg,unA,Zh,unG,reduceCtorEq,Zq,↓reduceIte,gcT,gcA,gcIds,reach,rhoOf,heapOf,idxA,genB,newGen,renB,refsB,ZeN,Zeh,Zb,Zf,Zi,ZZ,h1,e1,w1,c1,c2,hw,hC,k1,k3,k9,ZI,viewAs,Zv,Zs,Zj,Wv,XD,AVal.cells,Xe]
    exact ih
theorem ZB6(σ:Za)(sq own:Nat)(f:Bool)(l:List Zp)(hl:l.length<=700000000)(hx:∀ p∈l,Zd1 p):Zl E BY σ sq 55 own true [.lst f (l.map Zi)]=some (if l.all ZbR then .tup [.lst false (((Zan (l.map ZaP).flatten.length).1++(l.map ZaP).flatten).map Zc),.bool ((Zan (l.map ZaP).flatten.length).2==0)]else .tup [.lst false [],.bool false],σ,{}):=by
 have h:=ZH3 l hl hx
 cases hg:l.all ZbR<;>rw[hg]at h
 ·exact Zal (r:=.tup [.lst true [],.bool false]) h (by kernel_rfl) rfl rfl rfl (fun _=>rfl) _ _ _
 ·refine ZjC (k:=1) (args':=[ZD l]) ?_ rfl (by kernel_rfl) rfl rfl _ _ _
  rw[XL]
  exact h
theorem ZLn(w:Int)(l:List Zp)(hl:l.length<=700000000)(hx:∀ p∈l,Zd1 p):∃ f,E 27 [.int .i64 w,ZD l] []=some (Zd3 f (Zav w l),[]):=by
 have hB:=fun σ sq own f=>ZB6 σ sq own f l hl hx
 cases hg:l.all ZbR<;>rw[hg]at hB
 ·refine⟨true,?_⟩
  simp only[Xl,if_false]at hB
  rw[ZIF w l hg,Zg (by rfl) ZhY]
  unfold Zd3
  simp only[EQA,Zk,Xd,Xb,unA,reduceCtorEq,↓reduceIte,Zm,ZhD,ZgK,Zij,Zb,ZD,hB]
 ·simp only[if_true]at hB
  have hfl:(l.map ZaP).flatten.length<=l.length*200000:=by
   clear hB hg
   induction l with
   |nil=>simp
   |cons p r ih =>
    have:=ZiY p
    have:=ih (by simp at hl;omega) (fun q hq=>hx q (by simp[hq]))
    simp only[Xn,WD,Xk,Xm]
    omega
  unfold Zav Zez Zd3
  generalize (l.map ZaP).flatten=b at *
  have l0:=Zf2 (b.length:Int)
  have hR:=fun σ sq own f=>ZuJ σ sq own f w ((Zan b.length).1++b) (by rw[Xk];omega)
  have hS:=fun σ sq own view (a:List Zp)=>ZvO σ sq own view l a (by omega)
  generalize Zan b.length=V at *
  obtain⟨v,e⟩:=V
  simp only at hB hR ⊢
  generalize hc:v++b=c at *
  generalize Z1 w c=R at *
  obtain⟨again,used,code⟩:=R
  simp only at hR ⊢
  have hS2:=fun σ sq own view=>hS σ sq own view again
  have hsym:(again==l)=(l==again):=by rw[Xav];simp only[beq_iff_eq];exact eq_comm
  rw[hsym]
  by_cases he:e=0
  ·subst he
   have n9:((0:Int)==0)=true:=rfl
   have n0:((0:Int) != 0)=false:=rfl
   rw[n9]at hB
   rw[if_neg (by simp)]
   by_cases hc0:code=0
   ·subst hc0
    by_cases hu:used=c.length
    ·have n2:((used:Int) != (c.length:Int))=false:=by simp[hu]
     cases hs:(l==again)<;>rw[hs]at hS2
     ·refine⟨true,?_⟩
      rw[if_pos (by simp),Zg (by rfl) ZhY]
      simp only[EQA,Zk,Xd,Xb,unA,Zh,unG,reduceCtorEq,↓reduceIte,Zm,ZhD,ZgK,Zij,Zb,ZD,hB,hR,hS2,n0,n2]
     ·refine⟨false,?_⟩
      rw[if_neg (by simp[hu]),Zg (by rfl) ZhY]
      simp only[EQA,Zk,Xd,Xb,unA,Zh,unG,reduceCtorEq,↓reduceIte,Zm,ZhD,ZgK,Zij,Zb,ZD,hB,hR,hS2,n0,n2]
    ·have n2:((used:Int) != (c.length:Int))=true:=by simp;omega
     refine⟨true,?_⟩
     rw[if_pos (by simp[hu]),Zg (by rfl) ZhY]
     simp only[EQA,Zk,Xd,Xb,unA,Zh,Zw,unG,reduceCtorEq,↓reduceIte,Zm,ZhD,ZgK,Zij,Zb,ZD,hB,hR,n0,n2]
   ·have n1:(code != 0)=true:=by simpa using hc0
    refine⟨true,?_⟩
    rw[if_pos (by simp[hc0]),Zg (by rfl) ZhY]
    simp only[EQA,Zk,Xd,Xb,unA,Zh,Zw,reduceCtorEq,↓reduceIte,Zm,ZhD,ZgK,Zij,Zb,ZD,hB,hR,n1]
  ·have n1:(e==0)=false:=by simpa using he
   rw[n1]at hB
   refine⟨true,?_⟩
   rw[if_pos he,Zg (by rfl) ZhY]
   simp only[EQA,Zk,Xd,Xb,unA,reduceCtorEq,↓reduceIte,Zm,ZhD,ZgK,Zij,Zb,ZD,hB]
theorem ZNP(σ:Za)(sq own:Nat)(f:Bool)(w:Int)(l:List Zp)(hl:l.length<=700000000)(hx:∀ p∈l,Zd1 p):Zl E BY σ sq 27 own true [.int .i64 w,.lst f (l.map Zi)]=some (Zd3 false (Zav w l),σ,{}):=by
 obtain⟨g,h⟩:=ZLn w l hl hx
 exact Zal h (by kernel_rfl) rfl rfl rfl (fun _=>rfl) _ _ _
end
section
def ZfI(q:Int)(r:Bool):UInt8:=u8B (if r=true then IntKind.i64.wrap (q+4)else q)
theorem ZHE(q:Int)(r:Bool):E 29 [.int .i64 q,.bool r] []=some (.int .u8 ((ZfI q r).toNat:Int),[]):=by
 have h1:=ZeP q
 have h2:=ZeP (IntKind.i64.wrap (q+4))
 unfold ZfI
 cases r
 ·rw[Zg (by rfl) ZuI]
  simp only[EQA,Xd,Xb,reduceCtorEq,↓reduceIte,ZwB,Zmt,Zu6,Zb,h1]
 ·rw[Zg (by rfl) ZuI]
  simp only[EQA,Xd,Xb,reduceCtorEq,↓reduceIte,ZwB,Zmt,Zu6,Zb,h2]
theorem Zvn(σ:Za)(sq own:Nat)(q:Int)(r:Bool):Zl E BY σ sq 29 own true [.int .i64 q,.bool r]=some (.int .u8 ((ZfI q r).toNat:Int),σ,{}) :=
 ZcC (ZHE q r) (by kernel_rfl) (by simp only[Zba,Zbz,eq_self,]) (by simp only[ZR,Zbz,eq_self,]) rfl (fun _=>rfl) _ _ _ _
def ZbE(n:Zab):Zd:=(Zy n.topic).1++((Z0 n.payload).1++([ZfI n.qos n.retain]++((Zy n.sender).1++(beB (ZH n.expires) 8++(beB (ZH n.number) 8++([u8B n.origin,u8B n.hops]++(Zav 3 n.props).1))))))
def Zde(n:Zab):Bool:=((Zy n.topic).2==0)&&((Z0 n.payload).2==0)&&((Zy n.sender).2==0)&&((Zav 3 n.props).2==0)&&((Zdp n.props).length==n.props.length)&&decide (n.qos>=0)&&decide (n.qos<=2)&&decide (n.expires>=0)&&decide (n.expires<=4611686018427387904)&&decide (n.number>=0)&&decide (n.number<=4611686018427387904)&&decide (n.origin>=0)&&decide (n.origin<256)&&decide (n.hops>=0)&&decide (n.hops<256)
theorem ZNd(n:Zab):(ZbE n).length<=1000000000:=by
 have l1:=Zcz n.topic
 have l2:=ZeG n.payload
 have l3:=Zcz n.sender
 have l4:=Znc 3 n.props
 unfold ZbE
 simp only[Xk,ZbJ,Xm,Xu];omega
theorem ZGu(n:Zab)(h:Zb6 n):E 5 [ZcL n] []=some (.tup [.sl 0 0 0 (ZbE n).length,.bool (Zde n)],[.row 0 1 ((ZbE n).map Zc)]):=by
 have hT:=fun σ sq own=>Ztj σ sq own n.topic h.topic
 have hD:=fun σ sq own f=>ZrZ σ sq own f n.payload h.payload
 have hS:=fun σ sq own=>Ztj σ sq own n.sender h.sender
 have hL:=fun σ sq own f=>ZNP σ sq own f 3 n.props h.props h.tx
 have hM:=fun σ sq own=>Zvn σ sq own n.qos n.retain
 have hE:=fun σ sq own=>Zh6 σ sq own (ZH n.expires) 8 (by unfold ZH;omega) (by omega) (by omega)
 have hN:=fun σ sq own=>Zh6 σ sq own (ZH n.number) 8 (by unfold ZH;omega) (by omega) (by omega)
 have hK:=fun σ sq own b=>ZIG σ sq own b n.props (by have:=h.props;omega)
 have z8:((8:Nat):Int)=8:=rfl
 rw[z8]at hE hN
 have u1:=Zha n.expires
 have u2:=Zha n.number
 have w1:=ZeP n.origin
 have w2:=ZeP n.hops
 have l1:=Zcz n.topic
 have l2:=ZeG n.payload
 have l3:=Zcz n.sender
 have l4:=Znc 3 n.props
 have l5:=ZbJ 8 (ZH n.expires)
 have l6:=ZbJ 8 (ZH n.number)
 have e5:(((Zdp n.props).length:Int)==(n.props.length:Int))=((Zdp n.props).length==n.props.length):=by
  rw[Xav];simp only[beq_iff_eq];omega
 unfold ZbE Zde
 unfold byT at hT hD hS
 unfold Zd3 at hL
 generalize beB (ZH n.expires) 8=B1 at *
 generalize beB (ZH n.number) 8=B2 at *
 generalize ZfI n.qos n.retain=M at *
 generalize Zav 3 n.props=L at *
 generalize Zy n.topic=T at *
 generalize Z0 n.payload=D at *
 generalize Zy n.sender=S at *
 obtain⟨T,e1⟩:=T
 obtain⟨D,e2⟩:=D
 obtain⟨S,e3⟩:=S
 obtain⟨L,e4⟩:=L
 generalize u8B n.origin=U1 at *
 generalize u8B n.hops=U2 at *
 simp only at hT hD hS hL l1 l2 l3 l4 ⊢
 have kT:=Zbe T
 have kD:=Zbe D
 have kS:=Zbe S
 have kL:=Zbe L
 have k1:=Zbe B1
 have k2:=Zbe B2
 have kM:kOk 1 [AVal.int .u8 (M.toNat:Int)]=true:=rfl
 have kU:kOk 1 [AVal.int .u8 (U1.toNat:Int),.int .u8 (U2.toNat:Int)]=true:=rfl
 have tT:=Zd7 T
 have tD:=Zd7 D
 have tS:=Zd7 S
 have tL:=Zd7 L
 have t1:=Zd7 B1
 have t2:=Zd7 B2
 have m0:T.length*1<=140737488355328:=by omega
 have m1:(T.length+D.length)*1<=140737488355328:=by omega
 have m2:(T.length+D.length+1)*1<=140737488355328:=by omega
 have m3:(T.length+D.length+1+S.length)*1<=140737488355328:=by omega
 have m4:(T.length+D.length+1+S.length+B1.length)*1<=140737488355328:=by omega
 have m5:(T.length+D.length+1+S.length+B1.length+B2.length)*1<=140737488355328:=by omega
 have m6:(T.length+D.length+1+S.length+B1.length+B2.length+2)*1<=140737488355328:=by omega
 have m7:(T.length+D.length+1+S.length+B1.length+B2.length+2+L.length)*1<=140737488355328:=by omega
 simp only[XH,Xk,Xn,Xo,Xm,Xu,Xv,Zc]
 rw[Zg (by rfl) ZKW]
 simp only[EQA,Zcq,ZX,Zfw,Zgc,ZMx,Xf,Xd,Xb,Xg,Zh,Zw,unG,Zq,ite_self,↓reduceIte,ZAh,ZoN,ZSU,Zb,Zf,ZD,ZcL,Zev,hT,hD,hS,hL,hM,hE,hN,hK,u1,u2,w1,w2,kT,kD,kS,kL,k1,k2,kM,kU,m0,m1,m2,m3,m4,m5,m6,m7,e5,Za3,Zbd,Zby,Zce,ZcZ,ZcQ,Zc8,Zc6,ZbC,W4,ZI,viewAs,Zv,Zs,Zj,AVal.cells,Xk,Nat.reduceBNe]
 simp[EQO]
 omega
end
section
def ZT(r lo n:Nat)(s:Bool):List AVal:=[.sl r 0 lo n,.bool s]
section
variable {σ:Za}{t r lo n:Nat}{s:Bool}{X:List AVal}
theorem ZR9(hs:σ[t]?=some (.var (ZT r lo n s)))(hr:σ[r]?=some (.row 0 1 X))(htr:t≠r):reach σ 1000 [t] []=[t,r]:=by
 have h1:σ.getD t .free=.var (ZT r lo n s):=by simp[Xi,hs]
 have h2:σ.getD r .free=.row 0 1 X:=by simp[Xi,hr]
 have e1:([]:List Nat).contains t=false:=rfl
 have e2:([t]:List Nat).contains r=false:=by simp;exact fun e=>htr e.symm
 have hrf:refsL (ZT r lo n s)=[r]:=rfl
 rw[show(1000:Nat)=997+1+1+1 from rfl,reach,e1]
 simp only[Xl,if_false,h1,refsB,hrf,XC,XU]
 rw[reach,e2]
 simp only[Xl,if_false,h2,refsB,XU]
 rfl
theorem ZuN{O:ZJ}{bf:Nat->Bool}{f own sq lo2 n2:Nat}{s2 view:Bool}{rest:List AVal}{q0 q q':AVal}{h0 ex:Za}(hs:σ[t]?=some (.var (ZT r lo n s)))(hr:σ[r]?=some (.row 0 1 X))(htr:t≠r)(hb:bf f=false)(hp:rest.all Z2=true)
  (h:O f (.ref 0 0::rest.map ZM) [.var (ZT 1 lo n s),.row 0 1 X]=some (q0,h0)) (hv:ZO view 2 (some (q0,h0))=some (q,.var (ZT 1 lo2 n2 s2)::.row 0 1 X::ex)) (hx:ex.length<=own) (hff:Zbv σ sq own=true)
  (hok:ZbO σ [t,r] ex 2=true) (hq:renV (ZaR σ [t,r] sq) q=q') {σ':Za} (hl:Za4 σ [t,r] sq ex 2 ((σ.set t (.var (ZT r lo2 n2 s2))).set r (.row 0 1 X))=σ') (ht':σ'[t]?=some (.var (ZT r lo2 n2 s2))) (hr':σ'[r]?=some (.row 0 1 X)) :
  Zl O bf σ sq f own view (.ref t 0::rest)=some (q',σ',{ any:=true,upd:=[(t,[.sl r 0 lo2 n2,.bool s2])] }):=by
 have h1:σ.getD t .free=.var (ZT r lo n s):=by simp[Xi,hs]
 have h2:σ.getD r .free=.row 0 1 X:=by simp[Xi,hr]
 have hsh:showAs σ (.ref t 0::rest)=some (.ref t 0::rest.map ZM,[]):=by
  rw[showAs,show showA σ (.ref t 0)=some (.ref t 0,[])from rfl,Zm1 hp]
  rfl
 have href:refsL (.ref t 0::rest.map ZM)=[t]:=by
  rw[refsL,ZhE hp];rfl
 have hρt:rhoOf σ 0 [t,r] t 0=some (0,0):=by simp[rhoOf,idxA,hs,genB,newGen]
 have hρr:rhoOf σ 0 [t,r] r 0=some (1,0):=by simp[rhoOf,idxA,hr,genB,newGen,htr]
 refine Zyq (ids:=[t,r]) (vs:=.ref t 0::rest.map ZM) (vs':=.ref 0 0::rest.map ZM) (h0:=[.var (ZT 1 lo n s),.row 0 1 X]) hb hsh (by rw[href];exact ZR9 hs hr htr) rfl ?_ ?_ ?_ h hv ?_ ?_ ?_ hff hq ?_ ?_
 ·simp only[XW,Wc,h1,h2,okB,Xao]
 ·rw[renL,Zia hp]
  simp only[renV,hρt]
 ·simp only[heapOf,h1,h2,newGen,genB,renB,ZT,renL,renV,hρr]
  simp
 ·simp only[Xm,Xu];omega
 ·simp
 ·simp only[ZbO,hok,XE,XP,h1,h2,genB,Zd5,okB]
  simp
 ·rw[<-hl]
  simp only[Za4,Zay,ZbF,X1,Wq,XE,XP,h2,genB,renB,ZT,renL,renV,ZaR]
  simp
 ·simp only[Zb4,ht',hr']
  rfl
theorem Zgl{O:ZJ}{bf:Nat->Bool}{f sq own lo2 n2:Nat}{s2 view:Bool}{rest:List AVal}{q0 q q':AVal}{h0:Za}(hs:σ[t]?=some (.var (ZT r lo n s)))(hr:σ[r]?=some (.row 0 1 X))(htr:t≠r)(hb:bf f=false)(hp:rest.all Z2=true)
  (h:O f (.ref 0 0::rest.map ZM) [.var (ZT 1 lo n s),.row 0 1 X]=some (q0,h0)) (hv:ZO view 2 (some (q0,h0))=some (q,[.var (ZT 1 lo2 n2 s2),.row 0 1 X])) (hff:Zbv σ sq own=true) (hq:∀ ρ:Rho,ρ 1 0=some (r,0)->renV ρ q=q') :
  Zl O bf σ sq f own view (.ref t 0::rest)=some (q',(σ.set t (.var (ZT r lo2 n2 s2))).set r (.row 0 1 X),{ any:=true,upd:=[(t,[.sl r 0 lo2 n2,.bool s2])] }):=by
 have htl:t<σ.length:=(Xh.1 hs).1
 have hrl:r<σ.length:=(Xh.1 hr).1
 have h2:σ.getD r .free=.row 0 1 X:=by simp[Xi,hr]
 exact ZuN hs hr htr hb hp h hv (Xay _) hff rfl (hq _ (by simp only[ZaR,XP,XE,h2,genB];simp)) rfl
  (by rw[XS (fun e=>htr e.symm),Wb htl]) (by rw[Wb (by simpa using hrl)])
theorem ZnQ{q:AVal}{σ:Za}(hq:Zaw q=true):gcA 2 [q] (.var (ZT 1 lo n s)::.row 0 1 X::σ)=([q],[.var (ZT 1 lo n s),.row 0 1 X]):=by
 have e1:=(Zhk (rhoOf (.var (ZT 1 lo n s)::.row 0 1 X::σ) 2 [0,1]) q hq)
 have h1:gcIds 2 [q] (.var (ZT 1 lo n s)::.row 0 1 X::σ)=[0,1]:=by
  have : refsL [q]=[]:=by simp only[refsL,e1.2,XC]
  have hR:List.range 2=[0,1]:=rfl
  have hrf:refsL (ZT 1 lo n s)=[1]:=rfl
  simp only[gcIds,this,XU,hR,List.flatMap_cons,List.flatMap_nil,XC,X1,Wq,refsB,hrf]
  rfl
 have hρ:rhoOf (.var (ZT 1 lo n s)::.row 0 1 X::σ) 2 [0,1] 1 0=some (1,0):=by
  simp only[rhoOf,idxA,genB,newGen,XP,XE]
  simp
 have hren:∀ ρ:Rho,ρ 1 0=some (1,0)->renL ρ (ZT 1 lo n s)=ZT 1 lo n s:=fun ρ h=>by simp only[ZT,renL,renV,h]
 simp only[gcA,h1,renL,e1.1,heapOf,X1,Wq,newGen,genB,renB,hren _ hρ]
 simp
theorem Zma{q:AVal}(hq:Zaw q=true)(hv:viewR [.var (ZT 1 lo n s),.row 0 1 X] q=some (q,[])):ZO true 2 (some (q,[.var (ZT 1 lo n s),.row 0 1 X]))=some (q,[.var (ZT 1 lo n s),.row 0 1 X]):=by
 have h1:=ZnQ (lo:=lo) (n:=n) (s:=s) (X:=X) (σ:=[]) hq
 unfold ZO
 simp only[if_true]
 unfold ZaI
 split
 ·rename_i e
  cases e
  rfl
 ·rename_i e
  cases e
  rw[hv]
  simp only[Zj,h1]
 ·rename_i e
  cases e
end
def Zdl(r lo n:Nat)(c:ZK):AVal:=if c.short=true\/n>c.b.length then .lst true []else .sl r 0 lo (c.b.take n).length
def Zad(lo n:Nat)(c:ZK):Nat:=if c.short=true\/n>c.b.length then lo else lo+n
theorem Lent.takeL{X:List AVal}{lo n:Nat}{c:ZK}(h:Lent X lo c.b):Lent X (Zad lo n c) (Zn n c).2.b:=by
 unfold Zad Zn
 split
 ·exact h
 ·rename_i hn
  exact h.drop (by omega)
theorem ZEr(n:Nat)(hn:n<=9223372036854775807)(c:ZK){X:List AVal}{lo:Nat}(hL:Lent X lo c.b)(hb:c.b.length<=140737488355328):E 71 [.ref 0 0,.int .i64 (n:Nat)] [.var (ZT 1 lo c.b.length c.short),.row 0 1 X]=some (Zdl 1 lo n c,[.var (ZT 1 (Zad lo n c) (Zn n c).2.b.length (Zn n c).2.short),.row 0 1 X]):=by
 obtain⟨b,sh⟩:=c
 simp only at hb hL ⊢
 unfold Zn Zdl Zad ZT
 simp only
 cases sh
 ·by_cases h:n>b.length
  ·have h1:(n:Int)>(b.length:Int):=by omega
   rw[if_pos (Xt h),if_pos (Xt h),if_pos (Xt h),Zg (by rfl) Zlw]
   simp only[EQA,ZR,Xf,Xd,Xe,Xb,Zh,unG,reduceCtorEq,↓reduceIte,Zmp,Zhw,ZlE,Zb,h1]
   try (simp[EQO])
  ·have h1:¬(n:Int)>(b.length:Int):=by omega
   have s1:=fun{σ:Za} (hs:σ[1]?=some (.row 0 1 X))=>Zy5 hL hs (m:=n) (by omega)
   have s2:=fun{σ:Za} (hs:σ[1]?=some (.row 0 1 X))=>Zow hL hs (m:=n) (by omega)
   rw[if_neg (by simpa using h),if_neg (by simpa using h),if_neg (by simpa using h),Zg (by rfl) Zlw]
   simp only[EQA,ZR,Xf,Xd,Xe,Xb,Zh,unG,reduceCtorEq,↓reduceIte,Zmp,Zhw,ZlE,Zb,h1,s1,s2]
   try (simp[EQO])
 ·rw[if_pos (Xp rfl),if_pos (Xp rfl),if_pos (Xp rfl),Zg (by rfl) Zlw]
  simp only[EQA,ZR,Xf,Xd,Xe,Xb,Zh,Zw,reduceCtorEq,↓reduceIte,Zmp,Zhw,ZlE,Zb]
  try (simp[EQO])
theorem ZjM(r lo n:Nat)(c:ZK):Zdl r lo n c=.lst true []\/Zdl r lo n c=.sl r 0 lo (c.b.take n).length:=by
 unfold Zdl
 split
 ·exact Xp rfl
 ·exact Xt rfl
theorem ZJH{r lo n:Nat}{c:ZK}{ρ:Rho}(h:ρ 1 0=some (r,0)):renV ρ (Zdl 1 lo n c)=Zdl r lo n c:=by
 unfold Zdl
 split
 ·rfl
 ·simp only[renV,h]
section
variable {X:List AVal}{lo:Nat}{c:ZK}(hL:Lent X lo c.b)(hb:c.b.length<=140737488355328){σ:Za}{t r:Nat}(hs:σ[t]?=some (.var [.sl r 0 lo c.b.length,.bool c.short]))(hr:σ[r]?=some (.row 0 1 X))(htr:t≠r)(sq:Nat)
include hL hb hs hr htr
theorem Zlg(n:Nat)(hn:n<=9223372036854775807):Zl E BY σ sq 71 0 false [.ref t 0,.int .i64 (n:Nat)]=some (Zdl r lo n c,(σ.set t (.var (ZT r (Zad lo n c) (Zn n c).2.b.length (Zn n c).2.short))).set r (.row 0 1 X),{ any:=true,upd:=[(t,[.sl r 0 (Zad lo n c) (Zn n c).2.b.length,.bool (Zn n c).2.short])] }) :=
 Zgl (rest:=[.int .i64 (n:Nat)]) (view:=false) hs hr htr (by kernel_rfl) rfl (ZEr n hn c hL hb) rfl rfl (fun ρ h=>ZJH h)
end
theorem ZKh(n:Nat)(hn:n<=9223372036854775807)(c:ZK){X:List AVal}{lo:Nat}(hL:Lent X lo c.b)(hb:c.b.length<=140737488355328):E 48 [.ref 0 0,.int .i64 (n:Nat)] [.var (ZT 1 lo c.b.length c.short),.row 0 1 X]=some (.int .i64 (ZE (Zn n c).1),[.var (ZT 1 (Zad lo n c) (Zn n c).2.b.length (Zn n c).2.short),.row 0 1 X]):=by
 have hT:=fun{σ:Za} {sq:Nat} hs (hr:σ[1]?=some (.row 0 1 X))=>Zlg hL hb (t:=0) hs hr (by omega) sq n hn
 unfold Zdl at hT
 unfold ZT at hT ⊢
 by_cases h:c.short=true\/n>c.b.length
 ·have e1:(Zn n c).1=[]:=by unfold Zn;rw[if_pos h]
  have hG:=fun{σ:Za} {sq own:Nat} (f:Bool)=>ZmG σ sq own [] (by simp) f
  rw[e1]
  simp only[if_pos h]at hT
  unfold ZE
  generalize (Zn n c).2=R at *
  generalize Zad lo n c=lo2 at *
  simp only[Xo]at hG
  rw[Zg (by rfl) ZoH]
  simp only[EQA,Xf,Xd,Xb,reduceCtorEq,↓reduceIte,Zr3,Zj6,ZnD,Zb,hT,hG]
  try (simp[EQO])
 ·have e1:(Zn n c).1=c.b.take n:=by unfold Zn;rw[if_neg h]
  have hG:=fun{σ:Za} {sq own:Nat} (hs:σ[1]?=some (.row 0 1 X))=>ZqS (bf:=BY) (own:=own) (hL.take (m:=n) (by omega)) (ZzF (c.b.take n) (by simp;omega)) (by kernel_rfl) rfl rfl hs sq
  rw[e1]
  simp only[if_neg h]at hT
  unfold ZE
  generalize (Zn n c).2=R at *
  generalize Zad lo n c=lo2 at *
  generalize c.b.take n=B at *
  rw[Zg (by rfl) ZoH]
  simp only[EQA,Xf,Xd,Xb,reduceCtorEq,↓reduceIte,Zr3,Zj6,ZnD,Zb,hT,hG]
  try (simp[EQO])
def ZbZ(lo:Nat)(c:ZK):Nat:=Zad lo (ZG c.b).2.1 ⟨c.b,c.short ||(ZG c.b).2.2 != 0⟩
def ZbS(lo:Nat)(c:ZK):Nat:=Zad lo (Zt c.b).2.1 ⟨c.b,c.short ||(Zt c.b).2.2 != 0⟩
theorem Lent.textL{X:List AVal}{lo:Nat}{c:ZK}(h:Lent X lo c.b):Lent X (ZbZ lo c) (Zag c).2.b:=Lent.takeL (c:=⟨c.b,_⟩) h
theorem Lent.dataL{X:List AVal}{lo:Nat}{c:ZK}(h:Lent X lo c.b):Lent X (ZbS lo c) (Zat c).2.b:=Lent.takeL (c:=⟨c.b,_⟩) h
theorem ZGi(c:ZK){X:List AVal}{lo:Nat}(hL:Lent X lo c.b)(hb:c.b.length<=140737488355328):E 49 [.ref 0 0] [.var (ZT 1 lo c.b.length c.short),.row 0 1 X]=some (.str (Zag c).1,[.var (ZT 1 (ZbZ lo c) (Zag c).2.b.length (Zag c).2.short),.row 0 1 X]):=by
 have hG:=fun{σ:Za} {sq own:Nat} (hs:σ[1]?=some (.row 0 1 X))=>ZqS (bf:=BY) (own:=own) hL (ZwT c.b hb) (by kernel_rfl) rfl rfl hs sq
 have hu:=(Zhl c.b).1
 obtain⟨b,sh⟩:=c
 simp only at hb hG hu hL ⊢
 unfold Zag ZbZ
 unfold gtT at hG
 simp only
 have hT:=fun s {σ:Za} {sq:Nat} hs (hr:σ[1]?=some (.row 0 1 X))=>Zlg (c:=⟨b,s⟩) hL hb (t:=0) hs hr (by omega) sq (ZG b).2.1 (by omega)
 unfold ZT at hT ⊢
 simp only at hT
 cases sh
 ·cases he:((ZG b).2.2 != 0)
  ·simp only[Bool.or_self]
   have hT:=fun{σ:Za} {sq:Nat}=>hT false (σ:=σ) (sq:=sq)
   have hor:=ZjM 1 lo (ZG b).2.1 ⟨b,false⟩
   generalize Zdl 1 lo (ZG b).2.1 ⟨b,false⟩=V at *
   generalize Zn (ZG b).2.1 ⟨b,false⟩=R at *
   generalize Zad lo (ZG b).2.1 ⟨b,false⟩=lo2 at *
   rcases hor with rfl |rfl
   all_goals rw[Zg (by rfl) Zm0]
   all_goals simp only[EQA,ZR,Xf,Xd,Xe,Xb,Zh,unG,reduceCtorEq,↓reduceIte,Znm,Zig,ZlP,Zb,hG,hT,he]
   all_goals try (simp[EQO])
  ·simp only[Xan]
   have hT:=fun{σ:Za} {sq:Nat}=>hT true (σ:=σ) (sq:=sq)
   have hor:=ZjM 1 lo (ZG b).2.1 ⟨b,true⟩
   generalize Zdl 1 lo (ZG b).2.1 ⟨b,true⟩=V at *
   generalize Zn (ZG b).2.1 ⟨b,true⟩=R at *
   generalize Zad lo (ZG b).2.1 ⟨b,true⟩=lo2 at *
   rcases hor with rfl |rfl
   all_goals rw[Zg (by rfl) Zm0]
   all_goals simp only[EQA,ZR,Xf,Xd,Xe,Xb,Zh,unG,reduceCtorEq,↓reduceIte,Znm,Zig,ZlP,Zb,hG,hT,he]
   all_goals try (simp[EQO])
 ·simp only[Xah]
  have hT:=fun{σ:Za} {sq:Nat}=>hT true (σ:=σ) (sq:=sq)
  have hor:=ZjM 1 lo (ZG b).2.1 ⟨b,true⟩
  generalize Zdl 1 lo (ZG b).2.1 ⟨b,true⟩=V at *
  generalize Zn (ZG b).2.1 ⟨b,true⟩=R at *
  generalize Zad lo (ZG b).2.1 ⟨b,true⟩=lo2 at *
  rcases hor with rfl |rfl
  all_goals rw[Zg (by rfl) Zm0]
  all_goals simp only[EQA,ZR,Xf,Xd,Xe,Xb,Zh,Zw,reduceCtorEq,↓reduceIte,Znm,Zig,ZlP,Zb,hG,hT]
  all_goals try (simp[EQO])
theorem ZuM{b:Zd}(h:(Zt b).2.2≠0):(Zt b).1=[]:=by
 unfold Zt at h⊢
 split
 ·rfl
 ·rename_i hn
  rw[if_neg hn]at h
  exact absurd rfl h
section
variable {X:List AVal}{lo:Nat}{b:Zd}(hL:Lent X lo b)(hl:b.length<=140737488355328){σ:Za}{t:Nat}(hs:σ[t]?=some (.row 0 1 X))
include hL hl hs
theorem ZBR(he:(Zt b).2.2=0){sq:Nat}(hf:freeAt σ sq=true):Zl E BY σ sq 70 1 false [.sl t 0 lo b.length]=some (.tup [.sl sq 0 0 (Zt b).1.length,.int .i64 ((Zt b).2.1:Nat),.int .i64 0],σ.set sq (.row 0 1 ((Zt b).1.map Zc)),{ rd:=[t] }):=by
 have h:=Zkj b hl
 unfold gdR at h
 rw[if_pos he,he]at h
 have hsh:showAs σ [.sl t 0 lo b.length]=some ([Zf b],[t]):=by
  simp only[showAs,ZhV hL hs]
  rfl
 have hb0:BY 70=false:=by kernel_rfl
 unfold Zl Zb1
 rw[hb0]
 simp only[Xl,if_false,hsh]
 have h0:reach (Zj σ [t]) 1000 (refsL [Zf b]) []=[]:=rfl
 rw[h0]
 unfold Zbl
 have hn:renL (rhoOf (Zj σ [t]) 0 []) [Zf b]=[Zf b]:=rfl
 simp only[Wc,if_true,hn,heapOf,h]
 have hx:((Zt b).1.map Zc).all Zas=true:=Zo1 _
 simp[ZO,Z8,Zdc,cloneT,Zgx,Zed,hx,ZjN,Zh9,ZfF,Z5,renV,renL]
theorem ZA1(he:(Zt b).2.2≠0)(sq:Nat):Zl E BY σ sq 70 1 false [.sl t 0 lo b.length]=some (.tup [.lst true [],.int .i64 ((Zt b).2.1:Nat),.int .i64 (Zt b).2.2],σ,{ rd:=[t] }):=by
 have h:=Zkj b hl
 unfold gdR at h
 rw[if_neg he]at h
 have hsh:showAs σ [.sl t 0 lo b.length]=some ([Zf b],[t]):=by
  simp only[showAs,ZhV hL hs]
  rfl
 have hb0:BY 70=false:=by kernel_rfl
 unfold Zl Zb1
 rw[hb0]
 simp only[Xl,if_false,hsh]
 have h0:reach (Zj σ [t]) 1000 (refsL [Zf b]) []=[]:=rfl
 rw[h0]
 unfold Zbl
 have hn:renL (rhoOf (Zj σ [t]) 0 []) [Zf b]=[Zf b]:=rfl
 simp only[Wc,if_true,hn,heapOf,h]
 simp[ZO,Z8,ZaQ,Zas,Z5,Zck,ZiX,ZjZ,ZfF,Z5]
end
section
variable {X:List AVal}{lo:Nat}{c:ZK}(hL:Lent X lo c.b)(hb:c.b.length<=140737488355328)
include hL hb
theorem Zxi(he:(Zt c.b).2.2=0):E 46 [.ref 0 0] [.var (ZT 1 lo c.b.length c.short),.row 0 1 X]=some (.sl 2 0 0 (Zat c).1.length,[.var (ZT 1 (ZbS lo c) (Zat c).2.b.length (Zat c).2.short),.row 0 1 X,.row 0 1 ((Zat c).1.map Zc)]):=by
 have hG:=fun{σ:Za} {sq:Nat} (hs:σ[1]?=some (.row 0 1 X)) hf=>ZBR hL hb hs he (sq:=sq) hf
 have hu:=(ZhG c.b).1
 obtain⟨b,sh⟩:=c
 simp only at hb hG hu hL he ⊢
 unfold Zat ZbS
 simp only
 have n0:((0:Int) != 0)=false:=rfl
 rw[he]
 simp only[n0,XaB]
 have hT:=fun{σ:Za} {sq:Nat} hs (hr:σ[1]?=some (.row 0 1 X))=>Zlg (c:=⟨b,sh⟩) hL hb (t:=0) hs hr (by omega) sq (Zt b).2.1 (by omega)
 unfold ZT at hT ⊢
 simp only at hT
 have hor:=ZjM 1 lo (Zt b).2.1 ⟨b,sh⟩
 generalize Zdl 1 lo (Zt b).2.1 ⟨b,sh⟩=V at *
 generalize Zn (Zt b).2.1 ⟨b,sh⟩=R at *
 generalize Zad lo (Zt b).2.1 ⟨b,sh⟩=lo2 at *
 generalize (Zt b).1=d at *
 have hd:(d.map Zc).length=d.length:=by simp
 generalize d.map Zc=D at *
 rw[<-hd]at hG ⊢
 cases sh
 ·rcases hor with rfl |rfl
  all_goals rw[Zg (by rfl) Zkr]
  all_goals simp only[EQA,ZR,Xf,Xd,Xe,Xb,Xg,Zh,unG,reduceCtorEq,↓reduceIte,Zjc,ZgT,Zjf,Zb,hG,hT,n0]
  all_goals try (simp[EQO])
 ·rcases hor with rfl |rfl
  all_goals rw[Zg (by rfl) Zkr]
  all_goals simp only[EQA,ZR,Xf,Xd,Xe,Xb,Xg,Zh,Zw,reduceCtorEq,↓reduceIte,Zjc,ZgT,Zjf,Zb,hG,hT]
  all_goals try (simp[EQO])
theorem Zvq(he:(Zt c.b).2.2≠0):E 46 [.ref 0 0] [.var (ZT 1 lo c.b.length c.short),.row 0 1 X]=some (.lst true [],[.var (ZT 1 (ZbS lo c) (Zat c).2.b.length (Zat c).2.short),.row 0 1 X]):=by
 have hG:=fun{σ:Za} {sq:Nat} (hs:σ[1]?=some (.row 0 1 X))=>ZA1 hL hb hs he sq
 have hu:=(ZhG c.b).1
 obtain⟨b,sh⟩:=c
 simp only at hb hG hu hL he ⊢
 unfold Zat ZbS
 simp only
 have n0:((Zt b).2.2 != 0)=true:=by simpa using he
 rw[n0]
 simp only[Xan]
 have hT:=fun{σ:Za} {sq:Nat} hs (hr:σ[1]?=some (.row 0 1 X))=>Zlg (c:=⟨b,true⟩) hL hb (t:=0) hs hr (by omega) sq (Zt b).2.1 (by omega)
 unfold ZT at hT ⊢
 simp only at hT
 have hor:=ZjM 1 lo (Zt b).2.1 ⟨b,true⟩
 generalize Zdl 1 lo (Zt b).2.1 ⟨b,true⟩=V at *
 generalize Zn (Zt b).2.1 ⟨b,true⟩=R at *
 generalize Zad lo (Zt b).2.1 ⟨b,true⟩=lo2 at *
 cases sh
 ·rcases hor with rfl |rfl
  all_goals rw[Zg (by rfl) Zkr]
  all_goals simp only[EQA,ZR,Xf,Xd,Xe,Xb,Xg,Zh,unG,reduceCtorEq,↓reduceIte,Zjc,ZgT,Zjf,Zb,hG,hT,n0]
  all_goals try (simp[EQO])
 ·rcases hor with rfl |rfl
  all_goals rw[Zg (by rfl) Zkr]
  all_goals simp only[EQA,ZR,Xf,Xd,Xe,Xb,Xg,Zh,Zw,reduceCtorEq,↓reduceIte,Zjc,ZgT,Zjf,Zb,hG,hT]
  all_goals try (simp[EQO])
end
theorem ZSG{lo n m:Nat}{s:Bool}{X D:List AVal}(hm:m=D.length):ZO true 2 (some (.sl 2 0 0 m,[.var (ZT 1 lo n s),.row 0 1 X,.row 0 1 D]))=some (.lst false D,[.var (ZT 1 lo n s),.row 0 1 X]):=by
 subst hm
 have h1:=ZnQ (lo:=lo) (n:=n) (s:=s) (X:=X) (σ:=[.frow 0 1 D]) (q:=.lst false D) rfl
 have hv:viewR [.var (ZT 1 lo n s),.row 0 1 X,.row 0 1 D] (.sl 2 0 0 D.length)=some (.lst false D,[2]):=by
  simp[viewR,Zv,Zs,Zq]
 have hf:Zj [.var (ZT 1 lo n s),.row 0 1 X,.row 0 1 D] [2]=[.var (ZT 1 lo n s),.row 0 1 X,.frow 0 1 D]:=rfl
 unfold ZO
 rw[if_pos rfl]
 simp only[ZaI,hv,hf,h1]
theorem ZDY{lo n:Nat}{s:Bool}{X:List AVal}{f:Bool}:ZO true 2 (some (.lst f [],[.var (ZT 1 lo n s),.row 0 1 X]))=some (.lst false [],[.var (ZT 1 lo n s),.row 0 1 X]):=by
 have h1:=ZnQ (lo:=lo) (n:=n) (s:=s) (X:=X) (σ:=[]) (q:=.lst false []) rfl
 have hv:viewR [.var (ZT 1 lo n s),.row 0 1 X] (.lst f [])=some (.lst false [],[]):=rfl
 unfold ZO
 rw[if_pos rfl]
 simp only[ZaI,hv,Zj,h1]
section
variable {X:List AVal}{lo:Nat}{c:ZK}(hL:Lent X lo c.b)(hb:c.b.length<=140737488355328){σ:Za}{t r:Nat}(hs:σ[t]?=some (.var [.sl r 0 lo c.b.length,.bool c.short]))(hr:σ[r]?=some (.row 0 1 X))(htr:t≠r)(sq:Nat)
include hL hb hs hr htr
theorem Zgy(n:Nat)(hn:n<=9223372036854775807):Zl E BY σ sq 48 0 true [.ref t 0,.int .i64 (n:Nat)]=some (.int .i64 (ZE (Zn n c).1),(σ.set t (.var (ZT r (Zad lo n c) (Zn n c).2.b.length (Zn n c).2.short))).set r (.row 0 1 X),{ any:=true,upd:=[(t,[.sl r 0 (Zad lo n c) (Zn n c).2.b.length,.bool (Zn n c).2.short])] }) :=
 Zgl (rest:=[.int .i64 (n:Nat)]) (view:=true) hs hr htr (by kernel_rfl) rfl (ZKh n hn c hL hb) (Zma rfl rfl) rfl (fun ρ h=>rfl)
theorem Znf:Zl E BY σ sq 49 0 true [.ref t 0]=some (.str (Zag c).1,(σ.set t (.var (ZT r (ZbZ lo c) (Zag c).2.b.length (Zag c).2.short))).set r (.row 0 1 X),{ any:=true,upd:=[(t,[.sl r 0 (ZbZ lo c) (Zag c).2.b.length,.bool (Zag c).2.short])] }) :=
 Zgl (rest:=[]) (view:=true) hs hr htr (by kernel_rfl) rfl (ZGi c hL hb) (Zma rfl rfl) rfl (fun ρ h=>rfl)
theorem ZAX:Zl E BY σ sq 46 0 true [.ref t 0]=some (.lst false ((Zat c).1.map Zc),(σ.set t (.var (ZT r (ZbS lo c) (Zat c).2.b.length (Zat c).2.short))).set r (.row 0 1 X),{ any:=true,upd:=[(t,[.sl r 0 (ZbS lo c) (Zat c).2.b.length,.bool (Zat c).2.short])] }):=by
 have hr':∀ ρ:Rho,renV ρ (.lst false ((Zat c).1.map Zc))=.lst false ((Zat c).1.map Zc):=fun ρ=>rfl
 by_cases he:(Zt c.b).2.2=0
 ·exact Zgl (rest:=[]) (view:=true) hs hr htr (by kernel_rfl) rfl (Zxi hL hb he) (ZSG (by simp)) rfl (fun ρ h=>hr' ρ)
 ·have e0:(Zat c).1=[]:=ZuM he
  have h:=Zvq hL hb he
  rw[e0]
  exact Zgl (rest:=[]) (view:=true) hs hr htr (by kernel_rfl) rfl h ZDY rfl (fun ρ h=>rfl)
theorem ZLP(he:(Zt c.b).2.2=0)(hf:freeAt σ sq=true):Zl E BY σ sq 46 1 false [.ref t 0]=some (.sl sq 0 0 (Zat c).1.length,((σ.set t (.var (ZT r (ZbS lo c) (Zat c).2.b.length (Zat c).2.short))).set r (.row 0 1 X)).set sq (.row 0 1 ((Zat c).1.map Zc)),{ any:=true,upd:=[(t,[.sl r 0 (ZbS lo c) (Zat c).2.b.length,.bool (Zat c).2.short])] }):=by
 have hff:Zbv σ sq 1=true:=by simp only[Zbv,hf,Wp]
 have htl:t<σ.length:=(Xh.1 hs).1
 have hrl:r<σ.length:=(Xh.1 hr).1
 have hn1:sq≠t:=by
  rintro rfl
  simp only[Zbv,freeAt,hs,Xao]at hff
  cases hff
 have hn2:sq≠r:=by
  rintro rfl
  simp only[Zbv,freeAt,hr,Xao]at hff
  cases hff
 refine ZuN (rest:=[]) (view:=false) hs hr htr (by kernel_rfl) rfl (Zxi hL hb he) rfl (by simp) hff ?_ ?_ rfl ?_ ?_
 ·simp[ZbO,okB,ZvN,genB]
 ·simp[renV,ZaR]
 ·rw[XS hn1,XS (fun e=>htr e.symm),Wb htl]
 ·rw[XS hn2,Wb (by simpa using hrl)]
theorem ZAD(he:(Zt c.b).2.2≠0)(hf:freeAt σ sq=true):Zl E BY σ sq 46 1 false [.ref t 0]=some (.lst true [],(σ.set t (.var (ZT r (ZbS lo c) (Zat c).2.b.length (Zat c).2.short))).set r (.row 0 1 X),{ any:=true,upd:=[(t,[.sl r 0 (ZbS lo c) (Zat c).2.b.length,.bool (Zat c).2.short])] }) :=
 Zgl (rest:=[]) (view:=false) hs hr htr (by kernel_rfl) rfl (Zvq hL hb he) rfl (by simp only[Zbv,hf,Wp]) (fun ρ h=>rfl)
end
end
section
theorem ZEs{c:ZK}{X:List AVal}{lo:Nat}(hL:Lent X lo c.b)(hb:c.b.length<=140737488355328):E 47 [.ref 0 0] [.var (ZT 1 lo c.b.length c.short),.row 0 1 X]=some (.tup [.int .i64 (Zcv (ZE (Zn 1 c).1)),.bool (ZdR (ZE (Zn 1 c).1) != 0)],[.var (ZT 1 (Zad lo 1 c) (Zn 1 c).2.b.length (Zn 1 c).2.short),.row 0 1 X]):=by
 have hN:=fun{σ:Za} {sq:Nat} hs (hr:σ[1]?=some (.row 0 1 X))=>Zgy hL hb (t:=0) hs hr (by omega) sq 1 (by omega)
 have z1:((1:Nat):Int)=1:=rfl
 rw[z1]at hN
 unfold Zcv ZdR
 unfold ZT at hN ⊢
 generalize ZE (Zn 1 c).1=x at *
 generalize (Zn 1 c).2=R at *
 generalize Zad lo 1 c=lo2 at *
 rw[Zg (by rfl) ZwO]
 simp only[EQA,Xf,Xd,Xb,reduceCtorEq,↓reduceIte,ZuZ,Zln,Zt8,Zb,hN]
 try (simp[EQO])
theorem Zyw{X:List AVal}{lo:Nat}{c:ZK}(hL:Lent X lo c.b)(hb:c.b.length<=140737488355328){σ:Za}{t r:Nat}(hs:σ[t]?=some (.var [.sl r 0 lo c.b.length,.bool c.short]))(hr:σ[r]?=some (.row 0 1 X))(htr:t≠r)(sq:Nat):Zl E BY σ sq 47 0 true [.ref t 0]=some (.tup [.int .i64 (Zcv (ZE (Zn 1 c).1)),.bool (ZdR (ZE (Zn 1 c).1) != 0)],(σ.set t (.var (ZT r (Zad lo 1 c) (Zn 1 c).2.b.length (Zn 1 c).2.short))).set r (.row 0 1 X),{ any:=true,upd:=[(t,[.sl r 0 (Zad lo 1 c) (Zn 1 c).2.b.length,.bool (Zn 1 c).2.short])] }) :=
 Zgl (rest:=[]) (view:=true) hs hr htr (by kernel_rfl) rfl (ZEs hL hb) (Zma rfl rfl) rfl (fun ρ h=>rfl)
def Ziq(lo:Nat)(c:ZK):Nat :=
 Zad (Zad (Zad (Zad (ZbZ (Zad (ZbS (ZbZ lo c) (Zu c).r1.2) 1 (Zu c).r2.2) (Zu c).r3.2) 8 (Zu c).r4.2) 8 (Zu c).r5.2) 1 (Zu c).r6.2) 1 (Zu c).r7.2
theorem ZDL{c:ZK}{X:List AVal}{lo:Nat}(hL:Lent X lo c.b)(hb:c.b.length<=140737488355328):E 39 [.ref 0 0] [.var (ZT 1 lo c.b.length c.short),.row 0 1 X]=some (ZcL (ZaL c).1,[.var (ZT 1 (Ziq lo c) (ZaL c).2.b.length (ZaL c).2.short),.row 0 1 X]):=by
 obtain⟨l1,l2,l3,l4,l5,l6,l7,l8⟩:=ZMu c
 have z1:((1:Nat):Int)=1:=rfl
 have z8:((8:Nat):Int)=8:=rfl
 have L1:Lent X (ZbZ lo c) (Zu c).r1.2.b:=hL.textL
 have L2:Lent X (ZbS (ZbZ lo c) (Zu c).r1.2) (Zu c).r2.2.b:=L1.dataL
 have L3:Lent X (Zad (ZbS (ZbZ lo c) (Zu c).r1.2) 1 (Zu c).r2.2) (Zu c).r3.2.b:=L2.takeL
 have L4:Lent X (ZbZ (Zad (ZbS (ZbZ lo c) (Zu c).r1.2) 1 (Zu c).r2.2) (Zu c).r3.2) (Zu c).r4.2.b:=L3.textL
 have L5:Lent X (Zad (ZbZ (Zad (ZbS (ZbZ lo c) (Zu c).r1.2) 1 (Zu c).r2.2) (Zu c).r3.2) 8 (Zu c).r4.2) (Zu c).r5.2.b:=L4.takeL
 have L6:Lent X (Zad (Zad (ZbZ (Zad (ZbS (ZbZ lo c) (Zu c).r1.2) 1 (Zu c).r2.2) (Zu c).r3.2) 8 (Zu c).r4.2) 8 (Zu c).r5.2) (Zu c).r6.2.b:=L5.takeL
 have L7:Lent X (Zad (Zad (Zad (ZbZ (Zad (ZbS (ZbZ lo c) (Zu c).r1.2) 1 (Zu c).r2.2) (Zu c).r3.2) 8 (Zu c).r4.2) 8 (Zu c).r5.2) 1 (Zu c).r6.2) (Zu c).r7.2.b:=L6.takeL
 have L8:Lent X (Ziq lo c) (Zu c).r8.2.b:=L7.takeL
 have h1:=fun{σ:Za} {sq:Nat} hs (hr:σ[1]?=some (.row 0 1 X))=>Znf hL hb (t:=0) hs hr (by omega) sq
 have h2:=fun{σ:Za} {sq:Nat} hs (hr:σ[1]?=some (.row 0 1 X))=>ZAX L1 (by omega) (t:=0) hs hr (by omega) sq
 have h3:=fun{σ:Za} {sq:Nat} hs (hr:σ[1]?=some (.row 0 1 X))=>Zyw L2 (by omega) (t:=0) hs hr (by omega) sq
 have h4:=fun{σ:Za} {sq:Nat} hs (hr:σ[1]?=some (.row 0 1 X))=>Znf L3 (by omega) (t:=0) hs hr (by omega) sq
 have h5:=fun{σ:Za} {sq:Nat} hs (hr:σ[1]?=some (.row 0 1 X))=>Zgy L4 (by omega) (t:=0) hs hr (by omega) sq 8 (by omega)
 have h6:=fun{σ:Za} {sq:Nat} hs (hr:σ[1]?=some (.row 0 1 X))=>Zgy L5 (by omega) (t:=0) hs hr (by omega) sq 8 (by omega)
 have h7:=fun{σ:Za} {sq:Nat} hs (hr:σ[1]?=some (.row 0 1 X))=>Zgy L6 (by omega) (t:=0) hs hr (by omega) sq 1 (by omega)
 have h8:=fun{σ:Za} {sq:Nat} hs (hr:σ[1]?=some (.row 0 1 X))=>Zgy L7 (by omega) (t:=0) hs hr (by omega) sq 1 (by omega)
 have h9:=fun{σ:Za} {sq:Nat} (hr:σ[1]?=some (.row 0 1 X))=>ZEZ 3 L8 (by omega) hr sq
 clear L1 L2 L3 L4 L5 L6 L7 L8 l1 l2 l3 l4 l5 l6 l7 l8
 have e1:Zag c=(Zu c).r1:=rfl
 have e2:Zat (Zu c).r1.2=(Zu c).r2:=rfl
 have e3:Zn 1 (Zu c).r2.2=(Zu c).r3:=rfl
 have e4:Zag (Zu c).r3.2=(Zu c).r4:=rfl
 have e5:Zn 8 (Zu c).r4.2=(Zu c).r5:=rfl
 have e6:Zn 8 (Zu c).r5.2=(Zu c).r6:=rfl
 have e7:Zn 1 (Zu c).r6.2=(Zu c).r7:=rfl
 have e8:Zn 1 (Zu c).r7.2=(Zu c).r8:=rfl
 rw[e1]at h1
 rw[e2]at h2
 rw[e3]at h3
 rw[e4]at h4
 rw[e5,z8]at h5
 rw[e6,z8]at h6
 rw[e7,z1]at h7
 rw[e8,z1]at h8
 unfold ZT at h1 h2 h3 h4 h5 h6 h7 h8 ⊢
 unfold ZaL ZcL Zev
 unfold Ziq at h9 ⊢
 clear e1 e2 e3 e4 e5 e6 e7 e8
 generalize Zu c=x at *
 obtain⟨⟨t1,c1⟩,⟨t2,c2⟩,⟨t3,c3⟩,⟨t4,c4⟩,⟨t5,c5⟩,⟨t6,c6⟩,⟨t7,c7⟩,⟨t8,c8⟩⟩:=x
 simp only at h1 h2 h3 h4 h5 h6 h7 h8 h9 ⊢
 generalize ZbZ lo c=o1 at *
 generalize ZbS o1 c1=o2 at *
 generalize Zad o2 1 c2=o3 at *
 generalize ZbZ o3 c3=o4 at *
 generalize Zad o4 8 c4=o5 at *
 generalize Zad o5 8 c5=o6 at *
 generalize Zad o6 1 c6=o7 at *
 generalize Zad o7 1 c7=o8 at *
 generalize Z1 3 c8.b=L at *
 obtain⟨ps,u,e⟩:=L
 simp only at h9 ⊢
 obtain⟨b8,s8⟩:=c8
 simp only at h8 h9 ⊢
 cases s8<;>cases he:(e != 0)<;>cases hu:((u:Int) != (b8.length:Int))
 all_goals simp only[Xan,XaB]
 all_goals rw[Zg (by rfl) ZzE]
 all_goals simp only[EQA,ZaT,Xf,Xd,Xe,Xb,Xg,Zh,Zw,unG,reduceCtorEq,↓reduceIte,ZvT,ZmO,ZxN,Zb,Zf,ZD,h1,h2,h3,h4,h5,h6,h7,h8,h9,he,hu,Z3,AVal.cells,Za3,Zbd,Zby,Zce,ZcZ,ZcQ,Zc8,Zc6,ZbC]
 all_goals try (simp[EQO])
theorem ZIa{X:List AVal}{lo:Nat}{c:ZK}(hL:Lent X lo c.b)(hb:c.b.length<=140737488355328){σ:Za}{t r:Nat}(hs:σ[t]?=some (.var [.sl r 0 lo c.b.length,.bool c.short]))(hr:σ[r]?=some (.row 0 1 X))(htr:t≠r)(sq:Nat):Zl E BY σ sq 39 0 true [.ref t 0]=some (.agg [.str (ZaL c).1.topic,.lst false ((ZaL c).1.payload.map Zc),.int .i64 (ZaL c).1.qos,.bool (ZaL c).1.retain,.str (ZaL c).1.sender,.int .i64 (ZaL c).1.expires,.lst false ((ZaL c).1.props.map Zi),.int .i64 (ZaL c).1.origin,.int .i64 (ZaL c).1.number,.int .i64 (ZaL c).1.hops],(σ.set t (.var (ZT r (Ziq lo c) (ZaL c).2.b.length (ZaL c).2.short))).set r (.row 0 1 X),{ any:=true,upd:=[(t,[.sl r 0 (Ziq lo c) (ZaL c).2.b.length,.bool (ZaL c).2.short])] }) :=
 Zgl (rest:=[]) (view:=true) hs hr htr (by kernel_rfl) rfl (ZDL hL hb) (Zma rfl rfl) rfl (fun ρ h=>rfl)
theorem ZoQ(a:Zd){b:Zd}{X:List AVal}{lo:Nat}(hL:Lent X lo b){σ:Za}{t:Nat}(hs:σ[t]?=some (.row 0 1 X))(sq own:Nat):Zl E BY σ sq 41 own true [.lst false (a.map Zc),.sl t 0 lo b.length]=some (.bool (a==b),σ,{ rd:=[t] }):=by
 refine ZlJ (vs:=[Zf a,Zf b]) (by kernel_rfl) ?_ rfl rfl (ZNc a b) rfl rfl sq own
 have h:=ZhV hL hs
 simp only[showAs,h]
 rfl
theorem ZOb{b:Zd}{X:List AVal}{lo:Nat}(hL:Lent X lo b)(hb:b.length<=140737488355328):∃ f,E 13 [.sl 0 0 lo b.length] [.row 0 1 X]=some (ZcD f (Zbo b),[.row 0 1 X]):=by
 have hR:=fun{σ:Za} {t sq:Nat} hs (hr:σ[0]?=some (.row 0 1 X)) (ht:t≠0)=>ZIa (c:=⟨b,false⟩) hL hb (t:=t) hs hr ht sq
 have hok:=Zyh ⟨b,false⟩
 have hM:=fun σ sq own=>ZQe σ sq own (ZaL ⟨b,false⟩).1 hok
 have hl:=fun σ sq own=>Ztt σ sq own (ZaL ⟨b,false⟩).1 hok
 have hE:=fun{σ:Za} {sq own:Nat} (hr:σ[0]?=some (.row 0 1 X))=>ZoQ (ZaE (ZaL ⟨b,false⟩).1) hL hr sq own
 unfold ZT at hR
 simp only at hR
 unfold Zbo ZcD
 clear hok
 generalize Ziq lo ⟨b,false⟩=lo2 at *
 generalize ZaL ⟨b,false⟩=x at *
 obtain⟨n,c8⟩:=x
 obtain⟨b8,s8⟩:=c8
 simp only at hR hM hl hE ⊢
 generalize ZaE n=y at *
 cases s8
 ·cases hm:ZfW n<;>rw[hm]at hM
  ·refine⟨true,?_⟩
   rw[if_pos (by simp),Zg (by rfl) Zi7]
   simp only[EQA,ZaT,Xf,Xd,Xe,Xb,Xg,unA,Zh,Zw,unG,reduceCtorEq,↓reduceIte,Zjt,ZgR,ZjR,Zb,hR,hM,Z3,AVal.cells,Zco]
   try (simp[EQO])
  ·cases he:(y==b)<;>rw[he]at hE
   ·refine⟨true,?_⟩
    rw[if_pos (by simp),Zg (by rfl) Zi7]
    simp only[EQA,ZaT,Xf,Xd,Xe,Xb,Xg,unA,Zh,unG,reduceCtorEq,↓reduceIte,Zjt,ZgR,ZjR,Zb,hR,hM,hl,hE,Z3,AVal.cells,Zco]
    try (simp[EQO])
   ·refine⟨false,?_⟩
    rw[if_neg (by simp),Zg (by rfl) Zi7]
    simp only[EQA,ZaT,Xf,Xd,Xe,Xb,Xg,unA,Zh,unG,reduceCtorEq,↓reduceIte,Zjt,ZgR,ZjR,Zb,hR,hM,hl,hE,Z3,AVal.cells]
    try (simp[EQO])
 ·refine⟨true,?_⟩
  rw[if_pos (by simp),Zg (by rfl) Zi7]
  simp only[EQA,ZaT,Xf,Xd,Xe,Xb,Xg,Zh,Zw,reduceCtorEq,↓reduceIte,Zjt,ZgR,ZjR,Zb,hR,Z3,AVal.cells,Zco]
  try (simp[EQO])
theorem ZyF{b:Zd}{X:List AVal}{lo:Nat}(hL:Lent X lo b)(hb:b.length<=140737488355328){σ:Za}{t:Nat}(hs:σ[t]?=some (.row 0 1 X))(sq:Nat):Zl E BY σ sq 13 0 true [.sl t 0 lo b.length]=some (ZcD false (Zbo b),σ.set t (.row 0 1 X),{ any:=true }):=by
 obtain⟨f,h⟩:=ZOb hL hb
 refine Zk3 (args':=[.sl 0 0 lo b.length]) hs (by kernel_rfl) rfl rfl (fun ρ h=>by simp only[renL,renV,h]) (fun ρ=>rfl) (Xp rfl) ?_
 rw[h]
 generalize Zbo b=r
 unfold ZcD ZO
 rw[if_pos rfl]
 rfl
end
section
theorem Zeq{O:ZJ}{bf:Nat->Bool}{σ:Za}{t f own sq:Nat}{view:Bool}{rest cs cs1:List AVal}{q0 q:AVal}{h0:Za}(hs:σ[t]?=some (.var cs))(hc:Zm cs=true)(hc1:Zm cs1=true)(hb:bf f=false)(hp:rest.all Z2=true)(hq:Zaw q=true)
  (h:O f (.ref 0 0::rest.map ZM) [.var cs]=some (q0,h0)) (hv:ZO view 1 (some (q0,h0))=some (q,[.var cs1])) (hff:Zbv σ sq own=true) :
  Zl O bf σ sq f own view (.ref t 0::rest)=some (q,σ.set t (.var cs1),{ any:=true,upd:=[(t,cs1)] }):=by
 have htl:t<σ.length:=(Xh.1 hs).1
 have h1:σ.getD t .free=.var cs:=by simp[Xi,hs]
 have hsh:showAs σ (.ref t 0::rest)=some (.ref t 0::rest.map ZM,[]):=by
  rw[showAs,show showA σ (.ref t 0)=some (.ref t 0,[])from rfl,Zm1 hp]
  rfl
 have href:refsL (.ref t 0::rest.map ZM)=[t]:=by
  rw[refsL,ZhE hp];rfl
 have hρt:rhoOf σ 0 [t] t 0=some (0,0):=by simp[rhoOf,idxA,hs,genB,newGen]
 have hre:reach σ 1000 [t] []=[t]:=by
  simp only[reach,List.contains_nil,Xl,if_false,h1,refsB,XU,(ZdL (fun _ _=>none) cs hc).2]
 refine Zyq (ids:=[t]) (vs:=.ref t 0::rest.map ZM) (vs':=.ref 0 0::rest.map ZM) (h0:=[.var cs]) hb hsh (by rw[href];exact hre) rfl ?_ ?_ ?_ h hv ?_ ?_ ?_ hff (Zhk _ q hq).1 ?_ ?_
 ·simp only[XW,Wc,h1,okB,Xao]
 ·rw[renL,Zia hp]
  simp only[renV,hρt]
 ·simp only[heapOf,h1,renB,(ZdL _ cs hc).1]
 ·simp
 ·simp
 ·simp only[ZbO,XE,h1,genB,Zd5,okB]
  simp
 ·simp only[Za4,Zay,X1,renB,(ZdL _ cs1 hc1).1]
 ·simp only[Zb4,Wb htl]
theorem ZNG(n:Int):E 71 [.ref 0 0,.int .i64 n] [.var [.lst true [],.bool true]]=some (.lst true [],[.var [.lst true [],.bool true]]):=by
 rw[Zg (by rfl) Zlw]
 simp only[EQA,ZR,Zk,Zcq,Xf,Xd,Xe,Xb,Zh,Zw,reduceCtorEq,↓reduceIte,Zm,Zmp,Zhw,ZlE,Zb]
 try (simp[EQO])
section
variable {σ:Za}{t:Nat}{s:Bool}(hs:σ[t]?=some (.var [.lst true [],.bool s]))(sq:Nat)
theorem ZrD(hs:σ[t]?=some (.var [.lst true [],.bool true]))(n:Int):Zl E BY σ sq 71 0 false [.ref t 0,.int .i64 n]=some (.lst true [],σ.set t (.var [.lst true [],.bool true]),{ any:=true,upd:=[(t,[.lst true [],.bool true])] }) :=
 Zeq (rest:=[.int .i64 n]) hs rfl rfl (by kernel_rfl) rfl rfl (ZNG n) rfl rfl
theorem ZNY(n:Int):E 48 [.ref 0 0,.int .i64 n] [.var [.lst true [],.bool true]]=some (.int .i64 0,[.var [.lst true [],.bool true]]):=by
 have hT:=fun{σ:Za} {sq:Nat} hs=>ZrD (t:=0) (σ:=σ) sq hs n
 have hG:=fun{σ:Za} {sq own:Nat} (f:Bool)=>ZmG σ sq own [] (by simp) f
 have g0:((Zbf []:Nat):Int)=0:=rfl
 simp only[Xo,g0]at hG
 have w0:IntKind.i64.wrap 0=0:=rfl
 rw[Zg (by rfl) ZoH]
 simp only[EQA,Zk,Zcq,Xd,Xb,reduceCtorEq,↓reduceIte,Zm,Zr3,Zj6,ZnD,Zb,hT,hG,w0]
 try (simp[EQO])
theorem Zyb(hs:σ[t]?=some (.var [.lst true [],.bool true]))(n:Int):Zl E BY σ sq 48 0 true [.ref t 0,.int .i64 n]=some (.int .i64 0,σ.set t (.var [.lst true [],.bool true]),{ any:=true,upd:=[(t,[.lst true [],.bool true])] }) :=
 Zeq (rest:=[.int .i64 n]) hs rfl rfl (by kernel_rfl) rfl rfl (ZNY n) rfl rfl
theorem ZET(s:Bool):E 49 [.ref 0 0] [.var [.lst true [],.bool s]]=some (.str [],[.var [.lst true [],.bool true]]):=by
 have hT:=fun{σ:Za} {sq:Nat} hs n=>ZrD (t:=0) (σ:=σ) sq hs n
 have hG:=fun{σ:Za} {sq own:Nat} (f:Bool)=>Zq3 σ sq own f [] (by simp)
 have g0:gtT (ZG [])=.tup [.str [],.int .i64 0,.int .i64 11]:=rfl
 have n0:((11:Int) != 0)=true:=rfl
 simp only[Xo,g0]at hG
 cases s
 all_goals rw[Zg (by rfl) Zm0]
 all_goals simp only[EQA,ZR,Zk,Zcq,Xf,Xd,Xe,Xb,Zh,Zw,unG,reduceCtorEq,↓reduceIte,Zm,Znm,Zig,ZlP,Zb,hT,hG,n0]
 all_goals try (simp[EQO])
theorem ZyG(hs:σ[t]?=some (.var [.lst true [],.bool s])):Zl E BY σ sq 49 0 true [.ref t 0]=some (.str [],σ.set t (.var [.lst true [],.bool true]),{ any:=true,upd:=[(t,[.lst true [],.bool true])] }) :=
 Zeq (rest:=[]) hs rfl rfl (by kernel_rfl) rfl rfl (ZET s) rfl rfl
theorem ZOW:E 46 [.ref 0 0] [.var [.lst true [],.bool true]]=some (.lst true [],[.var [.lst true [],.bool true]]):=by
 have hT:=fun{σ:Za} {sq:Nat} hs n=>ZrD (t:=0) (σ:=σ) sq hs n
 have hG:=fun{σ:Za} {sq:Nat} (f:Bool)=>Zu7 σ sq f [] (by simp) (by decide)
 have g0:(Zt [])=([],0,11):=rfl
 have n0:((11:Int) != 0)=true:=rfl
 have z0:((0:Nat):Int)=0:=rfl
 simp only[Xo,g0,z0]at hG
 rw[Zg (by rfl) Zkr]
 simp only[EQA,ZR,Zk,Zcq,Xf,Xd,Xe,Xb,Xg,Zh,Zw,reduceCtorEq,↓reduceIte,Zm,Zjc,ZgT,Zjf,Zb,hT,hG]
 try (simp[EQO])
theorem ZEw(hs:σ[t]?=some (.var [.lst true [],.bool true])):Zl E BY σ sq 46 0 true [.ref t 0]=some (.lst false [],σ.set t (.var [.lst true [],.bool true]),{ any:=true,upd:=[(t,[.lst true [],.bool true])] }) :=
 Zeq (rest:=[]) hs rfl rfl (by kernel_rfl) rfl rfl ZOW rfl rfl
theorem ZBy:E 47 [.ref 0 0] [.var [.lst true [],.bool true]]=some (.tup [.int .i64 0,.bool false],[.var [.lst true [],.bool true]]):=by
 have hN:=fun{σ:Za} {sq:Nat} hs=>Zyb (t:=0) (σ:=σ) sq hs 1
 have a3:IntKind.i64.wrap (((XJ IntKind.i64.bits 0&&&XJ IntKind.i64.bits 3).toNat:Nat):Int)=0:=by rfl
 have a4:IntKind.i64.wrap (((XJ IntKind.i64.bits 0&&&XJ IntKind.i64.bits 4).toNat:Nat):Int)=0:=by rfl
 have n0:((0:Int) != 0)=false:=rfl
 rw[Zg (by rfl) ZwO]
 simp only[EQA,Zk,Zcq,Xd,Xb,reduceCtorEq,↓reduceIte,Zm,ZuZ,Zln,Zt8,Zb,hN,a3,a4,n0]
 try (simp[EQO])
theorem ZNI(hs:σ[t]?=some (.var [.lst true [],.bool true])):Zl E BY σ sq 47 0 true [.ref t 0]=some (.tup [.int .i64 0,.bool false],σ.set t (.var [.lst true [],.bool true]),{ any:=true,upd:=[(t,[.lst true [],.bool true])] }) :=
 Zeq (rest:=[]) hs rfl rfl (by kernel_rfl) rfl rfl ZBy rfl rfl
end
theorem ZNp:E 60 [.int .i64 3,.lst true []] []=some (.tup [.lst true [],.int .i64 0,.int .i64 (Z1 3 []).2.2],[]):=by
 have hGV:=fun{σ:Za} {sq own:Nat} (f:Bool)=>ZmS σ sq own f [] (by simp)
 have g0:ZL []=(0,0,11):=rfl
 have r0:Z1 3 []=([],0,129):=rfl
 have n0:((11:Int) != 0)=true:=rfl
 rw[r0]
 simp only[Xo]at hGV
 rw[Zg (by rfl) Zhj]
 simp only[EQA,Zk,Xd,Xb,Zh,Zw,reduceCtorEq,↓reduceIte,Zm,Zhf,Zfj,ZcU,Zb,hGV,gvT,g0,n0]
 try (simp[EQO])
def Zmn(p:AVal):AVal:=.agg [.str [],.lst false [],.int .i64 0,.bool false,.str [],.int .i64 0,p,.int .i64 0,.int .i64 0,.int .i64 0]
theorem ZEd(σ:Za)(sq:Nat):Zl E BY σ sq 60 0 true [.int .i64 3,.lst true []]=some (.tup [.lst false [],.int .i64 0,.int .i64 (Z1 3 []).2.2],σ,{}):=by
 have hb0:BY 60=true:=by kernel_rfl
 unfold Zl Zb1
 rw[hb0]
 simp only[if_true]
 have h0:reach (Zj σ []) 1000 (refsL [AVal.int .i64 3,.lst true []]) []=[]:=rfl
 rw[h0]
 unfold Zbl
 have hn:renL (rhoOf (Zj σ []) 0 []) [AVal.int .i64 3,.lst true []]=[.int .i64 3,.lst true []]:=rfl
 simp only[Wc,if_true,hn,heapOf,ZNp]
 generalize (Z1 3 []).2.2=e
 rfl
theorem ZSx:E 39 [.ref 0 0] [.var [.lst true [],.bool false]]=some (Zmn (.lst false []),[.var [.lst true [],.bool true]]):=by
 have h1:=fun{σ:Za} {sq:Nat} hs=>ZyG (t:=0) (σ:=σ) (s:=false) sq hs
 have h1b:=fun{σ:Za} {sq:Nat} hs=>ZyG (t:=0) (σ:=σ) (s:=true) sq hs
 have h2:=fun{σ:Za} {sq:Nat} hs=>ZEw (t:=0) (σ:=σ) sq hs
 have h3:=fun{σ:Za} {sq:Nat} hs=>ZNI (t:=0) (σ:=σ) sq hs
 have h4:=fun{σ:Za} {sq:Nat} hs n=>Zyb (t:=0) (σ:=σ) sq hs n
 have h5:=ZEd
 have r0:(Z1 3 []).2.2=129:=rfl
 have n0:((129:Int) != 0)=true:=rfl
 rw[r0]at h5
 unfold Zmn
 rw[Zg (by rfl) ZzE]
 simp only[EQA,ZaT,Zk,Zcq,Xf,Xd,Xe,Xb,Xg,Zh,Zw,reduceCtorEq,↓reduceIte,Zm,ZvT,ZmO,ZxN,Zb,h1,h1b,h2,h3,h4,h5,Z3,AVal.cells,Za3,Zbd,Zby,Zce,ZcZ,ZcQ,Zc8,Zc6,ZbC]
 try (simp[EQO])
theorem ZMG{σ:Za}{t:Nat}(hs:σ[t]?=some (.var [.lst true [],.bool false]))(sq:Nat):Zl E BY σ sq 39 0 true [.ref t 0]=some (Zmn (.lst false []),σ.set t (.var [.lst true [],.bool true]),{ any:=true,upd:=[(t,[.lst true [],.bool true])] }) :=
 Zeq (rest:=[]) hs rfl rfl (by kernel_rfl) rfl rfl ZSx rfl rfl
theorem ZDF:Zbo []=(Zco,190):=by
 unfold Zbo
 exact if_pos (Xp rfl)
theorem ZRZ:E 13 [.lst true []] []=some (ZcD true (Zbo []),[]):=by
 have hR:=fun{σ:Za} {t sq:Nat} hs=>ZMG (σ:=σ) (t:=t) hs sq
 rw[ZDF]
 unfold ZcD
 unfold Zmn at hR
 rw[Zg (by rfl) Zi7]
 simp only[EQA,ZaT,Zk,Xf,Xd,Xe,Xb,Xg,Zh,Zw,reduceCtorEq,↓reduceIte,Zm,Zjt,ZgR,ZjR,Zb,hR,Z3,AVal.cells,Zco]
 try (simp[EQO])
theorem ZNW(σ:Za)(sq:Nat):Zl E BY σ sq 13 0 true [.lst true []]=some (ZcD false (Zbo []),σ,{}):=by
 have hb0:BY 13=true:=by kernel_rfl
 unfold Zl Zb1
 rw[hb0]
 simp only[if_true]
 have h0:reach (Zj σ []) 1000 (refsL [AVal.lst true []]) []=[]:=rfl
 rw[h0]
 unfold Zbl
 have hn:renL (rhoOf (Zj σ []) 0 []) [AVal.lst true []]=[.lst true []]:=rfl
 simp only[Wc,if_true,hn,heapOf,ZRZ]
 generalize Zbo []=r
 rfl
end
section
theorem ZlN(σ:Za)(sq own:Nat)(n:Zab)(h:Zb6 n):Zl E BY σ sq 5 own true [.agg [.str n.topic,.lst false (n.payload.map Zc),.int .i64 n.qos,.bool n.retain,.str n.sender,.int .i64 n.expires,.lst false (n.props.map Zi),.int .i64 n.origin,.int .i64 n.number,.int .i64 n.hops]]=some (.tup [.lst false ((ZbE n).map Zc),.bool (Zde n)],σ,{}):=by
 have h1:=ZGu n h
 have e:(ZbE n).length=((ZbE n).map Zc).length:=by simp
 rw[e]at h1
 exact ZjC (k:=1) (args':=[ZcL n]) (vs:=[.bool (Zde n)]) h1 rfl (by kernel_rfl) rfl rfl σ sq own
theorem ZPC{n:Nat}{c:ZK}(hn:n<=9223372036854775807)(hb:c.b.length<=140737488355328)(h:¬(c.short=true\/n>c.b.length)):E 63 [.ref 0 0,.int .i64 (n:Nat)] [.var [.lst false (c.b.map Zc),.bool c.short]]=some (.lst false ((c.b.take n).map Zc),[.var [.lst false ((c.b.drop n).map Zc),.bool false]]):=by
 obtain⟨b,sh⟩:=c
 simp only[not_or,Xar]at h hb ⊢
 obtain⟨rfl,h⟩:=h
 have h1:¬(n:Int)>(b.length:Int):=by omega
 have s1:=fun σ kk=>Zg2 σ 1 b Zc kk (n:Int) (by omega) (by omega)
 have s2:=fun σ kk=>Zfp σ b kk (n:Int) (by omega) (by omega)
 have e2:((n:Int)).toNat=n:=rfl
 rw[e2]at s1 s2
 rw[Zg (by rfl) ZnU]
 simp only[EQA,ZR,Zk,Zcq,Xf,Xd,Xe,Xb,Zh,unG,reduceCtorEq,↓reduceIte,Zm,Zso,Zko,ZrA,Zb,h1,s1,s2]
 try (simp[EQO])
theorem ZFg{n:Nat}{c:ZK}(hn:n<=140737488355328)(h:c.short=true\/n>c.b.length):E 63 [.ref 0 0,.int .i64 (n:Nat)] [.var [.lst false (c.b.map Zc),.bool c.short]]=some (.sl 1 0 0 n,[.var [.lst false (c.b.map Zc),.bool true],.row 0 1 (XA n (.int .u8 0))]):=by
 obtain⟨b,sh⟩:=c
 simp only at h⊢
 have m1:(0:Int)<=((n:Nat):Int):=by omega
 have m2:((n:Nat):Int)<=9223372036854775807:=by omega
 have m3:((1:Nat):Int)*((n:Nat):Int)<=140737488355328:=by omega
 cases sh
 ·have h1:(n:Int)>(b.length:Int):=by
   rcases h with h |h
   ·cases h
   ·omega
  rw[Zg (by rfl) ZnU]
  simp only[EQA,Xf,Xd,Xb,Xg,Zh,unG,reduceCtorEq,↓reduceIte,Zso,Zko,ZrA,Zb,h1,m1,m2,m3,X3,AVal.cells,XD,W0]
  try (simp[EQO])
 ·rw[Zg (by rfl) ZnU]
  simp only[EQA,Xf,Xd,Xb,Xg,Zh,Zw,reduceCtorEq,↓reduceIte,Zso,Zko,ZrA,Zb,m1,m2,m3,X3,AVal.cells,XD,W0]
  try (simp[EQO])
def Zfs(n:Nat)(c:ZK):Zd:=if c.short=true\/n>c.b.length then XA n 0 else c.b.take n
theorem Zyp:∀ n:Nat,Zbf (XA n 0)=0
 |0=>rfl
 |n+1=>by
  have:=Zyp n
  unfold Zbf at this ⊢
  rw[List.replicate_succ]
  exact this
theorem ZDc(n:Nat)(c:ZK):ZE (Zfs n c)=ZE (Zn n c).1:=by
 unfold Zfs Zn
 split
 ·unfold ZE
  rw[Zyp]
  rfl
 ·rfl
theorem ZuP{cs Y:List AVal}{m:Nat}(hm:m=Y.length)(hc:Zm cs=true):ZO true 1 (some (.sl 1 0 0 m,[.var cs,.row 0 1 Y]))=some (.lst false Y,[.var cs]):=by
 subst hm
 have e1:=fun ρ=>ZdL ρ cs hc
 have hr:refsL cs=[]:=(e1 (fun _ _=>none)).2
 unfold ZO
 rw[if_pos rfl]
 simp[ZaI,viewR,Zv,Zs,Zq,Zj,gcA,gcIds,reach,refsL,refsV,refsB,hr,renL,renV,heapOf,renB,fun ρ=>(e1 ρ).1,Ww]
section
variable {c:ZK}(hb:c.b.length<=140737488355328){σ:Za}{t:Nat}(hs:σ[t]?=some (.var [.lst false (c.b.map Zc),.bool c.short]))(sq:Nat)
include hb hs
theorem ZyR{n:Nat}(hn:n<=140737488355328):Zl E BY σ sq 63 0 true [.ref t 0,.int .i64 (n:Nat)]=some (.lst false ((Zfs n c).map Zc),σ.set t (.var (ZcF (Zn n c).2)),{ any:=true,upd:=[(t,[.lst false ((Zn n c).2.b.map Zc),.bool (Zn n c).2.short])] }):=by
 unfold Zfs Zn
 by_cases h:c.short=true\/n>c.b.length
 ·rw[if_pos h,if_pos h]
  refine Zeq (rest:=[.int .i64 (n:Nat)]) (cs1:=[.lst false (c.b.map Zc),.bool true]) hs rfl rfl (by kernel_rfl) rfl rfl (ZFg hn h) ?_ rfl
  have:=ZuP (cs:=[.lst false (c.b.map Zc),.bool true]) (Y:=XA n (.int .u8 0)) (m:=n) (by simp) rfl
  rw[this,List.map_replicate]
  rfl
 ·rw[if_neg h,if_neg h]
  have hsh:c.short=false:=by simpa using fun e=>h (Xp e)
  rw[hsh]
  exact Zeq (rest:=[.int .i64 (n:Nat)]) (cs1:=[.lst false ((c.b.drop n).map Zc),.bool false]) hs rfl rfl (by kernel_rfl) rfl rfl (ZPC (by omega) hb h) rfl rfl
end
theorem ZBz(n:Nat)(hn:n<=8)(c:ZK)(hb:c.b.length<=140737488355328):E 44 [.ref 0 0,.int .i64 (n:Nat)] [.var [.lst false (c.b.map Zc),.bool c.short]]=some (.int .i64 (ZE (Zn n c).1),[.var (ZcF (Zn n c).2)]):=by
 have hT:=fun{σ:Za} {sq:Nat} hs=>ZyR hb (t:=0) (σ:=σ) hs sq (n:=n) (by omega)
 have hl:(Zfs n c).length<=140737488355328:=by
  unfold Zfs
  split<;>simp<;>omega
 have hG:=fun{σ:Za} {sq own:Nat} (f:Bool)=>ZmP σ sq own (Zfs n c) (by omega) f
 rw[<-ZDc]
 unfold ZcF at hT ⊢
 unfold ZE
 generalize Zfs n c=B at *
 generalize Zn n c=R at *
 rw[Zg (by rfl) ZIJ]
 simp only[EQA,Zk,Zcq,Xd,Xb,reduceCtorEq,↓reduceIte,Zm,ZGo,Zoz,ZQA,Zb,hT,hG]
 try (simp[EQO])
theorem ZeH{c:ZK}(hb:c.b.length<=140737488355328){σ:Za}{t:Nat}(hs:σ[t]?=some (.var [.lst false (c.b.map Zc),.bool c.short]))(sq:Nat)(n:Nat)(hn:n<=8):Zl E BY σ sq 44 0 true [.ref t 0,.int .i64 (n:Nat)]=some (.int .i64 (ZE (Zn n c).1),σ.set t (.var (ZcF (Zn n c).2)),{ any:=true,upd:=[(t,[.lst false ((Zn n c).2.b.map Zc),.bool (Zn n c).2.short])] }) :=
 Zeq (rest:=[.int .i64 (n:Nat)]) hs rfl rfl (by kernel_rfl) rfl rfl (ZBz n hn c hb) rfl rfl
def ZV(c:ZK):Zd×ZK :=
 if(Zn 2 c).2.short=true\/ZE (Zn 2 c).1>((Zn 2 c).2.b.length:Int)then([],⟨(Zn 2 c).2.b,true⟩)
 else((Zn 2 c).2.b.take (ZE (Zn 2 c).1).toNat,⟨(Zn 2 c).2.b.drop (ZE (Zn 2 c).1).toNat,false⟩)
theorem Zmy(c:ZK):(ZV c).2.b.length<=c.b.length/\(ZV c).1.length<=c.b.length:=by
 have:=(ZbN 2 c).2
 unfold ZV
 split<;>simp<;>omega
end
section
def ZbU:Nat->ZK->Bool->List Int×ZK×Bool
 |0,c,f=>([],c,f)
 |n+1,c,f=>(ZE (Zn 4 c).1::(ZbU n (Zn 4 c).2 (f&&decide (ZE (Zn 4 c).1>=1)&&decide (ZE (Zn 4 c).1<=268435455))).1,(ZbU n (Zn 4 c).2 (f&&decide (ZE (Zn 4 c).1>=1)&&decide (ZE (Zn 4 c).1<=268435455))).2)
theorem Zrv:∀ (n:Nat) (c:ZK) (f:Bool),(ZbU n c f).1.length=n/\(ZbU n c f).2.1.b.length<=c.b.length
 |0,c,f=>⟨rfl,XD _⟩
 |n+1,c,f=>by
  have h:=Zrv n (Zn 4 c).2 (f&&decide (ZE (Zn 4 c).1>=1)&&decide (ZE (Zn 4 c).1<=268435455))
  have:=(ZbN 4 c).2
  simp only[ZbU,Xm]
  omega
def ZdH:ZaH:=⟨Zco,0,false,[],[]⟩
def Zc0(b:Zd)(nt:Zab)(q:Int)(rt:Bool)(ids:List Int)(c:ZK)(f:Bool):ZaH×Int :=
 if(Zag c).2.short=true\/f=false\/(ZaW ⟨nt,q,rt,ids,(Zag c).1⟩==b)=false then(ZdH,190)else(⟨nt,q,rt,ids,(Zag c).1⟩,0)
def itC(n:Zab)(q:Int)(rt:Bool)(ids:AVal)(sh:Zd):List AVal:=[.str n.topic,.lst false (n.payload.map Zc),.int .i64 n.qos,.bool n.retain,.str n.sender,.int .i64 n.expires,.lst false (n.props.map Zi),.int .i64 n.origin,.int .i64 n.number,.int .i64 n.hops,.int .i64 q,.bool rt,ids,.str sh]
def itZ:List AVal:=[.str [],.lst true [],.int .i64 0,.bool false,.str [],.int .i64 0,.lst true [],.int .i64 0,.int .i64 0,.int .i64 0,.int .i64 0,.bool false,.lst true [],.str []]
def itR(x:ZaH×Int):AVal×Za:=if x.2=0 then(.tup [.agg (itC x.1.note x.1.qos x.1.retain (ZaX (x.1.ids.map (AVal.int .i64))) x.1.share),.int .i64 0],ZaS 1 (x.1.ids.map (AVal.int .i64)))else(.tup [.agg itZ,.int .i64 x.2],[])
theorem ZgD:itR (ZdH,190)=(.tup [.agg itZ,.int .i64 190],[]):=rfl
theorem Zvo(it:ZaH):itR (it,0)=(.tup [.agg (itC it.note it.qos it.retain (ZaX (it.ids.map (AVal.int .i64))) it.share),.int .i64 0],ZaS 1 (it.ids.map (AVal.int .i64))):=rfl
theorem ZGZ(σ:Za)(sq own t:Nat)(it:ZaH)(h:ZdO it)(hs:σ[t]?=some (.row 0 1 (it.ids.map (AVal.int .i64)))) :
  Zl E BY σ sq 9 own true [.agg (itC it.note it.qos it.retain (.sl t 0 0 (it.ids.map (AVal.int .i64)).length) it.share)]=some (.lst false ((ZaW it).map Zc),σ,{ rd:=[t] }):=by
 have hsh:showAs σ [.agg (itC it.note it.qos it.retain (.sl t 0 0 (it.ids.map (AVal.int .i64)).length) it.share)]=some ([Zbp it],[t]):=by
  simp[showAs,showA,Zcr,ZbX,Zq,hs,itC,Zbp,ZgC,Zbm,Zf,ZD]
  exact Xy (by simp)
 have hp:[Zbp it].all Z2=true:=by simp only[Zba,Zbz,eq_self,Zbp,ZgC,Zbm,Zf,ZD]
 have hm:[Zbp it].map ZM=[Zbp it]:=by simp only[Zba,ZR,Zbz,eq_self,Zbp,ZgC,Zbm,Zf,ZD]
 have hE:=Zyv it h
 have hb:=ZnC (ZaW it)
 have hap:Zck σ [t] (.lst false ((ZaW it).map Zc))=true:=by
  unfold Zck
  simp only[WE,XaT,WN,ZiX,Xa5,Zgp,ZgH,ZgA,hb,XW,Wc,Xao,Zew,hs,ZiI,List.all_map]
  rw[XF]
  intro x _
  rfl
 have hn:renL (rhoOf (Zj σ [t]) 0 []) [Zbp it]=[Zbp it]:=(ZdL _ _ (by rfl)).1
 have hr:refsL [Zbp it]=[]:=(ZdL (fun _ _=>none) [Zbp it] (by rfl)).2
 have hb0:BY 9=false:=by kernel_rfl
 unfold Zl Zb1
 rw[hb0]
 simp only[Xl,if_false,hsh]
 have h0:reach (Zj σ [t]) 1000 (refsL [Zbp it]) []=[]:=by rw[hr];rfl
 rw[h0]
 unfold Zbl
 simp only[Wc,if_true,hn,heapOf,hE]
 have hask:ZO true 0 (some (.sl 0 0 0 (ZaW it).length,[Zx.row 0 1 ((ZaW it).map Zc)]))=some (.lst false ((ZaW it).map Zc),[]):=by
  simp[EQO,ZO,ZaI,viewR,Zv,Zs,Zq,Zj]
  exact Xy (by simp)
 rw[Xu,hask]
 simp only[Z8,Wo,Wp,if_true,ZaQ,Zas,Z5,Xl,if_false,hap]
theorem ZG1(σ:Za)(sq own:Nat)(it:ZaH)(h:ZdO it):Zl E BY σ sq 9 own true [.agg (itC it.note it.qos it.retain (.lst true (it.ids.map (AVal.int .i64))) it.share)]=some (.lst false ((ZaW it).map Zc),σ,{}):=by
 have h:=Zu4 σ sq own it h
 rw[ZbK (by kernel_rfl) rfl]at h⊢
 exact h
end
section
theorem ZfY(n:Nat)(c:ZK):(Zn n c).1.length<=n:=by
 unfold Zn
 split
 ·simp
 ·simp;omega
theorem ZhK{b:Zd}(h:b.length<=1):0<=ZE b/\ZE b<=255:=by
 have:=ZxE b h
 unfold ZE
 rw[ZQ (by omega) (by omega)]
 omega
theorem Zoj:Zb6 Zco:=⟨by simp[Zco],by simp[Zco],by simp[Zco],by simp[Zco],by simp[Zco],by simp[Zco]⟩
theorem ZnZ(b:Zd):Zb6 (Zbo b).1:=by
 unfold Zbo
 split
 ·exact Zoj
 ·exact Zyh _
structure ZsI where
 d:Zd×ZK
 m:Zd×ZK
 k:Zd×ZK
def Zaj(b:Zd):ZsI :=
 let d:=Zat ⟨b,false⟩
 let m:=Zn 1 d.2
 ⟨d,m,Zn 1 m.2⟩
def Zh1(x:ZsI):Bool:=decide (Zcv (ZE x.m.1)<3)&&((Zbo x.d.1).2==0)
def ZaO(b:Zd):ZaH×Int :=
 let x:=Zaj b
 let z:=ZbU (ZE x.k.1).toNat x.k.2 (Zh1 x)
 Zc0 b (Zbo x.d.1).1 (Zcv (ZE x.m.1)) (ZdR (ZE x.m.1) != 0) z.1 z.2.1 z.2.2
theorem ZHy(x:ZaH×Int)(hx:x.2≠0->x=(ZdH,x.2)):ZaI 0 (some (itR x))=some (.tup [.agg (itC x.1.note x.1.qos x.1.retain (.lst false (x.1.ids.map (AVal.int .i64))) x.1.share),.int .i64 x.2],[]):=by
 unfold itR
 by_cases h:x.2=0
 ·rw[if_pos h,h]
  cases hids:x.1.ids with
  |nil =>
   simp[EQO,ZaX,ZaS,itC,ZaI,viewR,viewAs,Zv,Zao,Zs,Zj]
  |cons a l =>
   simp only[Xn,Zbi,Za0]
   generalize AVal.int .i64 a::l.map (AVal.int .i64)=X
   simp[EQO,itC,ZaI,viewR,viewAs,Zv,Zao,Zs,Zq,Zj]
 ·rw[if_neg h,hx h]
  rfl
theorem ZJw(b:Zd):(ZaO b).2≠0->ZaO b=(ZdH,(ZaO b).2):=by
 unfold ZaO Zc0
 simp only
 intro h
 split at h
 ·rename_i hc;rw[if_pos hc]
 ·simp at h
end
section
theorem Zwu{b:Zd}(h:b.length<=2):0<=ZE b/\ZE b<=65535:=by
 have:=Zjv b h
 unfold ZE
 rw[ZQ (by omega) (by omega)]
 omega
theorem ZGk{c:ZK}(hb:c.b.length<=140737488355328)(h:¬((Zn 2 c).2.short=true\/ZE (Zn 2 c).1>((Zn 2 c).2.b.length:Int))):E 43 [.ref 0 0] [.var [.lst false (c.b.map Zc),.bool c.short]]=some (.sl 1 0 0 (ZV c).1.length,[.var (ZcF (ZV c).2),.row 0 1 ((ZV c).1.map Zc)]):=by
 have hN:=fun{σ:Za} {sq:Nat} hs=>ZeH hb (t:=0) (σ:=σ) hs sq 2 (by omega)
 have z2:((2:Nat):Int)=2:=rfl
 rw[z2]at hN
 have hx:=Zwu (ZfY 2 c)
 have hl:=(ZbN 2 c).2
 have hT:=fun{σ:Za} {sq:Nat} hs=>ZyR (c:=(Zn 2 c).2) (by omega) (t:=0) (σ:=σ) hs sq (n:=(ZE (Zn 2 c).1).toNat) (by omega)
 unfold ZV
 rw[if_neg h]
 unfold ZcF at hN hT ⊢
 generalize ZE (Zn 2 c).1=x at *
 obtain⟨m,rfl⟩:∃ m:Nat,x=(m:Int):=⟨x.toNat,by omega⟩
 have e1:((m:Int)).toNat=m:=rfl
 rw[e1]at hT
 generalize Zn 2 c=R at *
 obtain⟨r1,⟨b2,s2⟩⟩:=R
 simp only[not_or,Xar]at h hN hT hl ⊢
 obtain⟨rfl,h⟩:=h
 have h1:¬((m:Nat):Int)>(b2.length:Int):=by omega
 have h2:¬(false=true\/m>b2.length):=by simp;omega
 have et:Zn m ⟨b2,false⟩=(b2.take m,⟨b2.drop m,false⟩):=if_neg h2
 have er:Zfs m ⟨b2,false⟩=b2.take m:=if_neg h2
 rw[er]at hT
 simp only[et]at hT
 have ld:(b2.take m).length*1<=140737488355328:=by simp;omega
 rw[e1]
 generalize b2.take m=D at *
 generalize b2.drop m=F at *
 have k1:=Zbe D
 have t1:=Zd7 D
 rw[Zg (by rfl) Zqh]
 simp only[EQA,ZX,Xf,Xd,Xb,Xg,Zh,unG,reduceCtorEq,Zq,↓reduceIte,Znz,Zje,Zpx,Zb,hN,hT,h1,k1,ld,ZI,viewAs,Zj,AVal.cells]
 try (simp[EQO])
theorem ZIj{c:ZK}(hb:c.b.length<=140737488355328)(h:(Zn 2 c).2.short=true\/ZE (Zn 2 c).1>((Zn 2 c).2.b.length:Int)):E 43 [.ref 0 0] [.var [.lst false (c.b.map Zc),.bool c.short]]=some (.lst true [],[.var (ZcF (ZV c).2)]):=by
 have hN:=fun{σ:Za} {sq:Nat} hs=>ZeH hb (t:=0) (σ:=σ) hs sq 2 (by omega)
 have z2:((2:Nat):Int)=2:=rfl
 rw[z2]at hN
 unfold ZV
 rw[if_pos h]
 unfold ZcF at hN ⊢
 generalize ZE (Zn 2 c).1=x at *
 generalize Zn 2 c=R at *
 obtain⟨r1,⟨b2,s2⟩⟩:=R
 simp only at h hN ⊢
 cases s2
 ·have h1:x>(b2.length:Int):=by
   rcases h with h |h
   ·cases h
   ·exact h
  rw[Zg (by rfl) Zqh]
  simp only[EQA,ZR,Zk,Zcq,Xf,Xd,Xe,Xb,Zh,unG,reduceCtorEq,↓reduceIte,Zm,Znz,Zje,Zpx,Zb,hN,h1]
  try (simp[EQO])
 ·rw[Zg (by rfl) Zqh]
  simp only[EQA,ZR,Zk,Zcq,Xf,Xd,Xe,Xb,Zh,Zw,reduceCtorEq,↓reduceIte,Zm,Znz,Zje,Zpx,Zb,hN]
  try (simp[EQO])
theorem Zqr{c:ZK}(hb:c.b.length<=140737488355328){σ:Za}{t:Nat}(hs:σ[t]?=some (.var [.lst false (c.b.map Zc),.bool c.short]))(sq:Nat):Zl E BY σ sq 43 0 true [.ref t 0]=some (.lst false ((ZV c).1.map Zc),σ.set t (.var (ZcF (ZV c).2)),{ any:=true,upd:=[(t,[.lst false ((ZV c).2.b.map Zc),.bool (ZV c).2.short])] }):=by
 by_cases h:(Zn 2 c).2.short=true\/ZE (Zn 2 c).1>((Zn 2 c).2.b.length:Int)
 ·have h1:=ZIj hb h
  have e:(ZV c).1=[]:=by unfold ZV;rw[if_pos h]
  rw[e]
  exact Zeq (rest:=[]) hs rfl rfl (by kernel_rfl) rfl rfl h1 rfl rfl
 ·exact Zeq (rest:=[]) hs rfl rfl (by kernel_rfl) rfl rfl (ZGk hb h) (ZuP (by simp) rfl) rfl
theorem ZHY{c:ZK}(hb:c.b.length<=140737488355328):E 42 [.ref 0 0] [.var [.lst false (c.b.map Zc),.bool c.short]]=some (.str (ZV c).1,[.var (ZcF (ZV c).2)]):=by
 have hD:=fun{σ:Za} {sq:Nat} hs=>Zqr hb (t:=0) (σ:=σ) hs sq
 unfold ZcF at hD ⊢
 generalize ZV c=R at *
 rw[Zg (by rfl) ZES]
 simp only[EQA,Zk,Zcq,Xd,Xb,reduceCtorEq,Zq,↓reduceIte,Zm,ZJV,ZrN,ZQL,Zb,hD]
 try (simp[EQO])
theorem Znd{c:ZK}(hb:c.b.length<=140737488355328){σ:Za}{t:Nat}(hs:σ[t]?=some (.var [.lst false (c.b.map Zc),.bool c.short]))(sq:Nat):Zl E BY σ sq 42 0 true [.ref t 0]=some (.str (ZV c).1,σ.set t (.var (ZcF (ZV c).2)),{ any:=true,upd:=[(t,[.lst false ((ZV c).2.b.map Zc),.bool (ZV c).2.short])] }) :=
 Zeq (rest:=[]) hs rfl rfl (by kernel_rfl) rfl rfl (ZHY hb) rfl rfl
end
section
def Zap(c:ZK):Zpm :=
 let r1:=ZV c
 let r2:=ZV r1.2
 let r3:=Zn 1 r2.2
 let r4:=ZV r3.2
 let r5:=Zn 8 r4.2
 let r6:=Zn 8 r5.2
 let r7:=Zn 1 r6.2
 ⟨r1,r2,r3,r4,r5,r6,r7,Zn 1 r7.2⟩
def ZeF(x:Zpm)(ps:List Zp):Zab:=⟨x.r1.1,x.r2.1,Zcv (ZE x.r3.1),ZdR (ZE x.r3.1) != 0,x.r4.1,ZE x.r5.1,ps,ZE x.r7.1,ZE x.r6.1,ZE x.r8.1⟩
def ZdI(b:Zd)(bad:Bool)(n:Zab):Zab×Int:=if bad=true\/Zde n=false\/(ZbE n==b)=false then(Zco,190)else(n,0)
def Zci(b:Zd):Zab×Int :=
 let x:=Zap ⟨b,false⟩
 if x.r8.2.short=true then ZdI b true (ZeF x [])
 else ZdI b ((Z1 3 x.r8.2.b).2.2 != 0 ||((Z1 3 x.r8.2.b).2.1:Int) != (x.r8.2.b.length:Int)) (ZeF x (Z1 3 x.r8.2.b).1)
theorem ZDX(c:ZK):(Zap c).r1.2.b.length<=c.b.length/\(Zap c).r2.2.b.length<=c.b.length/\(Zap c).r3.2.b.length<=c.b.length/\(Zap c).r4.2.b.length<=c.b.length/\(Zap c).r5.2.b.length<=c.b.length/\(Zap c).r6.2.b.length<=c.b.length/\(Zap c).r7.2.b.length<=c.b.length/\(Zap c).r8.2.b.length<=c.b.length:=by
 have h1:=(Zmy c).1
 have h2:=(Zmy (ZV c).2).1
 have h3:=(ZbN 1 (ZV (ZV c).2).2).2
 have h4:=(Zmy (Zn 1 (ZV (ZV c).2).2).2).1
 have h5:=(ZbN 8 (ZV (Zn 1 (ZV (ZV c).2).2).2).2).2
 have h6:=(ZbN 8 (Zn 8 (ZV (Zn 1 (ZV (ZV c).2).2).2).2).2).2
 have h7:=(ZbN 1 (Zn 8 (Zn 8 (ZV (Zn 1 (ZV (ZV c).2).2).2).2).2).2).2
 have h8:=(ZbN 1 (Zn 1 (Zn 8 (Zn 8 (ZV (Zn 1 (ZV (ZV c).2).2).2).2).2).2).2).2
 simp only[Zap]
 omega
theorem ZhZ(c:ZK):(ZV c).1.length<=65535:=by
 have h:=Zwu (ZfY 2 c)
 unfold ZV
 split
 ·simp
 ·simp;omega
theorem Zlp(c:ZK)(ps:List Zp)(h1:ps.length<=268435455)(h2:∀ p∈ps,p.text.length<=65535/\p.pair.length<=65535/\p.data.length<=65535):Zb6 (ZeF (Zap c) ps):=by
 have a1:(Zap c).r1.1.length<=65535:=ZhZ c
 have a2:(Zap c).r2.1.length<=65535:=ZhZ (Zap c).r1.2
 have a4:(Zap c).r4.1.length<=65535:=ZhZ (Zap c).r3.2
 refine⟨?_,?_,?_,?_,?_,?_⟩
 ·show(Zap c).r1.1.length<=_;omega
 ·show(Zap c).r2.1.length<=_;omega
 ·show(Zap c).r4.1.length<=_;omega
 ·show ps.length<=_;omega
 ·exact fun p hp=>by have:=h2 p hp;exact⟨by omega,by omega,by omega⟩
 ·exact fun p hp=>by have:=h2 p hp;omega
theorem Zz6(σ:Za)(sq own:Nat)(n:Zab)(h:Zb6 n)(h0:n.props=[]):Zl E BY σ sq 5 own true [.agg [.str n.topic,.lst false (n.payload.map Zc),.int .i64 n.qos,.bool n.retain,.str n.sender,.int .i64 n.expires,.lst true [],.int .i64 n.origin,.int .i64 n.number,.int .i64 n.hops]]=some (.tup [.lst false ((ZbE n).map Zc),.bool (Zde n)],σ,{}):=by
 have h:=ZlN σ sq own n h
 rw[ZbK (by kernel_rfl) rfl]at h⊢
 rw[h0]at h
 exact h
theorem ZHN(b:Zd)(hb:b.length<=140737488355328):∃ f,E 14 [Zf b] []=some (ZcD f (Zci b),[]):=by
 obtain⟨l1,l2,l3,l4,l5,l6,l7,l8⟩:=ZDX ⟨b,false⟩
 simp only at l1 l2 l3 l4 l5 l6 l7 l8
 have z1:((1:Nat):Int)=1:=rfl
 have z8:((8:Nat):Int)=8:=rfl
 have h1:=fun{σ:Za} {t sq:Nat} hs=>Znd (c:=⟨b,false⟩) hb (t:=t) (σ:=σ) hs sq
 have h2:=fun{σ:Za} {t sq:Nat} hs=>Zqr (c:=(Zap ⟨b,false⟩).r1.2) (by omega) (t:=t) (σ:=σ) hs sq
 have h3:=fun{σ:Za} {t sq:Nat} hs=>ZeH (c:=(Zap ⟨b,false⟩).r2.2) (by omega) (t:=t) (σ:=σ) hs sq 1 (by omega)
 have h4:=fun{σ:Za} {t sq:Nat} hs=>Znd (c:=(Zap ⟨b,false⟩).r3.2) (by omega) (t:=t) (σ:=σ) hs sq
 have h5:=fun{σ:Za} {t sq:Nat} hs=>ZeH (c:=(Zap ⟨b,false⟩).r4.2) (by omega) (t:=t) (σ:=σ) hs sq 8 (by omega)
 have h6:=fun{σ:Za} {t sq:Nat} hs=>ZeH (c:=(Zap ⟨b,false⟩).r5.2) (by omega) (t:=t) (σ:=σ) hs sq 8 (by omega)
 have h7:=fun{σ:Za} {t sq:Nat} hs=>ZeH (c:=(Zap ⟨b,false⟩).r6.2) (by omega) (t:=t) (σ:=σ) hs sq 1 (by omega)
 have h8:=fun{σ:Za} {t sq:Nat} hs=>ZeH (c:=(Zap ⟨b,false⟩).r7.2) (by omega) (t:=t) (σ:=σ) hs sq 1 (by omega)
 have h9:=fun σ sq own f=>ZuJ σ sq own f 3 (Zap ⟨b,false⟩).r8.2.b (by omega)
 have ok0:=Zlp ⟨b,false⟩ [] (by simp) (by simp)
 have ok1:=Zlp ⟨b,false⟩ (Z1 3 (Zap ⟨b,false⟩).r8.2.b).1 (Zqg 3 _) (ZlA 3 _)
 have hA:=fun σ sq own=>Zz6 σ sq own _ ok0 rfl
 have hB:=fun σ sq own=>ZlN σ sq own _ ok1
 have e1:ZV ⟨b,false⟩=(Zap ⟨b,false⟩).r1:=rfl
 have e2:ZV (Zap ⟨b,false⟩).r1.2=(Zap ⟨b,false⟩).r2:=rfl
 have e3:Zn 1 (Zap ⟨b,false⟩).r2.2=(Zap ⟨b,false⟩).r3:=rfl
 have e4:ZV (Zap ⟨b,false⟩).r3.2=(Zap ⟨b,false⟩).r4:=rfl
 have e5:Zn 8 (Zap ⟨b,false⟩).r4.2=(Zap ⟨b,false⟩).r5:=rfl
 have e6:Zn 8 (Zap ⟨b,false⟩).r5.2=(Zap ⟨b,false⟩).r6:=rfl
 have e7:Zn 1 (Zap ⟨b,false⟩).r6.2=(Zap ⟨b,false⟩).r7:=rfl
 have e8:Zn 1 (Zap ⟨b,false⟩).r7.2=(Zap ⟨b,false⟩).r8:=rfl
 rw[e1]at h1
 rw[e2]at h2
 rw[e3,z1]at h3
 rw[e4]at h4
 rw[e5,z8]at h5
 rw[e6,z8]at h6
 rw[e7,z1]at h7
 rw[e8,z1]at h8
 unfold Zci
 clear e1 e2 e3 e4 e5 e6 e7 e8 l1 l2 l3 l4 l5 l6 l7 l8 ok0 ok1
 unfold ZcF at h1 h2 h3 h4 h5 h6 h7 h8
 generalize Zap ⟨b,false⟩=x at *
 have hx1:∀ bad n,(bad=true\/Zde n=false\/(ZbE n==b)=false)->ZdI b bad n=_:=fun _ _ h=>if_pos h
 have hx2:∀ bad n,¬(bad=true\/Zde n=false\/(ZbE n==b)=false)->ZdI b bad n=_:=fun _ _ h=>if_neg h
 have hnA:ZeF x []=_:=rfl
 have hnB:ZeF x (Z1 3 x.r8.2.b).1=_:=rfl
 generalize hA':ZeF x []=nA at *
 generalize hB':ZeF x (Z1 3 x.r8.2.b).1=nB at *
 have hZ:Zco=⟨[],[],0,false,[],0,[],0,0,0⟩:=rfl
 generalize ZdI b=EN at *
 generalize Zde nA=fA at *
 generalize ZbE nA=yA at *
 generalize hfB:Zde nB=fB at *
 generalize hyB:ZbE nB=yB at *
 rw[<-hA']at hA
 rw[<-hB']at hB
 subst hA' hB'
 unfold ZeF at hA hB
 obtain⟨⟨t1,c1⟩,⟨t2,c2⟩,⟨t3,c3⟩,⟨t4,c4⟩,⟨t5,c5⟩,⟨t6,c6⟩,⟨t7,c7⟩,⟨t8,c8⟩⟩:=x
 simp only at h1 h2 h3 h4 h5 h6 h7 h8 h9 hA hB hfB hyB ⊢
 obtain⟨b8,s8⟩:=c8
 simp only at h8 h9 hB hfB hyB ⊢
 unfold Zcv ZdR at *
 cases s8
 ·simp only[Xl,if_false]
  generalize Z1 3 b8=L at *
  obtain⟨ps,u,e⟩:=L
  simp only at h9 hB hfB hyB ⊢
  cases he:(e != 0)
  ·cases hu:((u:Int) != (b8.length:Int))
   ·cases fB
    ·refine⟨true,?_⟩
     rw[hx1 _ _ (Xt (Xp hfB)),Zg (by rfl) Zhy]
     unfold ZcD
     simp only[EQA,ZaT,Zk,Xf,Xd,Xe,Xb,Xg,unA,Zh,Zw,unG,reduceCtorEq,↓reduceIte,Zm,Zhz,Zgo,ZhC,Zb,Zf,h1,h2,h3,h4,h5,h6,h7,h8,h9,hB,he,hu,hZ,Z3,AVal.cells]
    ·cases hy:(yB==b)
     ·refine⟨true,?_⟩
      have hy':(yB != b)=true:=by simpa using hy
      rw[hx1 _ _ (Xt (Xt (by rw[hyB];exact hy))),Zg (by rfl) Zhy]
      unfold ZcD
      simp only[EQA,ZaT,Zk,Xf,Xd,Xe,Xb,Xg,Zbw,unA,Zh,unG,reduceCtorEq,Zq,↓reduceIte,Zm,Zhz,Zgo,ZhC,Zb,Zf,h1,h2,h3,h4,h5,h6,h7,h8,h9,hB,he,hu,hy,hZ,Z3,AVal.cells]
     ·refine⟨false,?_⟩
      have hy':(yB != b)=false:=by simpa using hy
      rw[hx2 _ _ (by rw[hfB,hyB,hy];simp),Zg (by rfl) Zhy]
      unfold ZcD ZeF Zcv ZdR
      simp only[EQA,ZaT,Zk,Xf,Xd,Xe,Xb,Xg,Zbw,unA,Zh,unG,reduceCtorEq,Zq,↓reduceIte,Zm,Zhz,Zgo,ZhC,Zb,Zf,h1,h2,h3,h4,h5,h6,h7,h8,h9,hB,he,hu,hy,Z3,AVal.cells]
   ·refine⟨true,?_⟩
    rw[hx1 (false ||true) _ (Xp rfl),Zg (by rfl) Zhy]
    unfold ZcD
    simp only[EQA,ZaT,Zk,Xf,Xd,Xe,Xb,Xg,unA,Zh,Zw,unG,reduceCtorEq,↓reduceIte,Zm,Zhz,Zgo,ZhC,Zb,Zf,h1,h2,h3,h4,h5,h6,h7,h8,h9,hB,he,hu,hZ,Z3,AVal.cells]
  ·refine⟨true,?_⟩
   rw[hx1 (true ||_) _ (Xp rfl),Zg (by rfl) Zhy]
   unfold ZcD
   simp only[EQA,ZaT,Zk,Xf,Xd,Xe,Xb,Xg,unA,Zh,Zw,reduceCtorEq,↓reduceIte,Zm,Zhz,Zgo,ZhC,Zb,Zf,h1,h2,h3,h4,h5,h6,h7,h8,h9,hB,he,hZ,Z3,AVal.cells]
 ·simp only[if_true]
  refine⟨true,?_⟩
  rw[hx1 _ _ (Xp rfl),Zg (by rfl) Zhy]
  unfold ZcD
  simp only[EQA,ZaT,Zk,Xf,Xd,Xe,Xb,Xg,unA,Zh,Zw,reduceCtorEq,↓reduceIte,Zm,Zhz,Zgo,ZhC,Zb,Zf,h1,h2,h3,h4,h5,h6,h7,h8,hA,hZ,Z3,AVal.cells]
theorem ZyQ(σ:Za)(sq own:Nat)(f:Bool)(b:Zd)(hb:b.length<=140737488355328):Zl E BY σ sq 14 own true [.lst f (b.map Zc)]=some (ZcD false (Zci b),σ,{}):=by
 obtain⟨g,h⟩:=ZHN b hb
 exact Zal h (by kernel_rfl) rfl rfl rfl (fun _=>rfl) _ _ _
end
section
def Zgb:List Int->Bool->Bool
 | [],f=>f
 |x::r,f=>Zgb r (f&&decide (x>=1)&&decide (x<=268435455))
def Zb7(it:ZaH):Zd:=((Z0 (ZbE it.note)).1++[ZfI it.qos it.retain,u8B it.ids.length])++(Zbb it.ids++(Zy it.share).1)
def ZoW(it:ZaH):Bool:=Zde it.note&&((Z0 (ZbE it.note)).2==0)&&((Zy it.share).2==0)&&decide (it.qos>=0)&&decide (it.qos<=2)&&decide ((it.ids.length:Int)<256)
def Zdm(it:ZaH):Bool:=Zgb it.ids (ZoW it)
theorem ZzC(nt:Zab)(q:Int)(rt:Bool)(ss:Zd)(l:List Int)(hl:l.length<=1000000)(sh:Zd)(hsh:sh.length<=65537):∀ (r:List Int) (i:Nat) (acc full:Zd) (f:Bool),l.drop i=r->full=acc++(Zbb r++sh)->full.length<=140737488355328 ->
  ZkO 0 [(11,.int .i64 i),(10,.sl 0 0 0 acc.length),(8,.lst false (sh.map Zc)),(5,.bool f),(1,.ref 1 0)] [.row 0 1 (acc.map Zc),.var (itC nt q rt (.lst false (l.map (AVal.int .i64))) ss)]=some (.tup [.sl 0 0 0 full.length,.bool (Zgb r f)],[.row 0 1 (full.map Zc)])
 | [],i,acc,full,f,h,hf,hn=>by
  have h1:=ZcG h
  have e:full=acc++sh:=by rw[hf];simp[Zbb]
  subst e
  have k1:=Zbe sh
  have k2:(acc.length+sh.length)*1<=140737488355328:=by simp at hn;omega
  have e4:(acc++sh).map Zc=acc.map Zc++sh.map Zc:=by simp
  rw[e4,Xk]
  clear hf
  unfold Zgb itC ZkO
  rw[Zr]
  simp only[EQA,Xf,Xd,Xb,Xg,Zq,↓reduceIte,ZCf,ZP0,Zqn,ZvQ,Zmw,Zb,h1,k1,k2,ZI]
  simp[EQO]
 |x::r,i,acc,full,f,h,hf,hn=>by
  have ih:=ZzC nt q rt ss l hl sh hsh r (i+1) (acc++beB (ZH x) 4) full (f&&decide (x>=1)&&decide (x<=268435455)) (ZP h).2.1 (by rw[hf];simp[Zbb]) hn
  have h1:(i:Int)<l.length:=by have:=(ZP h).2.2;omega
  have e1:=iad (ZP h).1 (AVal.int .i64) (k:=1) rfl
  have e3:=Zcp h1 (by omega)
  have hP:=fun σ sq own=>Zh6 σ sq own (ZH x) 4 (by unfold ZH;omega) (by omega) (by omega)
  have z4:((4:Nat):Int)=4:=rfl
  rw[z4]at hP
  have hu:=Zha x
  have lq:=ZbJ 4 (ZH x)
  generalize beB (ZH x) 4=q4 at *
  have k1:=Zbe q4
  have k2:(acc.length+q4.length)*1<=140737488355328:=by have:=congrArg Xa6 hf;simp only[Xk,ZhF,Xm]at this;omega
  have e4:(acc++q4).map Zc=acc.map Zc++q4.map Zc:=by simp
  have e5:(acc++q4).length=acc.length+q4.length:=by simp
  rw[e4,e5]at ih
  clear hf
  rw[Zgb]
  unfold itC at ih ⊢
  unfold ZkO at ih ⊢
  rw[Zr]
  simp only[ge_iff_le]at ih ⊢
  simp only[EQA,Zcq,ZB,ZX,Zfw,Zgc,Xf,Xd,Xe,Xb,Xg,Zh,Zw,unG,reduceCtorEq,Zq,ite_self,↓reduceIte,gcT,gcA,gcIds,reach,rhoOf,heapOf,idxA,genB,newGen,renB,refsB,ZvQ,Zmw,Zb,h1,ge_iff_le,e1,e3,hu,hP,k1,k2,ZI,AVal.cells]
  exact ih
theorem ZP2(it:ZaH)(h:it.ids.length<=1000000):(Zb7 it).length<=10000000:=by
 have l1:=ZeG (ZbE it.note)
 have l2:=ZhF it.ids
 have l3:=Zcz it.share
 unfold Zb7
 simp only[Xk,Xm,Xu];omega
theorem Zwx(it:ZaH)(h:ZdO it):E 6 [Zbp it] []=some (.tup [.sl 0 0 0 (Zb7 it).length,.bool (Zdm it)],[.row 0 1 ((Zb7 it).map Zc)]):=by
 have hL:=fun σ sq own=>ZlN σ sq own it.note h.note
 have ln:=ZNd it.note
 have hD:=fun σ sq own f=>ZrZ σ sq own f (ZbE it.note) (by omega)
 have hS:=fun σ sq own=>Ztj σ sq own it.share h.share
 have hM:=fun σ sq own=>Zvn σ sq own it.qos it.retain
 have w1:=ZeP (it.ids.length:Int)
 have l1:=ZeG (ZbE it.note)
 have l3:=Zcz it.share
 have hids:=h.ids
 have lm:=ZP2 it hids
 have key:=fun f=>ZzC it.note it.qos it.retain it.share it.ids hids (Zy it.share).1 l3 it.ids 0 ((Z0 (ZbE it.note)).1++[ZfI it.qos it.retain,u8B it.ids.length]) (Zb7 it) f rfl rfl (by omega)
 unfold byT at hD hS
 have z0:((0:Nat):Int)=0:=rfl
 rw[z0]at key
 unfold Zdm ZoW
 generalize Zb7 it=full at *
 generalize ZbE it.note=nb at *
 generalize Z0 nb=D at *
 generalize Zy it.share=T at *
 generalize ZfI it.qos it.retain=M at *
 generalize u8B it.ids.length=U1 at *
 generalize Zde it.note=fn at *
 obtain⟨D,e1⟩:=D
 obtain⟨T,e2⟩:=T
 simp only at hD hS l1 l3 key ⊢
 have kD:=Zbe D
 have tD:=Zd7 D
 have m0:D.length*1<=140737488355328:=by omega
 have m1:(D.length+2)*1<=140737488355328:=by omega
 have kU:kOk 1 [AVal.int .u8 (M.toNat:Int),.int .u8 (U1.toNat:Int)]=true:=rfl
 simp only[XH,Xk,Xn,Xo,Xm,Xu,Xv,Zc]at key
 generalize full.length=N at *
 generalize full.map Zc=F at *
 unfold itC at key
 unfold ZkO at key
 unfold Zbp ZgC
 rw[Zg (by rfl) ZHW]
 simp only[EQA,Zcq,ZB,ZX,Zfw,Zgc,Xf,Xd,Xe,Xb,Xg,Zh,Zw,unG,reduceCtorEq,Zq,ite_self,↓reduceIte,gcT,gcA,gcIds,reach,rhoOf,heapOf,idxA,genB,newGen,renB,refsB,ZP6,Zs8,Zb,Zbm,Zf,ZD,hL,hD,hS,hM,w1,kD,m0,m1,kU,Za3,Zbd,Zby,Zce,ZcZ,ZcQ,Zc8,Zc6,ZbC,W4,ZI,viewAs,Zv,Zs,Zj,AVal.cells,Nat.reduceBNe]
 exact key _
theorem ZyO(σ:Za)(sq own:Nat)(it:ZaH)(h:ZdO it):Zl E BY σ sq 6 own true [.agg [.str it.note.topic,.lst false (it.note.payload.map Zc),.int .i64 it.note.qos,.bool it.note.retain,.str it.note.sender,.int .i64 it.note.expires,.lst false (it.note.props.map Zi),.int .i64 it.note.origin,.int .i64 it.note.number,.int .i64 it.note.hops,.int .i64 it.qos,.bool it.retain,.lst false (it.ids.map (.int .i64 ·)),.str it.share]]=some (.tup [.lst false ((Zb7 it).map Zc),.bool (Zdm it)],σ,{}):=by
 have h1:=Zwx it h
 have e:(Zb7 it).length=((Zb7 it).map Zc).length:=by simp
 rw[e]at h1
 exact ZjC (k:=1) (args':=[Zbp it]) (vs:=[.bool (Zdm it)]) h1 rfl (by kernel_rfl) rfl rfl σ sq own
theorem ZEC(σ:Za)(sq own:Nat)(it:ZaH)(h:ZdO it):Zl E BY σ sq 6 own true [.agg (itC it.note it.qos it.retain (.lst true (it.ids.map (AVal.int .i64))) it.share)]=some (.tup [.lst false ((Zb7 it).map Zc),.bool (Zdm it)],σ,{}):=by
 have h:=ZyO σ sq own it h
 rw[ZbK (by kernel_rfl) rfl]at h⊢
 exact h
theorem ZFT(σ:Za)(sq own t:Nat)(it:ZaH)(h:ZdO it)(hs:σ[t]?=some (.row 0 1 (it.ids.map (AVal.int .i64)))) :
  Zl E BY σ sq 6 own true [.agg (itC it.note it.qos it.retain (.sl t 0 0 (it.ids.map (AVal.int .i64)).length) it.share)]=some (.tup [.lst false ((Zb7 it).map Zc),.bool (Zdm it)],σ,{ rd:=[t] }):=by
 have hsh:showAs σ [.agg (itC it.note it.qos it.retain (.sl t 0 0 (it.ids.map (AVal.int .i64)).length) it.share)]=some ([Zbp it],[t]):=by
  simp[showAs,showA,Zcr,ZbX,Zq,hs,itC,Zbp,ZgC,Zbm,Zf,ZD]
  exact Xy (by simp)
 have hE:=Zwx it h
 have hb:=ZnC (Zb7 it)
 have hap:Zck σ [t] (.tup [.lst false ((Zb7 it).map Zc),.bool (Zdm it)])=true:=by
  unfold Zck
  simp only[WE,XaT,WN,Zgp,ZgH,ZgA,Z5,hb,XW,Wc,Xao,Zew,hs,ZiI,List.all_map]
  rw[Bool.or_eq_true]
  right
  rw[XF]
  intro x _
  rfl
 have hn:renL (rhoOf (Zj σ [t]) 0 []) [Zbp it]=[Zbp it]:=(ZdL _ _ (by rfl)).1
 have hr:refsL [Zbp it]=[]:=(ZdL (fun _ _=>none) [Zbp it] (by rfl)).2
 have hb0:BY 6=false:=by kernel_rfl
 unfold Zl Zb1
 rw[hb0]
 simp only[Xl,if_false,hsh]
 have h0:reach (Zj σ [t]) 1000 (refsL [Zbp it]) []=[]:=by rw[hr];rfl
 rw[h0]
 unfold Zbl
 simp only[Wc,if_true,hn,heapOf,hE]
 have hask:ZO true 0 (some (.tup [.sl 0 0 0 (Zb7 it).length,.bool (Zdm it)],[Zx.row 0 1 ((Zb7 it).map Zc)]))=some (.tup [.lst false ((Zb7 it).map Zc),.bool (Zdm it)],[]):=by
  simp[EQO,ZO,ZaI,viewR,viewAs,Zv,Zs,Zq,Zj]
  exact Xy (by simp)
 rw[Xu,hask]
 simp only[Z8,Wo,Wp,if_true,ZaQ,Zas,Z5,XW,Wc,X8,Xl,if_false,hap]
end
section
def Zdw:Nat->ZK->List Int×ZK
 |0,c=>([],c)
 |n+1,c=>if c.short=true then([],c)else(ZE (Zn 4 c).1::(Zdw n (Zn 4 c).2).1,(Zdw n (Zn 4 c).2).2)
def Zc9(b:Zd)(e:Int)(nt:Zab)(q:Int)(rt:Bool)(ids:List Int)(c:ZK):ZaH×Int :=
 if(e != 0)=true\/(ZV c).2.short=true\/Zdm ⟨nt,q,rt,ids,(ZV c).1⟩=false\/(Zb7 ⟨nt,q,rt,ids,(ZV c).1⟩==b)=false then(ZdH,190)else(⟨nt,q,rt,ids,(ZV c).1⟩,0)
theorem Zui(b:Zd)(e:Int)(nt:Zab)(hnt:Zb6 nt)(q:Int)(rt:Bool)(c:ZK)(hc:c.b.length<=140737488355328)(i n:Int)(h:i<n->c.short=true) :
  ZfP 0 [(10,.int .i64 i),(9,.int .i64 n),(7,.ref 0 0),(6,.int .i64 e),(4,.ref 1 0),(2,.ref 2 0),(0,.lst false (b.map Zc))] [.var (itC nt q rt (.lst true []) []),.var [.lst false (c.b.map Zc),.bool c.short],.var itZ]=some (itR (Zc9 b e nt q rt [] c)):=by
 have hT:=fun{σ:Za} {sq:Nat} hs=>Znd hc (t:=1) (σ:=σ) hs sq
 have hok:ZdO ⟨nt,q,rt,[],(ZV c).1⟩:=⟨hnt,by simp,by have:=ZhZ c;show(ZV c).1.length<=_;omega⟩
 have hL:=fun{σ:Za} {sq own:Nat}=>ZEC σ sq own ⟨nt,q,rt,[],(ZV c).1⟩ hok
 have hx1:_->Zc9 b e nt q rt [] c=_:=fun h=>if_pos h
 have hx2:_->Zc9 b e nt q rt [] c=_:=fun h=>if_neg h
 unfold itC at hL
 unfold ZcF at hT
 simp only[Xo]at hL
 clear hok
 generalize Zc9 b e nt q rt [] c=Z at *
 generalize Zb7 ⟨nt,q,rt,[],(ZV c).1⟩=y at *
 generalize Zdm ⟨nt,q,rt,[],(ZV c).1⟩=fi at *
 generalize ZV c=R at *
 obtain⟨sh,⟨b2,s2⟩⟩:=R
 obtain⟨cb,cs⟩:=c
 simp only at hT hL hx1 hx2 h⊢
 unfold ZfP
 by_cases hin:i<n
 case' pos =>
  have hcs:=h hin
  subst hcs
 all_goals
  cases he:(e != 0)
  ·cases s2
   ·cases fi
    ·rw[hx1 (Xt (Xt (Xp rfl))),ZgD]
     unfold itC itZ
     rw[Zr]
     simp only[EQA,Zk,Xf,Xd,Xe,Xb,unA,Zh,Zw,unG,reduceCtorEq,↓reduceIte,Zm,ZeZ,Zfc,Zeo,Zd8,ZdD,Zb,hin,he,hT,hL,Z3,AVal.cells]
     try (simp[EQO])
    ·cases hy:(y==b)
     ·rw[hx1 (Xt (Xt (Xt hy))),ZgD]
      unfold itC itZ
      rw[Zr]
      simp only[EQA,Zk,Xf,Xd,Xe,Xb,Zbw,unA,Zh,Zw,unG,reduceCtorEq,Zq,↓reduceIte,Zm,ZeZ,Zfc,Zeo,Zd8,ZdD,Zb,hin,he,hy,hT,hL,Z3,AVal.cells]
      try (simp[EQO])
     ·rw[hx2 (by simp[he,hy]),Zvo]
      simp only[Xo,ZaZ,ZaF]
      unfold itC itZ
      rw[Zr]
      simp only[EQA,Zk,Xf,Xd,Xe,Xb,Zbw,unA,Zh,Zw,unG,reduceCtorEq,Zq,↓reduceIte,Zm,ZeZ,Zfc,Zeo,Zd8,ZdD,Zb,hin,he,hy,hT,hL,AVal.cells]
      try (simp[EQO])
   ·rw[hx1 (Xt (Xp rfl)),ZgD]
    unfold itC itZ
    rw[Zr]
    simp only[EQA,Zk,Xf,Xd,Xe,Xb,unA,Zh,Zw,unG,reduceCtorEq,↓reduceIte,Zm,ZeZ,Zfc,Zeo,Zd8,ZdD,Zb,hin,he,hT,hL,Z3,AVal.cells]
    try (simp[EQO])
  ·rw[hx1 (Xp he),ZgD]
   unfold itC itZ
   rw[Zr]
   simp only[EQA,Zk,Xf,Xd,Xe,Xb,unA,Zh,Zw,unG,reduceCtorEq,↓reduceIte,Zm,ZeZ,Zfc,Zeo,Zd8,ZdD,Zb,hin,he,hT,hL,Z3,AVal.cells]
   try (simp[EQO])
theorem Zu0(b:Zd)(e:Int)(nt:Zab)(hnt:Zb6 nt)(q:Int)(rt:Bool)(ids:List Int)(h0:0<ids.length)(hi:ids.length<=1000000)(c:ZK)(hc:c.b.length<=140737488355328)(i n:Int)(h:i<n->c.short=true) :
  ZfP 0 [(10,.int .i64 i),(9,.int .i64 n),(7,.ref 0 0),(6,.int .i64 e),(4,.ref 2 0),(2,.ref 3 0),(0,.lst false (b.map Zc))] [.var (itC nt q rt (.sl 1 0 0 (ids.map (AVal.int .i64)).length) []),.row 0 1 (ids.map (AVal.int .i64)),.var [.lst false (c.b.map Zc),.bool c.short],.var itZ]=some (itR (Zc9 b e nt q rt ids c)):=by
 have hT:=fun{σ:Za} {sq:Nat} hs=>Znd hc (t:=2) (σ:=σ) hs sq
 have hok:ZdO ⟨nt,q,rt,ids,(ZV c).1⟩:=⟨hnt,hi,by have:=ZhZ c;show(ZV c).1.length<=_;omega⟩
 have hL:=fun{σ:Za} {sq own:Nat} hs=>ZFT σ sq own 1 ⟨nt,q,rt,ids,(ZV c).1⟩ hok hs
 have hx1:_->Zc9 b e nt q rt ids c=_:=fun h=>if_pos h
 have hx2:_->Zc9 b e nt q rt ids c=_:=fun h=>if_neg h
 unfold itC at hL
 unfold ZcF at hT
 clear hok
 generalize Zc9 b e nt q rt ids c=Z at *
 generalize Zb7 ⟨nt,q,rt,ids,(ZV c).1⟩=y at *
 generalize Zdm ⟨nt,q,rt,ids,(ZV c).1⟩=fi at *
 generalize ZV c=R at *
 obtain⟨sh,⟨b2,s2⟩⟩:=R
 obtain⟨cb,cs⟩:=c
 simp only at hT hL hx1 hx2 h⊢
 have hXp:0<(ids.map (AVal.int .i64)).length:=by simpa using h0
 generalize hX:ids.map (AVal.int .i64)=X at *
 unfold ZfP
 by_cases hin:i<n
 case' pos =>
  have hcs:=h hin
  subst hcs
 all_goals
  cases he:(e != 0)
  ·cases s2
   ·cases fi
    ·rw[hx1 (Xt (Xt (Xp rfl))),ZgD]
     unfold itC itZ
     rw[Zr]
     simp only[EQA,Zk,Xf,Xd,Xe,Xb,unA,Zh,Zw,unG,reduceCtorEq,↓reduceIte,Zm,ZeZ,Zfc,Zeo,Zd8,ZdD,Zb,hin,he,hT,hL,Z3,AVal.cells]
     try (simp[EQO])
    ·cases hy:(y==b)
     ·rw[hx1 (Xt (Xt (Xt hy))),ZgD]
      unfold itC itZ
      rw[Zr]
      simp only[EQA,Zk,Xf,Xd,Xe,Xb,Zbw,unA,Zh,Zw,unG,reduceCtorEq,Zq,↓reduceIte,Zm,ZeZ,Zfc,Zeo,Zd8,ZdD,Zb,hin,he,hy,hT,hL,Z3,AVal.cells]
      try (simp[EQO])
     ·rw[hx2 (by simp[he,hy]),Zvo]
      simp only[hX,ZbY hXp,Zbk hXp]
      unfold itC itZ
      rw[Zr]
      simp only[EQA,Xf,Xd,Xe,Xb,Zbw,unA,Zh,Zw,unG,reduceCtorEq,Zq,↓reduceIte,ZeZ,Zfc,Zeo,Zd8,ZdD,Zb,hin,he,hy,hT,hL,AVal.cells]
      try (simp[EQO])
   ·rw[hx1 (Xt (Xp rfl)),ZgD]
    unfold itC itZ
    rw[Zr]
    simp only[EQA,Zk,Xf,Xd,Xe,Xb,unA,Zh,Zw,unG,reduceCtorEq,↓reduceIte,Zm,ZeZ,Zfc,Zeo,Zd8,ZdD,Zb,hin,he,hT,hL,Z3,AVal.cells]
    try (simp[EQO])
  ·rw[hx1 (Xp he),ZgD]
   unfold itC itZ
   rw[Zr]
   simp only[EQA,Zk,Xf,Xd,Xe,Xb,unA,Zh,Zw,unG,reduceCtorEq,↓reduceIte,Zm,ZeZ,Zfc,Zeo,Zd8,ZdD,Zb,hin,he,hT,hL,Z3,AVal.cells]
   try (simp[EQO])
end
section
theorem ZyJ(b:Zd)(e:Int)(nt:Zab)(hnt:Zb6 nt)(q:Int)(rt:Bool)(n:Nat)(hn:n<=300):∀ (m i:Nat) (ids:List Int) (c:ZK),i+m=n->0<ids.length->ids.length<=i->c.b.length<=140737488355328 ->
  ZfP 0 [(10,.int .i64 i),(9,.int .i64 (n:Nat)),(7,.ref 0 0),(6,.int .i64 e),(4,.ref 2 0),(2,.ref 3 0),(0,.lst false (b.map Zc))] [.var (itC nt q rt (.sl 1 0 0 (ids.map (AVal.int .i64)).length) []),.row 0 1 (ids.map (AVal.int .i64)),.var [.lst false (c.b.map Zc),.bool c.short],.var itZ]=some (itR (Zc9 b e nt q rt (ids++(Zdw m c).1) (Zdw m c).2))
 |0,i,ids,c,h,h0,hi,hc=>by
  simp only[Zdw,XC]
  exact Zu0 b e nt hnt q rt ids h0 (by omega) c hc i n (by omega)
 |m+1,i,ids,c,h,h0,hi,hc=>by
  by_cases hsh:c.short=true
  ·rw[Zdw,if_pos hsh]
   simp only[XC]
   exact Zu0 b e nt hnt q rt ids h0 (by omega) c hc i n (fun _=>hsh)
  ·have hl:=(ZbN 4 c).2
   have ih:=ZyJ b e nt hnt q rt n hn m (i+1) (ids++[ZE (Zn 4 c).1]) (Zn 4 c).2 (by omega) (by simp) (by simp;omega) (by omega)
   have hT:=fun{σ:Za} {sq:Nat} hs=>ZeH hc (t:=2) (σ:=σ) hs sq 4 (by omega)
   have z4:((4:Nat):Int)=4:=rfl
   rw[z4]at hT
   have h1:(i:Int)<(n:Int):=by omega
   have hw:IntKind.i64.wrap ((i:Int)+1)=((i+1:Nat):Int):=by rw[ZQ (by omega) (by omega)];rfl
   rw[Zdw,if_neg hsh]
   have hsf:c.short=false:=by simpa using hsh
   rw[hsf]at hT ⊢
   simp only[Wa,WU]at ih
   unfold ZcF at hT
   generalize ZE (Zn 4 c).1=x at *
   generalize (Zn 4 c).2=c' at *
   simp only[XH,Xn,Xo,Xk,Xm,Xu,Xv]at ih
   have hXl:(ids.map (AVal.int .i64)).length=ids.length:=by simp
   have hk:kOk 1 [AVal.int .i64 x]=true:=rfl
   have k2:((ids.map (AVal.int .i64)).length+1)*8<=140737488355328:=by rw[hXl];omega
   generalize ids.map (AVal.int .i64)=X at *
   unfold itC itZ at ih ⊢
   unfold ZfP at ih ⊢
   rw[Zr]
   simp only[EQA,ZB,ZX,Xf,Xd,Xe,Xb,Xg,unA,Zh,unG,reduceCtorEq,Zq,↓reduceIte,gcT,gcA,gcIds,reach,rhoOf,heapOf,idxA,genB,newGen,renB,refsB,Zd8,ZdD,Zb,h1,hT,hw,hk,k2,AVal.cells,ZI,viewAs,Zv,Zs,Zj,Za3,Zbd,Zby,Zce,ZcZ,ZcQ,Zc8,Zc6,ZbC,XaG,W4]
   exact ih
theorem ZQj(b:Zd)(e:Int)(nt:Zab)(hnt:Zb6 nt)(q:Int)(rt:Bool)(n:Nat)(hn:n<=300)(c:ZK)(hc:c.b.length<=140737488355328) :
  ZfP 0 [(10,.int .i64 0),(9,.int .i64 (n:Nat)),(7,.ref 0 0),(6,.int .i64 e),(4,.ref 1 0),(2,.ref 2 0),(0,.lst false (b.map Zc))] [.var (itC nt q rt (.lst true []) []),.var [.lst false (c.b.map Zc),.bool c.short],.var itZ]=some (itR (Zc9 b e nt q rt (Zdw n c).1 (Zdw n c).2)):=by
 cases n with
 |zero=>exact Zui b e nt hnt q rt c hc 0 0 (by omega)
 |succ m =>
  by_cases hsh:c.short=true
  ·rw[Zdw,if_pos hsh]
   exact Zui b e nt hnt q rt c hc 0 _ (fun _=>hsh)
  ·have hl:=(ZbN 4 c).2
   have ih:=ZyJ b e nt hnt q rt (m+1) hn m 1 [ZE (Zn 4 c).1] (Zn 4 c).2 (by omega) (by simp) (by simp) (by omega)
   have hT:=fun{σ:Za} {sq:Nat} hs=>ZeH hc (t:=1) (σ:=σ) hs sq 4 (by omega)
   have z4:((4:Nat):Int)=4:=rfl
   have z1:((1:Nat):Int)=1:=rfl
   rw[z4]at hT
   have h1:(0:Int)<((m+1:Nat):Int):=by omega
   have hw:IntKind.i64.wrap (0+1)=1:=rfl
   rw[Zdw,if_neg hsh]
   have hsf:c.short=false:=by simpa using hsh
   rw[hsf]at hT ⊢
   unfold ZcF at hT
   simp only[WU,z1,Xn,Xo,Xm,Xu,Xv]at ih
   generalize ZE (Zn 4 c).1=x at *
   generalize (Zn 4 c).2=c' at *
   have hk:kOk 1 [AVal.int .i64 x]=true:=rfl
   have k2:1*8<=140737488355328:=by omega
   unfold itC itZ at ih ⊢
   unfold ZfP at ih ⊢
   generalize ((m+1:Nat):Int)=N at *
   rw[Zr]
   simp only[EQA,ZB,ZX,Xf,Xd,Xe,Xb,Xg,unA,Zh,unG,reduceCtorEq,Zq,↓reduceIte,gcT,gcA,gcIds,reach,rhoOf,heapOf,idxA,genB,newGen,renB,refsB,Zd8,ZdD,Zb,h1,hT,hw,hk,k2,AVal.cells,ZI,viewAs,Zv,Zs,Zj,Wv,Xe,Za3,Zbd,Zby,Zce,ZcZ,ZcQ,Zc8,Zc6,ZbC,XaG,W4]
   exact ih
theorem ZDZ(b:Zd):Zb6 (Zci b).1:=by
 have ok0:=Zlp ⟨b,false⟩ [] (by simp) (by simp)
 have ok1:=Zlp ⟨b,false⟩ (Z1 3 (Zap ⟨b,false⟩).r8.2.b).1 (Zqg 3 _) (ZlA 3 _)
 unfold Zci ZdI
 simp only
 split<;>split
 ·exact Zoj
 ·exact ok0
 ·exact Zoj
 ·exact ok1
def Za8(b:Zd):ZsI :=
 let d:=ZV ⟨b,false⟩
 let m:=Zn 1 d.2
 ⟨d,m,Zn 1 m.2⟩
def ZaY(b:Zd):ZaH×Int :=
 let x:=Za8 b
 let z:=Zdw (ZE x.k.1).toNat x.k.2
 Zc9 b (Zci x.d.1).2 (Zci x.d.1).1 (Zcv (ZE x.m.1)) (ZdR (ZE x.m.1) != 0) z.1 z.2
theorem ZNq(b:Zd)(hb:b.length<=140737488355328):E 16 [Zf b] []=some (itR (ZaY b)):=by
 have l1:(Za8 b).d.2.b.length<=b.length:=(Zmy ⟨b,false⟩).1
 have l1':(Za8 b).d.1.length<=65535:=ZhZ ⟨b,false⟩
 have l2:(Za8 b).m.2.b.length<=(Za8 b).d.2.b.length:=(ZbN 1 _).2
 have l3:(Za8 b).k.2.b.length<=(Za8 b).m.2.b.length:=(ZbN 1 _).2
 have l4:0<=ZE (Za8 b).k.1/\ZE (Za8 b).k.1<=255:=ZhK (ZfY 1 (Za8 b).m.2)
 have h1:=fun{σ:Za} {t sq:Nat} hs=>Zqr (c:=⟨b,false⟩) hb (t:=t) (σ:=σ) hs sq
 have h2:=fun σ sq own f=>ZyQ σ sq own f (Za8 b).d.1 (by omega)
 have h3:=fun{σ:Za} {t sq:Nat} hs=>ZeH (c:=(Za8 b).d.2) (by omega) (t:=t) (σ:=σ) hs sq 1 (by omega)
 have h4:=fun{σ:Za} {t sq:Nat} hs=>ZeH (c:=(Za8 b).m.2) (by omega) (t:=t) (σ:=σ) hs sq 1 (by omega)
 have z1:((1:Nat):Int)=1:=rfl
 have hok:=ZDZ (Za8 b).d.1
 have key:=ZQj b (Zci (Za8 b).d.1).2 (Zci (Za8 b).d.1).1 hok (Zcv (ZE (Za8 b).m.1)) (ZdR (ZE (Za8 b).m.1) != 0) (ZE (Za8 b).k.1).toNat (by omega) (Za8 b).k.2 (by omega)
 have e4:(((ZE (Za8 b).k.1).toNat:Nat):Int)=ZE (Za8 b).k.1:=by omega
 have e1:ZV ⟨b,false⟩=(Za8 b).d:=rfl
 have e2:Zn 1 (Za8 b).d.2=(Za8 b).m:=rfl
 have e3:Zn 1 (Za8 b).m.2=(Za8 b).k:=rfl
 rw[e1]at h1
 rw[e2,z1]at h3
 rw[e3,z1]at h4
 rw[e4]at key
 unfold ZaY
 simp only at h1 ⊢
 unfold ZcD at h2
 unfold ZcF at h1 h3 h4
 clear hok l1 l1' l2 l3 l4 e4 e1 e2 e3
 generalize Za8 b=x at *
 obtain⟨⟨d1,⟨d2,d3⟩⟩,⟨m1,⟨m2,m3⟩⟩,⟨k1,⟨k2,k3⟩⟩⟩:=x
 simp only at h1 h2 h3 h4 key ⊢
 generalize Zci d1=rn at *
 obtain⟨nt,e⟩:=rn
 simp only at h2 key ⊢
 unfold itC itZ at key
 unfold ZfP at key
 unfold Zcv ZdR at *
 rw[Zg (by rfl) ZLG]
 simp only[EQA,ZaT,ZB,ZX,Xf,Xd,Xe,Xb,Xg,reduceCtorEq,↓reduceIte,gcT,gcA,gcIds,reach,rhoOf,heapOf,idxA,genB,newGen,renB,refsB,ZGp,Zoc,Zb,Zf,h1,h2,h3,h4,Z3,AVal.cells]
 exact key
theorem ZJR(b:Zd):(ZaY b).2≠0->ZaY b=(ZdH,(ZaY b).2):=by
 unfold ZaY Zc9
 simp only
 intro h
 split at h
 ·rename_i hc;rw[if_pos hc]
 ·simp at h
theorem ZPK(σ:Za)(sq own:Nat)(f:Bool)(b:Zd)(hb:b.length<=140737488355328):Zl E BY σ sq 16 own true [.lst f (b.map Zc)]=some (.tup [.agg [.str (ZaY b).1.note.topic,.lst false ((ZaY b).1.note.payload.map Zc),.int .i64 (ZaY b).1.note.qos,.bool (ZaY b).1.note.retain,.str (ZaY b).1.note.sender,.int .i64 (ZaY b).1.note.expires,.lst false ((ZaY b).1.note.props.map Zi),.int .i64 (ZaY b).1.note.origin,.int .i64 (ZaY b).1.note.number,.int .i64 (ZaY b).1.note.hops,.int .i64 (ZaY b).1.qos,.bool (ZaY b).1.retain,.lst false ((ZaY b).1.ids.map (.int .i64 ·)),.str (ZaY b).1.share],.int .i64 (ZaY b).2],σ,{}):=by
 rw[ZbK (by kernel_rfl) rfl]
 have hm:[AVal.lst f (b.map Zc)].map ZM=[Zf b]:=rfl
 rw[hm,ZNq b hb]
 have : ZO true 0 (some (itR (ZaY b)))=_:=(if_pos rfl).trans (ZHy _ (ZJR b))
 rw[this]
 rw[ZdP _ _ _ _ rfl]
 rfl
end
section
theorem ZGE(b:Zd)(k:Nat)(x:UInt8):(ZcJ b k x).length<=(Zgt b k x).length/\(Zgt b k x).take (ZcJ b k x).length=(ZcJ b k x).map Zc:=by
 unfold ZcJ Zgt
 split
 ·exact⟨by simp,Xy (by simp)⟩
 ·split
  ·constructor
   ·simp
   ·rw[WR (by simp)]
    exact Xy (by simp)
  ·exact⟨by simp,Xy (by simp)⟩
theorem Zxd(b:Zd)(hb:b.length<=140737488355326)(at0:Int)(x:UInt8):∃ k:Nat,∀ (σ:Za) (sq own:Nat),Zl E BY σ sq 11 own true [.lst false (b.map Zc),.int .i64 at0,.int .u8 (x.toNat:Int)]=some (.lst false ((ZcJ b k x).map Zc),σ,{}):=by
 obtain⟨k,h⟩:=ZL3 b hb at0 x
 refine⟨k,fun σ sq own=>?_⟩
 obtain⟨h1,h2⟩:=ZGE b k x
 rw[ZbK (by kernel_rfl) rfl]
 rw[show E 11 ([AVal.lst false (b.map Zc),.int .i64 at0,.int .u8 (x.toNat:Int)].map ZM) []=_ from h]
 have : ZO true 0 (some (.sl 0 0 0 (ZcJ b k x).length,[Zx.row 0 1 (Zgt b k x)]))=some (.lst false ((ZcJ b k x).map Zc),[]):=by
  rw[<-h2]
  generalize (ZcJ b k x).length=n at *
  generalize Zgt b k x=R at *
  unfold ZO
  rw[if_pos rfl]
  simp[EQO,h1,ZaI,viewR,Zv,Zs,Zq,Zj]
 rw[this,ZdP _ _ _ _ rfl]
theorem ZF1(a:Zab)(hl:a.props.length<=9223372036854775807):E 18 [ZcL a,ZcL a] []=some (.bool true,[]):=by
 have hP:=fun σ sq own view=>ZvO σ sq own view a.props a.props hl
 have ep:(a.props==a.props)=true:=by simp
 rw[ep]at hP
 have es:∀ s:Zd,(s==s)=true:=fun s=>by simp
 have ei:∀ i:Int,(i==i)=true:=fun i=>by simp
 rw[Zg (by rfl) ZEB]
 simp only[EQA,ZR,Xf,Xd,Xb,Xg,Zbw,Zh,unG,reduceCtorEq,Zq,↓reduceIte,ZMv,Zr0,ZD9,Zb,Zf,ZD,ZcL,Zev,hP]
theorem Zuh(σ:Za)(sq own:Nat)(a:Zab)(hl:a.props.length<=9223372036854775807):Zl E BY σ sq 18 own true [.agg [.str a.topic,.lst false (a.payload.map Zc),.int .i64 a.qos,.bool a.retain,.str a.sender,.int .i64 a.expires,.lst false (a.props.map Zi),.int .i64 a.origin,.int .i64 a.number,.int .i64 a.hops],.agg [.str a.topic,.lst false (a.payload.map Zc),.int .i64 a.qos,.bool a.retain,.str a.sender,.int .i64 a.expires,.lst false (a.props.map Zi),.int .i64 a.origin,.int .i64 a.number,.int .i64 a.hops]]=some (.bool true,σ,{}) :=
 Zal (ZF1 a hl) (by kernel_rfl) rfl rfl rfl (fun _=>rfl) _ _ _
theorem ZwA(nt:Zab)(q:Int)(rt:Bool)(ss:Zd)(l:List Int)(hl:l.length<=1000000):∀ (r:List Int) (i:Nat),l.drop i=r ->
  Zmm 0 [(5,.int .i64 i),(3,.ref 0 0),(2,.ref 1 0)] [.var (itC nt q rt (.lst false (l.map (AVal.int .i64))) ss),.var (itC nt q rt (.lst false (l.map (AVal.int .i64))) ss)]=some (.bool true,[])
 | [],i,h=>by
  have h1:=ZcG h
  unfold itC Zmm
  rw[Zr]
  simp only[EQA,Xf,Xd,Xb,↓reduceIte,ZJW,ZC7,ZpW,Zud,Zlm,Zb,h1]
  try (simp[EQO])
 |x::r,i,h=>by
  have ih:=ZwA nt q rt ss l hl r (i+1) (ZP h).2.1
  have h1:(i:Int)<l.length:=by have:=(ZP h).2.2;omega
  have e1:=iad (ZP h).1 (AVal.int .i64) (k:=1) rfl
  have e3:=Zcp h1 (by omega)
  have ei:(x != x)=false:=by simp
  unfold itC at ih ⊢
  unfold Zmm at ih ⊢
  rw[Zr]
  simp only[EQA,ZR,ZB,ZX,Xf,Xd,Xe,Xb,Xg,reduceCtorEq,↓reduceIte,gcT,gcA,gcIds,reach,rhoOf,heapOf,idxA,genB,newGen,renB,refsB,Zud,Zlm,Zb,h1,e1,e3,ei]
  exact ih
theorem ZKk(it:ZaH)(hl:it.note.props.length<=9223372036854775807)(hi:it.ids.length<=1000000):E 19 [Zbp it,Zbp it] []=some (.bool true,[]):=by
 have hP:=fun σ sq own=>Zuh σ sq own it.note hl
 have key:=ZwA it.note it.qos it.retain it.share it.ids hi it.ids 0 rfl
 have es:∀ s:Zd,(s != s)=false:=fun s=>by simp
 have ei:∀ i:Int,(i != i)=false:=fun i=>by simp
 have eb:∀ b:Bool,(b != b)=false:=fun b=>by simp
 have z0:((0:Nat):Int)=0:=rfl
 rw[z0]at key
 unfold itC at key
 unfold Zmm at key
 unfold Zbp ZgC
 rw[Zg (by rfl) ZBk]
 simp only[EQA,ZR,ZB,ZX,Xf,Xd,Xe,Xb,Xg,Zbw,unA,Zh,unG,reduceCtorEq,↓reduceIte,gcT,gcA,gcIds,reach,rhoOf,heapOf,idxA,genB,newGen,renB,refsB,ZKo,Ztx,Zb,Zbm,Zf,ZD,hP,ei,eb]
 exact key
theorem ZFs(σ:Za)(sq own:Nat)(it:ZaH)(hl:it.note.props.length<=9223372036854775807)(hi:it.ids.length<=1000000):Zl E BY σ sq 19 own true [.agg [.str it.note.topic,.lst false (it.note.payload.map Zc),.int .i64 it.note.qos,.bool it.note.retain,.str it.note.sender,.int .i64 it.note.expires,.lst false (it.note.props.map Zi),.int .i64 it.note.origin,.int .i64 it.note.number,.int .i64 it.note.hops,.int .i64 it.qos,.bool it.retain,.lst false (it.ids.map (.int .i64 ·)),.str it.share],.agg [.str it.note.topic,.lst false (it.note.payload.map Zc),.int .i64 it.note.qos,.bool it.note.retain,.str it.note.sender,.int .i64 it.note.expires,.lst false (it.note.props.map Zi),.int .i64 it.note.origin,.int .i64 it.note.number,.int .i64 it.note.hops,.int .i64 it.qos,.bool it.retain,.lst false (it.ids.map (.int .i64 ·)),.str it.share]]=some (.bool true,σ,{}) :=
 Zal (ZKk it hl hi) (by kernel_rfl) rfl rfl rfl (fun _=>rfl) _ _ _
end
section
def Zjh(xs:List AVal):AVal:=match xs with
 | []=>.lst true []
 |_::_=>.sl 1 0 0 xs.length
theorem ZO6:Zjh []=.lst true []:=rfl
theorem ZzX{xs:List AVal}(h:0<xs.length):Zjh xs=.sl 1 0 0 xs.length:=by
 cases xs with
 |nil=>simp at h
 |cons x xs=>rfl
def itS(X:List AVal)(x:ZaH×Int):AVal×Za:=if x.2=0 then(.tup [.agg (itC x.1.note x.1.qos x.1.retain (Zjh (x.1.ids.map (AVal.int .i64))) x.1.share),.int .i64 0],.row 0 1 X::ZaS 1 (x.1.ids.map (AVal.int .i64)))else(.tup [.agg itZ,.int .i64 x.2],[.row 0 1 X])
theorem Zib(X:List AVal):itS X (ZdH,190)=(.tup [.agg itZ,.int .i64 190],[.row 0 1 X]):=rfl
theorem Zy7(X:List AVal)(it:ZaH):itS X (it,0)=(.tup [.agg (itC it.note it.qos it.retain (Zjh (it.ids.map (AVal.int .i64))) it.share),.int .i64 0],.row 0 1 X::ZaS 1 (it.ids.map (AVal.int .i64))):=rfl
theorem ZKs{X:List AVal}{lo0 lo:Nat}(b:Zd)(hB:Lent X lo0 b)(hb:b.length<=140737488355328)(nt:Zab)(hnt:Zb6 nt)(q:Int)(rt:Bool)(c:ZK)(hL:Lent X lo c.b)(hc:c.b.length<=140737488355328)(f:Bool)(i n:Int)(h:¬i<n) :
  ZfD 1 [(42,.int .i64 i),(41,.int .i64 n),(8,.bool f),(7,.ref 1 0),(4,.ref 2 0),(2,.ref 3 0),(0,.sl 0 0 lo0 b.length)] [.row 0 1 X,.var (itC nt q rt (.lst true []) []),.var [.sl 0 0 lo c.b.length,.bool c.short],.var itZ]=some (itS X (Zc0 b nt q rt [] c f)):=by
 have hT:=fun{σ:Za} {sq:Nat} hs (hr:σ[0]?=some (.row 0 1 X))=>Znf hL hc (t:=2) hs hr (by omega) sq
 have hok:ZdO ⟨nt,q,rt,[],(Zag c).1⟩:=⟨hnt,by simp,by have:=Zis c.b;show(ZG c.b).1.length<=_;omega⟩
 have hL:=fun σ sq own=>ZG1 σ sq own ⟨nt,q,rt,[],(Zag c).1⟩ hok
 unfold itC at hL
 have hE:=fun{σ:Za} {sq own:Nat} (hr:σ[0]?=some (.row 0 1 X))=>ZoQ (ZaW ⟨nt,q,rt,[],(Zag c).1⟩) hB hr sq own
 unfold ZT at hT
 generalize ZbZ lo c=lo2 at *
 have hx1:_->Zc0 b nt q rt [] c f=_:=fun h=>if_pos h
 have hx2:_->Zc0 b nt q rt [] c f=_:=fun h=>if_neg h
 simp only[Xo]at hL
 clear hok
 generalize Zc0 b nt q rt [] c f=Z at *
 generalize ZaW ⟨nt,q,rt,[],(Zag c).1⟩=y at *
 generalize Zag c=R at *
 obtain⟨sh,⟨b2,s2⟩⟩:=R
 simp only at hT hL hE hx1 hx2 ⊢
 unfold ZfD
 cases s2
 ·cases f
  ·rw[hx1 (by simp),Zib]
   unfold itC itZ
   rw[Zr]
   simp only[EQA,Xf,Xd,Xe,Xb,unA,Zh,Zw,unG,reduceCtorEq,↓reduceIte,Zf1,Zgw,Ze5,Zfg,Zef,Zb,h,hT,Z3,AVal.cells]
   try (simp[EQO])
  ·cases he:(y==b)<;>rw[he]at hE
   ·rw[hx1 (Xt (Xt he)),Zib]
    unfold itC itZ
    rw[Zr]
    simp only[EQA,Xf,Xd,Xe,Xb,unA,Zh,unG,reduceCtorEq,↓reduceIte,Zf1,Zgw,Ze5,Zfg,Zef,Zb,h,hT,hL,hE,Z3,AVal.cells]
    try (simp[EQO])
   ·rw[hx2 (by simp[he]),Zy7]
    simp only[Xo,ZO6,ZaF]
    unfold itC itZ
    rw[Zr]
    simp only[EQA,Xf,Xd,Xe,Xb,unA,Zh,unG,reduceCtorEq,↓reduceIte,Zf1,Zgw,Ze5,Zfg,Zef,Zb,h,hT,hL,hE,AVal.cells]
    try (simp[EQO])
 ·rw[hx1 (by simp),Zib]
  unfold itC itZ
  rw[Zr]
  simp only[EQA,Xf,Xd,Xe,Xb,Zh,Zw,reduceCtorEq,↓reduceIte,Zf1,Zgw,Ze5,Zfg,Zef,Zb,h,hT,Z3,AVal.cells]
  try (simp[EQO])
theorem ZEM{X:List AVal}{lo0 lo:Nat}(b:Zd)(hB:Lent X lo0 b)(hb:b.length<=140737488355328)(nt:Zab)(hnt:Zb6 nt)(q:Int)(rt:Bool)(ids:List Int)(h0:0<ids.length)(hi:ids.length<=1000000)(c:ZK)(hL:Lent X lo c.b)(hc:c.b.length<=140737488355328)(f:Bool)(i n:Int)(h:¬i<n) :
  ZfD 1 [(42,.int .i64 i),(41,.int .i64 n),(8,.bool f),(7,.ref 1 0),(4,.ref 3 0),(2,.ref 4 0),(0,.sl 0 0 lo0 b.length)] [.row 0 1 X,.var (itC nt q rt (.sl 2 0 0 (ids.map (AVal.int .i64)).length) []),.row 0 1 (ids.map (AVal.int .i64)),.var [.sl 0 0 lo c.b.length,.bool c.short],.var itZ]=some (itS X (Zc0 b nt q rt ids c f)):=by
 have hT:=fun{σ:Za} {sq:Nat} hs (hr:σ[0]?=some (.row 0 1 X))=>Znf hL hc (t:=3) hs hr (by omega) sq
 have hok:ZdO ⟨nt,q,rt,ids,(Zag c).1⟩:=⟨hnt,hi,by have:=Zis c.b;show(ZG c.b).1.length<=_;omega⟩
 have hL:=fun σ sq own hs=>ZGZ σ sq own 2 ⟨nt,q,rt,ids,(Zag c).1⟩ hok hs
 have hE:=fun{σ:Za} {sq own:Nat} (hr:σ[0]?=some (.row 0 1 X))=>ZoQ (ZaW ⟨nt,q,rt,ids,(Zag c).1⟩) hB hr sq own
 unfold ZT at hT
 generalize ZbZ lo c=lo2 at *
 have hx1:_->Zc0 b nt q rt ids c f=_:=fun h=>if_pos h
 have hx2:_->Zc0 b nt q rt ids c f=_:=fun h=>if_neg h
 unfold itC at hL
 clear hok
 generalize Zc0 b nt q rt ids c f=Z at *
 generalize ZaW ⟨nt,q,rt,ids,(Zag c).1⟩=y at *
 generalize Zag c=R at *
 obtain⟨sh,⟨b2,s2⟩⟩:=R
 simp only at hT hL hE hx1 hx2 ⊢
 have hXp:0<(ids.map (AVal.int .i64)).length:=by simpa using h0
 generalize hX:ids.map (AVal.int .i64)=Y at *
 unfold ZfD
 cases s2
 ·cases f
  ·rw[hx1 (by simp),Zib]
   unfold itC itZ
   rw[Zr]
   simp only[EQA,Xf,Xd,Xe,Xb,unA,Zh,Zw,unG,reduceCtorEq,↓reduceIte,Zf1,Zgw,Ze5,Zfg,Zef,Zb,h,hT,Z3,AVal.cells]
   try (simp[EQO])
  ·cases he:(y==b)<;>rw[he]at hE
   ·rw[hx1 (Xt (Xt he)),Zib]
    unfold itC itZ
    rw[Zr]
    simp only[EQA,Xf,Xd,Xe,Xb,unA,Zh,unG,reduceCtorEq,↓reduceIte,Zf1,Zgw,Ze5,Zfg,Zef,Zb,h,hT,hL,hE,Z3,AVal.cells]
    try (simp[EQO])
   ·rw[hx2 (by simp[he]),Zy7]
    simp only[hX,ZzX hXp,Zbk hXp]
    unfold itC itZ
    rw[Zr]
    simp only[EQA,Xf,Xd,Xe,Xb,unA,Zh,unG,reduceCtorEq,↓reduceIte,Zf1,Zgw,Ze5,Zfg,Zef,Zb,h,hT,hL,hE,AVal.cells]
    try (simp[EQO])
 ·rw[hx1 (by simp),Zib]
  unfold itC itZ
  rw[Zr]
  simp only[EQA,Xf,Xd,Xe,Xb,Zh,Zw,reduceCtorEq,↓reduceIte,Zf1,Zgw,Ze5,Zfg,Zef,Zb,h,hT,Z3,AVal.cells]
  try (simp[EQO])
theorem ZyK{X:List AVal}{lo0:Nat}(b:Zd)(hB:Lent X lo0 b)(hb:b.length<=140737488355328)(nt:Zab)(hnt:Zb6 nt)(q:Int)(rt:Bool)(n:Nat)(hn:n<=300):∀ (m i:Nat) (ids:List Int) (c:ZK) (f:Bool) (lo:Nat),Lent X lo c.b->i+m=n->0<ids.length->ids.length<=i->c.b.length<=140737488355328 ->
  ZfD 1 [(42,.int .i64 i),(41,.int .i64 (n:Nat)),(8,.bool f),(7,.ref 1 0),(4,.ref 3 0),(2,.ref 4 0),(0,.sl 0 0 lo0 b.length)] [.row 0 1 X,.var (itC nt q rt (.sl 2 0 0 (ids.map (AVal.int .i64)).length) []),.row 0 1 (ids.map (AVal.int .i64)),.var [.sl 0 0 lo c.b.length,.bool c.short],.var itZ]=some (itS X (Zc0 b nt q rt (ids++(ZbU m c f).1) (ZbU m c f).2.1 (ZbU m c f).2.2))
 |0,i,ids,c,f,lo,hL,h,h0,hi,hc=>by
  simp only[ZbU,XC]
  exact ZEM b hB hb nt hnt q rt ids h0 (by omega) c hL hc f i n (by omega)
 |m+1,i,ids,c,f,lo,hL,h,h0,hi,hc=>by
  have hl:=(ZbN 4 c).2
  have ih:=fun f'=>ZyK b hB hb nt hnt q rt n hn m (i+1) (ids++[ZE (Zn 4 c).1]) (Zn 4 c).2 f' (Zad lo 4 c) hL.takeL (by omega) (by simp) (by simp;omega) (by omega)
  have hT:=fun{σ:Za} {sq:Nat} hs (hr:σ[0]?=some (.row 0 1 X))=>Zgy hL hc (t:=3) hs hr (by omega) sq 4 (by omega)
  have z4:((4:Nat):Int)=4:=rfl
  rw[z4]at hT
  have h1:(i:Int)<(n:Int):=by omega
  have hw:IntKind.i64.wrap ((i:Int)+1)=((i+1:Nat):Int):=by rw[ZQ (by omega) (by omega)];rfl
  simp only[ZbU]
  unfold ZT at hT
  generalize Zad lo 4 c=lo2 at *
  simp only[Wa,WU]at ih
  generalize ZE (Zn 4 c).1=x at *
  generalize (Zn 4 c).2=c' at *
  simp only[XH,Xn,Xo,Xk,Xm,Xu,Xv]at ih
  have hXl:(ids.map (AVal.int .i64)).length=ids.length:=by simp
  have hk:kOk 1 [AVal.int .i64 x]=true:=rfl
  have k2:((ids.map (AVal.int .i64)).length+1)*8<=140737488355328:=by rw[hXl];omega
  generalize ids.map (AVal.int .i64)=Y at *
  unfold itC itZ at ih ⊢
  unfold ZfD at ih ⊢
  have ih:=ih (f&&decide (x>=1)&&decide (x<=268435455))
  simp only[ge_iff_le]at ih ⊢
  rw[Zr]
  simp only[EQA,Zcq,ZB,Zfw,Zgc,Xf,Xd,Xe,Xb,Xg,Zh,Zw,unG,reduceCtorEq,Zq,ite_self,↓reduceIte,gcT,gcA,gcIds,reach,rhoOf,heapOf,idxA,genB,newGen,renB,refsB,Ww,Zfg,Zef,Zb,h1,hT,ge_iff_le,hw,hk,k2,AVal.cells,ZI,viewAs,Zv,Zs,Zj]
  exact ih
theorem ZR1{X:List AVal}{lo0 lo:Nat}(b:Zd)(hB:Lent X lo0 b)(hb:b.length<=140737488355328)(nt:Zab)(hnt:Zb6 nt)(q:Int)(rt:Bool)(n:Nat)(hn:n<=300)(c:ZK)(hL:Lent X lo c.b)(f:Bool)(hc:c.b.length<=140737488355328) :
  ZfD 1 [(42,.int .i64 0),(41,.int .i64 (n:Nat)),(8,.bool f),(7,.ref 1 0),(4,.ref 2 0),(2,.ref 3 0),(0,.sl 0 0 lo0 b.length)] [.row 0 1 X,.var (itC nt q rt (.lst true []) []),.var [.sl 0 0 lo c.b.length,.bool c.short],.var itZ]=some (itS X (Zc0 b nt q rt (ZbU n c f).1 (ZbU n c f).2.1 (ZbU n c f).2.2)):=by
 cases n with
 |zero=>exact ZKs b hB hb nt hnt q rt c hL hc f 0 0 (by omega)
 |succ m =>
  have hl:=(ZbN 4 c).2
  have ih:=fun f'=>ZyK b hB hb nt hnt q rt (m+1) hn m 1 [ZE (Zn 4 c).1] (Zn 4 c).2 f' (Zad lo 4 c) hL.takeL (by omega) (by simp) (by simp) (by omega)
  have hT:=fun{σ:Za} {sq:Nat} hs (hr:σ[0]?=some (.row 0 1 X))=>Zgy hL hc (t:=2) hs hr (by omega) sq 4 (by omega)
  have z4:((4:Nat):Int)=4:=rfl
  have z1:((1:Nat):Int)=1:=rfl
  rw[z4]at hT
  have h1:(0:Int)<((m+1:Nat):Int):=by omega
  have hw:IntKind.i64.wrap (0+1)=1:=rfl
  simp only[ZbU]
  unfold ZT at hT
  generalize Zad lo 4 c=lo2 at *
  simp only[WU,z1,Xn,Xo,Xm,Xu,Xv]at ih
  generalize ZE (Zn 4 c).1=x at *
  generalize (Zn 4 c).2=c' at *
  have hk:kOk 1 [AVal.int .i64 x]=true:=rfl
  have k2:1*8<=140737488355328:=by omega
  unfold itC itZ at ih ⊢
  unfold ZfD at ih ⊢
  generalize ((m+1:Nat):Int)=N at *
  have ih:=ih (f&&decide (x>=1)&&decide (x<=268435455))
  simp only[ge_iff_le]at ih ⊢
  rw[Zr]
  simp only[EQA,Zcq,ZB,Zfw,Zgc,Xf,Xd,Xe,Xb,Xg,Zh,Zw,unG,reduceCtorEq,Zq,ite_self,↓reduceIte,gcT,gcA,gcIds,reach,rhoOf,heapOf,idxA,genB,newGen,renB,refsB,Ww,Zfg,Zef,Zb,h1,hT,ge_iff_le,hw,hk,k2,AVal.cells,ZI,viewAs,Zv,Zs,Zj,Wv,Xe]
  exact ih
theorem ZJq{b:Zd}{X:List AVal}{lo:Nat}(hB:Lent X lo b)(hb:b.length<=140737488355328):E 15 [.sl 0 0 lo b.length] [.row 0 1 X]=some (itS X (ZaO b)):=by
 have l1:(Zaj b).d.2.b.length<=b.length:=Zuo ⟨b,false⟩
 have l1':(Zaj b).d.1.length<=65535:=ZgP b
 have l2:(Zaj b).m.2.b.length<=(Zaj b).d.2.b.length:=(ZbN 1 _).2
 have l3:(Zaj b).k.2.b.length<=(Zaj b).m.2.b.length:=(ZbN 1 _).2
 have l4:0<=ZE (Zaj b).k.1/\ZE (Zaj b).k.1<=255:=ZhK (ZfY 1 (Zaj b).m.2)
 have L1:Lent X (ZbS lo ⟨b,false⟩) (Zaj b).d.2.b:=Lent.dataL (c:=⟨b,false⟩) hB
 have L2:Lent X (Zad (ZbS lo ⟨b,false⟩) 1 (Zaj b).d.2) (Zaj b).m.2.b:=L1.takeL
 have L3:Lent X (Zad (Zad (ZbS lo ⟨b,false⟩) 1 (Zaj b).d.2) 1 (Zaj b).m.2) (Zaj b).k.2.b:=L2.takeL
 have h3:=fun{σ:Za} {t sq:Nat} hs (hr:σ[0]?=some (.row 0 1 X)) (ht:t≠0)=>Zyw L1 (by omega) (t:=t) hs hr ht sq
 have h4:=fun{σ:Za} {t sq:Nat} hs (hr:σ[0]?=some (.row 0 1 X)) (ht:t≠0)=>Zgy L2 (by omega) (t:=t) hs hr ht sq 1 (by omega)
 have z1:((1:Nat):Int)=1:=rfl
 have hok:=ZnZ (Zaj b).d.1
 have key:=fun f=>ZR1 b hB hb (Zbo (Zaj b).d.1).1 hok (Zcv (ZE (Zaj b).m.1)) (ZdR (ZE (Zaj b).m.1) != 0) (ZE (Zaj b).k.1).toNat (by omega) (Zaj b).k.2 L3 f (by omega)
 have e4:(((ZE (Zaj b).k.1).toNat:Nat):Int)=ZE (Zaj b).k.1:=by omega
 have e1:Zat ⟨b,false⟩=(Zaj b).d:=rfl
 have e2:Zn 1 (Zaj b).d.2=(Zaj b).m:=rfl
 have e3:Zn 1 (Zaj b).m.2=(Zaj b).k:=rfl
 by_cases hd:(Zt b).2.2=0
 case' pos =>
  have h1:=fun{σ:Za} {t sq:Nat} hs (hr:σ[0]?=some (.row 0 1 X)) (ht:t≠0) hff=>ZLP (c:=⟨b,false⟩) hB hb (t:=t) hs hr ht sq hd hff
  have hD:Lent ((Zaj b).d.1.map Zc) 0 (Zaj b).d.1:=⟨by rw[W2];exact Xy (by simp),by simp⟩
  have h2:=fun{σ:Za} {t sq:Nat} (hs:σ[t]?=some (.row 0 1 ((Zaj b).d.1.map Zc)))=>ZyF hD (by omega) hs sq
 case' neg =>
  have h1:=fun{σ:Za} {t sq:Nat} hs (hr:σ[0]?=some (.row 0 1 X)) (ht:t≠0) hff=>ZAD (c:=⟨b,false⟩) hB hb (t:=t) hs hr ht sq hd hff
  have hD:(Zaj b).d.1=[]:=ZuM hd
  have h2:=ZNW
  rw[<-hD]at h2
 all_goals
  rw[e1]at h1
  rw[e2]at h3
  rw[e3,z1]at h4
  rw[e4]at key
  unfold ZT at h1 h3 h4
  unfold ZcD at h2
  unfold ZaO Zh1
  simp only at h1 ⊢
  clear hok l1 l1' l2 l3 l4 e4 e1 e2 e3 L1 L2 L3 hD
  generalize ZbS lo ⟨b,false⟩=o1 at *
  generalize Zaj b=x at *
  obtain⟨⟨d1,⟨d2,d3⟩⟩,⟨m1,⟨m2,m3⟩⟩,⟨k1,⟨k2,k3⟩⟩⟩:=x
  simp only at h1 h2 h3 h4 key ⊢
  generalize Zad o1 1 ⟨d2,d3⟩=o2 at *
  generalize Zad o2 1 ⟨m2,m3⟩=o3 at *
  generalize Zbo d1=rn at *
  obtain⟨nt,e⟩:=rn
  simp only at h2 key ⊢
  unfold itC itZ at key
  unfold ZfD at key
  generalize Zcv (ZE m1)=q at *
  try generalize d1.map Zc=Y at *
  try generalize d1.length=dn at *
  cases he:(e==0)
  ·have key:=key false
   simp only[Bool.and_false]
   rw[Zg (by rfl) ZvF]
   by_cases c1:q<3
   ·simp only[EQA,ZaT,ZB,Xf,Xd,Xe,Xb,Xg,Zh,unG,reduceCtorEq,↓reduceIte,gcT,gcA,gcIds,reach,rhoOf,heapOf,idxA,genB,newGen,renB,refsB,Ww,ZmN,Zht,Zb,h1,h2,h3,h4,he,c1,Z3,AVal.cells]
    exact key
   ·simp only[EQA,ZaT,ZB,Xf,Xd,Xe,Xb,Xg,Zh,Zw,reduceCtorEq,↓reduceIte,gcT,gcA,gcIds,reach,rhoOf,heapOf,idxA,genB,newGen,renB,refsB,Ww,ZmN,Zht,Zb,h1,h2,h3,h4,c1,Z3,AVal.cells]
    exact key
  ·rw[Zg (by rfl) ZvF]
   by_cases c1:q<3
   ·have key:=key true
    simp only[c1,decide_true,Wp]
    simp only[EQA,ZaT,ZB,Xf,Xd,Xe,Xb,Xg,Zh,unG,reduceCtorEq,↓reduceIte,gcT,gcA,gcIds,reach,rhoOf,heapOf,idxA,genB,newGen,renB,refsB,Ww,ZmN,Zht,Zb,h1,h2,h3,h4,he,c1,Z3,AVal.cells]
    exact key
   ·have key:=key false
    simp only[c1,decide_false,X8]
    simp only[EQA,ZaT,ZB,Xf,Xd,Xe,Xb,Xg,Zh,Zw,reduceCtorEq,↓reduceIte,gcT,gcA,gcIds,reach,rhoOf,heapOf,idxA,genB,newGen,renB,refsB,Ww,ZmN,Zht,Zb,h1,h2,h3,h4,c1,Z3,AVal.cells]
    exact key
theorem ZSA(X:List AVal)(x:ZaH×Int)(hx:x.2≠0->x=(ZdH,x.2)):ZO true 1 (some (itS X x))=some (.tup [.agg (itC x.1.note x.1.qos x.1.retain (.lst false (x.1.ids.map (AVal.int .i64))) x.1.share),.int .i64 x.2],[.row 0 1 X]):=by
 unfold ZO
 rw[if_pos rfl]
 unfold itS
 by_cases h:x.2=0
 ·rw[if_pos h,h]
  cases hids:x.1.ids with
  |nil =>
   simp[EQO,Zjh,ZaS,itC,ZaI,viewR,viewAs,Zv,Zao,Zs,Zj]
  |cons a l =>
   have hp:0<(AVal.int .i64 a::l.map (AVal.int .i64)).length:=by simp
   simp only[Xn]
   rw[ZzX hp,Zbk hp]
   generalize AVal.int .i64 a::l.map (AVal.int .i64)=Y
   simp[EQO,itC,ZaI,viewR,viewAs,Zv,Zao,Zs,Zq,Zj]
 ·rw[if_neg h,hx h]
  simp[EQO,itZ,itC,ZdH,Zco,ZaI,viewR,viewAs,Zv,Zao,Zs,Zj]
theorem ZKV{b:Zd}{X:List AVal}{lo:Nat}(hB:Lent X lo b)(hb:b.length<=140737488355328){σ:Za}{t:Nat}(hs:σ[t]?=some (.row 0 1 X))(sq:Nat):Zl E BY σ sq 15 0 true [.sl t 0 lo b.length]=some (.tup [.agg [.str (ZaO b).1.note.topic,.lst false ((ZaO b).1.note.payload.map Zc),.int .i64 (ZaO b).1.note.qos,.bool (ZaO b).1.note.retain,.str (ZaO b).1.note.sender,.int .i64 (ZaO b).1.note.expires,.lst false ((ZaO b).1.note.props.map Zi),.int .i64 (ZaO b).1.note.origin,.int .i64 (ZaO b).1.note.number,.int .i64 (ZaO b).1.note.hops,.int .i64 (ZaO b).1.qos,.bool (ZaO b).1.retain,.lst false ((ZaO b).1.ids.map (.int .i64 ·)),.str (ZaO b).1.share],.int .i64 (ZaO b).2],σ.set t (.row 0 1 X),{ any:=true }):=by
 refine Zk3 (args':=[.sl 0 0 lo b.length]) hs (by kernel_rfl) rfl rfl (fun ρ h=>by simp only[renL,renV,h]) (fun ρ=>rfl) (Xp rfl) ?_
 rw[ZJq hB hb]
 exact ZSA X _ (ZJw b)
end
section
theorem ZBt(b:Zd)(n:Int)(h0:0<=n):E 10 [Zf b,.int .i64 n] []=some (Zf (b.take n.toNat),[]):=by
 rw[Zg (by rfl) ZRI]
 by_cases h:n<(b.length:Int)
 ·have hl:n<=(b.length:Int):=by omega
  simp only[EQA,Zk,Xd,Xb,reduceCtorEq,↓reduceIte,ZyD,Zkv,Zww,Zb,Zf,h0,h,hl,Zg2]
 ·have hl:b.take n.toNat=b:=Xy (by omega)
  simp only[EQA,Zk,Xd,Xb,reduceCtorEq,↓reduceIte,ZyD,Zkv,Zww,Zb,Zf,h,hl]
theorem Zq7(σ:Za)(sq own:Nat)(view:Bool)(b:Zd)(n:Int)(h0:0<=n):Zl E BY σ sq 10 own view [.lst false (b.map Zc),.int .i64 n]=some (.lst false ((b.take n.toNat).map Zc),σ,{}) :=
 ZcC (ZBt b n h0) (by kernel_rfl) (by simp only[Zba,Zbz,eq_self,Zf]) (by simp only[ZR,Zbz,eq_self,Zf]) rfl (fun _=>rfl) _ _ _ _
def Zdt(n lo hi:Int):Int:=lo+(if n.tmod (hi-lo+1)<0 then n.tmod (hi-lo+1)+(hi-lo+1)else n.tmod (hi-lo+1))
theorem ZFq(n:Int):E 23 [.int .i64 n,.int .i64 0,.int .i64 2] []=some (.int .i64 (Zdt n 0 2),[]):=by
 have w1:IntKind.i64.wrap (2-0)=2:=rfl
 have w2:IntKind.i64.wrap (2+1)=3:=rfl
 have hz:((3:Int)=0)=False:=by simp
 have hb:-3<n.tmod 3/\n.tmod 3<3:=by
  have h1:=Xbd n (show(0:Int)<3 by decide)
  have h2:=Xbc n (show(0:Int)<3 by decide)
  omega
 unfold Zdt
 rw[show(2:Int)-0+1=3 from rfl]
 rw[Zg (by rfl) Zsa]
 by_cases h:n.tmod 3<0
 ·have w3:IntKind.i64.wrap (n.tmod 3+3)=n.tmod 3+3:=ZQ (by omega) (by omega)
  have w4:IntKind.i64.wrap (0+(n.tmod 3+3))=0+(n.tmod 3+3):=ZQ (by omega) (by omega)
  simp only[EQA,ZX,Xf,Xd,Xb,reduceCtorEq,↓reduceIte,ZlF,Zh0,Zni,Zb,w1,w2,w3,w4,hz,h]
 ·have w4:IntKind.i64.wrap (0+n.tmod 3)=0+n.tmod 3:=ZQ (by omega) (by omega)
  simp only[EQA,ZX,Xf,Xd,Xb,reduceCtorEq,↓reduceIte,ZlF,Zh0,Zni,Zb,w1,w2,w4,hz,h]
theorem Zvw(σ:Za)(sq own:Nat)(view:Bool)(n:Int):Zl E BY σ sq 23 own view [.int .i64 n,.int .i64 0,.int .i64 2]=some (.int .i64 (Zdt n 0 2),σ,{}) :=
 ZcC (ZFq n) (by kernel_rfl) rfl rfl rfl (fun _=>rfl) _ _ _ _
theorem Zvv(n:Int):Zdt n 0 2=0\/Zdt n 0 2=1\/Zdt n 0 2=2:=by
 have h1:=Xbd n (show(0:Int)<3 by decide)
 have h2:=Xbc n (show(0:Int)<3 by decide)
 unfold Zdt
 rw[show(2:Int)-0+1=3 from rfl]
 split<;>omega
end
section
def Zge(c:UInt8):UInt8:=XK (97+c.toNat%26)
def ZcT(b:Zd):Zd:=(b.take 30).map Zge
theorem ZNy(c:UInt8):IntKind.u8.wrap (97+(c.toNat:Int).tmod 26)=((Zge c).toNat:Int):=by
 have h:(c.toNat:Int).tmod 26=((c.toNat%26:Nat):Int):=by rw[Int.tmod_eq_emod_of_nonneg (by omega)];omega
 rw[h,IntKind.wrap_u8,Zge,Wk]
 omega
theorem ZzR(b:Zd)(hb:b.length<=9223372036854775807):∀ (r:Zd) (i:Nat) (acc:Zd),(b.take 30).drop i=r->acc.length<=i->i<=30 ->
  Znw 0 [(4,.int .i64 i),(3,.str acc),(0,.lst false (b.map Zc))] []=some (.str (acc++r.map Zge),[])
 | [],i,acc,h,ha,hi=>by
  rw[Wl,X0]at h
  unfold Znw
  rw[Zr]
  by_cases h1:(i:Int)<(b.length:Int)
  ·have h2:¬(i:Int)<30:=by omega
   simp only[EQA,Zk,Xd,Xb,Zh,unG,reduceCtorEq,↓reduceIte,Zw7,ZxZ,ZkU,Zqk,ZjT,Zb,h1,h2]
  ·simp only[EQA,Zk,Xd,Xb,Zh,Zw,reduceCtorEq,↓reduceIte,Zw7,ZxZ,ZkU,Zqk,ZjT,Zb,h1]
 |c::r,i,acc,h,ha,hi=>by
  have hd:=ZP h
  have hlt:i<min 30 b.length:=by have:=hd.2.2;rwa [X0]at this
  have ih:=ZzR b hb r (i+1) (acc++[Zge c]) hd.2.1 (by simp;omega) (by omega)
  have hat:b[i]?=some c:=by
   have:=hd.1
   rw[XO]at this
   rw[if_pos (by omega)]at this
   exact this
  have h1:(i:Int)<(b.length:Int):=by omega
  have h2:(i:Int)<30:=by omega
  have e1:=iad hat Zc (k:=1) rfl
  have hw:IntKind.i64.wrap ((i:Int)+1)=((i+1:Nat):Int):=by rw[ZQ (by omega) (by omega)];rfl
  have hl:=ZNy c
  have hz:((26:Int)=0)=False:=by simp
  have k1:acc.length+1<=9223372036854775807:=by omega
  have hb2:ZfS [AVal.int .u8 ((Zge c).toNat:Int)]=some [Zge c]:=by
   have:=Zwv [Zge c];exact this
  rw[Wa,WU,<-Xn]at ih
  unfold Znw at ih ⊢
  rw[Zr]
  simp only[EQA,ZB,Xd,Xb,Zbw,Zh,unG,reduceCtorEq,Zq,↓reduceIte,gcT,gcA,gcIds,reach,heapOf,refsB,Zqk,ZjT,Zb,h1,h2,e1,hw,hl,hz,k1,hb2,Zc,AVal.cells,viewAs,Zv,Zs,Zj]
  exact ih
theorem ZAV(b:Zd)(hb:b.length<=9223372036854775807):E 22 [Zf b] []=some (.str (ZcT b),[]):=by
 have key:=ZzR b hb (b.take 30) 0 [] rfl (XD _) (by omega)
 have z0:((0:Nat):Int)=0:=rfl
 rw[z0]at key
 unfold Znw at key
 rw[Zg (by rfl) ZKz]
 simp only[EQA,ZB,Xd,Xb,reduceCtorEq,↓reduceIte,gcT,gcA,gcIds,reach,heapOf,refsB,ZHD,ZsG,Zb,Zf]
 exact key
theorem ZiH(σ:Za)(sq own:Nat)(f:Bool)(b:Zd)(hb:b.length<=9223372036854775807):Zl E BY σ sq 22 own true [.lst f (b.map Zc)]=some (.str (ZcT b),σ,{}) :=
 Zal (ZAV b hb) (by kernel_rfl) rfl rfl rfl (fun _=>rfl) _ _ _
structure ZfH where
 fmt:Int
 content:Zd
 corr:Zd
 users:Zd
def ZzQ(x:Int):Int:=IntKind.i64.wrap (((XJ IntKind.i64.bits x&&&XJ IntKind.i64.bits 1).toNat:Nat):Int)
def Zfx(u:Zd)(c:UInt8):Zp:=⟨38,0,ZcT [c],ZcT u,[]⟩
def ZfA(p:ZfH):List Zp :=
 (if p.fmt>=0 then [⟨1,ZzQ p.fmt,[],[],[]⟩]else [])++((if p.content.length>0 then [⟨3,0,ZcT p.content,[],[]⟩]else [])++(if p.corr.length>0 then [⟨9,0,[],[],p.corr.take 30⟩]else []))
def ZeQ(p:ZfH):List Zp:=ZfA p++(p.users.take 4).map (Zfx p.users)
def lsT(i:Int):List AVal->Tms
 | []=>[(4,.int .i64 i),(3,.lst true []),(1,.ref 0 0)]
 |x::xs=>[(4,.int .i64 i),(3,.sl 0 0 0 (x::xs).length),(1,.ref 1 0)]
def lsH(b:Zx):List AVal->Za
 | []=>[b]
 |x::xs=>[.row 0 5 (x::xs),b]
def pC(p:ZfH):List AVal:=[.int .i64 p.fmt,.lst false (p.content.map Zc),.lst false (p.corr.map Zc),.lst false (p.users.map Zc)]
theorem ZtE(i:Int){X:List AVal}(h:0<X.length):lsT i X=[(4,.int .i64 i),(3,.sl 0 0 0 X.length),(1,.ref 1 0)]:=by
 cases X with
 |nil=>simp at h
 |cons x xs=>rfl
theorem ZsU(b:Zx){X:List AVal}(h:0<X.length):lsH b X=[.row 0 5 X,b]:=by
 cases X with
 |nil=>simp at h
 |cons x xs=>rfl
theorem ZzS(p:ZfH)(hu:p.users.length<=9223372036854775807):∀ (r:Zd) (i:Nat) (acc:List Zp),(p.users.take 4).drop i=r->acc.length<=3+i->i<=4 ->
  ZlO 0 (lsT i (acc.map Zi)) (lsH (.var (pC p)) (acc.map Zi))=some (ZaX ((acc++r.map (Zfx p.users)).map Zi),ZaS 5 ((acc++r.map (Zfx p.users)).map Zi))
 | [],i,acc,h,ha,hi=>by
  rw[Wl,X0]at h
  simp only[Xo,XC]
  unfold ZlO pC
  rw[Zr]
  cases acc with
  |nil =>
   simp only[Xo,ZaZ,ZaF,lsT,lsH]
   by_cases h1:(i:Int)<(p.users.length:Int)
   ·have h2:¬(i:Int)<4:=by omega
    simp only[EQA,Zk,Xd,Xb,Zh,unG,↓reduceIte,Zlu,ZlX,ZiA,ZiJ,ZgN,Zb,h1,h2]
    try (simp[EQO])
   ·simp only[EQA,Zk,Xd,Xb,Zh,Zw,↓reduceIte,Zlu,ZlX,ZiA,ZiJ,ZgN,Zb,h1]
    try (simp[EQO])
  |cons a acc =>
   generalize hX:(a::acc).map Zi=X
   have hXp:0<X.length:=by rw[<-hX];simp
   rw[ZbY hXp,Zbk hXp,ZtE _ hXp,ZsU _ hXp]
   by_cases h1:(i:Int)<(p.users.length:Int)
   ·have h2:¬(i:Int)<4:=by omega
    simp only[EQA,Xf,Xd,Xb,Zh,unG,↓reduceIte,Zlu,ZlX,ZiA,ZiJ,ZgN,Zb,h1,h2]
    try (simp[EQO])
   ·simp only[EQA,Xf,Xd,Xb,Zh,Zw,↓reduceIte,Zlu,ZlX,ZiA,ZiJ,ZgN,Zb,h1]
    try (simp[EQO])
 |c::r,i,acc,h,ha,hi=>by
  have hd:=ZP h
  have hlt:i<min 4 p.users.length:=by have:=hd.2.2;rwa [X0]at this
  have ih:=ZzS p hu r (i+1) (acc++[Zfx p.users c]) hd.2.1 (by simp;omega) (by omega)
  have hat:p.users[i]?=some c:=by
   have:=hd.1
   rw[XO]at this
   rw[if_pos (by omega)]at this
   exact this
  have hsl:(p.users.take (i+1)).drop i=[c]:=by
   rw[List.drop_take]
   have : i+1-i=1:=by omega
   rw[this]
   obtain⟨hl,he⟩:=Xh.1 hat
   rw[List.drop_eq_getElem_cons hl,he]
   rfl
  have h1:(i:Int)<(p.users.length:Int):=by omega
  have h2:(i:Int)<4:=by omega
  have hw:IntKind.i64.wrap ((i:Int)+1)=((i+1:Nat):Int):=by rw[ZQ (by omega) (by omega)];rfl
  have hs:=fun σ k1 k2=>Zki σ p.users k1 k2 (i:Int) ((i+1:Nat):Int) (by omega) (by omega) (by omega)
  have t1:((i:Int)).toNat=i:=rfl
  have t2:(((i+1:Nat):Int)).toNat=i+1:=rfl
  rw[t1,t2,hsl]at hs
  have hP1:=fun σ sq own f=>ZiH σ sq own f [c] (by simp)
  have hP2:=fun σ sq own f=>ZiH σ sq own f p.users hu
  simp only[Xn,Xo]at hP1 hs
  rw[Wa,WU,<-Xn]at ih
  generalize hR:acc++(c::r).map (Zfx p.users)=R at *
  unfold Zfx at ih
  unfold pC at ih ⊢
  generalize ZcT [c]=U1 at *
  generalize ZcT p.users=U2 at *
  unfold ZlO at ih ⊢
  rw[Zr]
  cases acc with
  |nil =>
   simp only[XU,Xo,Xn,lsT,lsH,Zi,ZZ,Zf,Xm,Xu,Xv]at ih ⊢
   have hk:kOk 5 [AVal.agg [.int .i64 38,.int .i64 0,.str U1,.str U2,.lst false []]]=true:=rfl
   simp only[EQA,ZaT,ZB,ZX,Xf,Xd,Xe,Xb,Xg,Zh,unG,reduceCtorEq,Zq,↓reduceIte,gcT,gcA,gcIds,reach,rhoOf,heapOf,idxA,genB,newGen,renB,refsB,ZiJ,ZgN,Zb,h1,h2,hw,hs,hP1,hP2,hk,Z3,AVal.cells,ZI,viewAs,Zv,Zs,Zao,Zj,Wv,Xe]
   exact ih
  |cons a acc =>
   rw[XH]at ih
   have hXl:((a::acc).map Zi).length=acc.length+1:=by simp
   simp only[Xm]at ha
   generalize hX:(a::acc).map Zi=X at *
   have hXp:0<X.length:=by omega
   have hXq:0<(X++[(⟨38,0,U1,U2,[]⟩:Zp)].map Zi).length:=by rw[Xk];omega
   rw[ZtE _ hXq,ZsU _ hXq]at ih
   rw[ZtE _ hXp,ZsU _ hXp]
   simp only[Xn,Xo,Zi,ZZ,Zf,Xk,Xm,Xu,Xv]at ih
   have hk:kOk 5 [AVal.agg [.int .i64 38,.int .i64 0,.str U1,.str U2,.lst false []]]=true:=rfl
   have k2:(X.length+1)*72<=140737488355328:=by omega
   simp only[EQA,ZaT,ZB,ZX,Xf,Xd,Xe,Xb,Xg,Zh,unG,reduceCtorEq,Zq,↓reduceIte,gcT,gcA,gcIds,reach,rhoOf,heapOf,idxA,genB,newGen,renB,refsB,ZiJ,ZgN,Zb,h1,h2,hw,hs,hP1,hP2,hk,k2,Z3,AVal.cells,Za3,Zbd,Zby,Zce,ZcZ,ZcQ,Zc8,Zc6,ZbC,W4,ZI,viewAs,Zv,Zs,Zao,Zj]
   exact ih
theorem ZSZ(p:ZfH)(h1:p.content.length<=9223372036854775807)(h3:p.users.length<=9223372036854775807):E 24 [.agg (pC p)] []=some (ZaX ((ZeQ p).map Zi),ZaS 5 ((ZeQ p).map Zi)):=by
 have hlen:(ZfA p).length<=3:=by
  unfold ZfA
  repeat' split
  all_goals simp
 have key:=ZzS p h3 (p.users.take 4) 0 (ZfA p) rfl (by omega) (by omega)
 have hP:=fun σ sq own f=>ZiH σ sq own f p.content h1
 have hC:=fun σ sq own=>Zq7 σ sq own true p.corr 30 (by omega)
 have z0:((0:Nat):Int)=0:=rfl
 have z30:(30:Int).toNat=30:=rfl
 rw[z30]at hC
 rw[z0]at key
 rw[show ZeQ p=ZfA p++(p.users.take 4).map (Zfx p.users)from rfl]
 generalize hR:ZfA p++(p.users.take 4).map (Zfx p.users)=R at *
 unfold ZfA ZzQ at key
 unfold pC at key ⊢
 generalize ZcT p.content=U1 at *
 generalize p.corr.take 30=U2 at *
 unfold ZlO at key
 have w1:kOk 5 [AVal.agg [.int .i64 1,.int .i64 (IntKind.i64.wrap (((XJ IntKind.i64.bits p.fmt&&&XJ IntKind.i64.bits 1).toNat:Nat):Int)),.str [],.str [],.lst false []]]=true:=rfl
 have w2:kOk 5 [AVal.agg [.int .i64 3,.int .i64 0,.str U1,.str [],.lst false []]]=true:=rfl
 have w3:kOk 5 [AVal.agg [.int .i64 9,.int .i64 0,.str [],.str [],.lst false (U2.map Zc)]]=true:=rfl
 by_cases c1:p.fmt>=0<;>by_cases c2:(p.content.length:Int)>0<;>by_cases c3:(p.corr.length:Int)>0
 all_goals (have d2:(p.content.length>0)=((p.content.length:Int)>0):=by simp)
 all_goals (have d3:(p.corr.length>0)=((p.corr.length:Int)>0):=by simp)
 all_goals simp only[c1,d2,c2,d3,c3,if_true,if_false,XU,XC,Wm,Xn,Xo,lsT,lsH,Zi,ZZ,Zf,Xm,Xu,Xv]at key
 all_goals clear d2 d3
 all_goals rw[Zg (by rfl) ZLq]
 all_goals simp only[EQA,ZaT,ZB,ZX,Xf,Xd,Xe,Xb,Xg,Xbv,reduceCtorEq,Zq,↓reduceIte,gcT,gcA,gcIds,reach,rhoOf,heapOf,idxA,genB,newGen,renB,refsB,ZDj,Ztu,Zb,c1,c2,c3,hP,hC,w1,w2,w3,Z3,AVal.cells,ZI,viewAs,Zv,Zs,Zao,Zj,Wv,XD,Xbv,Xe]
 all_goals exact key
theorem ZRq(σ:Za)(sq own:Nat)(p:ZfH)(h1:p.content.length<=9223372036854775807)(h3:p.users.length<=9223372036854775807):Zl E BY σ sq 24 own true [.agg [.int .i64 p.fmt,.lst false (p.content.map Zc),.lst false (p.corr.map Zc),.lst false (p.users.map Zc)]]=some (.lst false ((ZeQ p).map Zi),σ,{}) :=
 ZsL (k:=5) (ZSZ p h1 h3) (by kernel_rfl) rfl rfl _ _ _
end
end Go.Proofs.YtbcbhgbffjkheaaDoor
