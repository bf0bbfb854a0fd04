/- packed -/
import Derived.Test.YtbcbhgbffjkheaaDoorMq3
import Derived.Lib.TrimUEq
import Derived.Lib.MapLaws
import Derived.Lib.ValidLaws
set_option linter.defProp false
set_option linter.unusedSimpArgs false
set_option linter.unusedVariables false
open Nat renaming reduceEqDiff→Xb,reduceLT→Xd,reduceLeDiff→Xe,reduceAdd→Xf,reduceBEq→Xg,zero_add→Xv,le_refl→XD,add_assoc→Wf,add_zero→Wg,one_mul→Wv,pow_le_pow_right→WY,mod_eq_of_lt→Xa1,pow_succ→Xbb,mod_lt→Xbf,shiftLeft_eq→Xbm,mul_le_mul→Xbt
open List renaming length_append→Xk,length_cons→Xm,map_cons→Xn,map_nil→Xo,mem_append→Xs,length_nil→Xu,mem_of_getElem?→Xx,take_of_length_le→Xy,replicate→XA,append_nil→XC,all_eq_true→XF,mem_map→XG,map_append→XH,length_map→XL,nil_append→XU,length_drop→XV,all_cons→XW,length_take→X0,getD_cons_zero→X1,append_assoc→Wa,all_nil→Wc,drop_eq_nil_iff→Wl,cons_append→Wm,isEmpty_nil→Wo,getD_cons_succ→Wq,range_succ→Ww,flatten_cons→WD,isEmpty_cons→WE,contains_cons→WP,contains_nil→WZ,drop_zero→W2,flatten_nil→W9,drop_take→Xac,map_take→XaQ,drop_drop→XaS,map_drop→Xbi
open Bool renaming false_eq_true→Xl,false_and→X8,and_self→Wp,true_and→WN,or_true→Xan,and_false→Xbu
open Or renaming inl→Xp,inr→Xt
open Int renaming reduceBEq→Xw,toNat_natCast→X3,le_refl→W0,toNat_zero→W3,tmod_eq_emod_of_nonneg→Xaf,toNat→Xal,reduceLT→XaY
open BitVec renaming ofInt→XJ,ofInt_natCast→Xa4,toNat_ofNat→Xba
open UInt8 renaming ofNat→XK,toNat_ofNat'→Wk,toNat_inj→Xbq
open Option renaming map→XY,isSome_none→Xau
open Decidable renaming byContradiction→XaE
namespace Go.Proofs.YtbcbhgbffjkheaaDoor
set_option maxHeartbeats 16000000
set_option maxRecDepth 10000
section
theorem ZqO{O:ZJ}{bf:Nat->Bool}{σ:Za}{sq f own:Nat}{view:Bool}{args:List AVal}(h:args.all Z2=true)(hm:args.map ZM=args) :
  Zl O bf σ sq f own view args=Z8 σ σ [] [] sq own (ZO view 0 (O f args [])):=by
 cases hb:bf f
 ·rw[ZbK hb h,hm]
 ·have hr:=ZhE h
  have hn:=fun ρ=>Zia (ρ:=ρ) h
  rw[hm]at hr
  simp only[hm]at hn
  unfold Zl Zb1
  rw[hb]
  simp only[if_true]
  have h1:Zj σ []=σ:=rfl
  rw[h1,hr]
  have h2:reach σ 1000 [] []=[]:=rfl
  rw[h2]
  unfold Zbl
  simp only[Wc,if_true,hn,heapOf,Xu]
theorem ZiZ{O:ZJ}{bf:Nat->Bool}{f:Nat}{args:List AVal}{k n:Nat}{xs:List AVal}(h:O f args []=some (.sl 0 0 0 n,[.row 0 k xs]))(hn:xs.length=n)(hp:args.all Z2=true)(hm:args.map ZM=args)(σ:Za)(sq own:Nat):Zl O bf σ sq f own true args=some (.lst false xs,σ,{}):=by
 rw[ZqO hp hm,h]
 have : ZO true 0 (some (.sl 0 0 0 n,[.row 0 k xs]))=some (.lst false xs,[]):=by
  unfold ZO
  rw[if_pos rfl,ZxR (k:=k) (g:=0) (t:=0) (xs:=xs) rfl (by omega),Xy (by omega)]
 rw[this,ZdP _ _ _ _ rfl]
theorem Zza{O:ZJ}{bf:Nat->Bool}{f:Nat}{args:List AVal}{k n:Nat}{xs:List AVal}(h:O f args []=some (.sl 0 0 0 n,[.row 0 k xs]))(hp:args.all Z2=true)(hm:args.map ZM=args)(σ:Za)(sq:Nat)(hs:freeAt σ sq=true):Zl O bf σ sq f 1 false args=some (.sl sq 0 0 n,σ.set sq (.row 0 k xs),if xs.all Zas then{}else{ any:=true }):=by
 rw[ZqO hp hm,h]
 cases hx:xs.all Zas<;>simp[ZO,Z8,Zdc,hx,ZbO,okB,genB,Zbv,hs,renV,ZaR,Za4,Zb4,Zb4,Zay,ZbF,renB]
theorem Zvk{O:ZJ}{bf:Nat->Bool}{σ:Za}{f:Nat}{args vs:List AVal}{ts:List Nat}{r r':AVal}(hb:bf f=false)(hsh:showAs σ args=some (vs,ts))(hp:vs.all Z2=true)(hm:vs.map ZM=vs)(h:O f vs []=some (r,[]))(hv:ZaI 0 (some (r,[]))=some (r',[]))(sq own:Nat) :
  Zl O bf σ sq f own true args=if ZaQ r' then some (r',σ,{ rd:=ts })else if Zck σ ts r' then some (r',σ,{ rd:=ts })else some (renV (ZaR [] [] sq) r',Zj σ ts,{ rd:=ts,wr:=ts }):=by
 have hr:=ZhE hp
 have hn:=fun ρ=>Zia (ρ:=ρ) hp
 rw[hm]at hr
 simp only[hm]at hn
 unfold Zl Zb1
 rw[hb]
 simp only[Xl,if_false,hsh]
 rw[hr]
 have h2:∀ σ,reach σ 1000 [] []=[]:=fun _=>rfl
 rw[h2]
 unfold Zbl
 simp only[Wc,if_true,hn,heapOf,Xu,h]
 have : ZO true 0 (some (r,[]))=some (r',[]):=by unfold ZO;rw[if_pos rfl,hv]
 rw[this]
 simp only[Z8,Wo,Wp,if_true]
theorem ZlJ{O:ZJ}{bf:Nat->Bool}{σ:Za}{f:Nat}{args vs:List AVal}{ts:List Nat}{r r':AVal}(hb:bf f=false)(hsh:showAs σ args=some (vs,ts))(hp:vs.all Z2=true)(hm:vs.map ZM=vs)(h:O f vs []=some (r,[]))(hv:ZaI 0 (some (r,[]))=some (r',[]))(hf:ZaQ r'=true)(sq own:Nat) :
  Zl O bf σ sq f own true args=some (r',σ,{ rd:=ts }):=by
 rw[Zvk hb hsh hp hm h hv,if_pos hf]
theorem ZPq{O:ZJ}{bf:Nat->Bool}{σ:Za}{f:Nat}{args vs:List AVal}{ts:List Nat}{r r':AVal}(hb:bf f=false)(hsh:showAs σ args=some (vs,ts))(hp:vs.all Z2=true)(hm:vs.map ZM=vs)(h:O f vs []=some (r,[]))(hv:ZaI 0 (some (r,[]))=some (r',[]))(hap:Zck σ ts r'=true)(sq own:Nat) :
  Zl O bf σ sq f own true args=some (r',σ,{ rd:=ts }):=by
 rw[Zvk hb hsh hp hm h hv,if_pos hap]
 split<;>rfl
theorem Zal{O:ZJ}{bf:Nat->Bool}{f:Nat}{args args':List AVal}{r r':AVal}(h:O f args' []=some (r,[]))(hb:bf f=false)(hp:args.all Z2=true)(hn:args.map ZM=args')(hv:ZaI 0 (some (r,[]))=some (r',[]))(hr:∀ sq,renV (ZaR [] [] sq) r'=r')(σ:Za)(sq own:Nat):Zl O bf σ sq f own true args=some (r',σ,{}):=by
 rw[ZbK hb hp,hn,h]
 have : ZO true 0 (some (r,[]))=some (r',[]):=by
  unfold ZO
  rw[if_pos rfl];exact hv
 rw[this,ZdP _ _ _ _ (hr sq)]
theorem ZlY(k n:Nat)(xs:List AVal)(σ:Za):outA 0 (.row 0 k xs::σ) (.sl 0 0 0 n)=some (.sl 0 0 0 n,[.row 0 k xs]):=by
 simp[EQO]
theorem ZIr(k n:Nat)(xs:List AVal)(σ:Za):outA 0 (.row 1 k xs::σ) (.sl 0 1 0 n)=some (.sl 0 0 0 n,[.row 0 k xs]):=by
 simp[EQO]
def ZaX:List AVal->AVal
 | []=>.lst true []
 |x::xs=>.sl 0 0 0 (x::xs).length
def ZaS(k:Nat):List AVal->Za
 | []=>[]
 |x::xs=>[.row 0 k (x::xs)]
theorem ZaZ:ZaX []=.lst true []:=rfl
theorem Zbi(x:AVal)(xs:List AVal):ZaX (x::xs)=.sl 0 0 0 (x::xs).length:=rfl
theorem ZaF(k:Nat):ZaS k []=[]:=rfl
theorem Za0(k:Nat)(x:AVal)(xs:List AVal):ZaS k (x::xs)=[.row 0 k (x::xs)]:=rfl
theorem ZsL{O:ZJ}{bf:Nat->Bool}{f k:Nat}{args args':List AVal}{full:List AVal}(h:O f args' []=some (ZaX full,ZaS k full))(hb:bf f=false)(hp:args.all Z2=true)(hn:args.map ZM=args')(σ:Za)(sq own:Nat):Zl O bf σ sq f own true args=some (.lst false full,σ,{}):=by
 cases full with
 |nil=>exact Zal h hb hp hn rfl (fun _=>rfl) σ sq own
 |cons x xs =>
  rw[Zbi,Za0]at h
  rw[ZbK hb hp,hn,h]
  have : ZO true 0 (some (.sl 0 0 0 (x::xs).length,[.row 0 k (x::xs)]))=some (.lst false (x::xs),[]):=by
   unfold ZO
   rw[if_pos rfl,ZxR (k:=k) (g:=0) (t:=0) (xs:=x::xs) rfl (by omega),Xy (by omega)]
  rw[this,ZdP _ _ _ _ rfl]
theorem Zbe(l:Zd):kOk 1 (l.map Zc)=true:=by cases l<;>rfl
end
section
theorem ZvP(l:List Int)(hl:l.length<=9223372036854775807)(v:Int):∀ (r:List Int) (i:Nat),l.drop i=r ->
  ZlW 0 [(5,.int .i64 i),(1,.lst false (l.map (AVal.int .i64 ·))),(0,.int .i64 v)] []=some (.bool (r.contains v),[])
 | [],i,h=>by
  have h1:=ZcG h
  unfold ZlW
  rw[Zr]
  simp only[EQA,Xd,Xb,reduceCtorEq,↓reduceIte,Zvf,ZJJ,Zsn,Zo8,Zji,Zb,h1]
 |x::r,i,h=>by
  have ih:=ZvP l hl v r (i+1) (ZP h).2.1
  have h1:(i:Int)<l.length:=by have:=(ZP h).2.2;omega
  have e1:=iad (ZP h).1 (AVal.int .i64 ·) (k:=1) rfl
  have e3:=Zcp h1 hl
  unfold ZlW at ih ⊢
  rw[Zr,WP]
  cases hb:(v==x)
  ·have hb':(x==v)=false:=by simp only[beq_eq_false_iff_ne,ne_eq]at hb ⊢;exact fun e=>hb e.symm
   rw[Bool.false_or]
   simp only[EQA,ZR,ZB,Xd,Xb,reduceCtorEq,↓reduceIte,gcT,gcA,gcIds,reach,heapOf,refsB,Zo8,Zji,Zb,h1,e1,e3,hb']
   exact ih
  ·have hb':(x==v)=true:=by simp only[beq_iff_eq]at hb ⊢;exact hb.symm
   rw[Bool.true_or]
   simp only[EQA,ZR,Xd,Xb,reduceCtorEq,↓reduceIte,Zvf,Zo8,Zji,Zb,h1,e1,hb']
theorem ZFw(l:List Int)(hl:l.length<=9223372036854775807)(v:Int):E 81 [.int .i64 v,Zbm l] []=some (.bool (l.contains v),[]):=by
 have h:=ZvP l hl v l 0 rfl
 have z0:((0:Nat):Int)=0:=rfl
 rw[z0]at h
 unfold ZlW at h
 rw[Zg (by rfl) ZLb]
 simp only[EQA,ZB,Xd,Xb,reduceCtorEq,↓reduceIte,gcT,gcA,gcIds,reach,heapOf,refsB,ZMD,ZsN,Zb,Zbm,Zbm]
 exact h
theorem ZwN(σ:Za)(sq own:Nat)(l:List Int)(hl:l.length<=9223372036854775807)(v:Int)(b:Bool):Zl E BY σ sq 81 own true [.int .i64 v,.lst b (l.map (AVal.int .i64 ·))]=some (.bool (l.contains v),σ,{}) :=
 Zal (ZFw l hl v) (by kernel_rfl) rfl rfl rfl (fun _=>rfl) _ _ _
end
section
def ZqD:List (Int×Int×Int):=[(1,1,65544),(2,3,65544),(3,5,65544),(8,5,65544),(9,6,65544),(11,4,264),(17,3,16390),(18,5,4),(26,5,4),(19,2,4),(21,5,32774),(22,6,32774),(23,1,2),(25,1,2),(24,3,65536),(28,5,16388),(31,5,51956),(33,2,6),(34,2,6),(35,2,8),(39,3,6),(36,1,4),(37,1,4),(40,1,4),(41,1,4),(42,1,4),(38,7,-12290)]
def ofF(id:Int):Int×Int:=(ZqD.lookup id).getD (0,0)
def ZaG(id:Int):Int:=(ofF id).1
def ZdB(id:Int):Prop:=id=1\/id=2\/id=3\/id=8\/id=9\/id=11\/id=17\/id=18\/id=26\/id=19\/id=21\/id=22\/id=23\/id=25\/id=24\/id=28\/id=31\/id=33\/id=34\/id=35\/id=39\/id=36\/id=37\/id=40\/id=41\/id=42\/id=38
instance (id:Int):Decidable (ZdB id):=by unfold ZdB;infer_instance
theorem Zkn{id:Int}(h:¬ZdB id):(id==1)=false/\(id==2)=false/\(id==3)=false/\(id==8)=false/\(id==9)=false/\(id==11)=false/\(id==17)=false/\(id==18)=false/\(id==26)=false/\(id==19)=false/\(id==21)=false/\(id==22)=false/\(id==23)=false/\(id==25)=false/\(id==24)=false/\(id==28)=false/\(id==31)=false/\(id==33)=false/\(id==34)=false/\(id==35)=false/\(id==39)=false/\(id==36)=false/\(id==37)=false/\(id==40)=false/\(id==41)=false/\(id==42)=false/\(id==38)=false:=by
 unfold ZdB at h
 simp only[not_or]at h
 simp only[beq_eq_false_iff_ne,ne_eq]
 exact h
theorem Zi0{id:Int}(h:¬ZdB id):ofF id=(0,0):=by
 obtain⟨h1,h2,h3,h8,h9,h11,h17,h18,h26,h19,h21,h22,h23,h25,h24,h28,h31,h33,h34,h35,h39,h36,h37,h40,h41,h42,h38⟩:=Zkn h
 simp only[ofF,ZqD,List.lookup,h1,h2,h3,h8,h9,h11,h17,h18,h26,h19,h21,h22,h23,h25,h24,h28,h31,h33,h34,h35,h39,h36,h37,h40,h41,h42,h38,Option.getD_none]
theorem ZBc(id:Int):E 95 [.int .i64 id] []=some (.agg [.int .i64 (ofF id).1,.int .i64 (ofF id).2],[]):=by
 by_cases h:ZdB id
 ·rcases h with rfl |rfl |rfl |rfl |rfl |rfl |rfl |rfl |rfl |rfl |rfl |rfl |rfl |rfl |rfl |rfl |rfl |rfl |rfl |rfl |rfl |rfl |rfl |rfl |rfl |rfl |rfl
  all_goals exact Zei.2 ⟨20,by kernel_rfl⟩
 ·rw[Zi0 h]
  obtain⟨h1,h2,h3,h8,h9,h11,h17,h18,h26,h19,h21,h22,h23,h25,h24,h28,h31,h33,h34,h35,h39,h36,h37,h40,h41,h42,h38⟩:=Zkn h
  rw[Zg (by rfl) ZEV]
  simp only[EQA,Zk,Xf,Xd,Xe,Xb,Xg,reduceCtorEq,↓reduceIte,Zm,ZCD,Zok,ZR5,Zb,h1,h2,h3,h8,h9,h11,h17,h18,h26,h19,h21,h22,h23,h25,h24,h28,h31,h33,h34,h35,h39,h36,h37,h40,h41,h42,h38,Z3,AVal.cells]
theorem ZwD(σ:Za)(sq own:Nat)(id:Int):Zl E BY σ sq 95 own true [.int .i64 id]=some (.agg [.int .i64 (ofF id).1,.int .i64 (ofF id).2],σ,{}) :=
 Zal (ZBc id) (by kernel_rfl) rfl rfl rfl (fun _=>rfl) _ _ _
theorem ZP9(id:Int):E 83 [.int .i64 id] []=some (.int .i64 (ZaG id),[]):=by
 have hC:=fun σ sq own=>ZwD σ sq own id
 unfold ZaG
 rw[Zg (by rfl) ZK1]
 simp only[EQA,Xd,Xb,reduceCtorEq,↓reduceIte,ZH7,Zn4,ZBO,Zb,hC]
theorem Zkg(σ:Za)(sq own:Nat)(id:Int):Zl E BY σ sq 83 own true [.int .i64 id]=some (.int .i64 (ZaG id),σ,{}) :=
 Zal (ZP9 id) (by kernel_rfl) rfl rfl rfl (fun _=>rfl) _ _ _
theorem ZF8(id:Int):E 89 [.int .i64 id] []=some (.int .i64 (ZaG id),[]):=by
 unfold ZaG
 by_cases h:ZdB id
 ·rcases h with rfl |rfl |rfl |rfl |rfl |rfl |rfl |rfl |rfl |rfl |rfl |rfl |rfl |rfl |rfl |rfl |rfl |rfl |rfl |rfl |rfl |rfl |rfl |rfl |rfl |rfl |rfl
  all_goals exact Zei.2 ⟨20,by kernel_rfl⟩
 ·rw[Zi0 h]
  obtain⟨h1,h2,h3,h8,h9,h11,h17,h18,h26,h19,h21,h22,h23,h25,h24,h28,h31,h33,h34,h35,h39,h36,h37,h40,h41,h42,h38⟩:=Zkn h
  rw[Zg (by rfl) ZKp]
  simp only[EQA,Xd,Xb,reduceCtorEq,↓reduceIte,ZQb,ZpS,ZNB,Zb,h1,h2,h3,h8,h9,h11,h17,h18,h26,h19,h21,h22,h23,h25,h24,h28,h31,h33,h34,h35,h39,h36,h37,h40,h41,h42,h38]
theorem Zr6(σ:Za)(sq own:Nat)(id:Int):Zl E BY σ sq 89 own true [.int .i64 id]=some (.int .i64 (ZaG id),σ,{}) :=
 Zal (ZF8 id) (by kernel_rfl) rfl rfl rfl (fun _=>rfl) _ _ _
def Zph(pl w:Int):Int:=IntKind.i64.wrap (((XJ IntKind.i64.bits (pl.fdiv (2^min w.toNat IntKind.i64.bits))&&&XJ IntKind.i64.bits 1).toNat:Nat):Int)
def ZF(id w:Int):Bool:=decide (w>=1)&&decide (w<=16)&&Zph (ofF id).2 w==1
theorem ZMz(id w:Int):E 96 [.int .i64 id,.int .i64 w] []=some (.bool (ZF id w),[]):=by
 have hC:=fun σ sq own=>ZwD σ sq own id
 unfold ZF Zph
 generalize (ofF id).2=pl at *
 rw[Zg (by rfl) ZBf]
 by_cases h1:w>=1
 ·have h2:¬w<0:=by omega
  by_cases h3:w<=16
  ·simp only[EQA,Xd,Xb,ZbT,Zh,unG,reduceCtorEq,↓reduceIte,ZsP,Zjz,ZrF,Zb,hC,h1,h2,h3]
  ·simp only[EQA,Xd,Xb,Zh,Zw,unG,reduceCtorEq,↓reduceIte,ZsP,Zjz,ZrF,Zb,h1,h3]
 ·simp only[EQA,Xd,Xb,Zh,Zw,reduceCtorEq,↓reduceIte,ZsP,Zjz,ZrF,Zb,h1]
theorem ZEF(σ:Za)(sq own:Nat)(id w:Int):Zl E BY σ sq 96 own true [.int .i64 id,.int .i64 w]=some (.bool (ZF id w),σ,{}) :=
 Zal (ZMz id w) (by kernel_rfl) rfl rfl rfl (fun _=>rfl) _ _ _
theorem ZSc:∀ k:Fin 17,1<=k.val->ZF 1 k.val=([3,16]:List Int).contains (k.val:Int)/\ZF 2 k.val=([3,16]:List Int).contains (k.val:Int)/\ZF 3 k.val=([3,16]:List Int).contains (k.val:Int)/\ZF 8 k.val=([3,16]:List Int).contains (k.val:Int)/\ZF 9 k.val=([3,16]:List Int).contains (k.val:Int)/\ZF 11 k.val=([3,8]:List Int).contains (k.val:Int)/\ZF 17 k.val=([1,2,14]:List Int).contains (k.val:Int)/\ZF 18 k.val=([2]:List Int).contains (k.val:Int)/\ZF 26 k.val=([2]:List Int).contains (k.val:Int)/\ZF 19 k.val=([2]:List Int).contains (k.val:Int)/\ZF 21 k.val=([1,2,15]:List Int).contains (k.val:Int)/\ZF 22 k.val=([1,2,15]:List Int).contains (k.val:Int)/\ZF 23 k.val=([1]:List Int).contains (k.val:Int)/\ZF 25 k.val=([1]:List Int).contains (k.val:Int)/\ZF 24 k.val=([16]:List Int).contains (k.val:Int)/\ZF 28 k.val=([2,14]:List Int).contains (k.val:Int)/\ZF 31 k.val=([2,4,5,6,7,9,11,14,15]:List Int).contains (k.val:Int)/\ZF 33 k.val=([1,2]:List Int).contains (k.val:Int)/\ZF 34 k.val=([1,2]:List Int).contains (k.val:Int)/\ZF 35 k.val=([3]:List Int).contains (k.val:Int)/\ZF 39 k.val=([1,2]:List Int).contains (k.val:Int)/\ZF 36 k.val=([2]:List Int).contains (k.val:Int)/\ZF 37 k.val=([2]:List Int).contains (k.val:Int)/\ZF 40 k.val=([2]:List Int).contains (k.val:Int)/\ZF 41 k.val=([2]:List Int).contains (k.val:Int)/\ZF 42 k.val=([2]:List Int).contains (k.val:Int)/\ZF 38 k.val=([1,2,3,4,5,6,7,8,9,10,11,14,15,16]:List Int).contains (k.val:Int):=by decide +kernel
theorem Zoy{id w:Int}(h:¬(1<=w/\w<=16)):ZF id w=false:=by
 unfold ZF
 by_cases h1:w>=1
 ·have h2:¬w<=16:=fun h2=>h ⟨h1,h2⟩
  simp[h2]
 ·simp[h1]
theorem ZLT:∀ k:Fin 17,Zph 0 k.val=0:=by decide +kernel
theorem ZuF{id:Int}(h:¬ZdB id)(w:Int):ZF id w=false:=by
 by_cases hw:1<=w/\w<=16
 ·unfold ZF
  rw[Zi0 h]
  have:=ZLT ⟨w.toNat,by omega⟩
  have e:((w.toNat:Nat):Int)=w:=by omega
  simp only[e]at this
  rw[this];simp
 ·exact Zoy hw
theorem ZSo{id w:Int}(hw:1<=w/\w<=16):ZF 1 w=([3,16]:List Int).contains w/\ZF 2 w=([3,16]:List Int).contains w/\ZF 3 w=([3,16]:List Int).contains w/\ZF 8 w=([3,16]:List Int).contains w/\ZF 9 w=([3,16]:List Int).contains w/\ZF 11 w=([3,8]:List Int).contains w/\ZF 17 w=([1,2,14]:List Int).contains w/\ZF 18 w=([2]:List Int).contains w/\ZF 26 w=([2]:List Int).contains w/\ZF 19 w=([2]:List Int).contains w/\ZF 21 w=([1,2,15]:List Int).contains w/\ZF 22 w=([1,2,15]:List Int).contains w/\ZF 23 w=([1]:List Int).contains w/\ZF 25 w=([1]:List Int).contains w/\ZF 24 w=([16]:List Int).contains w/\ZF 28 w=([2,14]:List Int).contains w/\ZF 31 w=([2,4,5,6,7,9,11,14,15]:List Int).contains w/\ZF 33 w=([1,2]:List Int).contains w/\ZF 34 w=([1,2]:List Int).contains w/\ZF 35 w=([3]:List Int).contains w/\ZF 39 w=([1,2]:List Int).contains w/\ZF 36 w=([2]:List Int).contains w/\ZF 37 w=([2]:List Int).contains w/\ZF 40 w=([2]:List Int).contains w/\ZF 41 w=([2]:List Int).contains w/\ZF 42 w=([2]:List Int).contains w/\ZF 38 w=([1,2,3,4,5,6,7,8,9,10,11,14,15,16]:List Int).contains w:=by
 have:=ZSc ⟨w.toNat,by omega⟩ (by simp;omega)
 have e:((w.toNat:Nat):Int)=w:=by omega
 simpa only[e]using this
theorem Zbq{w:Int}(hw:¬(1<=w/\w<=16)){l:List Int}(hl:l.all fun x=>decide (1<=x)&&decide (x<=16)):l.contains w=false:=by
 rw[List.contains_eq_any_beq,List.any_eq_false]
 intro x hx h
 have:=XF.1 hl x hx
 simp at this h
 omega
theorem ZOm(w:Int):ZF 1 w=([3,16]:List Int).contains w/\ZF 2 w=([3,16]:List Int).contains w/\ZF 3 w=([3,16]:List Int).contains w/\ZF 8 w=([3,16]:List Int).contains w/\ZF 9 w=([3,16]:List Int).contains w/\ZF 11 w=([3,8]:List Int).contains w/\ZF 17 w=([1,2,14]:List Int).contains w/\ZF 18 w=([2]:List Int).contains w/\ZF 26 w=([2]:List Int).contains w/\ZF 19 w=([2]:List Int).contains w/\ZF 21 w=([1,2,15]:List Int).contains w/\ZF 22 w=([1,2,15]:List Int).contains w/\ZF 23 w=([1]:List Int).contains w/\ZF 25 w=([1]:List Int).contains w/\ZF 24 w=([16]:List Int).contains w/\ZF 28 w=([2,14]:List Int).contains w/\ZF 31 w=([2,4,5,6,7,9,11,14,15]:List Int).contains w/\ZF 33 w=([1,2]:List Int).contains w/\ZF 34 w=([1,2]:List Int).contains w/\ZF 35 w=([3]:List Int).contains w/\ZF 39 w=([1,2]:List Int).contains w/\ZF 36 w=([2]:List Int).contains w/\ZF 37 w=([2]:List Int).contains w/\ZF 40 w=([2]:List Int).contains w/\ZF 41 w=([2]:List Int).contains w/\ZF 42 w=([2]:List Int).contains w/\ZF 38 w=([1,2,3,4,5,6,7,8,9,10,11,14,15,16]:List Int).contains w:=by
 by_cases hw:1<=w/\w<=16
 ·exact ZSo (id:=0) hw
 ·simp only[Zoy hw]
  refine⟨(Zbq hw rfl).symm,(Zbq hw rfl).symm,(Zbq hw rfl).symm,(Zbq hw rfl).symm,(Zbq hw rfl).symm,(Zbq hw rfl).symm,(Zbq hw rfl).symm,(Zbq hw rfl).symm,(Zbq hw rfl).symm,(Zbq hw rfl).symm,(Zbq hw rfl).symm,(Zbq hw rfl).symm,(Zbq hw rfl).symm,(Zbq hw rfl).symm,(Zbq hw rfl).symm,(Zbq hw rfl).symm,(Zbq hw rfl).symm,(Zbq hw rfl).symm,(Zbq hw rfl).symm,(Zbq hw rfl).symm,(Zbq hw rfl).symm,(Zbq hw rfl).symm,(Zbq hw rfl).symm,(Zbq hw rfl).symm,(Zbq hw rfl).symm,(Zbq hw rfl).symm,(Zbq hw rfl).symm⟩
theorem ZBJ(id w:Int):E 66 [.int .i64 id,.int .i64 w] []=some (.bool (ZF id w),[]):=by
 by_cases h:ZdB id
 ·obtain⟨m1,m2,m3,m8,m9,m11,m17,m18,m26,m19,m21,m22,m23,m25,m24,m28,m31,m33,m34,m35,m39,m36,m37,m40,m41,m42,m38⟩:=ZOm w
  have hK:=fun σ sq own l hl b=>ZwN σ sq own l hl w b
  have k0:=fun σ sq own b=>hK σ sq own [1,2] (by decide) b
  have k1:=fun σ sq own b=>hK σ sq own [1,2,14] (by decide) b
  have k2:=fun σ sq own b=>hK σ sq own [1,2,15] (by decide) b
  have k3:=fun σ sq own b=>hK σ sq own [2,4,5,6,7,9,11,14,15] (by decide) b
  have k4:=fun σ sq own b=>hK σ sq own [2,14] (by decide) b
  have k5:=fun σ sq own b=>hK σ sq own [3,8] (by decide) b
  have k6:=fun σ sq own b=>hK σ sq own [3,16] (by decide) b
  clear hK
  simp only[Xn,Xo]at k0 k1 k2 k3 k4 k5 k6
  have c1:∀ a:Int,([a]:List Int).contains w=(w==a):=fun a=>by simp only[WP,WZ,Bool.or_false]
  rcases h with rfl |rfl |rfl |rfl |rfl |rfl |rfl |rfl |rfl |rfl |rfl |rfl |rfl |rfl |rfl |rfl |rfl |rfl |rfl |rfl |rfl |rfl |rfl |rfl |rfl |rfl |rfl
  ·rw[m1]
   rw[Zg (by rfl) Za9]
   simp only[EQA,Xd,Xb,reduceCtorEq,↓reduceIte,Za7,Za2,Zbc,Zb,k6,viewAs,Zv,Zs,Zj,AVal.cells]
  ·rw[m2]
   rw[Zg (by rfl) Za9]
   simp only[EQA,Xd,Xb,reduceCtorEq,↓reduceIte,Za7,Za2,Zbc,Zb,k6,Xw,viewAs,Zv,Zs,Zj,AVal.cells]
  ·rw[m3]
   rw[Zg (by rfl) Za9]
   simp only[EQA,Xd,Xb,reduceCtorEq,↓reduceIte,Za7,Za2,Zbc,Zb,k6,Xw,viewAs,Zv,Zs,Zj,AVal.cells]
  ·rw[m8]
   rw[Zg (by rfl) Za9]
   simp only[EQA,Xd,Xb,reduceCtorEq,↓reduceIte,Za7,Za2,Zbc,Zb,k6,Xw,viewAs,Zv,Zs,Zj,AVal.cells]
  ·rw[m9]
   rw[Zg (by rfl) Za9]
   simp only[EQA,Xd,Xb,reduceCtorEq,↓reduceIte,Za7,Za2,Zbc,Zb,k6,Xw,viewAs,Zv,Zs,Zj,AVal.cells]
  ·rw[m11]
   rw[Zg (by rfl) Za9]
   simp only[EQA,Xd,Xb,reduceCtorEq,↓reduceIte,Za7,Za2,Zbc,Zb,k5,Xw,viewAs,Zv,Zs,Zj,AVal.cells]
  ·rw[m17]
   rw[Zg (by rfl) Za9]
   simp only[EQA,Xd,Xb,reduceCtorEq,↓reduceIte,Za7,Za2,Zbc,Zb,k1,Xw,viewAs,Zv,Zs,Zj,AVal.cells]
  ·rw[m18,c1]
   rw[Zg (by rfl) Za9]
   simp only[EQA,Xd,Xb,reduceCtorEq,↓reduceIte,Za7,Za2,Zbc,Zb,Xw]
  ·rw[m26,c1]
   rw[Zg (by rfl) Za9]
   simp only[EQA,Xd,Xb,reduceCtorEq,↓reduceIte,Za7,Za2,Zbc,Zb,Xw]
  ·rw[m19,c1]
   rw[Zg (by rfl) Za9]
   simp only[EQA,Xd,Xb,reduceCtorEq,↓reduceIte,Za7,Za2,Zbc,Zb,Xw]
  ·rw[m21]
   rw[Zg (by rfl) Za9]
   simp only[EQA,Xd,Xb,reduceCtorEq,↓reduceIte,Za7,Za2,Zbc,Zb,k2,Xw,viewAs,Zv,Zs,Zj,AVal.cells]
  ·rw[m22]
   rw[Zg (by rfl) Za9]
   simp only[EQA,Xd,Xb,reduceCtorEq,↓reduceIte,Za7,Za2,Zbc,Zb,k2,Xw,viewAs,Zv,Zs,Zj,AVal.cells]
  ·rw[m23,c1]
   rw[Zg (by rfl) Za9]
   simp only[EQA,Xd,Xb,reduceCtorEq,↓reduceIte,Za7,Za2,Zbc,Zb,Xw]
  ·rw[m25,c1]
   rw[Zg (by rfl) Za9]
   simp only[EQA,Xd,Xb,reduceCtorEq,↓reduceIte,Za7,Za2,Zbc,Zb,Xw]
  ·rw[m24,c1]
   rw[Zg (by rfl) Za9]
   simp only[EQA,Xd,Xb,reduceCtorEq,↓reduceIte,Za7,Za2,Zbc,Zb,Xw]
  ·rw[m28]
   rw[Zg (by rfl) Za9]
   simp only[EQA,Xd,Xb,reduceCtorEq,↓reduceIte,Za7,Za2,Zbc,Zb,k4,Xw,viewAs,Zv,Zs,Zj,AVal.cells]
  ·rw[m31]
   rw[Zg (by rfl) Za9]
   simp only[EQA,Xd,Xb,reduceCtorEq,↓reduceIte,Za7,Za2,Zbc,Zb,k3,Xw,viewAs,Zv,Zs,Zj,AVal.cells]
  ·rw[m33]
   rw[Zg (by rfl) Za9]
   simp only[EQA,Xd,Xb,reduceCtorEq,↓reduceIte,Za7,Za2,Zbc,Zb,k0,Xw,viewAs,Zv,Zs,Zj,AVal.cells]
  ·rw[m34]
   rw[Zg (by rfl) Za9]
   simp only[EQA,Xd,Xb,reduceCtorEq,↓reduceIte,Za7,Za2,Zbc,Zb,k0,Xw,viewAs,Zv,Zs,Zj,AVal.cells]
  ·rw[m35,c1]
   rw[Zg (by rfl) Za9]
   simp only[EQA,Xd,Xb,reduceCtorEq,↓reduceIte,Za7,Za2,Zbc,Zb,Xw]
  ·rw[m39]
   rw[Zg (by rfl) Za9]
   simp only[EQA,Xd,Xb,reduceCtorEq,↓reduceIte,Za7,Za2,Zbc,Zb,k0,Xw,viewAs,Zv,Zs,Zj,AVal.cells]
  ·rw[m36,c1]
   rw[Zg (by rfl) Za9]
   simp only[EQA,Xd,Xb,reduceCtorEq,↓reduceIte,Za7,Za2,Zbc,Zb,Xw]
  ·rw[m37,c1]
   rw[Zg (by rfl) Za9]
   simp only[EQA,Xd,Xb,reduceCtorEq,↓reduceIte,Za7,Za2,Zbc,Zb,Xw]
  ·rw[m40,c1]
   rw[Zg (by rfl) Za9]
   simp only[EQA,Xd,Xb,reduceCtorEq,↓reduceIte,Za7,Za2,Zbc,Zb,Xw]
  ·rw[m41,c1]
   rw[Zg (by rfl) Za9]
   simp only[EQA,Xd,Xb,reduceCtorEq,↓reduceIte,Za7,Za2,Zbc,Zb,Xw]
  ·rw[m42,c1]
   rw[Zg (by rfl) Za9]
   simp only[EQA,Xd,Xb,reduceCtorEq,↓reduceIte,Za7,Za2,Zbc,Zb,Xw]
  ·by_cases hw:1<=w/\w<=16
   ·have : w=1\/w=2\/w=3\/w=4\/w=5\/w=6\/w=7\/w=8\/w=9\/w=10\/w=11\/w=12\/w=13\/w=14\/w=15\/w=16:=by omega
    clear m1
    rcases this with rfl |rfl |rfl |rfl |rfl |rfl |rfl |rfl |rfl |rfl |rfl |rfl |rfl |rfl |rfl |rfl
    all_goals exact Zei.2 ⟨20,by kernel_rfl⟩
   ·rw[Zoy hw]
    by_cases h1:w>=1
    ·have h2:¬w<=16:=fun h2=>hw ⟨h1,h2⟩
     rw[Zg (by rfl) Za9]
     simp only[EQA,Xd,Xb,Zh,Zw,unG,reduceCtorEq,↓reduceIte,Za7,Za2,Zbc,Zb,h1,h2,Xw]
    ·rw[Zg (by rfl) Za9]
     simp only[EQA,Xd,Xb,Zh,Zw,reduceCtorEq,↓reduceIte,Za7,Za2,Zbc,Zb,h1,Xw]
 ·rw[ZuF h]
  obtain⟨h1,h2,h3,h8,h9,h11,h17,h18,h26,h19,h21,h22,h23,h25,h24,h28,h31,h33,h34,h35,h39,h36,h37,h40,h41,h42,h38⟩:=Zkn h
  rw[Zg (by rfl) Za9]
  simp only[EQA,Xd,Xb,reduceCtorEq,↓reduceIte,Za7,Za2,Zbc,Zb,h1,h2,h3,h8,h9,h11,h17,h18,h26,h19,h21,h22,h23,h25,h24,h28,h31,h33,h34,h35,h39,h36,h37,h40,h41,h42,h38]
theorem ZCc(σ:Za)(sq own:Nat)(id w:Int):Zl E BY σ sq 66 own true [.int .i64 id,.int .i64 w]=some (.bool (ZF id w),σ,{}) :=
 Zal (ZBJ id w) (by kernel_rfl) rfl rfl rfl (fun _=>rfl) _ _ _
end
section
def Znh:Ze:=by apply Zb 32 [] [];conv=>lhs;reduce;dsimp only[zi]
def ZnJ:Zz:=⟨[(.tmp 2),(.tmp 3)],Znh⟩
theorem Zv1:FC 32=some ZnJ:=by kernel_rfl
theorem Zvt:ZnJ.body=Znh:=rfl
theorem ZvG:ZnJ.res=[(.tmp 2),(.tmp 3)]:=rfl
def Zo7:Ze:=(.seq (.region [oM 18 3,oM 2 18] none [2]) .ret)
@[irreducible] def ZnA:Ze:=Zo7
def ZBu:=xw ZnA Zo7 (by kernel_rfl)
def Zm3:Ze:=by apply Zb 72 [1,1,0,1,0,0] [];conv=>lhs;reduce;dsimp only[zi]
@[irreducible] def ZrI:Ze:=Zm3
def Zzg:=xw ZrI Zm3 (by kernel_rfl)
def Zn9:Ze:=by apply Zb 72 [] [([1,1,0,1,0,0],ZrI),([1,1,1],ZnA)];conv=>lhs;reduce;dsimp only[zi]
def Zmj:Zz:=⟨[(.tmp 2)],Zn9⟩
theorem ZAp:FC 72=some Zmj:=by kernel_rfl
theorem ZKm:Zmj.body=Zn9:=rfl
theorem ZHj:Zmj.res=[(.tmp 2)]:=rfl
noncomputable def ZlT(m:Nat)(tm:Tms)(σ:Za):Option (AVal×Za):=(Zac m Zmj (Zaz FC PR BY m ZnA (XY (Zah 0) (evL FC PR BY m [8,7,6,3] ZrI tm σ))))
def Zja:Ze:=by apply Zb 70 [] [];conv=>lhs;reduce;dsimp only[zi]
def ZoI:Zz:=⟨[(.tmp 2),(.tmp 3),(.tmp 4)],Zja⟩
theorem Zqt:FC 70=some ZoI:=by kernel_rfl
theorem Ztb:ZoI.body=Zja:=rfl
theorem ZrU:ZoI.res=[(.tmp 2),(.tmp 3),(.tmp 4)]:=rfl
def Zj1:Ze:=by apply Zb 73 [] [];conv=>lhs;reduce;dsimp only[zi]
def ZpF:Zz:=⟨[(.tmp 2),(.tmp 3),(.tmp 4)],Zj1⟩
theorem ZuC:FC 73=some ZpF:=by kernel_rfl
theorem ZpJ:ZpF.body=Zj1:=rfl
theorem Zq2:ZpF.res=[(.tmp 2),(.tmp 3),(.tmp 4)]:=rfl
def Zjm:Ze:=by apply Zb 84 [1,1] [];conv=>lhs;reduce;dsimp only[zi]
@[irreducible] def Zs1:Ze:=Zjm
def Zpe:=xw Zs1 Zjm (by kernel_rfl)
def ZfN:Ze:=by apply Zb 84 [1,0,1,0,0] [];conv=>lhs;reduce;dsimp only[zi]
@[irreducible] def ZsO:Ze:=ZfN
def Zhd:=xw ZsO ZfN (by kernel_rfl)
def Zq0:Ze:=by apply Zb 84 [] [([1,0,1,0,0],ZsO),([1,1],Zs1)];conv=>lhs;reduce;dsimp only[zi]
def ZkN:Zz:=⟨[(.tmp 2),(.tmp 3),(.tmp 4)],Zq0⟩
theorem ZGP:FC 84=some ZkN:=by kernel_rfl
theorem ZMp:ZkN.body=Zq0:=rfl
theorem ZiF:ZkN.res=[(.tmp 2),(.tmp 3),(.tmp 4)]:=rfl
noncomputable def ZiS(m:Nat)(tm:Tms)(σ:Za):Option (AVal×Za):=(Zac m ZkN (Zaz FC PR BY m Zs1 (XY (Zah 0) (evL FC PR BY m [9,8,7,2,0] ZsO tm σ))))
def Zs9:Ze:=(.seq (.region [oM 12 0,oI 13 (.call 82 0 true [(.t 12)]),oM 2 13] none [2]) .ret)
@[irreducible] def Zrw:Ze:=Zs9
def ZK4:=xw Zrw Zs9 (by kernel_rfl)
def Zju:Ze:=by apply Zb 57 [1,0,1,0,0] [];conv=>lhs;reduce;dsimp only[zi]
@[irreducible] def ZnH:Ze:=Zju
def Zn2:=xw ZnH Zju (by kernel_rfl)
def Zq1:Ze:=by apply Zb 57 [] [([1,0,1,0,0],ZnH),([1,1],Zrw)];conv=>lhs;reduce;dsimp only[zi]
def ZlS:Zz:=⟨[(.tmp 2)],Zq1⟩
theorem ZDn:FC 57=some ZlS:=by kernel_rfl
theorem ZR3:ZlS.body=Zq1:=rfl
theorem Zzd:ZlS.res=[(.tmp 2)]:=rfl
noncomputable def ZlG(m:Nat)(tm:Tms)(σ:Za):Option (AVal×Za):=(Zac m ZlS (Zaz FC PR BY m Zrw (XY (Zah 0) (evL FC PR BY m [6,0] ZnH tm σ))))
def ZnK:Ze:=(.seq (.region [oM 16 3,oM 2 16] none [2]) .ret)
@[irreducible] def Zrh:Ze:=ZnK
def ZKg:=xw Zrh ZnK (by kernel_rfl)
def Zjl:Ze:=by apply Zb 34 [1,1,0,1,0,0] [];conv=>lhs;reduce;dsimp only[zi]
@[irreducible] def ZnS:Ze:=Zjl
def Zps:=xw ZnS Zjl (by kernel_rfl)
def Zr8:Ze:=by apply Zb 34 [] [([1,1,0,1,0,0],ZnS),([1,1,1],Zrh)];conv=>lhs;reduce;dsimp only[zi]
def Zmu:Zz:=⟨[(.tmp 2)],Zr8⟩
theorem ZOS:FC 34=some Zmu:=by kernel_rfl
theorem ZM9:Zmu.body=Zr8:=rfl
theorem ZHQ:Zmu.res=[(.tmp 2)]:=rfl
noncomputable def Zmi(m:Nat)(tm:Tms)(σ:Za):Option (AVal×Za):=(Zac m Zmu (Zaz FC PR BY m Zrh (XY (Zah 0) (evL FC PR BY m [8,7,6,3] ZnS tm σ))))
def ZrP:Ze:=(.seq (.region [oM 28 5,oM 4 28] none [4]) .ret)
@[irreducible] def Zr9:Ze:=ZrP
def ZK5:=xw Zr9 ZrP (by kernel_rfl)
def ZmY:Ze:=by apply Zb 37 [1,1,1,0,1,0,0] [];conv=>lhs;reduce;dsimp only[zi]
@[irreducible] def Zp6:Ze:=ZmY
def Zxl:=xw Zp6 ZmY (by kernel_rfl)
def Ztw:Ze:=by apply Zb 37 [] [([1,1,1,0,1,0,0],Zp6),([1,1,1,1],Zr9)];conv=>lhs;reduce;dsimp only[zi]
def ZmK:Zz:=⟨[(.tmp 4)],Ztw⟩
theorem ZQo:FC 37=some ZmK:=by kernel_rfl
theorem ZR6:ZmK.body=Ztw:=rfl
theorem ZCt:ZmK.res=[(.tmp 4)]:=rfl
noncomputable def Zme(m:Nat)(tm:Tms)(σ:Za):Option (AVal×Za):=(Zac m ZmK (Zaz FC PR BY m Zr9 (XY (Zah 0) (evL FC PR BY m [6,5,0] Zp6 tm σ))))
def ZmW:Ze:=by apply Zb 31 [] [];conv=>lhs;reduce;dsimp only[zi]
def Zsp:Zz:=⟨[(.tmp 2),(.tmp 3)],ZmW⟩
theorem ZuX:FC 31=some Zsp:=by kernel_rfl
theorem Zv2:Zsp.body=ZmW:=rfl
theorem Zu5:Zsp.res=[(.tmp 2),(.tmp 3)]:=rfl
def Zms:Ze:=by apply Zb 59 [1,1,1,1] [];conv=>lhs;reduce;dsimp only[zi]
@[irreducible] def Zot:Ze:=Zms
def ZuO:=xw Zot Zms (by kernel_rfl)
def Zin:Ze:=by apply Zb 59 [1,1,1,0,0,0] [];conv=>lhs;reduce;dsimp only[zi]
@[irreducible] def Zn5:Ze:=Zin
def Zky:=xw Zn5 Zin (by kernel_rfl)
def Zj4:Ze:=by apply Zb 59 [] [([1,1,1,0,0,0],Zn5),([1,1,1,1],Zot)];conv=>lhs;reduce;dsimp only[zi]
def Zmc:Zz:=⟨[(.tmp 2),(.tmp 3)],Zj4⟩
theorem ZDz:FC 59=some Zmc:=by kernel_rfl
theorem ZoM:Zmc.body=Zj4:=rfl
theorem Zli:Zmc.res=[(.tmp 2),(.tmp 3)]:=rfl
noncomputable def ZkW(m:Nat)(tm:Tms)(σ:Za):Option (AVal×Za):=(Zac m Zmc (Zaz FC PR BY m Zot (XY (Zah 0) (evL FC PR BY m [4,0] Zn5 tm σ))))
def Zm9:Ze:=by apply Zb 26 [] [];conv=>lhs;reduce;dsimp only[zi]
def Zny:Zz:=⟨[(.tmp 2),(.tmp 3)],Zm9⟩
theorem ZtV:FC 26=some Zny:=by kernel_rfl
theorem Zzx:Zny.body=Zm9:=rfl
theorem ZvZ:Zny.res=[(.tmp 2),(.tmp 3)]:=rfl
def Zod:Ze:=(.seq (.region [oM 19 3,oM 2 19] none [2]) .ret)
@[irreducible] def ZoF:Ze:=Zod
def ZDq:=xw ZoF Zod (by kernel_rfl)
def Zmx:Ze:=by apply Zb 64 [1,1,0,1,0,0] [];conv=>lhs;reduce;dsimp only[zi]
@[irreducible] def ZtD:Ze:=Zmx
def Zwy:=xw ZtD Zmx (by kernel_rfl)
def Zqw:Ze:=by apply Zb 64 [] [([1,1,0,1,0,0],ZtD),([1,1,1],ZoF)];conv=>lhs;reduce;dsimp only[zi]
def ZkR:Zz:=⟨[(.tmp 2)],Zqw⟩
theorem ZIg:FC 64=some ZkR:=by kernel_rfl
theorem ZAx:ZkR.body=Zqw:=rfl
theorem ZIz:ZkR.res=[(.tmp 2)]:=rfl
noncomputable def Zm7(m:Nat)(tm:Tms)(σ:Za):Option (AVal×Za):=(Zac m ZkR (Zaz FC PR BY m ZoF (XY (Zah 0) (evL FC PR BY m [4,3,0] ZtD tm σ))))
def ZjP:Ze:=by apply Zb 91 [] [];conv=>lhs;reduce;dsimp only[zi]
def ZpU:Zz:=⟨[(.tmp 2),(.tmp 3),(.tmp 4)],ZjP⟩
theorem Zry:FC 91=some ZpU:=by kernel_rfl
theorem ZsV:ZpU.body=ZjP:=rfl
theorem Zsh:ZpU.res=[(.tmp 2),(.tmp 3),(.tmp 4)]:=rfl
def Zjw:Ze:=by apply Zb 90 [] [];conv=>lhs;reduce;dsimp only[zi]
def ZpN:Zz:=⟨[(.tmp 2),(.tmp 3),(.tmp 4)],Zjw⟩
theorem ZyZ:FC 90=some ZpN:=by kernel_rfl
theorem Zpo:ZpN.body=Zjw:=rfl
theorem ZtA:ZpN.res=[(.tmp 2),(.tmp 3),(.tmp 4)]:=rfl
def ZmE:Ze:=(.seq (.region [oI 2 (.mov (.c (.int .i64 0))),oI 3 (.mov (.c (.int .i64 0))),oI 4 (.mov (.c (.int .i64 12)))] none [4,3,2]) .ret)
@[irreducible] def ZnW:Ze:=ZmE
def Zuf:=xw ZnW ZmE (by kernel_rfl)
def ZfE:Ze:=by apply Zb 65 [1,1,0,1,0,0] [];conv=>lhs;reduce;dsimp only[zi]
@[irreducible] def ZoA:Ze:=ZfE
def ZgV:=xw ZoA ZfE (by kernel_rfl)
def Zn1:Ze:=by apply Zb 65 [] [([1,1,0,1,0,0],ZoA),([1,1,1],ZnW)];conv=>lhs;reduce;dsimp only[zi]
def Zla:Zz:=⟨[(.tmp 2),(.tmp 3),(.tmp 4)],Zn1⟩
theorem ZEW:FC 65=some Zla:=by kernel_rfl
theorem ZCQ:Zla.body=Zn1:=rfl
theorem ZiM:Zla.res=[(.tmp 2),(.tmp 3),(.tmp 4)]:=rfl
noncomputable def ZfJ(m:Nat)(tm:Tms)(σ:Za):Option (AVal×Za):=(Zac m Zla (Zaz FC PR BY m ZnW (XY (Zah 0) (evL FC PR BY m [7,6,5,0] ZoA tm σ))))
def Zss:Ze:=(.seq (.region [oI 2 (.mov (.c (.bool true)))] none [2]) .ret)
@[irreducible] def Zp4:Ze:=Zss
def ZLm:=xw Zp4 Zss (by kernel_rfl)
def Zip:Ze:=by apply Zb 54 [1,0,0,0] [];conv=>lhs;reduce;dsimp only[zi]
@[irreducible] def Zpz:Ze:=Zip
def ZmD:=xw Zpz Zip (by kernel_rfl)
def ZpZ:Ze:=(.seq (.region [oI 2 (.mov (.c (.bool false)))] none [0]) (.seq (.block 0 (.loop [0] Zpz)) Zp4))
def Zlx:Zz:=⟨[(.tmp 2)],ZpZ⟩
theorem ZPg:FC 54=some Zlx:=by kernel_rfl
theorem ZJn:Zlx.body=ZpZ:=rfl
theorem ZsE:Zlx.res=[(.tmp 2)]:=rfl
noncomputable def Zjs(m:Nat)(tm:Tms)(σ:Za):Option (AVal×Za):=(Zac m Zlx (Zaz FC PR BY m Zp4 (XY (Zah 0) (evL FC PR BY m [0] Zpz tm σ))))
def Zto:Ze:=(.seq (.region [oM 29 5,oM 4 29] none [4]) .ret)
@[irreducible] def Zqz:Ze:=Zto
def ZOX:=xw Zqz Zto (by kernel_rfl)
def Zlt:Ze:=by apply Zb 30 [1,1,1,0,1,0,0] [];conv=>lhs;reduce;dsimp only[zi]
@[irreducible] def ZrM:Ze:=Zlt
def ZxQ:=xw ZrM Zlt (by kernel_rfl)
def ZpM:Ze:=by apply Zb 30 [] [([1,1,1,0,1,0,0],ZrM),([1,1,1,1],Zqz)];conv=>lhs;reduce;dsimp only[zi]
def Zkt:Zz:=⟨[(.tmp 4)],ZpM⟩
theorem ZSV:FC 30=some Zkt:=by kernel_rfl
theorem ZS1:Zkt.body=ZpM:=rfl
theorem ZPX:Zkt.res=[(.tmp 4)]:=rfl
noncomputable def Zl2(m:Nat)(tm:Tms)(σ:Za):Option (AVal×Za):=(Zac m Zkt (Zaz FC PR BY m Zqz (XY (Zah 0) (evL FC PR BY m [6,5,0] ZrM tm σ))))
def Zjb:Ze:=by apply Zb 25 [] [];conv=>lhs;reduce;dsimp only[zi]
def ZtJ:Zz:=⟨[(.tmp 2),(.tmp 3)],Zjb⟩
theorem ZpE:FC 25=some ZtJ:=by kernel_rfl
theorem Zp5:ZtJ.body=Zjb:=rfl
theorem Zqu:ZtJ.res=[(.tmp 2),(.tmp 3)]:=rfl
def ZmB:Ze:=by apply Zb 80 [1,1,1,1] [];conv=>lhs;reduce;dsimp only[zi]
@[irreducible] def Zs3:Ze:=ZmB
def Zuw:=xw Zs3 ZmB (by kernel_rfl)
def Ziz:Ze:=by apply Zb 80 [1,1,1,0,0,0] [];conv=>lhs;reduce;dsimp only[zi]
@[irreducible] def Zop:Ze:=Ziz
def Zl3:=xw Zop Ziz (by kernel_rfl)
def Zkk:Ze:=by apply Zb 80 [] [([1,1,1,0,0,0],Zop),([1,1,1,1],Zs3)];conv=>lhs;reduce;dsimp only[zi]
def ZkY:Zz:=⟨[(.tmp 2),(.tmp 3)],Zkk⟩
theorem ZOJ:FC 80=some ZkY:=by kernel_rfl
theorem ZpC:ZkY.body=Zkk:=rfl
theorem ZmM:ZkY.res=[(.tmp 2),(.tmp 3)]:=rfl
noncomputable def ZlL(m:Nat)(tm:Tms)(σ:Za):Option (AVal×Za):=(Zac m ZkY (Zaz FC PR BY m Zs3 (XY (Zah 0) (evL FC PR BY m [4,0] Zop tm σ))))
def Zg9:Ze:=by apply Zb 78 [1,1,1,1,1,1] [];conv=>lhs;reduce;dsimp only[zi]
@[irreducible] def ZpP:Ze:=Zg9
def Zks:=xw ZpP Zg9 (by kernel_rfl)
def Ze7:Ze:=by apply Zb 78 [1,1,1,1,1,0,1,0,0] [];conv=>lhs;reduce;dsimp only[zi]
@[irreducible] def ZqJ:Ze:=Ze7
def Zf3:=xw ZqJ Ze7 (by kernel_rfl)
def ZeB:Ze:=by apply Zb 78 [] [([1,1,1,1,1,0,1,0,0],ZqJ),([1,1,1,1,1,1],ZpP)];conv=>lhs;reduce;dsimp only[zi]
def ZkI:Zz:=⟨[(.tmp 2),(.tmp 3)],ZeB⟩
theorem ZF6:FC 78=some ZkI:=by kernel_rfl
theorem ZfQ:ZkI.body=ZeB:=rfl
theorem Zc3:ZkI.res=[(.tmp 2),(.tmp 3)]:=rfl
noncomputable def ZgF(m:Nat)(tm:Tms)(σ:Za):Option (AVal×Za):=(Zac m ZkI (Zaz FC PR BY m ZpP (XY (Zah 1) (evL FC PR BY m [7,6,5,4,0] ZqJ tm σ))))
end
section
def beB:Nat->Nat->Zd
 |_,0=>[]
 |n,w+1=>beB (n/256) w++[XK (n%256)]
theorem ZbJ:∀ (w n:Nat),(beB n w).length=w
 |0,_=>rfl
 |w+1,n=>by simp[beB,ZbJ w]
def ZeL(x:Nat)(b:Zd):Nat:=b.foldl (fun x c=>(x*256+c.toNat)%18446744073709551616) x
def Zbf(b:Zd):Nat:=ZeL 0 b
theorem ZcH(x:Nat)(c:UInt8)(b:Zd):ZeL x (c::b)=ZeL ((x*256+c.toNat)%18446744073709551616) b:=rfl
theorem Zds(x:Nat):ZeL x []=x:=rfl
def Zbt:Nat->Nat->Zd
 |0,n=>[XK n]
 |k+1,n=>if n<128 then [XK n]else XK (n%128+128)::Zbt k (n/128)
def Zan(n:Int):Zd×Int:=if n<0\/n>268435455 then([],10)else(Zbt 3 n.toNat,0)
def gvA(i n:Nat):Zd->Nat×Nat×Int
 | []=>if i<4 then(0,0,11)else(0,0,12)
 |c::r=>if i=4 then(0,0,12)else if c.toNat<128 then(if c=0/\0<i then(0,0,12)else(n+c.toNat%128*128^i,i+1,0))else gvA (i+1) (n+c.toNat%128*128^i) r
def ZL(b:Zd):Nat×Nat×Int:=gvA 0 0 b
def Z0(b:Zd):Zd×Int:=if b.length>65535 then([],10)else(beB b.length 2++b,0)
def Zt(b:Zd):Zd×Nat×Int :=
 if b.length<2\/b.length-2<Zbf (b.take 2)then([],0,11)else((b.drop 2).take (Zbf (b.take 2)),2+Zbf (b.take 2),0)
end
section
theorem Zuc(n:Nat):IntKind.u8.wrap (n:Int)=((XK (n%256)).toNat:Int):=by
 rw[IntKind.wrap_u8,Wk]
 omega
theorem ZwZ(k n:Nat)(xs:List AVal)(σ:Za):outA 0 (.row 0 k xs::σ) (.sl 0 0 0 n)=some (.sl 0 0 0 n,[.row 0 k xs]):=by
 simp[EQO]
theorem Zzk(m:Nat)(z:AVal)(t:List AVal):(XA (m+1) z++t)[m]?=some z:=by
 rw[List.getElem?_append_left (by simp)];simp
theorem ZzU(m:Nat)(z v:AVal)(t:List AVal):(XA (m+1) z++t).set m v=XA m z++v::t:=by
 rw[List.replicate_succ',Wa,List.set_append_right _ _ (by simp)];simp
theorem ZtM(W:Nat)(hW:W<=8):∀ (m n:Nat) (tail:Zd),m+tail.length=W->Zme 0 [(6,.int .i64 ((m:Int)-1)),(5,.sl 0 0 0 W),(0,.int .u64 (n:Nat))] [.row 0 1 (XA m (.int .u8 0)++tail.map Zc)]=some (.sl 0 0 0 W,[.row 0 1 ((beB n m++tail).map Zc)])
 |0,n,tail,h=>by
  have h1:¬(((0:Nat):Int)-1>=0):=by omega
  unfold Zme
  rw[Zr,beB]
  simp only[EQA,Xd,Xb,reduceCtorEq,↓reduceIte,ZCt,ZK5,ZrP,Zxl,ZmY,Zb,h1,ZwZ]
 |m+1,n,tail,h=>by
  have ih:=ZtM W hW m (n/256) (XK (n%256)::tail) (by simp;omega)
  have e0:((m+1:Nat):Int)-1=(m:Int):=by omega
  have h1:(m:Int)>=0:=by omega
  have h2:(0:Int)<=(m:Int):=by omega
  have h3:m<W:=by omega
  have hg:=Zzk m (.int .u8 0) (tail.map Zc)
  have hs:=ZzU m (.int .u8 0) (Zc (XK (n%256))) (tail.map Zc)
  have hb:=Zuc n
  have hw:IntKind.i64.wrap ((m:Int)-1)=(m:Int)-1:=ZQ (by omega) (by omega)
  have hd:(n:Int).fdiv (2^min (Xal 8) IntKind.u64.bits)=((n/256:Nat):Int):=by
   rw[show(2:Int)^min (Xal 8) IntKind.u64.bits=256 from rfl,Int.fdiv_eq_ediv_of_nonneg _ (by decide)]
   omega
  have e1:beB n (m+1)++tail=beB (n/256) m++(XK (n%256)::tail):=by simp[beB]
  rw[e0,e1]
  have e2:XA m (AVal.int .u8 0)++(XK (n%256)::tail).map Zc=XA m (.int .u8 0)++Zc (XK (n%256))::tail.map Zc:=rfl
  rw[e2]at ih
  generalize hX:XA (m+1) (AVal.int .u8 0)++tail.map Zc=X at *
  generalize hY:XA m (AVal.int .u8 0)++Zc (XK (n%256))::tail.map Zc=Y at *
  unfold Zc at hs
  unfold Zme at ih ⊢
  rw[Zr]
  simp only[EQA,ZB,ZX,Xd,Xe,Xb,ZbT,reduceCtorEq,↓reduceIte,gcT,gcA,gcIds,reach,rhoOf,heapOf,idxA,genB,newGen,renB,refsB,Zxl,ZmY,Zb,h1,h3,hg,hs,hb,hw,hd,Zct,X3,AVal.cells,Zao,Zs,Zgv,Zj,XaY]
  exact ih
theorem ZIW(n W:Nat)(h1:1<=W)(hW:W<=8):E 37 [.int .u64 (n:Nat),.int .i64 (W:Nat)] []=some (.sl 0 0 0 W,[.row 0 1 ((beB n W).map Zc)]):=by
 have key:=ZtM W hW W n [] (by simp)
 have c1:¬((W:Int)<1):=by omega
 have c2:¬((W:Int)>8):=by omega
 have c3:(0:Int)<=(W:Int):=by omega
 have c4:(W:Int)<=9223372036854775807:=by omega
 have c5:((1:Nat):Int)*(W:Int)<=140737488355328:=by omega
 have w1:IntKind.i64.wrap ((W:Int)-1)=(W:Int)-1:=ZQ (by omega) (by omega)
 simp only[Xo,XC]at key
 rw[Zg (by rfl) ZQo]
 unfold Zme at key
 simp only[EQA,ZR,ZB,ZX,Xd,Xe,Xb,Xg,Zh,unG,reduceCtorEq,↓reduceIte,gcT,gcA,gcIds,reach,rhoOf,heapOf,idxA,genB,newGen,renB,refsB,ZR6,Ztw,Zb,c1,c2,c3,c4,c5,w1,W0,X3]
 exact key
theorem ZmU(σ:Za)(sq own:Nat)(n W:Nat)(h1:1<=W)(hW:W<=8):Zl E BY σ sq 37 own true [.int .u64 (n:Nat),.int .i64 (W:Nat)]=some (.lst false ((beB n W).map Zc),σ,{}) :=
 ZiZ (bf:=BY) (ZIW n W h1 hW) (by simp[ZbJ]) rfl rfl σ sq own
theorem ZwY(W:Nat)(hW:W<=8):∀ (m n:Nat) (tail:Zd),n<18446744073709551616->m+tail.length=W->Zl2 0 [(6,.int .i64 ((m:Int)-1)),(5,.sl 0 0 0 W),(0,.int .u64 (n:Nat))] [.row 0 1 (XA m (.int .u8 0)++tail.map Zc)]=some (.sl 0 0 0 W,[.row 0 1 ((beB n m++tail).map Zc)])
 |0,n,tail,_,h=>by
  have h1:¬(((0:Nat):Int)-1>=0):=by omega
  unfold Zl2
  rw[Zr,beB]
  simp only[EQA,Xd,Xb,reduceCtorEq,↓reduceIte,ZPX,ZOX,Zto,ZxQ,Zlt,Zb,h1,ZwZ]
 |m+1,n,tail,hn,h=>by
  have ih:=ZwY W hW m (n/256) (XK (n%256)::tail) (by omega) (by simp;omega)
  have e0:((m+1:Nat):Int)-1=(m:Int):=by omega
  have h1:(m:Int)>=0:=by omega
  have h2:(0:Int)<=(m:Int):=by omega
  have h3:m<W:=by omega
  have hg:=Zzk m (.int .u8 0) (tail.map Zc)
  have hs:=ZzU m (.int .u8 0) (Zc (XK (n%256))) (tail.map Zc)
  have hm:(n:Int).tmod 256=((n%256:Nat):Int):=by rw[Xaf (by omega)];omega
  have hb:IntKind.u8.wrap ((n%256:Nat):Int)=((XK (n%256)).toNat:Int):=by rw[Zuc];simp
  have hw:IntKind.i64.wrap ((m:Int)-1)=(m:Int)-1:=ZQ (by omega) (by omega)
  have hz:((256:Int)=0)=False:=by simp
  have hd:IntKind.u64.wrap ((n:Int).tdiv 256)=((n/256:Nat):Int):=by
   rw[Int.tdiv_eq_ediv_of_nonneg (by omega),IntKind.wrap_u64]
   omega
  have e1:beB n (m+1)++tail=beB (n/256) m++(XK (n%256)::tail):=by simp[beB]
  rw[e0,e1]
  have e2:XA m (AVal.int .u8 0)++(XK (n%256)::tail).map Zc=XA m (.int .u8 0)++Zc (XK (n%256))::tail.map Zc:=rfl
  rw[e2]at ih
  generalize hX:XA (m+1) (AVal.int .u8 0)++tail.map Zc=X at *
  generalize hY:XA m (AVal.int .u8 0)++Zc (XK (n%256))::tail.map Zc=Y at *
  unfold Zc at hs
  unfold Zl2 at ih ⊢
  rw[Zr]
  simp only[EQA,ZB,ZX,Xd,Xe,Xb,reduceCtorEq,↓reduceIte,gcT,gcA,gcIds,reach,rhoOf,heapOf,idxA,genB,newGen,renB,refsB,ZxQ,Zlt,Zb,h1,h3,hg,hs,hm,hb,hw,hz,hd,Zct,X3,AVal.cells,Zao,Zs,Zgv,Zj]
  exact ih
theorem Zym(n W:Nat)(hn:n<18446744073709551616)(h1:1<=W)(hW:W<=8):E 30 [.int .u64 (n:Nat),.int .i64 (W:Nat)] []=some (.sl 0 0 0 W,[.row 0 1 ((beB n W).map Zc)]):=by
 have key:=ZwY W hW W n [] hn (by simp)
 have c1:¬((W:Int)<1):=by omega
 have c2:¬((W:Int)>8):=by omega
 have c3:(0:Int)<=(W:Int):=by omega
 have c4:(W:Int)<=9223372036854775807:=by omega
 have c5:((1:Nat):Int)*(W:Int)<=140737488355328:=by omega
 have w1:IntKind.i64.wrap ((W:Int)-1)=(W:Int)-1:=ZQ (by omega) (by omega)
 simp only[Xo,XC]at key
 rw[Zg (by rfl) ZSV]
 unfold Zl2 at key
 simp only[EQA,ZR,ZB,ZX,Xd,Xe,Xb,Xg,Zh,unG,reduceCtorEq,↓reduceIte,gcT,gcA,gcIds,reach,rhoOf,heapOf,idxA,genB,newGen,renB,refsB,ZS1,ZpM,Zb,c1,c2,c3,c4,c5,w1,W0,X3]
 exact key
theorem Zh6(σ:Za)(sq own:Nat)(n W:Nat)(hn:n<18446744073709551616)(h1:1<=W)(hW:W<=8):Zl E BY σ sq 30 own true [.int .u64 (n:Nat),.int .i64 (W:Nat)]=some (.lst false ((beB n W).map Zc),σ,{}) :=
 ZiZ (bf:=BY) (Zym n W hn h1 hW) (by simp[ZbJ]) rfl rfl σ sq own
theorem ZOy(x c:Nat)(hc:c<256):IntKind.u64.wrap (((XJ IntKind.u64.bits (IntKind.u64.wrap ((x:Int)*2^min (Xal 8) IntKind.u64.bits)) |||XJ IntKind.u64.bits (c:Int)).toNat:Nat):Int)=(((x*256+c)%18446744073709551616:Nat):Int):=by
 rw[show(2:Int)^min (Xal 8) IntKind.u64.bits=256 from rfl]
 have hb:IntKind.u64.bits=64:=rfl
 rw[hb,IntKind.wrap_u64,IntKind.wrap_u64]
 have e1:(x:Int)*256%18446744073709551616=((x*256%18446744073709551616:Nat):Int):=by omega
 rw[e1,BitVec.toNat_or]
 simp only[Xa4,Xba]
 have e2:x*256%18446744073709551616%2^64=(x%72057594037927936)<<<8:=by
  rw[Xbm];omega
 have e3:c%2^64=c:=by omega
 rw[e2,e3,<-Nat.shiftLeft_add_eq_or_of_lt (by omega:c<2^8),Xbm]
 omega
theorem Zzm(b:Zd)(hl:b.length<=9223372036854775807):∀ (r:Zd) (i x:Nat),b.drop i=r->ZlT 0 [(8,.int .i64 i),(7,.int .i64 b.length),(6,.lst false (b.map Zc)),(3,.int .u64 (x:Nat))] []=some (.int .u64 (ZeL x r:Nat),[])
 | [],i,x,h=>by
  have h1:=ZcG h
  unfold ZlT
  rw[Zr,Zds]
  simp only[EQA,Xd,Xb,↓reduceIte,ZHj,ZBu,Zo7,Zzg,Zm3,Zb,h1]
 |c::r,i,x,h=>by
  have ih:=Zzm b hl r (i+1) ((x*256+c.toNat)%18446744073709551616) (ZP h).2.1
  have h1:(i:Int)<b.length:=by have:=(ZP h).2.2;omega
  have e1:=iad (ZP h).1 Zc (k:=1) rfl
  have e3:=Zcp h1 hl
  have ho:=ZOy x c.toNat c.toNat_lt
  have hc:IntKind.u64.wrap (c.toNat:Int)=(c.toNat:Int):=by rw[IntKind.wrap_u64];have:=c.toNat_lt;omega
  unfold ZlT at ih ⊢
  rw[Zr,ZcH]
  simp only[EQA,ZB,Xd,Xb,ZbT,↓reduceIte,gcT,gcA,gcIds,reach,heapOf,refsB,Zzg,Zm3,Zb,h1,e1,e3,ho,hc,Zc,AVal.cells,XaY]
  exact ih
theorem ZzF(b:Zd)(hl:b.length<=9223372036854775807):E 72 [Zf b] []=some (.int .u64 (Zbf b:Nat),[]):=by
 have key:=Zzm b hl b 0 0 rfl
 have z0:((0:Nat):Int)=0:=rfl
 rw[z0]at key
 unfold ZlT at key
 unfold Zbf
 rw[Zg (by rfl) ZAp]
 simp only[EQA,ZB,Xd,Xb,reduceCtorEq,↓reduceIte,gcT,gcA,gcIds,reach,heapOf,refsB,ZKm,Zn9,Zb,Zf]
 exact key
theorem ZmG(σ:Za)(sq own:Nat)(b:Zd)(hl:b.length<=9223372036854775807)(f:Bool):Zl E BY σ sq 72 own true [.lst f (b.map Zc)]=some (.int .u64 (Zbf b:Nat),σ,{}) :=
 Zal (ZzF b hl) (by kernel_rfl) rfl rfl rfl (fun _=>rfl) _ _ _
theorem Zvg(b:Zd)(hl:b.length<=9223372036854775807):∀ (r:Zd) (i x:Nat),b.drop i=r->Zm7 0 [(4,.int .i64 i),(3,.int .u64 (x:Nat)),(0,.lst false (b.map Zc))] []=some (.int .u64 (ZeL x r:Nat),[])
 | [],i,x,h=>by
  have h1:=ZcG h
  unfold Zm7
  rw[Zr,Zds]
  simp only[EQA,Xd,Xb,reduceCtorEq,↓reduceIte,ZIz,ZDq,Zod,Zwy,Zmx,Zb,h1]
 |c::r,i,x,h=>by
  have ih:=Zvg b hl r (i+1) ((x*256+c.toNat)%18446744073709551616) (ZP h).2.1
  have h1:(i:Int)<b.length:=by have:=(ZP h).2.2;omega
  have e1:=iad (ZP h).1 Zc (k:=1) rfl
  have e3:=Zcp h1 hl
  have ho:IntKind.u64.wrap (IntKind.u64.wrap ((x:Int)*256)+(c.toNat:Int))=(((x*256+c.toNat)%18446744073709551616:Nat):Int):=by
   rw[IntKind.wrap_u64,IntKind.wrap_u64]
   have:=c.toNat_lt
   omega
  have hc:IntKind.u64.wrap (c.toNat:Int)=(c.toNat:Int):=by rw[IntKind.wrap_u64];have:=c.toNat_lt;omega
  unfold Zm7 at ih ⊢
  rw[Zr,ZcH]
  simp only[EQA,ZB,Xd,Xb,reduceCtorEq,↓reduceIte,gcT,gcA,gcIds,reach,heapOf,refsB,Zwy,Zmx,Zb,h1,e1,e3,ho,hc,Zc,AVal.cells]
  exact ih
theorem ZSR(b:Zd)(hl:b.length<=9223372036854775807):E 64 [Zf b] []=some (.int .u64 (Zbf b:Nat),[]):=by
 have key:=Zvg b hl b 0 0 rfl
 have z0:((0:Nat):Int)=0:=rfl
 rw[z0]at key
 unfold Zm7 at key
 unfold Zbf
 rw[Zg (by rfl) ZIg]
 simp only[EQA,ZB,Xd,Xb,reduceCtorEq,↓reduceIte,gcT,gcA,gcIds,reach,heapOf,refsB,ZAx,Zqw,Zb,Zf]
 exact key
theorem ZmP(σ:Za)(sq own:Nat)(b:Zd)(hl:b.length<=9223372036854775807)(f:Bool):Zl E BY σ sq 64 own true [.lst f (b.map Zc)]=some (.int .u64 (Zbf b:Nat),σ,{}) :=
 Zal (ZSR b hl) (by kernel_rfl) rfl rfl rfl (fun _=>rfl) _ _ _
end
section
theorem ZzM(ls:List Zd)(hl:ls.length<=9223372036854775807):∀ (r:List Zd) (i:Nat) (acc full:Zd),ls.drop i=r->full=acc++r.flatten->full.length<=140737488355328 ->
  Zmi 0 [(8,.int .i64 i),(7,.int .i64 ls.length),(6,.lst false (ls.map Zf)),(3,.sl 0 0 0 acc.length)] [.row 0 1 (acc.map Zc)]=some (.sl 0 0 0 full.length,[.row 0 1 (full.map Zc)])
 | [],i,acc,full,h,hf,hn=>by
  have h1:=ZcG h
  have e:full=acc:=by simpa using hf
  subst e
  unfold Zmi
  rw[Zr]
  simp only[EQA,Xd,Xb,↓reduceIte,ZHQ,ZKg,ZnK,Zps,Zjl,Zb,h1,ZlY]
 |p::r,i,acc,full,h,hf,hn=>by
  have ih:=ZzM ls hl r (i+1) (acc++p) full (ZP h).2.1 (by rw[hf];simp) hn
  have h1:(i:Int)<ls.length:=by have:=(ZP h).2.2;omega
  have e1:=iad (ZP h).1 Zf (k:=1) rfl
  have e3:=Zcp h1 hl
  have k1:=Zbe p
  have k2:(acc.length+p.length)*1<=140737488355328:=by have:=congrArg List.length hf;simp at this;omega
  have e4:(acc++p).map Zc=acc.map Zc++p.map Zc:=by simp
  have e5:(acc++p).length=acc.length+p.length:=by simp
  rw[e4,e5]at ih
  clear hf
  unfold Zmi at ih ⊢
  rw[Zr]
  unfold Zf at e1 ih ⊢
  simp only[EQA,ZB,ZX,Xf,Xd,Xe,Xb,Xg,reduceCtorEq,Zq,↓reduceIte,gcT,gcA,gcIds,reach,rhoOf,heapOf,idxA,genB,newGen,renB,refsB,Zps,Zjl,Zb,h1,e1,e3,k1,k2,ZI,AVal.cells]
  exact ih
theorem ZpT(p:Zd)(ls:List Zd)(hl:(p::ls).length<=9223372036854775807)(hn:(p::ls).flatten.length<=140737488355328):E 34 [.lst false ((p::ls).map Zf)] []=some (.sl 0 0 0 (p::ls).flatten.length,[.row 0 1 ((p::ls).flatten.map Zc)]):=by
 have key:=ZzM (p::ls) hl ls 1 p (p::ls).flatten rfl rfl hn
 have k1:=Zbe p
 have k2:p.length*1<=140737488355328:=by simp at hn;omega
 have h1:(0:Int)<((p::ls).length:Int):=by simp
 have hat:(p::ls)[0]?=some p:=rfl
 have e1:=iad hat Zf (k:=1) rfl
 have z0:((0:Nat):Int)=0:=rfl
 have z1:((1:Nat):Int)=1:=rfl
 have w1:IntKind.i64.wrap (0+1)=1:=rfl
 rw[z0]at e1
 rw[z1]at key
 unfold Zmi at key
 generalize hL:p::ls=L at *
 rw[Zg (by rfl) ZOS]
 unfold Zf at e1 key ⊢
 simp only[EQA,ZB,Xd,Xb,reduceCtorEq,↓reduceIte,gcT,gcA,gcIds,reach,heapOf,refsB,ZM9,Zr8,Zb]
 rw[Zr]
 simp only[EQA,ZB,ZX,Xd,Xe,Xb,Xg,Zq,↓reduceIte,gcT,gcA,gcIds,reach,rhoOf,heapOf,idxA,genB,newGen,renB,refsB,Zps,Zjl,Zb,h1,e1,w1,k1,k2,ZI,AVal.cells]
 exact key
theorem Zk9(σ:Za)(sq own:Nat)(f:Bool)(p:Zd)(ls:List Zd)(hl:(p::ls).length<=9223372036854775807)(hn:(p::ls).flatten.length<=140737488355328):Zl E BY σ sq 34 own true [.lst f ((p::ls).map Zf)]=some (.lst false ((p::ls).flatten.map Zc),σ,{}):=by
 have h:=ZiZ (bf:=BY) (ZpT p ls hl hn) (by rw[XL]) rfl rfl σ sq own
 cases f
 ·exact h
 ·rw[ZbK (by kernel_rfl) rfl]at h⊢
  exact h
theorem ZI6:∀ n:Fin 256,IntKind.u8.wrap (((XJ IntKind.u8.bits ((n.val:Nat):Int) |||XJ IntKind.u8.bits 128).toNat:Nat):Int)=((n.val%128+128:Nat):Int):=by decide +kernel
theorem ZA0(n:Nat):IntKind.u8.wrap (((XJ IntKind.u8.bits (IntKind.u8.wrap (n:Int)) |||XJ IntKind.u8.bits 128).toNat:Nat):Int)=((XK (n%128+128)).toNat:Int):=by
 have h:=ZI6 ⟨n%256,Xbf _ (by decide)⟩
 have e:IntKind.u8.wrap (n:Int)=((n%256:Nat):Int):=by rw[IntKind.wrap_u8];omega
 rw[e,h,Wk]
 simp only
 omega
theorem ZwL:∀ (k n:Nat) (acc full:Zd),n<128^(k+1)->acc.length+k<=3->full=acc++Zbt k n ->
  ZkW 0 [(4,ZaX (acc.map Zc)),(0,.int .i64 (n:Nat))] (ZaS 1 (acc.map Zc))=some (.tup [.sl 0 0 0 full.length,.int .i64 0],[.row 0 1 (full.map Zc)])
 |k,n,acc,full,hk,hacc,hf=>by
  by_cases hn:n<128
  ·have h1:¬((n:Int)>127):=by omega
   have hv:Zbt k n=[XK n]:=by cases k<;>simp[Zbt,hn]
   rw[hv]at hf
   have hb:IntKind.u8.wrap (n:Int)=((XK n).toNat:Int):=by rw[IntKind.wrap_u8,Wk];omega
   subst hf
   unfold ZkW
   rw[Zr]
   cases acc with
   |nil =>
    simp only[EQA,Xd,Xe,Xb,Xg,reduceCtorEq,Zq,↓reduceIte,Zli,ZuO,Zms,Zky,Zin,Zb,h1,hb,ZaZ,ZaF,ZI,kOk,viewAs,Zv,Zs,Zj,Wv,AVal.cells]
    simp[EQO]
    rfl
   |cons a acc =>
    have hz:(acc.length+1+1)*1<=140737488355328:=by simp at hacc;omega
    simp only[EQA,Xf,Xd,Xb,Xg,reduceCtorEq,Zq,↓reduceIte,Zli,ZuO,Zms,Zky,Zin,Zb,h1,hb,Zbi,Za0,ZI,kOk,viewAs,Zv,Zs,Zj,AVal.cells,hz]
    simp[EQO]
    rfl
  ·cases k with
   |zero=>simp at hk;omega
   |succ k =>
    have hlt:n/128<128^(k+1):=by
     rw[Nat.div_lt_iff_lt_mul (by decide)]
     rw[Xbb]at hk;exact hk
    have hv:Zbt (k+1) n=XK (n%128+128)::Zbt k (n/128):=by simp[Zbt,hn]
    have ih:=ZwL k (n/128) (acc++[XK (n%128+128)]) full hlt (by simp;omega) (by rw[hf,hv];simp)
    clear hf
    have h1:((n:Int)>127):=by omega
    have ho:=ZA0 n
    have hd:(n:Int).fdiv (2^min (Xal 7) IntKind.i64.bits)=((n/128:Nat):Int):=by
     rw[show(2:Int)^min (Xal 7) IntKind.i64.bits=128 from rfl,Int.fdiv_eq_ediv_of_nonneg _ (by decide)]
     omega
    unfold ZkW at ih ⊢
    rw[Zr]
    cases acc with
    |nil =>
     simp only[EQA,ZB,ZX,Xd,Xe,Xb,Xg,ZbT,reduceCtorEq,Zq,↓reduceIte,gcT,gcA,gcIds,reach,rhoOf,heapOf,idxA,genB,newGen,renB,refsB,Zky,Zin,Zb,h1,ho,hd,ZaZ,ZaF,ZI,kOk,viewAs,Zv,Zs,Zj,Wv,AVal.cells,XaY]
     simp only[Xn,Xo,XU,Zbi,Za0,Xm,Xu,Xv,Zc]at ih
     exact ih
    |cons a acc =>
     have hz:(acc.length+1+1)*1<=140737488355328:=by simp at hacc;omega
     simp only[EQA,ZB,ZX,Xf,Xd,Xe,Xb,Xg,ZbT,reduceCtorEq,Zq,↓reduceIte,gcT,gcA,gcIds,reach,rhoOf,heapOf,idxA,genB,newGen,renB,refsB,Zky,Zin,Zb,h1,ho,hd,Zbi,Za0,ZI,kOk,viewAs,Zv,Zs,Zj,AVal.cells,hz,XaY]
     simp only[XH,Xn,Xo,Wm,Zbi,Za0,Xk,Xm,XL,Xu,Xv,Wf,Xf,Zc]at ih
     exact ih
theorem ZzW:∀ (k n:Nat) (acc full:Zd),n<128^(k+1)->acc.length+k<=3->full=acc++Zbt k n ->
  ZlL 0 [(4,ZaX (acc.map Zc)),(0,.int .i64 (n:Nat))] (ZaS 1 (acc.map Zc))=some (.tup [.sl 0 0 0 full.length,.int .i64 0],[.row 0 1 (full.map Zc)])
 |k,n,acc,full,hk,hacc,hf=>by
  by_cases hn:n<128
  ·have h1:¬((n:Int)>=128):=by omega
   have hv:Zbt k n=[XK n]:=by cases k<;>simp[Zbt,hn]
   rw[hv]at hf
   have hb:IntKind.u8.wrap (n:Int)=((XK n).toNat:Int):=by rw[IntKind.wrap_u8,Wk];omega
   subst hf
   unfold ZlL
   rw[Zr]
   cases acc with
   |nil =>
    simp only[EQA,Xd,Xe,Xb,Xg,reduceCtorEq,Zq,↓reduceIte,ZmM,Zuw,ZmB,Zl3,Ziz,Zb,h1,hb,ZaZ,ZaF,ZI,kOk,viewAs,Zv,Zs,Zj,Wv,AVal.cells]
    simp[EQO]
    rfl
   |cons a acc =>
    have hz:(acc.length+1+1)*1<=140737488355328:=by simp at hacc;omega
    simp only[EQA,Xf,Xd,Xb,Xg,reduceCtorEq,Zq,↓reduceIte,ZmM,Zuw,ZmB,Zl3,Ziz,Zb,h1,hb,Zbi,Za0,ZI,kOk,viewAs,Zv,Zs,Zj,AVal.cells,hz]
    simp[EQO]
    rfl
  ·cases k with
   |zero=>simp at hk;omega
   |succ k =>
    have hlt:n/128<128^(k+1):=by
     rw[Nat.div_lt_iff_lt_mul (by decide)]
     rw[Xbb]at hk;exact hk
    have hv:Zbt (k+1) n=XK (n%128+128)::Zbt k (n/128):=by simp[Zbt,hn]
    have ih:=ZzW k (n/128) (acc++[XK (n%128+128)]) full hlt (by simp;omega) (by rw[hf,hv];simp)
    clear hf
    have h1:((n:Int)>=128):=by omega
    have hz0:((128:Int)=0)=False:=by simp
    have hm:(n:Int).tmod 128=((n%128:Nat):Int):=by rw[Xaf (by omega)];omega
    have hw:IntKind.i64.wrap (((n%128:Nat):Int)+128)=((n%128+128:Nat):Int):=by rw[ZQ (by omega) (by omega)];omega
    have ho:IntKind.u8.wrap ((n%128+128:Nat):Int)=((XK (n%128+128)).toNat:Int):=by rw[IntKind.wrap_u8,Wk];omega
    have hd:IntKind.i64.wrap ((n:Int).tdiv 128)=((n/128:Nat):Int):=by
     have hn2:n<128^4:=Nat.lt_of_lt_of_le hk (WY (by decide) (by omega))
     rw[Int.tdiv_eq_ediv_of_nonneg (by omega),ZQ (by omega) (by omega)]
     omega
    unfold ZlL at ih ⊢
    rw[Zr]
    cases acc with
    |nil =>
     simp only[EQA,ZB,ZX,Xd,Xe,Xb,Xg,reduceCtorEq,Zq,↓reduceIte,gcT,gcA,gcIds,reach,rhoOf,heapOf,idxA,genB,newGen,renB,refsB,Zl3,Ziz,Zb,h1,hz0,hm,hw,ho,hd,ZaZ,ZaF,ZI,kOk,viewAs,Zv,Zs,Zj,Wv,AVal.cells]
     simp only[Xn,Xo,XU,Zbi,Za0,Xm,Xu,Xv,Zc]at ih
     exact ih
    |cons a acc =>
     have hz:(acc.length+1+1)*1<=140737488355328:=by simp at hacc;omega
     simp only[EQA,ZB,ZX,Xf,Xd,Xe,Xb,Xg,reduceCtorEq,Zq,↓reduceIte,gcT,gcA,gcIds,reach,rhoOf,heapOf,idxA,genB,newGen,renB,refsB,Zl3,Ziz,Zb,h1,hz0,hm,hw,ho,hd,Zbi,Za0,ZI,kOk,viewAs,Zv,Zs,Zj,AVal.cells,hz]
     simp only[XH,Xn,Xo,Wm,Zbi,Za0,Xk,Xm,XL,Xu,Xv,Wf,Xf,Zc]at ih
     exact ih
theorem ZA6(n:Int):E 59 [.int .i64 n] []=some (if n<0\/n>268435455 then(.tup [.lst true [],.int .i64 10],[])else(.tup [.sl 0 0 0 (Zbt 3 n.toNat).length,.int .i64 0],[.row 0 1 ((Zbt 3 n.toNat).map Zc)])):=by
 rw[Zg (by rfl) ZDz]
 by_cases h0:n<0
 ·have : n<0\/n>268435455:=Xp h0
  simp only[EQA,Zk,Xd,Xb,Zh,Zw,reduceCtorEq,↓reduceIte,Zm,ZoM,Zj4,Zli,Zb,h0]
 ·by_cases h2:n>268435455
  ·have : n<0\/n>268435455:=Xt h2
   simp only[EQA,Zk,Xd,Xb,Zh,unG,reduceCtorEq,↓reduceIte,Zm,ZoM,Zj4,Zli,Zb,h0,h2]
  ·have : ¬(n<0\/n>268435455):=by omega
   have key:=ZwL 3 n.toNat [] (Zbt 3 n.toNat) (by omega) (by simp) rfl
   have e:((n.toNat:Nat):Int)=n:=by omega
   rw[e]at key
   simp only[Xo,ZaZ,ZaF]at key
   unfold ZkW at key
   generalize Zbt 3 n.toNat=V at *
   simp only[EQA,ZB,Xd,Xb,Zh,unG,reduceCtorEq,↓reduceIte,gcT,gcA,gcIds,reach,heapOf,refsB,ZoM,Zj4,Zb,h0,h2]
   exact key
def Zen(n:Int):AVal:=.tup [.lst false ((Zan n).1.map Zc),.int .i64 (Zan n).2]
theorem ZsS{O:ZJ}{bf:Nat->Bool}{f:Nat}{args args':List AVal}{k n:Nat}{xs:List AVal}{c:Int}(h:O f args' []=some (.tup [.sl 0 0 0 n,.int .i64 c],[.row 0 k xs]))(hl:xs.length=n)(hb:bf f=false)(hp:args.all Z2=true)(hn:args.map ZM=args')(σ:Za)(sq own:Nat):Zl O bf σ sq f own true args=some (.tup [.lst false xs,.int .i64 c],σ,{}):=by
 subst hl
 rw[ZbK hb hp,hn,h]
 simp[EQO,ZO,ZaI,viewR,viewAs,Zv,Zs,Zq,Zj,Z8,ZaQ,Zas,Z5]
theorem Zkf(σ:Za)(sq own:Nat)(n:Int):Zl E BY σ sq 59 own true [.int .i64 n]=some (Zen n,σ,{}):=by
 have h:=ZA6 n
 unfold Zen Zan
 by_cases hc:n<0\/n>268435455
 ·rw[if_pos hc]at h⊢
  exact Zal h (by kernel_rfl) rfl rfl rfl (fun _=>rfl) _ _ _
 ·rw[if_neg hc]at h⊢
  exact ZsS h (by rw[XL]) (by kernel_rfl) rfl rfl _ _ _
theorem ZBn(n:Int):E 80 [.int .i64 n] []=some (if n<0\/n>268435455 then(.tup [.lst true [],.int .i64 10],[])else(.tup [.sl 0 0 0 (Zbt 3 n.toNat).length,.int .i64 0],[.row 0 1 ((Zbt 3 n.toNat).map Zc)])):=by
 rw[Zg (by rfl) ZOJ]
 by_cases h0:n<0
 ·have : n<0\/n>268435455:=Xp h0
  simp only[EQA,Zk,Xd,Xb,Zh,Zw,reduceCtorEq,↓reduceIte,Zm,ZpC,Zkk,ZmM,Zb,h0]
 ·by_cases h2:n>268435455
  ·have : n<0\/n>268435455:=Xt h2
   simp only[EQA,Zk,Xd,Xb,Zh,unG,reduceCtorEq,↓reduceIte,Zm,ZpC,Zkk,ZmM,Zb,h0,h2]
  ·have : ¬(n<0\/n>268435455):=by omega
   have key:=ZzW 3 n.toNat [] (Zbt 3 n.toNat) (by omega) (by simp) rfl
   have e:((n.toNat:Nat):Int)=n:=by omega
   rw[e]at key
   simp only[Xo,ZaZ,ZaF]at key
   unfold ZlL at key
   generalize Zbt 3 n.toNat=V at *
   simp only[EQA,ZB,Xd,Xb,Zh,unG,reduceCtorEq,↓reduceIte,gcT,gcA,gcIds,reach,heapOf,refsB,ZpC,Zkk,Zb,h0,h2]
   exact key
theorem Zqp(σ:Za)(sq own:Nat)(n:Int):Zl E BY σ sq 80 own true [.int .i64 n]=some (Zen n,σ,{}):=by
 have h:=ZBn n
 unfold Zen Zan
 by_cases hc:n<0\/n>268435455
 ·rw[if_pos hc]at h⊢
  exact Zal h (by kernel_rfl) rfl rfl rfl (fun _=>rfl) _ _ _
 ·rw[if_neg hc]at h⊢
  exact ZsS h (by rw[XL]) (by kernel_rfl) rfl rfl _ _ _
end
section
def gvT(x:Nat×Nat×Int):AVal:=.tup [.int .i64 (x.1:Nat),.int .i64 (x.2.1:Nat),.int .i64 x.2.2]
theorem ZAf:∀ n:Fin 256,IntKind.u8.wrap (((XJ IntKind.u8.bits ((n.val:Nat):Int)&&&XJ IntKind.u8.bits 127).toNat:Nat):Int)=((n.val%128:Nat):Int):=by decide +kernel
theorem ZHz(c:UInt8):IntKind.u8.wrap (((XJ IntKind.u8.bits (c.toNat:Int)&&&XJ IntKind.u8.bits 127).toNat:Nat):Int)=((c.toNat%128:Nat):Int):=ZAf ⟨c.toNat,c.toNat_lt⟩
theorem ZqT(i:Nat):128^i=2^(7*i):=by rw[Nat.pow_mul]
theorem ZAP(n a i:Nat)(hi:i<=3)(hn:n<128^i)(ha:a<128):IntKind.i64.wrap (((XJ IntKind.i64.bits (n:Int) |||XJ IntKind.i64.bits ((a*128^i:Nat):Int)).toNat:Nat):Int)=((n+a*128^i:Nat):Int):=by
 have hb:IntKind.i64.bits=64:=rfl
 have hp:128^i<=128^3:=WY (by decide) hi
 have hm:a*128^i<=127*128^3:=Xbt (by omega) hp
 rw[hb,BitVec.toNat_or]
 simp only[Xa4,Xba]
 have e1:n%2^64=n:=Xa1 (by omega)
 have e2:a*128^i%2^64=a*128^i:=Xa1 (by omega)
 rw[e1,e2]
 have e3:a*128^i=a<<<(7*i):=by rw[Xbm,ZqT]
 have e4:n |||a*128^i=n+a*128^i:=by
  rw[e3,Nat.or_comm,<-Nat.shiftLeft_add_eq_or_of_lt (by rw[<-ZqT];exact hn)]
  omega
 rw[e4,ZQ (by omega) (by omega)]
theorem ZNm(a i:Nat)(hi:i<=3)(ha:a<128):IntKind.i64.wrap ((a:Int)*2^min (Xal ((7*i:Nat):Int)) IntKind.i64.bits)=((a*128^i:Nat):Int):=by
 have hp:128^i<=128^3:=WY (by decide) hi
 have hm:a*128^i<=127*128^3:=Xbt (by omega) hp
 have e:min (Xal ((7*i:Nat):Int)) IntKind.i64.bits=7*i:=by
  have hb:IntKind.i64.bits=64:=rfl
  rw[hb];omega
 have e2:((a:Int)*2^(7*i))=((a*128^i:Nat):Int):=by rw[ZqT];simp
 rw[e,e2,ZQ (by omega) (by omega)]
theorem ZqV(n i a:Nat)(hn:n<128^i)(ha:a<128):n+a*128^i<128^(i+1):=by
 have : a*128^i<=127*128^i:=Nat.mul_le_mul_right _ (by omega)
 rw[Xbb];omega
theorem Zup(b:Zd)(hl:b.length<=9223372036854775807):∀ (r:Zd) (i n:Nat),i<=4->i<=b.length->n<128^i->b.drop i=r ->
  ZiS 0 [(9,.int .i64 i),(8,.int .i64 b.length),(7,.lst false (b.map Zc)),(2,.int .i64 n),(0,.lst false (b.map Zc))] []=some (gvT (gvA i n r),[])
 | [],i,n,hi,hib,hn,h=>by
  have h1:=ZcG h
  unfold ZiS
  rw[Zr,gvA]
  by_cases h4:i<4
  ·have h5:(b.length:Int)<4:=by omega
   simp only[EQA,Zk,Xd,Xb,reduceCtorEq,↓reduceIte,Zm,ZiF,Zpe,Zjm,Zhd,ZfN,Zb,h1,h4,h5,gvT]
   rfl
  ·have h5:¬(b.length:Int)<4:=by omega
   simp only[EQA,Zk,Xd,Xb,reduceCtorEq,↓reduceIte,Zm,ZiF,Zpe,Zjm,Zhd,ZfN,Zb,h1,h4,h5,gvT]
   rfl
 |c::r,i,n,hi,hib,hn,h=>by
  have hlt:=(ZP h).2.2
  have h1:(i:Int)<b.length:=by omega
  have e1:=iad (ZP h).1 Zc (k:=1) rfl
  have e3:=Zcp h1 hl
  rw[gvA]
  by_cases h4:i=4
  ·have h5:¬(b.length:Int)<4:=by omega
   have h6:((i:Int)==4)=true:=by simp;omega
   rw[if_pos h4]
   unfold ZiS
   rw[Zr]
   simp only[EQA,Zk,Xd,Xb,reduceCtorEq,↓reduceIte,Zm,ZiF,Zpe,Zjm,Zhd,ZfN,Zb,h1,e1,h5,h6,gvT,Zc,AVal.cells]
   rfl
  ·have h6:((i:Int)==4)=false:=by simp;omega
   have hm:=ZHz c
   have ha:c.toNat%128<128:=Xbf _ (by decide)
   have hi64:IntKind.i64.wrap ((c.toNat%128:Nat):Int)=((c.toNat%128:Nat):Int):=ZQ (by omega) (by omega)
   have h7:IntKind.i64.wrap (7*(i:Int))=((7*i:Nat):Int):=by rw[ZQ (by omega) (by omega)];omega
   have hneg:¬((7*i:Nat):Int)<0:=by omega
   have hs:=ZNm (c.toNat%128) i (by omega) ha
   have ho:=ZAP n (c.toNat%128) i (by omega) hn ha
   by_cases hc:c.toNat<128
   ·have hc':(c.toNat:Int)<128:=by omega
    unfold ZiS
    rw[Zr]
    by_cases hc0:c=0
    ·have hc1:((c.toNat:Int)==0)=true:=by rw[hc0];rfl
     by_cases hip:0<i
     ·have hip':(i:Int)>0:=by omega
      have hcc:c=0/\0<i:=⟨hc0,hip⟩
      simp only[EQA,Zk,Zcq,ZB,Zfw,Zgc,Xd,Xb,ZbT,Zh,Zw,unG,reduceCtorEq,decide_eq_true_eq,ite_self,↓reduceIte,Zm,gcT,gcA,gcIds,reach,heapOf,refsB,ZiF,Zhd,ZfN,Zb,h1,e1,h4,h6,h7,hneg,hip',hcc,gvT,Zc,AVal.cells]
      rfl
     ·have hip':¬(i:Int)>0:=by omega
      have hcc:¬(c=0/\0<i):=fun h=>hip h.2
      simp only[EQA,Zk,Xd,Xb,ZbT,Zh,unG,reduceCtorEq,↓reduceIte,Zm,ZiF,Zhd,ZfN,Zb,h1,e1,h4,h6,hm,hi64,h7,hneg,hs,ho,hc,hc',hc1,hip',hcc,e3,gvT,Zc,AVal.cells]
    ·have hc1:((c.toNat:Int)==0)=false:=by
      have : c.toNat≠0:=fun h=>hc0 (Xbq.1 (by simpa using h))
      simp;omega
     have hcc:¬(c=0/\0<i):=fun h=>hc0 h.1
     simp only[EQA,Zk,Xd,Xb,ZbT,Zh,Zw,reduceCtorEq,↓reduceIte,Zm,ZiF,Zhd,ZfN,Zb,h1,e1,h4,h6,hm,hi64,h7,hneg,hs,ho,hc,hc',hc1,hcc,e3,gvT,Zc,AVal.cells]
   ·have hc':¬(c.toNat:Int)<128:=by omega
    have ih:=Zup b hl r (i+1) (n+c.toNat%128*128^i) (by omega) (by omega) (ZqV n i _ hn ha) (ZP h).2.1
    unfold ZiS at ih ⊢
    rw[Zr]
    simp only[EQA,ZB,Xd,Xb,ZbT,reduceCtorEq,↓reduceIte,gcT,gcA,gcIds,reach,heapOf,refsB,Zhd,ZfN,Zb,h1,e1,h4,h6,hm,hi64,h7,hneg,hs,ho,hc,hc',e3,Zc,AVal.cells]
    exact ih
theorem ZyM(b:Zd)(hl:b.length<=9223372036854775807):E 84 [Zf b] []=some (gvT (ZL b),[]):=by
 have key:=Zup b hl b 0 0 (by omega) (by omega) (by simp) rfl
 have z0:((0:Nat):Int)=0:=rfl
 rw[z0]at key
 unfold ZiS at key
 unfold ZL
 rw[Zg (by rfl) ZGP]
 simp only[EQA,ZB,Xd,Xb,reduceCtorEq,↓reduceIte,gcT,gcA,gcIds,reach,heapOf,refsB,ZMp,Zq0,Zb,Zf]
 exact key
theorem ZmS(σ:Za)(sq own:Nat)(f:Bool)(b:Zd)(hl:b.length<=9223372036854775807):Zl E BY σ sq 84 own true [.lst f (b.map Zc)]=some (gvT (ZL b),σ,{}) :=
 Zal (ZyM b hl) (by kernel_rfl) rfl rfl rfl (fun _=>rfl) _ _ _
theorem Zzt(b:Zd)(hl:b.length<=9223372036854775807):∀ (r:Zd) (i n:Nat),i<=4->i<=b.length->n<128^i->b.drop i=r ->
  ZfJ 0 [(7,.int .i64 i),(6,.int .i64 (128^i:Nat)),(5,.int .i64 n),(0,.lst false (b.map Zc))] []=some (gvT (gvA i n r),[])
 | [],i,n,hi,hib,hn,h=>by
  have h1:i=b.length:=by have:=Wl.1 h;omega
  rw[gvA]
  by_cases h4:i<4
  ·have h5:(i:Int)<4:=by omega
   have h6:((i:Int)==(b.length:Int))=true:=by simp;omega
   rw[if_pos h4]
   unfold ZfJ
   rw[Zr]
   simp only[EQA,Zk,Xd,Xb,reduceCtorEq,↓reduceIte,Zm,ZiM,ZgV,ZfE,Zb,h5,h6,gvT]
   rfl
  ·have h5:¬(i:Int)<4:=by omega
   rw[if_neg h4]
   unfold ZfJ
   rw[Zr]
   simp only[EQA,Zk,Xd,Xb,reduceCtorEq,↓reduceIte,Zm,ZiM,Zuf,ZmE,ZgV,ZfE,Zb,h5,gvT]
   rfl
 |c::r,i,n,hi,hib,hn,h=>by
  have hlt:=(ZP h).2.2
  have e1:=iad (ZP h).1 Zc (k:=1) rfl
  have e3:=Zcp (show(i:Int)<b.length by omega) hl
  rw[gvA]
  by_cases h4:i=4
  ·have h5:¬(i:Int)<4:=by omega
   rw[if_pos h4]
   unfold ZfJ
   rw[Zr]
   simp only[EQA,Zk,Xd,Xb,reduceCtorEq,↓reduceIte,Zm,ZiM,Zuf,ZmE,ZgV,ZfE,Zb,h5,gvT]
   rfl
  ·have h5:(i:Int)<4:=by omega
   have h6:((i:Int)==(b.length:Int))=false:=by simp;omega
   have ha:c.toNat%128<128:=Xbf _ (by decide)
   have hp:128^i<=128^3:=WY (by decide) (by omega)
   have hmul:c.toNat%128*128^i<=127*128^3:=Xbt (by omega) hp
   have hz:((128:Int)=0)=False:=by simp
   have hm:(c.toNat:Int).tmod 128=((c.toNat%128:Nat):Int):=by rw[Xaf (by omega)];omega
   have hi64:IntKind.i64.wrap ((c.toNat%128:Nat):Int)=((c.toNat%128:Nat):Int):=ZQ (by omega) (by omega)
   have hx:IntKind.i64.wrap (((c.toNat%128:Nat):Int)*((128^i:Nat):Int))=((c.toNat%128*128^i:Nat):Int):=by
    rw[<-Int.natCast_mul,ZQ (by omega) (by omega)]
   have hs:IntKind.i64.wrap ((n:Int)+((c.toNat%128*128^i:Nat):Int))=((n+c.toNat%128*128^i:Nat):Int):=by
    rw[<-Int.natCast_add,ZQ (by omega) (by omega)]
   have hu:IntKind.i64.wrap (((128^i:Nat):Int)*128)=((128^(i+1):Nat):Int):=by
    have : ((128^i:Nat):Int)*128=((128^(i+1):Nat):Int):=by rw[Xbb,Int.natCast_mul];rfl
    have h9:128^(i+1)<=128^4:=WY (by decide) (by omega)
    rw[this,ZQ (by omega) (by omega)]
   by_cases hc:c.toNat<128
   ·have hc':(c.toNat:Int)<128:=by omega
    by_cases hc0:c=0
    ·have hc1:((c.toNat:Int)==0)=true:=by rw[hc0];rfl
     by_cases hip:0<i
     ·have hip':(i:Int)>0:=by omega
      have hcc:c=0/\0<i:=⟨hc0,hip⟩
      unfold ZfJ
      rw[Zr,if_neg h4,if_pos hc,if_pos hcc]
      simp only[EQA,Zk,Xd,Xb,Zh,unG,reduceCtorEq,↓reduceIte,Zm,ZiM,ZgV,ZfE,Zb,h5,h6,e1,hz,hm,hi64,hx,hs,hu,hc',hc1,hip',gvT,Zc,AVal.cells]
      rfl
     ·have hip':¬(i:Int)>0:=by omega
      have hcc:¬(c=0/\0<i):=fun h=>hip h.2
      unfold ZfJ
      rw[Zr,if_neg h4,if_pos hc,if_neg hcc]
      simp only[EQA,Zk,Xd,Xb,Zh,unG,reduceCtorEq,↓reduceIte,Zm,ZiM,ZgV,ZfE,Zb,h5,h6,e1,hz,hm,hi64,hx,hs,hu,hc',hc1,hip',e3,gvT,Zc,AVal.cells]
    ·have hc1:((c.toNat:Int)==0)=false:=by
      have : c.toNat≠0:=fun h=>hc0 (Xbq.1 (by simpa using h))
      simp;omega
     have hcc:¬(c=0/\0<i):=fun h=>hc0 h.1
     unfold ZfJ
     rw[Zr,if_neg h4,if_pos hc,if_neg hcc]
     simp only[EQA,Zk,Xd,Xb,Zh,Zw,reduceCtorEq,↓reduceIte,Zm,ZiM,ZgV,ZfE,Zb,h5,h6,e1,hz,hm,hi64,hx,hs,hu,hc',hc1,e3,gvT,Zc,AVal.cells]
   ·have hc':¬(c.toNat:Int)<128:=by omega
    have ih:=Zzt b hl r (i+1) (n+c.toNat%128*128^i) (by omega) (by omega) (ZqV n i _ hn ha) (ZP h).2.1
    unfold ZfJ at ih ⊢
    rw[Zr,if_neg h4,if_neg hc]
    simp only[EQA,ZB,Xd,Xb,reduceCtorEq,↓reduceIte,gcT,gcA,gcIds,reach,heapOf,refsB,ZgV,ZfE,Zb,h5,h6,e1,hz,hm,hi64,hx,hs,hu,hc',e3,Zc,AVal.cells]
    exact ih
theorem ZGs(b:Zd)(hl:b.length<=9223372036854775807):E 65 [Zf b] []=some (gvT (ZL b),[]):=by
 have key:=Zzt b hl b 0 0 (by omega) (by omega) (by simp) rfl
 have z0:((0:Nat):Int)=0:=rfl
 have z1:((128^0:Nat):Int)=1:=rfl
 rw[z0,z1]at key
 unfold ZfJ at key
 unfold ZL
 rw[Zg (by rfl) ZEW]
 simp only[EQA,ZB,Xd,Xb,reduceCtorEq,↓reduceIte,gcT,gcA,gcIds,reach,heapOf,refsB,ZCQ,Zn1,Zb,Zf]
 exact key
theorem ZnE(σ:Za)(sq own:Nat)(f:Bool)(b:Zd)(hl:b.length<=9223372036854775807):Zl E BY σ sq 65 own true [.lst f (b.map Zc)]=some (gvT (ZL b),σ,{}) :=
 Zal (ZGs b hl) (by kernel_rfl) rfl rfl rfl (fun _=>rfl) _ _ _
end
section
theorem ZxS(l:List UInt8)(p:Nat):ZfC l p=Lib.decodeL (l.drop p):=by
 have:=Lib.decodeL_drop ⟨l.toArray⟩ p
 simpa[ZfC]using this.symm
def zfG:Nat->List UInt8->Bool
 |0,_=>true
 |n+1,l=>if l=[]then true else if(Lib.decodeL l).1=0 then false else zfG n (l.drop (Lib.decodeL l).2)
def ZcM(l:List UInt8):Bool:=zfG l.length l&&Lib.validD l
theorem ZRW(l:List UInt8):E 82 [.str l] []=some (.bool (Lib.validD l),[]):=Zei.2 ⟨1,rfl⟩
theorem ZEK(σ:Za)(sq own:Nat)(view:Bool)(l:List UInt8):Zl E BY σ sq 82 own view [.str l]=some (.bool (Lib.validD l),σ,{}) :=
 ZcC (ZRW l) (by kernel_rfl) (by simp only[Zba,Zbz,eq_self]) (by simp only[ZR,Zbz,eq_self]) rfl (fun _=>rfl) _ _ _ _
theorem ZvK(s:List UInt8):∀ (n p:Nat),s.length-p<=n->p<=s.length->ZlG 0 [(6,.ref 0 0),(0,.str s)] [.siter s p]=some (.bool (zfG n (s.drop p)&&Lib.validD s),[])
 |n,p,hn,hp=>by
  by_cases h:p<s.length
  ·obtain⟨n,rfl⟩:∃ m,n=m+1:=⟨n-1,by omega⟩
   have hw:=Lib.decodeL_width (s.drop p)
   have hne:s.drop p≠[]:=by rw[ne_eq,Wl];omega
   have hle:=Lib.decodeL_le (s.drop p) hne
   rw[XV]at hle
   have ih:=ZvK s n (p+(Lib.decodeL (s.drop p)).2) (by omega) (by omega)
   rw[<-XaS]at ih
   unfold ZlG at ih ⊢
   rw[Zr]
   by_cases hz:(Lib.decodeL (s.drop p)).1=0
   ·have hz':((Lib.decodeL (s.drop p)).1:Int)=0:=by omega
    simp only[EQA,Xd,Xb,reduceCtorEq,↓reduceIte,Zzd,Zn2,Zju,Zb,h,ZxS,hz']
    rw[zfG,if_neg hne,if_pos hz];rfl
   ·have hz':(((Lib.decodeL (s.drop p)).1:Int)==0)=false:=by rw[beq_eq_false_iff_ne];omega
    simp only[EQA,ZB,ZX,Xd,Xe,Xb,reduceCtorEq,↓reduceIte,gcT,gcA,gcIds,reach,rhoOf,heapOf,idxA,genB,newGen,renB,refsB,Zn2,Zju,Zb,h,ZxS,hz']
    rw[ih,zfG,if_neg hne,if_neg hz]
  ·have he:s.drop p=[]:=by rw[Wl];omega
   unfold ZlG
   rw[Zr]
   simp only[EQA,Xd,Xb,reduceCtorEq,↓reduceIte,Zzd,ZK4,Zs9,Zn2,Zju,Zb,h,ZEK]
   rw[he]
   cases n<;>simp[zfG]
theorem ZQf(s:List UInt8):E 57 [.str s] []=some (.bool (ZcM s),[]):=by
 rw[Zg (by rfl) ZDn]
 have:=ZvK s s.length 0 (by omega) (by omega)
 unfold ZlG at this
 simp only[EQA,ZB,ZX,Xd,Xe,Xg,reduceCtorEq,↓reduceIte,gcT,gcA,gcIds,reach,rhoOf,heapOf,idxA,genB,newGen,renB,refsB,ZR3,Zq1,Zb]
 rw[this,W2];rfl
theorem Zx2(σ:Za)(sq own:Nat)(view:Bool)(l:List UInt8):Zl E BY σ sq 57 own view [.str l]=some (.bool (ZcM l),σ,{}) :=
 ZcC (ZQf l) (by kernel_rfl) (by simp only[Zba,Zbz,eq_self]) (by simp only[ZR,Zbz,eq_self]) rfl (fun _=>rfl) _ _ _ _
def ZbM:List UInt8->Int->Option Int
 | [],c=>some c
 |b::r,c=>if b.toNat<128\/192<=b.toNat then none else ZbM r (c*64+b.toNat-128)
def ZbB(n least:Int):Option Int->AVal
 |none=>.tup [.int .i64 0,.int .i64 0]
 |some c=>if c<least\/1114111<c\/(55296<=c/\c<57344)then .tup [.int .i64 0,.int .i64 0]else .tup [.int .i64 c,.int .i64 (n+1)]
theorem ZxI(b:UInt8):(b.toNat:Int)<256:=by have:=b.toNat_lt;omega
theorem wrap_i64{n:Int}(h0:-9223372036854775808<=n)(h:n<=9223372036854775807):IntKind.i64.wrap n=n:=ZQ h0 h
theorem Zl6(s:List UInt8)(least:Int)(n:Nat)(hn:n<=3):∀ (r:List UInt8) (i:Nat) (c:Int),1<=i->i+r.length=n+1->(∀ j,j<r.length->s[i+j]?=r[j]?)->0<=c->(c+1)*64^r.length<=2^40->n<s.length ->
  ZgF 0 [(7,.int .i64 i),(6,.int .i64 least),(5,.int .i64 n),(4,.int .i64 c),(0,.str s)] []=some (ZbB n least (ZbM r c),[])
 | [],i,c,hi,hl,hs,hc,hb,hns=>by
  simp only[Xu,Wg]at hl
  simp only[Xu,Int.pow_zero,Int.mul_one]at hb
  have h1:¬((i:Int)<=n):=by omega
  have h2:IntKind.i64.wrap ((n:Int)+1)=n+1:=ZQ (by omega) (by omega)
  unfold ZgF
  rw[Zr]
  by_cases h4:c<least
  ·have e:ZbB n least (ZbM [] c)=.tup [.int .i64 0,.int .i64 0]:=by simp[ZbB,ZbM,h4]
   rw[e]
   simp only[EQA,Zk,Xd,Xb,Zh,Zw,reduceCtorEq,↓reduceIte,Zm,Zc3,Zks,Zg9,Zf3,Ze7,Zb,h1,h4]
  by_cases h5:c>1114111
  ·have e:ZbB n least (ZbM [] c)=.tup [.int .i64 0,.int .i64 0]:=by
    have h5':1114111<c:=h5
    simp[ZbB,ZbM,h5']
   rw[e]
   simp only[EQA,Zk,Xd,Xb,Zh,Zw,unG,reduceCtorEq,↓reduceIte,Zm,Zc3,Zks,Zg9,Zf3,Ze7,Zb,h1,h4,h5]
  by_cases h6:c>=55296
  ·by_cases h7:c<57344
   ·have e:ZbB n least (ZbM [] c)=.tup [.int .i64 0,.int .i64 0]:=by
     simp only[ZbB,ZbM];rw[if_pos (Xt (Xt ⟨h6,h7⟩))]
    rw[e]
    simp only[EQA,Zk,Xd,Xb,Zh,unG,reduceCtorEq,↓reduceIte,Zm,Zc3,Zks,Zg9,Zf3,Ze7,Zb,h1,h4,h5,h6,h7]
   ·have e:ZbB n least (ZbM [] c)=.tup [.int .i64 c,.int .i64 (n+1)]:=by
     simp only[ZbB,ZbM];rw[if_neg (by omega)]
    rw[e]
    simp only[EQA,Zk,Xd,Xb,Zh,unG,reduceCtorEq,↓reduceIte,Zm,Zc3,Zks,Zg9,Zf3,Ze7,Zb,h1,h2,h4,h5,h6,h7]
  ·have e:ZbB n least (ZbM [] c)=.tup [.int .i64 c,.int .i64 (n+1)]:=by
    simp only[ZbB,ZbM];rw[if_neg (by omega)]
   rw[e]
   simp only[EQA,Zk,Xd,Xb,Zh,Zw,unG,reduceCtorEq,↓reduceIte,Zm,Zc3,Zks,Zg9,Zf3,Ze7,Zb,h1,h2,h4,h5,h6]
 |b::r,i,c,hi,hl,hs,hc,hb,hns=>by
  simp only[Xm]at hl hb
  have hb0:=ZxI b
  have hs0:s[i]?=some b:=by have:=hs 0 (by simp);simpa using this
  have h1:((i:Int)<=n):=by omega
  have h3:IntKind.i64.wrap ((i:Int)+1)=((i+1:Nat):Int):=by rw[ZQ (by omega) (by omega)];rfl
  have hp:(1:Int)<=64^r.length:=by
   have : (0:Int)<64^r.length:=Int.pow_pos (by omega)
   omega
  have hc2:c+1<=2^40:=by
   have : (c+1)*1<=(c+1)*64^(r.length+1):=Int.mul_le_mul_of_nonneg_left (by rw[Int.pow_succ];omega) (by omega)
   omega
  have i0:(0:Int)<=(i:Int):=by omega
  have hlow:((b.toNat:Int)<128)\/¬((b.toNat:Int)<128):=by omega
  by_cases h4:(b.toNat:Int)<128
  ·have e:ZbB n least (ZbM (b::r) c)=.tup [.int .i64 0,.int .i64 0]:=by simp only[ZbM];rw[if_pos (Xp (by omega))];rfl
   rw[e]
   unfold ZgF
   rw[Zr]
   simp only[EQA,Zk,Xd,Xb,Zh,Zw,reduceCtorEq,↓reduceIte,Zm,Zc3,Zf3,Ze7,Zb,h1,h4,hs0,i0,X3,Zc]
  by_cases h5:(b.toNat:Int)>=192
  ·have e:ZbB n least (ZbM (b::r) c)=.tup [.int .i64 0,.int .i64 0]:=by simp only[ZbM];rw[if_pos (Xt (by omega))];rfl
   rw[e]
   unfold ZgF
   rw[Zr]
   simp only[EQA,Zk,Xd,Xb,Zh,unG,reduceCtorEq,↓reduceIte,Zm,Zc3,Zf3,Ze7,Zb,h1,h4,h5,hs0,i0,X3,Zc]
  have ih:=Zl6 s least n hn r (i+1) (c*64+b.toNat-128) (by omega) (by omega) (fun j hj=>by
   have:=hs (j+1) (by simp;omega)
   rw[show i+1+j=i+(j+1)by omega,this];simp) (by omega) (by
    have : (c*64+b.toNat-128+1)*64^r.length<=(c+1)*64*64^r.length:=Int.mul_le_mul_of_nonneg_right (by omega) (by omega)
    rw[Int.pow_succ,Int.mul_comm (64^r.length) 64,<-Int.mul_assoc]at hb
    omega) hns
  have w1:IntKind.i64.wrap (c*64)=c*64:=ZQ (by omega) (by omega)
  have w2:IntKind.i64.wrap (b.toNat:Int)=b.toNat:=ZQ (by omega) (by omega)
  have w3:IntKind.i64.wrap (c*64+b.toNat)=c*64+b.toNat:=ZQ (by omega) (by omega)
  have w4:IntKind.i64.wrap (c*64+b.toNat-128)=c*64+b.toNat-128:=ZQ (by omega) (by omega)
  unfold ZgF at ih ⊢
  rw[Zr]
  simp only[EQA,ZB,Xd,Xb,Zh,unG,reduceCtorEq,↓reduceIte,gcT,gcA,gcIds,reach,heapOf,refsB,Zf3,Ze7,Zb,h1,h3,h4,h5,hs0,i0,w1,w2,w3,w4,X3,Zc]
  rw[ih]
  simp only[ZbM]
  rw[if_neg (by omega)]
def ZeE(l:List UInt8):Nat×Nat:=if(Lib.decodeL l).1=65533/\(Lib.decodeL l).2=1 then(0,0)else Lib.decodeL l
def ZcR(p:Nat×Nat):AVal:=.tup [.int .i64 p.1,.int .i64 p.2]
theorem ZiW(l:List UInt8):ZeE l=if(Lib.decodeN l.length (l.getD 0 0).toNat (l.getD 1 0).toNat (l.getD 2 0).toNat (l.getD 3 0).toNat).1=65533/\(Lib.decodeN l.length (l.getD 0 0).toNat (l.getD 1 0).toNat (l.getD 2 0).toNat (l.getD 3 0).toNat).2=1 then(0,0)else Lib.decodeN l.length (l.getD 0 0).toNat (l.getD 1 0).toNat (l.getD 2 0).toNat (l.getD 3 0).toNat:=by
 unfold ZeE;rw[Lib.decodeL_N]
theorem Zq6{c n:Int}{p:Nat×Nat}(h1:c=p.1)(h2:n=p.2):(.tup [.int .i64 c,.int .i64 n]:AVal)=ZcR p:=by simp[ZcR,h1,h2]
theorem ZQx(b0 b1:UInt8)(t:List UInt8)(h:192<=b0.toNat/\b0.toNat<224):ZbB 1 128 (ZbM [b1] (b0.toNat-192))=ZcR (ZeE (b0::b1::t)):=by
 rw[ZiW]
 simp only[Xm,X1,Wq,ZbM]
 have hb1:=b1.toNat_lt
 generalize b0.toNat=x0 at *
 generalize b1.toNat=x1 at *
 generalize ((t.getD 0 0).toNat)=x2
 generalize ((t.getD 1 0).toNat)=x3
 have e1:¬x0<128:=by omega
 have e2:x0/32=6:=by omega
 have e3:1<t.length+1+1:=by omega
 have e4:¬x0/16=14:=by omega
 have e5:¬x0/8=30:=by omega
 by_cases h1:x1<128\/192<=x1
 ·rw[if_pos h1]
  have e6:¬x1/64=2:=by omega
  simp[Lib.decodeN,e1,e2,e4,e5,e6,ZbB,ZcR]
 ·rw[if_neg h1]
  have e6:x1/64=2:=by omega
  simp only[Lib.decodeN,e1,e2,e3,e6,if_false,and_self,if_true]
  simp only[ZbB]
  by_cases h2:x0%32*64+x1%64>=128
  ·rw[if_neg (by omega),if_pos h2,if_neg (by simp)]
   exact Zq6 (by simp only;omega) (by simp)
  ·rw[if_pos (by omega),if_neg h2,if_pos (by simp)]
   rfl
theorem ZPM(b0 b1 b2:UInt8)(t:List UInt8)(h:224<=b0.toNat/\b0.toNat<240):ZbB 2 2048 (ZbM [b1,b2] (b0.toNat-224))=ZcR (ZeE (b0::b1::b2::t)):=by
 rw[ZiW]
 simp only[Xm,X1,Wq,ZbM]
 have hb1:=b1.toNat_lt
 have hb2:=b2.toNat_lt
 generalize b0.toNat=x0 at *
 generalize b1.toNat=x1 at *
 generalize b2.toNat=x2 at *
 generalize ((t.getD 0 0).toNat)=x3
 have e1:¬x0<128:=by omega
 have e2:¬x0/32=6:=by omega
 have e3:1<t.length+1+1+1:=by omega
 have e3':2<t.length+1+1+1:=by omega
 have e4:x0/16=14:=by omega
 have e5:¬x0/8=30:=by omega
 by_cases h1:x1<128\/192<=x1
 ·rw[if_pos h1]
  have e6:¬x1/64=2:=by omega
  simp[Lib.decodeN,e1,e2,e4,e5,e6,ZbB,ZcR]
 ·rw[if_neg h1]
  have e6:x1/64=2:=by omega
  by_cases h2:x2<128\/192<=x2
  ·rw[if_pos h2]
   have e7:¬x2/64=2:=by omega
   simp[Lib.decodeN,e1,e2,e4,e5,e6,e7,ZbB,ZcR]
  ·rw[if_neg h2]
   have e7:x2/64=2:=by omega
   simp only[Lib.decodeN,e1,e2,e3,e3',e4,e6,e7,if_false,and_self,if_true,false_and]
   simp only[ZbB]
   by_cases h3:x0%16*4096+x1%64*64+x2%64>=2048/\(x0%16*4096+x1%64*64+x2%64<55296\/(57344<=x0%16*4096+x1%64*64+x2%64/\x0%16*4096+x1%64*64+x2%64<=1114111))
   ·rw[if_neg (by omega),if_pos h3,if_neg (by simp)]
    exact Zq6 (by simp only;omega) (by simp)
   ·rw[if_pos (by omega),if_neg h3,if_pos (by simp)]
    rfl
theorem ZM5(b0 b1 b2 b3:UInt8)(t:List UInt8)(h:240<=b0.toNat/\b0.toNat<248):ZbB 3 65536 (ZbM [b1,b2,b3] (b0.toNat-240))=ZcR (ZeE (b0::b1::b2::b3::t)):=by
 rw[ZiW]
 simp only[Xm,X1,Wq,ZbM]
 have hb1:=b1.toNat_lt
 have hb2:=b2.toNat_lt
 have hb3:=b3.toNat_lt
 generalize b0.toNat=x0 at *
 generalize b1.toNat=x1 at *
 generalize b2.toNat=x2 at *
 generalize b3.toNat=x3 at *
 have e1:¬x0<128:=by omega
 have e2:¬x0/32=6:=by omega
 have e3:1<t.length+1+1+1+1:=by omega
 have e3':2<t.length+1+1+1+1:=by omega
 have e3'':3<t.length+1+1+1+1:=by omega
 have e4:¬x0/16=14:=by omega
 have e5:x0/8=30:=by omega
 by_cases h1:x1<128\/192<=x1
 ·rw[if_pos h1]
  have e6:¬x1/64=2:=by omega
  simp[Lib.decodeN,e1,e2,e4,e5,e6,ZbB,ZcR]
 ·rw[if_neg h1]
  have e6:x1/64=2:=by omega
  by_cases h2:x2<128\/192<=x2
  ·rw[if_pos h2]
   have e7:¬x2/64=2:=by omega
   simp[Lib.decodeN,e1,e2,e4,e5,e6,e7,ZbB,ZcR]
  ·rw[if_neg h2]
   have e7:x2/64=2:=by omega
   by_cases h4:x3<128\/192<=x3
   ·rw[if_pos h4]
    have e8:¬x3/64=2:=by omega
    simp[Lib.decodeN,e1,e2,e4,e5,e6,e7,e8,ZbB,ZcR]
   ·rw[if_neg h4]
    have e8:x3/64=2:=by omega
    simp only[Lib.decodeN,e1,e2,e3,e3',e3'',e4,e5,e6,e7,e8,if_false,and_self,if_true,false_and]
    simp only[ZbB]
    by_cases h3:x0%8*262144+x1%64*4096+x2%64*64+x3%64>=65536/\(x0%8*262144+x1%64*4096+x2%64*64+x3%64<55296\/(57344<=x0%8*262144+x1%64*4096+x2%64*64+x3%64/\x0%8*262144+x1%64*4096+x2%64*64+x3%64<=1114111))
    ·rw[if_neg (by omega),if_pos h3,if_neg (by simp)]
     exact Zq6 (by simp only;omega) (by simp)
    ·rw[if_pos (by omega),if_neg h3,if_pos (by simp)]
     rfl
theorem Zi1(b0:UInt8)(t:List UInt8)(h:(192<=b0.toNat/\b0.toNat<224/\t.length<1)\/(224<=b0.toNat/\b0.toNat<240/\t.length<2)\/(240<=b0.toNat/\b0.toNat<248/\t.length<3)\/(128<=b0.toNat/\b0.toNat<192)\/248<=b0.toNat):ZeE (b0::t)=(0,0):=by
 rw[ZiW,if_pos]
 simp only[Xm,X1,Wq]
 have hb:=b0.toNat_lt
 generalize b0.toNat=x0 at *
 generalize ((t.getD 0 0).toNat)=x1
 generalize ((t.getD 1 0).toNat)=x2
 generalize ((t.getD 2 0).toNat)=x3
 generalize t.length=m at *
 unfold Lib.decodeN
 repeat' split
 all_goals first |exact⟨rfl,rfl⟩ |(exfalso;omega) |(constructor<;>omega)
theorem ZSj(b0:UInt8)(t:List UInt8)(h:b0.toNat<128):ZeE (b0::t)=(b0.toNat,1):=by
 rw[ZiW]
 simp only[Xm,X1,Lib.decodeN,h,if_true]
 rw[if_neg (by omega)]
theorem ZhI:ZcR (0,0)=.tup [.int .i64 0,.int .i64 0]:=rfl
theorem ZOO(n:Nat):ZcR (n,1)=.tup [.int .i64 n,.int .i64 1]:=rfl
theorem ZRO(b0:UInt8)(t:List UInt8):E 78 [.str (b0::t)] []=some (ZcR (ZeE (b0::t)),[]):=by
 rw[Zg (by rfl) ZF6]
 have hb:=ZxI b0
 have w0:IntKind.i64.wrap (b0.toNat:Int)=b0.toNat:=ZQ (by omega) (by omega)
 by_cases h1:(b0.toNat:Int)<128
 ·rw[ZSj b0 t (by omega),ZOO]
  simp only[EQA,Zk,Xd,Xb,reduceCtorEq,↓reduceIte,Zm,ZfQ,ZeB,Zc3,Zb,h1,w0,Zc,W3,W0]
 by_cases h2:(b0.toNat:Int)>=192
 ·by_cases h3:(b0.toNat:Int)<224
  ·have w1:IntKind.i64.wrap ((b0.toNat:Int)-192)=b0.toNat-192:=ZQ (by omega) (by omega)
   by_cases h6:((t.length+1:Nat):Int)<=1
   ·rw[Zi1 b0 t (Xp ⟨by omega,by omega,by omega⟩),ZhI]
    simp only[EQA,Zk,Xd,Xb,Zh,unG,reduceCtorEq,↓reduceIte,Zm,ZfQ,ZeB,Zc3,Zb,h1,h2,h3,w0,w1,h6,Zc,W3,W0]
   ·obtain⟨b1,t,rfl⟩:∃ b1 t',t=b1::t':=by
     cases t with
     |nil=>simp at h6
     |cons b1 t=>exact⟨b1,t,rfl⟩
    have key:=Zl6 (b0::b1::t) 128 1 (by omega) [b1] 1 (b0.toNat-192) (by omega) rfl (fun j hj=>by
     have : j=0:=by simpa using hj
     subst this;rfl) (by omega) (by simp only[Xm,Xu];omega) (by simp)
    rw[show(((1:Nat):Int))=1 from rfl,ZQx b0 b1 t (by omega)]at key
    unfold ZgF at key
    simp only[EQA,Zk,ZB,Xd,Xb,Zh,unG,reduceCtorEq,decide_eq_true_eq,↓reduceIte,Zm,gcT,gcA,gcIds,reach,heapOf,refsB,ZfQ,ZeB,Zc3,Zb,h1,h2,h3,w0,w1,Zc,W3,W0]
    exact key
  ·by_cases h4:(b0.toNat:Int)<240
   ·have h3':(b0.toNat:Int)>=224:=by omega
    have w1:IntKind.i64.wrap ((b0.toNat:Int)-224)=b0.toNat-224:=ZQ (by omega) (by omega)
    by_cases h6:((t.length+1:Nat):Int)<=2
    ·rw[Zi1 b0 t (Xt (Xp ⟨by omega,by omega,by omega⟩)),ZhI]
     simp only[EQA,Zk,Xd,Xb,Zh,unG,reduceCtorEq,↓reduceIte,Zm,ZfQ,ZeB,Zc3,Zb,h1,h2,h3,h3',h4,w0,w1,h6,Zc,W3,W0]
    ·obtain⟨b1,b2,t,rfl⟩:∃ b1 b2 t',t=b1::b2::t':=by
      match t,h6 with
      | [],h6=>simp at h6
      | [_],h6=>simp at h6
      |b1::b2::t,_=>exact⟨b1,b2,t,rfl⟩
     have key:=Zl6 (b0::b1::b2::t) 2048 2 (by omega) [b1,b2] 1 (b0.toNat-224) (by omega) rfl (fun j hj=>by
      match j,hj with
      |0,_=>rfl
      |1,_=>rfl
      |j+2,hj=>simp at hj;omega) (by omega) (by simp only[Xm,Xu];omega) (by simp)
     rw[show(((2:Nat):Int))=2 from rfl,show(((1:Nat):Int))=1 from rfl,ZPM b0 b1 b2 t (by omega)]at key
     unfold ZgF at key
     simp only[EQA,Zk,ZB,Xd,Xb,Zh,unG,reduceCtorEq,decide_eq_true_eq,↓reduceIte,Zm,gcT,gcA,gcIds,reach,heapOf,refsB,ZfQ,ZeB,Zc3,Zb,h1,h2,h3,h3',h4,w0,w1,Zc,W3,W0]
     exact key
   ·by_cases h5:(b0.toNat:Int)<248
    ·have h3':(b0.toNat:Int)>=224:=by omega
     have h4':(b0.toNat:Int)>=240:=by omega
     have w1:IntKind.i64.wrap ((b0.toNat:Int)-240)=b0.toNat-240:=ZQ (by omega) (by omega)
     by_cases h6:((t.length+1:Nat):Int)<=3
     ·rw[Zi1 b0 t (Xt (Xt (Xp ⟨by omega,by omega,by omega⟩))),ZhI]
      simp only[EQA,Zk,Xd,Xb,Zh,unG,reduceCtorEq,↓reduceIte,Zm,ZfQ,ZeB,Zc3,Zb,h1,h2,h3,h3',h4,h4',h5,w0,w1,h6,Zc,W3,W0]
     ·obtain⟨b1,b2,b3,t,rfl⟩:∃ b1 b2 b3 t',t=b1::b2::b3::t':=by
       match t,h6 with
       | [],h6=>simp at h6
       | [_],h6=>simp at h6
       | [_,_],h6=>simp at h6
       |b1::b2::b3::t,_=>exact⟨b1,b2,b3,t,rfl⟩
      have key:=Zl6 (b0::b1::b2::b3::t) 65536 3 (by omega) [b1,b2,b3] 1 (b0.toNat-240) (by omega) rfl (fun j hj=>by
       match j,hj with
       |0,_=>rfl
       |1,_=>rfl
       |2,_=>rfl
       |j+3,hj=>simp at hj;omega) (by omega) (by simp only[Xm,Xu];omega) (by simp)
      rw[show(((3:Nat):Int))=3 from rfl,show(((1:Nat):Int))=1 from rfl,ZM5 b0 b1 b2 b3 t (by omega)]at key
      unfold ZgF at key
      simp only[EQA,Zk,ZB,Xd,Xb,Zh,unG,reduceCtorEq,decide_eq_true_eq,↓reduceIte,Zm,gcT,gcA,gcIds,reach,heapOf,refsB,ZfQ,ZeB,Zc3,Zb,h1,h2,h3,h3',h4,h4',h5,w0,w1,Zc,W3,W0]
      exact key
    ·have h3':(b0.toNat:Int)>=224:=by omega
     have h4':(b0.toNat:Int)>=240:=by omega
     rw[Zi1 b0 t (Xt (Xt (Xt (Xt (by omega))))),ZhI]
     simp only[EQA,Zk,Xd,Xb,Zh,unG,reduceCtorEq,↓reduceIte,Zm,ZfQ,ZeB,Zc3,Zb,h1,h2,h3,h3',h4,h4',h5,w0,Zc,W3,W0]
 ·have h3:¬(b0.toNat:Int)>=224:=by omega
  have h4:¬(b0.toNat:Int)>=240:=by omega
  rw[Zi1 b0 t (Xt (Xt (Xt (Xp (by omega))))),ZhI]
  simp only[EQA,Zk,Xd,Xb,Zh,Zw,reduceCtorEq,↓reduceIte,Zm,ZfQ,ZeB,Zc3,Zb,h1,h2,h3,h4,w0,Zc,W3,W0]
theorem ZpO(σ:Za)(sq own:Nat)(view:Bool)(b0:UInt8)(t:List UInt8):Zl E BY σ sq 78 own view [.str (b0::t)]=some (ZcR (ZeE (b0::t)),σ,{}) :=
 ZcC (ZRO b0 t) (by kernel_rfl) (by simp only[Zba,Zbz,eq_self]) (by simp only[ZR,Zbz,eq_self]) rfl (fun _=>rfl) _ _ _ _
theorem Zzj:∀ (n:Nat) (l:List UInt8),l.length<=n->l.length<=9223372036854775807->Zjs 0 [(0,.str l)] []=some (.bool (zfG n l&&Lib.validGoD n l),[])
 |n,[],_,_=>by
  have e:(zfG n []&&Lib.validGoD n [])=true:=by cases n<;>rfl
  rw[e]
  unfold Zjs
  rw[Zr]
  simp only[EQA,Xd,Xb,Zbw,reduceCtorEq,↓reduceIte,ZsE,ZLm,Zss,ZmD,Zip,Zb]
 |0,b0::t,h,_=>by simp at h
 |n+1,b0::t,h,hl=>by
  have hw:=Lib.decodeL_width (b0::t)
  have hle:=Lib.decodeL_le (b0::t) (by simp)
  have e0:((b0::t)==([]:List UInt8))=false:=by simp
  have hne:(b0::t)≠([]:List UInt8):=by simp
  unfold Zjs
  rw[Zr]
  by_cases hb:(Lib.decodeL (b0::t)).1=65533/\(Lib.decodeL (b0::t)).2=1
  ·have hc:ZeE (b0::t)=(0,0):=if_pos hb
   have e:(zfG (n+1) (b0::t)&&Lib.validGoD (n+1) (b0::t))=false:=by
    simp only[Lib.validGoD]
    rw[if_neg hne,if_pos hb,Xbu]
   rw[e]
   simp only[EQA,Xd,Xb,Zbw,Zh,Zw,reduceCtorEq,↓reduceIte,ZsE,ZmD,Zip,Zb,e0,ZpO,hc,ZhI]
  ·have hc:ZeE (b0::t)=Lib.decodeL (b0::t):=if_neg hb
   have n1:(((Lib.decodeL (b0::t)).2:Int)==0)=false:=by rw[beq_eq_false_iff_ne];omega
   by_cases hz:(Lib.decodeL (b0::t)).1=0
   ·have z1:(((Lib.decodeL (b0::t)).1:Int)==0)=true:=by rw[beq_iff_eq];omega
    have e:(zfG (n+1) (b0::t)&&Lib.validGoD (n+1) (b0::t))=false:=by
     rw[zfG,if_neg hne,if_pos hz,X8]
    rw[e]
    simp only[EQA,Xd,Xb,Zbw,Zh,unG,reduceCtorEq,↓reduceIte,ZsE,ZmD,Zip,Zb,e0,ZpO,hc,ZcR,n1,z1]
   ·have z1:(((Lib.decodeL (b0::t)).1:Int)==0)=false:=by rw[beq_eq_false_iff_ne];omega
    have e:(zfG (n+1) (b0::t)&&Lib.validGoD (n+1) (b0::t))=(zfG n ((b0::t).drop (Lib.decodeL (b0::t)).2)&&Lib.validGoD n ((b0::t).drop (Lib.decodeL (b0::t)).2)):=by
     rw[zfG,if_neg hne,if_neg hz,Lib.validGoD,if_neg hne,if_neg hb]
    have ih:=Zzj n ((b0::t).drop (Lib.decodeL (b0::t)).2) (by simp only[XV]at *;omega) (by simp only[XV];omega)
    rw[e]
    unfold Zjs at ih
    have l0:(0:Int)<=((Lib.decodeL (b0::t)).2:Int):=by omega
    have l1:((Lib.decodeL (b0::t)).2:Int)<=((t.length+1:Nat):Int):=by simp only[Xm]at hle;omega
    have l2:(b0::t).take (t.length+1)=b0::t:=Xy (by simp)
    simp only[EQA,ZB,ZX,Xd,Xb,Zbw,Zh,unG,reduceCtorEq,↓reduceIte,gcT,gcA,gcIds,reach,heapOf,refsB,ZmD,Zip,Zb,e0,ZpO,hc,ZcR,n1,z1,ZaN,Zb0,l0,l1,l2,X3]
    exact ih
theorem ZPE(l:List UInt8)(hl:l.length<=9223372036854775807):E 54 [.str l] []=some (.bool (ZcM l),[]):=by
 rw[Zg (by rfl) ZPg]
 have:=Zzj l.length l (XD _) hl
 unfold Zjs at this
 simp only[EQA,ZB,Xd,reduceCtorEq,↓reduceIte,gcT,gcA,gcIds,reach,heapOf,refsB,ZJn,ZpZ]
 rw[this];rfl
theorem Zuk(σ:Za)(sq own:Nat)(view:Bool)(l:List UInt8)(hl:l.length<=9223372036854775807):Zl E BY σ sq 54 own view [.str l]=some (.bool (ZcM l),σ,{}) :=
 ZcC (ZPE l hl) (by kernel_rfl) (by simp only[Zba,Zbz,eq_self]) (by simp only[ZR,Zbz,eq_self]) rfl (fun _=>rfl) _ _ _ _
end
section
theorem Zki(σ:Za)(l:Zd)(k1 k2:IntKind)(lo hi:Int)(h0:0<=lo)(h1:lo<=hi)(h2:hi<=(l.length:Int)):Zbj σ 1 (.lst false (l.map Zc)) (some (.int k1 lo)) (some (.int k2 hi)) none=some (.lst false (((l.take hi.toNat).drop lo.toNat).map Zc),σ,{}):=by
 have hh:0<=hi:=by omega
 have h3:lo<=((hi.toNat:Nat):Int):=by omega
 have hk:=Zbe l
 simp only[Zbj,ZaN,Zb0,XL,hh,h2,and_self,if_true,h0,h3,hk,Xan,Xau,Xl,if_false,X8,XaQ,Xbi]
theorem Zfp(σ:Za)(l:Zd)(k1:IntKind)(lo:Int)(h0:0<=lo)(h1:lo<=(l.length:Int)):Zbj σ 1 (.lst false (l.map Zc)) (some (.int k1 lo)) none none=some (.lst false ((l.drop lo.toNat).map Zc),σ,{}):=by
 have hk:=Zbe l
 simp only[Zbj,ZaN,Zb0,XL,and_self,if_true,h0,h1,hk,Xan,Xau,Xl,if_false,X8,Xbi]
 rw[Xy (by simp)]
theorem ZQH{O:ZJ}{bf:Nat->Bool}{f:Nat}{args args':List AVal}{k n:Nat}{xs:List AVal}{c:Int}(h:O f args' []=some (.tup [.sl 0 0 0 n,.int .i64 c],[.row 0 k xs]))(hb:bf f=false)(hp:args.all Z2=true)(hn:args.map ZM=args')(σ:Za)(sq:Nat)(hs:freeAt σ sq=true):Zl O bf σ sq f 1 false args=some (.tup [.sl sq 0 0 n,.int .i64 c],σ.set sq (.row 0 k xs),{ any:=true }):=by
 rw[ZbK hb hp,hn,h]
 simp[ZO,Z8,Zdc,ZbO,okB,genB,Zbv,hs,renV,renL,ZaR,Za4,Zb4,Zay,ZbF,renB]
def byT(x:Zd×Int):AVal:=.tup [.lst false (x.1.map Zc),.int .i64 x.2]
theorem ZuE(b:Zd)(h:b.length<=9223372036854775807):IntKind.u64.wrap (b.length:Int)=(b.length:Int):=by rw[IntKind.wrap_u64];omega
theorem ZOT(b:Zd)(hl:b.length<=9223372036854775807):∃ f,E 32 [Zf b] []=some (.tup [.lst f ((Z0 b).1.map Zc),.int .i64 (Z0 b).2],[]):=by
 unfold Z0
 by_cases h:b.length>65535
 ·refine⟨true,?_⟩
  have h':(b.length:Int)>65535:=by omega
  rw[Zg (by rfl) Zv1,if_pos h]
  simp only[EQA,Zk,Xd,Xb,reduceCtorEq,↓reduceIte,Zm,Zvt,Znh,ZvG,Zb,Zf,h']
 ·refine⟨false,?_⟩
  have h':¬(b.length:Int)>65535:=by omega
  have hw:=ZuE b hl
  have hP:=fun σ sq own=>ZmU σ sq own b.length 2 (by omega) (by omega)
  have hJ:=fun σ sq own f=>Zk9 σ sq own f (beB b.length 2) [b] (by simp) (by simp[ZbJ];omega)
  simp only[Xn,Xo,Zf,WD,W9,XC]at hJ
  have z2:((2:Nat):Int)=2:=rfl
  rw[z2]at hP
  rw[Zg (by rfl) Zv1,if_neg h]
  simp only[EQA,Zk,Xd,Xb,reduceCtorEq,↓reduceIte,Zm,Zvt,Znh,ZvG,Zb,Zf,h',hw,hP,hJ,viewAs,Zv,Zs,Zj,AVal.cells]
theorem ZkV(σ:Za)(sq own:Nat)(f:Bool)(b:Zd)(hl:b.length<=9223372036854775807):Zl E BY σ sq 32 own true [.lst f (b.map Zc)]=some (byT (Z0 b),σ,{}):=by
 obtain⟨g,h⟩:=ZOT b hl
 exact Zal h (by kernel_rfl) rfl rfl rfl (fun _=>rfl) _ _ _
def Zy(s:Zd):Zd×Int:=if ZcM s then Z0 s else([],13)
theorem ZNH(s:Zd)(hl:s.length<=9223372036854775807):∃ f,E 31 [.str s] []=some (.tup [.lst f ((Zy s).1.map Zc),.int .i64 (Zy s).2],[]):=by
 have hI:=fun σ sq own=>Zx2 σ sq own true s
 have hD:=fun σ sq own f=>ZkV σ sq own f s hl
 unfold Zy
 cases h:ZcM s<;>rw[h]at hI
 ·refine⟨true,?_⟩
  rw[Zg (by rfl) ZuX]
  simp only[EQA,Zk,Xd,Xb,unA,reduceCtorEq,↓reduceIte,Zm,Zv2,ZmW,Zu5,Zb,hI]
 ·refine⟨false,?_⟩
  rw[Zg (by rfl) ZuX]
  simp only[EQA,Zk,Xd,Xb,unA,reduceCtorEq,↓reduceIte,Zm,Zv2,ZmW,Zu5,Zb,hI,hD,byT]
theorem ZiT(σ:Za)(sq own:Nat)(s:Zd)(hl:s.length<=9223372036854775807):Zl E BY σ sq 31 own true [.str s]=some (byT (Zy s),σ,{}):=by
 obtain⟨g,h⟩:=ZNH s hl
 exact Zal h (by kernel_rfl) rfl rfl rfl (fun _=>rfl) _ _ _
def Zey(x:Zd×Int):AVal×Za:=if x.2=0 then(.tup [.sl 0 0 0 x.1.length,.int .i64 0],[.row 0 1 (x.1.map Zc)])else(.tup [.lst true [],.int .i64 x.2],[])
theorem ZrK(b:Zd)(hl:b.length<=9223372036854775807):E 26 [Zf b] []=some (Zey (Z0 b)):=by
 unfold Z0
 by_cases h:b.length>65535
 ·have h':(b.length:Int)>65535:=by omega
  rw[Zg (by rfl) ZtV,if_pos h]
  simp only[EQA,Zk,Xd,Xb,reduceCtorEq,↓reduceIte,Zm,Zzx,Zm9,ZvZ,Zb,Zf,h']
  rfl
 ·have h':¬(b.length:Int)>65535:=by omega
  have hw:=ZuE b hl
  have hP:=fun σ sq hs=>Zza (bf:=BY) (Zym b.length 2 (by omega) (by omega) (by omega)) rfl rfl σ sq hs
  have z2:((2:Nat):Int)=2:=rfl
  rw[z2]at hP
  have k1:=Zbe b
  have hn:(beB b.length 2).length=2:=ZbJ 2 _
  have k2:(2+b.length)*1<=140737488355328:=by omega
  have hn2:((beB b.length 2).map Zc).length=2:=by rw[XL];exact hn
  have e2:(beB b.length 2++b).map Zc=(beB b.length 2).map Zc++b.map Zc:=by simp
  have e3:(beB b.length 2++b).length=2+b.length:=by rw[Xk,hn]
  rw[Zg (by rfl) ZtV,if_neg h]
  unfold Zey
  simp only[if_true,e2,e3]
  generalize (beB b.length 2).map Zc=Q at *
  simp only[EQA,Xf,Xd,Xb,Xg,reduceCtorEq,Zq,↓reduceIte,Zzx,Zm9,ZvZ,Zb,Zf,h',hw,hP,k1,k2,hn2,ZI]
  simp[EQO]
theorem ZzH{O:ZJ}{bf:Nat->Bool}{f:Nat}{args args':List AVal}{x:Zd×Int}(h:O f args' []=some (Zey x))(hx:x.2≠0->x.1=[])(hb:bf f=false)(hp:args.all Z2=true)(hn:args.map ZM=args')(σ:Za)(sq own:Nat):Zl O bf σ sq f own true args=some (byT x,σ,{}):=by
 unfold Zey at h
 obtain⟨b,e⟩:=x
 by_cases h0:e=0
 ·subst h0
  rw[if_pos rfl]at h
  exact ZsS h (by rw[XL]) hb hp hn _ _ _
 ·simp only[if_neg h0]at h
  have:=hx h0
  simp only at this
  subst this
  exact Zal h hb hp hn rfl (fun _=>rfl) _ _ _
theorem Zv0(b:Zd):(Z0 b).2≠0->(Z0 b).1=[]:=by
 unfold Z0;split<;>simp
theorem Zlv(b:Zd):(Zy b).2≠0->(Zy b).1=[]:=by
 unfold Zy;split
 ·exact Zv0 b
 ·simp
theorem ZrZ(σ:Za)(sq own:Nat)(f:Bool)(b:Zd)(hl:b.length<=9223372036854775807):Zl E BY σ sq 26 own true [.lst f (b.map Zc)]=some (byT (Z0 b),σ,{}) :=
 ZzH (ZrK b hl) (Zv0 b) (by kernel_rfl) rfl rfl _ _ _
theorem Zh7{O:ZJ}{bf:Nat->Bool}{f:Nat}{args args':List AVal}{x:Zd×Int}(h:O f args' []=some (Zey x))(h0:x.2=0)(hb:bf f=false)(hp:args.all Z2=true)(hn:args.map ZM=args')(σ:Za)(sq:Nat)(hs:freeAt σ sq=true):Zl O bf σ sq f 1 false args=some (.tup [.sl sq 0 0 x.1.length,.int .i64 0],σ.set sq (.row 0 1 (x.1.map Zc)),{ any:=true }):=by
 unfold Zey at h
 rw[if_pos h0]at h
 exact ZQH h hb hp hn σ sq hs
theorem ZhA{O:ZJ}{bf:Nat->Bool}{f:Nat}{args args':List AVal}{x:Zd×Int}(h:O f args' []=some (Zey x))(h0:x.2≠0)(hb:bf f=false)(hp:args.all Z2=true)(hn:args.map ZM=args')(σ:Za)(sq own:Nat):Zl O bf σ sq f own false args=some (.tup [.lst true [],.int .i64 x.2],σ,{}):=by
 unfold Zey at h
 rw[if_neg h0]at h
 rw[ZbK hb hp,hn,h]
 rfl
theorem ZeK(s:Zd)(hl:s.length<=9223372036854775807):E 25 [.str s] []=some (Zey (Zy s)):=by
 have hI:=fun σ sq own=>Zuk σ sq own true s hl
 unfold Zy
 cases h:ZcM s<;>rw[h]at hI
 ·rw[Zg (by rfl) ZpE]
  simp only[EQA,Zk,Xd,Xb,unA,reduceCtorEq,↓reduceIte,Zm,Zp5,Zjb,Zqu,Zb,hI]
  rfl
 ·by_cases h0:(Z0 s).2=0
  ·have hD:=fun σ sq hs=>Zh7 (bf:=BY) (ZrK s hl) h0 (by kernel_rfl) (args:=[.lst false (s.map Zc)]) rfl rfl σ sq hs
   rw[Zg (by rfl) ZpE]
   unfold Zey
   rw[if_pos rfl,if_pos h0]
   generalize (Z0 s).1.map Zc=Q at *
   simp only[EQA,Xd,Xb,Xg,unA,reduceCtorEq,↓reduceIte,Zp5,Zjb,Zqu,Zb,hI,hD]
   simp[EQO]
  ·have hD:=fun σ sq own=>ZhA (bf:=BY) (ZrK s hl) h0 (by kernel_rfl) (args:=[.lst false (s.map Zc)]) rfl rfl σ sq own
   rw[Zg (by rfl) ZpE]
   unfold Zey
   rw[if_pos rfl,if_neg h0]
   simp only[EQA,Zk,Xd,Xb,Xg,unA,reduceCtorEq,↓reduceIte,Zm,Zp5,Zjb,Zqu,Zb,hI,hD]
theorem Ztj(σ:Za)(sq own:Nat)(s:Zd)(hl:s.length<=9223372036854775807):Zl E BY σ sq 25 own true [.str s]=some (byT (Zy s),σ,{}) :=
 ZzH (ZeK s hl) (Zlv s) (by kernel_rfl) rfl rfl _ _ _
end
section
def gdT(x:Zd×Nat×Int):AVal:=.tup [.lst false (x.1.map Zc),.int .i64 (x.2.1:Nat),.int .i64 x.2.2]
def gtT(x:Zd×Nat×Int):AVal:=.tup [.str x.1,.int .i64 (x.2.1:Nat),.int .i64 x.2.2]
theorem Zjv(b:Zd)(h:b.length<=2):Zbf b<65536:=by
 unfold Zbf
 match b,h with
 | [],_=>simp[Zds]
 | [a],_=>rw[ZcH,Zds];have:=a.toNat_lt;omega
 | [a,c],_=>rw[ZcH,ZcH,Zds];have:=a.toNat_lt;have:=c.toNat_lt;omega
def ZG(b:Zd):Zd×Nat×Int:=if(Zt b).2.2≠0 then([],0,(Zt b).2.2)else if ZcM (Zt b).1 then Zt b else([],0,13)
theorem Zo1(d:Zd):(d.map Zc).all Zas=true:=by
 rw[XF]
 intro x hx
 obtain⟨y,_,rfl⟩:=XG.1 hx
 rfl
theorem ZJI{O:ZJ}{bf:Nat->Bool}{f k n:Nat}{args args':List AVal}{full:List AVal}{a b:Int}(h:O f args' []=some (.tup [.sl 0 0 0 n,.int .i64 a,.int .i64 b],[.row 0 k full]))(hl:n=full.length)(hb:bf f=false)(hp:args.all Z2=true)(hn:args.map ZM=args')(σ:Za)(sq own:Nat):Zl O bf σ sq f own true args=some (.tup [.lst false full,.int .i64 a,.int .i64 b],σ,{}):=by
 rw[ZbK hb hp,hn,h]
 have : ZO true 0 (some (.tup [.sl 0 0 0 n,.int .i64 a,.int .i64 b],[.row 0 k full]))=some (.tup [.lst false full,.int .i64 a,.int .i64 b],[]):=by
  unfold ZO
  rw[if_pos rfl]
  simp[EQO,hl,ZaI,viewR,viewAs,Zv,Zs,Zq,Zj]
 rw[this,ZdP _ _ _ _ rfl]
theorem ZDg{O:ZJ}{bf:Nat->Bool}{f:Nat}{args args':List AVal}{k n:Nat}{xs:List AVal}(h:O f args' []=some (.sl 0 0 0 n,[.row 0 k xs]))(hb:bf f=false)(hp:args.all Z2=true)(hn:args.map ZM=args')(hx:xs.all Zas=true)(σ:Za)(sq:Nat)(hs:freeAt σ sq=true):Zl O bf σ sq f 1 false args=some (.sl sq 0 0 n,σ.set sq (.row 0 k xs),{}):=by
 rw[ZbK hb hp,hn,h]
 simp[ZO,Z8,Zdc,hx]
theorem ZKG(σ:Za)(sq:Nat)(fl:Bool)(a:Zd)(hn:a.length<=140737488355328)(hs:freeAt σ sq=true):Zl E BY σ sq 34 1 false [.lst fl [.lst false (a.map Zc)]]=some (.sl sq 0 0 a.length,σ.set sq (.row 0 1 (a.map Zc)),{}):=by
 have h:=ZpT a [] (by simp) (by simpa using hn)
 simp only[WD,W9,XC]at h
 exact ZDg (args:=[.lst fl [.lst false (a.map Zc)]]) h (by kernel_rfl) rfl rfl (Zo1 _) σ sq hs
def gdR(x:Zd×Nat×Int):AVal×Za:=if x.2.2=0 then(.tup [.sl 0 0 0 x.1.length,.int .i64 (x.2.1:Nat),.int .i64 x.2.2],[.row 0 1 (x.1.map Zc)])else(.tup [.lst true [],.int .i64 (x.2.1:Nat),.int .i64 x.2.2],[])
theorem Zkj(b:Zd)(hl:b.length<=140737488355328):E 70 [Zf b] []=some (gdR (Zt b)):=by
 have t2:(b.take 2).length<=9223372036854775807:=by simp;omega
 have hG:=fun σ sq own f=>ZmG σ sq own (b.take 2) t2 f
 have hg:=Zjv (b.take 2) (by simp;omega)
 unfold Zt gdR
 generalize hGG:Zbf (b.take 2)=g at *
 have hi:IntKind.i64.wrap (g:Int)=(g:Int):=ZQ (by omega) (by omega)
 by_cases h1:b.length<2
 ·have h1':(b.length:Int)<2:=by omega
  rw[Zg (by rfl) Zqt,if_pos (Xp h1)]
  simp only[EQA,Zk,Xd,Xb,Zh,Zw,reduceCtorEq,↓reduceIte,Zm,Ztb,Zja,ZrU,Zb,Zf,h1']
  rfl
 ·have h1':¬(b.length:Int)<2:=by omega
  have s2:=fun σ kk=>Zg2 σ 1 b Zc kk 2 (by omega) (by omega)
  have e2:(2:Int).toNat=2:=rfl
  rw[e2]at s2
  have w1:IntKind.i64.wrap ((b.length:Int)-2)=((b.length-2:Nat):Int):=by rw[ZQ (by omega) (by omega)];omega
  by_cases h3:b.length-2<g
  ·have h3':((b.length-2:Nat):Int)<(g:Int):=by omega
   rw[Zg (by rfl) Zqt,if_pos (Xt h3)]
   simp only[EQA,Zk,Xd,Xb,Zh,unG,reduceCtorEq,↓reduceIte,Zm,Ztb,Zja,ZrU,Zb,Zf,h1',s2,hG,hi,w1,h3']
   rfl
  ·have h3':¬((b.length-2:Nat):Int)<(g:Int):=by omega
   have w2:IntKind.i64.wrap (2+(g:Int))=((2+g:Nat):Int):=by rw[ZQ (by omega) (by omega)];omega
   have s3:=fun σ k1 k2=>Zki σ b k1 k2 2 ((2+g:Nat):Int) (by omega) (by omega) (by omega)
   have e3:(((2+g:Nat):Int)).toNat=2+g:=rfl
   have e4:(b.take (2+g)).drop 2=(b.drop 2).take g:=by rw[Xac];congr 1;omega
   rw[e2,e3,e4]at s3
   have hJ:=fun σ sq fl hs=>ZKG σ sq fl ((b.drop 2).take g) (by simp;omega) hs
   have hc:¬(b.length<2\/b.length-2<g):=by omega
   rw[Zg (by rfl) Zqt,if_neg hc]
   generalize (b.drop 2).take g=d at *
   generalize hX:d.map Zc=X at *
   simp only[EQA,Xd,Xb,Xg,Zh,unG,reduceCtorEq,↓reduceIte,Ztb,Zja,ZrU,Zb,Zf,h1',s2,hG,hi,w1,h3',w2,s3,hJ,viewAs,Zv,Zs,Zj,AVal.cells]
   simp[EQO]
theorem ZDl(σ:Za)(sq:Nat)(f:Bool)(b:Zd)(hl:b.length<=140737488355328)(he:(Zt b).2.2=0)(hs:freeAt σ sq=true):Zl E BY σ sq 70 1 false [.lst f (b.map Zc)]=some (.tup [.sl sq 0 0 (Zt b).1.length,.int .i64 ((Zt b).2.1:Nat),.int .i64 0],σ.set sq (.row 0 1 ((Zt b).1.map Zc)),{ any:=true }):=by
 have h:=Zkj b hl
 unfold gdR at h
 rw[if_pos he,he]at h
 rw[ZbK (args:=[.lst f (b.map Zc)]) (by kernel_rfl) rfl]
 rw[show E 70 ([AVal.lst f (b.map Zc)].map ZM) []=_ from h]
 simp[ZO,Z8,Zdc,ZbO,okB,genB,Zbv,hs,renV,renL,ZaR,Za4,Zb4,Zay,ZbF,renB]
theorem Zu7(σ:Za)(sq:Nat)(f:Bool)(b:Zd)(hl:b.length<=140737488355328)(he:(Zt b).2.2≠0):Zl E BY σ sq 70 1 false [.lst f (b.map Zc)]=some (.tup [.lst true [],.int .i64 ((Zt b).2.1:Nat),.int .i64 (Zt b).2.2],σ,{}):=by
 have h:=Zkj b hl
 unfold gdR at h
 rw[if_neg he]at h
 rw[ZbK (args:=[.lst f (b.map Zc)]) (by kernel_rfl) rfl]
 rw[show E 70 ([AVal.lst f (b.map Zc)].map ZM) []=_ from h]
 exact ZdP _ _ _ _ rfl
theorem ZA9(σ:Za)(sq own:Nat)(f:Bool)(b:Zd)(hl:b.length<=140737488355328):Zl E BY σ sq 70 own true [.lst f (b.map Zc)]=some (gdT (Zt b),σ,{}):=by
 have h:=Zkj b hl
 unfold gdR at h
 unfold gdT
 by_cases he:(Zt b).2.2=0
 ·rw[if_pos he]at h
  exact ZJI h (by simp) (by kernel_rfl) rfl rfl σ sq own
 ·rw[if_neg he]at h
  have hd:(Zt b).1=[]:=by
   unfold Zt at he ⊢
   split
   ·rfl
   ·rename_i hc;rw[if_neg hc]at he;exact absurd rfl he
  rw[hd]
  exact Zal h (by kernel_rfl) rfl rfl rfl (fun _=>rfl) σ sq own
theorem ZwT(b:Zd)(hl:b.length<=140737488355328):E 73 [Zf b] []=some (gtT (ZG b),[]):=by
 have hD:=fun σ sq own f=>ZA9 σ sq own f b hl
 unfold gdT at hD
 have hI:=fun σ sq own=>Zx2 σ sq own true (Zt b).1
 unfold ZG
 by_cases h0:(Zt b).2.2=0
 ·have hn0:¬((Zt b).2.2≠0):=by omega
  have e0:((0:Int) != 0)=false:=rfl
  have hp:Zt b=((Zt b).1,(Zt b).2.1,0):=by rw[<-h0]
  rw[if_neg hn0]
  rw[hp]
  simp only
  rw[h0]at hD
  generalize (Zt b).1=d at *
  generalize (Zt b).2.1=u at *
  rw[Zg (by rfl) ZuC]
  cases ht:ZcM d<;>rw[ht]at hI
  ·simp only[EQA,Zk,Xd,Xb,unA,reduceCtorEq,Zq,↓reduceIte,Zm,ZpJ,Zj1,Zq2,Zb,Zf,hD,hI,e0,gtT]
   rfl
  ·simp only[EQA,Zk,Xd,Xb,unA,reduceCtorEq,Zq,↓reduceIte,Zm,ZpJ,Zj1,Zq2,Zb,Zf,hD,hI,e0,gtT]
 ·have hn0:((Zt b).2.2≠0):=h0
  have e0:((Zt b).2.2 != 0)=true:=by simpa using h0
  rw[if_pos hn0]
  generalize (Zt b).2.2=e at *
  rw[Zg (by rfl) ZuC]
  simp only[EQA,Zk,Xd,Xb,reduceCtorEq,↓reduceIte,Zm,ZpJ,Zj1,Zq2,Zb,Zf,hD,e0,gtT]
  rfl
theorem Zq3(σ:Za)(sq own:Nat)(f:Bool)(b:Zd)(hl:b.length<=140737488355328):Zl E BY σ sq 73 own true [.lst f (b.map Zc)]=some (gtT (ZG b),σ,{}) :=
 Zal (ZwT b hl) (by kernel_rfl) rfl rfl rfl (fun _=>rfl) _ _ _
theorem ZCE(b:Zd)(hl:b.length<=140737488355328):∃ f,E 91 [Zf b] []=some (.tup [.lst f ((Zt b).1.map Zc),.int .i64 ((Zt b).2.1:Nat),.int .i64 (Zt b).2.2],[]):=by
 have t2:(b.take 2).length<=9223372036854775807:=by simp;omega
 have hG:=fun σ sq own f=>ZmP σ sq own (b.take 2) t2 f
 have hg:=Zjv (b.take 2) (by simp;omega)
 unfold Zt
 generalize hGG:Zbf (b.take 2)=g at *
 have hi:IntKind.i64.wrap (g:Int)=(g:Int):=ZQ (by omega) (by omega)
 by_cases h1:b.length<2
 ·have h1':(b.length:Int)<2:=by omega
  refine⟨true,?_⟩
  rw[Zg (by rfl) Zry,if_pos (Xp h1)]
  simp only[EQA,Zk,Xd,Xb,reduceCtorEq,↓reduceIte,Zm,ZsV,ZjP,Zsh,Zb,Zf,h1']
  rfl
 ·have h1':¬(b.length:Int)<2:=by omega
  have s2:=fun σ kk=>Zg2 σ 1 b Zc kk 2 (by omega) (by omega)
  have e2:(2:Int).toNat=2:=rfl
  rw[e2]at s2
  have w1:IntKind.i64.wrap ((b.length:Int)-2)=((b.length-2:Nat):Int):=by rw[ZQ (by omega) (by omega)];omega
  by_cases h3:b.length-2<g
  ·have h3':((b.length-2:Nat):Int)<(g:Int):=by omega
   refine⟨true,?_⟩
   rw[Zg (by rfl) Zry,if_pos (Xt h3)]
   simp only[EQA,Zk,Xd,Xb,reduceCtorEq,↓reduceIte,Zm,ZsV,ZjP,Zsh,Zb,Zf,h1',s2,hG,hi,w1,h3']
   rfl
  ·have h3':¬((b.length-2:Nat):Int)<(g:Int):=by omega
   have w2:IntKind.i64.wrap (2+(g:Int))=((2+g:Nat):Int):=by rw[ZQ (by omega) (by omega)];omega
   have s3:=fun σ k1 k2=>Zki σ b k1 k2 2 ((2+g:Nat):Int) (by omega) (by omega) (by omega)
   have e3:(((2+g:Nat):Int)).toNat=2+g:=rfl
   have e4:(b.take (2+g)).drop 2=(b.drop 2).take g:=by rw[Xac];congr 1;omega
   rw[e2,e3,e4]at s3
   have hc:¬(b.length<2\/b.length-2<g):=by omega
   refine⟨false,?_⟩
   rw[Zg (by rfl) Zry,if_neg hc]
   simp only[EQA,Zk,Xd,Xb,reduceCtorEq,↓reduceIte,Zm,ZsV,ZjP,Zsh,Zb,Zf,h1',s2,hG,hi,w1,h3',w2,s3]
theorem Zx6(σ:Za)(sq own:Nat)(f:Bool)(b:Zd)(hl:b.length<=140737488355328):Zl E BY σ sq 91 own true [.lst f (b.map Zc)]=some (gdT (Zt b),σ,{}):=by
 obtain⟨g,h⟩:=ZCE b hl
 exact Zal h (by kernel_rfl) rfl rfl rfl (fun _=>rfl) _ _ _
theorem ZLH(b:Zd)(hl:b.length<=140737488355328):E 90 [Zf b] []=some (gtT (ZG b),[]):=by
 have hD:=fun σ sq own f=>Zx6 σ sq own f b hl
 unfold gdT at hD
 have hdl:(Zt b).1.length<=9223372036854775807:=by
  unfold Zt
  split
  ·simp
  ·simp;omega
 have hI:=fun σ sq own=>Zuk σ sq own true (Zt b).1 hdl
 unfold ZG
 by_cases h0:(Zt b).2.2=0
 ·have hn0:¬((Zt b).2.2≠0):=by omega
  have e0:((0:Int) != 0)=false:=rfl
  have hp:Zt b=((Zt b).1,(Zt b).2.1,0):=by rw[<-h0]
  rw[if_neg hn0]
  rw[hp]
  simp only
  rw[h0]at hD
  generalize (Zt b).1=d at *
  generalize (Zt b).2.1=u at *
  rw[Zg (by rfl) ZyZ]
  cases ht:ZcM d<;>rw[ht]at hI
  ·simp only[EQA,Zk,Xd,Xb,unA,reduceCtorEq,Zq,↓reduceIte,Zm,Zpo,Zjw,ZtA,Zb,Zf,hD,hI,e0,gtT]
   rfl
  ·simp only[EQA,Zk,Xd,Xb,unA,reduceCtorEq,Zq,↓reduceIte,Zm,Zpo,Zjw,ZtA,Zb,Zf,hD,hI,e0,gtT]
 ·have hn0:((Zt b).2.2≠0):=h0
  have e0:((Zt b).2.2 != 0)=true:=by simpa using h0
  rw[if_pos hn0]
  generalize (Zt b).2.2=e at *
  rw[Zg (by rfl) ZyZ]
  simp only[EQA,Zk,Xd,Xb,reduceCtorEq,↓reduceIte,Zm,Zpo,Zjw,ZtA,Zb,Zf,hD,e0,gtT]
  rfl
theorem Zyd(σ:Za)(sq own:Nat)(f:Bool)(b:Zd)(hl:b.length<=140737488355328):Zl E BY σ sq 90 own true [.lst f (b.map Zc)]=some (gtT (ZG b),σ,{}) :=
 Zal (ZLH b hl) (by kernel_rfl) rfl rfl rfl (fun _=>rfl) _ _ _
end
section
theorem Zj5(id:Int):ZaG id=0\/ZaG id=1\/ZaG id=2\/ZaG id=3\/ZaG id=4\/ZaG id=5\/ZaG id=6\/ZaG id=7:=by
 unfold ZaG
 by_cases h:ZdB id
 ·unfold ZdB at h
  rcases h with rfl |rfl |rfl |rfl |rfl |rfl |rfl |rfl |rfl |rfl |rfl |rfl |rfl |rfl |rfl |rfl |rfl |rfl |rfl |rfl |rfl |rfl |rfl |rfl |rfl |rfl |rfl
  all_goals decide
 ·rw[Zi0 h];simp
theorem ZoE(b:Zd)(h:b.length<=4):Zbf b<4294967296:=by
 unfold Zbf
 match b,h with
 | [],_=>simp[Zds]
 | [a],_=>rw[ZcH,Zds];have:=a.toNat_lt;omega
 | [a,c],_=>rw[ZcH,ZcH,Zds];have:=a.toNat_lt;have:=c.toNat_lt;omega
 | [a,c,d],_=>rw[ZcH,ZcH,ZcH,Zds];have:=a.toNat_lt;have:=c.toNat_lt;have:=d.toNat_lt;omega
 | [a,c,d,e],_=>rw[ZcH,ZcH,ZcH,ZcH,Zds];have:=a.toNat_lt;have:=c.toNat_lt;have:=d.toNat_lt;have:=e.toNat_lt;omega
def Zcy(id:Int)(W:Nat)(b:Zd):Zp×Nat×Bool:=if b.length<W then(⟨id,0,[],[],[]⟩,0,false)else(⟨id,Zbf (b.take W),[],[],[]⟩,W,true)
def Zd0(id:Int)(b:Zd):Zp×Nat×Bool :=
 if(ZG b).2.2=0 then(⟨id,0,(ZG b).1,(ZG (b.drop (ZG b).2.1)).1,[]⟩,(ZG b).2.1+(ZG (b.drop (ZG b).2.1)).2.1,(ZG (b.drop (ZG b).2.1)).2.2==0)else(⟨id,0,[],[],[]⟩,0,false)
def Zb2(k id:Int)(b:Zd):Zp×Nat×Bool :=
 if k=1 then Zcy id 1 b else if k=2 then Zcy id 2 b else if k=3 then Zcy id 4 b
 else if k=4 then(⟨id,(ZL b).1,[],[],[]⟩,(ZL b).2.1,(ZL b).2.2==0)
 else if k=5 then(⟨id,0,(ZG b).1,[],[]⟩,(ZG b).2.1,(ZG b).2.2==0)
 else if k=6 then(⟨id,0,[],[],(Zt b).1⟩,(Zt b).2.1,(Zt b).2.2==0)
 else if k=7 then Zd0 id b else(⟨id,0,[],[],[]⟩,0,true)
def Zam(id:Int)(b:Zd):Zp×Nat×Bool:=Zb2 (ZaG id) id b
def Zbx(f:Bool)(x:Zp×Nat×Bool):AVal:=.tup [.agg [.int .i64 x.1.id,.int .i64 x.1.num,.str x.1.text,.str x.1.pair,.lst f (x.1.data.map Zc)],.int .i64 (x.2.1:Nat),.bool x.2.2]
theorem ZhG(b:Zd):(Zt b).2.1<=b.length/\(Zt b).1.length<=b.length:=by
 unfold Zt
 by_cases h:b.length<2\/b.length-2<Zbf (b.take 2)
 ·rw[if_pos h];simp
 ·rw[if_neg h]
  simp only[not_or]at h
  simp;omega
theorem Zhl(b:Zd):(ZG b).2.1<=b.length/\((ZG b).2.2≠0->(ZG b).1=[]/\(ZG b).2.1=0):=by
 have hd:=ZhG b
 unfold ZG
 by_cases h:(Zt b).2.2≠0
 ·rw[if_pos h];simp
 ·rw[if_neg h]
  by_cases ht:ZcM (Zt b).1=true
  ·rw[if_pos ht];exact⟨hd.1,fun h'=>absurd h' h⟩
  ·rw[if_neg ht];simp
theorem Zoq(id:Int)(b:Zd)(hl:b.length<=140737488355328)(k:Int)(W:Nat)(hk:ZaG id=k)(hW:(k=1/\W=1)\/(k=2/\W=2)\/(k=3/\W=4)):E 97 [.int .i64 id,Zf b] []=some (Zbx true (Zcy id W b),[]):=by
 have hC:=fun σ sq own=>Zkg σ sq own id
 rw[hk]at hC
 have hG:=fun σ sq own f=>ZmG σ sq own (b.take W) (by simp;omega) f
 have hg:=ZoE (b.take W) (by simp;omega)
 unfold Zcy
 generalize Zbf (b.take W)=g at *
 have hi:IntKind.i64.wrap (g:Int)=(g:Int):=ZQ (by omega) (by omega)
 have hw:∀ W:Nat,W<=b.length->∀ (σ:Za) (kk:IntKind),Zbj σ 1 (.lst false (b.map Zc)) none (some (.int kk (W:Int))) none=some (.lst false ((b.take W).map Zc),σ,{}):=fun W hW σ kk=>by
  have:=Zg2 σ 1 b Zc kk (W:Int) (by omega) (by omega)
  exact this
 have z1:((1:Nat):Int)=1:=rfl
 have z2:((2:Nat):Int)=2:=rfl
 have z4:((4:Nat):Int)=4:=rfl
 rcases hW with⟨rfl,rfl⟩ |⟨rfl,rfl⟩ |⟨rfl,rfl⟩
 ·have w1:IntKind.i64.wrap (1-1)=0:=rfl
  have w2:IntKind.i64.wrap (1*2^min (Xal 0) IntKind.i64.bits)=1:=rfl
  have ng:¬((0:Int)<0):=by decide
  by_cases h:b.length<1
  ·have h':(b.length:Int)<1:=by omega
   rw[Zg (by rfl) Zd2,if_pos h]
   simp only[EQA,Zk,Xf,Xd,Xe,Xb,Xg,ZbT,reduceCtorEq,↓reduceIte,Zm,ZdS,Zdh,ZdU,Zb,Zf,hC,w1,w2,ng,h',Zbx,AVal.cells]
   rfl
  ·have h':¬(b.length:Int)<1:=by omega
   have hs:=hw 1 (by omega)
   rw[z1]at hs
   have e0:((0:Int)==0)=true:=rfl
   rw[Zg (by rfl) Zd2,if_neg h]
   simp only[EQA,Zk,Xf,Xd,Xe,Xb,Xg,ZbT,reduceCtorEq,↓reduceIte,Zm,ZdS,Zdh,ZdU,Zb,Zf,hC,w1,w2,ng,h',hs,hG,hi,Zbx,AVal.cells]
   rfl
 ·have w1:IntKind.i64.wrap (2-1)=1:=rfl
  have w2:IntKind.i64.wrap (1*2^min (Xal 1) IntKind.i64.bits)=2:=rfl
  have ng:¬((1:Int)<0):=by decide
  by_cases h:b.length<2
  ·have h':(b.length:Int)<2:=by omega
   rw[Zg (by rfl) Zd2,if_pos h]
   simp only[EQA,Zk,Xf,Xd,Xe,Xb,Xg,ZbT,reduceCtorEq,↓reduceIte,Zm,ZdS,Zdh,ZdU,Zb,Zf,hC,w1,w2,ng,h',Xw,Zbx,AVal.cells]
   rfl
  ·have h':¬(b.length:Int)<2:=by omega
   have hs:=hw 2 (by omega)
   rw[z2]at hs
   have e0:((0:Int)==0)=true:=rfl
   rw[Zg (by rfl) Zd2,if_neg h]
   simp only[EQA,Zk,Xf,Xd,Xe,Xb,Xg,ZbT,reduceCtorEq,↓reduceIte,Zm,ZdS,Zdh,ZdU,Zb,Zf,hC,w1,w2,ng,h',hs,hG,hi,Xw,Zbx,AVal.cells]
   rfl
 ·have w1:IntKind.i64.wrap (3-1)=2:=rfl
  have w2:IntKind.i64.wrap (1*2^min (Xal 2) IntKind.i64.bits)=4:=rfl
  have ng:¬((2:Int)<0):=by decide
  by_cases h:b.length<4
  ·have h':(b.length:Int)<4:=by omega
   rw[Zg (by rfl) Zd2,if_pos h]
   simp only[EQA,Zk,Xf,Xd,Xe,Xb,Xg,ZbT,reduceCtorEq,↓reduceIte,Zm,ZdS,Zdh,ZdU,Zb,Zf,hC,w1,w2,ng,h',Xw,Zbx,AVal.cells]
   rfl
  ·have h':¬(b.length:Int)<4:=by omega
   have hs:=hw 4 (by omega)
   rw[z4]at hs
   have e0:((0:Int)==0)=true:=rfl
   rw[Zg (by rfl) Zd2,if_neg h]
   simp only[EQA,Zk,Xf,Xd,Xe,Xb,Xg,ZbT,reduceCtorEq,↓reduceIte,Zm,ZdS,Zdh,ZdU,Zb,Zf,hC,w1,w2,ng,h',hs,hG,hi,Xw,Zbx,AVal.cells]
   rfl
def prR(dk:Bool)(x:Zp):AVal:=.agg [.int .i64 x.id,.int .i64 x.num,.str x.text,.str x.pair,if dk then .sl 0 0 0 x.data.length else .lst true []]
def prH(dk:Bool)(x:Zp):Za:=if dk then [.row 0 1 (x.data.map Zc)]else []
def ZdQ(dk:Bool)(x:Zp×Nat×Bool):AVal×Za:=(.tup [prR dk x.1,.int .i64 (x.2.1:Nat),.bool x.2.2],prH dk x.1)
theorem ZRh(id:Int)(b:Zd)(hl:b.length<=140737488355328):∃ dk,(dk=false->(Zam id b).1.data=[])/\E 97 [.int .i64 id,Zf b] []=some (ZdQ dk (Zam id b)):=by
 unfold Zam
 have hC:=fun σ sq own=>Zkg σ sq own id
 have hGV:=fun σ sq own f=>ZmS σ sq own f b (by omega)
 have hGT:=fun σ sq own f=>Zq3 σ sq own f b hl
 have z0:((0:Nat):Int)=0:=rfl
 have hn:∀ (W:Nat),E 97 [.int .i64 id,Zf b] []=some (Zbx true (Zcy id W b),[])->∃ dk,(dk=false->(Zcy id W b).1.data=[])/\E 97 [.int .i64 id,Zf b] []=some (ZdQ dk (Zcy id W b)):=by
  intro W h
  have hd:(Zcy id W b).1.data=[]:=by unfold Zcy;split<;>rfl
  refine⟨false,fun _=>hd,?_⟩
  rw[h]
  unfold Zbx ZdQ prR prH
  rw[hd]
  rfl
 rcases Zj5 id with hk |hk |hk |hk |hk |hk |hk |hk
 ·rw[hk]at hC ⊢
  rw[show Zb2 0 id b=(⟨id,0,[],[],[]⟩,0,true)from rfl]
  refine⟨false,fun _=>rfl,?_⟩
  rw[Zg (by rfl) Zd2]
  have e0:((0:Int)==0)=true:=rfl
  unfold ZdQ prR prH
  simp only[EQA,Zk,Xf,Xd,Xe,Xb,Xg,reduceCtorEq,↓reduceIte,Zm,ZdS,Zdh,ZdU,Zb,Zf,hC,Xw,AVal.cells]
  rfl
 ·rw[hk];exact hn 1 (Zoq id b hl 1 1 hk (by simp))
 ·rw[hk];exact hn 2 (Zoq id b hl 2 2 hk (by simp))
 ·rw[hk];exact hn 4 (Zoq id b hl 3 4 hk (by simp))
 ·rw[hk]at hC ⊢
  rw[show Zb2 4 id b=(⟨id,(ZL b).1,[],[],[]⟩,(ZL b).2.1,(ZL b).2.2==0)from rfl]
  refine⟨false,fun _=>rfl,?_⟩
  rw[Zg (by rfl) Zd2]
  unfold gvT at hGV
  unfold ZdQ prR prH
  simp only[EQA,Zk,Xf,Xd,Xe,Xb,Xg,reduceCtorEq,↓reduceIte,Zm,ZdS,Zdh,ZdU,Zb,Zf,hC,hGV,Xw,AVal.cells]
 ·rw[hk]at hC ⊢
  rw[show Zb2 5 id b=(⟨id,0,(ZG b).1,[],[]⟩,(ZG b).2.1,(ZG b).2.2==0)from rfl]
  refine⟨false,fun _=>rfl,?_⟩
  rw[Zg (by rfl) Zd2]
  unfold gtT at hGT
  unfold ZdQ prR prH
  simp only[EQA,Zk,Xf,Xd,Xe,Xb,Xg,reduceCtorEq,↓reduceIte,Zm,ZdS,Zdh,ZdU,Zb,Zf,hC,hGT,Xw,AVal.cells]
 ·rw[hk]at hC ⊢
  rw[show Zb2 6 id b=(⟨id,0,[],[],(Zt b).1⟩,(Zt b).2.1,(Zt b).2.2==0)from rfl]
  by_cases he:(Zt b).2.2=0
  ·refine⟨true,(fun h=>absurd h (by decide)),?_⟩
   have hGD:=fun σ sq f hs=>ZDl σ sq f b hl he hs
   have e0:((0:Int)==0)=true:=rfl
   rw[he]
   rw[Zg (by rfl) Zd2]
   unfold ZdQ prR prH
   generalize (Zt b).1=d at *
   generalize hX:d.map Zc=X at *
   simp only[EQA,Xf,Xd,Xe,Xb,Xg,reduceCtorEq,↓reduceIte,ZdS,Zdh,ZdU,Zb,Zf,hC,hGD,Xw,AVal.cells]
   simp[EQO]
  ·have hd:(Zt b).1=[]:=by
    unfold Zt at he ⊢
    split
    ·rfl
    ·rename_i hc;rw[if_neg hc]at he;exact absurd rfl he
   have e1:((Zt b).2.2==0)=false:=by simpa using he
   refine⟨false,fun _=>hd,?_⟩
   have hGD:=fun σ sq f=>Zu7 σ sq f b hl he
   rw[e1]
   rw[Zg (by rfl) Zd2]
   unfold ZdQ prR prH
   simp only[EQA,Zk,Xf,Xd,Xe,Xb,Xg,reduceCtorEq,↓reduceIte,Zm,ZdS,Zdh,ZdU,Zb,Zf,hC,hGD,e1,Xw,AVal.cells]
 ·rw[hk]at hC ⊢
  rw[show Zb2 7 id b=Zd0 id b from rfl]
  have hd:(Zd0 id b).1.data=[]:=by unfold Zd0;split<;>rfl
  refine⟨false,fun _=>hd,?_⟩
  clear hd
  rw[Zg (by rfl) Zd2]
  unfold gtT at hGT
  unfold ZdQ prR prH Zd0
  have hu:=Zhl b
  by_cases h:(ZG b).2.2=0
  ·have h':((ZG b).2.2==0)=true:=by simpa using h
   have hs:=fun σ kk=>Zfp σ b kk (((ZG b).2.1:Nat):Int) (by omega) (by omega)
   have e:((((ZG b).2.1:Nat):Int)).toNat=(ZG b).2.1:=rfl
   rw[e]at hs
   have hGT2:=fun σ sq own f=>Zq3 σ sq own f (b.drop (ZG b).2.1) (by simp;omega)
   unfold gtT at hGT2
   have hu2:=Zhl (b.drop (ZG b).2.1)
   have hdl:(b.drop (ZG b).2.1).length<=b.length:=by simp
   have hw:IntKind.i64.wrap ((((ZG b).2.1:Nat):Int)+(((ZG (b.drop (ZG b).2.1)).2.1:Nat):Int))=(((ZG b).2.1+(ZG (b.drop (ZG b).2.1)).2.1:Nat):Int):=by
    rw[ZQ (by omega) (by omega)];rfl
   rw[if_pos h]
   rw[h]at hGT
   have e0:((0:Int)==0)=true:=rfl
   simp only[EQA,Zk,Xf,Xd,Xe,Xb,Xg,reduceCtorEq,↓reduceIte,Zm,ZdS,Zdh,ZdU,Zb,Zf,hC,hGT,hs,hGT2,hw,Xw,AVal.cells]
  ·have h':((ZG b).2.2==0)=false:=by simpa using h
   rw[if_neg h]
   obtain⟨x1,x2⟩:=hu.2 h
   rw[x1,x2]at hGT
   simp only[EQA,Zk,Xf,Xd,Xe,Xb,Xg,reduceCtorEq,↓reduceIte,Zm,ZdS,Zdh,ZdU,Zb,Zf,hC,hGT,h',Xw,AVal.cells]
end
section
theorem ZoU(id:Int)(b:Zd)(hl:b.length<=140737488355328)(k:Int)(W:Nat)(hk:ZaG id=k)(hW:(k=1/\W=1)\/(k=2/\W=2)\/(k=3/\W=4)):E 67 [.int .i64 id,Zf b] []=some (Zbx true (Zcy id W b),[]):=by
 have hC:=fun σ sq own=>Zr6 σ sq own id
 rw[hk]at hC
 have hG:=fun σ sq own f=>ZmP σ sq own (b.take W) (by simp;omega) f
 have hg:=ZoE (b.take W) (by simp;omega)
 unfold Zcy
 generalize Zbf (b.take W)=g at *
 have hi:IntKind.i64.wrap (g:Int)=(g:Int):=ZQ (by omega) (by omega)
 have hw:∀ W:Nat,W<=b.length->∀ (σ:Za) (kk:IntKind),Zbj σ 1 (.lst false (b.map Zc)) none (some (.int kk (W:Int))) none=some (.lst false ((b.take W).map Zc),σ,{}):=fun W hW σ kk=>by
  have:=Zg2 σ 1 b Zc kk (W:Int) (by omega) (by omega)
  exact this
 have z1:((1:Nat):Int)=1:=rfl
 have z2:((2:Nat):Int)=2:=rfl
 have z4:((4:Nat):Int)=4:=rfl
 rcases hW with⟨rfl,rfl⟩ |⟨rfl,rfl⟩ |⟨rfl,rfl⟩
 ·skip
  by_cases h:b.length<1
  ·have h':(b.length:Int)<1:=by omega
   rw[Zg (by rfl) ZeJ,if_pos h]
   simp only[EQA,ZaT,Zk,Xf,Xd,Xe,Xb,Xg,reduceCtorEq,↓reduceIte,Zm,Zej,ZdF,Zd9,Zb,Zf,hC,h',Zbx,AVal.cells,Z3]
   rfl
  ·have h':¬(b.length:Int)<1:=by omega
   have hs:=hw 1 (by omega)
   rw[z1]at hs
   have e0:((0:Int)==0)=true:=rfl
   rw[Zg (by rfl) ZeJ,if_neg h]
   simp only[EQA,ZaT,Zk,Xf,Xd,Xe,Xb,Xg,reduceCtorEq,↓reduceIte,Zm,Zej,ZdF,Zd9,Zb,Zf,hC,h',hs,hG,hi,Zbx,AVal.cells,Z3]
   rfl
 ·skip
  by_cases h:b.length<2
  ·have h':(b.length:Int)<2:=by omega
   rw[Zg (by rfl) ZeJ,if_pos h]
   simp only[EQA,ZaT,Zk,Xf,Xd,Xe,Xb,Xg,reduceCtorEq,↓reduceIte,Zm,Zej,ZdF,Zd9,Zb,Zf,hC,h',Xw,Zbx,AVal.cells,Z3]
   rfl
  ·have h':¬(b.length:Int)<2:=by omega
   have hs:=hw 2 (by omega)
   rw[z2]at hs
   have e0:((0:Int)==0)=true:=rfl
   rw[Zg (by rfl) ZeJ,if_neg h]
   simp only[EQA,ZaT,Zk,Xf,Xd,Xe,Xb,Xg,reduceCtorEq,↓reduceIte,Zm,Zej,ZdF,Zd9,Zb,Zf,hC,h',hs,hG,hi,Xw,Zbx,AVal.cells,Z3]
   rfl
 ·skip
  by_cases h:b.length<4
  ·have h':(b.length:Int)<4:=by omega
   rw[Zg (by rfl) ZeJ,if_pos h]
   simp only[EQA,ZaT,Zk,Xf,Xd,Xe,Xb,Xg,reduceCtorEq,↓reduceIte,Zm,Zej,ZdF,Zd9,Zb,Zf,hC,h',Xw,Zbx,AVal.cells,Z3]
   rfl
  ·have h':¬(b.length:Int)<4:=by omega
   have hs:=hw 4 (by omega)
   rw[z4]at hs
   have e0:((0:Int)==0)=true:=rfl
   rw[Zg (by rfl) ZeJ,if_neg h]
   simp only[EQA,ZaT,Zk,Xf,Xd,Xe,Xb,Xg,reduceCtorEq,↓reduceIte,Zm,Zej,ZdF,Zd9,Zb,Zf,hC,h',hs,hG,hi,Xw,Zbx,AVal.cells,Z3]
   rfl
theorem ZNE(id:Int)(b:Zd)(hl:b.length<=140737488355328):(ZaG id≠6->E 67 [.int .i64 id,Zf b] []=some (Zbx true (Zam id b),[]))/\(ZaG id=6->E 67 [.int .i64 id,Zf b] []=some (.tup [.agg [.int .i64 id,.int .i64 0,.str [],.str [],.sl 0 0 0 (Zt b).1.length],.int .i64 ((Zt b).2.1:Nat),.bool ((Zt b).2.2==0)],[.row 0 1 ((Zt b).1.map Zc)])):=by
 unfold Zam
 have hC:=fun σ sq own=>Zr6 σ sq own id
 have hGV:=fun σ sq own f=>ZnE σ sq own f b (by omega)
 have hGT:=fun σ sq own f=>Zyd σ sq own f b hl
 have hGD:=fun σ sq own f=>Zx6 σ sq own f b hl
 have z0:((0:Nat):Int)=0:=rfl
 rcases Zj5 id with hk |hk |hk |hk |hk |hk |hk |hk
 ·refine⟨fun _=>?_,fun h6=>by rw[hk]at h6;exact absurd h6 (by decide)⟩
  rw[hk]at hC ⊢
  have hG:=fun σ sq own f=>ZmP σ sq own (b.take 0) (by simp) f
  rw[show Zbf (b.take 0)=0 from rfl]at hG
  have hs:=fun σ kk=>Zg2 σ 1 b Zc kk 0 (by omega) (by omega)
  rw[show(0:Int).toNat=0 from rfl]at hs
  have h':¬(b.length:Int)<0:=by omega
  have hi:IntKind.i64.wrap 0=0:=rfl
  rw[show Zb2 0 id b=(⟨id,0,[],[],[]⟩,0,true)from rfl,Zg (by rfl) ZeJ]
  rw[z0]at hG
  generalize b.take 0=b0 at *
  simp only[EQA,ZaT,Zk,Xf,Xd,Xe,Xb,Xg,reduceCtorEq,↓reduceIte,Zm,Zej,ZdF,Zd9,Zb,Zf,hC,hG,hs,h',hi,Xw,Zbx,AVal.cells,Z3]
  rfl
 ·rw[hk];exact⟨fun _=>ZoU id b hl 1 1 hk (by simp),fun h6=>absurd h6 (by decide)⟩
 ·rw[hk];exact⟨fun _=>ZoU id b hl 2 2 hk (by simp),fun h6=>absurd h6 (by decide)⟩
 ·rw[hk];exact⟨fun _=>ZoU id b hl 3 4 hk (by simp),fun h6=>absurd h6 (by decide)⟩
 ·refine⟨fun _=>?_,fun h6=>by rw[hk]at h6;exact absurd h6 (by decide)⟩
  rw[hk]at hC ⊢
  rw[show Zb2 4 id b=(⟨id,(ZL b).1,[],[],[]⟩,(ZL b).2.1,(ZL b).2.2==0)from rfl,Zg (by rfl) ZeJ]
  unfold gvT at hGV
  simp only[EQA,ZaT,Zk,Xf,Xd,Xe,Xb,Xg,reduceCtorEq,↓reduceIte,Zm,Zej,ZdF,Zd9,Zb,Zf,hC,hGV,Xw,Zbx,AVal.cells,Z3]
 ·refine⟨fun _=>?_,fun h6=>by rw[hk]at h6;exact absurd h6 (by decide)⟩
  rw[hk]at hC ⊢
  rw[show Zb2 5 id b=(⟨id,0,(ZG b).1,[],[]⟩,(ZG b).2.1,(ZG b).2.2==0)from rfl,Zg (by rfl) ZeJ]
  unfold gtT at hGT
  simp only[EQA,ZaT,Zk,Xf,Xd,Xe,Xb,Xg,reduceCtorEq,↓reduceIte,Zm,Zej,ZdF,Zd9,Zb,Zf,hC,hGT,Xw,Zbx,AVal.cells,Z3]
 ·refine⟨fun h6=>absurd hk h6,fun _=>?_⟩
  rw[hk]at hC
  have hdl:=(ZhG b).2
  have k1:=Zbe (Zt b).1
  have k2:(Zt b).1.length*1<=140737488355328:=by omega
  rw[Zg (by rfl) ZeJ]
  unfold gdT at hGD
  generalize (Zt b).1=d at *
  simp only[EQA,ZaT,ZX,Xf,Xd,Xe,Xb,Xg,reduceCtorEq,Zq,↓reduceIte,Zej,ZdF,Zd9,Zb,Zf,hC,hGD,k1,k2,Xw,AVal.cells,Z3,ZI,viewAs,Zj]
  simp[EQO]
 ·refine⟨fun _=>?_,fun h6=>by rw[hk]at h6;exact absurd h6 (by decide)⟩
  rw[hk]at hC ⊢
  rw[show Zb2 7 id b=Zd0 id b from rfl,Zg (by rfl) ZeJ]
  unfold gtT at hGT
  unfold Zd0
  have hu:=Zhl b
  by_cases h:(ZG b).2.2=0
  ·have h':((ZG b).2.2==0)=true:=by simpa using h
   have hs:=fun σ kk=>Zfp σ b kk (((ZG b).2.1:Nat):Int) (by omega) (by omega)
   have e:((((ZG b).2.1:Nat):Int)).toNat=(ZG b).2.1:=rfl
   rw[e]at hs
   have hGT2:=fun σ sq own f=>Zyd σ sq own f (b.drop (ZG b).2.1) (by simp;omega)
   unfold gtT at hGT2
   have hu2:=Zhl (b.drop (ZG b).2.1)
   have hdl:(b.drop (ZG b).2.1).length<=b.length:=by simp
   have hw:IntKind.i64.wrap ((((ZG b).2.1:Nat):Int)+(((ZG (b.drop (ZG b).2.1)).2.1:Nat):Int))=(((ZG b).2.1+(ZG (b.drop (ZG b).2.1)).2.1:Nat):Int):=by
    rw[ZQ (by omega) (by omega)];rfl
   rw[if_pos h]
   rw[h]at hGT
   have e0:((0:Int)==0)=true:=rfl
   have n0:((0:Int) != 0)=false:=rfl
   simp only[EQA,ZaT,Zk,Xf,Xd,Xe,Xb,Xg,reduceCtorEq,↓reduceIte,Zm,Zej,ZdF,Zd9,Zb,Zf,hC,hGT,hs,hGT2,hw,n0,Xw,Zbx,AVal.cells,Z3]
  ·have h':((ZG b).2.2==0)=false:=by simpa using h
   rw[if_neg h]
   obtain⟨x1,x2⟩:=hu.2 h
   rw[x1,x2]at hGT
   have h'':((ZG b).2.2 != 0)=true:=by simpa using h
   simp only[EQA,ZaT,Zk,Xf,Xd,Xe,Xb,Xg,reduceCtorEq,↓reduceIte,Zm,Zej,ZdF,Zd9,Zb,Zf,hC,hGT,h'',Xw,Zbx,AVal.cells,Z3]
   rfl
theorem ZHo(σ:Za)(sq own:Nat)(f:Bool)(id:Int)(b:Zd)(hl:b.length<=140737488355328):Zl E BY σ sq 67 own true [.int .i64 id,.lst f (b.map Zc)]=some (Zbx false (Zam id b),σ,{}):=by
 obtain⟨h1,h2⟩:=ZNE id b hl
 by_cases hk:ZaG id=6
 ·have h:=h2 hk
  have e:Zam id b=(⟨id,0,[],[],(Zt b).1⟩,(Zt b).2.1,(Zt b).2.2==0):=by unfold Zam;rw[hk];rfl
  rw[e,ZbK (by kernel_rfl) rfl]
  have hm:[AVal.int .i64 id,.lst f (b.map Zc)].map ZM=[AVal.int .i64 id,Zf b]:=rfl
  rw[hm,h]
  simp[EQO,ZO,ZaI,viewR,viewAs,Zv,Zao,Zs,Zq,Zj,Z8,ZaQ,Zas,Z5,Zbx]
  exact Xy (by simp)
 ·exact Zal (h1 hk) (by kernel_rfl) rfl rfl rfl (fun _=>rfl) _ _ _
end
section
def ZmC(b:Bool):AVal:=.tup [.agg [.int .i64 0,.int .i64 0,.str [],.str [],.lst b []],.bool false]
theorem Zqv(l:Zd):kOk 1 (l.map Zc)=true:=by cases l<;>rfl
theorem ZFA(l:Zd)(h:l.length<=140737488355328):E 75 [.lst false (l.map Zc)] []=some (.sl 0 0 0 (l.map Zc).length,[.row 0 1 (l.map Zc)]):=by
 refine Zei.2 ⟨1,?_⟩
 show Zil 1 1 [.lst false (l.map Zc)] []=_
 have h1:(l.map Zc).length*1<=140737488355328/\kOk 1 (l.map Zc)=true:=⟨by simpa using h,Zqv l⟩
 simp only[Zil,Zq]
 rw[if_pos h1];rfl
theorem ZQl(σ:Za)(sq own:Nat)(l:Zd)(h:l.length<=140737488355328):Zl E BY σ sq 75 own true [.lst false (l.map Zc)]=some (.lst false (l.map Zc),σ,{}) :=
 ZiZ (bf:=BY) (ZFA l h) rfl rfl rfl σ sq own
theorem ZHI(p:Zp)(h:p.data.length<=140737488355328):E 92 [Zi p] []=some (Zi p,[]):=by
 have hC:=fun σ sq own=>ZQl σ sq own p.data h
 rw[Zg (by rfl) ZIH]
 simp only[EQA,ZR,Zk,Xf,Xd,Xe,Xb,Xg,↓reduceIte,Zm,ZDr,ZqU,ZLk,Zb,Zf,Zi,ZZ,hC]
theorem ZvW(σ:Za)(sq own:Nat)(p:Zp)(h:p.data.length<=140737488355328):Zl E BY σ sq 92 own true [.agg [.int .i64 p.id,.int .i64 p.num,.str p.text,.str p.pair,.lst false (p.data.map Zc)]]=some (.agg [.int .i64 p.id,.int .i64 p.num,.str p.text,.str p.pair,.lst false (p.data.map Zc)],σ,{}) :=
 ZcC (ZHI p h) (by kernel_rfl) (by simp only[Zba,Zbz,eq_self,Zf,Zi,ZZ]) (by simp only[Zba,ZR,Zbz,eq_self,Zf,Zi,ZZ]) rfl (fun _=>rfl) _ _ _ _
def Zex(id:Int):List Zp->AVal
 | []=>ZmC true
 |p::r=>if p.id==id then .tup [Zi p,.bool true]else Zex id r
theorem Zwd(l:List Zp)(hl:l.length<=9223372036854775807)(hd:∀ p∈l,p.data.length<=140737488355328)(id:Int):∀ (r:List Zp) (i:Nat),l.drop i=r ->
  ZkE 0 [(10,.int .i64 i),(9,.int .i64 l.length),(8,.lst false (l.map Zi)),(4,.ref 0 0),(0,.int .i64 id)] [.var [.int .i64 0,.int .i64 0,.str [],.str [],.lst true []]]=some (Zex id r,[])
 | [],i,h=>by
  have h1:=ZcG h
  unfold ZkE
  rw[Zr,Zex]
  simp only[EQA,Zk,Xf,Xd,Xe,Xb,reduceCtorEq,↓reduceIte,Zm,Zt1,ZGA,Ztf,Zn0,Zj3,Zb,h1,ZmC,Z3,AVal.cells]
 |p::r,i,h=>by
  have ih:=Zwd l hl hd id r (i+1) (ZP h).2.1
  have h1:(i:Int)<l.length:=by have:=(ZP h).2.2;omega
  have e1:=iad (ZP h).1 Zi (k:=5) rfl
  have e3:=Zcp h1 hl
  have hC:=fun σ sq own=>ZvW σ sq own p (hd p (Xx (ZP h).1))
  unfold ZkE at ih ⊢
  rw[Zr,Zex]
  cases hb:(p.id==id)
  ·simp only[EQA,ZR,ZB,ZX,Xf,Xd,Xe,Xb,Xg,reduceCtorEq,↓reduceIte,gcT,gcA,gcIds,reach,rhoOf,heapOf,idxA,genB,newGen,renB,refsB,Zn0,Zj3,Zb,Zf,Zi,ZZ,h1,e1,e3,hb]
   exact ih
  ·simp only[EQA,ZR,Zk,Xf,Xd,Xe,Xb,Xg,reduceCtorEq,↓reduceIte,Zm,Zt1,Zn0,Zj3,Zb,Zf,Zi,ZZ,h1,e1,hb,hC]
theorem ZPj(l:List Zp)(hl:l.length<=9223372036854775807)(hd:∀ p∈l,p.data.length<=140737488355328)(id:Int):E 76 [.int .i64 id,ZD l] []=some (Zex id l,[]):=by
 have:=Zwd l hl hd id l 0 rfl
 have z0:((0:Nat):Int)=0:=rfl
 rw[z0]at this
 unfold ZkE at this
 rw[Zg (by rfl) ZRt]
 simp only[EQA,ZB,ZX,Xd,Xe,Xb,Xg,reduceCtorEq,↓reduceIte,gcT,gcA,gcIds,reach,rhoOf,heapOf,idxA,genB,newGen,renB,refsB,ZRn,Zqe,Zb,ZD]
 exact this
def Zcf(id:Int)(l:List Zp):Option Zp:=l.find? (fun p=>p.id==id)
def ZiD(b:Bool):Option Zp->AVal
 |none=>ZmC b
 |some p=>.tup [Zi p,.bool true]
theorem Zlo(id:Int):∀ l:List Zp,Zex id l=ZiD true (Zcf id l)
 | []=>rfl
 |p::r=>by
  have ih:=Zlo id r
  unfold Zcf at ih ⊢
  rw[Zex,List.find?_cons]
  cases h:(p.id==id)
  ·simpa using ih
  ·rfl
theorem ZIi(σ:Za)(sq own:Nat)(l:List Zp)(hl:l.length<=9223372036854775807)(hd:∀ p∈l,p.data.length<=140737488355328)(id:Int):Zl E BY σ sq 76 own true [.int .i64 id,.lst false (l.map Zi)]=some (ZiD false (Zcf id l),σ,{}):=by
 have h:=ZPj l hl hd id
 rw[Zlo]at h
 cases hf:Zcf id l with
 |none=>rw[hf]at h;exact Zal h (by kernel_rfl) rfl rfl rfl (fun _=>rfl) σ sq own
 |some p =>
  rw[hf]at h
  exact Zal h (by kernel_rfl) rfl rfl rfl (fun _=>rfl) σ sq own
theorem Zu3(l:List Zp)(hl:l.length<=9223372036854775807)(id:Int):∀ (r:List Zp) (i:Nat),l.drop i=r ->
  Zm2 0 [(6,.int .i64 i),(4,.ref 0 0),(1,.lst false (l.map Zi)),(0,.int .i64 id)] [.var [.int .i64 0,.int .i64 0,.str [],.str [],.lst true []]]=some (Zex id r,[])
 | [],i,h=>by
  have h1:=ZcG h
  unfold Zm2
  rw[Zr,Zex]
  simp only[EQA,Zk,Xf,Xd,Xe,Xb,reduceCtorEq,↓reduceIte,Zm,Zzz,ZPe,ZoC,ZpG,Zjy,Zb,h1,ZmC,Z3,AVal.cells]
 |p::r,i,h=>by
  have ih:=Zu3 l hl id r (i+1) (ZP h).2.1
  have h1:(i:Int)<l.length:=by have:=(ZP h).2.2;omega
  have e1:=iad (ZP h).1 Zi (k:=5) rfl
  have e3:=Zcp h1 hl
  unfold Zm2 at ih ⊢
  rw[Zr,Zex]
  cases hb:(p.id==id)
  ·simp only[EQA,ZR,ZB,ZX,Xd,Xe,Xb,reduceCtorEq,↓reduceIte,gcT,gcA,gcIds,reach,rhoOf,heapOf,idxA,genB,newGen,renB,refsB,ZpG,Zjy,Zb,Zf,Zi,ZZ,h1,e1,e3,hb]
   exact ih
  ·simp only[EQA,ZR,Zk,Xf,Xd,Xe,Xb,reduceCtorEq,↓reduceIte,Zm,Zzz,ZpG,Zjy,Zb,Zf,Zi,ZZ,h1,e1,hb]
theorem Zun(l:List Zp)(hl:l.length<=9223372036854775807)(id:Int):E 68 [.int .i64 id,ZD l] []=some (Zex id l,[]):=by
 have:=Zu3 l hl id l 0 rfl
 have z0:((0:Nat):Int)=0:=rfl
 rw[z0]at this
 unfold Zm2 at this
 rw[Zg (by rfl) ZON]
 simp only[EQA,ZB,ZX,Xd,Xe,Xb,Xg,reduceCtorEq,↓reduceIte,gcT,gcA,gcIds,reach,rhoOf,heapOf,idxA,genB,newGen,renB,refsB,ZSN,ZrQ,Zb,ZD]
 exact this
def Zep:Zp:=⟨0,0,[],[],[]⟩
theorem Zno(o:Option Zp):ZiD false o=.tup [.agg [.int .i64 (o.getD Zep).id,.int .i64 (o.getD Zep).num,.str (o.getD Zep).text,.str (o.getD Zep).pair,.lst false ((o.getD Zep).data.map Zc)],.bool o.isSome]:=by
 cases o<;>rfl
end
section
def ZcI(id w:Int):Bool:=id==38 ||(id==11&&w==3)
def Zda(id num:Int):Bool:=if id==11 ||id==33 ||id==35 ||id==39 then num != 0 else ZaG id != 1 ||decide (num<=1)
def ZfG(id num:Int):Int:=if Zda id num then 0 else if id==35 then 148 else 130
theorem ZKv(id w:Int):E 98 [.int .i64 id,.int .i64 w] []=some (.bool (ZcI id w),[]):=by
 rw[Zg (by rfl) ZBP]
 unfold ZcI
 cases h1:(id==38)<;>cases h2:(id==11)
 all_goals simp only[EQA,Xd,Xb,Zh,Zw,unG,reduceCtorEq,↓reduceIte,ZQN,Ztk,Zz1,Zb,h1,h2]
theorem ZNX(σ:Za)(sq own:Nat)(id w:Int):Zl E BY σ sq 98 own true [.int .i64 id,.int .i64 w]=some (.bool (ZcI id w),σ,{}) :=
 Zal (ZKv id w) (by kernel_rfl) rfl rfl rfl (fun _=>rfl) _ _ _
theorem ZFh(p:Zp):E 99 [Zi p] []=some (.bool (Zda p.id p.num),[]):=by
 have hC:=fun σ sq own=>Zkg σ sq own p.id
 rw[Zg (by rfl) ZSk]
 unfold Zda
 cases h1:(p.id==11)<;>cases h2:(p.id==33)<;>cases h3:(p.id==35)<;>cases h4:(p.id==39)
 all_goals simp only[EQA,ZR,Zcq,ZRl,Zfw,Xd,Xb,Xg,Zh,Zw,unG,ite_self,↓reduceIte,ZDE,ZsC,ZRc,Zb,Zf,Zi,ZZ,hC,h1,h2,h3,h4]
theorem ZAB (id n : Int) : E 69 [.int .i64 id, .int .i64 n] [] = some (.int .i64 (ZfG id n), []) := by
  have g1 : n > 1 -> (n == 0) = false := fun h => by simp; omega
  by_cases h : ZdB id
  . rcases h with rfl | rfl | rfl | rfl | rfl | rfl | rfl | rfl | rfl | rfl | rfl | rfl | rfl | rfl | rfl | rfl | rfl | rfl | rfl | rfl | rfl | rfl | rfl | rfl | rfl | rfl | rfl
    all_goals rw [Zg (by rfl) Zue]
    all_goals (by_cases h1 : n > 1 <;> cases h0 : (n == 0))
    all_goals first
      | (exact absurd (g1 h1) (by rw [h0]; decide))
      | (simp only [EQA,Xd,Xb,reduceCtorEq,↓reduceIte,Zqq,ZjU,Ztg,Zb,h1,h0,Xw]
         done)
      | (simp only [EQA,Xd,Xb,reduceCtorEq,↓reduceIte,Zqq,ZjU,Ztg,Zb,h1,h0,Xw]
         have h2 : (n <= 1) = ¬ (n > 1) := by simp
         have h3 : (n != 0) = !(n == 0) := rfl
         simp [ZfG, Zda, ZaG, ofF, ZqD, List.lookup, h1, h0, h2, h3])
  . obtain ⟨h1, h2, h3, h8, h9, h11, h17, h18, h26, h19, h21, h22, h23, h25, h24, h28, h31, h33, h34, h35, h39, h36, h37, h40, h41, h42, h38⟩ := Zkn h
    have e : ZfG id n = 0 := by simp [ZfG, Zda, ZaG, Zi0 h, h11, h33, h35, h39]
    rw [e, Zg (by rfl) Zue]
    simp only [EQA,Xd,Xb,reduceCtorEq,↓reduceIte,Zqq,ZjU,Ztg,Zb,h1,h11,h23,h25,h33,h35,h39,h36,h37,h40,h41,h42]
end
section
theorem Zye:∀ (b:Zd) (i n:Nat),(gvA i n b).2.2=0->i<(gvA i n b).2.1/\(gvA i n b).2.1<=i+b.length
 | [],i,n,h=>by
  unfold gvA at h
  split at h<;>simp at h
 |c::r,i,n,h=>by
  unfold gvA at h⊢
  split at h
  ·simp at h
  ·rename_i h4
   rw[if_neg h4]
   split at h
   ·rename_i hc
    rw[if_pos hc]
    split at h
    ·simp at h
    ·rename_i h0
     rw[if_neg h0]
     simp
   ·rename_i hc
    rw[if_neg hc]
    have:=Zye r (i+1) _ h
    simp only[Xm]
    omega
theorem Zhn(b:Zd)(h:(ZL b).2.2=0):0<(ZL b).2.1/\(ZL b).2.1<=b.length:=by
 have:=Zye b 0 0 h
 simpa[ZL]using this
theorem Zo4(id:Int)(b:Zd):(Zam id b).1.id=id:=by
 unfold Zam Zb2 Zcy Zd0
 repeat' split
 all_goals rfl
theorem Zzn(id:Int)(b:Zd):(Zam id b).1.data.length<=b.length:=by
 unfold Zam Zb2 Zcy Zd0
 repeat' split
 all_goals first
  |exact(ZhG b).2
  |exact Nat.zero_le _
theorem Zw3:∀ (b:Zd) (i n:Nat),(gvA i n b).2.1<=i+b.length
 | [],i,n=>by unfold gvA;split<;>simp
 |c::r,i,n=>by
  unfold gvA
  repeat' split
  all_goals simp only[Xm]
  all_goals first
   |omega
   |(have:=Zw3 r (i+1) (n+c.toNat%128*128^i);omega)
theorem ZkA(b:Zd):(ZL b).2.1<=b.length:=by simpa[ZL]using Zw3 b 0 0
theorem ZoD(id:Int)(b:Zd):(Zam id b).2.1<=b.length:=by
 have h1:=(Zhl b).1
 have h2:=(Zhl (b.drop (ZG b).2.1)).1
 have h3:=ZkA b
 have h4:=(ZhG b).1
 simp only[XV]at h2
 unfold Zam Zb2 Zcy Zd0
 repeat' split
 all_goals simp only
 all_goals omega
def Zfo(w:Int)(l:List Zp)(id:Int)(u:Nat)(v:Zp×Nat×Bool):Zp×Nat×Int :=
 if v.2.2=false then(v.1,0,129)else if((Zcf id l).isSome && !ZcI id w)=true then(v.1,0,130)else
 if Zda v.1.id v.1.num=true then(v.1,u+v.2.1,0)else if(id==35)=true then(v.1,0,148)else(v.1,0,130)
def ZaJ(w:Int)(b:Zd)(l:List Zp):Zp×Nat×Int :=
 if(ZL b).2.2≠0\/ZF ((ZL b).1:Nat) w=false then(Zep,0,129)
 else Zfo w l ((ZL b).1:Nat) (ZL b).2.1 (Zam ((ZL b).1:Nat) (b.drop (ZL b).2.1))
theorem Zw1(p:Zp):E 99 [.agg [.int .i64 p.id,.int .i64 p.num,.str p.text,.str p.pair,.lst false (p.data.map Zc)]] []=some (.bool (Zda p.id p.num),[]):=ZFh p
theorem ZLF(p:Zp){σ:Za}{t:Nat}(hs:σ[t]?=some (.row 0 1 (p.data.map Zc)))(sq:Nat):Zl E BY σ sq 99 0 true [.agg [.int .i64 p.id,.int .i64 p.num,.str p.text,.str p.pair,.sl t 0 0 p.data.length]]=some (.bool (Zda p.id p.num),σ,{ rd:=[t] }):=by
 refine ZlJ (vs:=[.agg [.int .i64 p.id,.int .i64 p.num,.str p.text,.str p.pair,.lst false (p.data.map Zc)]]) (by kernel_rfl) ?_ rfl rfl (Zw1 p) rfl rfl sq 0
 have hl:(p.data.map Zc).length=p.data.length:=by simp
 have ht:(p.data.map Zc).take p.data.length=p.data.map Zc:=Xy (by simp)
 simp[showAs,showA,Zcr,ZbX,Zq,hs,ht]
theorem ZP1(p:Zp)(hd:p.data=[])(σ:Za)(sq:Nat):Zl E BY σ sq 99 0 true [.agg [.int .i64 p.id,.int .i64 p.num,.str p.text,.str p.pair,.lst true []]]=some (.bool (Zda p.id p.num),σ,{}):=by
 have h:=Zw1 p
 rw[hd]at h
 exact Zal (args:=[.agg [.int .i64 p.id,.int .i64 p.num,.str p.text,.str p.pair,.lst true []]]) h (by kernel_rfl) rfl rfl rfl (fun _=>rfl) σ sq 0
theorem ZJQ{id:Int}{b:Zd}(h:E 97 [.int .i64 id,Zf b] []=some (ZdQ true (Zam id b)))(σ:Za)(sq:Nat)(f:Bool)(hs:freeAt σ sq=true):Zl E BY σ sq 97 1 false [.int .i64 id,.lst f (b.map Zc)]=some (.tup [.agg [.int .i64 (Zam id b).1.id,.int .i64 (Zam id b).1.num,.str (Zam id b).1.text,.str (Zam id b).1.pair,.sl sq 0 0 (Zam id b).1.data.length],.int .i64 ((Zam id b).2.1:Nat),.bool (Zam id b).2.2],σ.set sq (.row 0 1 ((Zam id b).1.data.map Zc)),{ any:=true }):=by
 rw[ZbK (args:=[.int .i64 id,.lst f (b.map Zc)]) (by kernel_rfl) rfl]
 rw[show E 97 ([AVal.int .i64 id,.lst f (b.map Zc)].map ZM) []=_ from h]
 unfold ZdQ prR prH
 simp[ZO,Z8,Zdc,ZbO,okB,genB,Zbv,hs,renV,renL,ZaR,Za4,Zb4,Zay,ZbF,renB]
theorem ZDv{id:Int}{b:Zd}(h:E 97 [.int .i64 id,Zf b] []=some (ZdQ false (Zam id b)))(σ:Za)(sq:Nat)(f:Bool):Zl E BY σ sq 97 1 false [.int .i64 id,.lst f (b.map Zc)]=some (.tup [.agg [.int .i64 (Zam id b).1.id,.int .i64 (Zam id b).1.num,.str (Zam id b).1.text,.str (Zam id b).1.pair,.lst true []],.int .i64 ((Zam id b).2.1:Nat),.bool (Zam id b).2.2],σ,{}):=by
 rw[ZbK (args:=[.int .i64 id,.lst f (b.map Zc)]) (by kernel_rfl) rfl]
 rw[show E 97 ([AVal.int .i64 id,.lst f (b.map Zc)].map ZM) []=_ from h]
 unfold ZdQ prR prH
 exact ZdP _ _ _ _ rfl
def ZcN(dk:Bool)(x:Zp×Nat×Int):AVal×Za:=(.tup [prR dk x.1,.int .i64 (x.2.1:Nat),.int .i64 x.2.2],prH dk x.1)
theorem Zyi(w:Int)(b:Zd)(l:List Zp)(hl:b.length<=140737488355328)(hl2:l.length<=9223372036854775807)(hd:∀ p∈l,p.data.length<=140737488355328):∃ dk,(dk=false->(ZaJ w b l).1.data=[])/\E 85 [.int .i64 w,Zf b,ZD l] []=some (ZcN dk (ZaJ w b l)):=by
 have hGV:=fun σ sq own f=>ZmS σ sq own f b (by omega)
 have hu:=Zhn b
 unfold ZaJ
 rcases hx:ZL b with⟨n,u,e⟩
 rw[hx]at hGV hu
 unfold gvT at hGV
 simp only at hGV hu ⊢
 have hM:=fun σ sq own=>ZEF σ sq own (n:Int) w
 by_cases he:e=0
 ·subst he
  have n0:((0:Int) != 0)=false:=rfl
  cases hm:ZF (n:Int) w
  ·rw[hm]at hM
   have hc:(0:Int)≠0\/false=false:=Xt rfl
   rw[if_pos hc]
   refine⟨false,(fun _=>rfl),?_⟩
   rw[Zg (by rfl) ZdC]
   unfold ZcN prR prH Zep
   simp only[EQA,Zk,Xf,Xd,Xe,Xb,Xg,unA,Zh,unG,reduceCtorEq,↓reduceIte,Zm,Zdv,Zc4,Zdy,Zb,Zf,ZD,hGV,hM,n0,AVal.cells]
   rfl
  ·rw[hm]at hM
   have hc:¬((0:Int)≠0\/true=false):=by simp
   rw[if_neg hc]
   have hul:=(hu rfl).2
   have hs:=fun σ kk=>Zfp σ b kk ((u:Nat):Int) (by omega) (by omega)
   have e2:(((u:Nat):Int)).toNat=u:=rfl
   rw[e2]at hs
   obtain⟨dk,hdk,hv⟩:=ZRh (n:Int) (b.drop u) (by simp;omega)
   have hF:=fun σ sq own=>ZIi σ sq own l hl2 hd (n:Int)
   have hO:=fun σ sq own=>ZNX σ sq own (n:Int) w
   have hid:=Zo4 (n:Int) (b.drop u)
   have hused:(Zam (n:Int) (b.drop u)).2.1<=b.length:=Nat.le_trans (ZoD _ _) (by simp)
   simp only[Zno]at hF
   refine⟨dk,fun h=>?_,?_⟩
   ·unfold Zfo
    repeat' split
    all_goals exact hdk h
   cases dk with
   |false =>
    have hV:=fun σ sq f=>ZDv hv σ sq f
    have hT:=fun σ sq=>ZP1 (Zam (n:Int) (b.drop u)).1 (hdk rfl) σ sq
    clear hv hdk
    unfold Zfo
    generalize Zam (n:Int) (b.drop u)=v at *
    obtain⟨p,m,ok⟩:=v
    simp only at hV hT hid hused ⊢
    have hw:IntKind.i64.wrap ((u:Int)+(m:Int))=((u+m:Nat):Int):=by
     rw[ZQ (by omega) (by omega)];rfl
    generalize (Zcf (n:Int) l).getD Zep=q at *
    cases ok
    ·rw[Zg (by rfl) ZdC]
     unfold ZcN prR prH
     simp only[EQA,Zk,Xf,Xd,Xe,Xb,Xg,unA,Zh,unG,reduceCtorEq,↓reduceIte,Zm,Zdv,Zc4,Zdy,Zb,Zf,ZD,hGV,hM,hs,hV,hF,n0,AVal.cells]
     rfl
    ·cases h1:(Zcf (n:Int) l).isSome<;>rw[h1]at hF
     ·cases h3:Zda p.id p.num<;>rw[h3]at hT
      ·cases h4:((n:Int)==35)
       all_goals rw[Zg (by rfl) ZdC]
       all_goals unfold ZcN prR prH
       all_goals simp only[EQA,Zk,Xf,Xd,Xe,Xb,Xg,unA,Zh,Zw,unG,reduceCtorEq,↓reduceIte,Zm,Zdv,Zc4,Zdy,Zb,Zf,ZD,hGV,hM,hs,hV,hF,hT,h4,n0,AVal.cells]
       all_goals rfl
      ·rw[Zg (by rfl) ZdC]
       unfold ZcN prR prH
       simp only[EQA,Zk,Xf,Xd,Xe,Xb,Xg,unA,Zh,Zw,unG,reduceCtorEq,↓reduceIte,Zm,Zdv,Zc4,Zdy,Zb,Zf,ZD,hGV,hM,hs,hV,hF,hT,hw,n0,AVal.cells]
     ·cases h2:ZcI (n:Int) w<;>rw[h2]at hO
      ·rw[Zg (by rfl) ZdC]
       unfold ZcN prR prH
       simp only[EQA,Zk,Xf,Xd,Xe,Xb,Xg,unA,Zh,unG,reduceCtorEq,↓reduceIte,Zm,Zdv,Zc4,Zdy,Zb,Zf,ZD,hGV,hM,hs,hV,hF,hO,n0,AVal.cells]
       rfl
      ·cases h3:Zda p.id p.num<;>rw[h3]at hT
       ·cases h4:((n:Int)==35)
        all_goals rw[Zg (by rfl) ZdC]
        all_goals unfold ZcN prR prH
        all_goals simp only[EQA,Zk,Xf,Xd,Xe,Xb,Xg,unA,Zh,unG,reduceCtorEq,↓reduceIte,Zm,Zdv,Zc4,Zdy,Zb,Zf,ZD,hGV,hM,hs,hV,hF,hT,hO,h4,n0,AVal.cells]
        all_goals rfl
       ·rw[Zg (by rfl) ZdC]
        unfold ZcN prR prH
        simp only[EQA,Zk,Xf,Xd,Xe,Xb,Xg,unA,Zh,unG,reduceCtorEq,↓reduceIte,Zm,Zdv,Zc4,Zdy,Zb,Zf,ZD,hGV,hM,hs,hV,hF,hT,hO,hw,n0,AVal.cells]
   |true =>
    have hV:=fun σ sq f hs=>ZJQ hv σ sq f hs
    have hT:=fun{σ:Za} {t:Nat} hs sq=>ZLF (Zam (n:Int) (b.drop u)).1 (σ:=σ) (t:=t) hs sq
    clear hv hdk
    unfold Zfo
    generalize Zam (n:Int) (b.drop u)=v at *
    obtain⟨p,m,ok⟩:=v
    simp only at hV hT hid hused ⊢
    have hw:IntKind.i64.wrap ((u:Int)+(m:Int))=((u+m:Nat):Int):=by
     rw[ZQ (by omega) (by omega)];rfl
    generalize (Zcf (n:Int) l).getD Zep=q at *
    generalize hX:p.data.map Zc=X at *
    cases ok
    ·rw[Zg (by rfl) ZdC]
     unfold ZcN prR prH
     simp only[EQA,Xf,Xd,Xe,Xb,Xg,unA,Zh,unG,reduceCtorEq,↓reduceIte,Zdv,Zc4,Zdy,Zb,Zf,ZD,hX,hGV,hM,hs,hV,hF,n0,AVal.cells]
     simp[EQO]
    ·cases h1:(Zcf (n:Int) l).isSome<;>rw[h1]at hF
     ·cases h3:Zda p.id p.num<;>rw[h3]at hT
      ·cases h4:((n:Int)==35)
       all_goals rw[Zg (by rfl) ZdC]
       all_goals unfold ZcN prR prH
       all_goals simp only[EQA,Xf,Xd,Xe,Xb,Xg,unA,Zh,Zw,unG,reduceCtorEq,↓reduceIte,Zdv,Zc4,Zdy,Zb,Zf,ZD,hX,hGV,hM,hs,hV,hF,hT,h4,n0,AVal.cells]
       all_goals simp[outA,gcA,gcIds,reach,refsL,refsV,rhoOf,heapOf,idxA,genB,newGen,renL,renV,renB,refsB]
      ·rw[Zg (by rfl) ZdC]
       unfold ZcN prR prH
       simp only[EQA,Xf,Xd,Xe,Xb,Xg,unA,Zh,Zw,unG,reduceCtorEq,↓reduceIte,Zdv,Zc4,Zdy,Zb,Zf,ZD,hX,hGV,hM,hs,hV,hF,hT,hw,n0,AVal.cells]
       simp[EQO]
     ·cases h2:ZcI (n:Int) w<;>rw[h2]at hO
      ·rw[Zg (by rfl) ZdC]
       unfold ZcN prR prH
       simp only[EQA,Xf,Xd,Xe,Xb,Xg,unA,Zh,unG,reduceCtorEq,↓reduceIte,Zdv,Zc4,Zdy,Zb,Zf,ZD,hX,hGV,hM,hs,hV,hF,hO,n0,AVal.cells]
       simp[EQO]
      ·cases h3:Zda p.id p.num<;>rw[h3]at hT
       ·cases h4:((n:Int)==35)
        all_goals rw[Zg (by rfl) ZdC]
        all_goals unfold ZcN prR prH
        all_goals simp only[EQA,Xf,Xd,Xe,Xb,Xg,unA,Zh,unG,reduceCtorEq,↓reduceIte,Zdv,Zc4,Zdy,Zb,Zf,ZD,hX,hGV,hM,hs,hV,hF,hT,hO,h4,n0,AVal.cells]
        all_goals simp[outA,gcA,gcIds,reach,refsL,refsV,rhoOf,heapOf,idxA,genB,newGen,renL,renV,renB,refsB]
       ·rw[Zg (by rfl) ZdC]
        unfold ZcN prR prH
        simp only[EQA,Xf,Xd,Xe,Xb,Xg,unA,Zh,unG,reduceCtorEq,↓reduceIte,Zdv,Zc4,Zdy,Zb,Zf,ZD,hX,hGV,hM,hs,hV,hF,hT,hO,hw,n0,AVal.cells]
        simp[EQO]
 ·have hc:e≠0\/ZF (n:Int) w=false:=Xp he
  have n1:(e != 0)=true:=by simpa using he
  rw[if_pos hc]
  refine⟨false,(fun _=>rfl),?_⟩
  rw[Zg (by rfl) ZdC]
  unfold ZcN prR prH Zep
  simp only[EQA,Zk,Xf,Xd,Xe,Xb,Xg,Zh,Zw,reduceCtorEq,↓reduceIte,Zm,Zdv,Zc4,Zdy,Zb,Zf,ZD,hGV,n1,AVal.cells]
  rfl
end
section
def Zcb(w:Int):Nat->Zd->List Zp->List Zp×Int
 |_,[],l=>(l,0)
 |0,_::_,_=>([],129)
 |n+1,c::r,l=>if(ZaJ w (c::r) l).2.2=0 then Zcb w n ((c::r).drop (ZaJ w (c::r) l).2.1) (l++[(ZaJ w (c::r) l).1])else([],(ZaJ w (c::r) l).2.2)
def Z1(w:Int)(b:Zd):List Zp×Nat×Int :=
 if(ZL b).2.2≠0\/((ZL b).1:Int)>(b.length:Int)-((ZL b).2.1:Nat)then([],0,129)
 else if(Zcb w (ZL b).1 ((b.take ((ZL b).2.1+(ZL b).1)).drop (ZL b).2.1) []).2=0 then
  ((Zcb w (ZL b).1 ((b.take ((ZL b).2.1+(ZL b).1)).drop (ZL b).2.1) []).1,(ZL b).2.1+(ZL b).1,0)
 else([],0,(Zcb w (ZL b).1 ((b.take ((ZL b).2.1+(ZL b).1)).drop (ZL b).2.1) []).2)
def ZcX(u:Nat)(x:List Zp×Int):AVal×Za:=if x.2=0 then(.tup [ZaX (x.1.map Zi),.int .i64 (u:Nat),.int .i64 0],ZaS 5 (x.1.map Zi))else(.tup [.lst true [],.int .i64 0,.int .i64 x.2],[])
theorem Znp{w:Int}{b:Zd}{l:List Zp}(h:(ZaJ w b l).2.2=0):0<(ZaJ w b l).2.1/\(ZaJ w b l).2.1<=b.length/\(ZaJ w b l).1.data.length<=b.length:=by
 unfold ZaJ at h⊢
 split at h
 ·simp at h
 ·rename_i hc
  rw[if_neg hc]
  have hc0:(ZL b).2.2=0:=XaE fun h=>hc (Xp h)
  have h1:=Zhn b hc0
  have h2:=ZoD ((ZL b).1:Nat) (b.drop (ZL b).2.1)
  have h3:=Zzn ((ZL b).1:Nat) (b.drop (ZL b).2.1)
  simp only[XV]at h2 h3
  unfold Zfo at h⊢
  generalize Zam ((ZL b).1:Nat) (b.drop (ZL b).2.1)=v at *
  repeat' (split at h)
  all_goals first
   |(simp at h;done)
   |skip
  rename_i a1 a2 a3
  rw[if_neg a1,if_neg a2,if_pos a3]
  simp only
  omega
theorem ZbY{xs:List AVal}(h:0<xs.length):ZaX xs=.sl 0 0 0 xs.length:=by
 cases xs with
 |nil=>simp at h
 |cons x xs=>rfl
theorem Zbk{k:Nat}{xs:List AVal}(h:0<xs.length):ZaS k xs=[.row 0 k xs]:=by
 cases xs with
 |nil=>simp at h
 |cons x xs=>rfl
theorem ZE4(l:List Zp):ZiI (l.map Zi)=true:=by
 unfold ZiI
 rw[XF]
 intro x hx
 obtain⟨p,_,rfl⟩:=XG.1 hx
 rfl
theorem ZnC(b:Zd):(b.map Zc).all ZmL=true:=by
 rw[XF]
 intro x hx
 obtain⟨p,_,rfl⟩:=XG.1 hx
 rfl
theorem ZhJ(w:Int)(n:Nat)(l:List Zp):Zcb w n [] l=(l,0):=by cases n<;>rfl
theorem ZiE(w:Int)(n:Nat)(c:UInt8)(r:Zd)(l:List Zp):Zcb w (n+1) (c::r) l=if(ZaJ w (c::r) l).2.2=0 then Zcb w n ((c::r).drop (ZaJ w (c::r) l).2.1) (l++[(ZaJ w (c::r) l).1])else([],(ZaJ w (c::r) l).2.2):=rfl
def Zk4(sq:Nat)(dk:Bool)(x:Zp×Nat×Int):AVal:=.tup [.agg [.int .i64 x.1.id,.int .i64 x.1.num,.str x.1.text,.str x.1.pair,if dk then .sl sq 0 0 x.1.data.length else .lst true []],.int .i64 (x.2.1:Nat),.int .i64 x.2.2]
theorem Znt{w:Int}{b:Zd}{l:List Zp}{dk:Bool}(h:E 85 [.int .i64 w,Zf b,ZD l] []=some (ZcN dk (ZaJ w b l))){σ:Za}{args:List AVal}{ts:List Nat}(hsh:showAs σ args=some ([.int .i64 w,Zf b,ZD l],ts))(sq:Nat)(hs:freeAt σ sq=true) :
  Zl E BY σ sq 85 1 false args=some (Zk4 sq dk (ZaJ w b l),if dk then σ.set sq (.row 0 1 ((ZaJ w b l).1.data.map Zc))else σ,if dk&&ts.isEmpty then{ any:=true }else{ rd:=ts,wr:=[] }):=by
 unfold Zl Zb1
 rw[show BY 85=false from by kernel_rfl]
 simp only[Xl,if_false,hsh]
 have hr:refsL [AVal.int .i64 w,Zf b,ZD l]=[]:=rfl
 have hn:∀ ρ,renL ρ [AVal.int .i64 w,Zf b,ZD l]=[AVal.int .i64 w,Zf b,ZD l]:=fun _=>rfl
 rw[hr]
 have h2:∀ σ,reach σ 1000 [] []=[]:=fun _=>rfl
 rw[h2]
 unfold Zbl
 simp only[Wc,if_true,hn,heapOf,Xu,h,ZO,Xl,if_false]
 have hfl:=Zo1 (ZaJ w b l).1.data
 generalize ZaJ w b l=x at *
 obtain⟨p,m,c⟩:=x
 simp only at hfl
 unfold ZcN Zk4 prR prH
 generalize p.data.map Zc=X at *
 cases dk with
 |true =>
  cases ts with
  |nil =>
   have hz:Zj σ []=σ:=rfl
   simp only[hz]
   simp[Z8,Zdc,ZbO,okB,genB,Zbv,hs,renV,renL,ZaR,Za4,Zb4,Zay,ZbF,renB]
  |cons t ts =>
   have hso:Zgx (.tup [.agg [.int .i64 p.id,.int .i64 p.num,.str p.text,.str p.pair,.sl 0 0 0 p.data.length],.int .i64 (m:Nat),.int .i64 c])=true:=rfl
   simp only[if_true,Z8,Wo,WE,Xbu,Xl,if_false,Zdc,cloneT,hso,hfl,Bool.not_false,Wp,decide_true,Zed,renV,renL,and_self]
 |false =>
  cases ts with
  |nil =>
   have hz:Zj σ []=σ:=rfl
   simp only[hz]
   simp[Z8,ZaQ,Zas,Z5,Zck,renV,renL]
  |cons t ts =>
   have hso:Zck σ (t::ts) (.tup [.agg [.int .i64 p.id,.int .i64 p.num,.str p.text,.str p.pair,.lst true []],.int .i64 (m:Nat),.int .i64 c])=true:=rfl
   simp only[Xl,if_false,Z8,Wo,Wp,if_true,hso]
   simp[ZaQ,Zas,Z5]
theorem Zxs:∀ (b:Zd) (i n:Nat),i<=4->n<128^i->(gvA i n b).1<268435456
 | [],i,n,hi,hn=>by unfold gvA;split<;>simp
 |c::r,i,n,hi,hn=>by
  have ha:c.toNat%128<128:=Xbf _ (by decide)
  unfold gvA
  split
  ·simp
  ·rename_i h4
   have hb:=ZqV n i _ hn ha
   have hp:128^(i+1)<=128^4:=WY (by decide) (by omega)
   split
   ·split
    ·simp
    ·simp only;omega
   ·exact Zxs r (i+1) _ (by omega) hb
theorem Ziu(b:Zd):(ZL b).1<268435456:=Zxs b 0 0 (by omega) (by simp)
def Zjj(x:List Zp×Nat×Int):AVal×Za:=(.tup [ZaX (x.1.map Zi),.int .i64 (x.2.1:Nat),.int .i64 x.2.2],ZaS 5 (x.1.map Zi))
theorem ZGO{σ:Za}{x:AVal}(h:Z5 x=true):Zv σ x=some (x,[])/\refsV x=[]/\∀ ρ,renV ρ x=x:=by
 cases x<;>simp[Z5]at h<;>simp[Zv,Zs,refsV,renV]
theorem ZhB{σ:Za}:∀ {vs:List AVal},vs.all Z5=true->viewAs σ vs=some (vs,[])/\refsL vs=[]/\∀ ρ,renL ρ vs=vs
 | [],_=>⟨rfl,rfl,fun _=>rfl⟩
 |x::xs,h=>by
  simp only[XW,Bool.and_eq_true]at h
  obtain⟨a1,a2,a3⟩:=ZGO (σ:=σ) h.1
  obtain⟨b1,b2,b3⟩:=ZhB (σ:=σ) h.2
  refine⟨by simp only[viewAs,a1,b1,XC],by simp only[refsL,a2,b2,XC],fun ρ=>by simp only[renL,a3,b3]⟩
theorem ZCM{O:ZJ}{bf:Nat->Bool}{f k:Nat}{args args':List AVal}{full vs:List AVal}(h:O f args' []=some (.tup (ZaX full::vs),ZaS k full))(hv:vs.all Z5=true)(hb:bf f=false)(hp:args.all Z2=true)(hn:args.map ZM=args')(σ:Za)(sq own:Nat):Zl O bf σ sq f own true args=some (.tup (.lst false full::vs),σ,{}):=by
 have hr:∀ sq,renV (ZaR [] [] sq) (.tup (.lst false full::vs))=.tup (.lst false full::vs):=fun sq=>by
  simp only[renV,renL,(ZhB (σ:=[]) hv).2.2]
 rw[ZbK hb hp,hn,h]
 have : ZO true 0 (some (.tup (ZaX full::vs),ZaS k full))=some (.tup (.lst false full::vs),[]):=by
  unfold ZO
  rw[if_pos rfl]
  cases full with
  |nil =>
   obtain⟨b1,b2,b3⟩:=ZhB (σ:=[]) hv
   simp[EQO,ZaZ,ZaF,ZaI,viewR,viewAs,Zv,Zs,b1,Zj,b2,b3]
  |cons x xs =>
   obtain⟨b1,b2,b3⟩:=ZhB (σ:=[Zx.row 0 k (x::xs)]) hv
   simp only[Zbi,Za0]
   generalize x::xs=X at *
   simp[EQO,ZaI,viewR,viewAs,Zv,Zs,Zq,b1,Zj,b2,b3]
 rw[this,ZdP _ _ _ _ (hr sq)]
end
section
def Zqc:Ze:=by apply Zb 41 [] [];conv=>lhs;reduce;dsimp only[zi]
def ZrS:Zz:=⟨[(.tmp 4)],Zqc⟩
theorem ZIT:FC 41=some ZrS:=by kernel_rfl
theorem ZI4:ZrS.body=Zqc:=rfl
theorem ZJo:ZrS.res=[(.tmp 4)]:=rfl
def Zrs:Ze:=by apply Zb 100 [] [];conv=>lhs;reduce;dsimp only[zi]
def Zou:Zz:=⟨[(.tmp 4)],Zrs⟩
theorem ZE1:FC 100=some Zou:=by kernel_rfl
theorem ZND:Zou.body=Zrs:=rfl
theorem ZFM:Zou.res=[(.tmp 4)]:=rfl
def ZoR:Ze:=(.seq (.region [oI 6 (.mov (.c (.bool true)))] none [6]) .ret)
@[irreducible] def Zrk:Ze:=ZoR
def ZAQ:=xw Zrk ZoR (by kernel_rfl)
def ZmJ:Ze:=by apply Zb 86 [1,1,0,1,0,0] [];conv=>lhs;reduce;dsimp only[zi]
@[irreducible] def Zpr:Ze:=ZmJ
def ZxU:=xw Zpr ZmJ (by kernel_rfl)
def ZkT:Ze:=by apply Zb 86 [] [([1,1,0,1,0,0],Zpr),([1,1,1],Zrk)];conv=>lhs;reduce;dsimp only[zi]
def ZkB:Zz:=⟨[(.tmp 6)],ZkT⟩
theorem ZKN:FC 86=some ZkB:=by kernel_rfl
theorem ZuV:ZkB.body=ZkT:=rfl
theorem Zs2:ZkB.res=[(.tmp 6)]:=rfl
noncomputable def ZlD(m:Nat)(tm:Tms)(σ:Za):Option (AVal×Za):=(Zac m ZkB (Zaz FC PR BY m Zrk (XY (Zah 0) (evL FC PR BY m [17,16,15,2,1] Zpr tm σ))))
def Zq9:Ze:=(.seq (.region [oI 4 (.mov (.c (.int .i64 (-1))))] none [4]) .ret)
@[irreducible] def Ztc:Ze:=Zq9
def ZSO:=xw Ztc Zq9 (by kernel_rfl)
def Zi6:Ze:=by apply Zb 102 [1,0,1,0,0] [];conv=>lhs;reduce;dsimp only[zi]
@[irreducible] def Zrf:Ze:=Zi6
def Zpt:=xw Zrf Zi6 (by kernel_rfl)
def ZnF:Ze:=by apply Zb 102 [] [([1,0,1,0,0],Zrf),([1,1],Ztc)];conv=>lhs;reduce;dsimp only[zi]
def Zk5:Zz:=⟨[(.tmp 4)],ZnF⟩
theorem ZMP:FC 102=some Zk5:=by kernel_rfl
theorem ZNO:Zk5.body=ZnF:=rfl
theorem ZvV:Zk5.res=[(.tmp 4)]:=rfl
noncomputable def Zi2(m:Nat)(tm:Tms)(σ:Za):Option (AVal×Za):=(Zac m Zk5 (Zaz FC PR BY m Ztc (XY (Zah 0) (evL FC PR BY m [8,7,1,0] Zrf tm σ))))
end
section
theorem ZI9(a b:Zp):E 87 [Zi a,Zi b] []=some (.bool (a.id==b.id&&a.num==b.num&&a.text==b.text&&a.pair==b.pair&&a.data==b.data),[]):=by
 rw[Zg (by rfl) ZFl]
 simp only[EQA,ZR,Zcq,Zfw,Zgc,Xf,Xd,Xb,Xg,Zbw,Zh,Zw,unG,reduceCtorEq,Zq,ite_self,↓reduceIte,ZFK,Zre,ZA5,Zb,Zf,Zi,ZZ]
theorem ZMH(a b:Zp):E 74 [Zi a,Zi b] []=some (.bool (a.id==b.id&&a.num==b.num&&a.text==b.text&&a.pair==b.pair&&a.data==b.data),[]):=by
 rw[Zg (by rfl) ZQc]
 simp only[EQA,ZR,Zcq,Zfw,Zgc,Xf,Xd,Xb,Xg,Zbw,Zh,Zw,unG,reduceCtorEq,Zq,ite_self,↓reduceIte,ZJU,Zpw,ZSt,Zb,Zf,Zi,ZZ]
theorem ZyU(a b:Zp):(a.id==b.id&&a.num==b.num&&a.text==b.text&&a.pair==b.pair&&a.data==b.data)=(a==b):=by
 obtain⟨i,n,t,p,d⟩:=a
 obtain⟨i',n',t',p',d'⟩:=b
 rw[Bool.eq_iff_iff]
 simp[and_assoc]
theorem Zyf(a:Zp):Z2 (Zi a)=true:=by
 simp only[eq_self,Wp,XW,Wc,ZzV,Zvm,Zxr,Zw5,Zi,ZZ,Zf]
theorem Zxv(a:Zp):ZM (Zi a)=Zi a:=by
 simp only[eq_self,Xn,Xo,ZxA,Zv9,ZxY,Zyo,Zi,ZZ,Zf]
theorem ZHq(σ:Za)(sq own:Nat)(view:Bool)(i n:Int)(t p d:Zd)(i' n':Int)(t' p' d':Zd):Zl E BY σ sq 87 own view [.agg [.int .i64 i,.int .i64 n,.str t,.str p,.lst false (d.map Zc)],.agg [.int .i64 i',.int .i64 n',.str t',.str p',.lst false (d'.map Zc)]]=some (.bool (i==i'&&n==n'&&t==t'&&p==p'&&d==d'),σ,{}) :=
 ZcC (ZI9 ⟨i,n,t,p,d⟩ ⟨i',n',t',p',d'⟩) (by kernel_rfl) (by simp only[XW,Zyf];rfl) (by simp only[Xn,Zxv];rfl) rfl (fun _=>rfl) _ _ _ _
theorem ZRP(σ:Za)(sq own:Nat)(view:Bool)(i n:Int)(t p d:Zd)(i' n':Int)(t' p' d':Zd):Zl E BY σ sq 74 own view [.agg [.int .i64 i,.int .i64 n,.str t,.str p,.lst false (d.map Zc)],.agg [.int .i64 i',.int .i64 n',.str t',.str p',.lst false (d'.map Zc)]]=some (.bool (i==i'&&n==n'&&t==t'&&p==p'&&d==d'),σ,{}) :=
 ZcC (ZMH ⟨i,n,t,p,d⟩ ⟨i',n',t',p',d'⟩) (by kernel_rfl) (by simp only[XW,Zyf];rfl) (by simp only[Xn,Zxv];rfl) rfl (fun _=>rfl) _ _ _ _
theorem ZyH(a b:List Zp)(h:a.length=b.length)(hl:a.length<=9223372036854775807):∀ (r s:List Zp) (i:Nat),a.drop i=r->b.drop i=s->ZlD 0 [(17,.int .i64 i),(16,.int .i64 a.length),(15,ZD a),(2,.fn 87 []),(1,ZD b)] []=some (.bool (r==s),[])
 | [],s,i,ha,hb=>by
  have hs:s=[]:=by
   subst hb;rw[Wl]at ha ⊢;omega
  subst hs
  have h1:=ZcG ha
  unfold ZlD
  rw[Zr]
  simp only[EQA,Xd,Xb,↓reduceIte,Zs2,ZAQ,ZoR,ZxU,ZmJ,Zb,ZD,h1]
 |x::r,[],i,ha,hb=>by
  have:=(ZP ha).2.2;rw[Wl]at hb;omega
 |x::r,y::s,i,ha,hb=>by
  have ih:=ZyH a b h hl r s (i+1) (ZP ha).2.1 (ZP hb).2.1
  have h1:(i:Int)<a.length:=by have:=(ZP ha).2.2;omega
  have e1:=iad (ZP ha).1 Zi (k:=5) rfl
  have e2:=iad (ZP hb).1 Zi (k:=5) rfl
  have e3:=Zcp h1 hl
  unfold ZlD at ih ⊢
  rw[Zr]
  simp only[EQA,ZR,ZB,Xf,Xd,Xe,Xb,Xg,unA,↓reduceIte,gcT,gcA,gcIds,reach,heapOf,refsB,Zs2,ZxU,ZmJ,Zb,Zf,ZD,Zi,ZZ,h1,e1,e2,e3,ZHq]
  simp only[ZD]at ih
  rw[ih,ZyU]
  by_cases hx:x=y<;>simp[hx]
theorem ZHK(a b:List Zp)(hl:a.length<=9223372036854775807):E 86 [ZD a,ZD b,.fn 87 []] []=some (.bool (a==b),[]):=by
 rw[Zg (by rfl) ZKN]
 by_cases h:a.length=b.length
 ·have:=ZyH a b h hl a b 0 rfl rfl
  unfold ZlD at this
  simp only[ZD]at this
  have e:=Zyg h
  simp only[EQA,ZB,Xf,Xd,Xb,reduceCtorEq,↓reduceIte,gcT,gcA,gcIds,reach,heapOf,refsB,ZuV,ZkT,Zb,ZD,e]
  exact this
 ·have e:=Zyt h
  simp only[EQA,Xf,Xd,Xb,reduceCtorEq,↓reduceIte,ZuV,ZkT,Zs2,Zb,ZD,e,Zxj h]
theorem ZHL(σ:Za)(sq own:Nat)(view:Bool)(a b:List Zp)(hl:a.length<=9223372036854775807):Zl E BY σ sq 86 own view [.lst false (a.map Zi),.lst false (b.map Zi),.fn 87 []]=some (.bool (a==b),σ,{}) :=
 ZcC (ZHK a b hl) (by kernel_rfl) (by simp only[Zba,Zuu,Zbz,eq_self,ZD]) (by simp only[ZR,Zbz,eq_self,ZD]) rfl (fun _=>rfl) _ _ _ _
theorem ZLi(a b:List Zp)(hl:a.length<=9223372036854775807):E 61 [ZD a,ZD b] []=some (.bool (a==b),[]):=by
 rw[Zg (by rfl) Zz8]
 simp only[EQA,Xd,Xb,reduceCtorEq,↓reduceIte,ZFz,Zsd,ZHB,Zb,ZD,ZHL,hl]
theorem Zug(σ:Za)(sq own:Nat)(view:Bool)(a b:List Zp)(hl:a.length<=9223372036854775807):Zl E BY σ sq 61 own view [.lst false (a.map Zi),.lst false (b.map Zi)]=some (.bool (a==b),σ,{}) :=
 ZcC (ZLi a b hl) (by kernel_rfl) (by simp only[Zba,Zbz,eq_self,ZD]) (by simp only[ZR,Zbz,eq_self,ZD]) rfl (fun _=>rfl) _ _ _ _
theorem Zyz(a b:List Zp)(h:a.length=b.length)(hl:a.length<=9223372036854775807):∀ (r s:List Zp) (i:Nat),a.drop i=r->b.drop i=s->Zlz 0 [(5,.int .i64 i),(1,ZD b),(0,ZD a)] []=some (.bool (r==s),[])
 | [],s,i,ha,hb=>by
  have hs:s=[]:=by
   subst hb;rw[Wl]at ha ⊢;omega
  subst hs
  have h1:=ZcG ha
  unfold Zlz
  rw[Zr]
  simp only[EQA,Xd,Xb,reduceCtorEq,↓reduceIte,ZsW,ZFQ,Zpd,ZvD,ZlU,Zb,ZD,h1]
 |x::r,[],i,ha,hb=>by
  have:=(ZP ha).2.2;rw[Wl]at hb;omega
 |x::r,y::s,i,ha,hb=>by
  have ih:=Zyz a b h hl r s (i+1) (ZP ha).2.1 (ZP hb).2.1
  have h1:(i:Int)<a.length:=by have:=(ZP ha).2.2;omega
  have e1:=iad (ZP ha).1 Zi (k:=5) rfl
  have e2:=iad (ZP hb).1 Zi (k:=5) rfl
  have e3:=Zcp h1 hl
  unfold Zlz at ih ⊢
  rw[Zr]
  simp only[EQA,ZR,ZB,Xf,Xd,Xe,Xb,Xg,unA,reduceCtorEq,↓reduceIte,gcT,gcA,gcIds,reach,heapOf,refsB,ZsW,ZvD,ZlU,Zb,Zf,ZD,Zi,ZZ,h1,e1,e2,e3,ZRP]
  simp only[ZD]at ih
  rw[ih,ZyU]
  by_cases hx:x=y<;>simp[hx]
theorem ZMc(a b:List Zp)(hl:a.length<=9223372036854775807):E 50 [ZD a,ZD b] []=some (.bool (a==b),[]):=by
 rw[Zg (by rfl) ZRM]
 by_cases h:a.length=b.length
 ·have:=Zyz a b h hl a b 0 rfl rfl
  unfold Zlz at this
  simp only[ZD]at this
  have e:=Zyg h
  simp only[EQA,ZB,Xd,Xb,reduceCtorEq,↓reduceIte,gcT,gcA,gcIds,reach,heapOf,refsB,ZyY,ZkQ,Zb,ZD,e]
  exact this
 ·have e:=Zyt h
  simp only[EQA,Xd,Xb,reduceCtorEq,↓reduceIte,ZyY,ZkQ,ZsW,Zb,ZD,e,Zxj h]
theorem ZvO(σ:Za)(sq own:Nat)(view:Bool)(a b:List Zp)(hl:a.length<=9223372036854775807):Zl E BY σ sq 50 own view [.lst false (a.map Zi),.lst false (b.map Zi)]=some (.bool (a==b),σ,{}) :=
 ZcC (ZMc a b hl) (by kernel_rfl) (by simp only[Zba,Zbz,eq_self,ZD]) (by simp only[ZR,Zbz,eq_self,ZD]) rfl (fun _=>rfl) _ _ _ _
end
section
theorem Zd7(b:Zd):List.take b.length (b.map Zc)=b.map Zc:=Xy (by simp)
def ZH(x:Int):Nat:=(x%18446744073709551616).toNat
theorem Zha(x:Int):IntKind.u64.wrap x=((ZH x:Nat):Int):=by rw[IntKind.wrap_u64,ZH];omega
def Zcu(k:Int)(p:Zp):Zd×Zd :=
 if k=1 then(beB (ZH p.num) 1,[])else if k=2 then(beB (ZH p.num) 2,[])else if k=3 then(beB (ZH p.num) 4,[])
 else if k=4 then((Zan p.num).1,[])else if k=5 then((Zy p.text).1,[])else if k=6 then((Z0 p.data).1,[])
 else if k=7 then((Zy p.text).1,(Zy p.pair).1)else([],[])
def ZaP(p:Zp):Zd:=(Zan p.id).1++((Zcu (ZaG p.id) p).1++(Zcu (ZaG p.id) p).2)
theorem Zur:∀ k n:Nat,(Zbt k n).length<=k+1
 |0,n=>by simp[Zbt]
 |k+1,n=>by
  unfold Zbt
  split
  ·simp
  ·have:=Zur k (n/128)
   simp only[Xm];omega
theorem Zf2(n:Int):(Zan n).1.length<=4:=by
 unfold Zan
 split
 ·simp
 ·exact Zur 3 _
theorem ZeG(b:Zd):(Z0 b).1.length<=65537:=by
 unfold Z0
 split
 ·simp
 ·simp only[Xk,ZbJ];omega
theorem Zcz(b:Zd):(Zy b).1.length<=65537:=by
 unfold Zy
 split
 ·exact ZeG b
 ·simp
theorem ZQS(k:Int)(p:Zp):(Zcu k p).1.length<=65537/\(Zcu k p).2.length<=65537:=by
 have h1:=Zf2 p.num
 have h2:=Zcz p.text
 have h3:=Zcz p.pair
 have h4:=ZeG p.data
 unfold Zcu
 repeat' split
 all_goals simp only[ZbJ,Xu]
 all_goals omega
theorem ZiY(p:Zp):(ZaP p).length<=200000:=by
 have h1:=Zf2 p.id
 have h2:=ZQS (ZaG p.id) p
 unfold ZaP
 simp only[Xk];omega
theorem ZiU(σ:Za)(sq own:Nat)(f:Bool)(a v w:Zd)(h:a.length+(v.length+w.length)<=140737488355328):Zl E BY σ sq 34 own true [.lst f [.lst false (a.map Zc),.lst false (v.map Zc),.lst false (w.map Zc)]]=some (.lst false ((a++(v++w)).map Zc),σ,{}):=by
 have:=Zk9 σ sq own f a [v,w] (by simp) (by simpa using h)
 simpa only[Xn,Xo,Zf,WD,W9,XC]using this
theorem Zqy(p:Zp)(k:Int)(W:Nat)(hk:ZaG p.id=k)(hW:(k=1/\W=1)\/(k=2/\W=2)\/(k=3/\W=4)):E 58 [Zi p] []=some (.lst false (((Zan p.id).1++(beB (ZH p.num) W++[])).map Zc),[]):=by
 have hK:=fun σ sq own=>Zkg σ sq own p.id
 have hV:=fun σ sq own=>Zkf σ sq own p.id
 unfold Zen at hV
 have l0:=Zf2 p.id
 have hP:=fun σ sq own=>ZmU σ sq own (ZH p.num) W (by omega) (by omega)
 have hJ:=fun σ sq own f=>ZiU σ sq own f (Zan p.id).1 (beB (ZH p.num) W) [] (by simp only[ZbJ,Xu];omega)
 simp only[Xo]at hJ
 have hu:=Zha p.num
 rw[hk]at hK
 generalize beB (ZH p.num) W=B at *
 have z1:((1:Nat):Int)=1:=rfl
 have z2:((2:Nat):Int)=2:=rfl
 have z4:((4:Nat):Int)=4:=rfl
 rcases hW with⟨rfl,rfl⟩ |⟨rfl,rfl⟩ |⟨rfl,rfl⟩
 ·have w1:IntKind.i64.wrap (1-1)=0:=rfl
  have w2:IntKind.i64.wrap (1*2^min (Xal 0) IntKind.i64.bits)=1:=rfl
  have ng:¬((0:Int)<0):=by decide
  rw[z1]at hP
  rw[Zg (by rfl) Zgz]
  simp only[EQA,Zk,Xd,Xb,Xg,ZbT,↓reduceIte,ZfV,Ze2,Zf5,Zb,Zf,Zi,ZZ,hK,hV,hP,hJ,hu,w1,w2,ng,viewAs,Zv,Zs,Zj,AVal.cells]
 ·have w1:IntKind.i64.wrap (2-1)=1:=rfl
  have w2:IntKind.i64.wrap (1*2^min (Xal 1) IntKind.i64.bits)=2:=rfl
  have ng:¬((1:Int)<0):=by decide
  rw[z2]at hP
  rw[Zg (by rfl) Zgz]
  simp only[EQA,Zk,Xd,Xb,Xg,ZbT,↓reduceIte,ZfV,Ze2,Zf5,Zb,Zf,Zi,ZZ,hK,hV,hP,hJ,hu,w1,w2,ng,Xw,viewAs,Zv,Zs,Zj,AVal.cells]
 ·have w1:IntKind.i64.wrap (3-1)=2:=rfl
  have w2:IntKind.i64.wrap (1*2^min (Xal 2) IntKind.i64.bits)=4:=rfl
  have ng:¬((2:Int)<0):=by decide
  rw[z4]at hP
  rw[Zg (by rfl) Zgz]
  simp only[EQA,Zk,Xd,Xb,Xg,ZbT,↓reduceIte,ZfV,Ze2,Zf5,Zb,Zf,Zi,ZZ,hK,hV,hP,hJ,hu,w1,w2,ng,Xw,viewAs,Zv,Zs,Zj,AVal.cells]
theorem ZM4(p:Zp)(ht:p.text.length<=9223372036854775807)(hp:p.pair.length<=9223372036854775807)(hd:p.data.length<=9223372036854775807):E 58 [Zi p] []=some (.lst false ((ZaP p).map Zc),[]):=by
 have hK:=fun σ sq own=>Zkg σ sq own p.id
 have hV:=fun σ sq own=>Zkf σ sq own p.id
 unfold Zen at hV
 have l0:=Zf2 p.id
 unfold ZaP
 rcases Zj5 p.id with hk |hk |hk |hk |hk |hk |hk |hk
 ·rw[hk]at hK ⊢
  rw[show Zcu 0 p=([],[])from rfl,Zg (by rfl) Zgz]
  have hJ:=fun σ sq own f=>ZiU σ sq own f (Zan p.id).1 [] [] (by simp only[Xu];omega)
  simp only[Xo]at hJ
  simp only[EQA,Zk,Xd,Xb,Xg,↓reduceIte,ZfV,Ze2,Zf5,Zb,Zf,Zi,ZZ,hK,hV,hJ,Xw,viewAs,Zv,Zs,Zj,AVal.cells]
 ·have h:=Zqy p 1 1 hk (by simp)
  rw[hk];exact h
 ·have h:=Zqy p 2 2 hk (by simp)
  rw[hk];exact h
 ·have h:=Zqy p 3 4 hk (by simp)
  rw[hk];exact h
 ·rw[hk]at hK ⊢
  rw[show Zcu 4 p=((Zan p.num).1,[])from rfl,Zg (by rfl) Zgz]
  have l1:=Zf2 p.num
  have hJ:=fun σ sq own f=>ZiU σ sq own f (Zan p.id).1 (Zan p.num).1 [] (by simp only[Xu];omega)
  simp only[Xo]at hJ
  have hV2:=fun σ sq own=>Zkf σ sq own p.num
  unfold Zen at hV2
  simp only[EQA,Zk,Xd,Xb,Xg,↓reduceIte,ZfV,Ze2,Zf5,Zb,Zf,Zi,ZZ,hK,hV,hV2,hJ,Xw,viewAs,Zv,Zs,Zj,AVal.cells]
 ·rw[hk]at hK ⊢
  rw[show Zcu 5 p=((Zy p.text).1,[])from rfl,Zg (by rfl) Zgz]
  have l1:=Zcz p.text
  have hJ:=fun σ sq own f=>ZiU σ sq own f (Zan p.id).1 (Zy p.text).1 [] (by simp only[Xu];omega)
  simp only[Xo]at hJ
  have hV2:=fun σ sq own=>ZiT σ sq own p.text ht
  unfold byT at hV2
  simp only[EQA,Zk,Xd,Xb,Xg,↓reduceIte,ZfV,Ze2,Zf5,Zb,Zf,Zi,ZZ,hK,hV,hV2,hJ,Xw,viewAs,Zv,Zs,Zj,AVal.cells]
 ·rw[hk]at hK ⊢
  rw[show Zcu 6 p=((Z0 p.data).1,[])from rfl,Zg (by rfl) Zgz]
  have l1:=ZeG p.data
  have hJ:=fun σ sq own f=>ZiU σ sq own f (Zan p.id).1 (Z0 p.data).1 [] (by simp only[Xu];omega)
  simp only[Xo]at hJ
  have hV2:=fun σ sq own f=>ZkV σ sq own f p.data hd
  unfold byT at hV2
  simp only[EQA,Zk,Xd,Xb,Xg,↓reduceIte,ZfV,Ze2,Zf5,Zb,Zf,Zi,ZZ,hK,hV,hV2,hJ,Xw,viewAs,Zv,Zs,Zj,AVal.cells]
 ·rw[hk]at hK ⊢
  rw[show Zcu 7 p=((Zy p.text).1,(Zy p.pair).1)from rfl,Zg (by rfl) Zgz]
  have l1:=Zcz p.text
  have l2:=Zcz p.pair
  have hJ:=fun σ sq own f=>ZiU σ sq own f (Zan p.id).1 (Zy p.text).1 (Zy p.pair).1 (by omega)
  have hV2:=fun σ sq own=>ZiT σ sq own p.text ht
  have hV3:=fun σ sq own=>ZiT σ sq own p.pair hp
  unfold byT at hV2 hV3
  simp only[EQA,Zk,Xd,Xb,Xg,↓reduceIte,ZfV,Ze2,Zf5,Zb,Zf,Zi,ZZ,hK,hV,hV2,hV3,hJ,Xw,viewAs,Zv,Zs,Zj,AVal.cells]
def Zd1(p:Zp):Prop:=p.text.length<=9223372036854775807/\p.pair.length<=9223372036854775807/\p.data.length<=9223372036854775807
theorem ZxF(σ:Za)(sq own:Nat)(p:Zp)(h:Zd1 p):Zl E BY σ sq 58 own true [.agg [.int .i64 p.id,.int .i64 p.num,.str p.text,.str p.pair,.lst false (p.data.map Zc)]]=some (.lst false ((ZaP p).map Zc),σ,{}) :=
 Zal (ZM4 p h.1 h.2.1 h.2.2) (by kernel_rfl) rfl rfl rfl (fun _=>rfl) _ _ _
def Zez(w:Int)(l:List Zp)(b:Zd):Zd×Int :=
 if(Zan b.length).2≠0 then([],129)
 else if(Z1 w ((Zan b.length).1++b)).2.2≠0\/(Z1 w ((Zan b.length).1++b)).2.1≠((Zan b.length).1++b).length\/((Z1 w ((Zan b.length).1++b)).1==l)=false then([],129)
 else((Zan b.length).1++b,0)
def Zav(w:Int)(l:List Zp):Zd×Int:=Zez w l (l.map ZaP).flatten
theorem ZwS(σ:Za)(sq own:Nat)(f:Bool)(a v:Zd)(h:a.length+v.length<=140737488355328):Zl E BY σ sq 34 own true [.lst f [.lst false (a.map Zc),.lst false (v.map Zc)]]=some (.lst false ((a++v).map Zc),σ,{}):=by
 have:=Zk9 σ sq own f a [v] (by simp) (by simpa using h)
 simpa only[Xn,Xo,Zf,WD,W9,XC]using this
end
section
theorem Zpl(w:Int):∀ (n:Nat) (b:Zd) (l:List Zp),(Zcb w n b l).1.length<=l.length+b.length
 |n,[],l=>by rw[ZhJ];simp
 |0,c::r,l=>by simp[Zcb]
 |n+1,c::r,l=>by
  rw[ZiE]
  split
  ·rename_i h
   have hu:=Znp h
   have ih:=Zpl w n ((c::r).drop (ZaJ w (c::r) l).2.1) (l++[(ZaJ w (c::r) l).1])
   rw[XV,Xk,List.length_singleton]at ih
   omega
  ·simp
theorem ZEv(w:Int)(b:Zd):(Z1 w b).1.length<=b.length:=by
 unfold Z1
 split
 ·simp
 ·split
  ·have:=Zpl w (ZL b).1 ((b.take ((ZL b).2.1+(ZL b).1)).drop (ZL b).2.1) []
   simp only[XV,X0,Xu]at this
   simp only
   omega
  ·simp
def okV(k:Int)(p:Zp):Bool :=
 if k=1 then decide (p.num>=0)&&decide (p.num<256)else if k=2 then decide (p.num>=0)&&decide (p.num<65536)else if k=3 then decide (p.num>=0)&&decide (p.num<4294967296)
 else if k=4 then(Zan p.num).2==0 else if k=5 then(Zy p.text).2==0 else if k=6 then(Z0 p.data).2==0
 else if k=7 then(Zy p.text).2==0&&(Zy p.pair).2==0 else false
def ZbR(p:Zp):Bool:=!(decide (p.id<1) ||decide (p.id>127))&&okV (ZaG p.id) p
theorem ZxE(b:Zd)(h:b.length<=1):Zbf b<256:=by
 unfold Zbf
 match b,h with
 | [],_=>simp[Zds]
 | [a],_=>rw[ZcH,Zds];have:=a.toNat_lt;omega
theorem ZgP(b:Zd):(Zt b).1.length<=65535:=by
 unfold Zt
 split
 ·simp
 ·have:=Zjv (b.take 2) (by simp;omega)
  simp only[X0,XV]
  omega
theorem Zzv{b:Zd}(h:b.length<=65535):(Z0 b).2=0:=by
 unfold Z0
 rw[if_neg (by omega)]
theorem Zna{b:Zd}(h:(ZG b).2.2=0):(Zy (ZG b).1).2=0:=by
 unfold ZG at h⊢
 split at h
 ·rename_i h1;exact absurd h h1
 ·rename_i h1
  rw[if_neg h1]
  split at h
  ·rename_i h2
   rw[if_pos h2]
   unfold Zy
   rw[if_pos h2]
   exact Zzv (ZgP b)
  ·simp at h
theorem ZCy{n:Nat}(h:n<268435456):(Zan (n:Int)).2=0:=by
 unfold Zan
 rw[if_neg (by omega)]
theorem ZCg{id:Int}(h:ZdB id):1<=id/\id<=127/\ZaG id≠0:=by
 rcases h with rfl |rfl |rfl |rfl |rfl |rfl |rfl |rfl |rfl |rfl |rfl |rfl |rfl |rfl |rfl |rfl |rfl |rfl |rfl |rfl |rfl |rfl |rfl |rfl |rfl |rfl |rfl
 all_goals decide
theorem ZCR(id:Int)(b:Zd)(hk:ZaG id≠0)(h:(Zam id b).2.2=true):okV (ZaG id) (Zam id b).1=true:=by
 have hU1:=ZxE (b.take 1) (by simp;omega)
 have hU2:=Zjv (b.take 2) (by simp;omega)
 have hU4:=ZoE (b.take 4) (by simp;omega)
 have hgv:=Ziu b
 have hgd:=ZgP b
 unfold Zam at h⊢
 rcases Zj5 id with e |e |e |e |e |e |e |e
 ·exact absurd e hk
 all_goals rw[e]at h⊢
 ·simp only[Zb2,okV,if_true,Zcy]at h⊢
  split at h
  ·simp at h
  ·rename_i hc;rw[if_neg hc];simp;omega
 ·have c1:¬((2:Int)=1):=by decide
  simp only[Zb2,okV,if_neg c1,if_true,Zcy]at h⊢
  split at h
  ·simp at h
  ·rename_i hc;rw[if_neg hc];simp;omega
 ·have c1:¬((3:Int)=1):=by decide
  have c2:¬((3:Int)=2):=by decide
  simp only[Zb2,okV,if_neg c1,if_neg c2,if_true,Zcy]at h⊢
  split at h
  ·simp at h
  ·rename_i hc;rw[if_neg hc];simp;omega
 ·have:=ZCy hgv
  simp[Zb2,okV,this]
 ·simp only[Zb2,okV]at h⊢
  simp at h
  simp[Zna h]
 ·simp[Zb2,okV,Zzv hgd]
 ·simp only[Zb2,okV]at h⊢
  simp only[show¬((7:Int)=1)by decide,show¬((7:Int)=2)by decide,show¬((7:Int)=3)by decide,show¬((7:Int)=4)by decide,show¬((7:Int)=5)by decide,show¬((7:Int)=6)by decide,if_false,if_true,Zd0]at h⊢
  split at h
  ·rename_i hc
   rw[if_pos hc]
   simp at h
   simp[Zna hc,Zna h]
  ·simp at h
theorem ZOt{w:Int}{b:Zd}{l:List Zp}(h:(ZaJ w b l).2.2=0):ZbR (ZaJ w b l).1=true/\ZF (ZaJ w b l).1.id w=true:=by
 unfold ZaJ at h⊢
 split at h
 ·simp at h
 ·rename_i hc
  rw[if_neg hc]
  have hm:ZF ((ZL b).1:Nat) w=true:=by
   cases hm:ZF ((ZL b).1:Nat) w
   ·exact absurd (Xt hm) hc
   ·rfl
  have hT:ZdB ((ZL b).1:Nat):=by
   refine XaE fun hT=>?_
   rw[ZuF hT w]at hm
   cases hm
  obtain⟨t1,t2,t3⟩:=ZCg hT
  have hv:=ZCR ((ZL b).1:Nat) (b.drop (ZL b).2.1) t3
  have hid:=Zo4 ((ZL b).1:Nat) (b.drop (ZL b).2.1)
  unfold Zfo at h⊢
  generalize Zam ((ZL b).1:Nat) (b.drop (ZL b).2.1)=v at *
  repeat' (split at h)
  all_goals first
   |(simp at h;done)
   |skip
  rename_i a1 a2 a3
  rw[if_neg a1,if_neg a2,if_pos a3]
  have a4:v.2.2=true:=by cases h4:v.2.2<;>simp_all
  refine⟨?_,by rw[hid];exact hm⟩
  unfold ZbR
  rw[hid,hv a4]
  have c1:¬(((ZL b).1:Int)<1):=by omega
  have c2:¬(((ZL b).1:Int)>127):=by omega
  simp[c1,c2]
theorem Zxt(w:Int):∀ (n:Nat) (b:Zd) (l:List Zp),l.all ZbR=true->(Zcb w n b l).1.all ZbR=true
 |n,[],l,hl=>by rw[ZhJ];exact hl
 |0,c::r,l,hl=>by simp[Zcb]
 |n+1,c::r,l,hl=>by
  rw[ZiE]
  split
  ·rename_i h
   refine Zxt w n _ _ ?_
   rw[List.all_append,hl]
   simp[(ZOt h).1]
  ·simp
theorem ZMW(w:Int)(b:Zd):(Z1 w b).1.all ZbR=true:=by
 unfold Z1
 split
 ·simp
 ·split
  ·exact Zxt w _ _ [] rfl
  ·simp
theorem ZIF(w:Int)(l:List Zp)(h:l.all ZbR=false):Zav w l=([],129):=by
 unfold Zav Zez
 split
 ·rfl
 ·rw[if_pos]
  right;right
  refine beq_eq_false_iff_ne.2 fun e=>?_
  have:=ZMW w ((Zan (l.map ZaP).flatten.length).1++(l.map ZaP).flatten)
  rw[e,h]at this
  cases this
def ZeU(p:Zp):Zd:=(Zcu (ZaG p.id) p).1++(Zcu (ZaG p.id) p).2
theorem Zy9{p:Zp}(h:¬(p.id<1\/p.id>127)):ZaP p=XK p.id.toNat::ZeU p:=by
 unfold ZaP ZeU
 have e:(Zan p.id).1=[XK p.id.toNat]:=by
  unfold Zan
  rw[if_neg (by omega)]
  simp only[Zbt]
  rw[if_pos (by omega)]
 rw[e];rfl
end
section
theorem Zyq{O:ZJ}{bf:Nat->Bool}{σ:Za}{sq f own:Nat}{view:Bool}{args vs vs':List AVal}{ids:List Nat}{h0 h:Za}{r0 r:AVal}(hb:bf f=false)(hsh:showAs σ args=some (vs,[]))(hre:reach σ 1000 (refsL vs) []=ids)(hne:ids.isEmpty=false)
  (hall:(ids.all fun t=>okB (σ.getD t .free))=true) (hvs:renL (rhoOf σ 0 ids) vs=vs') (hh:heapOf σ 0 ids (rhoOf σ 0 ids) ids 0=h0) {hh0:Za} (hO:O f vs' h0=some (r0,hh0)) (hv:ZO view ids.length (some (r0,hh0))=some (r,h))
  (hl1:h.length<=ids.length+own) (hl2:ids.length<=h.length) (hk:ZbO σ ids h 0=true) (hff:Zbv σ sq own=true) {r':AVal} (hr:renV (ZaR σ ids sq) r=r') {σ':Za} (hlay:Za4 σ ids sq h 0 σ=σ') {u:List (Nat×List AVal)} (hu:Zb4 σ' ids=u) :
  Zl O bf σ sq f own view args=some (r',σ',{ any:=true,upd:=u }):=by
 subst hr hlay hu
 unfold Zl Zb1
 rw[hb]
 simp only[Xl,if_false,hsh,show Zj σ []=σ from rfl,hre]
 unfold Zbl
 rw[if_pos hall,hvs,hh,hO,hv]
 simp only[Z8,hne,X8,Xl,if_false,hl1,hl2,decide_true,hk,hff,Wp,if_true]
theorem Zk3{O:ZJ}{bf:Nat->Bool}{σ:Za}{t sq f own k:Nat}{view:Bool}{args args' xs xs':List AVal}{r:AVal}{b':Zx}(hs:σ[t]?=some (.row 0 k xs))(hb:bf f=true)(hff:Zbv σ sq own=true)
  (href:refsL args=[t]) (hren:∀ ρ:Rho,ρ t 0=some (0,0)->renL ρ args=args') (hr:∀ ρ:Rho,renV ρ r=r) (hb':b'=.row 0 k xs'\/b'=.frow 0 k xs')
  (h:ZO view 1 (O f args' [.row 0 k xs])=some (r,[b'])):Zl O bf σ sq f own view args=some (r,σ.set t b',{ any:=true }):=by
 have hd:σ.getD t .free=.row 0 k xs:=by simp[List.getD_eq_getElem?_getD,hs]
 have hf0:Zj σ []=σ:=rfl
 unfold Zl Zb1
 rw[hb]
 simp only[if_true,hf0,href]
 have hreach:reach σ 1000 [t] []=[t]:=by
  simp only[reach,WZ,Xl,if_false,hd,refsB,XU]
 rw[hreach]
 unfold Zbl
 have hall:([t].all fun t=>okB (σ.getD t .free))=true:=by simp[XW,Wc,hs,okB]
 rw[if_pos hall]
 have hρ:rhoOf σ 0 [t] t 0=some (0,0):=by simp[rhoOf,idxA,hs,genB,newGen]
 have hheap:heapOf σ 0 [t] (rhoOf σ 0 [t]) [t] 0=[.row 0 k xs]:=by
  simp only[heapOf,hd,newGen,genB,renB,Nat.not_lt_zero,false_and,if_false,Xe]
 rw[hren _ hρ,hheap]
 simp only[Xm,Xu,Xv]
 rw[h]
 have hk:ZbO σ [t] [b'] 0=true:=by
  rcases hb' with rfl |rfl<;>simp[ZbO,okB,hs,Zd5,genB]
 have hren':∀ ρ,renB ρ (ZbF σ [t] 0 b') b'=b':=by
  intro ρ
  rcases hb' with rfl |rfl<;>simp[ZbF,hs,genB,renB]
 simp only[Z8,WE,X8,Xl,if_false,Xm,Xu,Xv,Nat.le_add_right,XD,decide_true,hk,hff,Wp,if_true,Za4,Zb4,Zay,X1,hr,hren']
 have htl:t<σ.length:=(List.getElem?_eq_some_iff.1 hs).1
 have hg:(σ.set t b')[t]?=some b':=by simp[htl]
 simp only[hg]
 rcases hb' with rfl |rfl<;>rfl
end
section
structure Lent(X:List AVal)(lo:Nat)(b:Zd):Prop where
 all:(X.drop lo).take b.length=b.map Zc
 len:lo+b.length<=X.length
theorem Lent.drop{X:List AVal}{lo:Nat}{b:Zd}(h:Lent X lo b){m:Nat}(hm:m<=b.length):Lent X (lo+m) (b.drop m):=by
 refine⟨?_,by have:=h.len;rw[XV];omega⟩
 have:=congrArg (List.drop m) h.all
 rw[Xac,XaS]at this
 rw[XV,this,Xbi]
theorem Lent.take{X:List AVal}{lo:Nat}{b:Zd}(h:Lent X lo b){m:Nat}(hm:m<=b.length):Lent X lo (b.take m):=by
 have hl:(b.take m).length=m:=by simp;omega
 refine⟨?_,by have:=h.len;omega⟩
 have:=congrArg (List.take m) h.all
 rw[List.take_take,Nat.min_eq_left hm]at this
 rw[hl,this,XaQ]
section
variable {σ:Za}{t lo:Nat}{X:List AVal}{b:Zd}(hL:Lent X lo b)(hs:σ[t]?=some (.row 0 1 X))
include hL hs
theorem ZjE:Zq σ (.sl t 0 lo b.length)=some (b.map Zc,[t]):=by
 simp only[Zq,hs]
 rw[if_pos ⟨trivial,hL.len⟩,hL.all]
theorem Zow{m:Nat}(hm:m<=b.length):Zbj σ 1 (.sl t 0 lo b.length) (some (.int .i64 (m:Int))) none none=some (.sl t 0 (lo+m) (b.drop m).length,σ,{ rd:=[t] }):=by
 have hb:Zb0 (.int .i64 (m:Int)) b.length=some m:=by
  simp only[Zb0]
  rw[if_pos ⟨by omega,by omega⟩]
  simp
 simp only[Zbj,ZjE hL hs,hs,ZaN,hb,if_true,XV]
theorem Zy5{m:Nat}(hm:m<=b.length):Zbj σ 1 (.sl t 0 lo b.length) none (some (.int .i64 (m:Int))) none=some (.sl t 0 lo (b.take m).length,σ,{ rd:=[t] }):=by
 have h1:=hL.len
 have hb:Zb0 (.int .i64 (m:Int)) (X.length-lo)=some m:=by
  simp only[Zb0]
  rw[if_pos ⟨by omega,by omega⟩]
  simp
 have hl:(b.take m).length=m:=by simp;omega
 simp only[Zbj,ZjE hL hs,hs,ZaN,hb,Wg,Nat.sub_zero,if_true,hl]
theorem ZK8{i j:Nat}(hij:i<=j)(hj:j<=b.length):Zbj σ 1 (.sl t 0 lo b.length) (some (.int .i64 (i:Int))) (some (.int .i64 (j:Int))) none=some (.sl t 0 (lo+i) ((b.take j).drop i).length,σ,{ rd:=[t] }):=by
 have h1:=hL.len
 have hb:Zb0 (.int .i64 (j:Int)) (X.length-lo)=some j:=by
  simp only[Zb0]
  rw[if_pos ⟨by omega,by omega⟩]
  simp
 have hb2:Zb0 (.int .i64 (i:Int)) j=some i:=by
  simp only[Zb0]
  rw[if_pos ⟨by omega,by omega⟩]
  simp
 have hl:((b.take j).drop i).length=j-i:=by simp;omega
 simp only[Zbj,ZjE hL hs,hs,ZaN,hb,hb2,if_true,hl]
theorem ZhV:showA σ (.sl t 0 lo b.length)=some (Zf b,[t]):=by
 have:=ZjE hL hs
 simp only[Zq,hs]at this
 simp only[showA,ZbX,Zq,hs,this]
 rfl
end
def Ze4(xs:List AVal):AVal:=match xs with
 | []=>.lst true []
 |_::_=>.sl 1 0 0 xs.length
theorem Zkb{xs:List AVal}(h:0<xs.length):Ze4 xs=.sl 1 0 0 xs.length:=by
 cases xs with
 |nil=>simp at h
 |cons x xs=>rfl
def Zi3(X:List AVal)(u:Nat)(x:List Zp×Int):AVal×Za:=if x.2=0 then(.tup [Ze4 (x.1.map Zi),.int .i64 (u:Nat),.int .i64 0],.row 0 1 X::ZaS 5 (x.1.map Zi))else(.tup [.lst true [],.int .i64 0,.int .i64 x.2],[.row 0 1 X])
theorem ZPW(w:Int)(N U:Nat)(hU:U+N<=140737488355328)(l:List Zp) :
  Zes 0 [(10,.lst false []),(8,.int .i64 (U:Nat)),(7,.int .i64 (N:Nat)),(4,ZaX (l.map Zi)),(0,.int .i64 w)] (ZaS 5 (l.map Zi))=some (ZcX (U+N) (l,0)):=by
 have hw:IntKind.i64.wrap ((U:Int)+(N:Int))=((U+N:Nat):Int):=by rw[ZQ (by omega) (by omega)];rfl
 have h1:¬(((0:Nat):Int)>0):=by simp
 unfold ZcX Zes
 rw[Zr]
 cases l with
 |nil =>
  simp only[Xo,ZaF,show ZaX []=AVal.lst true []from rfl]
  simp only[EQA,Zk,Xd,Xb,reduceCtorEq,↓reduceIte,Zm,ZcU,ZmF,Zii,Zch,ZbW,Zb,hw,h1]
  try (simp[EQO])
 |cons p l =>
  generalize hX:(p::l).map Zi=Y
  have hpos:0<Y.length:=by rw[<-hX];simp
  simp only[ZbY hpos,Zbk hpos]
  simp only[EQA,Xd,Xb,reduceCtorEq,↓reduceIte,ZcU,ZmF,Zii,Zch,ZbW,Zb,hw,h1]
  simp[EQO]
theorem ZyN(w:Int)(N U:Nat)(hU:U+N<=140737488355328)(hN9:N<=1000000000):∀ (n:Nat) (b:Zd) (l:List Zp),b.length<=n->l.length+b.length<=N->(∀ p∈l,p.data.length<=140737488355328) ->
  Zes 0 [(10,.lst false (b.map Zc)),(8,.int .i64 (U:Nat)),(7,.int .i64 (N:Nat)),(4,ZaX (l.map Zi)),(0,.int .i64 w)] (ZaS 5 (l.map Zi))=some (ZcX (U+N) (Zcb w n b l))
 |n,[],l,hb,hN,hd=>by
  rw[ZhJ]
  exact ZPW w N U hU l
 |0,c::r,l,hb,hN,hd=>by simp at hb
 |n+1,c::r,l,hb,hN,hd=>by
  rw[ZiE]
  generalize hB:c::r=b at *
  have hlen:0<b.length:=by rw[<-hB];simp
  have hpos:((b.length:Nat):Int)>0:=by omega
  obtain⟨dk,hdk,h1⟩:=Zyi w b l (by omega) (by omega) hd
  have hC:=fun{σ:Za} {sq:Nat} (f:Bool) (hl:l=[]) hf=>Znt h1 (σ:=σ) (args:=[.int .i64 w,.lst f (b.map Zc),.lst true []]) (ts:=[]) (by rw[hl];rfl) sq hf
  have hS:=fun{σ:Za} {sq:Nat} (f:Bool) (hs2:σ[0]?=some (.row 0 5 (l.map Zi))) hf=>Znt h1 (σ:=σ) (args:=[.int .i64 w,.lst f (b.map Zc),.sl 0 0 0 (l.map Zi).length]) (ts:=[0]) (by
   have e:showA σ (.sl 0 0 0 (l.map Zi).length)=some (ZD l,[0]):=by
    simp only[showA,ZbX,Zq,hs2]
    rw[if_pos ⟨trivial,by omega⟩,W2,Xy (XD _)]
    rfl
   simp only[showAs,e]
   rfl) sq hf
  have hu:=Znp (w:=w) (b:=b) (l:=l)
  clear h1
  unfold Zk4 at hC hS
  rcases hx:ZaJ w b l with⟨p,m,e⟩
  rw[hx]at hC hS hu hdk
  simp only at hC hS hu hdk ⊢
  by_cases he:e=0
  ·subst he
   obtain⟨u1,u2,u3⟩:=hu rfl
   have n0:((0:Int) != 0)=false:=rfl
   rw[if_pos rfl]
   have ih:=ZyN w N U hU hN9 n (b.drop m) (l++[p]) (by simp;omega) (by simp;omega) (by
    intro q hq
    rcases Xs.1 hq with h |h
    ·exact hd q h
    ·simp at h;subst h;omega)
   have hs:=fun σ kk=>Zfp σ b kk ((m:Nat):Int) (by omega) (by omega)
   have e2:(((m:Nat):Int)).toNat=m:=rfl
   rw[e2]at hs
   generalize Zcb w n (b.drop m) (l++[p])=R at *
   have hdl:(p.data.map Zc).length=p.data.length:=by simp
   have htk:(p.data.map Zc).take p.data.length=p.data.map Zc:=Xy (by simp)
   have hk1:kOk 1 (p.data.map Zc)=true:=Zbe p.data
   unfold Zes at ih ⊢
   rw[Zr]
   cases l with
   |nil =>
    have hC:=fun{σ:Za} {sq:Nat} f hf=>hC (σ:=σ) (sq:=sq) f rfl hf
    simp only[Xo,ZaF,show ZaX []=AVal.lst true []from rfl,XU,Xn,show ∀ x,ZaX [x]=AVal.sl 0 0 0 1 from fun _=>rfl,Za0,Zi,ZZ,Zf]at ih ⊢
    cases dk with
    |true =>
     simp only[if_true,WN,Wo]at hC
     generalize hD:p.data.map Zc=D at *
     simp only[EQA,ZB,ZX,Xf,Xd,Xe,Xb,Xg,reduceCtorEq,Zq,↓reduceIte,gcT,gcA,gcIds,reach,rhoOf,heapOf,idxA,genB,newGen,renB,refsB,Zch,ZbW,Zb,hpos,hC,n0,hs,Zq,htk,hdl,XD,ZI,kOk,viewAs,Zv,Zs,Zao,Zj,Wv,AVal.cells]
     exact ih
    |false =>
     rw[hdk rfl]at ih
     simp only[Xo]at ih
     simp only[X8,Xl,if_false]at hC
     simp only[EQA,ZB,ZX,Xf,Xd,Xe,Xb,Xg,reduceCtorEq,Zq,↓reduceIte,gcT,gcA,gcIds,reach,rhoOf,heapOf,idxA,genB,newGen,renB,refsB,Zch,ZbW,Zb,hpos,hC,n0,hs,ZI,kOk,viewAs,Zv,Zs,Zao,Zj,Wv,AVal.cells]
     exact ih
   |cons a l =>
    have hXl:((a::l).map Zi).length=l.length+1:=by simp
    rw[XH]at ih
    generalize hX:(a::l).map Zi=Y at *
    have hXp:0<Y.length:=by omega
    have hXq:0<(Y++[p].map Zi).length:=by rw[Xk];omega
    simp only[ZbY hXp,Zbk hXp,ZbY hXq,Zbk hXq]at ih ⊢
    have hk:kOk 5 Y=true:=by rw[<-hX];rfl
    have hb9:(Y.length+1)*72<=140737488355328:=by simp at hN;omega
    try simp only[Xn,Xo,Zi,ZZ,Zf,Xk,Xm,Xu,Xv]at ih
    cases dk with
    |true =>
     simp only[if_true,WN,WE,Xl,if_false]at hS
     generalize hD:p.data.map Zc=D at *
     simp only[EQA,ZB,ZX,Xf,Xd,Xe,Xb,Xg,reduceCtorEq,Zq,↓reduceIte,gcT,gcA,gcIds,reach,rhoOf,heapOf,idxA,genB,newGen,renB,refsB,Zch,ZbW,Zb,hpos,hS,n0,hs,hb9,Zq,htk,hdl,XD,ZI,kOk,viewAs,Zv,Zs,Zao,Zj,AVal.cells]
     exact ih
    |false =>
     rw[hdk rfl]at ih
     simp only[Xo]at ih
     simp only[X8,Xl,if_false]at hS
     simp only[EQA,ZB,ZX,Xf,Xd,Xe,Xb,Xg,reduceCtorEq,Zq,↓reduceIte,gcT,gcA,gcIds,reach,rhoOf,heapOf,idxA,genB,newGen,renB,refsB,Zch,ZbW,Zb,hpos,hS,n0,hs,hb9,ZI,kOk,viewAs,Zv,Zs,Zao,Zj,AVal.cells]
     exact ih
  ·have n1:(e != 0)=true:=by simpa using he
   rw[if_neg he]
   unfold ZcX Zes
   simp only
   rw[if_neg he,Zr]
   cases l with
   |nil =>
    have hC:=fun{σ:Za} {sq:Nat} f hf=>hC (σ:=σ) (sq:=sq) f rfl hf
    simp only[Xo,ZaF,show ZaX []=AVal.lst true []from rfl]
    cases dk with
    |true =>
     simp only[if_true,WN,Wo]at hC
     simp only[EQA,Zk,Xf,Xd,Xe,Xb,Xg,reduceCtorEq,↓reduceIte,Zm,ZcU,Zch,ZbW,Zb,hpos,hC,n1,AVal.cells]
     try (simp[EQO])
    |false =>
     simp only[X8,Xl,if_false]at hC
     simp only[EQA,Zk,Xf,Xd,Xe,Xb,Xg,reduceCtorEq,↓reduceIte,Zm,ZcU,Zch,ZbW,Zb,hpos,hC,n1,AVal.cells]
     try (simp[EQO])
   |cons a l =>
    generalize hX:(a::l).map Zi=Y at *
    have hXp:0<Y.length:=by rw[<-hX];simp
    simp only[ZbY hXp,Zbk hXp]
    cases dk with
    |true =>
     simp only[if_true,WN,WE,Xl,if_false]at hS
     simp only[EQA,Zk,Xf,Xd,Xe,Xb,Xg,reduceCtorEq,↓reduceIte,Zm,ZcU,Zch,ZbW,Zb,hpos,hS,n1,AVal.cells]
     try (simp[EQO])
    |false =>
     simp only[X8,Xl,if_false]at hS
     simp only[EQA,Zk,Xf,Xd,Xe,Xb,Xg,reduceCtorEq,↓reduceIte,Zm,ZcU,Zch,ZbW,Zb,hpos,hS,n1,AVal.cells]
     try (simp[EQO])
theorem ZSP(X:List AVal)(lo:Nat)(w:Int)(N U:Nat)(hU:U+N<=140737488355328)(l:List Zp) :
  Zes 1 [(10,.sl 0 0 lo 0),(8,.int .i64 (U:Nat)),(7,.int .i64 (N:Nat)),(4,Ze4 (l.map Zi)),(0,.int .i64 w)] (.row 0 1 X::ZaS 5 (l.map Zi))=some (Zi3 X (U+N) (l,0)):=by
 have hw:IntKind.i64.wrap ((U:Int)+(N:Int))=((U+N:Nat):Int):=by rw[ZQ (by omega) (by omega)];rfl
 have h1:¬(((0:Nat):Int)>0):=by simp
 unfold Zi3 Zes
 rw[Zr]
 cases l with
 |nil =>
  simp only[Xo,ZaF,show Ze4 []=AVal.lst true []from rfl]
  simp only[EQA,Xd,Xb,reduceCtorEq,↓reduceIte,ZcU,ZmF,Zii,Zch,ZbW,Zb,hw,h1]
  try (simp[EQO])
 |cons p l =>
  generalize hX:(p::l).map Zi=Y
  have hpos:0<Y.length:=by rw[<-hX];simp
  simp only[Zkb hpos,Zbk hpos]
  simp only[EQA,Xf,Xd,Xb,reduceCtorEq,↓reduceIte,ZcU,ZmF,Zii,Zch,ZbW,Zb,hw,h1]
  simp[EQO]
theorem Zwb(X:List AVal)(w:Int)(N U:Nat)(hU:U+N<=140737488355328)(hN9:N<=1000000000):∀ (n:Nat) (lo:Nat) (b:Zd) (l:List Zp),Lent X lo b->b.length<=n->l.length+b.length<=N->(∀ p∈l,p.data.length<=140737488355328) ->
  Zes 1 [(10,.sl 0 0 lo b.length),(8,.int .i64 (U:Nat)),(7,.int .i64 (N:Nat)),(4,Ze4 (l.map Zi)),(0,.int .i64 w)] (.row 0 1 X::ZaS 5 (l.map Zi))=some (Zi3 X (U+N) (Zcb w n b l))
 |n,lo,[],l,hL,hb,hN,hd=>by
  rw[ZhJ]
  exact ZSP X lo w N U hU l
 |0,lo,c::r,l,hL,hb,hN,hd=>by simp at hb
 |n+1,lo,c::r,l,hL,hb,hN,hd=>by
  rw[ZiE]
  generalize hB:c::r=b at *
  have hlen:0<b.length:=by rw[<-hB];simp
  have hpos:((b.length:Nat):Int)>0:=by omega
  obtain⟨dk,hdk,h1⟩:=Zyi w b l (by omega) (by omega) hd
  have hC:=fun{σ:Za} {sq:Nat} (hs:σ[0]?=some (.row 0 1 X)) (hl:l=[]) hf=>Znt h1 (σ:=σ) (args:=[.int .i64 w,.sl 0 0 lo b.length,.lst true []]) (ts:=[0]) (by
   simp only[showAs,ZhV hL hs,hl,ZD]
   rfl) sq hf
  have hS:=fun{σ:Za} {sq:Nat} (hs:σ[0]?=some (.row 0 1 X)) (hs2:σ[1]?=some (.row 0 5 (l.map Zi))) hf=>Znt h1 (σ:=σ) (args:=[.int .i64 w,.sl 0 0 lo b.length,.sl 1 0 0 (l.map Zi).length]) (ts:=[0,1]) (by
   have e:showA σ (.sl 1 0 0 (l.map Zi).length)=some (ZD l,[1]):=by
    simp only[showA,ZbX,Zq,hs2]
    rw[if_pos ⟨trivial,by omega⟩,W2,Xy (XD _)]
    rfl
   simp only[showAs,ZhV hL hs,e]
   rfl) sq hf
  have hs1:=fun{σ:Za} (hs:σ[0]?=some (.row 0 1 X)) {m:Nat} (hm:m<=b.length)=>Zow hL hs hm
  have hu:=Znp (w:=w) (b:=b) (l:=l)
  clear h1
  unfold Zk4 at hC hS
  rcases hx:ZaJ w b l with⟨p,m,e⟩
  rw[hx]at hC hS hu hdk
  simp only at hC hS hu hdk ⊢
  by_cases he:e=0
  ·subst he
   obtain⟨u1,u2,u3⟩:=hu rfl
   have n0:((0:Int) != 0)=false:=rfl
   rw[if_pos rfl]
   have ih:=Zwb X w N U hU hN9 n (lo+m) (b.drop m) (l++[p]) (hL.drop u2) (by simp;omega) (by simp;omega) (by
    intro q hq
    rcases Xs.1 hq with h |h
    ·exact hd q h
    ·simp at h;subst h;omega)
   have hs:=fun{σ:Za} h=>hs1 (σ:=σ) h u2
   generalize Zcb w n (b.drop m) (l++[p])=R at *
   have hdl:(p.data.map Zc).length=p.data.length:=by simp
   have htk:(p.data.map Zc).take p.data.length=p.data.map Zc:=Xy (by simp)
   have hk1:kOk 1 (p.data.map Zc)=true:=Zbe p.data
   unfold Zes at ih ⊢
   rw[Zr]
   cases l with
   |nil =>
    have hC:=fun{σ:Za} {sq:Nat} hs hf=>hC (σ:=σ) (sq:=sq) hs rfl hf
    simp only[Xo,ZaF,show Ze4 []=AVal.lst true []from rfl,XU,Xn,show ∀ x,Ze4 [x]=AVal.sl 1 0 0 1 from fun _=>rfl,Za0,Zi,ZZ,Zf]at ih ⊢
    cases dk with
    |true =>
     simp only[if_true,WN,WE,Xl,if_false]at hC
     generalize hD:p.data.map Zc=D at *
     simp only[EQA,ZB,Xf,Xd,Xe,Xb,Xg,reduceCtorEq,Zq,↓reduceIte,gcT,gcA,gcIds,reach,rhoOf,heapOf,idxA,genB,newGen,renB,refsB,Ww,Zch,ZbW,Zb,hpos,hC,n0,hs,Zq,htk,hdl,XD,ZI,kOk,viewAs,Zv,Zs,Zao,Zj,Wv,AVal.cells]
     exact ih
    |false =>
     rw[hdk rfl]at ih
     simp only[Xo]at ih
     simp only[X8,Xl,if_false]at hC
     simp only[EQA,ZB,Xf,Xd,Xe,Xb,Xg,reduceCtorEq,Zq,↓reduceIte,gcT,gcA,gcIds,reach,rhoOf,heapOf,idxA,genB,newGen,renB,refsB,Ww,Zch,ZbW,Zb,hpos,hC,n0,hs,ZI,kOk,viewAs,Zv,Zs,Zao,Zj,Wv,AVal.cells]
     exact ih
   |cons a l =>
    have hXl:((a::l).map Zi).length=l.length+1:=by simp
    rw[XH]at ih
    generalize hX:(a::l).map Zi=Y at *
    have hXp:0<Y.length:=by omega
    have hXq:0<(Y++[p].map Zi).length:=by rw[Xk];omega
    simp only[Zkb hXp,Zbk hXp,Zkb hXq,Zbk hXq]at ih ⊢
    have hk:kOk 5 Y=true:=by rw[<-hX];rfl
    have hb9:(Y.length+1)*72<=140737488355328:=by simp at hN;omega
    try simp only[Xn,Xo,Zi,ZZ,Zf,Xk,Xm,Xu,Xv]at ih
    cases dk with
    |true =>
     simp only[if_true,WN,WE,Xl,if_false]at hS
     generalize hD:p.data.map Zc=D at *
     simp only[EQA,ZB,Xf,Xd,Xe,Xb,Xg,reduceCtorEq,Zq,↓reduceIte,gcT,gcA,gcIds,reach,rhoOf,heapOf,idxA,genB,newGen,renB,refsB,Ww,Zch,ZbW,Zb,hpos,hS,n0,hs,hb9,Zq,htk,hdl,XD,ZI,kOk,viewAs,Zv,Zs,Zao,Zj,AVal.cells]
     exact ih
    |false =>
     rw[hdk rfl]at ih
     simp only[Xo]at ih
     simp only[X8,Xl,if_false]at hS
     simp only[EQA,ZB,Xf,Xd,Xe,Xb,Xg,reduceCtorEq,Zq,↓reduceIte,gcT,gcA,gcIds,reach,rhoOf,heapOf,idxA,genB,newGen,renB,refsB,Ww,Zch,ZbW,Zb,hpos,hS,n0,hs,hb9,ZI,kOk,viewAs,Zv,Zs,Zao,Zj,AVal.cells]
     exact ih
  ·have n1:(e != 0)=true:=by simpa using he
   rw[if_neg he]
   unfold Zi3 Zes
   simp only
   rw[if_neg he,Zr]
   cases l with
   |nil =>
    have hC:=fun{σ:Za} {sq:Nat} hs hf=>hC (σ:=σ) (sq:=sq) hs rfl hf
    simp only[Xo,ZaF,show Ze4 []=AVal.lst true []from rfl]
    cases dk with
    |true =>
     simp only[if_true,WN,WE,Xl,if_false]at hC
     simp only[EQA,Xf,Xd,Xe,Xb,Xg,reduceCtorEq,↓reduceIte,ZcU,Zch,ZbW,Zb,hpos,hC,n1,AVal.cells]
     try (simp[EQO])
    |false =>
     simp only[X8,Xl,if_false]at hC
     simp only[EQA,Xf,Xd,Xe,Xb,Xg,reduceCtorEq,↓reduceIte,ZcU,Zch,ZbW,Zb,hpos,hC,n1,AVal.cells]
     try (simp[EQO])
   |cons a l =>
    generalize hX:(a::l).map Zi=Y at *
    have hXp:0<Y.length:=by rw[<-hX];simp
    simp only[Zkb hXp,Zbk hXp]
    cases dk with
    |true =>
     simp only[if_true,WN,WE,Xl,if_false]at hS
     simp only[EQA,Xf,Xd,Xe,Xb,Xg,reduceCtorEq,↓reduceIte,ZcU,Zch,ZbW,Zb,hpos,hS,n1,AVal.cells]
     try (simp[EQO])
    |false =>
     simp only[X8,Xl,if_false]at hS
     simp only[EQA,Xf,Xd,Xe,Xb,Xg,reduceCtorEq,↓reduceIte,ZcU,Zch,ZbW,Zb,hpos,hS,n1,AVal.cells]
     try (simp[EQO])
theorem ZBT(w:Int)(b:Zd)(hl:b.length<=140737488355328):E 60 [.int .i64 w,Zf b] []=some (Zjj (Z1 w b)):=by
 have hGV:=fun σ sq own f=>ZmS σ sq own f b (by omega)
 have hu:=Zhn b
 have hlt:=Ziu b
 have hle:=ZkA b
 unfold Z1 Zjj
 rcases hx:ZL b with⟨n,u,e⟩
 rw[hx]at hGV hu hlt hle
 unfold gvT at hGV
 simp only at hGV hu hlt hle ⊢
 have hw:IntKind.i64.wrap ((b.length:Int)-(u:Int))=(b.length:Int)-(u:Int):=ZQ (by omega) (by omega)
 by_cases he:e=0
 ·subst he
  have n0:((0:Int) != 0)=false:=rfl
  by_cases hn:(n:Int)>(b.length:Int)-(u:Int)
  ·rw[if_pos (Xt hn),Zg (by rfl) Zhj]
   simp only[EQA,Zk,Xd,Xb,Zh,unG,reduceCtorEq,↓reduceIte,Zm,Zhf,Zfj,ZcU,Zb,Zf,hGV,n0,hw,hn]
   simp[]
   exact⟨rfl,rfl⟩
  ·have hc:¬((0:Int)≠0\/(n:Int)>(b.length:Int)-(u:Int)):=by simpa using hn
   rw[if_neg hc,Zg (by rfl) Zhj]
   have hw2:IntKind.i64.wrap ((u:Int)+(n:Int))=((u+n:Nat):Int):=by rw[ZQ (by omega) (by omega)];rfl
   have hs:=fun σ k1 k2=>Zki σ b k1 k2 ((u:Nat):Int) ((u+n:Nat):Int) (by omega) (by omega) (by omega)
   have e1:(((u:Nat):Int)).toNat=u:=rfl
   have e2:(((u+n:Nat):Int)).toNat=u+n:=rfl
   rw[e1,e2]at hs
   have key:=ZyN w n u (by omega) (by omega) n ((b.take (u+n)).drop u) [] (by simp;omega) (by simp;omega) (by simp)
   generalize (b.take (u+n)).drop u=B at *
   unfold Zes at key
   simp only[Xo,ZaZ,ZaF]at key
   simp only[EQA,ZB,Xd,Xb,Zh,unG,reduceCtorEq,↓reduceIte,gcT,gcA,gcIds,reach,heapOf,refsB,Zhf,Zfj,Zb,Zf,hGV,n0,hw,hn,hw2,hs]
   rw[key]
   unfold ZcX
   split<;>rfl
 ·have n1:(e != 0)=true:=by simpa using he
  rw[if_pos (Xp he),Zg (by rfl) Zhj]
  simp only[EQA,Zk,Xd,Xb,Zh,Zw,reduceCtorEq,↓reduceIte,Zm,Zhf,Zfj,ZcU,Zb,Zf,hGV,n1]
  simp[]
  exact⟨rfl,rfl⟩
theorem Zt2(σ:Za)(sq own:Nat)(w:Int)(b:Zd)(hl:b.length<=140737488355328):Zl E BY σ sq 60 own true [.int .i64 w,.lst false (b.map Zc)]=some (.tup [.lst false ((Z1 w b).1.map Zi),.int .i64 ((Z1 w b).2.1:Nat),.int .i64 (Z1 w b).2.2],σ,{}):=by
 rw[ZqO (by rfl) (by rfl),show E 60 [.int .i64 w,.lst false (b.map Zc)] []=_ from ZBT w b hl]
 unfold Zjj
 have : ∀ (full:List AVal) (u:Nat) (c:Int),ZO true 0 (some (.tup [ZaX full,.int .i64 (u:Nat),.int .i64 c],ZaS 5 full))=some (.tup [.lst false full,.int .i64 (u:Nat),.int .i64 c],[]):=by
  intro full u c
  unfold ZO
  rw[if_pos rfl]
  cases full with
  |nil=>rfl
  |cons x xs =>
   simp only[Zbi,Za0]
   generalize x::xs=Y at *
   simp[EQO,ZaI,viewR,viewAs,Zv,Zs,Zq,Zj]
 rw[this,ZdP _ _ _ _ rfl]
theorem ZqS{O:ZJ}{bf:Nat->Bool}{f own:Nat}{r:AVal}{X:List AVal}{lo:Nat}{b:Zd}(hL:Lent X lo b)(h:O f [Zf b] []=some (r,[]))(hb:bf f=false)(hv:ZaI 0 (some (r,[]))=some (r,[]))(hf:ZaQ r=true){σ:Za}{t:Nat}(hs:σ[t]?=some (.row 0 1 X))(sq:Nat) :
  Zl O bf σ sq f own true [.sl t 0 lo b.length]=some (r,σ,{ rd:=[t] }):=by
 refine ZlJ (vs:=[Zf b]) hb ?_ rfl rfl h hv hf sq own
 simp only[showAs,ZhV hL hs]
 rfl
def Zo9(X:List AVal)(x:List Zp×Nat×Int):AVal×Za:=(.tup [Ze4 (x.1.map Zi),.int .i64 (x.2.1:Nat),.int .i64 x.2.2],.row 0 1 X::ZaS 5 (x.1.map Zi))
theorem ZLJ(w:Int){X:List AVal}{lo:Nat}{b:Zd}(hL:Lent X lo b)(hl:b.length<=140737488355328):E 60 [.int .i64 w,.sl 0 0 lo b.length] [.row 0 1 X]=some (Zo9 X (Z1 w b)):=by
 have hGV:=fun{σ:Za} {sq own:Nat} (hs:σ[0]?=some (.row 0 1 X))=>ZqS (bf:=BY) (own:=own) hL (ZyM b (by omega)) (by kernel_rfl) rfl rfl hs sq
 have hu:=Zhn b
 have hlt:=Ziu b
 have hle:=ZkA b
 unfold Z1 Zo9
 rcases hx:ZL b with⟨n,u,e⟩
 rw[hx]at hGV hu hlt hle
 unfold gvT at hGV
 simp only at hGV hu hlt hle ⊢
 have hw:IntKind.i64.wrap ((b.length:Int)-(u:Int))=(b.length:Int)-(u:Int):=ZQ (by omega) (by omega)
 by_cases he:e=0
 ·subst he
  have n0:((0:Int) != 0)=false:=rfl
  by_cases hn:(n:Int)>(b.length:Int)-(u:Int)
  ·rw[if_pos (Xt hn),Zg (by rfl) Zhj]
   simp only[EQA,Xd,Xb,Zh,unG,reduceCtorEq,↓reduceIte,Zhf,Zfj,ZcU,Zb,hGV,n0,hw,hn]
   simp[EQO]
   exact⟨rfl,rfl⟩
  ·have hc:¬((0:Int)≠0\/(n:Int)>(b.length:Int)-(u:Int)):=by simpa using hn
   rw[if_neg hc,Zg (by rfl) Zhj]
   have hw2:IntKind.i64.wrap ((u:Int)+(n:Int))=((u+n:Nat):Int):=by rw[ZQ (by omega) (by omega)];rfl
   have hs:=fun{σ:Za} (hs:σ[0]?=some (.row 0 1 X))=>ZK8 hL hs (i:=u) (j:=u+n) (by omega) (by omega)
   have hL2:=(hL.take (m:=u+n) (by omega)).drop (m:=u) (by simp;omega)
   have key:=Zwb X w n u (by omega) (by omega) n (lo+u) ((b.take (u+n)).drop u) [] hL2 (by simp;omega) (by simp;omega) (by simp)
   generalize (b.take (u+n)).drop u=B at *
   unfold Zes at key
   simp only[Xo,ZaF,show Ze4 []=AVal.lst true []from rfl]at key
   simp only[EQA,ZB,Xd,Xe,Xb,Zh,unG,reduceCtorEq,↓reduceIte,gcT,gcA,gcIds,reach,rhoOf,heapOf,idxA,genB,newGen,renB,refsB,Ww,Zhf,Zfj,Zb,hGV,n0,hw,hn,hw2,hs]
   rw[key]
   unfold Zi3
   split<;>rfl
 ·have n1:(e != 0)=true:=by simpa using he
  rw[if_pos (Xp he),Zg (by rfl) Zhj]
  simp only[EQA,Xd,Xb,Zh,Zw,reduceCtorEq,↓reduceIte,Zhf,Zfj,ZcU,Zb,hGV,n1]
  simp[EQO]
  exact⟨rfl,rfl⟩
theorem ZEZ(w:Int){X:List AVal}{lo:Nat}{b:Zd}(hL:Lent X lo b)(hl:b.length<=140737488355328){σ:Za}{t:Nat}(hs:σ[t]?=some (.row 0 1 X))(sq:Nat):Zl E BY σ sq 60 0 true [.int .i64 w,.sl t 0 lo b.length]=some (.tup [.lst false ((Z1 w b).1.map Zi),.int .i64 ((Z1 w b).2.1:Nat),.int .i64 (Z1 w b).2.2],σ.set t (.row 0 1 X),{ any:=true }):=by
 refine Zk3 (args':=[.int .i64 w,.sl 0 0 lo b.length]) hs (by kernel_rfl) rfl rfl (fun ρ h=>by simp only[renL,renV,h]) (fun ρ=>rfl) (Xp rfl) ?_
 rw[ZLJ w hL hl]
 unfold Zo9
 generalize (Z1 w b).2.1=u
 generalize (Z1 w b).2.2=c
 generalize (Z1 w b).1.map Zi=full
 unfold ZO
 rw[if_pos rfl]
 cases full with
 |nil=>rfl
 |cons x xs =>
  rw[Zkb (by simp),Za0]
  generalize x::xs=Y at *
  simp[EQO,ZaI,viewR,viewAs,Zv,Zs,Zq,Zj]
end
section
def Zd3(f:Bool)(x:Zd×Int):AVal:=.tup [.lst f (x.1.map Zc),.int .i64 x.2]
theorem ZQs(w:Int)(l:List Zp)(hl:l.length<=9223372036854775807)(b:Zd)(hb:b.length<=140737488355000)(i:Nat)(h1:¬(i:Int)<l.length) :
  ∃ f,Zkd 0 [(16,.int .i64 i),(15,.int .i64 l.length),(14,.lst false (l.map Zi)),(6,.sl 0 0 0 b.length),(1,.lst false (l.map Zi)),(0,.int .i64 w)] [.row 0 1 (b.map Zc)]=some (Zd3 f (Zez w l b),[]):=by
 have hV:=fun σ sq own=>Zkf σ sq own (b.length:Int)
 unfold Zen at hV
 have l0:=Zf2 (b.length:Int)
 have hJ:=fun σ sq own f=>ZwS σ sq own f (Zan b.length).1 b (by omega)
 have hR:=fun σ sq own=>Zt2 σ sq own w ((Zan b.length).1++b) (by simp;omega)
 have hS:=fun σ sq own view (a:List Zp) (ha:a.length<=9223372036854775807)=>Zug σ sq own view a l ha
 have ht:=Zd7 b
 have hlen:((Zan b.length).1++b).length<=140737488355328:=by simp;omega
 have hrl:=ZEv w ((Zan b.length).1++b)
 unfold Zez Zd3
 generalize Zan b.length=V at *
 obtain⟨v,e⟩:=V
 simp only at hV hJ hR hlen hrl ⊢
 generalize hc:v++b=c at *
 generalize Z1 w c=R at *
 obtain⟨again,used,code⟩:=R
 simp only at hR hrl ⊢
 have hS2:=fun σ sq own view=>hS σ sq own view again (by omega)
 unfold Zkd
 by_cases he:e=0
 ·subst he
  have n0:((0:Int) != 0)=false:=rfl
  rw[if_neg (by simp)]
  by_cases hc0:code=0
  ·subst hc0
   by_cases hu:used=c.length
   ·have n2:((used:Int) != (c.length:Int))=false:=by simp[hu]
    cases hs:(again==l)<;>rw[hs]at hS2
    ·refine⟨true,?_⟩
     rw[if_pos (by simp),Zr]
     simp only[EQA,Zk,Xd,Xb,unA,Zh,unG,reduceCtorEq,Zq,↓reduceIte,Zm,ZiQ,Zir,Zgm,Zf6,Ze6,Zb,h1,hV,hJ,hR,hS2,ht,n0,n2,viewAs,Zv,Zs,Zj,XD,AVal.cells]
    ·refine⟨false,?_⟩
     rw[if_neg (by simp[hu]),Zr]
     simp only[EQA,Zk,Xd,Xb,unA,Zh,unG,reduceCtorEq,Zq,↓reduceIte,Zm,ZiQ,Zir,Zgm,Zf6,Ze6,Zb,h1,hV,hJ,hR,hS2,ht,n0,n2,viewAs,Zv,Zs,Zj,XD,AVal.cells]
   ·have n2:((used:Int) != (c.length:Int))=true:=by simp;omega
    refine⟨true,?_⟩
    rw[if_pos (by simp[hu]),Zr]
    simp only[EQA,Zk,Xd,Xb,Zh,Zw,unG,reduceCtorEq,Zq,↓reduceIte,Zm,ZiQ,Zir,Zgm,Zf6,Ze6,Zb,h1,hV,hJ,hR,ht,n0,n2,viewAs,Zv,Zs,Zj,XD,AVal.cells]
  ·have n1:(code != 0)=true:=by simpa using hc0
   refine⟨true,?_⟩
   rw[if_pos (by simp[hc0]),Zr]
   simp only[EQA,Zk,Xd,Xb,Zh,Zw,reduceCtorEq,Zq,↓reduceIte,Zm,ZiQ,Zir,Zgm,Zf6,Ze6,Zb,h1,hV,hJ,hR,ht,n0,n1,viewAs,Zv,Zs,Zj,XD,AVal.cells]
 ·have n1:(e != 0)=true:=by simpa using he
  refine⟨true,?_⟩
  rw[if_pos he,Zr]
  simp only[EQA,Zk,Xd,Xb,reduceCtorEq,↓reduceIte,Zm,ZiQ,Zir,Zgm,Zf6,Ze6,Zb,h1,hV,n1]
theorem Zwt(w:Int)(l:List Zp)(hl:l.length<=9223372036854775807)(hx:∀ p∈l,Zd1 p):∀ (r:List Zp) (i:Nat) (acc:Zd),l.drop i=r->acc.length+r.length*200000<=140737488355000 ->
  ∃ f,Zkd 0 [(16,.int .i64 i),(15,.int .i64 l.length),(14,.lst false (l.map Zi)),(6,.sl 0 0 0 acc.length),(1,.lst false (l.map Zi)),(0,.int .i64 w)] [.row 0 1 (acc.map Zc)]=some (Zd3 f (Zez w l (acc++(r.map ZaP).flatten)),[])
 | [],i,acc,h,hn=>by
  simp only[Xo,W9,XC]
  exact ZQs w l hl acc (by simpa using hn) i (ZcG h)
 |p::r,i,acc,h,hn=>by
  have hlp:=ZiY p
  simp only[Xm]at hn
  obtain⟨f,ih⟩:=Zwt w l hl hx r (i+1) (acc++ZaP p) (ZP h).2.1 (by rw[Xk];omega)
  refine⟨f,?_⟩
  have h1:(i:Int)<l.length:=by have:=(ZP h).2.2;omega
  have e1:=iad (ZP h).1 Zi (k:=5) rfl
  have e3:=Zcp h1 hl
  have hC:=fun σ sq own=>ZxF σ sq own p (hx p (Xx (ZP h).1))
  rw[Wa]at ih
  rw[Xn,WD]
  generalize ZaP p=q at *
  have k1:=Zbe q
  have k2:(acc.length+q.length)*1<=140737488355328:=by omega
  have e4:(acc++q).map Zc=acc.map Zc++q.map Zc:=by simp
  have e5:(acc++q).length=acc.length+q.length:=by simp
  rw[e4,e5]at ih
  unfold Zkd at ih ⊢
  rw[Zr]
  simp only[EQA,ZB,ZX,Xf,Xd,Xe,Xb,Xg,reduceCtorEq,Zq,↓reduceIte,gcT,gcA,gcIds,reach,rhoOf,heapOf,idxA,genB,newGen,renB,refsB,Zf6,Ze6,Zb,Zf,Zi,ZZ,h1,e1,e3,hC,k1,k2,ZI,XD,AVal.cells]
  exact ih
theorem ZSf(w:Int)(l:List Zp)(hl:l.length<=700000000)(hx:∀ p∈l,Zd1 p):∃ f,E 33 [.int .i64 w,ZD l] []=some (Zd3 f (Zav w l),[]):=by
 have z0:((0:Nat):Int)=0:=rfl
 unfold Zav
 cases l with
 |nil =>
  have hV:=fun σ sq own=>Zkf σ sq own 0
  have hv:Zan 0=([0],0):=rfl
  unfold Zen at hV
  rw[hv]at hV
  have hJ:=fun σ sq own f=>ZwS σ sq own f [0] [] (by simp)
  have hR:=fun σ sq own=>Zt2 σ sq own w [0] (by simp)
  have hr:Z1 w [0]=([],1,0):=rfl
  rw[hr]at hR
  have hS:=fun σ sq own view=>Zug σ sq own view [] [] (by simp)
  have e:Zez w [] (([]:List Zp).map ZaP).flatten=([0],0):=by
   unfold Zez
   simp only[Xo,W9,Xu,z0,hv,XC,hr]
   rfl
  rw[e]
  refine⟨false,?_⟩
  rw[Zg (by rfl) Zuv]
  simp only[Xo,Xn,Zc]at hV hJ hR hS
  unfold Zd3
  have b0:Zc 0=.int .u8 0:=rfl
  have u0:(0:UInt8).toNat=0:=rfl
  have n0:((0:Int) != 0)=false:=rfl
  have n1:((1:Int) != 1)=false:=rfl
  rw[u0,z0]at hV hJ hR
  have z1:((1:Nat):Int)=1:=rfl
  rw[z1]at hR
  simp only[EQA,ZB,Xd,Xb,reduceCtorEq,↓reduceIte,gcT,gcA,gcIds,reach,heapOf,refsB,Zyl,Zl1,Zb,ZD]
  rw[Zr]
  simp only[EQA,Zk,Xd,Xb,unA,Zh,unG,reduceCtorEq,↓reduceIte,Zm,ZiQ,Zir,Zgm,Zf6,Ze6,Zb,z0,z1,hV,hJ,hR,hS,n0,n1,b0,viewAs,Zv,Zs,Zj,AVal.cells,XaY]
 |cons p r =>
  have hlp:=ZiY p
  simp only[Xm]at hl
  obtain⟨f,ih⟩:=Zwt w (p::r) (by simp only[Xm];omega) hx r 1 (ZaP p) rfl (by omega)
  refine⟨f,?_⟩
  have e1:=iad (l:=p::r) (i:=0) rfl Zi (k:=5) rfl
  have h1:(0:Int)<((p::r).length:Int):=by simp only[Xm];omega
  have w1:IntKind.i64.wrap (0+1)=1:=rfl
  have z1:((1:Nat):Int)=1:=rfl
  have hC:=fun σ sq own=>ZxF σ sq own p (hx p (by simp))
  rw[Xn,WD]
  generalize ZaP p=q at *
  have k1:=Zbe q
  have k2:q.length*1<=140737488355328:=by omega
  have e6:(q.map Zc).length=q.length:=by simp
  rw[z0]at e1
  rw[z1]at ih
  generalize (r.map ZaP).flatten=t at *
  generalize hL:p::r=L at *
  rw[Zg (by rfl) Zuv]
  unfold Zkd at ih
  simp only[EQA,ZB,Xd,Xb,reduceCtorEq,↓reduceIte,gcT,gcA,gcIds,reach,heapOf,refsB,Zyl,Zl1,Zb,ZD]
  rw[Zr]
  simp only[EQA,ZB,ZX,Xf,Xd,Xe,Xb,Xg,reduceCtorEq,Zq,↓reduceIte,gcT,gcA,gcIds,reach,rhoOf,heapOf,idxA,genB,newGen,renB,refsB,Zf6,Ze6,Zb,Zf,Zi,ZZ,h1,e1,w1,hC,k1,k2,ZI,XD,AVal.cells]
  exact ih
theorem ZMJ(σ:Za)(sq own:Nat)(f:Bool)(w:Int)(l:List Zp)(hl:l.length<=700000000)(hx:∀ p∈l,Zd1 p):Zl E BY σ sq 33 own true [.int .i64 w,.lst f (l.map Zi)]=some (Zd3 false (Zav w l),σ,{}):=by
 obtain⟨g,h⟩:=ZSf w l hl hx
 exact Zal h (by kernel_rfl) rfl rfl rfl (fun _=>rfl) _ _ _
end
section
def ZgT:Ze:=by apply Zb 46 [] [];conv=>lhs;reduce;dsimp only[zi]
def ZrV:Zz:=⟨[(.tmp 2)],ZgT⟩
theorem Zkr:FC 46=some ZrV:=by kernel_rfl
theorem Zjc:ZrV.body=ZgT:=rfl
theorem Zjf:ZrV.res=[(.tmp 2)]:=rfl
def Zj6:Ze:=by apply Zb 48 [] [];conv=>lhs;reduce;dsimp only[zi]
def ZnO:Zz:=⟨[(.tmp 4)],Zj6⟩
theorem ZoH:FC 48=some ZnO:=by kernel_rfl
theorem Zr3:ZnO.body=Zj6:=rfl
theorem ZnD:ZnO.res=[(.tmp 4)]:=rfl
def Zhw:Ze:=by apply Zb 71 [] [];conv=>lhs;reduce;dsimp only[zi]
def Zom:Zz:=⟨[(.tmp 4)],Zhw⟩
theorem Zlw:FC 71=some Zom:=by kernel_rfl
theorem Zmp:Zom.body=Zhw:=rfl
theorem ZlE:Zom.res=[(.tmp 4)]:=rfl
def Zig:Ze:=by apply Zb 49 [] [];conv=>lhs;reduce;dsimp only[zi]
def Zon:Zz:=⟨[(.tmp 2)],Zig⟩
theorem Zm0:FC 49=some Zon:=by kernel_rfl
theorem Znm:Zon.body=Zig:=rfl
theorem ZlP:Zon.res=[(.tmp 2)]:=rfl
def Zln:Ze:=by apply Zb 47 [] [];conv=>lhs;reduce;dsimp only[zi]
def ZpQ:Zz:=⟨[(.tmp 2),(.tmp 3)],Zln⟩
theorem ZwO:FC 47=some ZpQ:=by kernel_rfl
theorem ZuZ:ZpQ.body=Zln:=rfl
theorem Zt8:ZpQ.res=[(.tmp 2),(.tmp 3)]:=rfl
def ZmO:Ze:=by apply Zb 39 [] [];conv=>lhs;reduce;dsimp only[zi]
def Zrp:Zz:=⟨[(.cell 2 (some 10))],ZmO⟩
theorem ZzE:FC 39=some Zrp:=by kernel_rfl
theorem ZvT:Zrp.body=ZmO:=rfl
theorem ZxN:Zrp.res=[(.cell 2 (some 10))]:=rfl
def Zje:Ze:=by apply Zb 43 [] [];conv=>lhs;reduce;dsimp only[zi]
def Zp0:Zz:=⟨[(.tmp 2)],Zje⟩
theorem Zqh:FC 43=some Zp0:=by kernel_rfl
theorem Znz:Zp0.body=Zje:=rfl
theorem Zpx:Zp0.res=[(.tmp 2)]:=rfl
def Zoz:Ze:=by apply Zb 44 [] [];conv=>lhs;reduce;dsimp only[zi]
def Zog:Zz:=⟨[(.tmp 4)],Zoz⟩
theorem ZIJ:FC 44=some Zog:=by kernel_rfl
theorem ZGo:Zog.body=Zoz:=rfl
theorem ZQA:Zog.res=[(.tmp 4)]:=rfl
def Zko:Ze:=by apply Zb 63 [] [];conv=>lhs;reduce;dsimp only[zi]
def ZnP:Zz:=⟨[(.tmp 4)],Zko⟩
theorem ZnU:FC 63=some ZnP:=by kernel_rfl
theorem Zso:ZnP.body=Zko:=rfl
theorem ZrA:ZnP.res=[(.tmp 4)]:=rfl
def ZrN:Ze:=by apply Zb 42 [] [];conv=>lhs;reduce;dsimp only[zi]
def Zn6:Zz:=⟨[(.tmp 2)],ZrN⟩
theorem ZES:FC 42=some Zn6:=by kernel_rfl
theorem ZJV:Zn6.body=ZrN:=rfl
theorem ZQL:Zn6.res=[(.tmp 2)]:=rfl
def Zpc:Ze:=by apply Zb 8 [] [];conv=>lhs;reduce;dsimp only[zi]
def ZtF:Zz:=⟨[(.tmp 2)],Zpc⟩
theorem ZFX:FC 8=some ZtF:=by kernel_rfl
theorem ZB1:ZtF.body=Zpc:=rfl
theorem ZFc:ZtF.res=[(.tmp 2)]:=rfl
def ZsZ:Ze:=(.seq (.region [oM 49 7,oM 50 5,oI 51 (.app 1 1 (.int .u8 0) (.t 49) (.t 50)),oM 2 51] none [2]) .ret)
@[irreducible] def Zpn:Ze:=ZsZ
def ZHi:=xw Zpn ZsZ (by kernel_rfl)
def ZkC:Ze:=by apply Zb 9 [1,1,1,1,0,1,0,0] [];conv=>lhs;reduce;dsimp only[zi]
@[irreducible] def ZnN:Ze:=ZkC
def Zx3:=xw ZnN ZkC (by kernel_rfl)
def Zoo:Ze:=by apply Zb 9 [] [([1,1,1,1,0,1,0,0],ZnN),([1,1,1,1,1],Zpn)];conv=>lhs;reduce;dsimp only[zi]
def Zlf:Zz:=⟨[(.tmp 2)],Zoo⟩
theorem ZJa:FC 9=some Zlf:=by kernel_rfl
theorem ZO8:Zlf.body=Zoo:=rfl
theorem ZPO:Zlf.res=[(.tmp 2)]:=rfl
noncomputable def Zm8(m:Nat)(tm:Tms)(σ:Za):Option (AVal×Za):=(Zac m Zlf (Zaz FC PR BY m Zpn (XY (Zah 0) (evL FC PR BY m [39,38,37,7,5] ZnN tm σ))))
def ZgR:Ze:=by apply Zb 13 [] [];conv=>lhs;reduce;dsimp only[zi]
def Zrr:Zz:=⟨[(.cell 2 (some 10)),(.tmp 3)],ZgR⟩
theorem Zi7:FC 13=some Zrr:=by kernel_rfl
theorem Zjt:Zrr.body=ZgR:=rfl
theorem ZjR:Zrr.res=[(.cell 2 (some 10)),(.tmp 3)]:=rfl
def Ze5:Ze:=by apply Zb 15 [1,1,1,1,1,1,1] [];conv=>lhs;reduce;dsimp only[zi]
@[irreducible] def Zr7:Ze:=Ze5
def Zgw:=xw Zr7 Ze5 (by kernel_rfl)
def Zef:Ze:=by apply Zb 15 [1,1,1,1,1,1,0,1,0,0] [];conv=>lhs;reduce;dsimp only[zi]
@[irreducible] def Zpk:Ze:=Zef
def Zfg:=xw Zpk Zef (by kernel_rfl)
def Zht:Ze:=by apply Zb 15 [] [([1,1,1,1,1,1,0,1,0,0],Zpk),([1,1,1,1,1,1,1],Zr7)];conv=>lhs;reduce;dsimp only[zi]
def ZkH:Zz:=⟨[(.cell 2 (some 14)),(.tmp 3)],Zht⟩
theorem ZvF:FC 15=some ZkH:=by kernel_rfl
theorem ZmN:ZkH.body=Zht:=rfl
theorem Zf1:ZkH.res=[(.cell 2 (some 14)),(.tmp 3)]:=rfl
noncomputable def ZfD(m:Nat)(tm:Tms)(σ:Za):Option (AVal×Za):=(Zac m ZkH (Zaz FC PR BY m Zr7 (XY (Zah 0) (evL FC PR BY m [42,41,8,7,4,2,0] Zpk tm σ))))
def ZqA:Ze:=by apply Zb 36 [] [];conv=>lhs;reduce;dsimp only[zi]
def ZsY:Zz:=⟨[(.tmp 2)],ZqA⟩
theorem ZH8:FC 36=some ZsY:=by kernel_rfl
theorem ZS0:ZsY.body=ZqA:=rfl
theorem ZN2:ZsY.res=[(.tmp 2)]:=rfl
def ZoK:Ze:=by apply Zb 62 [] [];conv=>lhs;reduce;dsimp only[zi]
def ZoB:Zz:=⟨[(.tmp 2)],ZoK⟩
theorem ZIo:FC 62=some ZoB:=by kernel_rfl
theorem ZNt:ZoB.body=ZoK:=rfl
theorem ZIC:ZoB.res=[(.tmp 2)]:=rfl
def Zmb:Ze:=by apply Zb 35 [] [];conv=>lhs;reduce;dsimp only[zi]
def ZtL:Zz:=⟨[(.tmp 4)],Zmb⟩
theorem ZLl:FC 35=some ZtL:=by kernel_rfl
theorem ZvA:ZtL.body=Zmb:=rfl
theorem ZuQ:ZtL.res=[(.tmp 4)]:=rfl
def ZgL:Ze:=by apply Zb 40 [] [];conv=>lhs;reduce;dsimp only[zi]
def Zts:Zz:=⟨[(.tmp 2)],ZgL⟩
theorem Zh4:FC 40=some Zts:=by kernel_rfl
theorem ZhT:Zts.body=ZgL:=rfl
theorem Zix:Zts.res=[(.tmp 2)]:=rfl
def ZnR:Ze:=by apply Zb 28 [] [];conv=>lhs;reduce;dsimp only[zi]
def Ztq:Zz:=⟨[(.tmp 2)],ZnR⟩
theorem ZKP:FC 28=some Ztq:=by kernel_rfl
theorem ZOf:Ztq.body=ZnR:=rfl
theorem ZCz:Ztq.res=[(.tmp 2)]:=rfl
def ZoN:Ze:=by apply Zb 5 [] [];conv=>lhs;reduce;dsimp only[zi]
def ZoV:Zz:=⟨[(.tmp 2),(.tmp 3)],ZoN⟩
theorem ZKW:FC 5=some ZoV:=by kernel_rfl
theorem ZAh:ZoV.body=ZoN:=rfl
theorem ZSU:ZoV.res=[(.tmp 2),(.tmp 3)]:=rfl
def Zqn:Ze:=by apply Zb 6 [1,1,1,1,1,1,1] [];conv=>lhs;reduce;dsimp only[zi]
@[irreducible] def ZqQ:Ze:=Zqn
def ZP0:=xw ZqQ Zqn (by kernel_rfl)
def Zmw:Ze:=by apply Zb 6 [1,1,1,1,1,1,0,1,0,0] [];conv=>lhs;reduce;dsimp only[zi]
@[irreducible] def Zsf:Ze:=Zmw
def ZvQ:=xw Zsf Zmw (by kernel_rfl)
def Zs8:Ze:=by apply Zb 6 [] [([1,1,1,1,1,1,0,1,0,0],Zsf),([1,1,1,1,1,1,1],ZqQ)];conv=>lhs;reduce;dsimp only[zi]
def Zl4:Zz:=⟨[(.tmp 2),(.tmp 3)],Zs8⟩
theorem ZHW:FC 6=some Zl4:=by kernel_rfl
theorem ZP6:Zl4.body=Zs8:=rfl
theorem ZCf:Zl4.res=[(.tmp 2),(.tmp 3)]:=rfl
noncomputable def ZkO(m:Nat)(tm:Tms)(σ:Za):Option (AVal×Za):=(Zac m Zl4 (Zaz FC PR BY m ZqQ (XY (Zah 0) (evL FC PR BY m [11,10,8,5,1] Zsf tm σ))))
def Zgo:Ze:=by apply Zb 14 [] [];conv=>lhs;reduce;dsimp only[zi]
def Zse:Zz:=⟨[(.cell 2 (some 10)),(.tmp 3)],Zgo⟩
theorem Zhy:FC 14=some Zse:=by kernel_rfl
theorem Zhz:Zse.body=Zgo:=rfl
theorem ZhC:Zse.res=[(.cell 2 (some 10)),(.tmp 3)]:=rfl
def Zeo:Ze:=by apply Zb 16 [1,1,1,1,1,1,1,1] [];conv=>lhs;reduce;dsimp only[zi]
@[irreducible] def ZnX:Ze:=Zeo
def Zfc:=xw ZnX Zeo (by kernel_rfl)
def ZdD:Ze:=by apply Zb 16 [1,1,1,1,1,1,1,0,1,0,0] [];conv=>lhs;reduce;dsimp only[zi]
@[irreducible] def ZtK:Ze:=ZdD
def Zd8:=xw ZtK ZdD (by kernel_rfl)
def Zoc:Ze:=by apply Zb 16 [] [([1,1,1,1,1,1,1,0,1,0,0],ZtK),([1,1,1,1,1,1,1,1],ZnX)];conv=>lhs;reduce;dsimp only[zi]
def Zm4:Zz:=⟨[(.cell 2 (some 14)),(.tmp 3)],Zoc⟩
theorem ZLG:FC 16=some Zm4:=by kernel_rfl
theorem ZGp:Zm4.body=Zoc:=rfl
theorem ZeZ:Zm4.res=[(.cell 2 (some 14)),(.tmp 3)]:=rfl
noncomputable def ZfP(m:Nat)(tm:Tms)(σ:Za):Option (AVal×Za):=(Zac m Zm4 (Zaz FC PR BY m ZnX (XY (Zah 0) (evL FC PR BY m [10,9,7,6,4,2,0] ZtK tm σ))))
def Zr0:Ze:=by apply Zb 18 [] [];conv=>lhs;reduce;dsimp only[zi]
def ZsF:Zz:=⟨[(.tmp 4)],Zr0⟩
theorem ZEB:FC 18=some ZsF:=by kernel_rfl
theorem ZMv:ZsF.body=Zr0:=rfl
theorem ZD9:ZsF.res=[(.tmp 4)]:=rfl
def ZpW:Ze:=(.seq (.region [oI 4 (.mov (.c (.bool true)))] none [4]) .ret)
@[irreducible] def ZrG:Ze:=ZpW
def ZC7:=xw ZrG ZpW (by kernel_rfl)
def Zlm:Ze:=by apply Zb 19 [1,1,0,1,0,0] [];conv=>lhs;reduce;dsimp only[zi]
@[irreducible] def ZnY:Ze:=Zlm
def Zud:=xw ZnY Zlm (by kernel_rfl)
def Ztx:Ze:=by apply Zb 19 [] [([1,1,0,1,0,0],ZnY),([1,1,1],ZrG)];conv=>lhs;reduce;dsimp only[zi]
def ZlZ:Zz:=⟨[(.tmp 4)],Ztx⟩
theorem ZBk:FC 19=some ZlZ:=by kernel_rfl
theorem ZKo:ZlZ.body=Ztx:=rfl
theorem ZJW:ZlZ.res=[(.tmp 4)]:=rfl
noncomputable def Zmm(m:Nat)(tm:Tms)(σ:Za):Option (AVal×Za):=(Zac m ZlZ (Zaz FC PR BY m ZrG (XY (Zah 0) (evL FC PR BY m [5,3,2] ZnY tm σ))))
def Zmt:Ze:=by apply Zb 29 [] [];conv=>lhs;reduce;dsimp only[zi]
def Zsz:Zz:=⟨[(.tmp 4)],Zmt⟩
theorem ZuI:FC 29=some Zsz:=by kernel_rfl
theorem ZwB:Zsz.body=Zmt:=rfl
theorem Zu6:Zsz.res=[(.tmp 4)]:=rfl
end
end Go.Proofs.YtbcbhgbffjkheaaDoor
