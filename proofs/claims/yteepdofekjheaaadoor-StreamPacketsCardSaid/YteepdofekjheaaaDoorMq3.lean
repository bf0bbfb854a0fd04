/- packed -/
import Derived.Test.YteepdofekjheaaaDoorMq2
import Derived.Lib.TrimUEq
import Derived.Lib.MapLaws
import Derived.Lib.ValidLaws
import Derived.Lib.TrimAscii
set_option linter.defProp false
set_option linter.unusedSimpArgs false
set_option linter.unusedVariables false
open Nat renaming reduceEqDiff→Xa,reduceLT→Xc,reduceAdd→Xe,reduceLeDiff→Xf,reduceBEq→Xg,le_refl→Xx,zero_add→XG,add_zero→XT,le_of_ble_eq_true→Wc,lt_or_ge→WB,one_mul→WI,pow_succ→XaT
open List renaming getD_eq_getElem?_getD→Xh,getElem?_eq_some_iff→Xj,length_append→Xk,append_nil→Xm,map_cons→Xo,getElem?_set→Xs,getD_cons_zero→Xu,nil_append→Xw,eq_nil_of_length_eq_zero→Xy,mem_of_getElem?→Xz,map_nil→XA,all_eq_true→XB,all_cons→XD,length_cons→XF,length_nil→XJ,take_of_length_le→XK,getElem?_eq_none→XS,cons_append→XU,length_map→XW,mem_map→X0,drop_eq_nil_iff→X4,map_append→X9,append_assoc→Wa,length_drop→Wb,length_take→Wj,take_length→Wl,range_succ→Wo,flatten_cons→Wp,all_nil→Wr,isEmpty_cons→Wu,drop_zero→WD,drop_append_of_le_length→WR,flatten_nil→W6,length_singleton→W7,drop_drop→Xai,singleton_append→Xan,map_take→XaF,map_drop→XaO
open Bool renaming false_eq_true→Xi,and_self→Wg,false_and→Xaa,or_true→XaS
open Int renaming reduceBEq→Xq,toNat→WV
open Or renaming inl→Xr,inr→Xv
open BitVec renaming ofInt→XR
open Option renaming map→Wd,isSome_none→Xaj
open UInt8 renaming ofNat→Wf,toNat_ofNat'→WH
namespace Go.Proofs.YteepdofekjheaaaDoor
set_option maxHeartbeats 16000000
set_option maxRecDepth 10000
section
def frV (x:UInt8) (b:Zc):AVal:=.agg [Zb x,.lst false (b.map Zb)]
section
variable {fz:Bool} {p g r:Nat} {h:Zc} {Y:List AVal} (hY:Y.drop p=h.map Zb) (hp:p<=Y.length)
include hY hp
theorem Zgq {σ:Za} (hs:σ[r]?=some (Zab fz g Y)) {a b:Nat} (hab:a+b<=h.length):ZM σ (.sl r g (p+a) b)=some (((h.drop a).take b).map Zb,[r]):=by
 have hl:=Zgc hY hp
 have e:(Y.drop (p+a)).take b=((h.drop a).take b).map Zb:=by
  rw [<-Xai,hY,XaF,XaO]
 have h1:p+a+b<=Y.length:=by omega
 cases fz <;> simp [ZM,hs,Zab,h1,e]
theorem Zfh {σ:Za} (hs:σ[r]?=some (Zab fz g Y)) {a:Nat} (ha:a<=h.length):Zbj σ 1 (.sl r g p h.length) (some (.int .i64 (a:Int))) none none=some (.sl r g (p+a) (h.length - a),σ,{ rd:=[r] }):=by
 have hl:=Zgc hY hp
 have he:=Zgq hY hp hs (a:=0) (b:=h.length) (by omega)
 rw [XT] at he
 have h0:(0:Int)<=(a:Int):=by omega
 have h3:(a:Int)<=(h.length:Int):=by omega
 unfold Zbj
 simp only [he,hs]
 cases fz <;> simp only [Zab,if_true,if_false,Xi,Zbg,Zc7,h0,h3,and_self,Int.toNat_natCast]
end
theorem ZGK (most:Int) (p:Nat) (h:Zc) (Y:List AVal) (hY:Y.drop p=h.map Zb) (hp:p<=Y.length) (hl:h.length<=70368744177664) {x:UInt8} {b:Zc} {k:Nat} (hf:hdF most h=.one x b k) (hk:k<=h.length) (hk0:0 < k) :
  ZaW 1 [(6,.lst true []),(0,.ref 0 0)] [.var [.int .i64 most,.sl 1 0 (p) (h.length),.int .i64 0],.row 0 1 Y]=ZaW 1 [(6,.sl 1 0 0 (1)),(0,.ref 0 0)] [.var [.int .i64 most,.sl 2 0 (p+k) (h.length - k),.int .i64 0],.row 0 2 ([frV x b]),.frow 0 1 Y]:=by
 have hC:=fun {σ:Za} {sq:Nat} h0 h1=>Zc6 most false p h Y hY hp hl (σ:=σ) (sq:=sq) (r:=1) (g:=0) (by decide) h0 h1
 have hS:=fun {σ:Za} hs=>Zfh (fz:=true) (g:=0) (r:=1) hY hp (σ:=σ) hs (a:=k) hk
 rw [hf] at hC
 simp only [Zab,hdT,hdZ,Xi,if_false,if_true] at hC hS
 have hk1:(((k:Nat):Int) == 0)=false:=by simp;omega
 have b1:1*32<=140737488355328:=by decide
 have hb0:Zb x=.int .u8 (x.toNat:Int):=rfl
 unfold frV
 rw [hb0] at hC ⊢
 generalize b.map Zb=bb at *
 unfold ZaW
 rw [ZL]
 simp -implicitDefEqProofs only [EQA,ZN,Xe,Xc,Xf,Xa,Xg,reduceCtorEq,ZM,↓reduceIte,gcT,gcA,Zy,Zt,Zi,Zq,ZO,Zl,ZF,Zz,ZC,Wo,Zc1,ZcL,hC,hS,hk1,b1,AVal.cells,ZS,Z3,kOk,viewAs,ZU,ZP,ZaL,Zp,WI,bne_self_eq_false]
theorem ZyE (most:Int) (p:Nat) (h:Zc) (Y:List AVal) (hY:Y.drop p=h.map Zb) (hp:p<=Y.length) (hl:h.length<=70368744177664) (FS:List AVal) (c:Nat) (hFS:FS.length=c) (hc:(c+1)*32<=140737488355328) {x:UInt8} {b:Zc} {k:Nat} (hf:hdF most h=.one x b k) (hk:k<=h.length) (hk0:0 < k) :
  ZaW 1 [(6,.sl 1 0 0 (c)),(0,.ref 0 0)] [.var [.int .i64 most,.sl 2 0 (p) (h.length),.int .i64 0],.row 0 2 (FS),.row 0 1 Y]=ZaW 1 [(6,.sl 1 0 0 (c+1)),(0,.ref 0 0)] [.var [.int .i64 most,.sl 2 0 (p+k) (h.length - k),.int .i64 0],.row 0 2 (FS++[frV x b]),.frow 0 1 Y]:=by
 have hC:=fun {σ:Za} {sq:Nat} h0 h1=>Zc6 most false p h Y hY hp hl (σ:=σ) (sq:=sq) (r:=2) (g:=0) (by decide) h0 h1
 have hS:=fun {σ:Za} hs=>Zfh (fz:=true) (g:=0) (r:=2) hY hp (σ:=σ) hs (a:=k) hk
 rw [hf] at hC
 simp only [Zab,hdT,hdZ,Xi,if_false,if_true] at hC hS
 have hk1:(((k:Nat):Int) == 0)=false:=by simp;omega
 have b1:1*32<=140737488355328:=by decide
 have hb0:Zb x=.int .u8 (x.toNat:Int):=rfl
 unfold frV
 rw [hb0] at hC ⊢
 generalize b.map Zb=bb at *
 unfold ZaW
 rw [ZL]
 simp -implicitDefEqProofs only [EQA,ZN,Xe,Xc,Xf,Xa,Xg,reduceCtorEq,ZM,↓reduceIte,gcT,gcA,Zy,Zt,Zi,Zq,ZO,Zl,ZF,Zz,ZC,Wo,Zc1,ZcL,hC,hS,hk1,hFS,hc,AVal.cells,ZS,Z3,kOk,viewAs,ZU,ZP,ZaL,Zp,bne_self_eq_false]
theorem ZDg (most:Int) (p:Nat) (h:Zc) (Y:List AVal) (hY:Y.drop p=h.map Zb) (hp:p<=Y.length) (hl:h.length<=70368744177664) (FS:List AVal) (c:Nat) (hFS:FS.length=c) (hc:(c+1)*32<=140737488355328) {x:UInt8} {b:Zc} {k:Nat} (hf:hdF most h=.one x b k) (hk:k<=h.length) (hk0:0 < k) :
  ZaW 1 [(6,.sl 1 0 0 (c)),(0,.ref 0 0)] [.var [.int .i64 most,.sl 2 0 (p) (h.length),.int .i64 0],.row 0 2 (FS),.frow 0 1 Y]=ZaW 1 [(6,.sl 1 0 0 (c+1)),(0,.ref 0 0)] [.var [.int .i64 most,.sl 2 0 (p+k) (h.length - k),.int .i64 0],.row 0 2 (FS++[frV x b]),.frow 0 1 Y]:=by
 have hC:=fun {σ:Za} {sq:Nat} h0 h1=>Zc6 most true p h Y hY hp hl (σ:=σ) (sq:=sq) (r:=2) (g:=0) (by decide) h0 h1
 have hS:=fun {σ:Za} hs=>Zfh (fz:=true) (g:=0) (r:=2) hY hp (σ:=σ) hs (a:=k) hk
 rw [hf] at hC
 simp only [Zab,hdT,hdZ,if_true] at hC hS
 have hk1:(((k:Nat):Int) == 0)=false:=by simp;omega
 have b1:1*32<=140737488355328:=by decide
 have hb0:Zb x=.int .u8 (x.toNat:Int):=rfl
 unfold frV
 rw [hb0] at hC ⊢
 generalize b.map Zb=bb at *
 unfold ZaW
 rw [ZL]
 simp -implicitDefEqProofs only [EQA,ZN,Xe,Xc,Xf,Xa,Xg,reduceCtorEq,ZM,↓reduceIte,gcT,gcA,Zy,Zt,Zi,Zq,ZO,Zl,ZF,Zz,ZC,Wo,Zc1,ZcL,hC,hS,hk1,hFS,hc,AVal.cells,ZS,Z3,kOk,viewAs,ZU,ZP,ZaL,Zp,bne_self_eq_false]
theorem ZMG (most:Int) (p:Nat) (h:Zc) (Y:List AVal) (hY:Y.drop p=h.map Zb) (hp:p<=Y.length) (hl:h.length<=70368744177664) {x:UInt8} {b:Zc} {k:Nat} (hf:hdF most h=.one x b k) (hk:k<=h.length) (hk0:0 < k) :
  ZaW 2 [(6,.lst true []),(0,.ref 0 0)] [.var [.int .i64 most,.sl 1 1 (p) (h.length),.int .i64 0],.row 1 1 Y]=ZaW 2 [(6,.sl 2 0 0 (1)),(0,.ref 0 0)] [.var [.int .i64 most,.sl 1 1 (p+k) (h.length - k),.int .i64 0],.frow 1 1 Y,.row 0 2 ([frV x b])]:=by
 have hC:=fun {σ:Za} {sq:Nat} h0 h1=>Zc6 most false p h Y hY hp hl (σ:=σ) (sq:=sq) (r:=1) (g:=1) (by decide) h0 h1
 have hS:=fun {σ:Za} hs=>Zfh (fz:=true) (g:=1) (r:=1) hY hp (σ:=σ) hs (a:=k) hk
 rw [hf] at hC
 simp only [Zab,hdT,hdZ,Xi,if_false,if_true] at hC hS
 have hk1:(((k:Nat):Int) == 0)=false:=by simp;omega
 have b1:1*32<=140737488355328:=by decide
 have hb0:Zb x=.int .u8 (x.toNat:Int):=rfl
 unfold frV
 rw [hb0] at hC ⊢
 generalize b.map Zb=bb at *
 unfold ZaW
 rw [ZL]
 simp -implicitDefEqProofs only [EQA,ZN,Xe,Xc,Xf,Xa,Xg,reduceCtorEq,ZM,↓reduceIte,gcT,gcA,Zy,Zt,Zi,Zq,ZO,Zl,ZF,Zz,ZC,Wo,Zc1,ZcL,hC,hS,hk1,b1,AVal.cells,ZS,Z3,kOk,viewAs,ZU,ZP,ZaL,Zp,WI,bne_self_eq_false]
theorem ZQB (most:Int) (p:Nat) (h:Zc) (Y:List AVal) (hY:Y.drop p=h.map Zb) (hp:p<=Y.length) (hl:h.length<=70368744177664) (FS:List AVal) (c:Nat) (hFS:FS.length=c) (hc:(c+1)*32<=140737488355328) {x:UInt8} {b:Zc} {k:Nat} (hf:hdF most h=.one x b k) (hk:k<=h.length) (hk0:0 < k) :
  ZaW 2 [(6,.sl 2 0 0 (c)),(0,.ref 0 0)] [.var [.int .i64 most,.sl 1 1 (p) (h.length),.int .i64 0],.frow 1 1 Y,.row 0 2 (FS)]=ZaW 2 [(6,.sl 2 0 0 (c+1)),(0,.ref 0 0)] [.var [.int .i64 most,.sl 1 1 (p+k) (h.length - k),.int .i64 0],.frow 1 1 Y,.row 0 2 (FS++[frV x b])]:=by
 have hC:=fun {σ:Za} {sq:Nat} h0 h1=>Zc6 most true p h Y hY hp hl (σ:=σ) (sq:=sq) (r:=1) (g:=1) (by decide) h0 h1
 have hS:=fun {σ:Za} hs=>Zfh (fz:=true) (g:=1) (r:=1) hY hp (σ:=σ) hs (a:=k) hk
 rw [hf] at hC
 simp only [Zab,hdT,hdZ,if_true] at hC hS
 have hk1:(((k:Nat):Int) == 0)=false:=by simp;omega
 have b1:1*32<=140737488355328:=by decide
 have hb0:Zb x=.int .u8 (x.toNat:Int):=rfl
 unfold frV
 rw [hb0] at hC ⊢
 generalize b.map Zb=bb at *
 unfold ZaW
 rw [ZL]
 simp -implicitDefEqProofs only [EQA,ZN,Xe,Xc,Xf,Xa,Xg,reduceCtorEq,ZM,↓reduceIte,gcT,gcA,Zy,Zt,Zi,Zq,ZO,Zl,ZF,Zz,ZC,Wo,Zc1,ZcL,hC,hS,hk1,hFS,hc,AVal.cells,ZS,Z3,kOk,viewAs,ZU,ZP,ZaL,Zp,bne_self_eq_false]
end
section
theorem Zjz (σ:Za) (sq:Nat) (a:Zc) (hn:a.length<=140737488355328) (hs:freeAt σ sq=true):Zk E BY σ sq 15 1 false [.lst true [.lst false (a.map Zb)]]=some (.sl sq 0 0 a.length,σ.set sq (.row 0 1 (a.map Zb)),{}):=by
 have h:=ZvM a [] (by simp) (by simpa using hn)
 have e:[a].flatten=a:=by simp
 rw [e] at h
 rw [Zfj (by kernel_rfl) rfl,show [AVal.lst true [.lst false (a.map Zb)]].map ZK=[.lst false ([a].map ZW)] from rfl,h]
 have hx:(a.map Zb).all Zbz=true:=by
  rw [List.all_map,XB]
  intro x _
  rfl
 simp [Z2,ZaH,Zkb,hx]
theorem ZIW (most:Int) (p:Nat) (h:Zc) (Y:List AVal) (hY:Y.drop p=h.map Zb) (hp:p<=Y.length) (hl:h.length<=70368744177664) {e:Int} (hf:hdF most h=.stop e) (he:e≠0) :
  ZaW 1 [(6,.lst true []),(0,.ref 0 0)] [.var [.int .i64 most,.sl 1 0 (p) (h.length),.int .i64 0],.row 0 1 Y]=some (.tup [.lst true [],.int .i64 e],[.var [.int .i64 most,.lst true [],.int .i64 e]]):=by
 have hC:=fun {σ:Za} {sq:Nat} h0 h1=>Zc6 most false p h Y hY hp hl (σ:=σ) (sq:=sq) (r:=1) (g:=0) (by decide) h0 h1
 rw [hf] at hC
 simp only [Zab,hdT,hdZ,Xi,if_false] at hC
 have he1:(e != 0)=true:=by simpa using he
 unfold ZaW
 rw [ZL]
 simp -implicitDefEqProofs only [EQA,Zx,ZN,Xe,Xc,Xf,Xa,Xg,reduceCtorEq,↓reduceIte,Zd,Zep,Zc1,ZcL,hC,he1,AVal.cells,ZS]
 all_goals rfl
theorem ZJ2 (most:Int) (p:Nat) (h:Zc) (Y:List AVal) (hY:Y.drop p=h.map Zb) (hp:p<=Y.length) (hl:h.length<=70368744177664) (hf:hdF most h=.stop 0) :
  ZaW 1 [(6,.lst true []),(0,.ref 0 0)] [.var [.int .i64 most,.sl 1 0 (p) (h.length),.int .i64 0],.row 0 1 Y]=some (.tup [.lst true [],.int .i64 0],[.var [.int .i64 most,.sl 1 0 0 h.length,.int .i64 0],.row 0 1 (h.map Zb)]):=by
 have hC:=fun {σ:Za} {sq:Nat} h0 h1=>Zc6 most false p h Y hY hp hl (σ:=σ) (sq:=sq) (r:=1) (g:=0) (by decide) h0 h1
 rw [hf] at hC
 simp only [Zab,hdT,hdZ,Xi,if_false] at hC
 have hE:∀ {σ:Za},σ[1]?=some (Zab false 0 Y)->viewAs σ [.sl 1 0 p h.length]=some ([.lst false (h.map Zb)],[1]):=by
  intro σ hs
  have:=Zgq (fz:=false) (g:=0) (r:=1) hY hp (σ:=σ) hs (a:=0) (b:=h.length) (by omega)
  rw [XT,WD,Wl] at this
  simp only [viewAs,ZU,ZP,this,Xm]
 have hJ:=fun {σ:Za} {sq:Nat} hs=>Zjz σ sq h (by omega) hs
 simp only [Zab,Xi,if_false] at hE
 generalize h.map Zb=hm at *
 unfold ZaW
 rw [ZL]
 simp -implicitDefEqProofs only [EQA,Zx,Xe,Xc,Xf,Xa,Xg,reduceCtorEq,↓reduceIte,Zd,Zep,Zc1,ZcL,hC,hE,hJ,Zp,AVal.cells,ZS,bne_self_eq_false]
 all_goals rfl
theorem ZFB (most:Int) (p:Nat) (h:Zc) (Y:List AVal) (hY:Y.drop p=h.map Zb) (hp:p<=Y.length) (hl:h.length<=70368744177664) (FS:List AVal) (c:Nat) (hFS:FS.length=c) {e:Int} (hf:hdF most h=.stop e) (he:e≠0) :
  ZaW 1 [(6,.sl 1 0 0 (c)),(0,.ref 0 0)] [.var [.int .i64 most,.sl 2 0 (p) (h.length),.int .i64 0],.row 0 2 (FS),.row 0 1 Y]=some (.tup [.sl 1 0 0 (c),.int .i64 e],[.var [.int .i64 most,.lst true [],.int .i64 e],.row 0 2 FS]):=by
 have hC:=fun {σ:Za} {sq:Nat} h0 h1=>Zc6 most false p h Y hY hp hl (σ:=σ) (sq:=sq) (r:=2) (g:=0) (by decide) h0 h1
 rw [hf] at hC
 simp only [Zab,hdT,hdZ,Xi,if_false] at hC
 have he1:(e != 0)=true:=by simpa using he
 unfold ZaW
 rw [ZL]
 simp -implicitDefEqProofs only [EQA,Xe,Xc,Xf,Xa,Xg,reduceCtorEq,↓reduceIte,Zep,Zc1,ZcL,hC,he1,AVal.cells,ZS]
 all_goals rfl
theorem ZJ1 (most:Int) (p:Nat) (h:Zc) (Y:List AVal) (hY:Y.drop p=h.map Zb) (hp:p<=Y.length) (hl:h.length<=70368744177664) (FS:List AVal) (c:Nat) (hFS:FS.length=c) (hf:hdF most h=.stop 0) :
  ZaW 1 [(6,.sl 1 0 0 (c)),(0,.ref 0 0)] [.var [.int .i64 most,.sl 2 0 (p) (h.length),.int .i64 0],.row 0 2 (FS),.row 0 1 Y]=some (.tup [.sl 1 0 0 (c),.int .i64 0],[.var [.int .i64 most,.sl 2 0 0 h.length,.int .i64 0],.row 0 2 FS,.row 0 1 (h.map Zb)]):=by
 have hC:=fun {σ:Za} {sq:Nat} h0 h1=>Zc6 most false p h Y hY hp hl (σ:=σ) (sq:=sq) (r:=2) (g:=0) (by decide) h0 h1
 rw [hf] at hC
 simp only [Zab,hdT,hdZ,Xi,if_false] at hC
 have hE:∀ {σ:Za},σ[2]?=some (Zab false 0 Y)->viewAs σ [.sl 2 0 p h.length]=some ([.lst false (h.map Zb)],[2]):=by
  intro σ hs
  have:=Zgq (fz:=false) (g:=0) (r:=2) hY hp (σ:=σ) hs (a:=0) (b:=h.length) (by omega)
  rw [XT,WD,Wl] at this
  simp only [viewAs,ZU,ZP,this,Xm]
 have hJ:=fun {σ:Za} {sq:Nat} hs=>Zjz σ sq h (by omega) hs
 simp only [Zab,Xi,if_false] at hE
 generalize h.map Zb=hm at *
 unfold ZaW
 rw [ZL]
 simp -implicitDefEqProofs only [EQA,Xe,Xc,Xf,Xa,Xg,reduceCtorEq,↓reduceIte,Zep,Zc1,ZcL,hC,hE,hJ,Zp,AVal.cells,ZS,bne_self_eq_false]
 all_goals rfl
theorem ZNm (most:Int) (p:Nat) (h:Zc) (Y:List AVal) (hY:Y.drop p=h.map Zb) (hp:p<=Y.length) (hl:h.length<=70368744177664) (FS:List AVal) (c:Nat) (hFS:FS.length=c) {e:Int} (hf:hdF most h=.stop e) (he:e≠0) :
  ZaW 1 [(6,.sl 1 0 0 (c)),(0,.ref 0 0)] [.var [.int .i64 most,.sl 2 0 (p) (h.length),.int .i64 0],.row 0 2 (FS),.frow 0 1 Y]=some (.tup [.sl 1 0 0 (c),.int .i64 e],[.var [.int .i64 most,.lst true [],.int .i64 e],.row 0 2 FS]):=by
 have hC:=fun {σ:Za} {sq:Nat} h0 h1=>Zc6 most true p h Y hY hp hl (σ:=σ) (sq:=sq) (r:=2) (g:=0) (by decide) h0 h1
 rw [hf] at hC
 simp only [Zab,hdT,hdZ,if_true] at hC
 have he1:(e != 0)=true:=by simpa using he
 unfold ZaW
 rw [ZL]
 simp -implicitDefEqProofs only [EQA,Xe,Xc,Xf,Xa,Xg,reduceCtorEq,↓reduceIte,Zep,Zc1,ZcL,hC,he1,AVal.cells,ZS]
 all_goals rfl
theorem Zym (most:Int) (p:Nat) (h:Zc) (Y:List AVal) (hY:Y.drop p=h.map Zb) (hp:p<=Y.length) (hl:h.length<=70368744177664) (FS:List AVal) (c:Nat) (hFS:FS.length=c) (hf:hdF most h=.stop 0) :
  ZaW 1 [(6,.sl 1 0 0 (c)),(0,.ref 0 0)] [.var [.int .i64 most,.sl 2 0 (p) (h.length),.int .i64 0],.row 0 2 (FS),.frow 0 1 Y]=some (.tup [.sl 1 0 0 (c),.int .i64 0],[.var [.int .i64 most,.sl 2 0 0 h.length,.int .i64 0],.row 0 2 FS,.row 0 1 (h.map Zb)]):=by
 have hC:=fun {σ:Za} {sq:Nat} h0 h1=>Zc6 most true p h Y hY hp hl (σ:=σ) (sq:=sq) (r:=2) (g:=0) (by decide) h0 h1
 rw [hf] at hC
 simp only [Zab,hdT,hdZ,if_true] at hC
 have hE:∀ {σ:Za},σ[2]?=some (Zab true 0 Y)->viewAs σ [.sl 2 0 p h.length]=some ([.lst false (h.map Zb)],[2]):=by
  intro σ hs
  have:=Zgq (fz:=true) (g:=0) (r:=2) hY hp (σ:=σ) hs (a:=0) (b:=h.length) (by omega)
  rw [XT,WD,Wl] at this
  simp only [viewAs,ZU,ZP,this,Xm]
 have hJ:=fun {σ:Za} {sq:Nat} hs=>Zjz σ sq h (by omega) hs
 simp only [Zab,if_true] at hE
 generalize h.map Zb=hm at *
 unfold ZaW
 rw [ZL]
 simp -implicitDefEqProofs only [EQA,Xe,Xc,Xf,Xa,Xg,reduceCtorEq,↓reduceIte,Zep,Zc1,ZcL,hC,hE,hJ,Zp,AVal.cells,ZS,bne_self_eq_false]
 all_goals rfl
theorem ZxQ (most:Int) (p:Nat) (h:Zc) (Y:List AVal) (hY:Y.drop p=h.map Zb) (hp:p<=Y.length) (hl:h.length<=70368744177664) {e:Int} (hf:hdF most h=.stop e) (he:e≠0) :
  ZaW 2 [(6,.lst true []),(0,.ref 0 0)] [.var [.int .i64 most,.sl 1 1 (p) (h.length),.int .i64 0],.row 1 1 Y]=some (.tup [.lst true [],.int .i64 e],[.var [.int .i64 most,.lst true [],.int .i64 e],.row 1 1 Y]):=by
 have hC:=fun {σ:Za} {sq:Nat} h0 h1=>Zc6 most false p h Y hY hp hl (σ:=σ) (sq:=sq) (r:=1) (g:=1) (by decide) h0 h1
 rw [hf] at hC
 simp only [Zab,hdT,hdZ,Xi,if_false] at hC
 have he1:(e != 0)=true:=by simpa using he
 unfold ZaW
 rw [ZL]
 simp -implicitDefEqProofs only [EQA,Xe,Xc,Xf,Xa,Xg,reduceCtorEq,↓reduceIte,Zep,Zc1,ZcL,hC,he1,AVal.cells,ZS]
 all_goals rfl
theorem ZzY (most:Int) (p:Nat) (h:Zc) (Y:List AVal) (hY:Y.drop p=h.map Zb) (hp:p<=Y.length) (hl:h.length<=70368744177664) (hf:hdF most h=.stop 0) :
  ZaW 2 [(6,.lst true []),(0,.ref 0 0)] [.var [.int .i64 most,.sl 1 1 (p) (h.length),.int .i64 0],.row 1 1 Y]=some (.tup [.lst true [],.int .i64 0],[.var [.int .i64 most,.sl 2 0 0 h.length,.int .i64 0],.frow 1 1 Y,.row 0 1 (h.map Zb)]):=by
 have hC:=fun {σ:Za} {sq:Nat} h0 h1=>Zc6 most false p h Y hY hp hl (σ:=σ) (sq:=sq) (r:=1) (g:=1) (by decide) h0 h1
 rw [hf] at hC
 simp only [Zab,hdT,hdZ,Xi,if_false] at hC
 have hE:∀ {σ:Za},σ[1]?=some (Zab false 1 Y)->viewAs σ [.sl 1 1 p h.length]=some ([.lst false (h.map Zb)],[1]):=by
  intro σ hs
  have:=Zgq (fz:=false) (g:=1) (r:=1) hY hp (σ:=σ) hs (a:=0) (b:=h.length) (by omega)
  rw [XT,WD,Wl] at this
  simp only [viewAs,ZU,ZP,this,Xm]
 have hJ:=fun {σ:Za} {sq:Nat} hs=>Zjz σ sq h (by omega) hs
 simp only [Zab,Xi,if_false] at hE
 generalize h.map Zb=hm at *
 unfold ZaW
 rw [ZL]
 simp -implicitDefEqProofs only [EQA,Xe,Xc,Xf,Xa,Xg,reduceCtorEq,↓reduceIte,Zep,Zc1,ZcL,hC,hE,hJ,Zp,AVal.cells,ZS,bne_self_eq_false]
 all_goals rfl
theorem ZEt (most:Int) (p:Nat) (h:Zc) (Y:List AVal) (hY:Y.drop p=h.map Zb) (hp:p<=Y.length) (hl:h.length<=70368744177664) (FS:List AVal) (c:Nat) (hFS:FS.length=c) {e:Int} (hf:hdF most h=.stop e) (he:e≠0) :
  ZaW 2 [(6,.sl 2 0 0 (c)),(0,.ref 0 0)] [.var [.int .i64 most,.sl 1 1 (p) (h.length),.int .i64 0],.frow 1 1 Y,.row 0 2 (FS)]=some (.tup [.sl 2 0 0 (c),.int .i64 e],[.var [.int .i64 most,.lst true [],.int .i64 e],.frow 1 1 Y,.row 0 2 FS]):=by
 have hC:=fun {σ:Za} {sq:Nat} h0 h1=>Zc6 most true p h Y hY hp hl (σ:=σ) (sq:=sq) (r:=1) (g:=1) (by decide) h0 h1
 rw [hf] at hC
 simp only [Zab,hdT,hdZ,if_true] at hC
 have he1:(e != 0)=true:=by simpa using he
 unfold ZaW
 rw [ZL]
 simp -implicitDefEqProofs only [EQA,Xe,Xc,Xf,Xa,Xg,reduceCtorEq,↓reduceIte,Zep,Zc1,ZcL,hC,he1,AVal.cells,ZS]
 all_goals rfl
theorem ZPL (most:Int) (p:Nat) (h:Zc) (Y:List AVal) (hY:Y.drop p=h.map Zb) (hp:p<=Y.length) (hl:h.length<=70368744177664) (FS:List AVal) (c:Nat) (hFS:FS.length=c) (hf:hdF most h=.stop 0) :
  ZaW 2 [(6,.sl 2 0 0 (c)),(0,.ref 0 0)] [.var [.int .i64 most,.sl 1 1 (p) (h.length),.int .i64 0],.frow 1 1 Y,.row 0 2 (FS)]=some (.tup [.sl 2 0 0 (c),.int .i64 0],[.var [.int .i64 most,.sl 3 0 0 h.length,.int .i64 0],.frow 1 1 Y,.row 0 2 FS,.row 0 1 (h.map Zb)]):=by
 have hC:=fun {σ:Za} {sq:Nat} h0 h1=>Zc6 most true p h Y hY hp hl (σ:=σ) (sq:=sq) (r:=1) (g:=1) (by decide) h0 h1
 rw [hf] at hC
 simp only [Zab,hdT,hdZ,if_true] at hC
 have hE:∀ {σ:Za},σ[1]?=some (Zab true 1 Y)->viewAs σ [.sl 1 1 p h.length]=some ([.lst false (h.map Zb)],[1]):=by
  intro σ hs
  have:=Zgq (fz:=true) (g:=1) (r:=1) hY hp (σ:=σ) hs (a:=0) (b:=h.length) (by omega)
  rw [XT,WD,Wl] at this
  simp only [viewAs,ZU,ZP,this,Xm]
 have hJ:=fun {σ:Za} {sq:Nat} hs=>Zjz σ sq h (by omega) hs
 simp only [Zab,if_true] at hE
 generalize h.map Zb=hm at *
 unfold ZaW
 rw [ZL]
 simp -implicitDefEqProofs only [EQA,Xe,Xc,Xf,Xa,Xg,reduceCtorEq,↓reduceIte,Zep,Zc1,ZcL,hC,hE,hJ,Zp,AVal.cells,ZS,bne_self_eq_false]
 all_goals rfl
end
section
def Zbx (most:Int):Nat->Zc->List (UInt8×Zc)×Zc×Int
 | 0,h=>([],h,0)
 | n+1,h=>match hdF most h with
  | .stop e=>if e=0 then ([],h,0) else ([],[],e)
  | .one x b k=>((x,b)::(Zbx most n (h.drop k)).1,(Zbx most n (h.drop k)).2.1,(Zbx most n (h.drop k)).2.2)
theorem Zfu {most:Int} {h:Zc} {x:UInt8} {b:Zc} {k:Nat} (hf:hdF most h=.one x b k):k<=h.length/\0 < k:=by
 unfold hdF at hf
 repeat' split at hf
 all_goals first
  | (cases hf;done)
  | (injection hf with h1 h2 h3;subst h3;omega)
def frP (q:UInt8×Zc):AVal:=frV q.1 q.2
def ZmN (most:Int) (FS:List AVal) (q:Zc×Int):AVal×Za :=
 if q.2=0 then (.tup [.sl 1 0 0 FS.length,.int .i64 0],[.var [.int .i64 most,.sl 2 0 0 q.1.length,.int .i64 0],.row 0 2 FS,.row 0 1 (q.1.map Zb)])
 else (.tup [.sl 1 0 0 FS.length,.int .i64 q.2],[.var [.int .i64 most,.lst true [],.int .i64 q.2],.row 0 2 FS])
theorem Zf8 {Y:List AVal} {p:Nat} {h:Zc} (hY:Y.drop p=h.map Zb) (hp:p<=Y.length) {k:Nat} (hk:k<=h.length):Y.drop (p+k)=(h.drop k).map Zb/\p+k<=Y.length:=by
 have:=Zgc hY hp
 refine ⟨?_,by omega⟩
 rw [<-Xai,hY,XaO]
theorem Zwx (most:Int):∀ (n:Nat) (fz:Bool) (p:Nat) (h:Zc) (Y FS:List AVal),h.length < n->Y.drop p=h.map Zb->p<=Y.length->h.length<=70368744177664->(FS.length+h.length)*32<=140737488355328 ->
  ZaW 1 [(6,.sl 1 0 0 FS.length),(0,.ref 0 0)] [.var [.int .i64 most,.sl 2 0 p h.length,.int .i64 0],.row 0 2 FS,Zab fz 0 Y]=some (ZmN most (FS++(Zbx most n h).1.map frP) (Zbx most n h).2)
 | 0,fz,p,h,Y,FS,hn,hY,hp,hl,hc=>by omega
 | n+1,fz,p,h,Y,FS,hn,hY,hp,hl,hc=>by
  unfold Zbx
  cases hf:hdF most h with
  | stop e =>
   simp only
   by_cases he:e=0
   ·subst he
    rw [if_pos rfl]
    unfold ZmN
    simp only [XA,Xm,if_true]
    cases fz
    ·exact ZJ1 most p h Y hY hp hl FS FS.length rfl hf
    ·exact Zym most p h Y hY hp hl FS FS.length rfl hf
   ·rw [if_neg he]
    unfold ZmN
    simp only [XA,Xm,if_neg he]
    cases fz
    ·exact ZFB most p h Y hY hp hl FS FS.length rfl hf he
    ·exact ZNm most p h Y hY hp hl FS FS.length rfl hf he
  | one x b k =>
   simp only
   obtain ⟨hk,hk0⟩:=Zfu hf
   obtain ⟨hY',hp'⟩:=Zf8 hY hp hk
   have hdl:(h.drop k).length=h.length - k:=by simp
   have ih:=Zwx most n true (p+k) (h.drop k) Y (FS++[frV x b]) (by omega) hY' hp' (by omega) (by simp;omega)
   rw [hdl,Xk,W7] at ih
   have e1:FS++[frV x b]++(Zbx most n (h.drop k)).1.map frP=FS++((x,b)::(Zbx most n (h.drop k)).1).map frP:=by simp [frP]
   rw [e1] at ih
   rw [<-ih]
   cases fz
   ·exact ZyE most p h Y hY hp hl FS FS.length rfl (by omega) hf hk hk0
   ·exact ZDg most p h Y hY hp hl FS FS.length rfl (by omega) hf hk hk0
def ZkH (most:Int) (Z:ZR) (FS:List AVal) (q:Zc×Int):AVal×Za :=
 if q.2=0 then (.tup [.sl 2 0 0 FS.length,.int .i64 0],[.var [.int .i64 most,.sl 3 0 0 q.1.length,.int .i64 0],Z,.row 0 2 FS,.row 0 1 (q.1.map Zb)])
 else (.tup [.sl 2 0 0 FS.length,.int .i64 q.2],[.var [.int .i64 most,.lst true [],.int .i64 q.2],Z,.row 0 2 FS])
theorem ZtO (most:Int):∀ (n:Nat) (p:Nat) (h:Zc) (Y FS:List AVal),h.length < n->Y.drop p=h.map Zb->p<=Y.length->h.length<=70368744177664->(FS.length+h.length)*32<=140737488355328 ->
  ZaW 2 [(6,.sl 2 0 0 FS.length),(0,.ref 0 0)] [.var [.int .i64 most,.sl 1 1 p h.length,.int .i64 0],.frow 1 1 Y,.row 0 2 FS]=some (ZkH most (.frow 1 1 Y) (FS++(Zbx most n h).1.map frP) (Zbx most n h).2)
 | 0,p,h,Y,FS,hn,hY,hp,hl,hc=>by omega
 | n+1,p,h,Y,FS,hn,hY,hp,hl,hc=>by
  unfold Zbx
  cases hf:hdF most h with
  | stop e =>
   simp only
   by_cases he:e=0
   ·subst he
    rw [if_pos rfl]
    unfold ZkH
    simp only [XA,Xm,if_true]
    exact ZPL most p h Y hY hp hl FS FS.length rfl hf
   ·rw [if_neg he]
    unfold ZkH
    simp only [XA,Xm,if_neg he]
    exact ZEt most p h Y hY hp hl FS FS.length rfl hf he
  | one x b k =>
   simp only
   obtain ⟨hk,hk0⟩:=Zfu hf
   obtain ⟨hY',hp'⟩:=Zf8 hY hp hk
   have hdl:(h.drop k).length=h.length - k:=by simp
   have ih:=ZtO most n (p+k) (h.drop k) Y (FS++[frV x b]) (by omega) hY' hp' (by omega) (by simp;omega)
   rw [hdl,Xk,W7] at ih
   have e1:FS++[frV x b]++(Zbx most n (h.drop k)).1.map frP=FS++((x,b)::(Zbx most n (h.drop k)).1).map frP:=by simp [frP]
   rw [e1] at ih
   rw [<-ih]
   exact ZQB most p h Y hY hp hl FS FS.length rfl (by omega) hf hk hk0
def Zc3 (l:List (UInt8×Zc)) (e:Int):AVal:=.tup [.lst false (l.map frP),.int .i64 e]
def ZhW (most:Int) (q:Zc×Int):Za:=if q.2=0 then [.var [.int .i64 most,.sl 1 0 0 q.1.length,.int .i64 0],.row 0 1 (q.1.map Zb)] else [.var [.int .i64 most,.lst true [],.int .i64 q.2]]
def Zv (most:Int) (h:Zc):List (UInt8×Zc)×Zc×Int:=Zbx most (h.length+1) h
theorem ZjN (σ:Za) (t k:Nat) (FS:List AVal) (hs:σ[t]?=some (.row 0 k FS)):ZM σ (.sl t 0 0 FS.length)=some (FS,[t]):=by
 simp [ZM,hs]
theorem Zz5 (most:Int) (n:Nat) (FS hm:List AVal):Z2 true 1 (some (.tup [.sl 1 0 0 FS.length,.int .i64 0],[.var [.int .i64 most,.sl 2 0 0 n,.int .i64 0],.row 0 2 FS,.row 0 1 hm]))=some (.tup [.lst false FS,.int .i64 0],[.var [.int .i64 most,.sl 1 0 0 n,.int .i64 0],.row 0 1 hm]):=by
 have he:=ZjN [.var [.int .i64 most,.sl 2 0 0 n,.int .i64 0],.row 0 2 FS,.row 0 1 hm] 1 2 FS rfl
 unfold Z2
 rw [if_pos rfl]
 simp only [Zbw,viewR,viewAs,ZU,ZP,he,Xm]
 rfl
theorem Zzi (most e:Int) (FS:List AVal):Z2 true 1 (some (.tup [.sl 1 0 0 FS.length,.int .i64 e],[.var [.int .i64 most,.lst true [],.int .i64 e],.row 0 2 FS]))=some (.tup [.lst false FS,.int .i64 e],[.var [.int .i64 most,.lst true [],.int .i64 e]]):=by
 have he:=ZjN [.var [.int .i64 most,.lst true [],.int .i64 e],.row 0 2 FS] 1 2 FS rfl
 unfold Z2
 rw [if_pos rfl]
 simp only [Zbw,viewR,viewAs,ZU,ZP,he,Xm]
 rfl
theorem ZQI (most:Int) (h:Zc) (hl:h.length<=4398046511103):Z2 true 1 (ZaW 1 [(6,.lst true []),(0,.ref 0 0)] [.var [.int .i64 most,.sl 1 0 0 h.length,.int .i64 0],.row 0 1 (h.map Zb)])=some (Zc3 (Zv most h).1 (Zv most h).2.2,ZhW most (Zv most h).2):=by
 have hY:(h.map Zb).drop 0=h.map Zb:=rfl
 unfold Zv Zbx
 cases hf:hdF most h with
 | stop e =>
  simp only
  by_cases he:e=0
  ·subst he
   rw [if_pos rfl,ZJ2 most 0 h _ hY (by simp) (by omega) hf]
   rfl
  ·rw [if_neg he,ZIW most 0 h _ hY (by simp) (by omega) hf he]
   unfold ZhW
   simp only [if_neg he]
   rfl
 | one x b k =>
  simp only
  obtain ⟨hk,hk0⟩:=Zfu hf
  obtain ⟨hY',hp'⟩:=Zf8 hY (by simp) hk
  have hdl:(h.drop k).length=h.length - k:=by simp
  have key:=Zwx most h.length true (0+k) (h.drop k) (h.map Zb) [frV x b] (by omega) hY' hp' (by omega) (by simp;omega)
  rw [ZGK most 0 h _ hY (by simp) (by omega) hf hk hk0]
  rw [hdl] at key
  rw [show Zab true 0 (h.map Zb)=.frow 0 1 (h.map Zb) from rfl,show [frV x b].length=1 from rfl] at key
  rw [key]
  generalize Zbx most h.length (h.drop k)=R
  obtain ⟨l,rest,e⟩:=R
  unfold ZmN ZhW Zc3
  simp only
  by_cases he:e=0
  ·subst he
   simp only [if_true]
   rw [Zz5]
   rfl
  ·simp only [if_neg he]
   rw [Zzi]
   rfl
def ZhD (most:Int) (Z:ZR) (q:Zc×Int):Za:=if q.2=0 then [.var [.int .i64 most,.sl 2 0 0 q.1.length,.int .i64 0],Z,.row 0 1 (q.1.map Zb)] else [.var [.int .i64 most,.lst true [],.int .i64 q.2],Z]
theorem Zzj (most:Int) (n:Nat) (FS hm Y:List AVal):Z2 true 2 (some (.tup [.sl 2 0 0 FS.length,.int .i64 0],[.var [.int .i64 most,.sl 3 0 0 n,.int .i64 0],.frow 1 1 Y,.row 0 2 FS,.row 0 1 hm]))=some (.tup [.lst false FS,.int .i64 0],[.var [.int .i64 most,.sl 2 0 0 n,.int .i64 0],.frow 1 1 Y,.row 0 1 hm]):=by
 have he:=ZjN [.var [.int .i64 most,.sl 3 0 0 n,.int .i64 0],.frow 1 1 Y,.row 0 2 FS,.row 0 1 hm] 2 2 FS rfl
 unfold Z2
 rw [if_pos rfl]
 simp only [Zbw,viewR,viewAs,ZU,ZP,he,Xm]
 rfl
theorem ZBj (most e:Int) (FS Y:List AVal):Z2 true 2 (some (.tup [.sl 2 0 0 FS.length,.int .i64 e],[.var [.int .i64 most,.lst true [],.int .i64 e],.frow 1 1 Y,.row 0 2 FS]))=some (.tup [.lst false FS,.int .i64 e],[.var [.int .i64 most,.lst true [],.int .i64 e],.frow 1 1 Y]):=by
 have he:=ZjN [.var [.int .i64 most,.lst true [],.int .i64 e],.frow 1 1 Y,.row 0 2 FS] 2 2 FS rfl
 unfold Z2
 rw [if_pos rfl]
 simp only [Zbw,viewR,viewAs,ZU,ZP,he,Xm]
 rfl
theorem ZEX (most:Int) (h:Zc) (hl:h.length<=4398046511103):∃ fz,Z2 true 2 (ZaW 2 [(6,.lst true []),(0,.ref 0 0)] [.var [.int .i64 most,.sl 1 1 0 h.length,.int .i64 0],.row 1 1 (h.map Zb)])=some (Zc3 (Zv most h).1 (Zv most h).2.2,ZhD most (Zab fz 1 (h.map Zb)) (Zv most h).2):=by
 have hY:(h.map Zb).drop 0=h.map Zb:=rfl
 unfold Zv Zbx
 cases hf:hdF most h with
 | stop e =>
  simp only
  by_cases he:e=0
  ·subst he
   refine ⟨true,?_⟩
   rw [if_pos rfl,ZzY most 0 h _ hY (by simp) (by omega) hf]
   rfl
  ·refine ⟨false,?_⟩
   rw [if_neg he,ZxQ most 0 h _ hY (by simp) (by omega) hf he]
   unfold ZhD
   simp only [if_neg he]
   rfl
 | one x b k =>
  refine ⟨true,?_⟩
  simp only
  obtain ⟨hk,hk0⟩:=Zfu hf
  obtain ⟨hY',hp'⟩:=Zf8 hY (by simp) hk
  have hdl:(h.drop k).length=h.length - k:=by simp
  have key:=ZtO most h.length (0+k) (h.drop k) (h.map Zb) [frV x b] (by omega) hY' hp' (by omega) (by simp;omega)
  rw [ZMG most 0 h _ hY (by simp) (by omega) hf hk hk0]
  rw [hdl] at key
  rw [show [frV x b].length=1 from rfl] at key
  rw [key]
  generalize Zbx most h.length (h.drop k)=R
  obtain ⟨l,rest,e⟩:=R
  unfold ZkH ZhD Zc3
  simp only
  by_cases he:e=0
  ·subst he
   simp only [if_true]
   rw [Zzj]
   rfl
  ·simp only [if_neg he]
   rw [ZBj]
   rfl
end
section
theorem ZEh (most c:Int):E 29 [.ref 0 0] [.var [.int .i64 most,.lst true [],.int .i64 c]]=some (.bool (c != 0),[.var [.int .i64 most,.lst true [],.int .i64 c]]):=by
 rw [Zj (by rfl) Ztr]
 simp -implicitDefEqProofs only [EQA,Zx,ZN,Xc,Xa,reduceCtorEq,↓reduceIte,Zd,ZvF,ZkG,ZuD]
 all_goals rfl
theorem ZCv (most:Int) (n:Nat) (Y:List AVal):E 29 [.ref 0 0] [.var [.int .i64 most,.sl 1 0 0 n,.int .i64 0],.row 0 1 Y]=some (.bool false,[.var [.int .i64 most,.sl 1 0 0 n,.int .i64 0],.row 0 1 Y]):=by
 rw [Zj (by rfl) Ztr]
 simp -implicitDefEqProofs only [EQA,Xe,Xc,Xa,reduceCtorEq,↓reduceIte,ZvF,ZkG,ZuD,bne_self_eq_false]
 all_goals rfl
theorem ZsZ (most c:Int) (sq:Nat):Zk E BY [.var [.int .i64 most,.lst true [],.int .i64 c]] sq 29 0 true [.ref 0 0]=some (.bool (c != 0),[.var [.int .i64 most,.lst true [],.int .i64 c]],{ any:=true,upd:=[(0,[.int .i64 most,.lst true [],.int .i64 c])] }) :=
 ZlI (O:=E) (vs:=[.ref 0 0]) (vs':=[.ref 0 0]) (ids:=[0]) (h0:=[.var [.int .i64 most,.lst true [],.int .i64 c]]) (h:=[.var [.int .i64 most,.lst true [],.int .i64 c]]) (r:=.bool (c != 0)) (by kernel_rfl) rfl rfl rfl rfl rfl rfl (ZEh most c) rfl (Xx _) (Xx _) rfl rfl rfl rfl rfl
theorem ZJv (most:Int) (n:Nat) (Y:List AVal) (sq:Nat):Zk E BY [.var [.int .i64 most,.sl 1 0 0 n,.int .i64 0],.row 0 1 Y] sq 29 0 true [.ref 0 0]=some (.bool false,[.var [.int .i64 most,.sl 1 0 0 n,.int .i64 0],.row 0 1 Y],{ any:=true,upd:=[(0,[.int .i64 most,.sl 1 0 0 n,.int .i64 0])] }) :=
 ZlI (O:=E) (vs:=[.ref 0 0]) (vs':=[.ref 0 0]) (ids:=[0,1]) (h0:=[.var [.int .i64 most,.sl 1 0 0 n,.int .i64 0],.row 0 1 Y]) (h:=[.var [.int .i64 most,.sl 1 0 0 n,.int .i64 0],.row 0 1 Y]) (r:=.bool false) (by kernel_rfl) rfl rfl rfl rfl rfl rfl (ZCv most n Y) rfl (Xx _) (Xx _) rfl rfl rfl rfl rfl
theorem ZwC (most:Int) (b:Zc) (hb:b.length<=4398046511103):Z2 true 1 (E 17 [.ref 0 0,.lst false (b.map Zb)] [.var [.int .i64 most,.lst true [],.int .i64 0]])=some (Zc3 (Zv most b).1 (Zv most b).2.2,ZhW most (Zv most b).2):=by
 rw [<-ZQI most b hb]
 have hB:=ZsZ most 0
 have hk:=ZcE b
 have hl:b.length*1<=140737488355328:=by omega
 refine congrArg (Z2 true 1) ?_
 have hL:(b.map Zb).length=b.length:=by simp
 generalize b.map Zb=bb at *
 unfold ZaW
 rw [Zj (by rfl) ZpV]
 simp -implicitDefEqProofs only [EQA,ZH,ZN,Xe,Xc,Xf,Xa,Xg,reduceCtorEq,ZM,↓reduceIte,gcT,gcA,Zy,Zt,Zi,Zq,ZO,Zl,ZF,Zz,ZC,Wo,ZqN,ZiX,hB,hk,hl,hL,Z3,bne_self_eq_false]
theorem Zvp (most:Int) (h b:Zc) (hb:(h++b).length<=4398046511103):∃ fz,Z2 true 2 (E 17 [.ref 0 0,.lst false (b.map Zb)] [.var [.int .i64 most,.sl 1 0 0 h.length,.int .i64 0],.row 0 1 (h.map Zb)])=some (Zc3 (Zv most (h++b)).1 (Zv most (h++b)).2.2,ZhD most (Zab fz 1 ((h++b).map Zb)) (Zv most (h++b)).2):=by
 obtain ⟨fz,hz⟩:=ZEX most (h++b) hb
 refine ⟨fz,?_⟩
 rw [<-hz]
 have hB:=ZJv most h.length (h.map Zb)
 have hk:=ZcE b
 have hl:(h.length+b.length)*1<=140737488355328:=by simp at hb;omega
 refine congrArg (Z2 true 2) ?_
 have hL:(b.map Zb).length=b.length:=by simp
 have hH:(h.map Zb).length=h.length:=by simp
 rw [X9,Xk]
 generalize b.map Zb=bb at *
 generalize h.map Zb=hh at *
 unfold ZaW
 rw [Zj (by rfl) ZpV]
 simp -implicitDefEqProofs only [EQA,ZH,ZN,Xe,Xc,Xf,Xa,Xg,reduceCtorEq,ZM,↓reduceIte,gcT,gcA,Zy,Zt,Zi,Zq,ZO,Zl,ZF,Zz,ZC,Wo,ZqN,ZiX,hB,hk,hl,hL,hH,Z3]
theorem ZN9 (most e:Int) (he:e≠0) (b:Zc):E 17 [.ref 0 0,.lst false (b.map Zb)] [.var [.int .i64 most,.lst true [],.int .i64 e]]=some (.tup [.lst true [],.int .i64 e],[.var [.int .i64 most,.lst true [],.int .i64 e]]):=by
 have hB:=ZsZ most e
 have he1:(e != 0)=true:=by simpa using he
 generalize b.map Zb=bb at *
 rw [Zj (by rfl) ZpV]
 simp -implicitDefEqProofs only [EQA,Zx,ZN,Xc,Xa,reduceCtorEq,↓reduceIte,Zd,ZqN,ZiX,Zep,hB,he1]
end
section
theorem Zhp {O:ZX} {bf:Nat->Bool} {σ:Za} {sq f own:Nat} {view:Bool} {args vs vs':List AVal} {ids:List Nat} {h0 h:Za} {r:AVal} (hb:bf f=false) (hsh:showAs σ args=some (vs,[])) (hre:Zt σ 1000 (Zw vs) []=ids) (hne:ids.isEmpty=false)
  (hall:(ids.all fun t=>okB (σ.getD t .free))=true) (hvs:Zg (Zi σ 0 ids) vs=vs') (hh:Zq σ 0 ids (Zi σ 0 ids) ids 0=h0) (hask:Z2 view ids.length (O f vs' h0)=some (r,h))
  (hl1:h.length<=ids.length+own) (hl2:ids.length<=h.length) (hk:ZaY σ ids h 0=true) (hff:Zba σ sq own=true) {r':AVal} (hr:Zr (ZaC σ ids sq) r=r') {σ':Za} (hlay:Za9 σ ids sq h 0 σ=σ') {u:List (Nat×List AVal)} (hu:Zbd σ' ids=u) :
  Zk O bf σ sq f own view args=some (r',σ',{ any:=true,upd:=u }):=by
 cases hO:O f vs' h0 with
 | none =>
  rw [hO] at hask
  unfold Z2 at hask
  split at hask <;> cases hask
 | some p =>
  rw [hO] at hask
  exact ZlI hb hsh hre hne hall hvs hh hO hask hl1 hl2 hk hff hr hlay hu
theorem Zic (l:List (UInt8×Zc)) (e:Int):ZI (Zc3 l e)=true:=rfl
theorem Zz3 (most:Int) (b:Zc) (hb:b.length<=4398046511103) (h0:(Zv most b).2.2=0):Zk E BY [.var [.int .i64 most,.lst true [],.int .i64 0],.free] 1 17 1 true [.ref 0 0,.lst false (b.map Zb)]=some (Zc3 (Zv most b).1 0,[.var [.int .i64 most,.sl 1 0 0 (Zv most b).2.1.length,.int .i64 0],.row 0 1 ((Zv most b).2.1.map Zb)],{ any:=true,upd:=[(0,[.int .i64 most,.sl 1 0 0 (Zv most b).2.1.length,.int .i64 0])] }):=by
 have h:=ZwC most b hb
 rw [h0,ZhW,if_pos h0] at h
 exact Zhp (vs:=[.ref 0 0,.lst false (b.map Zb)]) (vs':=[.ref 0 0,.lst false (b.map Zb)]) (ids:=[0]) (h0:=[.var [.int .i64 most,.lst true [],.int .i64 0]]) (h:=[.var [.int .i64 most,.sl 1 0 0 (Zv most b).2.1.length,.int .i64 0],.row 0 1 ((Zv most b).2.1.map Zb)]) (by kernel_rfl) rfl rfl rfl rfl rfl rfl h (Xx _) (Wc rfl) rfl rfl (Z4 _ _ (Zic _ _)).1 rfl rfl
theorem ZQC (most:Int) (b:Zc) (hb:b.length<=4398046511103) (h0:(Zv most b).2.2≠0):Zk E BY [.var [.int .i64 most,.lst true [],.int .i64 0],.free] 1 17 1 true [.ref 0 0,.lst false (b.map Zb)]=some (Zc3 (Zv most b).1 (Zv most b).2.2,[.var [.int .i64 most,.lst true [],.int .i64 (Zv most b).2.2],.free],{ any:=true,upd:=[(0,[.int .i64 most,.lst true [],.int .i64 (Zv most b).2.2])] }):=by
 have h:=ZwC most b hb
 rw [ZhW,if_neg h0] at h
 exact Zhp (vs:=[.ref 0 0,.lst false (b.map Zb)]) (vs':=[.ref 0 0,.lst false (b.map Zb)]) (ids:=[0]) (h0:=[.var [.int .i64 most,.lst true [],.int .i64 0]]) (h:=[.var [.int .i64 most,.lst true [],.int .i64 (Zv most b).2.2]]) (by kernel_rfl) rfl rfl rfl rfl rfl rfl h (Wc rfl) (Xx _) rfl rfl (Z4 _ _ (Zic _ _)).1 rfl rfl
theorem ZDZ (most:Int) (h b:Zc) (FS:List AVal) (hb:(h++b).length<=4398046511103) (h0:(Zv most (h++b)).2.2=0):∃ fz,Zk E BY [.row 0 2 FS,.var [.int .i64 most,.sl 2 0 0 h.length,.int .i64 0],.row 0 1 (h.map Zb),.free] 3 17 1 true [.ref 1 0,.lst false (b.map Zb)]=some (Zc3 (Zv most (h++b)).1 0,[.row 0 2 FS,.var [.int .i64 most,.sl 3 0 0 (Zv most (h++b)).2.1.length,.int .i64 0],Zab fz 1 ((h++b).map Zb),.row 0 1 ((Zv most (h++b)).2.1.map Zb)],{ any:=true,upd:=[(1,[.int .i64 most,.sl 3 0 0 (Zv most (h++b)).2.1.length,.int .i64 0])] }):=by
 obtain ⟨fz,hz⟩:=Zvp most h b hb
 refine ⟨fz,?_⟩
 rw [h0,ZhD,if_pos h0] at hz
 cases fz
 ·exact Zhp (vs:=[.ref 1 0,.lst false (b.map Zb)]) (vs':=[.ref 0 0,.lst false (b.map Zb)]) (ids:=[1,2]) (h0:=[.var [.int .i64 most,.sl 1 0 0 h.length,.int .i64 0],.row 0 1 (h.map Zb)]) (h:=[.var [.int .i64 most,.sl 2 0 0 (Zv most (h++b)).2.1.length,.int .i64 0],.row 1 1 ((h++b).map Zb),.row 0 1 ((Zv most (h++b)).2.1.map Zb)]) (by kernel_rfl) rfl rfl rfl rfl rfl rfl hz (Wc rfl) (Wc rfl) rfl rfl (Z4 _ _ (Zic _ _)).1 rfl rfl
 ·exact Zhp (vs:=[.ref 1 0,.lst false (b.map Zb)]) (vs':=[.ref 0 0,.lst false (b.map Zb)]) (ids:=[1,2]) (h0:=[.var [.int .i64 most,.sl 1 0 0 h.length,.int .i64 0],.row 0 1 (h.map Zb)]) (h:=[.var [.int .i64 most,.sl 2 0 0 (Zv most (h++b)).2.1.length,.int .i64 0],.frow 1 1 ((h++b).map Zb),.row 0 1 ((Zv most (h++b)).2.1.map Zb)]) (by kernel_rfl) rfl rfl rfl rfl rfl rfl hz (Wc rfl) (Wc rfl) rfl rfl (Z4 _ _ (Zic _ _)).1 rfl rfl
theorem ZDD (most:Int) (h b:Zc) (FS:List AVal) (hb:(h++b).length<=4398046511103) (h0:(Zv most (h++b)).2.2≠0):∃ fz,Zk E BY [.row 0 2 FS,.var [.int .i64 most,.sl 2 0 0 h.length,.int .i64 0],.row 0 1 (h.map Zb),.free] 3 17 1 true [.ref 1 0,.lst false (b.map Zb)]=some (Zc3 (Zv most (h++b)).1 (Zv most (h++b)).2.2,[.row 0 2 FS,.var [.int .i64 most,.lst true [],.int .i64 (Zv most (h++b)).2.2],Zab fz 1 ((h++b).map Zb),.free],{ any:=true,upd:=[(1,[.int .i64 most,.lst true [],.int .i64 (Zv most (h++b)).2.2])] }):=by
 obtain ⟨fz,hz⟩:=Zvp most h b hb
 refine ⟨fz,?_⟩
 rw [ZhD,if_neg h0] at hz
 cases fz
 ·exact Zhp (vs:=[.ref 1 0,.lst false (b.map Zb)]) (vs':=[.ref 0 0,.lst false (b.map Zb)]) (ids:=[1,2]) (h0:=[.var [.int .i64 most,.sl 1 0 0 h.length,.int .i64 0],.row 0 1 (h.map Zb)]) (h:=[.var [.int .i64 most,.lst true [],.int .i64 (Zv most (h++b)).2.2],.row 1 1 ((h++b).map Zb)]) (by kernel_rfl) rfl rfl rfl rfl rfl rfl hz (Wc rfl) (Wc rfl) rfl rfl (Z4 _ _ (Zic _ _)).1 rfl rfl
 ·exact Zhp (vs:=[.ref 1 0,.lst false (b.map Zb)]) (vs':=[.ref 0 0,.lst false (b.map Zb)]) (ids:=[1,2]) (h0:=[.var [.int .i64 most,.sl 1 0 0 h.length,.int .i64 0],.row 0 1 (h.map Zb)]) (h:=[.var [.int .i64 most,.lst true [],.int .i64 (Zv most (h++b)).2.2],.frow 1 1 ((h++b).map Zb)]) (by kernel_rfl) rfl rfl rfl rfl rfl rfl hz (Wc rfl) (Wc rfl) rfl rfl (Z4 _ _ (Zic _ _)).1 rfl rfl
theorem ZyX (most e:Int) (he:e≠0) (b:Zc) (FS:List AVal):Zk E BY [.row 0 2 FS,.var [.int .i64 most,.lst true [],.int .i64 e],.free] 2 17 1 true [.ref 1 0,.lst false (b.map Zb)]=some (.tup [.lst false [],.int .i64 e],[.row 0 2 FS,.var [.int .i64 most,.lst true [],.int .i64 e],.free],{ any:=true,upd:=[(1,[.int .i64 most,.lst true [],.int .i64 e])] }):=by
 have hz:=ZN9 most e he b
 have hz':Z2 true 1 (E 17 [.ref 0 0,.lst false (b.map Zb)] [.var [.int .i64 most,.lst true [],.int .i64 e]])=some (.tup [.lst false [],.int .i64 e],[.var [.int .i64 most,.lst true [],.int .i64 e]]):=by rw [hz];rfl
 exact Zhp (vs:=[.ref 1 0,.lst false (b.map Zb)]) (vs':=[.ref 0 0,.lst false (b.map Zb)]) (ids:=[1]) (h0:=[.var [.int .i64 most,.lst true [],.int .i64 e]]) (h:=[.var [.int .i64 most,.lst true [],.int .i64 e]]) (by kernel_rfl) rfl rfl rfl rfl rfl rfl hz' (Wc rfl) (Wc rfl) rfl rfl rfl rfl rfl
end
section
theorem ZH9 (most:Int):E 16 [.int .i64 most] []=some (.ref 0 0,[.var [.int .i64 most,.lst true [],.int .i64 0]]):=by
 rw [Zj (by rfl) ZKB]
 simp -implicitDefEqProofs only [EQA,Zbl,Xe,Xc,Xf,Xa,Xg,reduceCtorEq,↓reduceIte,ZCV,Zra,ZG8,Zau,AVal.cells]
 all_goals rfl
theorem ZA9 (most:Int):Zk E BY [.free] 0 16 1 false [.int .i64 most]=some (.ref 0 0,[.var [.int .i64 most,.lst true [],.int .i64 0]],{ any:=true }):=by
 rw [Zfj (by kernel_rfl) rfl,show [AVal.int .i64 most].map ZK=[.int .i64 most] from rfl,ZH9]
 rfl
theorem Zkv (most:Int):∀ (n:Nat) (h:Zc),(Zbx most n h).1.length<=h.length/\(Zbx most n h).2.1.length<=h.length
 | 0,h=>⟨by simp [Zbx],by simp [Zbx]⟩
 | n+1,h=>by
  unfold Zbx
  cases hf:hdF most h with
  | stop e =>
   simp only
   split <;> simp
  | one x b k =>
   obtain ⟨hk,hk0⟩:=Zfu hf
   have ih:=Zkv most n (h.drop k)
   simp only [Wb] at ih
   simp only [XF]
   omega
def chV (b:Zc):AVal:=.lst false (b.map Zb)
theorem Zxa (l:List (UInt8×Zc)):kOk 2 (l.map frP)=true:=by cases l <;> rfl
def Zcp (i:Int) (cs:List Zc) (code:Int) (out s:AVal):Tms:=[(17,.int .i64 i),(16,.int .i64 (cs.length:Int)),(15,.lst false (cs.map chV)),(8,.int .i64 code),(7,out),(6,s)]
section
variable (most:Int) (cs:List Zc) (hcs:cs.length<=9223372036854775807) (i:Nat) (b:Zc) (hb:cs[i]?=some b)
include hcs hb
theorem ZEs (hl:b.length<=4398046511103):Zce 0 (Zcp (i:Int) cs 0 (.lst true []) (.ref 0 0)) [.var [.int .i64 most,.lst true [],.int .i64 0]] =
  if (Zv most b).2.2=0 then Zce 0 (Zcp ((i+1:Nat):Int) cs 0 (.sl 0 0 0 (Zv most b).1.length) (.ref 1 0)) [.row 0 2 ((Zv most b).1.map frP),.var [.int .i64 most,.sl 2 0 0 (Zv most b).2.1.length,.int .i64 0],.row 0 1 ((Zv most b).2.1.map Zb)]
  else Zce 0 (Zcp ((i+1:Nat):Int) cs (Zv most b).2.2 (.sl 0 0 0 (Zv most b).1.length) (.ref 1 0)) [.row 0 2 ((Zv most b).1.map frP),.var [.int .i64 most,.lst true [],.int .i64 (Zv most b).2.2]]:=by
 have hlt:i < cs.length:=(Xj.1 hb).1
 have h0:(i:Int) < (cs.length:Int):=by omega
 have hw:=ZcI (i:=i) h0 hcs
 have ha:=fun σ kk=>iad hb chV (k:=1) rfl σ false kk
 have hk:=Zxa (Zv most b).1
 have hfl:(Zv most b).1.length*32<=140737488355328:=by
  have:=(Zkv most (b.length+1) b).1
  unfold Zv;omega
 have hfm:((Zv most b).1.map frP).length=(Zv most b).1.length:=by simp
 unfold Zcp
 generalize hci:cs.map chV=CS at *
 by_cases he:(Zv most b).2.2=0
 ·rw [if_pos he]
  have hF:=Zz3 most b hl he
  unfold Zc3 at hF
  generalize (Zv most b).1.map frP=FS at *
  generalize (Zv most b).1.length=c at *
  generalize (Zv most b).2.1.map Zb=rm at *
  unfold chV at ha
  unfold Zce
  rw [ZL]
  simp -implicitDefEqProofs only [EQA,ZH,ZN,ZaI,Xe,Xc,Xa,Xg,reduceCtorEq,ZM,↓reduceIte,gcT,gcA,Zy,Zt,Zi,Zq,ZO,Zl,ZF,Zz,ZC,ZfA,Zd9,h0,hw,ha,hF,hk,hfl,hfm,Z3]
 ·rw [if_neg he]
  have hF:=ZQC most b hl he
  unfold Zc3 at hF
  generalize (Zv most b).1.map frP=FS at *
  generalize (Zv most b).1.length=c at *
  generalize (Zv most b).2.1.map Zb=rm at *
  unfold chV at ha
  unfold Zce
  rw [ZL]
  simp -implicitDefEqProofs only [EQA,ZH,ZN,ZaI,Xe,Xc,Xa,Xg,reduceCtorEq,ZM,↓reduceIte,gcT,gcA,Zy,Zt,Zi,Zq,ZO,Zl,ZF,Zz,ZC,ZfA,Zd9,h0,hw,ha,hF,hk,hfl,hfm,Z3]
theorem Zzm (h:Zc) (FS:List AVal) (hl:(h++b).length<=1000000000000) (hFS:FS.length<=1000000000000):Zce 0 (Zcp (i:Int) cs 0 (.sl 0 0 0 FS.length) (.ref 1 0)) [.row 0 2 FS,.var [.int .i64 most,.sl 2 0 0 h.length,.int .i64 0],.row 0 1 (h.map Zb)] =
  if (Zv most (h++b)).2.2=0 then Zce 0 (Zcp ((i+1:Nat):Int) cs 0 (.sl 0 0 0 (FS.length+(Zv most (h++b)).1.length)) (.ref 1 0)) [.row 0 2 (FS++(Zv most (h++b)).1.map frP),.var [.int .i64 most,.sl 2 0 0 (Zv most (h++b)).2.1.length,.int .i64 0],.row 0 1 ((Zv most (h++b)).2.1.map Zb)]
  else Zce 0 (Zcp ((i+1:Nat):Int) cs (Zv most (h++b)).2.2 (.sl 0 0 0 (FS.length+(Zv most (h++b)).1.length)) (.ref 1 0)) [.row 0 2 (FS++(Zv most (h++b)).1.map frP),.var [.int .i64 most,.lst true [],.int .i64 (Zv most (h++b)).2.2]]:=by
 have hlt:i < cs.length:=(Xj.1 hb).1
 have h0:(i:Int) < (cs.length:Int):=by omega
 have hw:=ZcI (i:=i) h0 hcs
 have ha:=fun σ kk=>iad hb chV (k:=1) rfl σ false kk
 have hk:=Zxa (Zv most (h++b)).1
 have hfl:(FS.length+(Zv most (h++b)).1.length)*32<=140737488355328:=by
  have:=(Zkv most ((h++b).length+1) (h++b)).1
  unfold Zv;omega
 have hfm:((Zv most (h++b)).1.map frP).length=(Zv most (h++b)).1.length:=by simp
 unfold Zcp
 generalize hci:cs.map chV=CS at *
 by_cases he:(Zv most (h++b)).2.2=0
 ·rw [if_pos he]
  obtain ⟨fz,hF⟩:=ZDZ most h b FS (by omega) he
  unfold Zc3 at hF
  generalize (Zv most (h++b)).1.map frP=FS2 at *
  generalize (Zv most (h++b)).1.length=c at *
  generalize (Zv most (h++b)).2.1.map Zb=rm at *
  generalize (h++b).map Zb=hb2 at *
  generalize h.map Zb=hm at *
  unfold chV at ha
  unfold Zce
  rw [ZL]
  cases fz
  ·simp only [Zab,Xi,if_false] at hF
   simp -implicitDefEqProofs only [EQA,ZH,ZN,ZaI,Xe,Xc,Xa,Xg,reduceCtorEq,ZM,↓reduceIte,gcT,gcA,Zy,Zt,Zi,Zq,ZO,Zl,ZF,Zz,ZC,ZfA,Zd9,h0,hw,ha,hF,hk,hfl,hfm,Z3]
  ·simp only [Zab,if_true] at hF
   simp -implicitDefEqProofs only [EQA,ZH,ZN,ZaI,Xe,Xc,Xa,Xg,reduceCtorEq,ZM,↓reduceIte,gcT,gcA,Zy,Zt,Zi,Zq,ZO,Zl,ZF,Zz,ZC,ZfA,Zd9,h0,hw,ha,hF,hk,hfl,hfm,Z3]
 ·rw [if_neg he]
  obtain ⟨fz,hF⟩:=ZDD most h b FS (by omega) he
  unfold Zc3 at hF
  generalize (Zv most (h++b)).1.map frP=FS2 at *
  generalize (Zv most (h++b)).1.length=c at *
  generalize (Zv most (h++b)).2.1.map Zb=rm at *
  generalize (h++b).map Zb=hb2 at *
  generalize h.map Zb=hm at *
  unfold chV at ha
  unfold Zce
  rw [ZL]
  cases fz
  ·simp only [Zab,Xi,if_false] at hF
   simp -implicitDefEqProofs only [EQA,ZH,ZN,ZaI,Xe,Xc,Xa,Xg,reduceCtorEq,ZM,↓reduceIte,gcT,gcA,Zy,Zt,Zi,Zq,ZO,Zl,ZF,Zz,ZC,ZfA,Zd9,h0,hw,ha,hF,hk,hfl,hfm,Z3]
  ·simp only [Zab,if_true] at hF
   simp -implicitDefEqProofs only [EQA,ZH,ZN,ZaI,Xe,Xc,Xa,Xg,reduceCtorEq,ZM,↓reduceIte,gcT,gcA,Zy,Zt,Zi,Zq,ZO,Zl,ZF,Zz,ZC,ZfA,Zd9,h0,hw,ha,hF,hk,hfl,hfm,Z3]
theorem ZEJ (e:Int) (he:e≠0) (FS:List AVal) (hFS:FS.length<=1000000000000):Zce 0 (Zcp (i:Int) cs e (.sl 0 0 0 FS.length) (.ref 1 0)) [.row 0 2 FS,.var [.int .i64 most,.lst true [],.int .i64 e]] =
  Zce 0 (Zcp ((i+1:Nat):Int) cs e (.sl 0 0 0 FS.length) (.ref 1 0)) [.row 0 2 FS,.var [.int .i64 most,.lst true [],.int .i64 e]]:=by
 have hlt:i < cs.length:=(Xj.1 hb).1
 have h0:(i:Int) < (cs.length:Int):=by omega
 have hw:=ZcI (i:=i) h0 hcs
 have ha:=fun σ kk=>iad hb chV (k:=1) rfl σ false kk
 have hF:=ZyX most e he b FS
 have hfl:FS.length*32<=140737488355328:=by omega
 unfold Zcp
 generalize hci:cs.map chV=CS at *
 unfold chV at ha
 unfold Zce
 rw [ZL]
 simp -implicitDefEqProofs only [EQA,ZH,ZN,ZaI,Xe,Xc,Xa,Xg,reduceCtorEq,ZM,↓reduceIte,gcT,gcA,Zy,Zt,Zi,Zq,ZO,Zl,ZF,Zz,ZC,ZfA,Zd9,h0,hw,ha,hF,hfl,Z3,kOk]
end
theorem ZP7 (most:Int) (cs:List Zc) (e:Int) (FS hm:List AVal) (n:Nat):Zce 0 (Zcp (cs.length:Int) cs e (.sl 0 0 0 FS.length) (.ref 1 0)) [.row 0 2 FS,.var [.int .i64 most,.sl 2 0 0 n,.int .i64 0],.row 0 1 hm]=some (.tup [.sl 0 0 0 FS.length,.int .i64 e],[.row 0 2 FS]):=by
 have h0:¬(cs.length:Int) < (cs.length:Int):=by omega
 unfold Zcp
 generalize hci:cs.map chV=CS at *
 unfold Zce
 rw [ZL]
 simp -implicitDefEqProofs only [EQA,Xe,Xc,Xa,↓reduceIte,ZwV,Zxb,Zky,ZfA,Zd9,h0]
 all_goals rfl
theorem ZG0 (most:Int) (cs:List Zc) (e:Int) (FS:List AVal):Zce 0 (Zcp (cs.length:Int) cs e (.sl 0 0 0 FS.length) (.ref 1 0)) [.row 0 2 FS,.var [.int .i64 most,.lst true [],.int .i64 e]]=some (.tup [.sl 0 0 0 FS.length,.int .i64 e],[.row 0 2 FS]):=by
 have h0:¬(cs.length:Int) < (cs.length:Int):=by omega
 unfold Zcp
 generalize hci:cs.map chV=CS at *
 unfold Zce
 rw [ZL]
 simp -implicitDefEqProofs only [EQA,Xe,Xc,Xa,↓reduceIte,ZwV,Zxb,Zky,ZfA,Zd9,h0]
 all_goals rfl
end
section
def ZbK (most:Int):Zc->Int->List Zc->List (UInt8×Zc)×Int
 | _,e,[]=>([],e)
 | h,e,b::cs=>if e≠0 then ([],e) else ((Zv most (h++b)).1++(ZbK most (Zv most (h++b)).2.1 (Zv most (h++b)).2.2 cs).1,(ZbK most (Zv most (h++b)).2.1 (Zv most (h++b)).2.2 cs).2)
theorem Zpx (most:Int) (h:Zc) (e:Int) (he:e≠0):∀ cs,ZbK most h e cs=([],e)
 | []=>rfl
 | b::cs=>by unfold ZbK;rw [if_pos he]
theorem Znp (most:Int) (h b:Zc) (cs:List Zc):ZbK most h 0 (b::cs)=((Zv most (h++b)).1++(ZbK most (Zv most (h++b)).2.1 (Zv most (h++b)).2.2 cs).1,(ZbK most (Zv most (h++b)).2.1 (Zv most (h++b)).2.2 cs).2):=by
 rw [ZbK,if_neg (by simp)]
theorem Zxm (most:Int) (h:Zc):(Zv most h).1.length<=h.length/\(Zv most h).2.1.length<=h.length:=Zkv most (h.length+1) h
theorem ZnN (most:Int) (cs:List Zc) (hcs:cs.length<=9223372036854775807) (e:Int) (he:e≠0) (FS:List AVal) (hFS:FS.length<=1000000000000):∀ (r:List Zc) (i:Nat),cs.drop i=r->i<=cs.length ->
  Zce 0 (Zcp (i:Int) cs e (.sl 0 0 0 FS.length) (.ref 1 0)) [.row 0 2 FS,.var [.int .i64 most,.lst true [],.int .i64 e]]=some (.tup [.sl 0 0 0 FS.length,.int .i64 e],[.row 0 2 FS])
 | [],i,hi,hle=>by
  have : cs.length<=i:=X4.1 hi
  obtain rfl:i=cs.length:=by omega
  exact ZG0 most cs e FS
 | b::r,i,hi,hle=>by
  obtain ⟨g1,d1,l1⟩:=Zah hi
  rw [ZEJ most cs hcs i b g1 e he FS hFS]
  exact ZnN most cs hcs e he FS hFS r (i+1) d1 (by omega)
theorem ZuM (most:Int) (cs:List Zc) (hcs:cs.length<=9223372036854775807):∀ (r:List Zc) (i:Nat) (h:Zc) (FS:List AVal),cs.drop i=r->i<=cs.length->h.length+r.flatten.length<=4000000000->FS.length+(r.length+1)*4000000000<=1000000000000 ->
  Zce 0 (Zcp (i:Int) cs 0 (.sl 0 0 0 FS.length) (.ref 1 0)) [.row 0 2 FS,.var [.int .i64 most,.sl 2 0 0 h.length,.int .i64 0],.row 0 1 (h.map Zb)]=some (.tup [.sl 0 0 0 (FS++(ZbK most h 0 r).1.map frP).length,.int .i64 (ZbK most h 0 r).2],[.row 0 2 (FS++(ZbK most h 0 r).1.map frP)])
 | [],i,h,FS,hi,hle,hl,hf=>by
  have : cs.length<=i:=X4.1 hi
  obtain rfl:i=cs.length:=by omega
  unfold ZbK
  rw [XA,Xm]
  exact ZP7 most cs 0 FS _ _
 | b::r,i,h,FS,hi,hle,hl,hf=>by
  obtain ⟨g1,d1,l1⟩:=Zah hi
  have fl:=Zxm most (h++b)
  simp only [Wp,Xk] at hl fl
  simp only [XF] at hf
  rw [Zzm most cs hcs i b g1 h FS (by simp;omega) (by omega)]
  rw [Znp]
  have hln:FS.length+(Zv most (h++b)).1.length=(FS++(Zv most (h++b)).1.map frP).length:=by simp
  rw [hln]
  by_cases he:(Zv most (h++b)).2.2=0
  ·rw [if_pos he,he,ZuM most cs hcs r (i+1) _ _ d1 (by omega) (by omega) (by rw [<-hln];omega),X9,Wa]
  ·rw [if_neg he,Zpx most _ _ he,Xm]
   exact ZnN most cs hcs _ he _ (by rw [<-hln];omega) r (i+1) d1 (by omega)
theorem ZD8 (most:Int) (b:Zc) (cs:List Zc) (hl:b.length+cs.flatten.length<=4000000000) (hc:cs.length<=200) :
  E 8 [.int .i64 most,.lst false ((b::cs).map chV)] []=some (.tup [.sl 0 0 0 ((ZbK most [] 0 (b::cs)).1.map frP).length,.int .i64 (ZbK most [] 0 (b::cs)).2],[.row 0 2 ((ZbK most [] 0 (b::cs)).1.map frP)]):=by
 have hcs:(b::cs).length<=9223372036854775807:=by simp;omega
 have fl:=Zxm most b
 have key:Zce 0 (Zcp 0 (b::cs) 0 (.lst true []) (.ref 0 0)) [.var [.int .i64 most,.lst true [],.int .i64 0]]=some (.tup [.sl 0 0 0 ((ZbK most [] 0 (b::cs)).1.map frP).length,.int .i64 (ZbK most [] 0 (b::cs)).2],[.row 0 2 ((ZbK most [] 0 (b::cs)).1.map frP)]):=by
  have h0:=ZEs most (b::cs) hcs 0 b rfl (by omega)
  rw [show ((0:Nat):Int)=0 from rfl] at h0
  rw [h0]
  rw [Znp,Xw]
  have hln:(Zv most b).1.length=((Zv most b).1.map frP).length:=by simp
  rw [hln]
  by_cases he:(Zv most b).2.2=0
  ·rw [if_pos he,he,ZuM most (b::cs) hcs cs 1 _ _ rfl (by simp) (by omega) (by rw [<-hln];omega),X9]
  ·rw [if_neg he,Zpx most _ _ he,Xm]
   exact ZnN most (b::cs) hcs _ he _ (by rw [<-hln];omega) cs 1 rfl (by simp)
 have hN:=ZA9 most
 have hL:((b::cs).map chV).length=(b::cs).length:=by simp
 rw [<-key]
 unfold Zcp
 generalize (b::cs).map chV=CS at *
 generalize (b::cs).length=n at *
 unfold Zce
 rw [Zj (by rfl) ZCp]
 simp -implicitDefEqProofs only [EQA,ZN,ZaI,Xc,Xa,Xg,reduceCtorEq,↓reduceIte,gcT,gcA,Zy,Zt,Zi,Zq,ZO,Zl,ZF,Zz,ZC,ZFc,ZrU,hN,hL]
theorem ZOj (FS:List AVal) (e:Int):Z2 true 0 (some (.tup [.sl 0 0 0 FS.length,.int .i64 e],[.row 0 2 FS]))=some (.tup [.lst false FS,.int .i64 e],[]):=by
 have he:=ZjN [.row 0 2 FS] 0 2 FS rfl
 unfold Z2
 rw [if_pos rfl]
 simp only [Zbw,viewR,viewAs,ZU,ZP,he,Xm]
 rfl
theorem ZGr (most:Int) (b:Zc) (cs:List Zc) (hl:b.length+cs.flatten.length<=4000000000) (hc:cs.length<=200) {σ:Za} {t g sq own n:Nat} (hn:n=(b::cs).length) (hs:σ[t]?=some (.row g 1 ((b::cs).map chV))) :
  Zk E BY σ sq 8 own true [.int .i64 most,.sl t g 0 n]=some (.tup [.lst false ((ZbK most [] 0 (b::cs)).1.map frP),.int .i64 (ZbK most [] 0 (b::cs)).2],Zp σ [t],{ rd:=[t],wr:=[t] }) \/
  Zk E BY σ sq 8 own true [.int .i64 most,.sl t g 0 n]=some (.tup [.lst false ((ZbK most [] 0 (b::cs)).1.map frP),.int .i64 (ZbK most [] 0 (b::cs)).2],σ,{ rd:=[t] }):=by
 subst hn
 have he:ZM σ (.sl t g 0 (b::cs).length)=some ((b::cs).map chV,[t]):=by simp [ZM,hs,XK]
 have hO:=ZD8 most b cs hl hc
 have hsh:showAs σ [.int .i64 most,.sl t g 0 (b::cs).length]=some ([.int .i64 most,.lst false ((b::cs).map chV)],[t]):=by
  simp only [showAs,showA,ZcH,he,Xm,Xw]
 generalize (ZbK most [] 0 (b::cs)).1.map frP=FS at *
 generalize (ZbK most [] 0 (b::cs)).2=e at *
 generalize (b::cs).map chV=CS at *
 unfold Zk ZbW
 rw [show BY 8=false by kernel_rfl]
 simp only [Xi,if_false,hsh]
 rw [show Zw [AVal.int .i64 most,.lst false CS]=[] from rfl]
 have h2:∀ σ,Zt σ 1000 [] []=[]:=fun _=>rfl
 rw [h2]
 unfold ZbM
 rw [if_pos (by rfl)]
 have h3:∀ σ,Zg (Zi σ 0 []) [AVal.int .i64 most,.lst false CS]=[.int .i64 most,.lst false CS]:=fun _=>rfl
 have h4:∀ σ,Zq σ 0 [] (Zi σ 0 []) [] 0=[]:=fun _=>rfl
 rw [h3,h4,hO,XJ,ZOj]
 simp only [ZaH,List.isEmpty_nil,Wg,if_true]
 by_cases h5:ZbL (.tup [.lst false FS,.int .i64 e])=true
 ·rw [if_pos h5];exact Xv rfl
 ·rw [if_neg h5]
  by_cases h6:Zdg σ [t] (.tup [.lst false FS,.int .i64 e])=true
  ·rw [if_pos h6];exact Xv rfl
  ·rw [if_neg h6];exact Xr rfl
end
section
def Zgn:Zf:=(.seq (.region [oI 133 (.call 11 0 true []),oM 6 133] none [6]) .ret)
def Zs8:Zf:=Zgn
def Zjk:Zf:=(.seq (.seq (.region [oM 107 19,oM 108 17,oI 109 (.len (.t 108)),oI 110 (.bin .lss (.t 107) (.t 109))] none [110,19,17,8]) (.cond (.t 110) .skip (.exit 4))) (.seq (.block 5 (.seq (.region [oM 114 17,oM 115 19,oI 116 (.iaddr 2 (.t 114) (.t 115)),oI 117 (.ld (some 2) (.t 116)),oI 118 (.call 9 0 true [(.t 117)]),oM 113 118,oI 119 (.ext (.t 113) 0),oI 120 (.ext (.t 113) 1),oI 20 (.alloc [(.int .i64 0),(.bool false),(.int .i64 0),(.bool false),(.int .i64 0),(.str []),(.lst true []),(.int .i64 0),(.lst true []),(.lst true []),(.lst true []),(.lst true []),(.bool false),(.int .i64 0),(.str []),(.bool false),(.str []),(.lst true []),(.int .i64 0),(.bool false),(.lst true []),(.bool false),(.str []),(.bool false),(.lst true []),(.bool false)]),oN (.st 26 (.t 20) (.t 119)),oM 21 120] none [21,20,19,17,8]) (.seq (.region [oM 121 21,oI 122 (.call 6 0 true [(.t 121)]),oI 123 (.bin .neq (.t 122) (.c (.int .i64 0))),oM 124 123,⟨(some 125),(.ld (some 26) (.t 20)),(some (124,false)),[]⟩,⟨(some 126),(.mov (.t 8)),(some (124,false)),[]⟩,⟨(some 127),(.mov (.t 19)),(some (124,false)),[]⟩,⟨(some 128),(.iaddr 26 (.t 126) (.t 127)),(some (124,false)),[]⟩,⟨(some 129),(.ld (some 26) (.t 128)),(some (124,false)),[]⟩,⟨(some 130),(.call 10 0 true [(.t 125),(.t 129)]),(some (124,false)),[]⟩,⟨(some 131),(.un .not (.t 130)),(some (124,false)),[]⟩,oI 132 (.pick (.t 124) (.c (.bool true)) (.t 131))] (some [(4,7),(4,8),(1,1),(9,9)]) [132,19,17,8]) (.cond (.t 132) (.seq (.region [oI 6 (.mov (.c (.bool false)))] none [6]) .ret) .skip)))) (.region [oM 111 19,oI 112 (.bin .add (.t 111) (.c (.int .i64 1))),oM 19 112] none [19,17,8])))
def Zim:Zf:=Zjk
def Zf1:Zf:=(.seq (.region [oM 87 2,oM 88 14,oM 89 7,oI 90 (.bslice false 1 1 (.lst true []) [(0,(.t 89))]),oI 91 (.app 1 24 (.lst true []) (.t 88) (.t 90)),oI 92 (.call 8 0 true [(.t 87),(.t 91)]),oM 86 92,oI 93 (.ext (.t 86) 0),oI 94 (.ext (.t 86) 1),oM 17 93,oM 18 94] none [18,17,9,8]) (.seq (.seq (.region [oM 95 17,oI 96 (.len (.t 95)),oM 97 8,oI 98 (.len (.t 97)),oI 99 (.bin .neq (.t 96) (.t 98)),oM 100 99,⟨(some 101),(.mov (.t 18)),(some (100,false)),[]⟩,⟨(some 102),(.call 6 0 true [(.t 101)]),(some (100,false)),[]⟩,⟨(some 103),(.bin .eql (.t 102) (.c (.int .i64 0))),(some (100,false)),[]⟩,⟨(some 104),(.mov (.t 9)),(some (100,false)),[]⟩,⟨(some 105),(.beq true (.t 103) (.t 104)),(some (100,false)),[]⟩,oI 106 (.pick (.t 100) (.c (.bool true)) (.t 105))] none [106,17,8]) (.cond (.t 106) (.seq (.region [oI 6 (.mov (.c (.bool false)))] none [6]) .ret) .skip)) (.seq (.seq (.region [oI 19 (.mov (.c (.int .i64 0)))] none [19,17,8]) (.block 4 (.loop [19,17,8] Zim))) Zs8)))
def ZgG:Zf:=Zf1
def Zck:Zf:=(.seq (.seq (.region [oM 60 15,oM 61 1,oI 62 (.len (.t 61)),oI 63 (.bin .lss (.t 60) (.t 62)),oM 64 63,⟨(some 65),(.mov (.t 15)),(some (64,true)),[]⟩,⟨(some 66),(.bin .lss (.t 65) (.c (.int .i64 60))),(some (64,true)),[]⟩,oI 67 (.pick (.t 64) (.t 66) (.c (.bool false)))] none [67,15,14,9,8,7,2,1]) (.cond (.t 67) .skip (.exit 2))) (.seq (.block 3 (.seq (.region [oM 70 1,oM 71 15,oI 72 (.iaddr 1 (.t 70) (.t 71)),oL 73 72,oM 74 7,oI 75 (.len (.t 74)),oI 76 (.call 7 0 true [(.t 73),(.c (.int .i64 0)),(.t 75)]),oM 16 76] none [16,15,14,9,8,7,2,1]) (.seq (.region [oM 77 14,oM 78 7,oM 79 16,oI 80 (.slice 1 (.t 78) none (some (.t 79)) none),oI 81 (.bslice false 1 1 (.lst true []) [(0,(.t 80))]),oI 82 (.app 1 24 (.lst true []) (.t 77) (.t 81)),oM 14 82] none [16,15,14,9,8,7,2,1]) (.region [oM 83 7,oM 84 16,oI 85 (.slice 1 (.t 83) (some (.t 84)) none none),oM 7 85] none [15,14,9,8,7,2,1])))) (.region [oM 68 15,oI 69 (.bin .add (.t 68) (.c (.int .i64 1))),oM 15 69] none [15,14,9,8,7,2,1])))
def ZbB:Zf:=Zck
def Zgz:Zf:=(.seq (.region [oI 14 (.mov (.c (.lst true [])))] none [14,9,8,7,2,1]) (.seq (.seq (.region [oI 15 (.mov (.c (.int .i64 0)))] none [15,14,9,8,7,2,1]) (.block 2 (.loop [15,14,9,8,7,2,1] ZbB))) ZgG))
def Zv3:Zf:=Zgz
def Zcq:Zf:=(.seq (.seq (.region [oM 25 10,oM 26 0,oI 27 (.len (.t 26)),oI 28 (.bin .lss (.t 25) (.t 27)),oM 29 28,⟨(some 30),(.mov (.t 10)),(some (29,true)),[]⟩,⟨(some 31),(.bin .lss (.t 30) (.c (.int .i64 12))),(some (29,true)),[]⟩,oI 32 (.pick (.t 29) (.t 31) (.c (.bool false)))] none [32,10,9,8,7,2,1,0]) (.cond (.t 32) .skip (.exit 0))) (.seq (.block 1 (.seq (.region [oM 35 0,oM 36 10,oI 37 (.iaddr 26 (.t 35) (.t 36)),oI 38 (.ld (some 26) (.t 37)),oI 39 (.call 4 0 true [(.t 38)]),oI 11 (.alloc [(.int .i64 0),(.bool false),(.int .i64 0),(.bool false),(.int .i64 0),(.str []),(.lst true []),(.int .i64 0),(.lst true []),(.lst true []),(.lst true []),(.lst true []),(.bool false),(.int .i64 0),(.str []),(.bool false),(.str []),(.lst true []),(.int .i64 0),(.bool false),(.lst true []),(.bool false),(.str []),(.bool false),(.lst true []),(.bool false)]),oN (.st 26 (.t 11) (.t 39))] none [11,10,9,8,7,2,1,0]) (.seq (.region [oI 41 (.ld (some 26) (.t 11)),oI 42 (.call 5 0 true [(.t 41)]),oM 40 42,oI 43 (.ext (.t 40) 0),oI 44 (.ext (.t 40) 1),oM 12 43,oM 13 44] none [13,12,11,10,9,8,7,2,1,0]) (.seq (.seq (.region [oM 45 13,oI 46 (.call 6 0 true [(.t 45)]),oI 47 (.bin .neq (.t 46) (.c (.int .i64 0)))] none [47,12,11,10,9,8,7,2,1,0]) (.cond (.t 47) (.exit 1) .skip)) (.seq (.seq (.region [oM 48 12,oI 49 (.len (.t 48)),oM 50 2,oI 51 (.bin .gtr (.t 49) (.t 50))] none [51,12,11,10,9,8,7,2,1,0]) (.cond (.t 51) (.region [oI 9 (.mov (.c (.bool false)))] none [12,11,10,9,8,7,2,1,0]) .skip)) (.seq (.seq (.region [oM 52 9] none [52,12,11,10,9,8,7,2,1,0]) (.cond (.t 52) (.region [oM 53 8,oI 54 (.ld (some 26) (.t 11)),oI 55 (.bslice false 26 1 (.agg [(.int .i64 0),(.bool false),(.int .i64 0),(.bool false),(.int .i64 0),(.str []),(.lst true []),(.int .i64 0),(.lst true []),(.lst true []),(.lst true []),(.lst true []),(.bool false),(.int .i64 0),(.str []),(.bool false),(.str []),(.lst true []),(.int .i64 0),(.bool false),(.lst true []),(.bool false),(.str []),(.bool false),(.lst true []),(.bool false)]) [(0,(.t 54))]),oI 56 (.app 26 368 (.agg [(.int .i64 0),(.bool false),(.int .i64 0),(.bool false),(.int .i64 0),(.str []),(.lst true []),(.int .i64 0),(.lst true []),(.lst true []),(.lst true []),(.lst true []),(.bool false),(.int .i64 0),(.str []),(.bool false),(.str []),(.lst true []),(.int .i64 0),(.bool false),(.lst true []),(.bool false),(.str []),(.bool false),(.lst true []),(.bool false)]) (.t 53) (.t 55)),oM 8 56] none [12,10,9,8,7,2,1,0]) .skip)) (.region [oM 57 7,oM 58 12,oI 59 (.app 1 1 (.int .u8 0) (.t 57) (.t 58)),oM 7 59] none [10,9,8,7,2,1,0]))))))) (.region [oM 33 10,oI 34 (.bin .add (.t 33) (.c (.int .i64 1))),oM 10 34] none [10,9,8,7,2,1,0])))
def Zbo:Zf:=Zcq
def Zge:Zf:=(.seq (.region [oI 6 (.mov (.c (.bool false)))] none [2,1,0]) (.seq (.region [oM 22 2,oI 23 (.bin .and (.t 22) (.c (.int .i64 255))),oI 24 (.bin .add (.c (.int .i64 20)) (.t 23)),oM 2 24] none [2,1,0]) (.seq (.region [oI 7 (.mov (.c (.lst true [])))] none [7,2,1,0]) (.seq (.region [oI 8 (.mov (.c (.lst true [])))] none [8,7,2,1,0]) (.seq (.region [oI 9 (.mov (.c (.bool true)))] none [9,8,7,2,1,0]) (.seq (.seq (.region [oI 10 (.mov (.c (.int .i64 0)))] none [10,9,8,7,2,1,0]) (.block 0 (.loop [10,9,8,7,2,1,0] Zbo))) Zv3))))))
def Zou:ZQ:=⟨[(.tmp 6)],Zge⟩
theorem ZFk:FC 3=some Zou:=by kernel_rfl
theorem ZhI:Zou.body=Zge:=rfl
theorem ZhU:Zou.res=[(.tmp 6)]:=rfl
def ZoT:Zf:=(.seq (.region [oI 2 (.mov (.c (.int .i64 0)))] none [0]) (.seq (.region [oM 3 0,oM 2 3] none [2]) .ret))
def Zpv:ZQ:=⟨[(.tmp 2)],ZoT⟩
theorem ZH6:FC 6=some Zpv:=by kernel_rfl
theorem ZxB:Zpv.body=ZoT:=rfl
theorem ZDv:Zpv.res=[(.tmp 2)]:=rfl
end
section
theorem ZAD:E 11 [] []=some (.bool true,[]):=ZdK.2 ⟨40,by kernel_rfl⟩
theorem ZhL (σ:Za) (sq own:Nat):Zk E BY σ sq 11 own true []=some (.bool true,σ,{}) :=
 ZbI ZAD (by kernel_rfl) rfl rfl rfl (fun _=>rfl) _ _ _
theorem ZKy (e:Int):E 6 [.int .i64 e] []=some (.int .i64 e,[]):=by
 rw [Zj (by rfl) ZH6]
 simp -implicitDefEqProofs only [EQA,Xc,Xa,reduceCtorEq,↓reduceIte,ZxB,ZoT,ZDv]
theorem ZcC (σ:Za) (sq own:Nat) (e:Int):Zk E BY σ sq 6 own true [.int .i64 e]=some (.int .i64 e,σ,{}) :=
 ZbI (ZKy e) (by kernel_rfl) rfl rfl rfl (fun _=>rfl) _ _ _
end
section
theorem ZuA:∀ (l c:Zc) (i n:Nat),i<=4->(gvA i n l).2.2≠11->gvA i n (l++c)=gvA i n l
 | [],c,i,n,hi,h=>by
  unfold gvA at h
  split at h
  ·simp at h
  ·rename_i h4
   simp only [Xw]
   cases c with
   | nil=>rfl
   | cons a c =>
    unfold gvA
    rw [if_neg h4]
    by_cases h5:i=4
    ·rw [if_pos h5]
    ·omega
 | x::l,c,i,n,hi,h=>by
  simp only [XU]
  unfold gvA at h ⊢
  by_cases h1:i=4
  ·rw [if_pos h1,if_pos h1]
  ·rw [if_neg h1] at h ⊢
   rw [if_neg h1]
   by_cases h2:x.toNat < 128
   ·rw [if_pos h2,if_pos h2]
   ·rw [if_neg h2] at h ⊢
    rw [if_neg h2]
    exact ZuA l c (i+1) _ (by omega) h
theorem Zt1 {most:Int} {h:Zc} (c:Zc) (hf:hdF most h≠.stop 0):hdF most (h++c)=hdF most h:=by
 have hd:1<=h.length->(h++c).drop 1=h.drop 1++c:=fun h1=>WR h1
 unfold hdF at hf ⊢
 by_cases h1:h.length < 2
 ·rw [if_pos h1] at hf;exact absurd rfl hf
 rw [if_neg h1] at hf ⊢
 rw [if_neg (show ¬(h++c).length < 2 by simp;omega),hd (by omega)]
 by_cases h2:(ZY (h.drop 1)).2.2=11
 ·rw [if_pos h2] at hf;exact absurd rfl hf
 have e:ZY (h.drop 1++c)=ZY (h.drop 1):=ZuA _ _ _ _ (by omega) h2
 rw [e]
 rw [if_neg h2] at hf ⊢
 rw [if_neg h2]
 by_cases h3:(ZY (h.drop 1)).2.2≠0
 ·rw [if_pos h3,if_pos h3]
 rw [if_neg h3] at hf ⊢
 rw [if_neg h3]
 by_cases h4:((1+(ZY (h.drop 1)).2.1+(ZY (h.drop 1)).1:Nat):Int) > most
 ·rw [if_pos h4,if_pos h4]
 rw [if_neg h4] at hf ⊢
 rw [if_neg h4]
 by_cases h5:h.length < 1+(ZY (h.drop 1)).2.1+(ZY (h.drop 1)).1
 ·rw [if_pos h5] at hf;exact absurd rfl hf
 rw [if_neg h5,if_neg (show ¬(h++c).length < 1+(ZY (h.drop 1)).2.1+(ZY (h.drop 1)).1 by rw [Xk];omega)]
 rw [List.take_append_of_le_length (by omega)]
 cases h with
 | nil=>simp at h1
 | cons x h=>rfl
theorem Zti (most:Int):∀ (f g:Nat) (h:Zc),h.length < f->h.length < g->Zbx most f h=Zbx most g h
 | 0,_,_,hf,_=>by omega
 | _,0,_,_,hg=>by omega
 | f+1,g+1,h,hf,hg=>by
  unfold Zbx
  cases hfs:hdF most h with
  | stop c=>rfl
  | one x b n =>
   have hn:=Zfu hfs
   have:=Zti most f g (h.drop n) (by simp;omega) (by simp;omega)
   simp only [this]
theorem Zpa {most:Int} {h:Zc} (hf:hdF most h=.stop 0):Zv most h=([],h,0):=by simp [Zv,Zbx,hf]
theorem Zni {most:Int} {h:Zc} {c:Int} (hf:hdF most h=.stop c) (hc:c≠0):Zv most h=([],[],c):=by simp [Zv,Zbx,hf,hc]
theorem Zkz {most:Int} {h:Zc} {x:UInt8} {b:Zc} {n:Nat} (hf:hdF most h=.one x b n):Zv most h=((x,b)::(Zv most (h.drop n)).1,(Zv most (h.drop n)).2):=by
 have hn:=Zfu hf
 have:=Zti most h.length ((h.drop n).length+1) (h.drop n) (by simp;omega) (by simp)
 unfold Zv
 rw [<-this]
 conv=>lhs;unfold Zbx
 simp only [hf]
theorem ZhQ (most:Int):Zv most []=([],[],0):=by simp [Zv,Zbx,hdF]
theorem ZQK (most:Int):∀ (n:Nat) (h c:Zc),h.length<=n ->
  Zv most (h++c)=if (Zv most h).2.2=0 then ((Zv most h).1++(Zv most ((Zv most h).2.1++c)).1,(Zv most ((Zv most h).2.1++c)).2) else Zv most h:=by
 intro n
 induction n with
 | zero =>
  intro h c hl
  obtain rfl:h=[]:=Xy (by omega)
  rw [ZhQ];simp
 | succ n ih =>
  intro h c hl
  cases hf:hdF most h with
  | stop cd =>
   by_cases hc:cd=0
   ·subst hc
    rw [Zpa hf];simp
   ·have h1:=Zt1 (most:=most) (h:=h) c (by rw [hf];intro e;injection e with e;exact hc e)
    rw [Zni (h1.trans hf) hc,Zni hf hc,if_neg hc]
  | one x b k =>
   have h1:=Zt1 (most:=most) (h:=h) c (by rw [hf];simp)
   have hk:=Zfu hf
   rw [Zkz (h1.trans hf),Zkz hf]
   have hd:(h++c).drop k=h.drop k++c:=WR hk.1
   rw [hd,ih (h.drop k) c (by simp;omega)]
   simp only
   split <;> simp
theorem Zzc (most:Int):∀ (n:Nat) (h:Zc),h.length<=n->(Zv most h).2.2=0->Zv most (Zv most h).2.1=([],(Zv most h).2.1,0):=by
 intro n
 induction n with
 | zero =>
  intro h hl _
  obtain rfl:h=[]:=Xy (by omega)
  rw [ZhQ];exact ZhQ most
 | succ n ih =>
  intro h hl h0
  cases hf:hdF most h with
  | stop cd =>
   by_cases hc:cd=0
   ·subst hc
    rw [Zpa hf];exact Zpa hf
   ·rw [Zni hf hc] at h0;exact absurd h0 hc
  | one x b k =>
   have hk:=Zfu hf
   rw [Zkz hf] at h0 ⊢
   exact ih (h.drop k) (by simp;omega) h0
theorem Zsr (most:Int):∀ (ps:List Zc) (h:Zc),Zv most h=([],h,0)->ZbK most h 0 ps=((Zv most (h++ps.flatten)).1,(Zv most (h++ps.flatten)).2.2)
 | [],h,hs=>by simp [ZbK,hs]
 | c::cs,h,hs=>by
  rw [Znp,Wp,<-Wa,ZQK most _ (h++c) cs.flatten (Xx _)]
  by_cases h0:(Zv most (h++c)).2.2=0
  ·rw [if_pos h0,h0,Zsr most cs _ (Zzc most _ (h++c) (Xx _) h0)]
  ·rw [if_neg h0,Zpx most _ _ h0,Xm]
theorem ZOq (most:Int) (ps:List Zc):ZbK most [] 0 ps=((Zv most ps.flatten).1,(Zv most ps.flatten).2.2):=by
 rw [Zsr most ps [] (ZhQ most),Xw]
end
section
end
section
def ZqK:Zf:=(.seq (.region [oI 21 (.build [(.int .i64 0),(.int .i64 0),(.str []),(.str []),(.lst true [])] []),oN (.st 5 (.t 4) (.t 21)),oI 5 (.mov (.c (.bool false)))] none [5,4]) .ret)
def Zqn:Zf:=ZqK
def ZIJ:=xw Zqn ZqK rfl
def Zja:Zf:=(.seq (.region [oI 11 (.bin .lss (.t 10) (.t 9))] none [11,10,9,8,4,0]) (.seq (.cond (.t 11) .skip (.exit 0)) (.seq (.block 1 (.seq (.region [oI 12 (.iaddr 5 (.t 8) (.t 10)),oI 13 (.ld (some 5) (.t 12)),oI 7 (.alloc [(.int .i64 0),(.int .i64 0),(.str []),(.str []),(.lst true [])]),oN (.st 5 (.t 7) (.t 13))] none [10,9,8,7,4,0]) (.seq (.region [oF 14 0 7,oL 15 14,oM 16 0,oI 17 (.bin .eql (.t 15) (.t 16))] none [17,10,9,8,7,4,0]) (.cond (.t 17) (.seq (.region [oI 18 (.ld (some 5) (.t 7)),oI 19 (.call 87 0 true [(.t 18)]),oN (.st 5 (.t 4) (.t 19)),oI 5 (.mov (.c (.bool true)))] none [5,4]) .ret) .skip)))) (.region [oI 20 (.bin .add (.t 10) (.c (.int .i64 1))),oM 10 20] none [10,9,8,4,0]))))
def Zq7:Zf:=Zja
def ZoS:=xw Zq7 Zja rfl
def Zqx:Zf:=(.seq (.region [oI 4 (.alloc [(.int .i64 0),(.int .i64 0),(.str []),(.str []),(.lst true [])]),oI 5 (.mov (.c (.bool false)))] none [4,1,0]) (.seq (.seq (.region [oM 8 1,oI 9 (.len (.t 8)),oI 10 (.mov (.c (.int .i64 0)))] none [10,9,8,4,0]) (.block 0 (.loop [10,9,8,4,0] Zq7))) Zqn))
def Znc:ZQ:=⟨[(.cell 4 (some 5)),(.tmp 5)],Zqx⟩
theorem ZOx:FC 80=some Znc:=by kernel_rfl
theorem ZG9:Znc.body=Zqx:=rfl
theorem ZvW:Znc.res=[(.cell 4 (some 5)),(.tmp 5)]:=rfl
noncomputable def ZkL (m:Nat) (tm:Tms) (σ:Za):Option (AVal×Za):=(Zav m Znc (ZbT FC PR BY m Zqn (Wd (Za7 0) (evL FC PR BY m [10,9,8,4,0] Zq7 tm σ))))
def Zqa:Zf:=(.seq (.region [oI 2 (.mov (.c (.int .i64 0)))] none [0]) (.seq (.region [oM 3 0,oI 4 (.call 86 0 true [(.t 3)]),oI 5 (.field none 0 (.t 4)),oM 2 5] none [2]) .ret))
def Zrs:ZQ:=⟨[(.tmp 2)],Zqa⟩
theorem ZFS:FC 84=some Zrs:=by kernel_rfl
theorem ZyP:Zrs.body=Zqa:=rfl
theorem ZMA:Zrs.res=[(.tmp 2)]:=rfl
def ZgA:Zf:=(.seq (.region [oM 26 6,oI 27 (.len (.t 26)),oI 28 (.call 14 0 true [(.t 27)]),oM 25 28,oI 29 (.ext (.t 25) 0),oI 30 (.ext (.t 25) 1),oM 9 29,oM 10 30] none [10,9,6,1,0]) (.seq (.seq (.region [oM 31 10,oI 32 (.bin .neq (.t 31) (.c (.int .i64 0)))] none [32,9,6,1,0]) (.cond (.t 32) (.seq (.region [oI 4 (.mov (.c (.lst true []))),oI 5 (.mov (.c (.int .i64 129)))] none [5,4]) .ret) .skip)) (.seq (.region [oM 33 9,oM 34 6,oI 35 (.bslice false 1 2 (.lst true []) [(0,(.t 33)),(1,(.t 34))]),oI 36 (.call 15 0 true [(.t 35)]),oM 6 36] none [6,1,0]) (.seq (.region [oM 38 0,oM 39 6,oI 40 (.call 57 0 true [(.t 38),(.t 39)]),oM 37 40,oI 41 (.ext (.t 37) 0),oI 42 (.ext (.t 37) 1),oI 43 (.ext (.t 37) 2),oM 11 41,oM 12 42,oM 13 43] none [13,12,11,6,1]) (.seq (.seq (.region [oM 44 13,oI 45 (.bin .neq (.t 44) (.c (.int .i64 0))),oM 46 45,⟨(some 47),(.mov (.t 12)),(some (46,false)),[]⟩,⟨(some 48),(.mov (.t 6)),(some (46,false)),[]⟩,⟨(some 49),(.len (.t 48)),(some (46,false)),[]⟩,⟨(some 50),(.bin .neq (.t 47) (.t 49)),(some (46,false)),[]⟩,oI 51 (.pick (.t 46) (.c (.bool true)) (.t 50)),oM 52 51,⟨(some 53),(.mov (.t 11)),(some (52,false)),[]⟩,⟨(some 54),(.mov (.t 1)),(some (52,false)),[]⟩,⟨(some 55),(.call 24 0 true [(.t 53),(.t 54)]),(some (52,false)),[]⟩,⟨(some 56),(.un .not (.t 55)),(some (52,false)),[]⟩,oI 57 (.pick (.t 52) (.c (.bool true)) (.t 56))] none [57,6]) (.cond (.t 57) (.seq (.region [oI 4 (.mov (.c (.lst true []))),oI 5 (.mov (.c (.int .i64 129)))] none [5,4]) .ret) .skip)) (.seq (.region [oM 58 6,oM 4 58,oI 5 (.mov (.c (.int .i64 0)))] none [5,4]) .ret))))))
def ZqX:Zf:=ZgA
def Zih:=xw ZqX ZgA rfl
def Ze2:Zf:=(.seq (.region [oI 17 (.bin .lss (.t 16) (.t 15))] none [17,16,15,14,6,1,0]) (.seq (.cond (.t 17) .skip (.exit 0)) (.seq (.block 1 (.seq (.region [oI 18 (.iaddr 5 (.t 14) (.t 16)),oI 19 (.ld (some 5) (.t 18)),oI 8 (.alloc [(.int .i64 0),(.int .i64 0),(.str []),(.str []),(.lst true [])]),oN (.st 5 (.t 8) (.t 19))] none [16,15,14,8,6,1,0]) (.region [oM 20 6,oI 21 (.ld (some 5) (.t 8)),oI 22 (.call 73 0 true [(.t 21)]),oI 23 (.app 1 1 (.int .u8 0) (.t 20) (.t 22)),oM 6 23] none [16,15,14,6,1,0]))) (.region [oI 24 (.bin .add (.t 16) (.c (.int .i64 1))),oM 16 24] none [16,15,14,6,1,0]))))
def Zoe:Zf:=Ze2
def Zgb:=xw Zoe Ze2 rfl
def Zng:Zf:=(.seq (.region [oI 4 (.mov (.c (.lst true []))),oI 5 (.mov (.c (.int .i64 0)))] none [1,0]) (.seq (.region [oI 6 (.mov (.c (.lst true [])))] none [6,1,0]) (.seq (.seq (.region [oM 14 1,oI 15 (.len (.t 14)),oI 16 (.mov (.c (.int .i64 0)))] none [16,15,14,6,1,0]) (.block 0 (.loop [16,15,14,6,1,0] Zoe))) ZqX)))
def ZkP:ZQ:=⟨[(.tmp 4),(.tmp 5)],Zng⟩
theorem Zwm:FC 62=some ZkP:=by kernel_rfl
theorem ZwY:ZkP.body=Zng:=rfl
theorem ZhJ:ZkP.res=[(.tmp 4),(.tmp 5)]:=rfl
noncomputable def Zi8 (m:Nat) (tm:Tms) (σ:Za):Option (AVal×Za):=(Zav m ZkP (ZbT FC PR BY m ZqX (Wd (Za7 0) (evL FC PR BY m [16,15,14,6,1,0] Zoe tm σ))))
def Zi6:Zf:=(.seq (.region [oI 4 (.mov (.c (.bool false)))] none [1,0]) (.seq (.region [oM 5 1,oI 6 (.bin .geq (.t 5) (.c (.int .i64 1))),oM 7 6,⟨(some 8),(.mov (.t 1)),(some (7,true)),[]⟩,⟨(some 9),(.bin .leq (.t 8) (.c (.int .i64 16))),(some (7,true)),[]⟩,oI 10 (.pick (.t 7) (.t 9) (.c (.bool false))),oM 11 10,⟨(some 12),(.mov (.t 0)),(some (11,true)),[]⟩,⟨(some 13),(.call 86 0 true [(.t 12)]),(some (11,true)),[]⟩,⟨(some 14),(.field none 1 (.t 13)),(some (11,true)),[]⟩,⟨(some 15),(.mov (.t 1)),(some (11,true)),[]⟩,⟨(some 16),(.bin .shr (.t 14) (.t 15)),(some (11,true)),[]⟩,⟨(some 17),(.bin .and (.t 16) (.c (.int .i64 1))),(some (11,true)),[]⟩,⟨(some 18),(.bin .eql (.t 17) (.c (.int .i64 1))),(some (11,true)),[]⟩,oI 19 (.pick (.t 11) (.t 18) (.c (.bool false))),oM 4 19] none [4]) .ret))
def Zqd:ZQ:=⟨[(.tmp 4)],Zi6⟩
theorem ZAN:FC 78=some Zqd:=by kernel_rfl
theorem Zrh:Zqd.body=Zi6:=rfl
theorem ZnC:Zqd.res=[(.tmp 4)]:=rfl
def Zla:Zf:=(.seq (.region [oM 57 4,oM 58 8,oM 59 7,oI 60 (.bin .add (.t 58) (.t 59)),oM 4 57,oM 5 60,oI 6 (.mov (.c (.int .i64 0)))] none [6,5,4]) .ret)
def Zq5:Zf:=Zla
def Zte:=xw Zq5 Zla rfl
def Zf2:Zf:=(.seq (.seq (.region [oM 36 10,oI 37 (.len (.t 36)),oI 38 (.bin .gtr (.t 37) (.c (.int .i64 0)))] none [38,10,8,7,4,0]) (.cond (.t 38) .skip (.exit 0))) (.block 1 (.seq (.region [oM 40 0,oM 41 10,oM 42 4,oI 43 (.call 70 0 true [(.t 40),(.t 41),(.t 42)]),oM 39 43,oI 44 (.ext (.t 39) 0),oI 45 (.ext (.t 39) 1),oI 46 (.ext (.t 39) 2),oI 11 (.alloc [(.int .i64 0),(.int .i64 0),(.str []),(.str []),(.lst true [])]),oN (.st 5 (.t 11) (.t 44)),oM 12 45,oM 13 46] none [13,12,11,10,8,7,4,0]) (.seq (.seq (.region [oM 47 13,oI 48 (.bin .neq (.t 47) (.c (.int .i64 0)))] none [48,13,12,11,10,8,7,4,0]) (.cond (.t 48) (.seq (.region [oM 49 13,oI 4 (.mov (.c (.lst true []))),oI 5 (.mov (.c (.int .i64 0))),oM 6 49] none [6,5,4]) .ret) .skip)) (.seq (.region [oM 50 4,oI 51 (.ld (some 5) (.t 11)),oI 52 (.bslice false 5 1 (.agg [(.int .i64 0),(.int .i64 0),(.str []),(.str []),(.lst true [])]) [(0,(.t 51))]),oI 53 (.app 5 72 (.agg [(.int .i64 0),(.int .i64 0),(.str []),(.str []),(.lst true [])]) (.t 50) (.t 52)),oM 4 53] none [12,10,8,7,4,0]) (.region [oM 54 10,oM 55 12,oI 56 (.slice 1 (.t 54) (some (.t 55)) none none),oM 10 56] none [10,8,7,4,0]))))))
def Zry:Zf:=Zf2
def Zik:=xw Zry Zf2 rfl
def Zj0:Zf:=(.seq (.region [oI 4 (.mov (.c (.lst true []))),oI 5 (.mov (.c (.int .i64 0))),oI 6 (.mov (.c (.int .i64 0)))] none [4,1,0]) (.seq (.region [oM 15 1,oI 16 (.call 53 0 true [(.t 15)]),oM 14 16,oI 17 (.ext (.t 14) 0),oI 18 (.ext (.t 14) 1),oI 19 (.ext (.t 14) 2),oM 7 17,oM 8 18,oM 9 19] none [9,8,7,4,1,0]) (.seq (.seq (.region [oM 20 9,oI 21 (.bin .neq (.t 20) (.c (.int .i64 0))),oM 22 21,⟨(some 23),(.mov (.t 7)),(some (22,false)),[]⟩,⟨(some 24),(.mov (.t 1)),(some (22,false)),[]⟩,⟨(some 25),(.len (.t 24)),(some (22,false)),[]⟩,⟨(some 26),(.mov (.t 8)),(some (22,false)),[]⟩,⟨(some 27),(.bin .sub (.t 25) (.t 26)),(some (22,false)),[]⟩,⟨(some 28),(.bin .gtr (.t 23) (.t 27)),(some (22,false)),[]⟩,oI 29 (.pick (.t 22) (.c (.bool true)) (.t 28))] none [29,8,7,4,1,0]) (.cond (.t 29) (.seq (.region [oI 4 (.mov (.c (.lst true []))),oI 5 (.mov (.c (.int .i64 0))),oI 6 (.mov (.c (.int .i64 129)))] none [6,5,4]) .ret) .skip)) (.seq (.seq (.region [oM 30 1,oM 31 8,oM 32 8,oM 33 7,oI 34 (.bin .add (.t 32) (.t 33)),oI 35 (.slice 1 (.t 30) (some (.t 31)) (some (.t 34)) none),oM 10 35] none [10,8,7,4,0]) (.block 0 (.loop [10,8,7,4,0] Zry))) Zq5))))
def Zmx:ZQ:=⟨[(.tmp 4),(.tmp 5),(.tmp 6)],Zj0⟩
theorem ZqJ:FC 57=some Zmx:=by kernel_rfl
theorem Zob:Zmx.body=Zj0:=rfl
theorem Ziu:Zmx.res=[(.tmp 4),(.tmp 5),(.tmp 6)]:=rfl
noncomputable def ZiQ (m:Nat) (tm:Tms) (σ:Za):Option (AVal×Za):=(Zav m Zmx (ZbT FC PR BY m Zq5 (Wd (Za7 0) (evL FC PR BY m [10,8,7,4,0] Zry tm σ))))
def Zqy:Zf:=(.seq (.region [oI 4 (.mov (.c (.bool false)))] none [1,0]) (.seq (.region [oM 5 0,oM 6 1,oI 7 (.call 44 0 true [(.t 5),(.t 6),(.c (.fn 45 []))]),oM 4 7] none [4]) .ret))
def Zrf:ZQ:=⟨[(.tmp 4)],Zqy⟩
theorem ZPR:FC 24=some Zrf:=by kernel_rfl
theorem ZDh:Zrf.body=Zqy:=rfl
theorem Zzx:Zrf.res=[(.tmp 4)]:=rfl
def ZrS:Zf:=(.seq (.region [oI 2 (.box (.t 0)),oI 3 (.box (.t 1)),oI 4 (.mov (.c (.bool false)))] none [3,2]) (.seq (.region [oF 5 0 2,oL 6 5,oF 7 0 3,oL 8 7,oI 9 (.bin .eql (.t 6) (.t 8)),oM 10 9,⟨(some 11),(.faddr 1 (.t 2)),(some (10,true)),[]⟩,⟨(some 12),(.ld none (.t 11)),(some (10,true)),[]⟩,⟨(some 13),(.faddr 1 (.t 3)),(some (10,true)),[]⟩,⟨(some 14),(.ld none (.t 13)),(some (10,true)),[]⟩,⟨(some 15),(.bin .eql (.t 12) (.t 14)),(some (10,true)),[]⟩,oI 16 (.pick (.t 10) (.t 15) (.c (.bool false))),oM 17 16,⟨(some 18),(.faddr 2 (.t 2)),(some (17,true)),[]⟩,⟨(some 19),(.ld none (.t 18)),(some (17,true)),[]⟩,⟨(some 20),(.faddr 2 (.t 3)),(some (17,true)),[]⟩,⟨(some 21),(.ld none (.t 20)),(some (17,true)),[]⟩,⟨(some 22),(.bin .eql (.t 19) (.t 21)),(some (17,true)),[]⟩,oI 23 (.pick (.t 17) (.t 22) (.c (.bool false))),oM 24 23,⟨(some 25),(.faddr 3 (.t 2)),(some (24,true)),[]⟩,⟨(some 26),(.ld none (.t 25)),(some (24,true)),[]⟩,⟨(some 27),(.faddr 3 (.t 3)),(some (24,true)),[]⟩,⟨(some 28),(.ld none (.t 27)),(some (24,true)),[]⟩,⟨(some 29),(.bin .eql (.t 26) (.t 28)),(some (24,true)),[]⟩,oI 30 (.pick (.t 24) (.t 29) (.c (.bool false))),oM 31 30,⟨(some 32),(.faddr 4 (.t 2)),(some (31,true)),[]⟩,⟨(some 33),(.ld none (.t 32)),(some (31,true)),[]⟩,⟨(some 34),(.b2s (.t 33)),(some (31,true)),[]⟩,⟨(some 35),(.faddr 4 (.t 3)),(some (31,true)),[]⟩,⟨(some 36),(.ld none (.t 35)),(some (31,true)),[]⟩,⟨(some 37),(.b2s (.t 36)),(some (31,true)),[]⟩,⟨(some 38),(.bin .eql (.t 34) (.t 37)),(some (31,true)),[]⟩,oI 39 (.pick (.t 31) (.t 38) (.c (.bool false))),oM 4 39] none [4]) .ret))
def ZrN:ZQ:=⟨[(.tmp 4)],ZrS⟩
theorem ZAw:FC 45=some ZrN:=by kernel_rfl
theorem ZM2:ZrN.body=ZrS:=rfl
theorem ZPs:ZrN.res=[(.tmp 4)]:=rfl
def ZrK:Zf:=(.seq (.region [oI 1 (.box (.t 0)),oI 2 (.alloc [(.int .i64 0),(.int .i64 0),(.str []),(.str []),(.lst true [])])] none [2,1]) (.seq (.region [oF 3 4 1,oL 4 3,oI 5 (.call 58 0 true [(.t 4)]),oF 6 4 1,oN (.st 1 (.t 6) (.t 5))] none [2,1]) (.seq (.region [oI 7 (.ld (some 5) (.t 1)),oN (.st 5 (.t 2) (.t 7))] none [2]) .ret)))
def ZpW:ZQ:=⟨[(.cell 2 (some 5))],ZrK⟩
theorem ZM9:FC 87=some ZpW:=by kernel_rfl
theorem ZEA:ZpW.body=ZrK:=rfl
theorem ZNd:ZpW.res=[(.cell 2 (some 5))]:=rfl
def Zqq:Zf:=(.seq (.region [oI 1 (.box (.t 0)),oI 2 (.mov (.c (.bool false)))] none [1]) (.seq (.seq (.region [oF 3 0 1,oL 4 3] none [4,1]) (.block 0 (.seq (.seq (.region [oI 6 (.bin .eql (.t 4) (.c (.int .i64 11))),oM 5 6] none [5,4,1]) (.cond (.t 5) .skip (.seq (.region [oI 7 (.bin .eql (.t 4) (.c (.int .i64 33))),oM 5 7] none [5,4,1]) (.cond (.t 5) .skip (.seq (.region [oI 8 (.bin .eql (.t 4) (.c (.int .i64 35))),oM 5 8] none [5,4,1]) (.cond (.t 5) .skip (.region [oI 9 (.bin .eql (.t 4) (.c (.int .i64 39))),oM 5 9] none [5,1]))))))) (.cond (.t 5) (.seq (.region [oF 10 1 1,oL 11 10,oI 12 (.bin .neq (.t 11) (.c (.int .i64 0))),oM 2 12] none [2]) .ret) .skip)))) (.seq (.region [oF 13 0 1,oL 14 13,oI 15 (.call 84 0 true [(.t 14)]),oI 16 (.bin .neq (.t 15) (.c (.int .i64 1))),oM 17 16,⟨(some 18),(.faddr 1 (.t 1)),(some (17,false)),[]⟩,⟨(some 19),(.ld none (.t 18)),(some (17,false)),[]⟩,⟨(some 20),(.bin .leq (.t 19) (.c (.int .i64 1))),(some (17,false)),[]⟩,oI 21 (.pick (.t 17) (.c (.bool true)) (.t 20)),oM 2 21] none [2]) .ret)))
def Zoc:ZQ:=⟨[(.tmp 2)],Zqq⟩
theorem ZPO:FC 82=some Zoc:=by kernel_rfl
theorem ZMs:Zoc.body=Zqq:=rfl
theorem ZFM:Zoc.res=[(.tmp 2)]:=rfl
def ZeL:Zf:=(.seq (.region [oI 1 (.box (.t 0)),oI 2 (.mov (.c (.lst true [])))] none [1]) (.seq (.region [oF 8 0 1,oL 9 8,oI 10 (.call 14 0 true [(.t 9)]),oM 7 10,oI 11 (.ext (.t 7) 0),oI 12 (.ext (.t 7) 1),oM 3 11,oM 4 12] none [3,1]) (.seq (.region [oI 5 (.mov (.c (.lst true []))),oI 6 (.mov (.c (.lst true [])))] none [6,5,3,1]) (.seq (.seq (.region [oF 13 0 1,oL 14 13,oI 15 (.call 84 0 true [(.t 14)])] none [15,6,5,3,1]) (.block 0 (.seq (.seq (.region [oI 17 (.bin .eql (.t 15) (.c (.int .i64 1))),oM 16 17] none [16,15,6,5,3,1]) (.cond (.t 16) .skip (.seq (.region [oI 18 (.bin .eql (.t 15) (.c (.int .i64 2))),oM 16 18] none [16,15,6,5,3,1]) (.cond (.t 16) .skip (.region [oI 19 (.bin .eql (.t 15) (.c (.int .i64 3))),oM 16 19] none [16,15,6,5,3,1]))))) (.cond (.t 16) (.region [oF 20 1 1,oL 21 20,oI 22 (.i2i .u64 (.t 21)),oF 23 0 1,oL 24 23,oI 25 (.call 84 0 true [(.t 24)]),oI 26 (.bin .sub (.t 25) (.c (.int .i64 1))),oI 27 (.bin .shl (.c (.int .i64 1)) (.t 26)),oI 28 (.call 61 0 true [(.t 22),(.t 27)]),oM 5 28] (some [(1,4),(1,5),(5,5),(8,8)]) [6,5,3]) (.seq (.region [oI 30 (.bin .eql (.t 15) (.c (.int .i64 4))),oM 29 30] none [29,15,6,5,3,1]) (.cond (.t 29) (.region [oF 32 1 1,oL 33 32,oI 34 (.call 14 0 true [(.t 33)]),oM 31 34,oI 35 (.ext (.t 31) 0),oI 36 (.ext (.t 31) 1),oM 5 35] none [6,5,3]) (.seq (.region [oI 38 (.bin .eql (.t 15) (.c (.int .i64 5))),oM 37 38] none [37,15,6,5,3,1]) (.cond (.t 37) (.region [oF 40 2 1,oL 41 40,oI 42 (.call 63 0 true [(.t 41)]),oM 39 42,oI 43 (.ext (.t 39) 0),oI 44 (.ext (.t 39) 1),oM 5 43] none [6,5,3]) (.seq (.region [oI 46 (.bin .eql (.t 15) (.c (.int .i64 6))),oM 45 46] none [45,15,6,5,3,1]) (.cond (.t 45) (.region [oF 48 4 1,oL 49 48,oI 50 (.call 72 0 true [(.t 49)]),oM 47 50,oI 51 (.ext (.t 47) 0),oI 52 (.ext (.t 47) 1),oM 5 51] none [6,5,3]) (.seq (.region [oI 54 (.bin .eql (.t 15) (.c (.int .i64 7))),oM 53 54] none [53,6,5,3,1]) (.cond (.t 53) (.seq (.region [oF 56 2 1,oL 57 56,oI 58 (.call 63 0 true [(.t 57)]),oM 55 58,oI 59 (.ext (.t 55) 0),oI 60 (.ext (.t 55) 1),oM 5 59] none [5,3,1]) (.region [oF 62 3 1,oL 63 62,oI 64 (.call 63 0 true [(.t 63)]),oM 61 64,oI 65 (.ext (.t 61) 0),oI 66 (.ext (.t 61) 1),oM 6 65] none [6,5,3])) .skip)))))))))))) (.seq (.region [oM 67 3,oM 68 5,oM 69 6,oI 70 (.bslice false 1 3 (.lst true []) [(0,(.t 67)),(1,(.t 68)),(2,(.t 69))]),oI 71 (.call 15 0 true [(.t 70)]),oM 2 71] none [2]) .ret)))))
def Zqi:ZQ:=⟨[(.tmp 2)],ZeL⟩
theorem ZfO:FC 73=some Zqi:=by kernel_rfl
theorem Zgg:Zqi.body=ZeL:=rfl
theorem Zf6:Zqi.res=[(.tmp 2)]:=rfl
def Znw:Zf:=(.seq (.region [oI 2 (.alloc [(.int .i64 0),(.int .i64 0)])] none [2,0]) (.seq (.seq (.region [oM 3 0] none [3,2]) (.block 0 (.seq (.region [oI 5 (.bin .eql (.t 3) (.c (.int .i64 1))),oM 4 5] none [4,3,2]) (.cond (.t 4) (.seq (.region [oI 6 (.bslice false 1 2 (.int .i64 0) [(0,(.c (.int .i64 3))),(1,(.c (.int .i64 16)))]),oI 7 (.call 89 0 true [(.t 6)]),oI 8 (.build [(.int .i64 0),(.int .i64 0)] [(0,1,(.c (.int .i64 1))),(1,1,(.t 7))]),oN (.st 2 (.t 2) (.t 8))] none [2]) .ret) (.seq (.region [oI 10 (.bin .eql (.t 3) (.c (.int .i64 2))),oM 9 10] none [9,3,2]) (.cond (.t 9) (.seq (.region [oI 11 (.bslice false 1 2 (.int .i64 0) [(0,(.c (.int .i64 3))),(1,(.c (.int .i64 16)))]),oI 12 (.call 89 0 true [(.t 11)]),oI 13 (.build [(.int .i64 0),(.int .i64 0)] [(0,1,(.c (.int .i64 3))),(1,1,(.t 12))]),oN (.st 2 (.t 2) (.t 13))] none [2]) .ret) (.seq (.seq (.region [oI 15 (.bin .eql (.t 3) (.c (.int .i64 3))),oM 14 15] none [14,3,2]) (.cond (.t 14) .skip (.region [oI 16 (.bin .eql (.t 3) (.c (.int .i64 8))),oM 14 16] none [14,3,2]))) (.cond (.t 14) (.seq (.region [oI 17 (.bslice false 1 2 (.int .i64 0) [(0,(.c (.int .i64 3))),(1,(.c (.int .i64 16)))]),oI 18 (.call 89 0 true [(.t 17)]),oI 19 (.build [(.int .i64 0),(.int .i64 0)] [(0,1,(.c (.int .i64 5))),(1,1,(.t 18))]),oN (.st 2 (.t 2) (.t 19))] none [2]) .ret) (.seq (.region [oI 21 (.bin .eql (.t 3) (.c (.int .i64 9))),oM 20 21] none [20,3,2]) (.cond (.t 20) (.seq (.region [oI 22 (.bslice false 1 2 (.int .i64 0) [(0,(.c (.int .i64 3))),(1,(.c (.int .i64 16)))]),oI 23 (.call 89 0 true [(.t 22)]),oI 24 (.build [(.int .i64 0),(.int .i64 0)] [(0,1,(.c (.int .i64 6))),(1,1,(.t 23))]),oN (.st 2 (.t 2) (.t 24))] none [2]) .ret) (.seq (.region [oI 26 (.bin .eql (.t 3) (.c (.int .i64 11))),oM 25 26] none [25,3,2]) (.cond (.t 25) (.seq (.region [oI 27 (.bslice false 1 2 (.int .i64 0) [(0,(.c (.int .i64 3))),(1,(.c (.int .i64 8)))]),oI 28 (.call 89 0 true [(.t 27)]),oI 29 (.build [(.int .i64 0),(.int .i64 0)] [(0,1,(.c (.int .i64 4))),(1,1,(.t 28))]),oN (.st 2 (.t 2) (.t 29))] none [2]) .ret) (.seq (.region [oI 31 (.bin .eql (.t 3) (.c (.int .i64 17))),oM 30 31] none [30,3,2]) (.cond (.t 30) (.seq (.region [oI 32 (.bslice false 1 3 (.int .i64 0) [(0,(.c (.int .i64 1))),(1,(.c (.int .i64 2))),(2,(.c (.int .i64 14)))]),oI 33 (.call 89 0 true [(.t 32)]),oI 34 (.build [(.int .i64 0),(.int .i64 0)] [(0,1,(.c (.int .i64 3))),(1,1,(.t 33))]),oN (.st 2 (.t 2) (.t 34))] none [2]) .ret) (.seq (.seq (.region [oI 36 (.bin .eql (.t 3) (.c (.int .i64 18))),oM 35 36] none [35,3,2]) (.cond (.t 35) .skip (.region [oI 37 (.bin .eql (.t 3) (.c (.int .i64 26))),oM 35 37] none [35,3,2]))) (.cond (.t 35) (.seq (.region [oI 38 (.bslice false 1 1 (.int .i64 0) [(0,(.c (.int .i64 2)))]),oI 39 (.call 89 0 true [(.t 38)]),oI 40 (.build [(.int .i64 0),(.int .i64 0)] [(0,1,(.c (.int .i64 5))),(1,1,(.t 39))]),oN (.st 2 (.t 2) (.t 40))] none [2]) .ret) (.seq (.region [oI 42 (.bin .eql (.t 3) (.c (.int .i64 19))),oM 41 42] none [41,3,2]) (.cond (.t 41) (.seq (.region [oI 43 (.bslice false 1 1 (.int .i64 0) [(0,(.c (.int .i64 2)))]),oI 44 (.call 89 0 true [(.t 43)]),oI 45 (.build [(.int .i64 0),(.int .i64 0)] [(0,1,(.c (.int .i64 2))),(1,1,(.t 44))]),oN (.st 2 (.t 2) (.t 45))] none [2]) .ret) (.seq (.region [oI 47 (.bin .eql (.t 3) (.c (.int .i64 21))),oM 46 47] none [46,3,2]) (.cond (.t 46) (.seq (.region [oI 48 (.bslice false 1 3 (.int .i64 0) [(0,(.c (.int .i64 1))),(1,(.c (.int .i64 2))),(2,(.c (.int .i64 15)))]),oI 49 (.call 89 0 true [(.t 48)]),oI 50 (.build [(.int .i64 0),(.int .i64 0)] [(0,1,(.c (.int .i64 5))),(1,1,(.t 49))]),oN (.st 2 (.t 2) (.t 50))] none [2]) .ret) (.seq (.region [oI 52 (.bin .eql (.t 3) (.c (.int .i64 22))),oM 51 52] none [51,3,2]) (.cond (.t 51) (.seq (.region [oI 53 (.bslice false 1 3 (.int .i64 0) [(0,(.c (.int .i64 1))),(1,(.c (.int .i64 2))),(2,(.c (.int .i64 15)))]),oI 54 (.call 89 0 true [(.t 53)]),oI 55 (.build [(.int .i64 0),(.int .i64 0)] [(0,1,(.c (.int .i64 6))),(1,1,(.t 54))]),oN (.st 2 (.t 2) (.t 55))] none [2]) .ret) (.seq (.seq (.region [oI 57 (.bin .eql (.t 3) (.c (.int .i64 23))),oM 56 57] none [56,3,2]) (.cond (.t 56) .skip (.region [oI 58 (.bin .eql (.t 3) (.c (.int .i64 25))),oM 56 58] none [56,3,2]))) (.cond (.t 56) (.seq (.region [oI 59 (.bslice false 1 1 (.int .i64 0) [(0,(.c (.int .i64 1)))]),oI 60 (.call 89 0 true [(.t 59)]),oI 61 (.build [(.int .i64 0),(.int .i64 0)] [(0,1,(.c (.int .i64 1))),(1,1,(.t 60))]),oN (.st 2 (.t 2) (.t 61))] none [2]) .ret) (.seq (.region [oI 63 (.bin .eql (.t 3) (.c (.int .i64 24))),oM 62 63] none [62,3,2]) (.cond (.t 62) (.seq (.region [oI 64 (.bslice false 1 1 (.int .i64 0) [(0,(.c (.int .i64 16)))]),oI 65 (.call 89 0 true [(.t 64)]),oI 66 (.build [(.int .i64 0),(.int .i64 0)] [(0,1,(.c (.int .i64 3))),(1,1,(.t 65))]),oN (.st 2 (.t 2) (.t 66))] none [2]) .ret) (.seq (.region [oI 68 (.bin .eql (.t 3) (.c (.int .i64 28))),oM 67 68] none [67,3,2]) (.cond (.t 67) (.seq (.region [oI 69 (.bslice false 1 2 (.int .i64 0) [(0,(.c (.int .i64 2))),(1,(.c (.int .i64 14)))]),oI 70 (.call 89 0 true [(.t 69)]),oI 71 (.build [(.int .i64 0),(.int .i64 0)] [(0,1,(.c (.int .i64 5))),(1,1,(.t 70))]),oN (.st 2 (.t 2) (.t 71))] none [2]) .ret) (.seq (.region [oI 73 (.bin .eql (.t 3) (.c (.int .i64 31))),oM 72 73] none [72,3,2]) (.cond (.t 72) (.seq (.region [oI 74 (.bslice false 1 9 (.int .i64 0) [(0,(.c (.int .i64 2))),(1,(.c (.int .i64 4))),(2,(.c (.int .i64 5))),(3,(.c (.int .i64 6))),(4,(.c (.int .i64 7))),(5,(.c (.int .i64 9))),(6,(.c (.int .i64 11))),(7,(.c (.int .i64 14))),(8,(.c (.int .i64 15)))]),oI 75 (.call 89 0 true [(.t 74)]),oI 76 (.build [(.int .i64 0),(.int .i64 0)] [(0,1,(.c (.int .i64 5))),(1,1,(.t 75))]),oN (.st 2 (.t 2) (.t 76))] none [2]) .ret) (.seq (.seq (.region [oI 78 (.bin .eql (.t 3) (.c (.int .i64 33))),oM 77 78] none [77,3,2]) (.cond (.t 77) .skip (.region [oI 79 (.bin .eql (.t 3) (.c (.int .i64 34))),oM 77 79] none [77,3,2]))) (.cond (.t 77) (.seq (.region [oI 80 (.bslice false 1 2 (.int .i64 0) [(0,(.c (.int .i64 1))),(1,(.c (.int .i64 2)))]),oI 81 (.call 89 0 true [(.t 80)]),oI 82 (.build [(.int .i64 0),(.int .i64 0)] [(0,1,(.c (.int .i64 2))),(1,1,(.t 81))]),oN (.st 2 (.t 2) (.t 82))] none [2]) .ret) (.seq (.region [oI 84 (.bin .eql (.t 3) (.c (.int .i64 35))),oM 83 84] none [83,3,2]) (.cond (.t 83) (.seq (.region [oI 85 (.bslice false 1 1 (.int .i64 0) [(0,(.c (.int .i64 3)))]),oI 86 (.call 89 0 true [(.t 85)]),oI 87 (.build [(.int .i64 0),(.int .i64 0)] [(0,1,(.c (.int .i64 2))),(1,1,(.t 86))]),oN (.st 2 (.t 2) (.t 87))] none [2]) .ret) (.seq (.region [oI 89 (.bin .eql (.t 3) (.c (.int .i64 39))),oM 88 89] none [88,3,2]) (.cond (.t 88) (.seq (.region [oI 90 (.bslice false 1 2 (.int .i64 0) [(0,(.c (.int .i64 1))),(1,(.c (.int .i64 2)))]),oI 91 (.call 89 0 true [(.t 90)]),oI 92 (.build [(.int .i64 0),(.int .i64 0)] [(0,1,(.c (.int .i64 3))),(1,1,(.t 91))]),oN (.st 2 (.t 2) (.t 92))] none [2]) .ret) (.seq (.seq (.region [oI 94 (.bin .eql (.t 3) (.c (.int .i64 36))),oM 93 94] none [93,3,2]) (.cond (.t 93) .skip (.seq (.region [oI 95 (.bin .eql (.t 3) (.c (.int .i64 37))),oM 93 95] none [93,3,2]) (.cond (.t 93) .skip (.seq (.region [oI 96 (.bin .eql (.t 3) (.c (.int .i64 40))),oM 93 96] none [93,3,2]) (.cond (.t 93) .skip (.seq (.region [oI 97 (.bin .eql (.t 3) (.c (.int .i64 41))),oM 93 97] none [93,3,2]) (.cond (.t 93) .skip (.region [oI 98 (.bin .eql (.t 3) (.c (.int .i64 42))),oM 93 98] none [93,3,2]))))))))) (.cond (.t 93) (.seq (.region [oI 99 (.bslice false 1 1 (.int .i64 0) [(0,(.c (.int .i64 2)))]),oI 100 (.call 89 0 true [(.t 99)]),oI 101 (.build [(.int .i64 0),(.int .i64 0)] [(0,1,(.c (.int .i64 1))),(1,1,(.t 100))]),oN (.st 2 (.t 2) (.t 101))] none [2]) .ret) (.seq (.region [oI 103 (.bin .eql (.t 3) (.c (.int .i64 38))),oM 102 103] none [102,2]) (.cond (.t 102) (.seq (.region [oI 104 (.bslice false 1 3 (.int .i64 0) [(0,(.c (.int .i64 0))),(1,(.c (.int .i64 12))),(2,(.c (.int .i64 13)))]),oI 105 (.call 89 0 true [(.t 104)]),oI 106 (.un .xor (.t 105)),oI 107 (.build [(.int .i64 0),(.int .i64 0)] [(0,1,(.c (.int .i64 7))),(1,1,(.t 106))]),oN (.st 2 (.t 2) (.t 107))] none [2]) .ret) .skip)))))))))))))))))))))))))))))))))))))))) (.seq (.region [oI 108 (.build [(.int .i64 0),(.int .i64 0)] []),oN (.st 2 (.t 2) (.t 108))] none [2]) .ret)))
def ZpQ:ZQ:=⟨[(.cell 2 (some 2))],Znw⟩
theorem ZKc:FC 86=some ZpQ:=by kernel_rfl
theorem ZPm:ZpQ.body=Znw:=rfl
theorem ZNR:ZpQ.res=[(.cell 2 (some 2))]:=rfl
def ZpR:Zf:=(.seq (.region [oI 4 (.mov (.c (.bool false)))] none [1,0]) (.seq (.region [oM 5 0,oI 6 (.bin .eql (.t 5) (.c (.int .i64 38))),oM 7 6,⟨(some 8),(.mov (.t 0)),(some (7,false)),[]⟩,⟨(some 9),(.bin .eql (.t 8) (.c (.int .i64 11))),(some (7,false)),[]⟩,⟨(some 10),(.mov (.t 9)),(some (7,false)),[]⟩,⟨(some 11),(.mov (.t 1)),(some (10,true)),[]⟩,⟨(some 12),(.bin .eql (.t 11) (.c (.int .i64 3))),(some (10,true)),[]⟩,⟨(some 13),(.pick (.t 10) (.t 12) (.c (.bool false))),(some (7,false)),[]⟩,oI 14 (.pick (.t 7) (.c (.bool true)) (.t 13)),oM 4 14] none [4]) .ret))
def Zno:ZQ:=⟨[(.tmp 4)],ZpR⟩
theorem ZHa:FC 81=some Zno:=by kernel_rfl
theorem ZE0:Zno.body=ZpR:=rfl
theorem Zx6:Zno.res=[(.tmp 4)]:=rfl
def Ze6:Zf:=(.seq (.region [oI 6 (.alloc [(.int .i64 0),(.int .i64 0),(.str []),(.str []),(.lst true [])]),oI 7 (.mov (.c (.int .i64 0))),oI 8 (.mov (.c (.int .i64 0)))] none [6,2,1,0]) (.seq (.region [oM 16 1,oI 17 (.call 53 0 true [(.t 16)]),oM 15 17,oI 18 (.ext (.t 15) 0),oI 19 (.ext (.t 15) 1),oI 20 (.ext (.t 15) 2),oM 9 18,oM 10 19,oM 11 20] none [11,10,9,6,2,1,0]) (.seq (.seq (.region [oM 21 11,oI 22 (.bin .neq (.t 21) (.c (.int .i64 0))),oM 23 22,⟨(some 24),(.mov (.t 9)),(some (23,false)),[]⟩,⟨(some 25),(.mov (.t 0)),(some (23,false)),[]⟩,⟨(some 26),(.call 78 0 true [(.t 24),(.t 25)]),(some (23,false)),[]⟩,⟨(some 27),(.un .not (.t 26)),(some (23,false)),[]⟩,oI 28 (.pick (.t 23) (.c (.bool true)) (.t 27))] none [28,10,9,6,2,1,0]) (.cond (.t 28) (.seq (.region [oI 29 (.ld (some 5) (.t 6)),oN (.st 5 (.t 6) (.t 29)),oI 7 (.mov (.c (.int .i64 0))),oI 8 (.mov (.c (.int .i64 129)))] none [8,7,6]) .ret) .skip)) (.seq (.region [oM 31 9,oM 32 1,oM 33 10,oI 34 (.slice 1 (.t 32) (some (.t 33)) none none),oI 35 (.call 79 0 true [(.t 31),(.t 34)]),oM 30 35,oI 36 (.ext (.t 30) 0),oI 37 (.ext (.t 30) 1),oI 38 (.ext (.t 30) 2),oN (.st 5 (.t 6) (.t 36)),oM 7 37,oM 12 38] none [12,10,9,7,6,2,0]) (.seq (.region [oM 40 9,oM 41 2,oI 42 (.call 80 0 true [(.t 40),(.t 41)]),oM 39 42,oI 43 (.ext (.t 39) 0),oI 44 (.ext (.t 39) 1),oI 13 (.alloc [(.int .i64 0),(.int .i64 0),(.str []),(.str []),(.lst true [])]),oN (.st 5 (.t 13) (.t 43)),oM 14 44] none [14,12,10,9,7,6,0]) (.seq (.block 0 (.seq (.region [oM 46 12,oI 47 (.un .not (.t 46)),oM 45 47] none [45,14,10,9,7,6,0]) (.cond (.t 45) (.seq (.region [oI 48 (.ld (some 5) (.t 6)),oN (.st 5 (.t 6) (.t 48)),oI 7 (.mov (.c (.int .i64 0))),oI 8 (.mov (.c (.int .i64 129)))] none [8,7,6]) .ret) (.seq (.region [oM 50 14,oM 51 50,⟨(some 52),(.mov (.t 9)),(some (51,true)),[]⟩,⟨(some 53),(.mov (.t 0)),(some (51,true)),[]⟩,⟨(some 54),(.call 81 0 true [(.t 52),(.t 53)]),(some (51,true)),[]⟩,⟨(some 55),(.un .not (.t 54)),(some (51,true)),[]⟩,oI 56 (.pick (.t 51) (.t 55) (.c (.bool false))),oM 49 56] none [49,10,9,7,6]) (.cond (.t 49) (.seq (.region [oI 57 (.ld (some 5) (.t 6)),oN (.st 5 (.t 6) (.t 57)),oI 7 (.mov (.c (.int .i64 0))),oI 8 (.mov (.c (.int .i64 130)))] none [8,7,6]) .ret) (.seq (.region [oI 59 (.ld (some 5) (.t 6)),oI 60 (.call 82 0 true [(.t 59)]),oM 58 60] none [58,10,9,7,6]) (.cond (.t 58) (.seq (.region [oI 61 (.ld (some 5) (.t 6)),oM 62 10,oM 63 7,oI 64 (.bin .add (.t 62) (.t 63)),oN (.st 5 (.t 6) (.t 61)),oM 7 64,oI 8 (.mov (.c (.int .i64 0)))] none [8,7,6]) .ret) (.seq (.region [oM 66 9,oI 67 (.bin .eql (.t 66) (.c (.int .i64 35))),oM 65 67] none [65,6]) (.cond (.t 65) (.seq (.region [oI 68 (.ld (some 5) (.t 6)),oN (.st 5 (.t 6) (.t 68)),oI 7 (.mov (.c (.int .i64 0))),oI 8 (.mov (.c (.int .i64 148)))] none [8,7,6]) .ret) .skip))))))))) (.seq (.region [oI 69 (.ld (some 5) (.t 6)),oN (.st 5 (.t 6) (.t 69)),oI 7 (.mov (.c (.int .i64 0))),oI 8 (.mov (.c (.int .i64 130)))] none [8,7,6]) .ret)))))))
def ZoI:ZQ:=⟨[(.cell 6 (some 5)),(.tmp 7),(.tmp 8)],Ze6⟩
theorem ZfU:FC 70=some ZoI:=by kernel_rfl
theorem Zgv:ZoI.body=Ze6:=rfl
theorem Zgo:ZoI.res=[(.cell 6 (some 5)),(.tmp 7),(.tmp 8)]:=rfl
def Zdc:Zf:=(.seq (.region [oI 4 (.alloc [(.int .i64 0),(.int .i64 0),(.str []),(.str []),(.lst true [])]),oI 5 (.mov (.c (.int .i64 0))),oI 6 (.mov (.c (.bool false)))] none [5,4,1,0]) (.seq (.region [oM 9 0,oF 10 0 4,oN (.st 1 (.t 10) (.t 9))] none [5,4,1,0]) (.seq (.region [oI 7 (.mov (.c (.int .i64 0)))] none [7,5,4,1,0]) (.seq (.seq (.region [oM 11 0,oI 12 (.call 84 0 true [(.t 11)])] none [12,7,5,4,1,0]) (.block 0 (.seq (.seq (.region [oI 14 (.bin .eql (.t 12) (.c (.int .i64 1))),oM 13 14] none [13,12,7,5,4,1,0]) (.cond (.t 13) .skip (.seq (.region [oI 15 (.bin .eql (.t 12) (.c (.int .i64 2))),oM 13 15] none [13,12,7,5,4,1,0]) (.cond (.t 13) .skip (.region [oI 16 (.bin .eql (.t 12) (.c (.int .i64 3))),oM 13 16] none [13,12,7,5,4,1,0]))))) (.cond (.t 13) (.seq (.region [oM 17 0,oI 18 (.call 84 0 true [(.t 17)]),oI 19 (.bin .sub (.t 18) (.c (.int .i64 1))),oI 20 (.bin .shl (.c (.int .i64 1)) (.t 19)),oM 5 20] none [7,5,4,1]) (.seq (.seq (.region [oM 21 1,oI 22 (.len (.t 21)),oM 23 5,oI 24 (.bin .lss (.t 22) (.t 23))] none [24,7,5,4,1]) (.cond (.t 24) (.seq (.region [oI 25 (.ld (some 5) (.t 4)),oN (.st 5 (.t 4) (.t 25)),oI 5 (.mov (.c (.int .i64 0))),oI 6 (.mov (.c (.bool false)))] none [6,5,4]) .ret) .skip)) (.region [oM 26 1,oM 27 5,oI 28 (.slice 1 (.t 26) none (some (.t 27)) none),oI 29 (.call 55 0 true [(.t 28)]),oI 30 (.i2i .i64 (.t 29)),oF 31 1 4,oN (.st 1 (.t 31) (.t 30))] none [7,5,4]))) (.seq (.region [oI 33 (.bin .eql (.t 12) (.c (.int .i64 4))),oM 32 33] none [32,12,7,5,4,1]) (.cond (.t 32) (.region [oM 35 1,oI 36 (.call 53 0 true [(.t 35)]),oM 34 36,oI 37 (.ext (.t 34) 0),oI 38 (.ext (.t 34) 1),oI 39 (.ext (.t 34) 2),oF 40 1 4,oN (.st 1 (.t 40) (.t 37)),oM 5 38,oM 7 39] none [7,5,4]) (.seq (.region [oI 42 (.bin .eql (.t 12) (.c (.int .i64 5))),oM 41 42] none [41,12,7,5,4,1]) (.cond (.t 41) (.region [oM 44 1,oI 45 (.call 59 0 true [(.t 44)]),oM 43 45,oI 46 (.ext (.t 43) 0),oI 47 (.ext (.t 43) 1),oI 48 (.ext (.t 43) 2),oF 49 2 4,oN (.st 1 (.t 49) (.t 46)),oM 5 47,oM 7 48] none [7,5,4]) (.seq (.region [oI 51 (.bin .eql (.t 12) (.c (.int .i64 6))),oM 50 51] none [50,12,7,5,4,1]) (.cond (.t 50) (.region [oM 53 1,oI 54 (.call 66 0 true [(.t 53)]),oM 52 54,oI 55 (.ext (.t 52) 0),oI 56 (.ext (.t 52) 1),oI 57 (.ext (.t 52) 2),oF 58 4 4,oN (.st 1 (.t 58) (.t 55)),oM 5 56,oM 7 57] none [7,5,4]) (.seq (.region [oI 60 (.bin .eql (.t 12) (.c (.int .i64 7))),oM 59 60] none [59,7,5,4,1]) (.cond (.t 59) (.seq (.region [oM 62 1,oI 63 (.call 59 0 true [(.t 62)]),oM 61 63,oI 64 (.ext (.t 61) 0),oI 65 (.ext (.t 61) 1),oI 66 (.ext (.t 61) 2),oF 67 2 4,oN (.st 1 (.t 67) (.t 64)),oM 5 65,oM 7 66] none [7,5,4,1]) (.seq (.region [oM 68 7,oI 69 (.bin .eql (.t 68) (.c (.int .i64 0)))] none [69,7,5,4,1]) (.cond (.t 69) (.seq (.region [oI 8 (.mov (.c (.int .i64 0)))] none [5,4,1]) (.seq (.region [oM 71 1,oM 72 5,oI 73 (.slice 1 (.t 71) (some (.t 72)) none none),oI 74 (.call 59 0 true [(.t 73)]),oM 70 74,oI 75 (.ext (.t 70) 0),oI 76 (.ext (.t 70) 1),oI 77 (.ext (.t 70) 2),oF 78 3 4,oN (.st 1 (.t 78) (.t 75)),oM 8 76,oM 7 77] none [8,7,5,4]) (.region [oM 79 5,oM 80 8,oI 81 (.bin .add (.t 79) (.t 80)),oM 5 81] none [7,5,4]))) .skip))) .skip)))))))))))) (.seq (.region [oI 82 (.ld (some 5) (.t 4)),oM 83 5,oM 84 7,oI 85 (.bin .eql (.t 84) (.c (.int .i64 0))),oN (.st 5 (.t 4) (.t 82)),oM 5 83,oM 6 85] none [6,5,4]) .ret)))))
def Zom:ZQ:=⟨[(.cell 4 (some 5)),(.tmp 5),(.tmp 6)],Zdc⟩
theorem Zeo:FC 79=some Zom:=by kernel_rfl
theorem Zd6:Zom.body=Zdc:=rfl
theorem ZdW:Zom.res=[(.cell 4 (some 5)),(.tmp 5),(.tmp 6)]:=rfl
end
section
end
section
def Zs7:List (Int×Int×Int):=[(1,1,65544),(2,3,65544),(3,5,65544),(8,5,65544),(9,6,65544),(11,4,264),(17,3,16390),(18,5,4),(26,5,4),(19,2,4),(21,5,32774),(22,6,32774),(23,1,2),(25,1,2),(24,3,65536),(28,5,16388),(31,5,51956),(33,2,6),(34,2,6),(35,2,8),(39,3,6),(36,1,4),(37,1,4),(40,1,4),(41,1,4),(42,1,4),(38,7,-12290)]
def ofF (id:Int):Int×Int:=(Zs7.lookup id).getD (0,0)
def Zcc (id:Int):Int:=(ofF id).1
def Zgj (id:Int):Prop:=id=1\/id=2\/id=3\/id=8\/id=9\/id=11\/id=17\/id=18\/id=26\/id=19\/id=21\/id=22\/id=23\/id=25\/id=24\/id=28\/id=31\/id=33\/id=34\/id=35\/id=39\/id=36\/id=37\/id=40\/id=41\/id=42\/id=38
instance (id:Int):Decidable (Zgj id):=by unfold Zgj;infer_instance
theorem ZtS {id:Int} (h:¬Zgj id):(id == 1)=false/\(id == 2)=false/\(id == 3)=false/\(id == 8)=false/\(id == 9)=false/\(id == 11)=false/\(id == 17)=false/\(id == 18)=false/\(id == 26)=false/\(id == 19)=false/\(id == 21)=false/\(id == 22)=false/\(id == 23)=false/\(id == 25)=false/\(id == 24)=false/\(id == 28)=false/\(id == 31)=false/\(id == 33)=false/\(id == 34)=false/\(id == 35)=false/\(id == 39)=false/\(id == 36)=false/\(id == 37)=false/\(id == 40)=false/\(id == 41)=false/\(id == 42)=false/\(id == 38)=false:=by
 unfold Zgj at h
 simp only [not_or] at h
 simp only [beq_eq_false_iff_ne,ne_eq]
 exact h
theorem Ztj {id:Int} (h:¬Zgj id):ofF id=(0,0):=by
 obtain ⟨h1,h2,h3,h8,h9,h11,h17,h18,h26,h19,h21,h22,h23,h25,h24,h28,h31,h33,h34,h35,h39,h36,h37,h40,h41,h42,h38⟩:=ZtS h
 simp only [ofF,Zs7,List.lookup,h1,h2,h3,h8,h9,h11,h17,h18,h26,h19,h21,h22,h23,h25,h24,h28,h31,h33,h34,h35,h39,h36,h37,h40,h41,h42,h38,Option.getD_none]
theorem ZPX (id:Int):E 86 [.int .i64 id] []=some (.agg [.int .i64 (ofF id).1,.int .i64 (ofF id).2],[]):=by
 by_cases h:Zgj id
 ·rcases h with rfl | rfl | rfl | rfl | rfl | rfl | rfl | rfl | rfl | rfl | rfl | rfl | rfl | rfl | rfl | rfl | rfl | rfl | rfl | rfl | rfl | rfl | rfl | rfl | rfl | rfl | rfl
  all_goals exact ZdK.2 ⟨20,by kernel_rfl⟩
 ·rw [Ztj h]
  obtain ⟨h1,h2,h3,h8,h9,h11,h17,h18,h26,h19,h21,h22,h23,h25,h24,h28,h31,h33,h34,h35,h39,h36,h37,h40,h41,h42,h38⟩:=ZtS h
  rw [Zj (by rfl) ZKc]
  simp -implicitDefEqProofs only [EQA,Zx,Xe,Xc,Xf,Xa,Xg,reduceCtorEq,↓reduceIte,Zd,ZPm,Znw,ZNR,h1,h2,h3,h8,h9,h11,h17,h18,h26,h19,h21,h22,h23,h25,h24,h28,h31,h33,h34,h35,h39,h36,h37,h40,h41,h42,h38,Zau,AVal.cells]
theorem Zsm (σ:Za) (sq own:Nat) (id:Int):Zk E BY σ sq 86 own true [.int .i64 id]=some (.agg [.int .i64 (ofF id).1,.int .i64 (ofF id).2],σ,{}) :=
 ZbI (ZPX id) (by kernel_rfl) rfl rfl rfl (fun _=>rfl) _ _ _
theorem ZD4 (id:Int):E 84 [.int .i64 id] []=some (.int .i64 (Zcc id),[]):=by
 have hC:=fun σ sq own=>Zsm σ sq own id
 unfold Zcc
 rw [Zj (by rfl) ZFS]
 simp -implicitDefEqProofs only [EQA,Xc,Xa,reduceCtorEq,↓reduceIte,ZyP,Zqa,ZMA,hC]
theorem ZjU (σ:Za) (sq own:Nat) (id:Int):Zk E BY σ sq 84 own true [.int .i64 id]=some (.int .i64 (Zcc id),σ,{}) :=
 ZbI (ZD4 id) (by kernel_rfl) rfl rfl rfl (fun _=>rfl) _ _ _
def Ztk (pl w:Int):Int:=IntKind.i64.wrap (((XR IntKind.i64.bits (pl.fdiv (2 ^ min w.toNat IntKind.i64.bits)) &&& XR IntKind.i64.bits 1).toNat:Nat):Int)
def Zhy (id w:Int):Bool:=decide (w>=1) && decide (w<=16) && Ztk (ofF id).2 w == 1
theorem ZQt (id w:Int):E 78 [.int .i64 id,.int .i64 w] []=some (.bool (Zhy id w),[]):=by
 have hC:=fun σ sq own=>Zsm σ sq own id
 unfold Zhy Ztk
 generalize (ofF id).2=pl at *
 rw [Zj (by rfl) ZAN]
 by_cases h1:w>=1
 ·have h2:¬w < 0:=by omega
  by_cases h3:w<=16
  ·simp -implicitDefEqProofs only [EQA,Xc,Xa,ZaN,ZA,unG,reduceCtorEq,↓reduceIte,Zrh,Zi6,ZnC,hC,h1,h2,h3]
  ·simp -implicitDefEqProofs only [EQA,Xc,Xa,ZA,Zal,unG,reduceCtorEq,↓reduceIte,Zrh,Zi6,ZnC,h1,h3]
 ·simp -implicitDefEqProofs only [EQA,Xc,Xa,ZA,Zal,reduceCtorEq,↓reduceIte,Zrh,Zi6,ZnC,h1]
theorem ZEQ (σ:Za) (sq own:Nat) (id w:Int):Zk E BY σ sq 78 own true [.int .i64 id,.int .i64 w]=some (.bool (Zhy id w),σ,{}) :=
 ZbI (ZQt id w) (by kernel_rfl) rfl rfl rfl (fun _=>rfl) _ _ _
end
section
theorem ZuQ (l:List UInt8) (p:Nat):Zfm l p=Lib.decodeL (l.drop p):=by
 have:=Lib.decodeL_drop ⟨l.toArray⟩ p
 simpa [Zfm] using this.symm
def zfG:Nat->List UInt8->Bool
 | 0,_=>true
 | n+1,l=>if l=[] then true else if (Lib.decodeL l).1=0 then false else zfG n (l.drop (Lib.decodeL l).2)
def Zg1 (l:List UInt8):Bool:=zfG l.length l && Lib.validD l
theorem ZKj (l:List UInt8):E 83 [.str l] []=some (.bool (Lib.validD l),[]):=ZdK.2 ⟨1,rfl⟩
theorem ZLk (σ:Za) (sq own:Nat) (view:Bool) (l:List UInt8):Zk E BY σ sq 83 own view [.str l]=some (.bool (Lib.validD l),σ,{}) :=
 ZcU (ZKj l) (by kernel_rfl) (by simp -implicitDefEqProofs only [Zdb,ZbJ,eq_self]) (by simp -implicitDefEqProofs only [ZH,ZbJ,eq_self]) rfl (fun _=>rfl) _ _ _ _
theorem ZuH (s:List UInt8):∀ (n p:Nat),s.length - p<=n->p<=s.length->ZmT 0 [(6,.ref 0 0),(0,.str s)] [.siter s p]=some (.bool (zfG n (s.drop p) && Lib.validD s),[])
 | n,p,hn,hp=>by
  by_cases h:p < s.length
  ·obtain ⟨n,rfl⟩:∃ m,n=m+1:=⟨n - 1,by omega⟩
   have hw:=Lib.decodeL_width (s.drop p)
   have hne:s.drop p≠[]:=by rw [ne_eq,X4];omega
   have hle:=Lib.decodeL_le (s.drop p) hne
   rw [Wb] at hle
   have ih:=ZuH s n (p+(Lib.decodeL (s.drop p)).2) (by omega) (by omega)
   rw [<-Xai] at ih
   unfold ZmT at ih ⊢
   rw [ZL]
   by_cases hz:(Lib.decodeL (s.drop p)).1=0
   ·have hz':((Lib.decodeL (s.drop p)).1:Int)=0:=by omega
    simp -implicitDefEqProofs only [EQA,Xc,Xa,reduceCtorEq,↓reduceIte,Zsy,Zoy,ZiZ,h,ZuQ,hz']
    rw [zfG,if_neg hne,if_pos hz];rfl
   ·have hz':(((Lib.decodeL (s.drop p)).1:Int) == 0)=false:=by rw [beq_eq_false_iff_ne];omega
    simp -implicitDefEqProofs only [EQA,ZN,ZaI,Xc,Xa,reduceCtorEq,↓reduceIte,gcT,gcA,Zy,Zt,Zi,Zq,ZO,Zl,ZF,Zz,ZC,Zoy,ZiZ,h,ZuQ,hz']
    rw [ih,zfG,if_neg hne,if_neg hz]
  ·have he:s.drop p=[]:=by rw [X4];omega
   unfold ZmT
   rw [ZL]
   simp -implicitDefEqProofs only [EQA,Xc,Xa,reduceCtorEq,↓reduceIte,Zsy,ZPp,ZqD,Zoy,ZiZ,h,ZLk]
   rw [he]
   cases n <;> simp [zfG]
theorem ZGC (s:List UInt8):E 71 [.str s] []=some (.bool (Zg1 s),[]):=by
 rw [Zj (by rfl) ZJe]
 have:=ZuH s s.length 0 (by omega) (by omega)
 unfold ZmT at this
 simp -implicitDefEqProofs only [EQA,ZN,ZaI,Xc,Xg,reduceCtorEq,↓reduceIte,gcT,gcA,Zy,Zt,Zi,Zq,ZO,Zl,ZF,Zz,ZC,ZKi,Zoi]
 rw [this,WD];rfl
theorem Zwn (σ:Za) (sq own:Nat) (view:Bool) (l:List UInt8):Zk E BY σ sq 71 own view [.str l]=some (.bool (Zg1 l),σ,{}) :=
 ZcU (ZGC l) (by kernel_rfl) (by simp -implicitDefEqProofs only [Zdb,ZbJ,eq_self]) (by simp -implicitDefEqProofs only [ZH,ZbJ,eq_self]) rfl (fun _=>rfl) _ _ _ _
theorem wrap_i64 {n:Int} (h0:-9223372036854775808<=n) (h:n<=9223372036854775807):IntKind.i64.wrap n=n:=ZaV h0 h
end
section
theorem ZuL (σ:Za) (l:Zc) (k1 k2:IntKind) (lo hi:Int) (h0:0<=lo) (h1:lo<=hi) (h2:hi<=(l.length:Int)):Zbj σ 1 (.lst false (l.map Zb)) (some (.int k1 lo)) (some (.int k2 hi)) none=some (.lst false (((l.take hi.toNat).drop lo.toNat).map Zb),σ,{}):=by
 have hh:0<=hi:=by omega
 have h3:lo<=((hi.toNat:Nat):Int):=by omega
 have hk:=ZcE l
 simp only [Zbj,Zbg,Zc7,XW,hh,h2,and_self,if_true,h0,h3,hk,XaS,Xaj,Xi,if_false,Xaa,XaF,XaO]
theorem Zft (σ:Za) (l:Zc) (k1:IntKind) (lo:Int) (h0:0<=lo) (h1:lo<=(l.length:Int)):Zbj σ 1 (.lst false (l.map Zb)) (some (.int k1 lo)) none none=some (.lst false ((l.drop lo.toNat).map Zb),σ,{}):=by
 have hk:=ZcE l
 simp only [Zbj,Zbg,Zc7,XW,and_self,if_true,h0,h1,hk,XaS,Xaj,Xi,if_false,Xaa,XaO]
 rw [XK (by simp)]
def byT (x:Zc×Int):AVal:=.tup [.lst false (x.1.map Zb),.int .i64 x.2]
theorem ZIH (b:Zc) (h:b.length<=9223372036854775807):IntKind.u64.wrap (b.length:Int)=(b.length:Int):=by rw [IntKind.wrap_u64];omega
theorem ZIZ (b:Zc) (hl:b.length<=9223372036854775807):∃ f,E 72 [ZW b] []=some (.tup [.lst f ((ZbQ b).1.map Zb),.int .i64 (ZbQ b).2],[]):=by
 unfold ZbQ
 by_cases h:b.length > 65535
 ·refine ⟨true,?_⟩
  have h':(b.length:Int) > 65535:=by omega
  rw [Zj (by rfl) Zsb,if_pos h]
  simp -implicitDefEqProofs only [EQA,Zx,Xc,Xa,reduceCtorEq,↓reduceIte,Zd,Zv2,ZlV,Zs5,ZW,h']
 ·refine ⟨false,?_⟩
  have h':¬(b.length:Int) > 65535:=by omega
  have hw:=ZIH b hl
  have hP:=fun σ sq own=>ZkM σ sq own b.length 2 (by omega) (by omega)
  have hJ:=fun σ sq own f=>Zhl σ sq own f (beB b.length 2) [b] (by simp) (by simp [Zbt];omega)
  simp only [Xo,XA,ZW,Wp,W6,Xm] at hJ
  have z2:((2:Nat):Int)=2:=rfl
  rw [z2] at hP
  rw [Zj (by rfl) Zsb,if_neg h]
  simp -implicitDefEqProofs only [EQA,Zx,Xc,Xa,reduceCtorEq,↓reduceIte,Zd,Zv2,ZlV,Zs5,ZW,h',hw,hP,hJ,viewAs,ZU,ZP,Zp,AVal.cells]
theorem Zp9 (σ:Za) (sq own:Nat) (f:Bool) (b:Zc) (hl:b.length<=9223372036854775807):Zk E BY σ sq 72 own true [.lst f (b.map Zb)]=some (byT (ZbQ b),σ,{}):=by
 obtain ⟨g,h⟩:=ZIZ b hl
 exact ZbI h (by kernel_rfl) rfl rfl rfl (fun _=>rfl) _ _ _
def Zaq (s:Zc):Zc×Int:=if Zg1 s then ZbQ s else ([],13)
theorem ZFj (s:Zc) (hl:s.length<=9223372036854775807):∃ f,E 63 [.str s] []=some (.tup [.lst f ((Zaq s).1.map Zb),.int .i64 (Zaq s).2],[]):=by
 have hI:=fun σ sq own=>Zwn σ sq own true s
 have hD:=fun σ sq own f=>Zp9 σ sq own f s hl
 unfold Zaq
 cases h:Zg1 s <;> rw [h] at hI
 ·refine ⟨true,?_⟩
  rw [Zj (by rfl) Zxf]
  simp -implicitDefEqProofs only [EQA,Zx,Xc,Xa,unA,reduceCtorEq,↓reduceIte,Zd,Zuj,Zne,Zsv,hI]
 ·refine ⟨false,?_⟩
  rw [Zj (by rfl) Zxf]
  simp -implicitDefEqProofs only [EQA,Zx,Xc,Xa,unA,reduceCtorEq,↓reduceIte,Zd,Zuj,Zne,Zsv,hI,hD,byT]
theorem Zjv (σ:Za) (sq own:Nat) (s:Zc) (hl:s.length<=9223372036854775807):Zk E BY σ sq 63 own true [.str s]=some (byT (Zaq s),σ,{}):=by
 obtain ⟨g,h⟩:=ZFj s hl
 exact ZbI h (by kernel_rfl) rfl rfl rfl (fun _=>rfl) _ _ _
end
section
def gdT (x:Zc×Nat×Int):AVal:=.tup [.lst false (x.1.map Zb),.int .i64 (x.2.1:Nat),.int .i64 x.2.2]
def gtT (x:Zc×Nat×Int):AVal:=.tup [.str x.1,.int .i64 (x.2.1:Nat),.int .i64 x.2.2]
theorem ZB2 (b:Zc) (h:b.length<=2):Zc0 b < 65536:=by
 unfold Zc0
 match b,h with
 | [],_=>simp [ZfC]
 | [a],_=>rw [Zdi,ZfC];have:=a.toNat_lt;omega
 | [a,c],_=>rw [Zdi,Zdi,ZfC];have:=a.toNat_lt;have:=c.toNat_lt;omega
def Zai (b:Zc):Zc×Nat×Int:=if (ZaP b).2.2≠0 then ([],0,(ZaP b).2.2) else if Zg1 (ZaP b).1 then ZaP b else ([],0,13)
theorem ZFz (b:Zc) (hl:b.length<=140737488355328):∃ f,E 66 [ZW b] []=some (.tup [.lst f ((ZaP b).1.map Zb),.int .i64 ((ZaP b).2.1:Nat),.int .i64 (ZaP b).2.2],[]):=by
 have t2:(b.take 2).length<=9223372036854775807:=by simp;omega
 have hG:=fun σ sq own f=>ZlC σ sq own (b.take 2) t2 f
 have hg:=ZB2 (b.take 2) (by simp;omega)
 unfold ZaP
 generalize hGG:Zc0 (b.take 2)=g at *
 have hi:IntKind.i64.wrap (g:Int)=(g:Int):=ZaV (by omega) (by omega)
 by_cases h1:b.length < 2
 ·have h1':(b.length:Int) < 2:=by omega
  refine ⟨true,?_⟩
  rw [Zj (by rfl) Zny,if_pos (Xr h1)]
  simp -implicitDefEqProofs only [EQA,Zx,Xc,Xa,ZA,Zal,reduceCtorEq,↓reduceIte,Zd,ZnT,ZjB,Zps,ZW,h1']
  rfl
 ·have h1':¬(b.length:Int) < 2:=by omega
  have s2:=fun σ kk=>ZhV σ 1 b Zb kk 2 (by omega) (by omega)
  have e2:(2:Int).toNat=2:=rfl
  rw [e2] at s2
  have w1:IntKind.i64.wrap ((b.length:Int) - 2)=((b.length - 2:Nat):Int):=by rw [ZaV (by omega) (by omega)];omega
  by_cases h3:b.length - 2 < g
  ·have h3':((b.length - 2:Nat):Int) < (g:Int):=by omega
   refine ⟨true,?_⟩
   rw [Zj (by rfl) Zny,if_pos (Xv h3)]
   simp -implicitDefEqProofs only [EQA,Zx,Xc,Xa,ZA,unG,reduceCtorEq,↓reduceIte,Zd,ZnT,ZjB,Zps,ZW,h1',s2,hG,hi,w1,h3']
   rfl
  ·have h3':¬((b.length - 2:Nat):Int) < (g:Int):=by omega
   have w2:IntKind.i64.wrap (2+(g:Int))=((2+g:Nat):Int):=by rw [ZaV (by omega) (by omega)];omega
   have s3:=fun σ k1 k2=>ZuL σ b k1 k2 2 ((2+g:Nat):Int) (by omega) (by omega) (by omega)
   have e3:(((2+g:Nat):Int)).toNat=2+g:=rfl
   have e4:(b.take (2+g)).drop 2=(b.drop 2).take g:=by rw [List.drop_take];congr 1;omega
   rw [e2,e3,e4] at s3
   have hJ:=fun σ sq own f=>Zhl σ sq own f ((b.drop 2).take g) [] (by simp) (by simp;omega)
   simp only [Xo,XA,ZW,Wp,W6,Xm] at hJ
   have hc:¬(b.length < 2\/b.length - 2 < g):=by omega
   refine ⟨false,?_⟩
   rw [Zj (by rfl) Zny,if_neg hc]
   simp -implicitDefEqProofs only [EQA,Zx,Xc,Xa,ZA,unG,reduceCtorEq,↓reduceIte,Zd,ZnT,ZjB,Zps,ZW,h1',s2,hG,hi,w1,h3',w2,s3,hJ,viewAs,ZU,ZP,Zp,AVal.cells]
theorem Zmr (σ:Za) (sq own:Nat) (f:Bool) (b:Zc) (hl:b.length<=140737488355328):Zk E BY σ sq 66 own true [.lst f (b.map Zb)]=some (gdT (ZaP b),σ,{}):=by
 obtain ⟨g,h⟩:=ZFz b hl
 exact ZbI h (by kernel_rfl) rfl rfl rfl (fun _=>rfl) _ _ _
theorem ZCq (b:Zc) (hl:b.length<=140737488355328):E 59 [ZW b] []=some (gtT (Zai b),[]):=by
 have hD:=fun σ sq own f=>Zmr σ sq own f b hl
 unfold gdT at hD
 have hI:=fun σ sq own=>Zwn σ sq own true (ZaP b).1
 unfold Zai
 by_cases h0:(ZaP b).2.2=0
 ·have hn0:¬((ZaP b).2.2≠0):=by omega
  have e0:((0:Int) != 0)=false:=rfl
  have hp:ZaP b=((ZaP b).1,(ZaP b).2.1,0):=by rw [<-h0]
  rw [if_neg hn0]
  rw [hp]
  simp only
  rw [h0] at hD
  generalize (ZaP b).1=d at *
  generalize (ZaP b).2.1=u at *
  rw [Zj (by rfl) Zth]
  cases ht:Zg1 d <;> rw [ht] at hI
  ·simp -implicitDefEqProofs only [EQA,Zx,Xc,Xa,unA,reduceCtorEq,ZM,↓reduceIte,Zd,Zro,ZjL,Zo7,ZW,hD,hI,e0,gtT]
   rfl
  ·simp -implicitDefEqProofs only [EQA,Zx,Xc,Xa,unA,reduceCtorEq,ZM,↓reduceIte,Zd,Zro,ZjL,Zo7,ZW,hD,hI,e0,gtT]
 ·have hn0:((ZaP b).2.2≠0):=h0
  have e0:((ZaP b).2.2 != 0)=true:=by simpa using h0
  rw [if_pos hn0]
  generalize (ZaP b).2.2=e at *
  rw [Zj (by rfl) Zth]
  simp -implicitDefEqProofs only [EQA,Zx,Xc,Xa,reduceCtorEq,↓reduceIte,Zd,Zro,ZjL,Zo7,ZW,hD,e0,gtT]
  rfl
theorem ZiL (σ:Za) (sq own:Nat) (f:Bool) (b:Zc) (hl:b.length<=140737488355328):Zk E BY σ sq 59 own true [.lst f (b.map Zb)]=some (gtT (Zai b),σ,{}) :=
 ZbI (ZCq b hl) (by kernel_rfl) rfl rfl rfl (fun _=>rfl) _ _ _
end
section
theorem Zr0 (id:Int):Zcc id=0\/Zcc id=1\/Zcc id=2\/Zcc id=3\/Zcc id=4\/Zcc id=5\/Zcc id=6\/Zcc id=7:=by
 unfold Zcc
 by_cases h:Zgj id
 ·unfold Zgj at h
  rcases h with rfl | rfl | rfl | rfl | rfl | rfl | rfl | rfl | rfl | rfl | rfl | rfl | rfl | rfl | rfl | rfl | rfl | rfl | rfl | rfl | rfl | rfl | rfl | rfl | rfl | rfl | rfl
  all_goals decide
 ·rw [Ztj h];simp
theorem ZA6 (b:Zc) (h:b.length<=4):Zc0 b < 4294967296:=by
 unfold Zc0
 match b,h with
 | [],_=>simp [ZfC]
 | [a],_=>rw [Zdi,ZfC];have:=a.toNat_lt;omega
 | [a,c],_=>rw [Zdi,Zdi,ZfC];have:=a.toNat_lt;have:=c.toNat_lt;omega
 | [a,c,d],_=>rw [Zdi,Zdi,Zdi,ZfC];have:=a.toNat_lt;have:=c.toNat_lt;have:=d.toNat_lt;omega
 | [a,c,d,e],_=>rw [Zdi,Zdi,Zdi,Zdi,ZfC];have:=a.toNat_lt;have:=c.toNat_lt;have:=d.toNat_lt;have:=e.toNat_lt;omega
def Zgk (id:Int) (W:Nat) (b:Zc):ZB×Nat×Bool:=if b.length < W then (⟨id,0,[],[],[]⟩,0,false) else (⟨id,Zc0 (b.take W),[],[],[]⟩,W,true)
def Ziy (id:Int) (b:Zc):ZB×Nat×Bool :=
 if (Zai b).2.2=0 then (⟨id,0,(Zai b).1,(Zai (b.drop (Zai b).2.1)).1,[]⟩,(Zai b).2.1+(Zai (b.drop (Zai b).2.1)).2.1,(Zai (b.drop (Zai b).2.1)).2.2 == 0) else (⟨id,0,[],[],[]⟩,0,false)
def Zfn (k id:Int) (b:Zc):ZB×Nat×Bool :=
 if k=1 then Zgk id 1 b else if k=2 then Zgk id 2 b else if k=3 then Zgk id 4 b
 else if k=4 then (⟨id,(ZY b).1,[],[],[]⟩,(ZY b).2.1,(ZY b).2.2 == 0)
 else if k=5 then (⟨id,0,(Zai b).1,[],[]⟩,(Zai b).2.1,(Zai b).2.2 == 0)
 else if k=6 then (⟨id,0,[],[],(ZaP b).1⟩,(ZaP b).2.1,(ZaP b).2.2 == 0)
 else if k=7 then Ziy id b else (⟨id,0,[],[],[]⟩,0,true)
def Zdh (id:Int) (b:Zc):ZB×Nat×Bool:=Zfn (Zcc id) id b
def ZcP (f:Bool) (x:ZB×Nat×Bool):AVal:=.tup [.agg [.int .i64 x.1.id,.int .i64 x.1.num,.str x.1.text,.str x.1.pair,.lst f (x.1.data.map Zb)],.int .i64 (x.2.1:Nat),.bool x.2.2]
theorem Zma (b:Zc):(ZaP b).2.1<=b.length/\(ZaP b).1.length<=b.length:=by
 unfold ZaP
 by_cases h:b.length < 2\/b.length - 2 < Zc0 (b.take 2)
 ·rw [if_pos h];simp
 ·rw [if_neg h]
  simp only [not_or] at h
  simp;omega
theorem ZiN (b:Zc):(Zai b).2.1<=b.length/\((Zai b).2.2≠0->(Zai b).1=[]/\(Zai b).2.1=0):=by
 have hd:=Zma b
 unfold Zai
 by_cases h:(ZaP b).2.2≠0
 ·rw [if_pos h];simp
 ·rw [if_neg h]
  by_cases ht:Zg1 (ZaP b).1=true
  ·rw [if_pos ht];exact ⟨hd.1,fun h'=>absurd h' h⟩
  ·rw [if_neg ht];simp
theorem Zqm (id:Int) (b:Zc) (hl:b.length<=140737488355328) (k:Int) (W:Nat) (hk:Zcc id=k) (hW:(k=1/\W=1)\/(k=2/\W=2)\/(k=3/\W=4)):E 79 [.int .i64 id,ZW b] []=some (ZcP true (Zgk id W b),[]):=by
 have hC:=fun σ sq own=>ZjU σ sq own id
 rw [hk] at hC
 have hG:=fun σ sq own f=>ZlC σ sq own (b.take W) (by simp;omega) f
 have hg:=ZA6 (b.take W) (by simp;omega)
 unfold Zgk
 generalize Zc0 (b.take W)=g at *
 have hi:IntKind.i64.wrap (g:Int)=(g:Int):=ZaV (by omega) (by omega)
 have hw:∀ W:Nat,W<=b.length->∀ (σ:Za) (kk:IntKind),Zbj σ 1 (.lst false (b.map Zb)) none (some (.int kk (W:Int))) none=some (.lst false ((b.take W).map Zb),σ,{}):=fun W hW σ kk=>by
  have:=ZhV σ 1 b Zb kk (W:Int) (by omega) (by omega)
  exact this
 have z1:((1:Nat):Int)=1:=rfl
 have z2:((2:Nat):Int)=2:=rfl
 have z4:((4:Nat):Int)=4:=rfl
 rcases hW with ⟨rfl,rfl⟩ | ⟨rfl,rfl⟩ | ⟨rfl,rfl⟩
 ·have w1:IntKind.i64.wrap (1 - 1)=0:=rfl
  have w2:IntKind.i64.wrap (1*2 ^ min (WV 0) IntKind.i64.bits)=1:=rfl
  have ng:¬((0:Int) < 0):=by decide
  by_cases h:b.length < 1
  ·have h':(b.length:Int) < 1:=by omega
   rw [Zj (by rfl) Zeo,if_pos h]
   simp -implicitDefEqProofs only [EQA,Zx,Xe,Xc,Xf,Xa,Xg,ZaN,reduceCtorEq,↓reduceIte,Zd,Zd6,Zdc,ZdW,ZW,hC,w1,w2,ng,h',ZcP,AVal.cells]
   rfl
  ·have h':¬(b.length:Int) < 1:=by omega
   have hs:=hw 1 (by omega)
   rw [z1] at hs
   have e0:((0:Int) == 0)=true:=rfl
   rw [Zj (by rfl) Zeo,if_neg h]
   simp -implicitDefEqProofs only [EQA,Zx,Xe,Xc,Xf,Xa,Xg,ZaN,reduceCtorEq,↓reduceIte,Zd,Zd6,Zdc,ZdW,ZW,hC,w1,w2,ng,h',hs,hG,hi,ZcP,AVal.cells]
   rfl
 ·have w1:IntKind.i64.wrap (2 - 1)=1:=rfl
  have w2:IntKind.i64.wrap (1*2 ^ min (WV 1) IntKind.i64.bits)=2:=rfl
  have ng:¬((1:Int) < 0):=by decide
  by_cases h:b.length < 2
  ·have h':(b.length:Int) < 2:=by omega
   rw [Zj (by rfl) Zeo,if_pos h]
   simp -implicitDefEqProofs only [EQA,Zx,Xe,Xc,Xf,Xa,Xg,ZaN,reduceCtorEq,↓reduceIte,Zd,Zd6,Zdc,ZdW,ZW,hC,w1,w2,ng,h',Xq,ZcP,AVal.cells]
   rfl
  ·have h':¬(b.length:Int) < 2:=by omega
   have hs:=hw 2 (by omega)
   rw [z2] at hs
   have e0:((0:Int) == 0)=true:=rfl
   rw [Zj (by rfl) Zeo,if_neg h]
   simp -implicitDefEqProofs only [EQA,Zx,Xe,Xc,Xf,Xa,Xg,ZaN,reduceCtorEq,↓reduceIte,Zd,Zd6,Zdc,ZdW,ZW,hC,w1,w2,ng,h',hs,hG,hi,Xq,ZcP,AVal.cells]
   rfl
 ·have w1:IntKind.i64.wrap (3 - 1)=2:=rfl
  have w2:IntKind.i64.wrap (1*2 ^ min (WV 2) IntKind.i64.bits)=4:=rfl
  have ng:¬((2:Int) < 0):=by decide
  by_cases h:b.length < 4
  ·have h':(b.length:Int) < 4:=by omega
   rw [Zj (by rfl) Zeo,if_pos h]
   simp -implicitDefEqProofs only [EQA,Zx,Xe,Xc,Xf,Xa,Xg,ZaN,reduceCtorEq,↓reduceIte,Zd,Zd6,Zdc,ZdW,ZW,hC,w1,w2,ng,h',Xq,ZcP,AVal.cells]
   rfl
  ·have h':¬(b.length:Int) < 4:=by omega
   have hs:=hw 4 (by omega)
   rw [z4] at hs
   have e0:((0:Int) == 0)=true:=rfl
   rw [Zj (by rfl) Zeo,if_neg h]
   simp -implicitDefEqProofs only [EQA,Zx,Xe,Xc,Xf,Xa,Xg,ZaN,reduceCtorEq,↓reduceIte,Zd,Zd6,Zdc,ZdW,ZW,hC,w1,w2,ng,h',hs,hG,hi,Xq,ZcP,AVal.cells]
   rfl
theorem ZMB (id:Int) (b:Zc) (hl:b.length<=140737488355328):∃ f,E 79 [.int .i64 id,ZW b] []=some (ZcP f (Zdh id b),[]):=by
 unfold Zdh
 have hC:=fun σ sq own=>ZjU σ sq own id
 have hGV:=fun σ sq own f=>Zn2 σ sq own f b (by omega)
 have hGT:=fun σ sq own f=>ZiL σ sq own f b hl
 have hGD:=fun σ sq own f=>Zmr σ sq own f b hl
 have z0:((0:Nat):Int)=0:=rfl
 rcases Zr0 id with hk | hk | hk | hk | hk | hk | hk | hk
 ·refine ⟨true,?_⟩
  rw [hk] at hC ⊢
  rw [show Zfn 0 id b=(⟨id,0,[],[],[]⟩,0,true) from rfl,Zj (by rfl) Zeo]
  have e0:((0:Int) == 0)=true:=rfl
  simp -implicitDefEqProofs only [EQA,Zx,Xe,Xc,Xf,Xa,Xg,reduceCtorEq,↓reduceIte,Zd,Zd6,Zdc,ZdW,ZW,hC,Xq,ZcP,AVal.cells]
  rfl
 ·rw [hk];exact ⟨true,Zqm id b hl 1 1 hk (by simp)⟩
 ·rw [hk];exact ⟨true,Zqm id b hl 2 2 hk (by simp)⟩
 ·rw [hk];exact ⟨true,Zqm id b hl 3 4 hk (by simp)⟩
 ·refine ⟨true,?_⟩
  rw [hk] at hC ⊢
  rw [show Zfn 4 id b=(⟨id,(ZY b).1,[],[],[]⟩,(ZY b).2.1,(ZY b).2.2 == 0) from rfl,Zj (by rfl) Zeo]
  unfold gvT at hGV
  simp -implicitDefEqProofs only [EQA,Zx,Xe,Xc,Xf,Xa,Xg,reduceCtorEq,↓reduceIte,Zd,Zd6,Zdc,ZdW,ZW,hC,hGV,Xq,ZcP,AVal.cells]
 ·refine ⟨true,?_⟩
  rw [hk] at hC ⊢
  rw [show Zfn 5 id b=(⟨id,0,(Zai b).1,[],[]⟩,(Zai b).2.1,(Zai b).2.2 == 0) from rfl,Zj (by rfl) Zeo]
  unfold gtT at hGT
  simp -implicitDefEqProofs only [EQA,Zx,Xe,Xc,Xf,Xa,Xg,reduceCtorEq,↓reduceIte,Zd,Zd6,Zdc,ZdW,ZW,hC,hGT,Xq,ZcP,AVal.cells]
 ·refine ⟨false,?_⟩
  rw [hk] at hC ⊢
  rw [show Zfn 6 id b=(⟨id,0,[],[],(ZaP b).1⟩,(ZaP b).2.1,(ZaP b).2.2 == 0) from rfl,Zj (by rfl) Zeo]
  unfold gdT at hGD
  simp -implicitDefEqProofs only [EQA,Zx,Xe,Xc,Xf,Xa,Xg,reduceCtorEq,↓reduceIte,Zd,Zd6,Zdc,ZdW,ZW,hC,hGD,Xq,ZcP,AVal.cells]
 ·refine ⟨true,?_⟩
  rw [hk] at hC ⊢
  rw [show Zfn 7 id b=Ziy id b from rfl,Zj (by rfl) Zeo]
  unfold gtT at hGT
  unfold Ziy
  have hu:=ZiN b
  by_cases h:(Zai b).2.2=0
  ·have h':((Zai b).2.2 == 0)=true:=by simpa using h
   have hs:=fun σ kk=>Zft σ b kk (((Zai b).2.1:Nat):Int) (by omega) (by omega)
   have e:((((Zai b).2.1:Nat):Int)).toNat=(Zai b).2.1:=rfl
   rw [e] at hs
   have hGT2:=fun σ sq own f=>ZiL σ sq own f (b.drop (Zai b).2.1) (by simp;omega)
   unfold gtT at hGT2
   have hu2:=ZiN (b.drop (Zai b).2.1)
   have hdl:(b.drop (Zai b).2.1).length<=b.length:=by simp
   have hw:IntKind.i64.wrap ((((Zai b).2.1:Nat):Int)+(((Zai (b.drop (Zai b).2.1)).2.1:Nat):Int))=(((Zai b).2.1+(Zai (b.drop (Zai b).2.1)).2.1:Nat):Int):=by
    rw [ZaV (by omega) (by omega)];rfl
   rw [if_pos h]
   rw [h] at hGT
   have e0:((0:Int) == 0)=true:=rfl
   simp -implicitDefEqProofs only [EQA,Zx,Xe,Xc,Xf,Xa,Xg,reduceCtorEq,↓reduceIte,Zd,Zd6,Zdc,ZdW,ZW,hC,hGT,hs,hGT2,hw,Xq,ZcP,AVal.cells]
  ·have h':((Zai b).2.2 == 0)=false:=by simpa using h
   rw [if_neg h]
   obtain ⟨x1,x2⟩:=hu.2 h
   rw [x1,x2] at hGT
   simp -implicitDefEqProofs only [EQA,Zx,Xe,Xc,Xf,Xa,Xg,reduceCtorEq,↓reduceIte,Zd,Zd6,Zdc,ZdW,ZW,hC,hGT,h',Xq,ZcP,AVal.cells]
theorem ZMH (σ:Za) (sq own:Nat) (f:Bool) (id:Int) (b:Zc) (hl:b.length<=140737488355328):Zk E BY σ sq 79 own true [.int .i64 id,.lst f (b.map Zb)]=some (ZcP false (Zdh id b),σ,{}):=by
 obtain ⟨g,h⟩:=ZMB id b hl
 exact ZbI h (by kernel_rfl) rfl rfl rfl (fun _=>rfl) _ _ _
end
section
end
section
def ZqY (b:Bool):AVal:=.tup [.agg [.int .i64 0,.int .i64 0,.str [],.str [],.lst b []],.bool false]
theorem ZHP (l:Zc):kOk 1 (l.map Zb)=true:=by cases l <;> rfl
theorem ZxZ (l:Zc) (h:l.length<=140737488355328):E 58 [.lst false (l.map Zb)] []=some (.sl 0 0 0 (l.map Zb).length,[.row 0 1 (l.map Zb)]):=by
 refine ZdK.2 ⟨1,?_⟩
 show Zjq 1 1 [.lst false (l.map Zb)] []=_
 have h1:(l.map Zb).length*1<=140737488355328/\kOk 1 (l.map Zb)=true:=⟨by simpa using h,ZHP l⟩
 simp only [Zjq,ZM]
 rw [if_pos h1];rfl
theorem Zpn (σ:Za) (sq own:Nat) (l:Zc) (h:l.length<=140737488355328):Zk E BY σ sq 58 own true [.lst false (l.map Zb)]=some (.lst false (l.map Zb),σ,{}) :=
 Zpg (bf:=BY) (ZxZ l h) rfl rfl rfl σ sq own
theorem ZI5 (p:ZB) (h:p.data.length<=140737488355328):E 87 [Zu p] []=some (Zu p,[]):=by
 have hC:=fun σ sq own=>Zpn σ sq own p.data h
 rw [Zj (by rfl) ZM9]
 simp -implicitDefEqProofs only [EQA,ZH,Zx,Xe,Xc,Xf,Xa,Xg,↓reduceIte,Zd,ZEA,ZrK,ZNd,ZW,Zu,ZbZ,hC]
theorem ZO8 (σ:Za) (sq own:Nat) (p:ZB) (h:p.data.length<=140737488355328):Zk E BY σ sq 87 own true [.agg [.int .i64 p.id,.int .i64 p.num,.str p.text,.str p.pair,.lst false (p.data.map Zb)]]=some (.agg [.int .i64 p.id,.int .i64 p.num,.str p.text,.str p.pair,.lst false (p.data.map Zb)],σ,{}) :=
 ZcU (ZI5 p h) (by kernel_rfl) (by simp -implicitDefEqProofs only [Zdb,ZbJ,eq_self,ZW,Zu,ZbZ]) (by simp -implicitDefEqProofs only [Zdb,ZH,ZbJ,eq_self,ZW,Zu,ZbZ]) rfl (fun _=>rfl) _ _ _ _
def ZgZ (id:Int):List ZB->AVal
 | []=>ZqY true
 | p::r=>if p.id == id then .tup [Zu p,.bool true] else ZgZ id r
theorem Zve (l:List ZB) (hl:l.length<=9223372036854775807) (hd:∀ p ∈ l,p.data.length<=140737488355328) (id:Int):∀ (r:List ZB) (i:Nat),l.drop i=r ->
  ZkL 0 [(10,.int .i64 i),(9,.int .i64 l.length),(8,.lst false (l.map Zu)),(4,.ref 0 0),(0,.int .i64 id)] [.var [.int .i64 0,.int .i64 0,.str [],.str [],.lst true []]]=some (ZgZ id r,[])
 | [],i,h=>by
  have h1:=Zdy h
  unfold ZkL
  rw [ZL,ZgZ]
  simp -implicitDefEqProofs only [EQA,Zx,Xe,Xc,Xf,Xa,reduceCtorEq,↓reduceIte,Zd,ZvW,ZIJ,ZqK,ZoS,Zja,h1,ZqY,Zau,AVal.cells]
 | p::r,i,h=>by
  have ih:=Zve l hl hd id r (i+1) (Zah h).2.1
  have h1:(i:Int) < l.length:=by have:=(Zah h).2.2;omega
  have e1:=iad (Zah h).1 Zu (k:=5) rfl
  have e3:=ZcI h1 hl
  have hC:=fun σ sq own=>ZO8 σ sq own p (hd p (Xz (Zah h).1))
  unfold ZkL at ih ⊢
  rw [ZL,ZgZ]
  cases hb:(p.id == id)
  ·simp -implicitDefEqProofs only [EQA,ZH,ZN,ZaI,Xe,Xc,Xf,Xa,Xg,reduceCtorEq,↓reduceIte,gcT,gcA,Zy,Zt,Zi,Zq,ZO,Zl,ZF,Zz,ZC,ZoS,Zja,ZW,Zu,ZbZ,h1,e1,e3,hb]
   exact ih
  ·simp -implicitDefEqProofs only [EQA,ZH,Zx,Xe,Xc,Xf,Xa,Xg,reduceCtorEq,↓reduceIte,Zd,ZvW,ZoS,Zja,ZW,Zu,ZbZ,h1,e1,hb,hC]
theorem ZBL (l:List ZB) (hl:l.length<=9223372036854775807) (hd:∀ p ∈ l,p.data.length<=140737488355328) (id:Int):E 80 [.int .i64 id,Zbk l] []=some (ZgZ id l,[]):=by
 have:=Zve l hl hd id l 0 rfl
 have z0:((0:Nat):Int)=0:=rfl
 rw [z0] at this
 unfold ZkL at this
 rw [Zj (by rfl) ZOx]
 simp -implicitDefEqProofs only [EQA,ZN,ZaI,Xc,Xa,Xg,reduceCtorEq,↓reduceIte,gcT,gcA,Zy,Zt,Zi,Zq,ZO,Zl,ZF,Zz,ZC,ZG9,Zqx,Zbk]
 exact this
def ZfK (id:Int) (l:List ZB):Option ZB:=l.find? (fun p=>p.id == id)
def Zp2 (b:Bool):Option ZB->AVal
 | none=>ZqY b
 | some p=>.tup [Zu p,.bool true]
theorem Zxl (id:Int):∀ l:List ZB,ZgZ id l=Zp2 true (ZfK id l)
 | []=>rfl
 | p::r=>by
  have ih:=Zxl id r
  unfold ZfK at ih ⊢
  rw [ZgZ,List.find?_cons]
  cases h:(p.id == id)
  ·simpa using ih
  ·rfl
theorem Zz2 (σ:Za) (sq own:Nat) (l:List ZB) (hl:l.length<=9223372036854775807) (hd:∀ p ∈ l,p.data.length<=140737488355328) (id:Int):Zk E BY σ sq 80 own true [.int .i64 id,.lst false (l.map Zu)]=some (Zp2 false (ZfK id l),σ,{}):=by
 have h:=ZBL l hl hd id
 rw [Zxl] at h
 cases hf:ZfK id l with
 | none=>rw [hf] at h;exact ZbI h (by kernel_rfl) rfl rfl rfl (fun _=>rfl) σ sq own
 | some p =>
  rw [hf] at h
  exact ZbI h (by kernel_rfl) rfl rfl rfl (fun _=>rfl) σ sq own
def Zfs:ZB:=⟨0,0,[],[],[]⟩
theorem ZG1 (o:Option ZB):Zp2 false o=.tup [.agg [.int .i64 (o.getD Zfs).id,.int .i64 (o.getD Zfs).num,.str (o.getD Zfs).text,.str (o.getD Zfs).pair,.lst false ((o.getD Zfs).data.map Zb)],.bool o.isSome]:=by
 cases o <;> rfl
end
section
def Zii (id w:Int):Bool:=id == 38 || (id == 11 && w == 3)
def Zhr (id num:Int):Bool:=if id == 11 || id == 33 || id == 35 || id == 39 then num != 0 else Zcc id != 1 || decide (num<=1)
theorem ZMx (id w:Int):E 81 [.int .i64 id,.int .i64 w] []=some (.bool (Zii id w),[]):=by
 rw [Zj (by rfl) ZHa]
 unfold Zii
 cases h1:(id == 38) <;> cases h2:(id == 11)
 all_goals simp -implicitDefEqProofs only [EQA,Xc,Xa,ZA,Zal,unG,reduceCtorEq,↓reduceIte,ZE0,ZpR,Zx6,h1,h2]
theorem ZHb (σ:Za) (sq own:Nat) (id w:Int):Zk E BY σ sq 81 own true [.int .i64 id,.int .i64 w]=some (.bool (Zii id w),σ,{}) :=
 ZbI (ZMx id w) (by kernel_rfl) rfl rfl rfl (fun _=>rfl) _ _ _
theorem ZKP (p:ZB):E 82 [Zu p] []=some (.bool (Zhr p.id p.num),[]):=by
 have hC:=fun σ sq own=>ZjU σ sq own p.id
 rw [Zj (by rfl) ZPO]
 unfold Zhr
 cases h1:(p.id == 11) <;> cases h2:(p.id == 33) <;> cases h3:(p.id == 35) <;> cases h4:(p.id == 39)
 all_goals simp -implicitDefEqProofs only [EQA,ZH,ZN,ZxJ,Zdq,Xc,Xa,Xg,ZA,Zal,unG,ite_self,↓reduceIte,ZMs,Zqq,ZFM,ZW,Zu,ZbZ,hC,h1,h2,h3,h4]
theorem ZO6 (σ:Za) (sq own:Nat) (p:ZB):Zk E BY σ sq 82 own true [.agg [.int .i64 p.id,.int .i64 p.num,.str p.text,.str p.pair,.lst false (p.data.map Zb)]]=some (.bool (Zhr p.id p.num),σ,{}) :=
 ZbI (ZKP p) (by kernel_rfl) rfl rfl rfl (fun _=>rfl) _ _ _
end
section
theorem Zue:∀ (b:Zc) (i n:Nat),(gvA i n b).2.2=0->i < (gvA i n b).2.1/\(gvA i n b).2.1<=i+b.length
 | [],i,n,h=>by
  unfold gvA at h
  split at h <;> simp at h
 | c::r,i,n,h=>by
  unfold gvA at h ⊢
  split at h
  ·simp at h
  ·rename_i h4
   rw [if_neg h4]
   split at h
   ·rename_i hc
    rw [if_pos hc]
    split at h
    ·simp at h
    ·rename_i h0
     rw [if_neg h0]
     simp
   ·rename_i hc
    rw [if_neg hc]
    have:=Zue r (i+1) _ h
    simp only [XF]
    omega
theorem Zrg (b:Zc) (h:(ZY b).2.2=0):0 < (ZY b).2.1/\(ZY b).2.1<=b.length:=by
 have:=Zue b 0 0 h
 simpa [ZY] using this
theorem ZyN (id:Int) (b:Zc):(Zdh id b).1.id=id:=by
 unfold Zdh Zfn Zgk Ziy
 repeat' split
 all_goals rfl
theorem ZPY (id:Int) (b:Zc):(Zdh id b).1.data.length<=b.length:=by
 unfold Zdh Zfn Zgk Ziy
 repeat' split
 all_goals first
  | exact (Zma b).2
  | exact Nat.zero_le _
theorem ZsL:∀ (b:Zc) (i n:Nat),(gvA i n b).2.1<=i+b.length
 | [],i,n=>by unfold gvA;split <;> simp
 | c::r,i,n=>by
  unfold gvA
  repeat' split
  all_goals simp only [XF]
  all_goals first
   | omega
   | (have:=ZsL r (i+1) (n+c.toNat % 128*128 ^ i);omega)
theorem Zsn (b:Zc):(ZY b).2.1<=b.length:=by simpa [ZY] using ZsL b 0 0
theorem Zsk (id:Int) (b:Zc):(Zdh id b).2.1<=b.length:=by
 have h1:=(ZiN b).1
 have h2:=(ZiN (b.drop (Zai b).2.1)).1
 have h3:=Zsn b
 have h4:=(Zma b).1
 simp only [Wb] at h2
 unfold Zdh Zfn Zgk Ziy
 repeat' split
 all_goals simp only
 all_goals omega
def ZqQ (w:Int) (l:List ZB) (id:Int) (u:Nat) (v:ZB×Nat×Bool):ZB×Nat×Int :=
 if v.2.2=false then (v.1,0,129) else if ((ZfK id l).isSome && !Zii id w)=true then (v.1,0,130) else
 if Zhr v.1.id v.1.num=true then (v.1,u+v.2.1,0) else if (id == 35)=true then (v.1,0,148) else (v.1,0,130)
def Zb4 (w:Int) (b:Zc) (l:List ZB):ZB×Nat×Int :=
 if (ZY b).2.2≠0\/Zhy ((ZY b).1:Nat) w=false then (Zfs,0,129)
 else ZqQ w l ((ZY b).1:Nat) (ZY b).2.1 (Zdh ((ZY b).1:Nat) (b.drop (ZY b).2.1))
def Zdl (f:Bool) (x:ZB×Nat×Int):AVal:=.tup [.agg [.int .i64 x.1.id,.int .i64 x.1.num,.str x.1.text,.str x.1.pair,.lst f (x.1.data.map Zb)],.int .i64 (x.2.1:Nat),.int .i64 x.2.2]
theorem ZsY (w:Int) (b:Zc) (l:List ZB) (hl:b.length<=140737488355328) (hl2:l.length<=9223372036854775807) (hd:∀ p ∈ l,p.data.length<=140737488355328):∃ f,E 70 [.int .i64 w,ZW b,Zbk l] []=some (Zdl f (Zb4 w b l),[]):=by
 have hGV:=fun σ sq own f=>Zn2 σ sq own f b (by omega)
 have hu:=Zrg b
 unfold Zb4
 rcases hx:ZY b with ⟨n,u,e⟩
 rw [hx] at hGV hu
 unfold gvT at hGV
 simp only at hGV hu ⊢
 have hM:=fun σ sq own=>ZEQ σ sq own (n:Int) w
 by_cases he:e=0
 ·subst he
  have n0:((0:Int) != 0)=false:=rfl
  cases hm:Zhy (n:Int) w
  ·refine ⟨true,?_⟩
   rw [hm] at hM
   have hc:(0:Int)≠0\/false=false:=Xv rfl
   rw [if_pos hc,Zj (by rfl) ZfU]
   unfold Zdl Zfs
   simp -implicitDefEqProofs only [EQA,Zx,Xe,Xc,Xf,Xa,Xg,unA,ZA,unG,reduceCtorEq,↓reduceIte,Zd,Zgv,Ze6,Zgo,ZW,Zbk,hGV,hM,n0,AVal.cells]
   rfl
  ·refine ⟨false,?_⟩
   rw [hm] at hM
   have hc:¬((0:Int)≠0\/true=false):=by simp
   rw [if_neg hc]
   have hul:=(hu rfl).2
   have hs:=fun σ kk=>Zft σ b kk ((u:Nat):Int) (by omega) (by omega)
   have e2:(((u:Nat):Int)).toNat=u:=rfl
   rw [e2] at hs
   have hV:=fun σ sq own f=>ZMH σ sq own f (n:Int) (b.drop u) (by simp;omega)
   have hF:=fun σ sq own=>Zz2 σ sq own l hl2 hd (n:Int)
   have hO:=fun σ sq own=>ZHb σ sq own (n:Int) w
   have hid:=ZyN (n:Int) (b.drop u)
   have hused:(Zdh (n:Int) (b.drop u)).2.1<=b.length:=Nat.le_trans (Zsk _ _) (by simp)
   have hT:=fun σ sq own=>ZO6 σ sq own (Zdh (n:Int) (b.drop u)).1
   unfold ZcP at hV
   simp only [ZG1] at hF
   unfold ZqQ
   generalize Zdh (n:Int) (b.drop u)=v at *
   obtain ⟨p,m,ok⟩:=v
   simp only at hV hT hid hused ⊢
   have hw:IntKind.i64.wrap ((u:Int)+(m:Int))=((u+m:Nat):Int):=by
    rw [ZaV (by omega) (by omega)];rfl
   generalize (ZfK (n:Int) l).getD Zfs=q at *
   cases ok
   ·rw [Zj (by rfl) ZfU]
    unfold Zdl
    simp -implicitDefEqProofs only [EQA,Zx,Xe,Xc,Xf,Xa,Xg,unA,ZA,unG,reduceCtorEq,↓reduceIte,Zd,Zgv,Ze6,Zgo,ZW,Zbk,hGV,hM,hs,hV,hF,n0,AVal.cells]
    rfl
   ·cases h1:(ZfK (n:Int) l).isSome <;> rw [h1] at hF
    ·cases h3:Zhr p.id p.num <;> rw [h3] at hT
     ·cases h4:((n:Int) == 35)
      all_goals rw [Zj (by rfl) ZfU]
      all_goals unfold Zdl
      all_goals simp -implicitDefEqProofs only [EQA,Zx,Xe,Xc,Xf,Xa,Xg,unA,ZA,Zal,unG,reduceCtorEq,↓reduceIte,Zd,Zgv,Ze6,Zgo,ZW,Zbk,hGV,hM,hs,hV,hF,hT,h4,n0,AVal.cells]
      all_goals rfl
     ·rw [Zj (by rfl) ZfU]
      unfold Zdl
      simp -implicitDefEqProofs only [EQA,Zx,Xe,Xc,Xf,Xa,Xg,unA,ZA,Zal,unG,reduceCtorEq,↓reduceIte,Zd,Zgv,Ze6,Zgo,ZW,Zbk,hGV,hM,hs,hV,hF,hT,hw,n0,AVal.cells]
    ·cases h2:Zii (n:Int) w <;> rw [h2] at hO
     ·rw [Zj (by rfl) ZfU]
      unfold Zdl
      simp -implicitDefEqProofs only [EQA,Zx,Xe,Xc,Xf,Xa,Xg,unA,ZA,unG,reduceCtorEq,↓reduceIte,Zd,Zgv,Ze6,Zgo,ZW,Zbk,hGV,hM,hs,hV,hF,hO,n0,AVal.cells]
      rfl
     ·cases h3:Zhr p.id p.num <;> rw [h3] at hT
      ·cases h4:((n:Int) == 35)
       all_goals rw [Zj (by rfl) ZfU]
       all_goals unfold Zdl
       all_goals simp -implicitDefEqProofs only [EQA,Zx,Xe,Xc,Xf,Xa,Xg,unA,ZA,unG,reduceCtorEq,↓reduceIte,Zd,Zgv,Ze6,Zgo,ZW,Zbk,hGV,hM,hs,hV,hF,hT,hO,h4,n0,AVal.cells]
       all_goals rfl
      ·rw [Zj (by rfl) ZfU]
       unfold Zdl
       simp -implicitDefEqProofs only [EQA,Zx,Xe,Xc,Xf,Xa,Xg,unA,ZA,unG,reduceCtorEq,↓reduceIte,Zd,Zgv,Ze6,Zgo,ZW,Zbk,hGV,hM,hs,hV,hF,hT,hO,hw,n0,AVal.cells]
 ·refine ⟨true,?_⟩
  have hc:e≠0\/Zhy (n:Int) w=false:=Xr he
  have n1:(e != 0)=true:=by simpa using he
  rw [if_pos hc,Zj (by rfl) ZfU]
  unfold Zdl Zfs
  simp -implicitDefEqProofs only [EQA,Zx,Xe,Xc,Xf,Xa,Xg,ZA,Zal,reduceCtorEq,↓reduceIte,Zd,Zgv,Ze6,Zgo,ZW,Zbk,hGV,n1,AVal.cells]
  rfl
end
section
def Zei (w:Int):Nat->Zc->List ZB->List ZB×Int
 | _,[],l=>(l,0)
 | 0,_::_,_=>([],129)
 | n+1,c::r,l=>if (Zb4 w (c::r) l).2.2=0 then Zei w n ((c::r).drop (Zb4 w (c::r) l).2.1) (l++[(Zb4 w (c::r) l).1]) else ([],(Zb4 w (c::r) l).2.2)
def Zap (w:Int) (b:Zc):List ZB×Nat×Int :=
 if (ZY b).2.2≠0\/((ZY b).1:Int) > (b.length:Int) - ((ZY b).2.1:Nat) then ([],0,129)
 else if (Zei w (ZY b).1 ((b.take ((ZY b).2.1+(ZY b).1)).drop (ZY b).2.1) []).2=0 then
  ((Zei w (ZY b).1 ((b.take ((ZY b).2.1+(ZY b).1)).drop (ZY b).2.1) []).1,(ZY b).2.1+(ZY b).1,0)
 else ([],0,(Zei w (ZY b).1 ((b.take ((ZY b).2.1+(ZY b).1)).drop (ZY b).2.1) []).2)
def Zi7 (u:Nat) (x:List ZB×Int):AVal×Za:=if x.2=0 then (.tup [ZeM (x.1.map Zu),.int .i64 (u:Nat),.int .i64 0],Ze1 5 (x.1.map Zu)) else (.tup [.lst true [],.int .i64 0,.int .i64 x.2],[])
theorem ZuO {w:Int} {b:Zc} {l:List ZB} (h:(Zb4 w b l).2.2=0):0 < (Zb4 w b l).2.1/\(Zb4 w b l).2.1<=b.length/\(Zb4 w b l).1.data.length<=b.length:=by
 unfold Zb4 at h ⊢
 split at h
 ·simp at h
 ·rename_i hc
  rw [if_neg hc]
  have hc0:(ZY b).2.2=0:=Decidable.byContradiction fun h=>hc (Xr h)
  have h1:=Zrg b hc0
  have h2:=Zsk ((ZY b).1:Nat) (b.drop (ZY b).2.1)
  have h3:=ZPY ((ZY b).1:Nat) (b.drop (ZY b).2.1)
  simp only [Wb] at h2 h3
  unfold ZqQ at h ⊢
  generalize Zdh ((ZY b).1:Nat) (b.drop (ZY b).2.1)=v at *
  repeat' (split at h)
  all_goals first
   | (simp at h;done)
   | skip
  rename_i a1 a2 a3
  rw [if_neg a1,if_neg a2,if_pos a3]
  simp only
  omega
theorem ZlG {xs:List AVal} (h:0 < xs.length):ZeM xs=.sl 0 0 0 xs.length:=by
 cases xs with
 | nil=>simp at h
 | cons x xs=>rfl
theorem Zkp {k:Nat} {xs:List AVal} (h:0 < xs.length):Ze1 k xs=[.row 0 k xs]:=by
 cases xs with
 | nil=>simp at h
 | cons x xs=>rfl
theorem ZFX (l:List ZB):Zk1 (l.map Zu)=true:=by
 unfold Zk1
 rw [XB]
 intro x hx
 obtain ⟨p,_,rfl⟩:=X0.1 hx
 rfl
theorem ZGV (b:Zc):(b.map Zb).all Znm=true:=by
 rw [XB]
 intro x hx
 obtain ⟨p,_,rfl⟩:=X0.1 hx
 rfl
theorem ZGt (σ:Za) (sq own:Nat) (f g:Bool) (w:Int) (b:Zc) (l:List ZB) (hl:b.length<=140737488355328) (hl2:l.length<=9223372036854775807) (hd:∀ p ∈ l,p.data.length<=140737488355328) :
  Zk E BY σ sq 70 own true [.int .i64 w,.lst f (b.map Zb),.lst g (l.map Zu)]=some (Zdl false (Zb4 w b l),σ,{}):=by
 obtain ⟨f',h⟩:=ZsY w b l hl hl2 hd
 exact ZbI h (by kernel_rfl) rfl rfl (by cases f' <;> rfl) (fun _=>rfl) _ _ _
theorem ZOU (σ:Za) (sq own:Nat) (f:Bool) (w:Int) (b:Zc) (l:List ZB) (hl:b.length<=140737488355328) (hl2:l.length<=9223372036854775807) (hd:∀ p ∈ l,p.data.length<=140737488355328) :
  Zk E BY (.row 0 5 (l.map Zu)::σ) sq 70 own true [.int .i64 w,.lst f (b.map Zb),.sl 0 0 0 (l.map Zu).length]=some (Zdl false (Zb4 w b l),.row 0 5 (l.map Zu)::σ,{ rd:=[0] }):=by
 obtain ⟨f',h⟩:=ZsY w b l hl hl2 hd
 refine ZzU (vs:=[.int .i64 w,ZW b,Zbk l]) (by kernel_rfl) ?_ rfl rfl h (r':=Zdl false (Zb4 w b l)) (by cases f' <;> rfl) ?_ _ _
 ·simp [showAs,showA,ZcH,ZM,ZW,Zbk]
  exact XK (by simp)
 ·have h1:=ZFX l
  have h2:=ZGV (Zb4 w b l).1.data
  unfold Zdg
  simp only [Wu,Bool.not_false,Zdl,Zis,Ziw,ZiP,XD,Wr,Zbb,h2,ZfT,List.getElem?_cons_zero,h1,Wg]
theorem ZvL (w:Int) (n:Nat) (l:List ZB):Zei w n [] l=(l,0):=by cases n <;> rfl
theorem Zum (w:Int) (n:Nat) (c:UInt8) (r:Zc) (l:List ZB):Zei w (n+1) (c::r) l=if (Zb4 w (c::r) l).2.2=0 then Zei w n ((c::r).drop (Zb4 w (c::r) l).2.1) (l++[(Zb4 w (c::r) l).1]) else ([],(Zb4 w (c::r) l).2.2):=rfl
theorem ZP0 (w:Int) (N U:Nat) (hU:U+N<=140737488355328) (l:List ZB) :
  ZiQ 0 [(10,.lst false []),(8,.int .i64 (U:Nat)),(7,.int .i64 (N:Nat)),(4,ZeM (l.map Zu)),(0,.int .i64 w)] (Ze1 5 (l.map Zu))=some (Zi7 (U+N) (l,0)):=by
 have hw:IntKind.i64.wrap ((U:Int)+(N:Int))=((U+N:Nat):Int):=by rw [ZaV (by omega) (by omega)];rfl
 have h1:¬(((0:Nat):Int) > 0):=by simp
 unfold Zi7 ZiQ
 rw [ZL]
 cases l with
 | nil =>
  simp -implicitDefEqProofs only [EQA,Zx,Xc,Xa,reduceCtorEq,↓reduceIte,Zd,Ziu,Zte,Zla,Zik,Zf2,Zf3,ZgH,hw,h1]
  try (simp [Zak,gcA,Zy,Zt,Zw,Z9,Zi,Zq,ZO,Zl,ZF,Zg,Zr,Zz,ZC,Wo])
 | cons p l =>
  generalize hX:(p::l).map Zu=X
  have hpos:0 < X.length:=by rw [<-hX];simp
  simp only [ZlG hpos,Zkp hpos]
  simp -implicitDefEqProofs only [EQA,Xc,Xa,reduceCtorEq,↓reduceIte,Ziu,Zte,Zla,Zik,Zf2,hw,h1]
  simp [Zak,gcA,Zy,Zt,Zw,Z9,Zi,Zq,ZO,Zl,ZF,Zg,Zr,Zz,ZC]
theorem ZvI (w:Int) (N U:Nat) (hU:U+N<=140737488355328) (hN9:N<=1000000000):∀ (n:Nat) (b:Zc) (l:List ZB),b.length<=n->l.length+b.length<=N->(∀ p ∈ l,p.data.length<=140737488355328) ->
  ZiQ 0 [(10,.lst false (b.map Zb)),(8,.int .i64 (U:Nat)),(7,.int .i64 (N:Nat)),(4,ZeM (l.map Zu)),(0,.int .i64 w)] (Ze1 5 (l.map Zu))=some (Zi7 (U+N) (Zei w n b l))
 | n,[],l,hb,hN,hd=>by
  rw [ZvL]
  exact ZP0 w N U hU l
 | 0,c::r,l,hb,hN,hd=>by simp at hb
 | n+1,c::r,l,hb,hN,hd=>by
  rw [Zum]
  generalize hB:c::r=b at *
  have hlen:0 < b.length:=by rw [<-hB];simp
  have hpos:((b.length:Nat):Int) > 0:=by omega
  have hC:=fun σ sq own f g=>ZGt σ sq own f g w b l (by omega) (by omega) hd
  have hS:=fun σ sq own f=>ZOU σ sq own f w b l (by omega) (by omega) hd
  have hu:=ZuO (w:=w) (b:=b) (l:=l)
  unfold Zdl at hC hS
  rcases hx:Zb4 w b l with ⟨p,m,e⟩
  rw [hx] at hC hS hu
  simp only at hC hS hu ⊢
  by_cases he:e=0
  ·subst he
   obtain ⟨u1,u2,u3⟩:=hu rfl
   have n0:((0:Int) != 0)=false:=rfl
   rw [if_pos rfl]
   have ih:=ZvI w N U hU hN9 n (b.drop m) (l++[p]) (by simp;omega) (by simp;omega) (by
    intro q hq
    rcases List.mem_append.1 hq with h | h
    ·exact hd q h
    ·simp at h;subst h;omega)
   have hs:=fun σ kk=>Zft σ b kk ((m:Nat):Int) (by omega) (by omega)
   have e2:(((m:Nat):Int)).toNat=m:=rfl
   rw [e2] at hs
   generalize Zei w n (b.drop m) (l++[p])=R at *
   unfold ZiQ at ih ⊢
   rw [ZL]
   cases l with
   | nil =>
    simp only [XA] at hC
    simp only [Xw,Xo,XA,ZiK,ZiT,Zf3,ZgH,XF,XJ,XG,Zu,ZbZ,ZW] at ih ⊢
    simp -implicitDefEqProofs only [EQA,ZN,ZaI,Xe,Xc,Xf,Xa,Xg,reduceCtorEq,ZM,↓reduceIte,gcT,gcA,Zy,Zt,Zi,Zq,ZO,Zl,ZF,Zz,ZC,Zik,Zf2,hpos,hC,n0,hs,Z3,kOk,viewAs,ZU,ZP,ZaL,Zp,WI,AVal.cells]
    exact ih
   | cons a l =>
    have hXl:((a::l).map Zu).length=l.length+1:=by simp
    rw [X9] at ih
    generalize hX:(a::l).map Zu=X at *
    have hXp:0 < X.length:=by omega
    have hXq:0 < (X++[p].map Zu).length:=by rw [Xk];omega
    simp only [ZlG hXp,Zkp hXp,ZlG hXq,Zkp hXq] at ih ⊢
    have hk:kOk 5 X=true:=by rw [<-hX];rfl
    have hb9:(X.length+1)*72<=140737488355328:=by simp at hN;omega
    try simp only [Xo,XA,Zu,ZbZ,ZW,Xk,XF,XJ,XG] at ih
    simp -implicitDefEqProofs only [EQA,ZN,ZaI,Xe,Xc,Xf,Xa,Xg,reduceCtorEq,ZM,↓reduceIte,gcT,gcA,Zy,Zt,Zi,Zq,ZO,Zl,ZF,Zz,ZC,Zik,Zf2,hpos,hS,n0,hs,hb9,Z3,kOk,viewAs,ZU,ZP,ZaL,Zp,AVal.cells]
    exact ih
  ·have n1:(e != 0)=true:=by simpa using he
   rw [if_neg he]
   unfold Zi7 ZiQ
   simp only
   rw [if_neg he,ZL]
   cases l with
   | nil =>
    simp only [XA,Zf3,ZgH] at hC ⊢
    simp -implicitDefEqProofs only [EQA,Zx,Xe,Xc,Xf,Xa,Xg,reduceCtorEq,↓reduceIte,Zd,Ziu,Zik,Zf2,hpos,hC,n1,AVal.cells]
    try (simp [Zak,gcA,Zy,Zt,Zw,Z9,Zi,Zq,ZO,Zl,ZF,Zg,Zr,Zz,ZC,Wo])
   | cons a l =>
    generalize hX:(a::l).map Zu=X at *
    have hXp:0 < X.length:=by rw [<-hX];simp
    simp only [ZlG hXp,Zkp hXp]
    simp -implicitDefEqProofs only [EQA,Zx,Xe,Xc,Xf,Xa,Xg,reduceCtorEq,↓reduceIte,Zd,Ziu,Zik,Zf2,hpos,hS,n1,AVal.cells]
    try (simp [Zak,gcA,Zy,Zt,Zw,Z9,Zi,Zq,ZO,Zl,ZF,Zg,Zr,Zz,ZC,Wo])
theorem Zt2:∀ (b:Zc) (i n:Nat),i<=4->n < 128 ^ i->(gvA i n b).1 < 268435456
 | [],i,n,hi,hn=>by unfold gvA;split <;> simp
 | c::r,i,n,hi,hn=>by
  have ha:c.toNat % 128 < 128:=Nat.mod_lt _ (by decide)
  unfold gvA
  split
  ·simp
  ·rename_i h4
   have hb:=Zr6 n i _ hn ha
   have hp:128 ^ (i+1)<=128 ^ 4:=Nat.pow_le_pow_right (by decide) (by omega)
   split
   ·split
    ·simp
    ·simp only;omega
   ·exact Zt2 r (i+1) _ (by omega) hb
theorem ZoW (b:Zc):(ZY b).1 < 268435456:=Zt2 b 0 0 (by omega) (by simp)
def Zuw (x:List ZB×Nat×Int):AVal×Za:=(.tup [ZeM (x.1.map Zu),.int .i64 (x.2.1:Nat),.int .i64 x.2.2],Ze1 5 (x.1.map Zu))
theorem ZGl (w:Int) (b:Zc) (hl:b.length<=140737488355328):E 57 [.int .i64 w,ZW b] []=some (Zuw (Zap w b)):=by
 have hGV:=fun σ sq own f=>Zn2 σ sq own f b (by omega)
 have hu:=Zrg b
 have hlt:=ZoW b
 have hle:=Zsn b
 unfold Zap Zuw
 rcases hx:ZY b with ⟨n,u,e⟩
 rw [hx] at hGV hu hlt hle
 unfold gvT at hGV
 simp only at hGV hu hlt hle ⊢
 have hw:IntKind.i64.wrap ((b.length:Int) - (u:Int))=(b.length:Int) - (u:Int):=ZaV (by omega) (by omega)
 by_cases he:e=0
 ·subst he
  have n0:((0:Int) != 0)=false:=rfl
  by_cases hn:(n:Int) > (b.length:Int) - (u:Int)
  ·rw [if_pos (Xv hn),Zj (by rfl) ZqJ]
   simp -implicitDefEqProofs only [EQA,Zx,Xc,Xa,ZA,unG,reduceCtorEq,↓reduceIte,Zd,Zob,Zj0,Ziu,ZW,hGV,n0,hw,hn]
   simp []
   exact ⟨rfl,rfl⟩
  ·have hc:¬((0:Int)≠0\/(n:Int) > (b.length:Int) - (u:Int)):=by simpa using hn
   rw [if_neg hc,Zj (by rfl) ZqJ]
   have hw2:IntKind.i64.wrap ((u:Int)+(n:Int))=((u+n:Nat):Int):=by rw [ZaV (by omega) (by omega)];rfl
   have hs:=fun σ k1 k2=>ZuL σ b k1 k2 ((u:Nat):Int) ((u+n:Nat):Int) (by omega) (by omega) (by omega)
   have e1:(((u:Nat):Int)).toNat=u:=rfl
   have e2:(((u+n:Nat):Int)).toNat=u+n:=rfl
   rw [e1,e2] at hs
   have key:=ZvI w n u (by omega) (by omega) n ((b.take (u+n)).drop u) [] (by simp;omega) (by simp;omega) (by simp)
   generalize (b.take (u+n)).drop u=B at *
   unfold ZiQ at key
   simp only [XA,Zf3,ZgH] at key
   simp -implicitDefEqProofs only [EQA,ZN,Xc,Xa,ZA,unG,reduceCtorEq,↓reduceIte,gcT,gcA,Zy,Zt,Zq,ZC,Zob,Zj0,ZW,hGV,n0,hw,hn,hw2,hs]
   rw [key]
   unfold Zi7
   split <;> rfl
 ·have n1:(e != 0)=true:=by simpa using he
  rw [if_pos (Xr he),Zj (by rfl) ZqJ]
  simp -implicitDefEqProofs only [EQA,Zx,Xc,Xa,ZA,Zal,reduceCtorEq,↓reduceIte,Zd,Zob,Zj0,Ziu,ZW,hGV,n1]
  simp []
  exact ⟨rfl,rfl⟩
theorem ZJz {σ:Za} {x:AVal} (h:Zbb x=true):ZU σ x=some (x,[])/\Z9 x=[]/\∀ ρ,Zr ρ x=x:=by
 cases x <;> simp [Zbb] at h <;> simp [ZU,ZP,Z9,Zr]
theorem ZmZ {σ:Za}:∀ {vs:List AVal},vs.all Zbb=true->viewAs σ vs=some (vs,[])/\Zw vs=[]/\∀ ρ,Zg ρ vs=vs
 | [],_=>⟨rfl,rfl,fun _=>rfl⟩
 | x::xs,h=>by
  simp only [XD,Bool.and_eq_true] at h
  obtain ⟨a1,a2,a3⟩:=ZJz (σ:=σ) h.1
  obtain ⟨b1,b2,b3⟩:=ZmZ (σ:=σ) h.2
  refine ⟨by simp only [viewAs,a1,b1,Xm],by simp only [Zw,a2,b2,Xm],fun ρ=>by simp only [Zg,a3,b3]⟩
theorem ZOf {O:ZX} {bf:Nat->Bool} {f k:Nat} {args args':List AVal} {full vs:List AVal} (h:O f args' []=some (.tup (ZeM full::vs),Ze1 k full)) (hv:vs.all Zbb=true) (hb:bf f=false) (hp:args.all Z5=true) (hn:args.map ZK=args') (σ:Za) (sq own:Nat):Zk O bf σ sq f own true args=some (.tup (.lst false full::vs),σ,{}):=by
 have hr:∀ sq,Zr (ZaC [] [] sq) (.tup (.lst false full::vs))=.tup (.lst false full::vs):=fun sq=>by
  simp only [Zr,Zg,(ZmZ (σ:=[]) hv).2.2]
 rw [Zfj hb hp,hn,h]
 have : Z2 true 0 (some (.tup (ZeM full::vs),Ze1 k full))=some (.tup (.lst false full::vs),[]):=by
  unfold Z2
  rw [if_pos rfl]
  cases full with
  | nil =>
   obtain ⟨b1,b2,b3⟩:=ZmZ (σ:=[]) hv
   simp [Zf3,ZgH,Zbw,viewR,viewAs,ZU,ZP,b1,Zp,gcA,Zy,Zt,Zw,Z9,b2,Zg,Zr,b3,Zq]
  | cons x xs =>
   obtain ⟨b1,b2,b3⟩:=ZmZ (σ:=[ZR.row 0 k (x::xs)]) hv
   simp only [ZiK,ZiT]
   generalize x::xs=X at *
   simp [Zbw,viewR,viewAs,ZU,ZP,ZM,b1,Zp,gcA,Zy,Zt,Zw,Z9,b2,Zg,Zr,b3,Zq]
 rw [this,Zjb _ _ _ _ (hr sq)]
theorem Zli (σ:Za) (sq own:Nat) (f:Bool) (w:Int) (b:Zc) (hl:b.length<=140737488355328):Zk E BY σ sq 57 own true [.int .i64 w,.lst f (b.map Zb)]=some (.tup [.lst false ((Zap w b).1.map Zu),.int .i64 ((Zap w b).2.1:Nat),.int .i64 (Zap w b).2.2],σ,{}) :=
 ZOf (k:=5) (ZGl w b hl) rfl (by kernel_rfl) rfl rfl _ _ _
end
section
def Zm9:Zf:=(.seq (.region [oI 4 (.mov (.c (.lst true [])))] none [1,0]) (.seq (.seq (.region [oM 5 0,oI 6 (.len (.t 5)),oM 7 1,oI 8 (.bin .gtr (.t 6) (.t 7))] none [8,1,0]) (.cond (.t 8) (.seq (.region [oM 9 0,oM 10 1,oI 11 (.slice 1 (.t 9) none (some (.t 10)) none),oM 4 11] none [4]) .ret) .skip)) (.seq (.region [oM 12 0,oM 4 12] none [4]) .ret)))
def Zqe:ZQ:=⟨[(.tmp 4)],Zm9⟩
theorem ZBM:FC 12=some Zqe:=by kernel_rfl
theorem Zuo:Zqe.body=Zm9:=rfl
theorem ZvV:Zqe.res=[(.tmp 4)]:=rfl
def ZmK:Zf:=(.seq (.region [oI 6 (.mov (.c (.int .i64 0)))] none [2,1,0]) (.seq (.region [oM 8 2,oM 9 1,oI 10 (.bin .sub (.t 8) (.t 9)),oI 11 (.bin .add (.t 10) (.c (.int .i64 1))),oM 7 11] none [7,1,0]) (.seq (.region [oM 12 0,oM 13 7,oI 14 (.bin .rem (.t 12) (.t 13)),oM 0 14] none [7,1,0]) (.seq (.seq (.region [oM 15 0,oI 16 (.bin .lss (.t 15) (.c (.int .i64 0)))] none [16,7,1,0]) (.cond (.t 16) (.region [oM 17 0,oM 18 7,oI 19 (.bin .add (.t 17) (.t 18)),oM 0 19] none [1,0]) .skip)) (.seq (.region [oM 20 1,oM 21 0,oI 22 (.bin .add (.t 20) (.t 21)),oM 6 22] none [6]) .ret)))))
def ZnB:ZQ:=⟨[(.tmp 6)],ZmK⟩
theorem ZIh:FC 7=some ZnB:=by kernel_rfl
theorem ZtZ:ZnB.body=ZmK:=rfl
theorem ZsU:ZnB.res=[(.tmp 6)]:=rfl
end
section
theorem ZPj (b:Zc) (n:Int) (h0:0<=n):E 12 [ZW b,.int .i64 n] []=some (ZW (b.take n.toNat),[]):=by
 rw [Zj (by rfl) ZBM]
 by_cases h:n < (b.length:Int)
 ·have hl:n<=(b.length:Int):=by omega
  simp -implicitDefEqProofs only [EQA,Zx,Xc,Xa,reduceCtorEq,↓reduceIte,Zuo,Zm9,ZvV,ZW,h0,h,hl,ZhV]
 ·have hl:b.take n.toNat=b:=XK (by omega)
  simp -implicitDefEqProofs only [EQA,Zx,Xc,Xa,reduceCtorEq,↓reduceIte,Zuo,Zm9,ZvV,ZW,h,hl]
theorem ZQw (σ:Za) (sq own:Nat) (view:Bool) (b:Zc) (n:Int) (h0:0<=n):Zk E BY σ sq 12 own view [.lst false (b.map Zb),.int .i64 n]=some (.lst false ((b.take n.toNat).map Zb),σ,{}) :=
 ZcU (ZPj b n h0) (by kernel_rfl) (by simp -implicitDefEqProofs only [Zdb,ZbJ,eq_self,ZW]) (by simp -implicitDefEqProofs only [ZH,ZbJ,eq_self,ZW]) rfl (fun _=>rfl) _ _ _ _
end
section
structure ZCn where
 fmt:Int
 content:Zc
 corr:Zc
 users:Zc
end
section
def ZoV:Zf:=(.seq (.region [oI 4 (.mov (.c (.bool false)))] none [1,0]) (.seq (.region [oM 5 0,oM 6 1,oI 7 (.call 77 0 true [(.t 5),(.t 6)]),oI 8 (.bin .geq (.t 7) (.c (.int .i64 0))),oM 4 8] none [4]) .ret))
def Zqp:ZQ:=⟨[(.tmp 4)],ZoV⟩
theorem ZEo:FC 67=some Zqp:=by kernel_rfl
theorem ZHE:Zqp.body=ZoV:=rfl
theorem ZNs:Zqp.res=[(.tmp 4)]:=rfl
def ZqP:Zf:=(.seq (.region [oI 6 (.mov (.c (.bool true)))] none [6]) .ret)
def Zrj:Zf:=ZqP
def ZE2:=xw Zrj ZqP rfl
def ZkF:Zf:=(.seq (.region [oI 18 (.bin .lss (.t 17) (.t 16))] none [18,17,16,15,2,1]) (.seq (.cond (.t 18) .skip (.exit 0)) (.seq (.block 1 (.seq (.region [oM 19 17,oI 20 (.iaddr 5 (.t 15) (.t 17)),oI 21 (.ld (some 5) (.t 20)),oI 8 (.alloc [(.int .i64 0),(.int .i64 0),(.str []),(.str []),(.lst true [])]),oM 7 19,oN (.st 5 (.t 8) (.t 21))] none [17,16,15,8,7,2,1]) (.seq (.region [oM 22 1,oM 23 7,oI 24 (.iaddr 5 (.t 22) (.t 23)),oI 25 (.ld (some 5) (.t 24)),oI 9 (.alloc [(.int .i64 0),(.int .i64 0),(.str []),(.str []),(.lst true [])]),oN (.st 5 (.t 9) (.t 25))] none [17,16,15,9,8,2,1]) (.seq (.region [oM 26 2,oI 27 (.ld (some 5) (.t 8)),oI 28 (.ld (some 5) (.t 9)),oI 29 (.callv (.t 26) [(.t 27),(.t 28)]),oI 30 (.un .not (.t 29))] none [30,17,16,15,2,1]) (.cond (.t 30) (.seq (.region [oI 6 (.mov (.c (.bool false)))] none [6]) .ret) .skip))))) (.region [oI 31 (.bin .add (.t 17) (.c (.int .i64 1))),oM 17 31] none [17,16,15,2,1]))))
def Znz:Zf:=ZkF
def ZwW:=xw Znz ZkF rfl
def Zl9:Zf:=(.seq (.region [oI 6 (.mov (.c (.bool false)))] none [2,1,0]) (.seq (.seq (.region [oM 10 0,oI 11 (.len (.t 10)),oM 12 1,oI 13 (.len (.t 12)),oI 14 (.bin .neq (.t 11) (.t 13))] none [14,2,1,0]) (.cond (.t 14) (.seq (.region [oI 6 (.mov (.c (.bool false)))] none [6]) .ret) .skip)) (.seq (.seq (.region [oM 15 0,oI 16 (.len (.t 15)),oI 17 (.mov (.c (.int .i64 0)))] none [17,16,15,2,1]) (.block 0 (.loop [17,16,15,2,1] Znz))) Zrj)))
def ZmO:ZQ:=⟨[(.tmp 6)],Zl9⟩
theorem ZBG:FC 44=some ZmO:=by kernel_rfl
theorem ZwT:ZmO.body=Zl9:=rfl
theorem ZoK:ZmO.res=[(.tmp 6)]:=rfl
noncomputable def ZmW (m:Nat) (tm:Tms) (σ:Za):Option (AVal×Za):=(Zav m ZmO (ZbT FC PR BY m Zrj (Wd (Za7 0) (evL FC PR BY m [17,16,15,2,1] Znz tm σ))))
def Zq2:Zf:=(.seq (.region [oI 4 (.mov (.c (.bool true)))] none [4]) .ret)
def ZoG:Zf:=Zq2
def Zx0:=xw ZoG Zq2 rfl
def Zk7:Zf:=(.seq (.region [oI 14 (.bin .lss (.t 13) (.t 12))] none [14,13,12,1,0]) (.seq (.cond (.t 14) .skip (.exit 0)) (.seq (.block 1 (.seq (.region [oM 15 13,oM 5 15] none [13,12,5,1,0]) (.seq (.region [oM 16 0,oM 17 5,oI 18 (.iaddr 1 (.t 16) (.t 17)),oL 19 18,oM 20 1,oM 21 5,oI 22 (.iaddr 1 (.t 20) (.t 21)),oL 23 22,oI 24 (.bin .neq (.t 19) (.t 23))] (some [(2,6),(3,6),(2,7),(3,7)]) [24,13,12,1,0]) (.cond (.t 24) (.seq (.region [oI 4 (.mov (.c (.bool false)))] none [4]) .ret) .skip)))) (.region [oI 25 (.bin .add (.t 13) (.c (.int .i64 1))),oM 13 25] none [13,12,1,0]))))
def Zrr:Zf:=Zk7
def ZtE:=xw Zrr Zk7 rfl
def Zl4:Zf:=(.seq (.region [oI 4 (.mov (.c (.bool false)))] none [1,0]) (.seq (.seq (.region [oM 6 0,oI 7 (.len (.t 6)),oM 8 1,oI 9 (.len (.t 8)),oI 10 (.bin .neq (.t 7) (.t 9))] none [10,1,0]) (.cond (.t 10) (.seq (.region [oI 4 (.mov (.c (.bool false)))] none [4]) .ret) .skip)) (.seq (.seq (.region [oM 11 0,oI 12 (.len (.t 11)),oI 13 (.mov (.c (.int .i64 0)))] none [13,12,1,0]) (.block 0 (.loop [13,12,1,0] Zrr))) ZoG)))
def Zlm:ZQ:=⟨[(.tmp 4)],Zl4⟩
theorem ZFe:FC 21=some Zlm:=by kernel_rfl
theorem ZuT:Zlm.body=Zl4:=rfl
theorem Zo4:Zlm.res=[(.tmp 4)]:=rfl
noncomputable def ZlE (m:Nat) (tm:Tms) (σ:Za):Option (AVal×Za):=(Zav m Zlm (ZbT FC PR BY m ZoG (Wd (Za7 0) (evL FC PR BY m [13,12,1,0] Zrr tm σ))))
def Zox:Zf:=(.seq (.region [oI 4 (.mov (.c (.bool true)))] none [4]) .ret)
def Zp5:Zf:=Zox
def ZQs:=xw Zp5 Zox rfl
def ZmR:Zf:=(.seq (.region [oI 14 (.bin .lss (.t 13) (.t 12))] none [14,13,12,1,0]) (.seq (.cond (.t 14) .skip (.exit 0)) (.seq (.block 1 (.seq (.region [oM 15 13,oM 5 15] none [13,12,5,1,0]) (.seq (.region [oM 16 0,oM 17 5,oI 18 (.iaddr 6 (.t 16) (.t 17)),oI 19 (.ld (some 6) (.t 18)),oM 20 1,oM 21 5,oI 22 (.iaddr 6 (.t 20) (.t 21)),oI 23 (.ld (some 6) (.t 22)),oI 24 (.eqv true [2,0,1,1,0,0] (.t 19) (.t 23))] (some [(2,6),(3,6),(2,7),(3,7)]) [24,13,12,1,0]) (.cond (.t 24) (.seq (.region [oI 4 (.mov (.c (.bool false)))] none [4]) .ret) .skip)))) (.region [oI 25 (.bin .add (.t 13) (.c (.int .i64 1))),oM 13 25] none [13,12,1,0]))))
def Zrt:Zf:=ZmR
def ZtH:=xw Zrt ZmR rfl
def ZmI:Zf:=(.seq (.region [oI 4 (.mov (.c (.bool false)))] none [1,0]) (.seq (.seq (.region [oM 6 0,oI 7 (.len (.t 6)),oM 8 1,oI 9 (.len (.t 8)),oI 10 (.bin .neq (.t 7) (.t 9))] none [10,1,0]) (.cond (.t 10) (.seq (.region [oI 4 (.mov (.c (.bool false)))] none [4]) .ret) .skip)) (.seq (.seq (.region [oM 11 0,oI 12 (.len (.t 11)),oI 13 (.mov (.c (.int .i64 0)))] none [13,12,1,0]) (.block 0 (.loop [13,12,1,0] Zrt))) Zp5)))
def ZlN:ZQ:=⟨[(.tmp 4)],ZmI⟩
theorem ZCQ:FC 22=some ZlN:=by kernel_rfl
theorem Ztn:ZlN.body=ZmI:=rfl
theorem Zqs:ZlN.res=[(.tmp 4)]:=rfl
noncomputable def Zly (m:Nat) (tm:Tms) (σ:Za):Option (AVal×Za):=(Zav m ZlN (ZbT FC PR BY m Zp5 (Wd (Za7 0) (evL FC PR BY m [13,12,1,0] Zrt tm σ))))
def ZpG:Zf:=(.seq (.region [oI 4 (.mov (.c (.bool true)))] none [4]) .ret)
def Znt:Zf:=ZpG
def ZKX:=xw Znt ZpG rfl
def Zmn:Zf:=(.seq (.region [oI 14 (.bin .lss (.t 13) (.t 12))] none [14,13,12,1,0]) (.seq (.cond (.t 14) .skip (.exit 0)) (.seq (.block 1 (.seq (.region [oM 15 13,oM 5 15] none [13,12,5,1,0]) (.seq (.region [oM 16 0,oM 17 5,oI 18 (.iaddr 1 (.t 16) (.t 17)),oL 19 18,oM 20 1,oM 21 5,oI 22 (.iaddr 1 (.t 20) (.t 21)),oL 23 22,oI 24 (.bin .neq (.t 19) (.t 23))] (some [(2,6),(3,6),(2,7),(3,7)]) [24,13,12,1,0]) (.cond (.t 24) (.seq (.region [oI 4 (.mov (.c (.bool false)))] none [4]) .ret) .skip)))) (.region [oI 25 (.bin .add (.t 13) (.c (.int .i64 1))),oM 13 25] none [13,12,1,0]))))
def Zrq:Zf:=Zmn
def Zsi:=xw Zrq Zmn rfl
def ZkD:Zf:=(.seq (.region [oI 4 (.mov (.c (.bool false)))] none [1,0]) (.seq (.seq (.region [oM 6 0,oI 7 (.len (.t 6)),oM 8 1,oI 9 (.len (.t 8)),oI 10 (.bin .neq (.t 7) (.t 9))] none [10,1,0]) (.cond (.t 10) (.seq (.region [oI 4 (.mov (.c (.bool false)))] none [4]) .ret) .skip)) (.seq (.seq (.region [oM 11 0,oI 12 (.len (.t 11)),oI 13 (.mov (.c (.int .i64 0)))] none [13,12,1,0]) (.block 0 (.loop [13,12,1,0] Zrq))) Znt)))
def Zkk:ZQ:=⟨[(.tmp 4)],ZkD⟩
theorem ZLw:FC 23=some Zkk:=by kernel_rfl
theorem Ztx:Zkk.body=ZkD:=rfl
theorem Zop:Zkk.res=[(.tmp 4)]:=rfl
noncomputable def Zkq (m:Nat) (tm:Tms) (σ:Za):Option (AVal×Za):=(Zav m Zkk (ZbT FC PR BY m Znt (Wd (Za7 0) (evL FC PR BY m [13,12,1,0] Zrq tm σ))))
def Zoq:Zf:=(.seq (.region [oI 4 (.mov (.c (.int .i64 (-1))))] none [4]) .ret)
def Znr:Zf:=Zoq
def ZOd:=xw Znr Zoq rfl
def Zka:Zf:=(.seq (.region [oI 9 (.bin .lss (.t 8) (.t 7))] none [9,8,7,1,0]) (.seq (.cond (.t 9) .skip (.exit 0)) (.seq (.block 1 (.seq (.region [oM 10 8,oM 5 10] none [8,7,5,1,0]) (.seq (.region [oM 11 1,oM 12 0,oM 13 5,oI 14 (.iaddr 2 (.t 12) (.t 13)),oI 15 (.ld (some 2) (.t 14)),oI 16 (.callv (.t 11) [(.t 15)])] none [16,8,7,5,1,0]) (.cond (.t 16) (.seq (.region [oM 17 5,oM 4 17] none [4]) .ret) .skip)))) (.region [oI 18 (.bin .add (.t 8) (.c (.int .i64 1))),oM 8 18] none [8,7,1,0]))))
def ZoY:Zf:=Zka
def Zon:=xw ZoY Zka rfl
def ZnI:Zf:=(.seq (.region [oI 4 (.mov (.c (.int .i64 0)))] none [1,0]) (.seq (.seq (.region [oM 6 0,oI 7 (.len (.t 6)),oI 8 (.mov (.c (.int .i64 0)))] none [8,7,1,0]) (.block 0 (.loop [8,7,1,0] ZoY))) Znr))
def Zmb:ZQ:=⟨[(.tmp 4)],ZnI⟩
theorem ZBf:FC 77=some Zmb:=by kernel_rfl
theorem ZJN:Zmb.body=ZnI:=rfl
theorem Zup:Zmb.res=[(.tmp 4)]:=rfl
noncomputable def Zl0 (m:Nat) (tm:Tms) (σ:Za):Option (AVal×Za):=(Zav m Zmb (ZbT FC PR BY m Znr (Wd (Za7 0) (evL FC PR BY m [8,7,1,0] ZoY tm σ))))
end
section
theorem ZI9 (a b:ZB):E 45 [Zu a,Zu b] []=some (.bool (a.id == b.id && a.num == b.num && a.text == b.text && a.pair == b.pair && a.data == b.data),[]):=by
 rw [Zj (by rfl) ZAw]
 simp -implicitDefEqProofs only [EQA,ZH,ZN,Zdq,Zp4,Xe,Xc,Xa,Xg,ZgL,ZA,Zal,unG,reduceCtorEq,ZM,ite_self,↓reduceIte,ZM2,ZrS,ZPs,ZW,Zu,ZbZ]
theorem ZA7 (a b:ZB):(a.id == b.id && a.num == b.num && a.text == b.text && a.pair == b.pair && a.data == b.data)=(a == b):=by
 obtain ⟨i,n,t,p,d⟩:=a
 obtain ⟨i',n',t',p',d'⟩:=b
 rw [Bool.eq_iff_iff]
 simp [and_assoc]
theorem Zzn (a:ZB):Z5 (Zu a)=true:=by
 simp -implicitDefEqProofs only [eq_self,Wg,XD,Wr,ZtY,ZwU,Zsd,Zuk,Zu,ZbZ,ZW]
theorem ZJC (a:ZB):ZK (Zu a)=Zu a:=by
 simp -implicitDefEqProofs only [eq_self,Xo,XA,ZvT,ZtB,ZwP,ZsJ,Zu,ZbZ,ZW]
theorem ZFs (σ:Za) (sq own:Nat) (view:Bool) (i n:Int) (t p d:Zc) (i' n':Int) (t' p' d':Zc):Zk E BY σ sq 45 own view [.agg [.int .i64 i,.int .i64 n,.str t,.str p,.lst false (d.map Zb)],.agg [.int .i64 i',.int .i64 n',.str t',.str p',.lst false (d'.map Zb)]]=some (.bool (i == i' && n == n' && t == t' && p == p' && d == d'),σ,{}) :=
 ZcU (ZI9 ⟨i,n,t,p,d⟩ ⟨i',n',t',p',d'⟩) (by kernel_rfl) (by simp only [XD,Zzn];rfl) (by simp only [Xo,ZJC];rfl) rfl (fun _=>rfl) _ _ _ _
theorem Zso (a b:List ZB) (h:a.length=b.length) (hl:a.length<=9223372036854775807):∀ (r s:List ZB) (i:Nat),a.drop i=r->b.drop i=s->ZmW 0 [(17,.int .i64 i),(16,.int .i64 a.length),(15,Zbk a),(2,.fn 45 []),(1,Zbk b)] []=some (.bool (r == s),[])
 | [],s,i,ha,hb=>by
  have hs:s=[]:=by
   subst hb;rw [X4] at ha ⊢;omega
  subst hs
  have h1:=Zdy ha
  unfold ZmW
  rw [ZL]
  simp -implicitDefEqProofs only [EQA,Xc,Xa,↓reduceIte,ZoK,ZE2,ZqP,ZwW,ZkF,Zbk,h1]
 | x::r,[],i,ha,hb=>by
  have:=(Zah ha).2.2;rw [X4] at hb;omega
 | x::r,y::s,i,ha,hb=>by
  have ih:=Zso a b h hl r s (i+1) (Zah ha).2.1 (Zah hb).2.1
  have h1:(i:Int) < a.length:=by have:=(Zah ha).2.2;omega
  have e1:=iad (Zah ha).1 Zu (k:=5) rfl
  have e2:=iad (Zah hb).1 Zu (k:=5) rfl
  have e3:=ZcI h1 hl
  unfold ZmW at ih ⊢
  rw [ZL]
  simp -implicitDefEqProofs only [EQA,ZH,ZN,Xe,Xc,Xf,Xa,Xg,unA,↓reduceIte,gcT,gcA,Zy,Zt,Zq,ZC,ZoK,ZwW,ZkF,ZW,Zbk,Zu,ZbZ,h1,e1,e2,e3,ZFs]
  simp only [Zbk] at ih
  rw [ih,ZA7]
  by_cases hx:x=y <;> simp [hx]
theorem ZKF (a b:List ZB) (hl:a.length<=9223372036854775807):E 44 [Zbk a,Zbk b,.fn 45 []] []=some (.bool (a == b),[]):=by
 rw [Zj (by rfl) ZBG]
 by_cases h:a.length=b.length
 ·have:=Zso a b h hl a b 0 rfl rfl
  unfold ZmW at this
  simp only [Zbk] at this
  have e:=Zm1 h
  simp -implicitDefEqProofs only [EQA,ZN,Xe,Xc,Xa,reduceCtorEq,↓reduceIte,gcT,gcA,Zy,Zt,Zq,ZC,ZwT,Zl9,Zbk,e]
  exact this
 ·have e:=Zlt h
  simp -implicitDefEqProofs only [EQA,Xe,Xc,Xa,reduceCtorEq,↓reduceIte,ZwT,Zl9,ZoK,Zbk,e,Zm2 h]
theorem ZOO (σ:Za) (sq own:Nat) (view:Bool) (a b:List ZB) (hl:a.length<=9223372036854775807):Zk E BY σ sq 44 own view [.lst false (a.map Zu),.lst false (b.map Zu),.fn 45 []]=some (.bool (a == b),σ,{}) :=
 ZcU (ZKF a b hl) (by kernel_rfl) (by simp -implicitDefEqProofs only [Zdb,Zvr,ZbJ,eq_self,Zbk]) (by simp -implicitDefEqProofs only [ZH,ZbJ,eq_self,Zbk]) rfl (fun _=>rfl) _ _ _ _
theorem ZDm (a b:List ZB) (hl:a.length<=9223372036854775807):E 24 [Zbk a,Zbk b] []=some (.bool (a == b),[]):=by
 rw [Zj (by rfl) ZPR]
 simp -implicitDefEqProofs only [EQA,Xc,Xa,reduceCtorEq,↓reduceIte,ZDh,Zqy,Zzx,Zbk,ZOO,hl]
theorem Zm8 (σ:Za) (sq own:Nat) (view:Bool) (a b:List ZB) (hl:a.length<=9223372036854775807):Zk E BY σ sq 24 own view [.lst false (a.map Zu),.lst false (b.map Zu)]=some (.bool (a == b),σ,{}) :=
 ZcU (ZDm a b hl) (by kernel_rfl) (by simp -implicitDefEqProofs only [Zdb,ZbJ,eq_self,Zbk]) (by simp -implicitDefEqProofs only [ZH,ZbJ,eq_self,Zbk]) rfl (fun _=>rfl) _ _ _ _
end
section
theorem ZEP (b:Zc):List.take b.length (b.map Zb)=b.map Zb:=XK (by simp)
def Z0 (x:Int):Nat:=(x % 18446744073709551616).toNat
theorem Zpd (x:Int):IntKind.u64.wrap x=((Z0 x:Nat):Int):=by rw [IntKind.wrap_u64,Z0];omega
def ZeP (k:Int) (p:ZB):Zc×Zc :=
 if k=1 then (beB (Z0 p.num) 1,[]) else if k=2 then (beB (Z0 p.num) 2,[]) else if k=3 then (beB (Z0 p.num) 4,[])
 else if k=4 then ((Zas p.num).1,[]) else if k=5 then ((Zaq p.text).1,[]) else if k=6 then ((ZbQ p.data).1,[])
 else if k=7 then ((Zaq p.text).1,(Zaq p.pair).1) else ([],[])
def Zdo (p:ZB):Zc:=(Zas p.id).1++((ZeP (Zcc p.id) p).1++(ZeP (Zcc p.id) p).2)
theorem Zwo:∀ k n:Nat,(Zci k n).length<=k+1
 | 0,n=>by simp [Zci]
 | k+1,n=>by
  unfold Zci
  split
  ·simp
  ·have:=Zwo k (n / 128)
   simp only [XF];omega
theorem ZgK (n:Int):(Zas n).1.length<=4:=by
 unfold Zas
 split
 ·simp
 ·exact Zwo 3 _
theorem Znx (b:Zc):(ZbQ b).1.length<=65537:=by
 unfold ZbQ
 split
 ·simp
 ·simp only [Xk,Zbt];omega
theorem Zjw (b:Zc):(Zaq b).1.length<=65537:=by
 unfold Zaq
 split
 ·exact Znx b
 ·simp
theorem ZIF (k:Int) (p:ZB):(ZeP k p).1.length<=65537/\(ZeP k p).2.length<=65537:=by
 have h1:=ZgK p.num
 have h2:=Zjw p.text
 have h3:=Zjw p.pair
 have h4:=Znx p.data
 unfold ZeP
 repeat' split
 all_goals simp only [Zbt,XJ]
 all_goals omega
theorem Zr1 (p:ZB):(Zdo p).length<=200000:=by
 have h1:=ZgK p.id
 have h2:=ZIF (Zcc p.id) p
 unfold Zdo
 simp only [Xk];omega
theorem ZhR (σ:Za) (sq own:Nat) (f:Bool) (a v w:Zc) (h:a.length+(v.length+w.length)<=140737488355328):Zk E BY σ sq 15 own true [.lst f [.lst false (a.map Zb),.lst false (v.map Zb),.lst false (w.map Zb)]]=some (.lst false ((a++(v++w)).map Zb),σ,{}):=by
 have:=Zhl σ sq own f a [v,w] (by simp) (by simpa using h)
 simpa only [Xo,XA,ZW,Wp,W6,Xm] using this
theorem ZnK (p:ZB) (k:Int) (W:Nat) (hk:Zcc p.id=k) (hW:(k=1/\W=1)\/(k=2/\W=2)\/(k=3/\W=4)):E 73 [Zu p] []=some (.lst false (((Zas p.id).1++(beB (Z0 p.num) W++[])).map Zb),[]):=by
 have hK:=fun σ sq own=>ZjU σ sq own p.id
 have hV:=fun σ sq own=>ZgB σ sq own p.id
 unfold ZeO at hV
 have l0:=ZgK p.id
 have hP:=fun σ sq own=>ZkM σ sq own (Z0 p.num) W (by omega) (by omega)
 have hJ:=fun σ sq own f=>ZhR σ sq own f (Zas p.id).1 (beB (Z0 p.num) W) [] (by simp only [Zbt,XJ];omega)
 simp only [XA] at hJ
 have hu:=Zpd p.num
 rw [hk] at hK
 generalize beB (Z0 p.num) W=B at *
 have z1:((1:Nat):Int)=1:=rfl
 have z2:((2:Nat):Int)=2:=rfl
 have z4:((4:Nat):Int)=4:=rfl
 rcases hW with ⟨rfl,rfl⟩ | ⟨rfl,rfl⟩ | ⟨rfl,rfl⟩
 ·have w1:IntKind.i64.wrap (1 - 1)=0:=rfl
  have w2:IntKind.i64.wrap (1*2 ^ min (WV 0) IntKind.i64.bits)=1:=rfl
  have ng:¬((0:Int) < 0):=by decide
  rw [z1] at hP
  rw [Zj (by rfl) ZfO]
  simp -implicitDefEqProofs only [EQA,Zx,Xc,Xa,Xg,ZaN,↓reduceIte,Zgg,ZeL,Zf6,ZW,Zu,ZbZ,hK,hV,hP,hJ,hu,w1,w2,ng,viewAs,ZU,ZP,Zp,AVal.cells]
 ·have w1:IntKind.i64.wrap (2 - 1)=1:=rfl
  have w2:IntKind.i64.wrap (1*2 ^ min (WV 1) IntKind.i64.bits)=2:=rfl
  have ng:¬((1:Int) < 0):=by decide
  rw [z2] at hP
  rw [Zj (by rfl) ZfO]
  simp -implicitDefEqProofs only [EQA,Zx,Xc,Xa,Xg,ZaN,↓reduceIte,Zgg,ZeL,Zf6,ZW,Zu,ZbZ,hK,hV,hP,hJ,hu,w1,w2,ng,Xq,viewAs,ZU,ZP,Zp,AVal.cells]
 ·have w1:IntKind.i64.wrap (3 - 1)=2:=rfl
  have w2:IntKind.i64.wrap (1*2 ^ min (WV 2) IntKind.i64.bits)=4:=rfl
  have ng:¬((2:Int) < 0):=by decide
  rw [z4] at hP
  rw [Zj (by rfl) ZfO]
  simp -implicitDefEqProofs only [EQA,Zx,Xc,Xa,Xg,ZaN,↓reduceIte,Zgg,ZeL,Zf6,ZW,Zu,ZbZ,hK,hV,hP,hJ,hu,w1,w2,ng,Xq,viewAs,ZU,ZP,Zp,AVal.cells]
theorem ZL2 (p:ZB) (ht:p.text.length<=9223372036854775807) (hp:p.pair.length<=9223372036854775807) (hd:p.data.length<=9223372036854775807):E 73 [Zu p] []=some (.lst false ((Zdo p).map Zb),[]):=by
 have hK:=fun σ sq own=>ZjU σ sq own p.id
 have hV:=fun σ sq own=>ZgB σ sq own p.id
 unfold ZeO at hV
 have l0:=ZgK p.id
 unfold Zdo
 rcases Zr0 p.id with hk | hk | hk | hk | hk | hk | hk | hk
 ·rw [hk] at hK ⊢
  rw [show ZeP 0 p=([],[]) from rfl,Zj (by rfl) ZfO]
  have hJ:=fun σ sq own f=>ZhR σ sq own f (Zas p.id).1 [] [] (by simp only [XJ];omega)
  simp only [XA] at hJ
  simp -implicitDefEqProofs only [EQA,Zx,Xc,Xa,Xg,↓reduceIte,Zgg,ZeL,Zf6,ZW,Zu,ZbZ,hK,hV,hJ,Xq,viewAs,ZU,ZP,Zp,AVal.cells]
 ·have h:=ZnK p 1 1 hk (by simp)
  rw [hk];exact h
 ·have h:=ZnK p 2 2 hk (by simp)
  rw [hk];exact h
 ·have h:=ZnK p 3 4 hk (by simp)
  rw [hk];exact h
 ·rw [hk] at hK ⊢
  rw [show ZeP 4 p=((Zas p.num).1,[]) from rfl,Zj (by rfl) ZfO]
  have l1:=ZgK p.num
  have hJ:=fun σ sq own f=>ZhR σ sq own f (Zas p.id).1 (Zas p.num).1 [] (by simp only [XJ];omega)
  simp only [XA] at hJ
  have hV2:=fun σ sq own=>ZgB σ sq own p.num
  unfold ZeO at hV2
  simp -implicitDefEqProofs only [EQA,Zx,Xc,Xa,Xg,↓reduceIte,Zgg,ZeL,Zf6,ZW,Zu,ZbZ,hK,hV,hV2,hJ,Xq,viewAs,ZU,ZP,Zp,AVal.cells]
 ·rw [hk] at hK ⊢
  rw [show ZeP 5 p=((Zaq p.text).1,[]) from rfl,Zj (by rfl) ZfO]
  have l1:=Zjw p.text
  have hJ:=fun σ sq own f=>ZhR σ sq own f (Zas p.id).1 (Zaq p.text).1 [] (by simp only [XJ];omega)
  simp only [XA] at hJ
  have hV2:=fun σ sq own=>Zjv σ sq own p.text ht
  unfold byT at hV2
  simp -implicitDefEqProofs only [EQA,Zx,Xc,Xa,Xg,↓reduceIte,Zgg,ZeL,Zf6,ZW,Zu,ZbZ,hK,hV,hV2,hJ,Xq,viewAs,ZU,ZP,Zp,AVal.cells]
 ·rw [hk] at hK ⊢
  rw [show ZeP 6 p=((ZbQ p.data).1,[]) from rfl,Zj (by rfl) ZfO]
  have l1:=Znx p.data
  have hJ:=fun σ sq own f=>ZhR σ sq own f (Zas p.id).1 (ZbQ p.data).1 [] (by simp only [XJ];omega)
  simp only [XA] at hJ
  have hV2:=fun σ sq own f=>Zp9 σ sq own f p.data hd
  unfold byT at hV2
  simp -implicitDefEqProofs only [EQA,Zx,Xc,Xa,Xg,↓reduceIte,Zgg,ZeL,Zf6,ZW,Zu,ZbZ,hK,hV,hV2,hJ,Xq,viewAs,ZU,ZP,Zp,AVal.cells]
 ·rw [hk] at hK ⊢
  rw [show ZeP 7 p=((Zaq p.text).1,(Zaq p.pair).1) from rfl,Zj (by rfl) ZfO]
  have l1:=Zjw p.text
  have l2:=Zjw p.pair
  have hJ:=fun σ sq own f=>ZhR σ sq own f (Zas p.id).1 (Zaq p.text).1 (Zaq p.pair).1 (by omega)
  have hV2:=fun σ sq own=>Zjv σ sq own p.text ht
  have hV3:=fun σ sq own=>Zjv σ sq own p.pair hp
  unfold byT at hV2 hV3
  simp -implicitDefEqProofs only [EQA,Zx,Xc,Xa,Xg,↓reduceIte,Zgg,ZeL,Zf6,ZW,Zu,ZbZ,hK,hV,hV2,hV3,hJ,Xq,viewAs,ZU,ZP,Zp,AVal.cells]
def ZeT (p:ZB):Prop:=p.text.length<=9223372036854775807/\p.pair.length<=9223372036854775807/\p.data.length<=9223372036854775807
theorem ZvS (σ:Za) (sq own:Nat) (p:ZB) (h:ZeT p):Zk E BY σ sq 73 own true [.agg [.int .i64 p.id,.int .i64 p.num,.str p.text,.str p.pair,.lst false (p.data.map Zb)]]=some (.lst false ((Zdo p).map Zb),σ,{}) :=
 ZbI (ZL2 p h.1 h.2.1 h.2.2) (by kernel_rfl) rfl rfl rfl (fun _=>rfl) _ _ _
def Zhg (w:Int) (l:List ZB) (b:Zc):Zc×Int :=
 if (Zas b.length).2≠0 then ([],129)
 else if (Zap w ((Zas b.length).1++b)).2.2≠0\/(Zap w ((Zas b.length).1++b)).2.1≠((Zas b.length).1++b).length\/((Zap w ((Zas b.length).1++b)).1 == l)=false then ([],129)
 else ((Zas b.length).1++b,0)
def ZbE (w:Int) (l:List ZB):Zc×Int:=Zhg w l (l.map Zdo).flatten
theorem Ztl (σ:Za) (sq own:Nat) (f:Bool) (a v:Zc) (h:a.length+v.length<=140737488355328):Zk E BY σ sq 15 own true [.lst f [.lst false (a.map Zb),.lst false (v.map Zb)]]=some (.lst false ((a++v).map Zb),σ,{}):=by
 have:=Zhl σ sq own f a [v] (by simp) (by simpa using h)
 simpa only [Xo,XA,ZW,Wp,W6,Xm] using this
end
section
theorem ZqF (w:Int):∀ (n:Nat) (b:Zc) (l:List ZB),(Zei w n b l).1.length<=l.length+b.length
 | n,[],l=>by rw [ZvL];simp
 | 0,c::r,l=>by simp [Zei]
 | n+1,c::r,l=>by
  rw [Zum]
  split
  ·rename_i h
   have hu:=ZuO h
   have ih:=ZqF w n ((c::r).drop (Zb4 w (c::r) l).2.1) (l++[(Zb4 w (c::r) l).1])
   rw [Wb,Xk,W7] at ih
   omega
  ·simp
theorem ZOm (w:Int) (b:Zc):(Zap w b).1.length<=b.length:=by
 unfold Zap
 split
 ·simp
 ·split
  ·have:=ZqF w (ZY b).1 ((b.take ((ZY b).2.1+(ZY b).1)).drop (ZY b).2.1) []
   simp only [Wb,Wj,XJ] at this
   simp only
   omega
  ·simp
def okV (k:Int) (p:ZB):Bool :=
 if k=1 then decide (p.num>=0) && decide (p.num < 256) else if k=2 then decide (p.num>=0) && decide (p.num < 65536) else if k=3 then decide (p.num>=0) && decide (p.num < 4294967296)
 else if k=4 then (Zas p.num).2 == 0 else if k=5 then (Zaq p.text).2 == 0 else if k=6 then (ZbQ p.data).2 == 0
 else if k=7 then (Zaq p.text).2 == 0 && (Zaq p.pair).2 == 0 else false
def ZJW (p:ZB):Bool:=!(decide (p.id < 1) || decide (p.id > 127)) && okV (Zcc p.id) p
end
section
def Zhx (f:Bool) (x:Zc×Int):AVal:=.tup [.lst f (x.1.map Zb),.int .i64 x.2]
theorem ZCi (w:Int) (l:List ZB) (hl:l.length<=9223372036854775807) (b:Zc) (hb:b.length<=140737488355000) (i:Nat) (h1:¬(i:Int) < l.length) :
  ∃ f,Zi8 0 [(16,.int .i64 i),(15,.int .i64 l.length),(14,.lst false (l.map Zu)),(6,.sl 0 0 0 b.length),(1,.lst false (l.map Zu)),(0,.int .i64 w)] [.row 0 1 (b.map Zb)]=some (Zhx f (Zhg w l b),[]):=by
 have hV:=fun σ sq own=>ZgB σ sq own (b.length:Int)
 unfold ZeO at hV
 have l0:=ZgK (b.length:Int)
 have hJ:=fun σ sq own f=>Ztl σ sq own f (Zas b.length).1 b (by omega)
 have hR:=fun σ sq own f=>Zli σ sq own f w ((Zas b.length).1++b) (by simp;omega)
 have hS:=fun σ sq own view (a:List ZB) (ha:a.length<=9223372036854775807)=>Zm8 σ sq own view a l ha
 have ht:=ZEP b
 have hlen:((Zas b.length).1++b).length<=140737488355328:=by simp;omega
 have hrl:=ZOm w ((Zas b.length).1++b)
 unfold Zhg Zhx
 generalize Zas b.length=V at *
 obtain ⟨v,e⟩:=V
 simp only at hV hJ hR hlen hrl ⊢
 generalize hc:v++b=c at *
 generalize Zap w c=R at *
 obtain ⟨again,used,code⟩:=R
 simp only at hR hrl ⊢
 have hS2:=fun σ sq own view=>hS σ sq own view again (by omega)
 unfold Zi8
 by_cases he:e=0
 ·subst he
  have n0:((0:Int) != 0)=false:=rfl
  rw [if_neg (by simp)]
  by_cases hc0:code=0
  ·subst hc0
   by_cases hu:used=c.length
   ·have n2:((used:Int) != (c.length:Int))=false:=by simp [hu]
    cases hs:(again == l) <;> rw [hs] at hS2
    ·refine ⟨true,?_⟩
     rw [if_pos (by simp),ZL]
     simp -implicitDefEqProofs only [EQA,Zx,Xc,Xa,unA,ZA,unG,reduceCtorEq,ZM,↓reduceIte,Zd,ZhJ,Zih,ZgA,Zgb,Ze2,h1,hV,hJ,hR,hS2,ht,n0,n2,viewAs,ZU,ZP,Zp,Xx,AVal.cells]
    ·refine ⟨false,?_⟩
     rw [if_neg (by simp [hu]),ZL]
     simp -implicitDefEqProofs only [EQA,Zx,Xc,Xa,unA,ZA,unG,reduceCtorEq,ZM,↓reduceIte,Zd,ZhJ,Zih,ZgA,Zgb,Ze2,h1,hV,hJ,hR,hS2,ht,n0,n2,viewAs,ZU,ZP,Zp,Xx,AVal.cells]
   ·have n2:((used:Int) != (c.length:Int))=true:=by simp;omega
    refine ⟨true,?_⟩
    rw [if_pos (by simp [hu]),ZL]
    simp -implicitDefEqProofs only [EQA,Zx,Xc,Xa,ZA,Zal,unG,reduceCtorEq,ZM,↓reduceIte,Zd,ZhJ,Zih,ZgA,Zgb,Ze2,h1,hV,hJ,hR,ht,n0,n2,viewAs,ZU,ZP,Zp,Xx,AVal.cells]
  ·have n1:(code != 0)=true:=by simpa using hc0
   refine ⟨true,?_⟩
   rw [if_pos (by simp [hc0]),ZL]
   simp -implicitDefEqProofs only [EQA,Zx,Xc,Xa,ZA,Zal,reduceCtorEq,ZM,↓reduceIte,Zd,ZhJ,Zih,ZgA,Zgb,Ze2,h1,hV,hJ,hR,ht,n0,n1,viewAs,ZU,ZP,Zp,Xx,AVal.cells]
 ·have n1:(e != 0)=true:=by simpa using he
  refine ⟨true,?_⟩
  rw [if_pos he,ZL]
  simp -implicitDefEqProofs only [EQA,Zx,Xc,Xa,reduceCtorEq,↓reduceIte,Zd,ZhJ,Zih,ZgA,Zgb,Ze2,h1,hV,n1]
theorem Zv9 (w:Int) (l:List ZB) (hl:l.length<=9223372036854775807) (hx:∀ p ∈ l,ZeT p):∀ (r:List ZB) (i:Nat) (acc:Zc),l.drop i=r->acc.length+r.length*200000<=140737488355000 ->
  ∃ f,Zi8 0 [(16,.int .i64 i),(15,.int .i64 l.length),(14,.lst false (l.map Zu)),(6,.sl 0 0 0 acc.length),(1,.lst false (l.map Zu)),(0,.int .i64 w)] [.row 0 1 (acc.map Zb)]=some (Zhx f (Zhg w l (acc++(r.map Zdo).flatten)),[])
 | [],i,acc,h,hn=>by
  simp only [XA,W6,Xm]
  exact ZCi w l hl acc (by simpa using hn) i (Zdy h)
 | p::r,i,acc,h,hn=>by
  have hlp:=Zr1 p
  simp only [XF] at hn
  obtain ⟨f,ih⟩:=Zv9 w l hl hx r (i+1) (acc++Zdo p) (Zah h).2.1 (by rw [Xk];omega)
  refine ⟨f,?_⟩
  have h1:(i:Int) < l.length:=by have:=(Zah h).2.2;omega
  have e1:=iad (Zah h).1 Zu (k:=5) rfl
  have e3:=ZcI h1 hl
  have hC:=fun σ sq own=>ZvS σ sq own p (hx p (Xz (Zah h).1))
  rw [Wa] at ih
  rw [Xo,Wp]
  generalize Zdo p=q at *
  have k1:=ZcE q
  have k2:(acc.length+q.length)*1<=140737488355328:=by omega
  have e4:(acc++q).map Zb=acc.map Zb++q.map Zb:=by simp
  have e5:(acc++q).length=acc.length+q.length:=by simp
  rw [e4,e5] at ih
  unfold Zi8 at ih ⊢
  rw [ZL]
  simp -implicitDefEqProofs only [EQA,ZN,ZaI,Xe,Xc,Xa,Xg,reduceCtorEq,ZM,↓reduceIte,gcT,gcA,Zy,Zt,Zi,Zq,ZO,Zl,ZF,Zz,ZC,Zgb,Ze2,ZW,Zu,ZbZ,h1,e1,e3,hC,k1,k2,Z3,Xx,AVal.cells]
  exact ih
theorem ZOQ (w:Int) (l:List ZB) (hl:l.length<=700000000) (hx:∀ p ∈ l,ZeT p):∃ f,E 62 [.int .i64 w,Zbk l] []=some (Zhx f (ZbE w l),[]):=by
 have z0:((0:Nat):Int)=0:=rfl
 unfold ZbE
 cases l with
 | nil =>
  have hV:=fun σ sq own=>ZgB σ sq own 0
  have hv:Zas 0=([0],0):=rfl
  unfold ZeO at hV
  rw [hv] at hV
  have hJ:=fun σ sq own f=>Ztl σ sq own f [0] [] (by simp)
  have hR:=fun σ sq own f=>Zli σ sq own f w [0] (by simp)
  have hr:Zap w [0]=([],1,0):=rfl
  rw [hr] at hR
  have hS:=fun σ sq own view=>Zm8 σ sq own view [] [] (by simp)
  have e:Zhg w [] (([]:List ZB).map Zdo).flatten=([0],0):=by
   unfold Zhg
   simp only [XA,W6,XJ,z0,hv,Xm,hr]
   rfl
  rw [e]
  refine ⟨false,?_⟩
  rw [Zj (by rfl) Zwm]
  simp only [XA,Xo,Zb] at hV hJ hR hS
  unfold Zhx
  have b0:Zb 0=.int .u8 0:=rfl
  have u0:(0:UInt8).toNat=0:=rfl
  have n0:((0:Int) != 0)=false:=rfl
  have n1:((1:Int) != 1)=false:=rfl
  rw [u0,z0] at hV hJ hR
  have z1:((1:Nat):Int)=1:=rfl
  rw [z1] at hR
  simp -implicitDefEqProofs only [EQA,ZN,Xc,Xa,reduceCtorEq,↓reduceIte,gcT,gcA,Zy,Zt,Zq,ZC,ZwY,Zng,Zbk]
  rw [ZL]
  simp -implicitDefEqProofs only [EQA,Zx,Xc,Xa,unA,ZA,unG,reduceCtorEq,↓reduceIte,Zd,ZhJ,Zih,ZgA,Zgb,Ze2,z0,z1,hV,hJ,hR,hS,n0,n1,b0,viewAs,ZU,ZP,Zp,AVal.cells,Int.reduceLT]
 | cons p r =>
  have hlp:=Zr1 p
  simp only [XF] at hl
  obtain ⟨f,ih⟩:=Zv9 w (p::r) (by simp only [XF];omega) hx r 1 (Zdo p) rfl (by omega)
  refine ⟨f,?_⟩
  have e1:=iad (l:=p::r) (i:=0) rfl Zu (k:=5) rfl
  have h1:(0:Int) < ((p::r).length:Int):=by simp only [XF];omega
  have w1:IntKind.i64.wrap (0+1)=1:=rfl
  have z1:((1:Nat):Int)=1:=rfl
  have hC:=fun σ sq own=>ZvS σ sq own p (hx p (by simp))
  rw [Xo,Wp]
  generalize Zdo p=q at *
  have k1:=ZcE q
  have k2:q.length*1<=140737488355328:=by omega
  have e6:(q.map Zb).length=q.length:=by simp
  rw [z0] at e1
  rw [z1] at ih
  generalize (r.map Zdo).flatten=t at *
  generalize hL:p::r=L at *
  rw [Zj (by rfl) Zwm]
  unfold Zi8 at ih
  simp -implicitDefEqProofs only [EQA,ZN,Xc,Xa,reduceCtorEq,↓reduceIte,gcT,gcA,Zy,Zt,Zq,ZC,ZwY,Zng,Zbk]
  rw [ZL]
  simp -implicitDefEqProofs only [EQA,ZN,ZaI,Xe,Xc,Xa,Xg,reduceCtorEq,ZM,↓reduceIte,gcT,gcA,Zy,Zt,Zi,Zq,ZO,Zl,ZF,Zz,ZC,Zgb,Ze2,ZW,Zu,ZbZ,h1,e1,w1,hC,k1,k2,Z3,Xx,AVal.cells]
  exact ih
theorem Zxx (σ:Za) (sq own:Nat) (f:Bool) (w:Int) (l:List ZB) (hl:l.length<=700000000) (hx:∀ p ∈ l,ZeT p):Zk E BY σ sq 62 own true [.int .i64 w,.lst f (l.map Zu)]=some (Zhx false (ZbE w l),σ,{}):=by
 obtain ⟨g,h⟩:=ZOQ w l hl hx
 exact ZbI h (by kernel_rfl) rfl rfl rfl (fun _=>rfl) _ _ _
end
section
end
section
end
section
end
section
structure ZwM where
 topic:Zc
 payload:Zc
 qos:Int
 retain:Bool
 sender:Zc
 expires:Int
 props:List ZB
 origin:Int
 number:Int
 hops:Int
 deriving DecidableEq
structure ZPv where
 note:ZwM
 qos:Int
 retain:Bool
 ids:List Int
 share:Zc
 deriving DecidableEq
end
section
theorem ZB1 (w:Int) (b:Zc) (h:(Zap w b).2.2=0):(Zap w b).2.1<=268435460:=by
 have h1:=ZoW b
 have h2:(ZY b).2.1<=5:=by
  have : ∀ (b:Zc) (i n:Nat),i<=4->(gvA i n b).2.1<=5:=by
   intro b
   induction b with
   | nil=>intro i n hi;unfold gvA;split <;> simp
   | cons c r ih =>
    intro i n hi
    unfold gvA
    repeat' split
    all_goals (try simp only)
    all_goals first
     | omega
     | exact ih _ _ (by omega)
  exact this b 0 0 (by omega)
 unfold Zap at h ⊢
 split
 ·rename_i hc;rw [if_pos hc] at h;simp at h
 ·rename_i hc
  rw [if_neg hc] at h
  split
  ·simp only;omega
  ·rename_i h3;rw [if_neg h3] at h;exact absurd h h3
structure ZKw (n:ZwM):Prop where
 topic:n.topic.length<=9223372036854775807
 payload:n.payload.length<=9223372036854775807
 sender:n.sender.length<=9223372036854775807
 props:n.props.length<=700000000
 tx:∀ p ∈ n.props,ZeT p
 dat:∀ p ∈ n.props,p.data.length<=140737488355328
end
section
theorem Zde {O:ZX} {bf:Nat->Bool} {σ:Za} {t f:Nat} {rest:List AVal} {cs cs':List AVal} {r r':AVal} (hb:bf f=false) (hp:rest.all Z5=true) (hc:Zd cs=true) (hc':Zd cs'=true) (hn:ZI r'=true) (hv:viewR [.var cs'] r=some (r',[]))
  (h:O f (.ref 0 0::rest.map ZK) [.var cs]=some (r,[.var cs'])) (hs:σ[t]?=some (.var cs)) (sq:Nat):Zk O bf σ sq f 0 true (.ref t 0::rest)=some (r',σ.set t (.var cs'),{ any:=true,upd:=[(t,cs')] }):=by
 have htl:t < σ.length:=by
  rcases WB t σ.length with h | h
  ·exact h
  ·rw [XS h] at hs;cases hs
 have hup:Zbd (σ.set t (.var cs')) [t]=[(t,cs')]:=by
  simp only [Zbd,Xs,if_pos htl,if_true]
 have hd:σ.getD t .free=.var cs:=by simp [Xh,hs]
 have hf0:Zp σ []=σ:=rfl
 have hsh:showAs σ (.ref t 0::rest)=some (.ref t 0::rest.map ZK,[]):=by
  rw [showAs,show showA σ (.ref t 0)=some (.ref t 0,[]) from rfl,Zef hp]
  rfl
 have href:Zw (.ref t 0::rest.map ZK)=[t]:=by
  rw [Zw,Zdz hp];rfl
 unfold Zk ZbW
 rw [hb]
 simp only [Xi,if_false,hsh,hf0,href,Zfe hs hc]
 unfold ZbM
 have hall:([t].all fun t=>okB (σ.getD t .free))=true:=by simp [XD,Wr,hs,okB]
 rw [if_pos hall]
 have hρ:Zi σ 0 [t] t 0=some (0,0):=by simp [Zi,ZO,hs,Zl,ZF]
 have hheap:Zq σ 0 [t] (Zi σ 0 [t]) [t] 0=[.var cs]:=by
  simp only [Zq,hd,Zz,(Za8 _ cs hc).1]
 have hargs:Zg (Zi σ 0 [t]) (.ref t 0::rest.map ZK)=.ref 0 0::rest.map ZK:=by
  rw [Zg,ZdD hp]
  simp only [Zr,hρ]
 rw [hargs,hheap,h]
 have hask:Z2 true [t].length (some (r,[.var cs']))=some (r',[.var cs']):=by
  unfold Z2
  rw [if_pos rfl]
  have hnp:∀ x,r≠.pan x:=by rintro x rfl;simp [viewR,ZU,ZP] at hv
  rw [show Zbw [t].length (some (r,[.var cs']))=(match viewR [.var cs'] r with
   | some (r',ts)=>match gcA [t].length [r'] (Zp [.var cs'] ts) with
    | ([r''],σ')=>some (r'',σ')
    | _=>none
   | none=>none) from by cases r <;> first | rfl | exact absurd rfl (hnp _)]
  rw [hv]
  simp only [XF,XJ,XG,show Zp [ZR.var cs'] []=[.var cs'] from rfl,Zl1 hn hc']
 rw [hask]
 have hk:ZaY σ [t] [.var cs'] 0=true:=by
  simp [ZaY,okB,hs,Zb7,Zl]
 simp only [ZaH,Wu,Xi,if_false,XF,XJ,XG,XT,Xx,decide_true,hk,Zba,Wg,if_true,Za9,ZaO,Xu,Zz,(Z4 _ r' hn).1,(Za8 _ cs' hc').1,hup]
theorem ZcS {O:ZX} {bf:Nat->Bool} {σ:Za} {t f:Nat} {rest:List AVal} {cs cs':List AVal} {x:AVal} {view:Bool} (hb:bf f=false) (hp:rest.all Z5=true) (hc:Zd cs=true) (hc':Zd cs'=true) (hn:ZI x=true)
  (h:O f (.ref 0 0::rest.map ZK) [.var cs]=some (.pan x,[.var cs'])) (hs:σ[t]?=some (.var cs)) (sq:Nat):Zk O bf σ sq f 0 view (.ref t 0::rest)=some (.pan x,σ.set t (.var cs'),{ any:=true,upd:=[(t,cs')] }):=by
 have htl:t < σ.length:=by
  rcases WB t σ.length with h | h
  ·exact h
  ·rw [XS h] at hs;cases hs
 have hup:Zbd (σ.set t (.var cs')) [t]=[(t,cs')]:=by
  simp only [Zbd,Xs,if_pos htl,if_true]
 have hd:σ.getD t .free=.var cs:=by simp [Xh,hs]
 have hf0:Zp σ []=σ:=rfl
 have hsh:showAs σ (.ref t 0::rest)=some (.ref t 0::rest.map ZK,[]):=by
  rw [showAs,show showA σ (.ref t 0)=some (.ref t 0,[]) from rfl,Zef hp]
  rfl
 have href:Zw (.ref t 0::rest.map ZK)=[t]:=by
  rw [Zw,Zdz hp];rfl
 unfold Zk ZbW
 rw [hb]
 simp only [Xi,if_false,hsh,hf0,href,Zfe hs hc]
 unfold ZbM
 have hall:([t].all fun t=>okB (σ.getD t .free))=true:=by simp [XD,Wr,hs,okB]
 rw [if_pos hall]
 have hρ:Zi σ 0 [t] t 0=some (0,0):=by simp [Zi,ZO,hs,Zl,ZF]
 have hheap:Zq σ 0 [t] (Zi σ 0 [t]) [t] 0=[.var cs]:=by
  simp only [Zq,hd,Zz,(Za8 _ cs hc).1]
 have hargs:Zg (Zi σ 0 [t]) (.ref t 0::rest.map ZK)=.ref 0 0::rest.map ZK:=by
  rw [Zg,ZdD hp]
  simp only [Zr,hρ]
 rw [hargs,hheap,h]
 have hask:Z2 view [t].length (some (.pan x,[.var cs']))=some (.pan x,[.var cs']):=by
  unfold Z2
  split <;> rfl
 rw [hask]
 have hk:ZaY σ [t] [.var cs'] 0=true:=by
  simp [ZaY,okB,hs,Zb7,Zl]
 have hnp:ZI (.pan x)=true:=by simpa only [ZI] using hn
 simp only [ZaH,Wu,Xi,if_false,XF,XJ,XG,XT,Xx,decide_true,hk,Zba,Wg,if_true,Za9,ZaO,Xu,Zz,(Z4 _ _ hnp).1,(Za8 _ cs' hc').1,hup]
end
section
structure Zee where
 b:Zc
 short:Bool
def Zjh (b:Zc):Int:=IntKind.i64.wrap (Zc0 b:Int)
end
section
end
section
structure ZQ3 where
 r1:Zc×Zee
 r2:Zc×Zee
 r3:Zc×Zee
 r4:Zc×Zee
 r5:Zc×Zee
 r6:Zc×Zee
 r7:Zc×Zee
 r8:Zc×Zee
end
section
theorem ZAm (w:Int) (b:Zc):(Zap w b).1.length<=268435455:=by
 have hlt:=ZoW b
 unfold Zap
 split
 ·simp
 ·split
  ·have:=ZqF w (ZY b).1 ((b.take ((ZY b).2.1+(ZY b).1)).drop (ZY b).2.1) []
   simp only [Wb,Wj,XJ] at this
   simp only
   omega
  ·simp
end
section
structure ZQ6 (it:ZPv):Prop where
 note:ZKw it.note
 ids:it.ids.length<=1000000
 share:it.share.length<=9223372036854775807
end
section
end
section
structure ZHG where
 topic:Zc
 sender:Zc
 share:Zc
 payload:Zc
 qos:Int
 sub:Int
 retain:Bool
 keep:Bool
 life:Int
 p:ZCn
 ids:List Int
 origin:Int
 number:Int
structure ZQ5 (m:ZHG):Prop where
 topic:m.topic.length<=9223372036854775807
 sender:m.sender.length<=9223372036854775807
 share:m.share.length<=9223372036854775807
 content:m.p.content.length<=9223372036854775807
 users:m.p.users.length<=9223372036854775807
 ids:m.ids.length<=9223372036854775807
end
section
structure ZQ4 where
 d:Zc×Zee
 m:Zc×Zee
 k:Zc×Zee
end
section
theorem Zs4:∀ (k n i acc:Nat) (rest:Zc),i+k<=3->n < 128 ^ (k+1)->(0 < i->0 < n)->gvA i acc (Zci k n++rest)=(acc+n*128 ^ i,i+(Zci k n).length,0)
 | 0,n,i,acc,rest,hi,hn,hp=>by
  have h1:(Wf n).toNat=n:=by rw [WH];omega
  have h2:n % 128=n:=by omega
  unfold Zci
  rw [Xan]
  unfold gvA
  rw [if_neg (by omega),h1,if_pos (by omega),if_neg,h2]
  ·rfl
  ·rintro ⟨a,b⟩
   have:=hp b
   have:=congrArg UInt8.toNat a
   rw [h1] at this
   simp at this;omega
 | k+1,n,i,acc,rest,hi,hn,hp=>by
  unfold Zci
  by_cases h:n < 128
  ·have h1:(Wf n).toNat=n:=by rw [WH];omega
   have h2:n % 128=n:=by omega
   rw [if_pos h,Xan]
   unfold gvA
   rw [if_neg (by omega),h1,if_pos (by omega),if_neg,h2]
   ·rfl
   ·rintro ⟨a,b⟩
    have:=hp b
    have:=congrArg UInt8.toNat a
    rw [h1] at this
    simp at this;omega
  ·have h1:(Wf (n % 128+128)).toNat=n % 128+128:=by rw [WH];omega
   have hd:n / 128 < 128 ^ (k+1):=by rw [XaT] at hn;omega
   have ih:=Zs4 k (n / 128) (i+1) (acc+n % 128*128 ^ i) rest (by omega) hd (by omega)
   rw [if_neg h,XU]
   unfold gvA
   rw [if_neg (by omega),h1,if_neg (by omega)]
   have h3:(n % 128+128) % 128=n % 128:=by omega
   rw [h3,ih,XF,XaT]
   have h4:n=n / 128*128+n % 128:=by omega
   refine Prod.ext ?_ (Prod.ext ?_ rfl)
   ·simp only
    conv=>rhs;rw [h4]
    rw [Nat.add_mul,Nat.mul_assoc,Nat.mul_comm 128 (128 ^ i)]
    omega
   ·simp only;omega
theorem ZsX (n:Nat) (rest:Zc) (h:n < 268435456):ZY ((Zas (n:Int)).1++rest)=(n,(Zas (n:Int)).1.length,0):=by
 have e:(Zas (n:Int)).1=Zci 3 n:=by
  unfold Zas
  rw [if_neg (by omega)]
  rfl
 have:=Zs4 3 n 0 0 rest (by omega) h (by omega)
 rw [e]
 unfold ZY
 rw [this]
 simp
def ZQR (k:Int) (p:ZB):Prop :=
 if k=1\/k=2\/k=3\/k=4 then p.text=[]/\p.pair=[]/\p.data=[] else if k=5 then p.num=0/\p.pair=[]/\p.data=[]
 else if k=6 then p.num=0/\p.text=[]/\p.pair=[] else p.num=0/\p.data=[]
structure ZQ7 (w:Int) (acc:List ZB) (p:ZB):Prop where
 good:ZJW p=true
 may:Zhy p.id w=true
 canon:ZQR (Zcc p.id) p
 fits:Zhr p.id p.num=true
 dup:((ZfK p.id acc).isSome && !Zii p.id w)=false
end
end Go.Proofs.YteepdofekjheaaaDoor
