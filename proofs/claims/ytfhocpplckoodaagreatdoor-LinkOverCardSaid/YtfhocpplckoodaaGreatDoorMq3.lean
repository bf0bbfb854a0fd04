/- packed -/
import Derived.Test.YtfhocpplckoodaaGreatDoorMq2
import Derived.Lib.TrimUEq
import Derived.Lib.MapLaws
import Derived.Lib.ValidLaws
set_option linter.defProp false
set_option linter.unusedSectionVars false
set_option linter.unusedSimpArgs false
set_option linter.unusedVariables false
open Nat renaming reduceEqDiff→Xa,reduceLT→Xc,reduceAdd→Xe,reduceLeDiff→Xf,reduceBEq→Xg,zero_add→XB,le_refl→XF,add_zero→Wc,lt_or_ge→Wx,reduceSub→WK,pow_le_pow_right→WN,one_mul→W7,pow_succ→Xap,le_add_right→Xay,mod_eq_of_lt→Xa9,shiftLeft_eq→Xbb,mod_lt→Xbg
open List renaming getD_eq_getElem?_getD→Xh,length_append→Xi,map_cons→Xm,getElem?_set_ne→Xn,append_nil→Xo,length_cons→Xp,map_nil→Xt,getD_cons_zero→Xu,length_nil→Xw,getElem?_set→Xx,lookup_nil→Xy,replicate→Xz,nil_append→XA,mem_of_getElem?→XC,length_map→XD,all_eq_true→XH,take_of_length_le→XI,getElem?_cons_zero→XJ,flatMap_cons→XK,lookup_cons→XL,getD_cons_succ→XN,all_cons→XO,getElem?_eq_none→XQ,getElem?_cons_succ→XT,append_assoc→XU,cons_append→XV,drop_eq_nil_iff→XW,mem_map→X2,map_append→X4,flatMap_nil→X5,take_append_of_le_length→X6,getElem?_set_self→X7,length_drop→X9,range→Wa,range_succ→Wd,getElem?_append_left→Wi,isEmpty_cons→Wm,flatten_cons→Wn,ext_getElem?→Wp,all_nil→Ws,set_cons_zero→WH,set_cons_succ→WQ,flatten_nil→WU,take_length→Xaz,any_cons→XaI,any_nil→XaR,set_set→Xbj
open Bool renaming false_eq_true→Xj,and_eq_true→Xk,and_self→Wg,not_eq_true→WV,false_and→WX,or_true→XaZ
open Or renaming inl→Xr,inr→XE
open Int renaming reduceBEq→Xs,reduceLT→XY,toNat_natCast→Wv,toNat→WW
open BitVec renaming ofInt→XP,ofInt_natCast→XaV,toNat_ofNat→Xa1
open UInt8 renaming ofNat→X1,toNat_ofNat'→Wr
open Option renaming isSome_none→Xal
namespace Go.Proofs.YtfhocpplckoodaaGreatDoor
set_option maxHeartbeats 16000000
set_option maxRecDepth 10000
section
def beB:Nat->Nat->Zc
 |_,0=>[]
 |n,w+1=>beB (n/256) w++[X1 (n%256)]
theorem Za3:∀ (w n:Nat),(beB n w).length=w
 |0,_=>rfl
 |w+1,n=>by simp[beB,Za3 w]
def ZfB(x:Nat)(b:Zc):Nat:=b.foldl (fun x c=>(x*256+c.toNat)%18446744073709551616) x
def ZcR(b:Zc):Nat:=ZfB 0 b
theorem Zdb(x:Nat)(c:UInt8)(b:Zc):ZfB x (c::b)=ZfB ((x*256+c.toNat)%18446744073709551616) b:=rfl
theorem Zfa(x:Nat):ZfB x []=x:=rfl
def Zcf:Nat->Nat->Zc
 |0,n=>[X1 n]
 |k+1,n=>if n<128 then [X1 n]else X1 (n%128+128)::Zcf k (n/128)
def Zac(n:Int):Zc×Int:=if n<0\/n>268435455 then([],10)else(Zcf 3 n.toNat,0)
def gvA(i n:Nat):Zc->Nat×Nat×Int
 | []=>if i<4 then(0,0,11)else(0,0,12)
 |c::r=>if i=4 then(0,0,12)else if c.toNat<128 then(if c=0/\0<i then(0,0,12)else(n+c.toNat%128*128^i,i+1,0))else gvA (i+1) (n+c.toNat%128*128^i) r
def Z0(b:Zc):Nat×Nat×Int:=gvA 0 0 b
def Zbj(b:Zc):Zc×Int:=if b.length>65535 then([],10)else(beB b.length 2++b,0)
def ZaP(b:Zc):Zc×Nat×Int :=
 if b.length<2\/b.length-2<ZcR (b.take 2)then([],0,11)else((b.drop 2).take (ZcR (b.take 2)),2+ZcR (b.take 2),0)
end
section
theorem ZJz(n:Nat):IntKind.u8.wrap (n:Int)=((X1 (n%256)).toNat:Int):=by
 rw[IntKind.wrap_u8,Wr]
 omega
theorem ZBQ(k n:Nat)(xs:List AVal)(σ:Za):Z4 0 (.row 0 k xs::σ) (.sl 0 0 0 n)=some (.sl 0 0 0 n,[.row 0 k xs]):=by
 simp[Z4,gcA,Zu,Zs,Zt,ZT,Zk,Zn,ZI,Zl,ZF,Zh,Zo,Zy,Zx]
theorem ZGP(m:Nat)(z:AVal)(t:List AVal):(Xz (m+1) z++t)[m]?=some z:=by
 rw[Wi (by simp)];simp
theorem ZB1(m:Nat)(z v:AVal)(t:List AVal):(Xz (m+1) z++t).set m v=Xz m z++v::t:=by
 rw[List.replicate_succ',XU,List.set_append_right _ _ (by simp)];simp
theorem Zyn(W:Nat)(hW:W<=8):∀ (m n:Nat) (tail:Zc),m+tail.length=W->Zmx 0 [(6,.int .i64 ((m:Int)-1)),(5,.sl 0 0 0 W),(0,.int .u64 (n:Nat))] [.row 0 1 (Xz m (.int .u8 0)++tail.map Zb)]=some (.sl 0 0 0 W,[.row 0 1 ((beB n m++tail).map Zb)])
 |0,n,tail,h=>by
  have h1:¬(((0:Nat):Int)-1>=0):=by omega
  unfold Zmx
  rw[ZR,beB]
  simp -implicitDefEqProofs only[EQA,Xc,Xa,reduceCtorEq,↓reduceIte,ZW0,ZS4,Zr0,ZzW,ZlL,Zd,h1,ZBQ]
 |m+1,n,tail,h=>by
  have ih:=Zyn W hW m (n/256) (X1 (n%256)::tail) (by simp;omega)
  have e0:((m+1:Nat):Int)-1=(m:Int):=by omega
  have h1:(m:Int)>=0:=by omega
  have h2:(0:Int)<=(m:Int):=by omega
  have h3:m<W:=by omega
  have hg:=ZGP m (.int .u8 0) (tail.map Zb)
  have hs:=ZB1 m (.int .u8 0) (Zb (X1 (n%256))) (tail.map Zb)
  have hb:=ZJz n
  have hw:IntKind.i64.wrap ((m:Int)-1)=(m:Int)-1:=ZaC (by omega) (by omega)
  have hd:(n:Int).fdiv (2^min (WW 8) IntKind.u64.bits)=((n/256:Nat):Int):=by
   rw[show(2:Int)^min (WW 8) IntKind.u64.bits=256 from rfl,Int.fdiv_eq_ediv_of_nonneg _ (by decide)]
   omega
  have e1:beB n (m+1)++tail=beB (n/256) m++(X1 (n%256)::tail):=by simp[beB]
  rw[e0,e1]
  have e2:Xz m (AVal.int .u8 0)++(X1 (n%256)::tail).map Zb=Xz m (.int .u8 0)++Zb (X1 (n%256))::tail.map Zb:=rfl
  rw[e2]at ih
  generalize hX:Xz (m+1) (AVal.int .u8 0)++tail.map Zb=X at *
  generalize hY:Xz m (AVal.int .u8 0)++Zb (X1 (n%256))::tail.map Zb=Y at *
  unfold Zb at hs
  unfold Zmx at ih ⊢
  rw[ZR]
  simp -implicitDefEqProofs only[EQA,ZM,Za7,Xc,Xa,ZaR,reduceCtorEq,↓reduceIte,gcT,gcA,Zu,Zs,Zk,Zn,ZI,Zl,ZF,Zy,Zx,ZzW,ZlL,Zd,h1,h3,hg,hs,hb,hw,hd,Zb9,Wv,AVal.cells,Zat,ZK,Zg5,Zr,XY]
  exact ih
theorem ZQZ(n W:Nat)(h1:1<=W)(hW:W<=8):E 94 [.int .u64 (n:Nat),.int .i64 (W:Nat)] []=some (.sl 0 0 0 W,[.row 0 1 ((beB n W).map Zb)]):=by
 have key:=Zyn W hW W n [] (by simp)
 have c1:¬((W:Int)<1):=by omega
 have c2:¬((W:Int)>8):=by omega
 have c3:(0:Int)<=(W:Int):=by omega
 have c4:(W:Int)<=9223372036854775807:=by omega
 have c5:((1:Nat):Int)*(W:Int)<=140737488355328:=by omega
 have w1:IntKind.i64.wrap ((W:Int)-1)=(W:Int)-1:=ZaC (by omega) (by omega)
 simp only[Xt,Xo]at key
 rw[Zi (by rfl) ZBH]
 unfold Zmx at key
 simp -implicitDefEqProofs only[EQA,Zz,ZM,Za7,Xc,Xa,Xg,Zw,unG,reduceCtorEq,↓reduceIte,gcT,gcA,Zu,Zs,Zk,Zn,ZI,Zl,ZF,Zy,Zx,ZEK,ZqF,Zd,c1,c2,c3,c4,c5,w1,Int.le_refl,Wv]
 exact key
theorem Znk(σ:Za)(sq own:Nat)(n W:Nat)(h1:1<=W)(hW:W<=8):Zj E BY σ sq 94 own true [.int .u64 (n:Nat),.int .i64 (W:Nat)]=some (.lst false ((beB n W).map Zb),σ,{}) :=
 Zpb (bf:=BY) (ZQZ n W h1 hW) (by simp[Za3]) rfl rfl σ sq own
theorem ZSZ(x c:Nat)(hc:c<256):IntKind.u64.wrap (((XP IntKind.u64.bits (IntKind.u64.wrap ((x:Int)*2^min (WW 8) IntKind.u64.bits)) |||XP IntKind.u64.bits (c:Int)).toNat:Nat):Int)=(((x*256+c)%18446744073709551616:Nat):Int):=by
 rw[show(2:Int)^min (WW 8) IntKind.u64.bits=256 from rfl]
 have hb:IntKind.u64.bits=64:=rfl
 rw[hb,IntKind.wrap_u64,IntKind.wrap_u64]
 have e1:(x:Int)*256%18446744073709551616=((x*256%18446744073709551616:Nat):Int):=by omega
 rw[e1,BitVec.toNat_or]
 simp only[XaV,Xa1]
 have e2:x*256%18446744073709551616%2^64=(x%72057594037927936)<<<8:=by
  rw[Xbb];omega
 have e3:c%2^64=c:=by omega
 rw[e2,e3,<-Nat.shiftLeft_add_eq_or_of_lt (by omega:c<2^8),Xbb]
 omega
theorem Zx7(b:Zc)(hl:b.length<=9223372036854775807):∀ (r:Zc) (i x:Nat),b.drop i=r->Znh 0 [(8,.int .i64 i),(7,.int .i64 b.length),(6,.lst false (b.map Zb)),(3,.int .u64 (x:Nat))] []=some (.int .u64 (ZfB x r:Nat),[])
 | [],i,x,h=>by
  have h1:=Zcq h
  unfold Znh
  rw[ZR,Zfa]
  simp -implicitDefEqProofs only[EQA,Xc,Xa,↓reduceIte,ZEj,ZWz,Zug,Zzm,Zot,Zd,h1]
 |c::r,i,x,h=>by
  have ih:=Zx7 b hl r (i+1) ((x*256+c.toNat)%18446744073709551616) (ZW h).2.1
  have h1:(i:Int)<b.length:=by have:=(ZW h).2.2;omega
  have e1:=iad (ZW h).1 Zb (k:=1) rfl
  have e3:=Zcs h1 hl
  have ho:=ZSZ x c.toNat c.toNat_lt
  have hc:IntKind.u64.wrap (c.toNat:Int)=(c.toNat:Int):=by rw[IntKind.wrap_u64];have:=c.toNat_lt;omega
  unfold Znh at ih ⊢
  rw[ZR,Zdb]
  simp -implicitDefEqProofs only[EQA,ZM,Xc,Xa,ZaR,↓reduceIte,gcT,gcA,Zu,Zs,Zn,Zx,Zzm,Zot,Zd,h1,e1,e3,ho,hc,Zb,AVal.cells,XY]
  exact ih
theorem ZM9(b:Zc)(hl:b.length<=9223372036854775807):E 135 [ZJ b] []=some (.int .u64 (ZcR b:Nat),[]):=by
 have key:=Zx7 b hl b 0 0 rfl
 have z0:((0:Nat):Int)=0:=rfl
 rw[z0]at key
 unfold Znh at key
 unfold ZcR
 rw[Zi (by rfl) ZT3]
 simp -implicitDefEqProofs only[EQA,ZM,Xc,Xa,reduceCtorEq,↓reduceIte,gcT,gcA,Zu,Zs,Zn,Zx,ZXs,Zo5,Zd,ZJ]
 exact key
theorem Zle(σ:Za)(sq own:Nat)(b:Zc)(hl:b.length<=9223372036854775807)(f:Bool):Zj E BY σ sq 135 own true [.lst f (b.map Zb)]=some (.int .u64 (ZcR b:Nat),σ,{}) :=
 ZbD (ZM9 b hl) (by kernel_rfl) rfl rfl rfl (fun _=>rfl) _ _ _
end
section
theorem ZAJ(ls:List Zc)(hl:ls.length<=9223372036854775807):∀ (r:List Zc) (i:Nat) (acc full:Zc),ls.drop i=r->full=acc++r.flatten->full.length<=140737488355328 ->
  Zl0 0 [(8,.int .i64 i),(7,.int .i64 ls.length),(6,.lst false (ls.map ZJ)),(3,.sl 0 0 0 acc.length)] [.row 0 1 (acc.map Zb)]=some (.sl 0 0 0 full.length,[.row 0 1 (full.map Zb)])
 | [],i,acc,full,h,hf,hn=>by
  have h1:=Zcq h
  have e:full=acc:=by simpa using hf
  subst e
  unfold Zl0
  rw[ZR]
  simp -implicitDefEqProofs only[EQA,Xc,Xa,↓reduceIte,ZEI,ZVh,Zqt,Zq4,Zjv,Zd,h1,ZAn]
 |p::r,i,acc,full,h,hf,hn=>by
  have ih:=ZAJ ls hl r (i+1) (acc++p) full (ZW h).2.1 (by rw[hf];simp) hn
  have h1:(i:Int)<ls.length:=by have:=(ZW h).2.2;omega
  have e1:=iad (ZW h).1 ZJ (k:=1) rfl
  have e3:=Zcs h1 hl
  have k1:=Zgf p
  have k2:(acc.length+p.length)*1<=140737488355328:=by have:=congrArg List.length hf;simp at this;omega
  have e4:(acc++p).map Zb=acc.map Zb++p.map Zb:=by simp
  have e5:(acc++p).length=acc.length+p.length:=by simp
  rw[e4,e5]at ih
  clear hf
  unfold Zl0 at ih ⊢
  rw[ZR]
  unfold ZJ at e1 ih ⊢
  simp -implicitDefEqProofs only[EQA,ZM,Za7,Xe,Xc,Xa,Xg,reduceCtorEq,ZY,↓reduceIte,gcT,gcA,Zu,Zs,Zk,Zn,ZI,Zl,ZF,Zy,Zx,Zq4,Zjv,Zd,h1,e1,e3,k1,k2,ZaE,AVal.cells]
  exact ih
theorem ZS2(p:Zc)(ls:List Zc)(hl:(p::ls).length<=9223372036854775807)(hn:(p::ls).flatten.length<=140737488355328):E 29 [.lst false ((p::ls).map ZJ)] []=some (.sl 0 0 0 (p::ls).flatten.length,[.row 0 1 ((p::ls).flatten.map Zb)]):=by
 have key:=ZAJ (p::ls) hl ls 1 p (p::ls).flatten rfl rfl hn
 have k1:=Zgf p
 have k2:p.length*1<=140737488355328:=by simp at hn;omega
 have h1:(0:Int)<((p::ls).length:Int):=by simp
 have hat:(p::ls)[0]?=some p:=rfl
 have e1:=iad hat ZJ (k:=1) rfl
 have z0:((0:Nat):Int)=0:=rfl
 have z1:((1:Nat):Int)=1:=rfl
 have w1:IntKind.i64.wrap (0+1)=1:=rfl
 rw[z0]at e1
 rw[z1]at key
 unfold Zl0 at key
 generalize hL:p::ls=L at *
 rw[Zi (by rfl) ZRF]
 unfold ZJ at e1 key ⊢
 simp -implicitDefEqProofs only[EQA,ZM,Xc,Xa,reduceCtorEq,↓reduceIte,gcT,gcA,Zu,Zs,Zn,Zx,ZMQ,Zqx,Zd]
 rw[ZR]
 simp -implicitDefEqProofs only[EQA,ZM,Za7,Xc,Xa,Xg,ZY,↓reduceIte,gcT,gcA,Zu,Zs,Zk,Zn,ZI,Zl,ZF,Zy,Zx,Zq4,Zjv,Zd,h1,e1,w1,k1,k2,ZaE,AVal.cells]
 exact key
theorem Zid(σ:Za)(sq own:Nat)(f:Bool)(p:Zc)(ls:List Zc)(hl:(p::ls).length<=9223372036854775807)(hn:(p::ls).flatten.length<=140737488355328):Zj E BY σ sq 29 own true [.lst f ((p::ls).map ZJ)]=some (.lst false ((p::ls).flatten.map Zb),σ,{}):=by
 have h:=Zpb (bf:=BY) (ZS2 p ls hl hn) (by rw[XD]) rfl rfl σ sq own
 cases f
 ·exact h
 ·rw[ZcT (by kernel_rfl) rfl]at h⊢
  exact h
theorem ZMX:∀ n:Fin 256,IntKind.u8.wrap (((XP IntKind.u8.bits ((n.val:Nat):Int) |||XP IntKind.u8.bits 128).toNat:Nat):Int)=((n.val%128+128:Nat):Int):=by decide +kernel
theorem ZWy(n:Nat):IntKind.u8.wrap (((XP IntKind.u8.bits (IntKind.u8.wrap (n:Int)) |||XP IntKind.u8.bits 128).toNat:Nat):Int)=((X1 (n%128+128)).toNat:Int):=by
 have h:=ZMX ⟨n%256,Xbg _ (by decide)⟩
 have e:IntKind.u8.wrap (n:Int)=((n%256:Nat):Int):=by rw[IntKind.wrap_u8];omega
 rw[e,h,Wr]
 simp only
 omega
theorem Zu6:∀ (k n:Nat) (acc full:Zc),n<128^(k+1)->acc.length+k<=3->full=acc++Zcf k n ->
  Zou 0 [(4,ZcL (acc.map Zb)),(0,.int .i64 (n:Nat))] (ZcI 1 (acc.map Zb))=some (.tup [.sl 0 0 0 full.length,.int .i64 0],[.row 0 1 (full.map Zb)])
 |k,n,acc,full,hk,hacc,hf=>by
  by_cases hn:n<128
  ·have h1:¬((n:Int)>127):=by omega
   have hv:Zcf k n=[X1 n]:=by cases k<;>simp[Zcf,hn]
   rw[hv]at hf
   have hb:IntKind.u8.wrap (n:Int)=((X1 n).toNat:Int):=by rw[IntKind.wrap_u8,Wr];omega
   subst hf
   unfold Zou
   rw[ZR]
   cases acc with
   |nil =>
    simp -implicitDefEqProofs only[EQA,Xc,Xf,Xa,Xg,reduceCtorEq,ZY,↓reduceIte,Znb,Zvp,ZlB,Zk6,Zir,Zd,h1,hb,Zdu,ZdB,ZaE,kOk,viewAs,ZP,ZK,Zr,W7,AVal.cells]
    simp[Z4,gcA,Zu,Zs,Zt,ZT,Zk,Zn,ZI,Zl,ZF,Zh,Zo,Zy,Zx]
    rfl
   |cons a acc =>
    have hz:(acc.length+1+1)*1<=140737488355328:=by simp at hacc;omega
    simp -implicitDefEqProofs only[EQA,Xe,Xc,Xa,Xg,reduceCtorEq,ZY,↓reduceIte,Znb,Zvp,ZlB,Zk6,Zir,Zd,h1,hb,ZdF,Zdr,ZaE,kOk,viewAs,ZP,ZK,Zr,AVal.cells,hz]
    simp[Z4,gcA,Zu,Zs,Zt,ZT,Zk,Zn,ZI,Zl,ZF,Zh,Zo,Zy,Zx]
    rfl
  ·cases k with
   |zero=>simp at hk;omega
   |succ k =>
    have hlt:n/128<128^(k+1):=by
     rw[Nat.div_lt_iff_lt_mul (by decide)]
     rw[Xap]at hk;exact hk
    have hv:Zcf (k+1) n=X1 (n%128+128)::Zcf k (n/128):=by simp[Zcf,hn]
    have ih:=Zu6 k (n/128) (acc++[X1 (n%128+128)]) full hlt (by simp;omega) (by rw[hf,hv];simp)
    clear hf
    have h1:((n:Int)>127):=by omega
    have ho:=ZWy n
    have hd:(n:Int).fdiv (2^min (WW 7) IntKind.i64.bits)=((n/128:Nat):Int):=by
     rw[show(2:Int)^min (WW 7) IntKind.i64.bits=128 from rfl,Int.fdiv_eq_ediv_of_nonneg _ (by decide)]
     omega
    unfold Zou at ih ⊢
    rw[ZR]
    cases acc with
    |nil =>
     simp -implicitDefEqProofs only[EQA,ZM,Za7,Xc,Xf,Xa,Xg,ZaR,reduceCtorEq,ZY,↓reduceIte,gcT,gcA,Zu,Zs,Zk,Zn,ZI,Zl,ZF,Zy,Zx,Zk6,Zir,Zd,h1,ho,hd,Zdu,ZdB,ZaE,kOk,viewAs,ZP,ZK,Zr,W7,AVal.cells,XY]
     simp only[Xm,Xt,XA,ZdF,Zdr,Xp,Xw,XB,Zb]at ih
     exact ih
    |cons a acc =>
     have hz:(acc.length+1+1)*1<=140737488355328:=by simp at hacc;omega
     simp -implicitDefEqProofs only[EQA,ZM,Za7,Xe,Xc,Xa,Xg,ZaR,reduceCtorEq,ZY,↓reduceIte,gcT,gcA,Zu,Zs,Zk,Zn,ZI,Zl,ZF,Zy,Zx,Zk6,Zir,Zd,h1,ho,hd,ZdF,Zdr,ZaE,kOk,viewAs,ZP,ZK,Zr,AVal.cells,hz,XY]
     simp only[X4,Xm,Xt,XV,ZdF,Zdr,Xi,Xp,XD,Xw,XB,Nat.add_assoc,Xe,Zb]at ih
     exact ih
theorem ZEd(n:Int):E 28 [.int .i64 n] []=some (if n<0\/n>268435455 then(.tup [.lst true [],.int .i64 10],[])else(.tup [.sl 0 0 0 (Zcf 3 n.toNat).length,.int .i64 0],[.row 0 1 ((Zcf 3 n.toNat).map Zb)])):=by
 rw[Zi (by rfl) ZBK]
 by_cases h0:n<0
 ·have : n<0\/n>268435455:=Xr h0
  simp -implicitDefEqProofs only[EQA,Zv,Xc,Xa,Zw,Zad,reduceCtorEq,↓reduceIte,Zf,ZqD,Zjx,Znb,Zd,h0]
 ·by_cases h2:n>268435455
  ·have : n<0\/n>268435455:=XE h2
   simp -implicitDefEqProofs only[EQA,Zv,Xc,Xa,Zw,unG,reduceCtorEq,↓reduceIte,Zf,ZqD,Zjx,Znb,Zd,h0,h2]
  ·have : ¬(n<0\/n>268435455):=by omega
   have key:=Zu6 3 n.toNat [] (Zcf 3 n.toNat) (by omega) (by simp) rfl
   have e:((n.toNat:Nat):Int)=n:=by omega
   rw[e]at key
   simp only[Xt,Zdu,ZdB]at key
   unfold Zou at key
   generalize Zcf 3 n.toNat=V at *
   simp -implicitDefEqProofs only[EQA,ZM,Xc,Xa,Zw,unG,reduceCtorEq,↓reduceIte,gcT,gcA,Zu,Zs,Zn,Zx,ZqD,Zjx,Zd,h0,h2]
   exact key
def Zfm(n:Int):AVal:=.tup [.lst false ((Zac n).1.map Zb),.int .i64 (Zac n).2]
theorem ZPy{O:ZV}{bf:Nat->Bool}{f:Nat}{args args':List AVal}{k n:Nat}{xs:List AVal}{c:Int}(h:O f args' []=some (.tup [.sl 0 0 0 n,.int .i64 c],[.row 0 k xs]))(hl:xs.length=n)(hb:bf f=false)(hp:args.all Zan=true)(hn:args.map ZN=args')(σ:Za)(sq own:Nat):Zj O bf σ sq f own true args=some (.tup [.lst false xs,.int .i64 c],σ,{}):=by
 subst hl
 rw[ZcT hb hp,hn,h]
 simp[Z3,ZbB,viewR,viewAs,ZP,ZK,ZY,Zr,gcA,Zu,Zs,Zt,ZT,Zh,Zo,Zn,ZaA,ZbJ,Zbr,Za5]
theorem Zgq(σ:Za)(sq own:Nat)(n:Int):Zj E BY σ sq 28 own true [.int .i64 n]=some (Zfm n,σ,{}):=by
 have h:=ZEd n
 unfold Zfm Zac
 by_cases hc:n<0\/n>268435455
 ·rw[if_pos hc]at h⊢
  exact ZbD h (by kernel_rfl) rfl rfl rfl (fun _=>rfl) _ _ _
 ·rw[if_neg hc]at h⊢
  exact ZPy h (by rw[XD]) (by kernel_rfl) rfl rfl _ _ _
end
section
def gvT(x:Nat×Nat×Int):AVal:=.tup [.int .i64 (x.1:Nat),.int .i64 (x.2.1:Nat),.int .i64 x.2.2]
theorem ZXK:∀ n:Fin 256,IntKind.u8.wrap (((XP IntKind.u8.bits ((n.val:Nat):Int)&&&XP IntKind.u8.bits 127).toNat:Nat):Int)=((n.val%128:Nat):Int):=by decide +kernel
theorem ZDB(c:UInt8):IntKind.u8.wrap (((XP IntKind.u8.bits (c.toNat:Int)&&&XP IntKind.u8.bits 127).toNat:Nat):Int)=((c.toNat%128:Nat):Int):=ZXK ⟨c.toNat,c.toNat_lt⟩
theorem Zuu(i:Nat):128^i=2^(7*i):=by rw[Nat.pow_mul]
theorem ZWD(n a i:Nat)(hi:i<=3)(hn:n<128^i)(ha:a<128):IntKind.i64.wrap (((XP IntKind.i64.bits (n:Int) |||XP IntKind.i64.bits ((a*128^i:Nat):Int)).toNat:Nat):Int)=((n+a*128^i:Nat):Int):=by
 have hb:IntKind.i64.bits=64:=rfl
 have hp:128^i<=128^3:=WN (by decide) hi
 have hm:a*128^i<=127*128^3:=Nat.mul_le_mul (by omega) hp
 rw[hb,BitVec.toNat_or]
 simp only[XaV,Xa1]
 have e1:n%2^64=n:=Xa9 (by omega)
 have e2:a*128^i%2^64=a*128^i:=Xa9 (by omega)
 rw[e1,e2]
 have e3:a*128^i=a<<<(7*i):=by rw[Xbb,Zuu]
 have e4:n |||a*128^i=n+a*128^i:=by
  rw[e3,Nat.or_comm,<-Nat.shiftLeft_add_eq_or_of_lt (by rw[<-Zuu];exact hn)]
  omega
 rw[e4,ZaC (by omega) (by omega)]
theorem ZLN(a i:Nat)(hi:i<=3)(ha:a<128):IntKind.i64.wrap ((a:Int)*2^min (WW ((7*i:Nat):Int)) IntKind.i64.bits)=((a*128^i:Nat):Int):=by
 have hp:128^i<=128^3:=WN (by decide) hi
 have hm:a*128^i<=127*128^3:=Nat.mul_le_mul (by omega) hp
 have e:min (WW ((7*i:Nat):Int)) IntKind.i64.bits=7*i:=by
  have hb:IntKind.i64.bits=64:=rfl
  rw[hb];omega
 have e2:((a:Int)*2^(7*i))=((a*128^i:Nat):Int):=by rw[Zuu];simp
 rw[e,e2,ZaC (by omega) (by omega)]
theorem Zza(n i a:Nat)(hn:n<128^i)(ha:a<128):n+a*128^i<128^(i+1):=by
 have : a*128^i<=127*128^i:=Nat.mul_le_mul_right _ (by omega)
 rw[Xap];omega
theorem ZzX(b:Zc)(hl:b.length<=9223372036854775807):∀ (r:Zc) (i n:Nat),i<=4->i<=b.length->n<128^i->b.drop i=r ->
  ZiH 0 [(9,.int .i64 i),(8,.int .i64 b.length),(7,.lst false (b.map Zb)),(2,.int .i64 n),(0,.lst false (b.map Zb))] []=some (gvT (gvA i n r),[])
 | [],i,n,hi,hib,hn,h=>by
  have h1:=Zcq h
  unfold ZiH
  rw[ZR,gvA]
  by_cases h4:i<4
  ·have h5:(b.length:Int)<4:=by omega
   simp -implicitDefEqProofs only[EQA,Zv,Xc,Xa,reduceCtorEq,↓reduceIte,Zf,ZiV,Zo1,ZjZ,Zha,ZfU,Zd,h1,h4,h5,gvT]
   rfl
  ·have h5:¬(b.length:Int)<4:=by omega
   simp -implicitDefEqProofs only[EQA,Zv,Xc,Xa,reduceCtorEq,↓reduceIte,Zf,ZiV,Zo1,ZjZ,Zha,ZfU,Zd,h1,h4,h5,gvT]
   rfl
 |c::r,i,n,hi,hib,hn,h=>by
  have hlt:=(ZW h).2.2
  have h1:(i:Int)<b.length:=by omega
  have e1:=iad (ZW h).1 Zb (k:=1) rfl
  have e3:=Zcs h1 hl
  rw[gvA]
  by_cases h4:i=4
  ·have h5:¬(b.length:Int)<4:=by omega
   have h6:((i:Int)==4)=true:=by simp;omega
   rw[if_pos h4]
   unfold ZiH
   rw[ZR]
   simp -implicitDefEqProofs only[EQA,Zv,Xc,Xa,reduceCtorEq,↓reduceIte,Zf,ZiV,Zo1,ZjZ,Zha,ZfU,Zd,h1,e1,h5,h6,gvT,Zb,AVal.cells]
   rfl
  ·have h6:((i:Int)==4)=false:=by simp;omega
   have hm:=ZDB c
   have ha:c.toNat%128<128:=Xbg _ (by decide)
   have hi64:IntKind.i64.wrap ((c.toNat%128:Nat):Int)=((c.toNat%128:Nat):Int):=ZaC (by omega) (by omega)
   have h7:IntKind.i64.wrap (7*(i:Int))=((7*i:Nat):Int):=by rw[ZaC (by omega) (by omega)];omega
   have hneg:¬((7*i:Nat):Int)<0:=by omega
   have hs:=ZLN (c.toNat%128) i (by omega) ha
   have ho:=ZWD n (c.toNat%128) i (by omega) hn ha
   by_cases hc:c.toNat<128
   ·have hc':(c.toNat:Int)<128:=by omega
    unfold ZiH
    rw[ZR]
    by_cases hc0:c=0
    ·have hc1:((c.toNat:Int)==0)=true:=by rw[hc0];rfl
     by_cases hip:0<i
     ·have hip':(i:Int)>0:=by omega
      have hcc:c=0/\0<i:=⟨hc0,hip⟩
      simp -implicitDefEqProofs only[EQA,Zv,ZM,Zdm,ZmH,Xc,Xa,ZaR,Zw,Zad,unG,reduceCtorEq,decide_eq_true_eq,ite_self,↓reduceIte,Zf,gcT,gcA,Zu,Zs,Zn,Zx,ZiV,Zha,ZfU,Zd,h1,e1,h4,h6,h7,hneg,hip',hcc,gvT,Zb,AVal.cells]
      rfl
     ·have hip':¬(i:Int)>0:=by omega
      have hcc:¬(c=0/\0<i):=fun h=>hip h.2
      simp -implicitDefEqProofs only[EQA,Zv,Xc,Xa,ZaR,Zw,unG,reduceCtorEq,↓reduceIte,Zf,ZiV,Zha,ZfU,Zd,h1,e1,h4,h6,hm,hi64,h7,hneg,hs,ho,hc,hc',hc1,hip',hcc,e3,gvT,Zb,AVal.cells]
    ·have hc1:((c.toNat:Int)==0)=false:=by
      have : c.toNat≠0:=fun h=>hc0 (UInt8.toNat_inj.1 (by simpa using h))
      simp;omega
     have hcc:¬(c=0/\0<i):=fun h=>hc0 h.1
     simp -implicitDefEqProofs only[EQA,Zv,Xc,Xa,ZaR,Zw,Zad,reduceCtorEq,↓reduceIte,Zf,ZiV,Zha,ZfU,Zd,h1,e1,h4,h6,hm,hi64,h7,hneg,hs,ho,hc,hc',hc1,hcc,e3,gvT,Zb,AVal.cells]
   ·have hc':¬(c.toNat:Int)<128:=by omega
    have ih:=ZzX b hl r (i+1) (n+c.toNat%128*128^i) (by omega) (by omega) (Zza n i _ hn ha) (ZW h).2.1
    unfold ZiH at ih ⊢
    rw[ZR]
    simp -implicitDefEqProofs only[EQA,ZM,Xc,Xa,ZaR,reduceCtorEq,↓reduceIte,gcT,gcA,Zu,Zs,Zn,Zx,Zha,ZfU,Zd,h1,e1,h4,h6,hm,hi64,h7,hneg,hs,ho,hc,hc',e3,Zb,AVal.cells]
    exact ih
theorem ZRK(b:Zc)(hl:b.length<=9223372036854775807):E 151 [ZJ b] []=some (gvT (Z0 b),[]):=by
 have key:=ZzX b hl b 0 0 (by omega) (by omega) (by simp) rfl
 have z0:((0:Nat):Int)=0:=rfl
 rw[z0]at key
 unfold ZiH at key
 unfold Z0
 rw[Zi (by rfl) ZMH]
 simp -implicitDefEqProofs only[EQA,ZM,Xc,Xa,reduceCtorEq,↓reduceIte,gcT,gcA,Zu,Zs,Zn,Zx,ZGy,Zsk,Zd,ZJ]
 exact key
theorem Zrs(σ:Za)(sq own:Nat)(f:Bool)(b:Zc)(hl:b.length<=9223372036854775807):Zj E BY σ sq 151 own true [.lst f (b.map Zb)]=some (gvT (Z0 b),σ,{}) :=
 ZbD (ZRK b hl) (by kernel_rfl) rfl rfl rfl (fun _=>rfl) _ _ _
end
section
theorem Zlu(l:List UInt8)(p:Nat):Zf2 l p=Lib.decodeL (l.drop p):=by
 have:=Lib.decodeL_drop ⟨l.toArray⟩ p
 simpa[Zf2]using this.symm
def zfG:Nat->List UInt8->Bool
 |0,_=>true
 |n+1,l=>if l=[]then true else if(Lib.decodeL l).1=0 then false else zfG n (l.drop (Lib.decodeL l).2)
def Zct(l:List UInt8):Bool:=zfG l.length l&&Lib.validD l
theorem ZTC(l:List UInt8):E 88 [.str l] []=some (.bool (Lib.validD l),[]):=ZbQ.2 ⟨1,rfl⟩
theorem ZN4(σ:Za)(sq own:Nat)(view:Bool)(l:List UInt8):Zj E BY σ sq 88 own view [.str l]=some (.bool (Lib.validD l),σ,{}) :=
 Za2 (ZTC l) (by kernel_rfl) (by simp -implicitDefEqProofs only[Zbu,Zai,eq_self]) (by simp -implicitDefEqProofs only[Zz,Zai,eq_self]) rfl (fun _=>rfl) _ _ _ _
theorem ZxW(s:List UInt8):∀ (n p:Nat),s.length-p<=n->p<=s.length->ZlF 0 [(6,.ref 0 0),(0,.str s)] [.siter s p]=some (.bool (zfG n (s.drop p)&&Lib.validD s),[])
 |n,p,hn,hp=>by
  by_cases h:p<s.length
  ·obtain⟨n,rfl⟩:∃ m,n=m+1:=⟨n-1,by omega⟩
   have hw:=Lib.decodeL_width (s.drop p)
   have hne:s.drop p≠[]:=by rw[ne_eq,XW];omega
   have hle:=Lib.decodeL_le (s.drop p) hne
   rw[X9]at hle
   have ih:=ZxW s n (p+(Lib.decodeL (s.drop p)).2) (by omega) (by omega)
   rw[<-List.drop_drop]at ih
   unfold ZlF at ih ⊢
   rw[ZR]
   by_cases hz:(Lib.decodeL (s.drop p)).1=0
   ·have hz':((Lib.decodeL (s.drop p)).1:Int)=0:=by omega
    simp -implicitDefEqProofs only[EQA,Xc,Xa,reduceCtorEq,↓reduceIte,Zwp,Zst,Zkk,Zd,h,Zlu,hz']
    rw[zfG,if_neg hne,if_pos hz];rfl
   ·have hz':(((Lib.decodeL (s.drop p)).1:Int)==0)=false:=by rw[beq_eq_false_iff_ne];omega
    simp -implicitDefEqProofs only[EQA,ZM,Za7,Xc,Xa,reduceCtorEq,↓reduceIte,gcT,gcA,Zu,Zs,Zk,Zn,ZI,Zl,ZF,Zy,Zx,Zst,Zkk,Zd,h,Zlu,hz']
    rw[ih,zfG,if_neg hne,if_neg hz]
  ·have he:s.drop p=[]:=by rw[XW];omega
   unfold ZlF
   rw[ZR]
   simp -implicitDefEqProofs only[EQA,Xc,Xa,reduceCtorEq,↓reduceIte,Zwp,ZVE,Zsa,Zst,Zkk,Zd,h,ZN4]
   rw[he]
   cases n<;>simp[zfG]
theorem ZNm(s:List UInt8):E 67 [.str s] []=some (.bool (Zct s),[]):=by
 rw[Zi (by rfl) ZPa]
 have:=ZxW s s.length 0 (by omega) (by omega)
 unfold ZlF at this
 simp -implicitDefEqProofs only[EQA,ZM,Za7,Xc,Xg,reduceCtorEq,↓reduceIte,gcT,gcA,Zu,Zs,Zk,Zn,ZI,Zl,ZF,Zy,Zx,ZHE,Zt5,Zd]
 rw[this,List.drop_zero];rfl
theorem Zq5(σ:Za)(sq own:Nat)(view:Bool)(l:List UInt8):Zj E BY σ sq 67 own view [.str l]=some (.bool (Zct l),σ,{}) :=
 Za2 (ZNm l) (by kernel_rfl) (by simp -implicitDefEqProofs only[Zbu,Zai,eq_self]) (by simp -implicitDefEqProofs only[Zz,Zai,eq_self]) rfl (fun _=>rfl) _ _ _ _
theorem ZXk(b:UInt8):(b.toNat:Int)<256:=by have:=b.toNat_lt;omega
theorem wrap_i64{n:Int}(h0:-9223372036854775808<=n)(h:n<=9223372036854775807):IntKind.i64.wrap n=n:=ZaC h0 h
end
section
theorem Ztt(σ:Za)(l:Zc)(k1 k2:IntKind)(lo hi:Int)(h0:0<=lo)(h1:lo<=hi)(h2:hi<=(l.length:Int)):ZbI σ 1 (.lst false (l.map Zb)) (some (.int k1 lo)) (some (.int k2 hi)) none=some (.lst false (((l.take hi.toNat).drop lo.toNat).map Zb),σ,{}):=by
 have hh:0<=hi:=by omega
 have h3:lo<=((hi.toNat:Nat):Int):=by omega
 have hk:=Zgf l
 simp only[ZbI,Zbp,ZcP,XD,hh,h2,and_self,if_true,h0,h3,hk,XaZ,Xal,Xj,if_false,WX,List.map_take,List.map_drop]
theorem Zgd(σ:Za)(l:Zc)(k1:IntKind)(lo:Int)(h0:0<=lo)(h1:lo<=(l.length:Int)):ZbI σ 1 (.lst false (l.map Zb)) (some (.int k1 lo)) none none=some (.lst false ((l.drop lo.toNat).map Zb),σ,{}):=by
 have hk:=Zgf l
 simp only[ZbI,Zbp,ZcP,XD,and_self,if_true,h0,h1,hk,XaZ,Xal,Xj,if_false,WX,List.map_drop]
 rw[XI (by simp)]
def byT(x:Zc×Int):AVal:=.tup [.lst false (x.1.map Zb),.int .i64 x.2]
theorem ZRP(b:Zc)(h:b.length<=9223372036854775807):IntKind.u64.wrap (b.length:Int)=(b.length:Int):=by rw[IntKind.wrap_u64];omega
theorem ZDP(b:Zc)(hl:b.length<=9223372036854775807):∃ f,E 128 [ZJ b] []=some (.tup [.lst f ((Zbj b).1.map Zb),.int .i64 (Zbj b).2],[]):=by
 unfold Zbj
 by_cases h:b.length>65535
 ·refine⟨true,?_⟩
  have h':(b.length:Int)>65535:=by omega
  rw[Zi (by rfl) Zyj,if_pos h]
  simp -implicitDefEqProofs only[EQA,Zv,Xc,Xa,reduceCtorEq,↓reduceIte,Zf,Zyc,ZmY,ZA8,Zd,ZJ,h']
 ·refine⟨false,?_⟩
  have h':¬(b.length:Int)>65535:=by omega
  have hw:=ZRP b hl
  have hP:=fun σ sq own=>Znk σ sq own b.length 2 (by omega) (by omega)
  have hJ:=fun σ sq own f=>Zid σ sq own f (beB b.length 2) [b] (by simp) (by simp[Za3];omega)
  simp only[Xm,Xt,ZJ,Wn,WU,Xo]at hJ
  have z2:((2:Nat):Int)=2:=rfl
  rw[z2]at hP
  rw[Zi (by rfl) Zyj,if_neg h]
  simp -implicitDefEqProofs only[EQA,Zv,Xc,Xa,reduceCtorEq,↓reduceIte,Zf,Zyc,ZmY,ZA8,Zd,ZJ,h',hw,hP,hJ,viewAs,ZP,ZK,Zr,AVal.cells]
theorem Zr7(σ:Za)(sq own:Nat)(f:Bool)(b:Zc)(hl:b.length<=9223372036854775807):Zj E BY σ sq 128 own true [.lst f (b.map Zb)]=some (byT (Zbj b),σ,{}):=by
 obtain⟨g,h⟩:=ZDP b hl
 exact ZbD h (by kernel_rfl) rfl rfl rfl (fun _=>rfl) _ _ _
def Z5(s:Zc):Zc×Int:=if Zct s then Zbj s else([],13)
theorem ZKh(s:Zc)(hl:s.length<=9223372036854775807):∃ f,E 96 [.str s] []=some (.tup [.lst f ((Z5 s).1.map Zb),.int .i64 (Z5 s).2],[]):=by
 have hI:=fun σ sq own=>Zq5 σ sq own true s
 have hD:=fun σ sq own f=>Zr7 σ sq own f s hl
 unfold Z5
 cases h:Zct s<;>rw[h]at hI
 ·refine⟨true,?_⟩
  rw[Zi (by rfl) ZAU]
  simp -implicitDefEqProofs only[EQA,Zv,Xc,Xa,unA,reduceCtorEq,↓reduceIte,Zf,Zvr,ZmI,Zz9,Zd,hI]
 ·refine⟨false,?_⟩
  rw[Zi (by rfl) ZAU]
  simp -implicitDefEqProofs only[EQA,Zv,Xc,Xa,unA,reduceCtorEq,↓reduceIte,Zf,Zvr,ZmI,Zz9,Zd,hI,hD,byT]
theorem ZjI(σ:Za)(sq own:Nat)(s:Zc)(hl:s.length<=9223372036854775807):Zj E BY σ sq 96 own true [.str s]=some (byT (Z5 s),σ,{}):=by
 obtain⟨g,h⟩:=ZKh s hl
 exact ZbD h (by kernel_rfl) rfl rfl rfl (fun _=>rfl) _ _ _
end
section
def gdT(x:Zc×Nat×Int):AVal:=.tup [.lst false (x.1.map Zb),.int .i64 (x.2.1:Nat),.int .i64 x.2.2]
def gtT(x:Zc×Nat×Int):AVal:=.tup [.str x.1,.int .i64 (x.2.1:Nat),.int .i64 x.2.2]
theorem ZVy(b:Zc)(h:b.length<=2):ZcR b<65536:=by
 unfold ZcR
 match b,h with
 | [],_=>simp[Zfa]
 | [a],_=>rw[Zdb,Zfa];have:=a.toNat_lt;omega
 | [a,c],_=>rw[Zdb,Zdb,Zfa];have:=a.toNat_lt;have:=c.toNat_lt;omega
def Zaq(b:Zc):Zc×Nat×Int:=if(ZaP b).2.2≠0 then([],0,(ZaP b).2.2)else if Zct (ZaP b).1 then ZaP b else([],0,13)
theorem ZVw(b:Zc)(hl:b.length<=140737488355328):∃ f,E 154 [ZJ b] []=some (.tup [.lst f ((ZaP b).1.map Zb),.int .i64 ((ZaP b).2.1:Nat),.int .i64 (ZaP b).2.2],[]):=by
 have t2:(b.take 2).length<=9223372036854775807:=by simp;omega
 have hG:=fun σ sq own f=>Zle σ sq own (b.take 2) t2 f
 have hg:=ZVy (b.take 2) (by simp;omega)
 unfold ZaP
 generalize hGG:ZcR (b.take 2)=g at *
 have hi:IntKind.i64.wrap (g:Int)=(g:Int):=ZaC (by omega) (by omega)
 by_cases h1:b.length<2
 ·have h1':(b.length:Int)<2:=by omega
  refine⟨true,?_⟩
  rw[Zi (by rfl) ZrK,if_pos (Xr h1)]
  simp -implicitDefEqProofs only[EQA,Zv,Xc,Xa,Zw,Zad,reduceCtorEq,↓reduceIte,Zf,ZsA,ZkA,Zuh,Zd,ZJ,h1']
  rfl
 ·have h1':¬(b.length:Int)<2:=by omega
  have s2:=fun σ kk=>ZjQ σ 1 b Zb kk 2 (by omega) (by omega)
  have e2:(2:Int).toNat=2:=rfl
  rw[e2]at s2
  have w1:IntKind.i64.wrap ((b.length:Int)-2)=((b.length-2:Nat):Int):=by rw[ZaC (by omega) (by omega)];omega
  by_cases h3:b.length-2<g
  ·have h3':((b.length-2:Nat):Int)<(g:Int):=by omega
   refine⟨true,?_⟩
   rw[Zi (by rfl) ZrK,if_pos (XE h3)]
   simp -implicitDefEqProofs only[EQA,Zv,Xc,Xa,Zw,unG,reduceCtorEq,↓reduceIte,Zf,ZsA,ZkA,Zuh,Zd,ZJ,h1',s2,hG,hi,w1,h3']
   rfl
  ·have h3':¬((b.length-2:Nat):Int)<(g:Int):=by omega
   have w2:IntKind.i64.wrap (2+(g:Int))=((2+g:Nat):Int):=by rw[ZaC (by omega) (by omega)];omega
   have s3:=fun σ k1 k2=>Ztt σ b k1 k2 2 ((2+g:Nat):Int) (by omega) (by omega) (by omega)
   have e3:(((2+g:Nat):Int)).toNat=2+g:=rfl
   have e4:(b.take (2+g)).drop 2=(b.drop 2).take g:=by rw[List.drop_take];congr 1;omega
   rw[e2,e3,e4]at s3
   have hJ:=fun σ sq own f=>Zid σ sq own f ((b.drop 2).take g) [] (by simp) (by simp;omega)
   simp only[Xm,Xt,ZJ,Wn,WU,Xo]at hJ
   have hc:¬(b.length<2\/b.length-2<g):=by omega
   refine⟨false,?_⟩
   rw[Zi (by rfl) ZrK,if_neg hc]
   simp -implicitDefEqProofs only[EQA,Zv,Xc,Xa,Zw,unG,reduceCtorEq,↓reduceIte,Zf,ZsA,ZkA,Zuh,Zd,ZJ,h1',s2,hG,hi,w1,h3',w2,s3,hJ,viewAs,ZP,ZK,Zr,AVal.cells]
theorem Zn0(σ:Za)(sq own:Nat)(f:Bool)(b:Zc)(hl:b.length<=140737488355328):Zj E BY σ sq 154 own true [.lst f (b.map Zb)]=some (gdT (ZaP b),σ,{}):=by
 obtain⟨g,h⟩:=ZVw b hl
 exact ZbD h (by kernel_rfl) rfl rfl rfl (fun _=>rfl) _ _ _
theorem ZRQ(b:Zc)(hl:b.length<=140737488355328):E 137 [ZJ b] []=some (gtT (Zaq b),[]):=by
 have hD:=fun σ sq own f=>Zn0 σ sq own f b hl
 unfold gdT at hD
 have hI:=fun σ sq own=>Zq5 σ sq own true (ZaP b).1
 unfold Zaq
 by_cases h0:(ZaP b).2.2=0
 ·have hn0:¬((ZaP b).2.2≠0):=by omega
  have e0:((0:Int) != 0)=false:=rfl
  have hp:ZaP b=((ZaP b).1,(ZaP b).2.1,0):=by rw[<-h0]
  rw[if_neg hn0]
  rw[hp]
  simp only
  rw[h0]at hD
  generalize (ZaP b).1=d at *
  generalize (ZaP b).2.1=u at *
  rw[Zi (by rfl) ZzJ]
  cases ht:Zct d<;>rw[ht]at hI
  ·simp -implicitDefEqProofs only[EQA,Zv,Xc,Xa,unA,reduceCtorEq,ZY,↓reduceIte,Zf,Zsp,Zkg,ZsL,Zd,ZJ,hD,hI,e0,gtT]
   rfl
  ·simp -implicitDefEqProofs only[EQA,Zv,Xc,Xa,unA,reduceCtorEq,ZY,↓reduceIte,Zf,Zsp,Zkg,ZsL,Zd,ZJ,hD,hI,e0,gtT]
 ·have hn0:((ZaP b).2.2≠0):=h0
  have e0:((ZaP b).2.2 != 0)=true:=by simpa using h0
  rw[if_pos hn0]
  generalize (ZaP b).2.2=e at *
  rw[Zi (by rfl) ZzJ]
  simp -implicitDefEqProofs only[EQA,Zv,Xc,Xa,reduceCtorEq,↓reduceIte,Zf,Zsp,Zkg,ZsL,Zd,ZJ,hD,e0,gtT]
  rfl
theorem ZiE(σ:Za)(sq own:Nat)(f:Bool)(b:Zc)(hl:b.length<=140737488355328):Zj E BY σ sq 137 own true [.lst f (b.map Zb)]=some (gtT (Zaq b),σ,{}) :=
 ZbD (ZRQ b hl) (by kernel_rfl) rfl rfl rfl (fun _=>rfl) _ _ _
end
section
theorem Zdn{O:ZV}{bf:Nat->Bool}{σ:Za}{t f:Nat}{rest:List AVal}{cs cs':List AVal}{r r':AVal}(hb:bf f=false)(hp:rest.all Zan=true)(hc:Zf cs=true)(hc':Zf cs'=true)(hn:ZS r'=true)(hv:viewR [.var cs'] r=some (r',[]))
  (h:O f (.ref 0 0::rest.map ZN) [.var cs]=some (r,[.var cs'])) (hs:σ[t]?=some (.var cs)) (sq:Nat):Zj O bf σ sq f 0 true (.ref t 0::rest)=some (r',σ.set t (.var cs'),{ any:=true,upd:=[(t,cs')] }):=by
 have htl:t<σ.length:=by
  rcases Wx t σ.length with h |h
  ·exact h
  ·rw[XQ h]at hs;cases hs
 have hup:ZaZ (σ.set t (.var cs')) [t]=[(t,cs')]:=by
  simp only[ZaZ,Xx,if_pos htl,if_true]
 have hd:σ.getD t .free=.var cs:=by simp[Xh,hs]
 have hf0:Zr σ []=σ:=rfl
 have hsh:showAs σ (.ref t 0::rest)=some (.ref t 0::rest.map ZN,[]):=by
  rw[showAs,show showA σ (.ref t 0)=some (.ref t 0,[])from rfl,Zej hp]
  rfl
 have href:Zt (.ref t 0::rest.map ZN)=[t]:=by
  rw[Zt,ZdC hp];rfl
 unfold Zj ZbS
 rw[hb]
 simp only[Xj,if_false,hsh,hf0,href,Zff hs hc]
 unfold ZbK
 have hall:([t].all fun t=>okB (σ.getD t .free))=true:=by simp[XO,Ws,hs,okB]
 rw[if_pos hall]
 have hρ:Zk σ 0 [t] t 0=some (0,0):=by simp[Zk,ZI,hs,Zl,ZF]
 have hheap:Zn σ 0 [t] (Zk σ 0 [t]) [t] 0=[.var cs]:=by
  simp only[Zn,hd,Zy,(ZaV _ cs hc).1]
 have hargs:Zh (Zk σ 0 [t]) (.ref t 0::rest.map ZN)=.ref 0 0::rest.map ZN:=by
  rw[Zh,ZdE hp]
  simp only[Zo,hρ]
 rw[hargs,hheap,h]
 have hask:Z3 true [t].length (some (r,[.var cs']))=some (r',[.var cs']):=by
  unfold Z3
  rw[if_pos rfl]
  have hnp:∀ x,r≠.pan x:=by rintro x rfl;simp[viewR,ZP,ZK]at hv
  rw[show ZbB [t].length (some (r,[.var cs']))=(match viewR [.var cs'] r with
   |some (r',ts)=>match gcA [t].length [r'] (Zr [.var cs'] ts)with
    |([r''],σ')=>some (r'',σ')
    |_=>none
   |none=>none)from by cases r<;>first |rfl |exact absurd rfl (hnp _)]
  rw[hv]
  simp only[Xp,Xw,XB,show Zr [ZO.var cs'] []=[.var cs']from rfl,ZkP hn hc']
 rw[hask]
 have hk:ZaW σ [t] [.var cs'] 0=true:=by
  simp[ZaW,okB,hs,Zcr,Zl]
 simp only[ZaA,Wm,Xj,if_false,Xp,Xw,XB,Wc,XF,decide_true,hk,ZaM,Wg,if_true,Za9,ZaN,Xu,Zy,(Zbm _ r' hn).1,(ZaV _ cs' hc').1,hup]
theorem Zc1{O:ZV}{bf:Nat->Bool}{σ:Za}{t f:Nat}{rest:List AVal}{cs cs':List AVal}{x:AVal}{view:Bool}(hb:bf f=false)(hp:rest.all Zan=true)(hc:Zf cs=true)(hc':Zf cs'=true)(hn:ZS x=true)
  (h:O f (.ref 0 0::rest.map ZN) [.var cs]=some (.pan x,[.var cs'])) (hs:σ[t]?=some (.var cs)) (sq:Nat):Zj O bf σ sq f 0 view (.ref t 0::rest)=some (.pan x,σ.set t (.var cs'),{ any:=true,upd:=[(t,cs')] }):=by
 have htl:t<σ.length:=by
  rcases Wx t σ.length with h |h
  ·exact h
  ·rw[XQ h]at hs;cases hs
 have hup:ZaZ (σ.set t (.var cs')) [t]=[(t,cs')]:=by
  simp only[ZaZ,Xx,if_pos htl,if_true]
 have hd:σ.getD t .free=.var cs:=by simp[Xh,hs]
 have hf0:Zr σ []=σ:=rfl
 have hsh:showAs σ (.ref t 0::rest)=some (.ref t 0::rest.map ZN,[]):=by
  rw[showAs,show showA σ (.ref t 0)=some (.ref t 0,[])from rfl,Zej hp]
  rfl
 have href:Zt (.ref t 0::rest.map ZN)=[t]:=by
  rw[Zt,ZdC hp];rfl
 unfold Zj ZbS
 rw[hb]
 simp only[Xj,if_false,hsh,hf0,href,Zff hs hc]
 unfold ZbK
 have hall:([t].all fun t=>okB (σ.getD t .free))=true:=by simp[XO,Ws,hs,okB]
 rw[if_pos hall]
 have hρ:Zk σ 0 [t] t 0=some (0,0):=by simp[Zk,ZI,hs,Zl,ZF]
 have hheap:Zn σ 0 [t] (Zk σ 0 [t]) [t] 0=[.var cs]:=by
  simp only[Zn,hd,Zy,(ZaV _ cs hc).1]
 have hargs:Zh (Zk σ 0 [t]) (.ref t 0::rest.map ZN)=.ref 0 0::rest.map ZN:=by
  rw[Zh,ZdE hp]
  simp only[Zo,hρ]
 rw[hargs,hheap,h]
 have hask:Z3 view [t].length (some (.pan x,[.var cs']))=some (.pan x,[.var cs']):=by
  unfold Z3
  split<;>rfl
 rw[hask]
 have hk:ZaW σ [t] [.var cs'] 0=true:=by
  simp[ZaW,okB,hs,Zcr,Zl]
 have hnp:ZS (.pan x)=true:=by simpa only[ZS]using hn
 simp only[ZaA,Wm,Xj,if_false,Xp,Xw,XB,Wc,XF,decide_true,hk,ZaM,Wg,if_true,Za9,ZaN,Xu,Zy,(Zbm _ _ hnp).1,(ZaV _ cs' hc').1,hup]
end
section
end
section
def ZvL:List (Int×Int×Int):=[(1,1,65544),(2,3,65544),(3,5,65544),(8,5,65544),(9,6,65544),(11,4,264),(17,3,16390),(18,5,4),(26,5,4),(19,2,4),(21,5,32774),(22,6,32774),(23,1,2),(25,1,2),(24,3,65536),(28,5,16388),(31,5,51956),(33,2,6),(34,2,6),(35,2,8),(39,3,6),(36,1,4),(37,1,4),(40,1,4),(41,1,4),(42,1,4),(38,7,-12290)]
def ofF(id:Int):Int×Int:=(ZvL.lookup id).getD (0,0)
def Zbt(id:Int):Int:=(ofF id).1
def Zey(id:Int):Prop:=id=1\/id=2\/id=3\/id=8\/id=9\/id=11\/id=17\/id=18\/id=26\/id=19\/id=21\/id=22\/id=23\/id=25\/id=24\/id=28\/id=31\/id=33\/id=34\/id=35\/id=39\/id=36\/id=37\/id=40\/id=41\/id=42\/id=38
instance (id:Int):Decidable (Zey id):=by unfold Zey;infer_instance
theorem Zvb{id:Int}(h:¬Zey id):(id==1)=false/\(id==2)=false/\(id==3)=false/\(id==8)=false/\(id==9)=false/\(id==11)=false/\(id==17)=false/\(id==18)=false/\(id==26)=false/\(id==19)=false/\(id==21)=false/\(id==22)=false/\(id==23)=false/\(id==25)=false/\(id==24)=false/\(id==28)=false/\(id==31)=false/\(id==33)=false/\(id==34)=false/\(id==35)=false/\(id==39)=false/\(id==36)=false/\(id==37)=false/\(id==40)=false/\(id==41)=false/\(id==42)=false/\(id==38)=false:=by
 unfold Zey at h
 simp only[not_or]at h
 simp only[beq_eq_false_iff_ne,ne_eq]
 exact h
theorem Ztq{id:Int}(h:¬Zey id):ofF id=(0,0):=by
 obtain⟨h1,h2,h3,h8,h9,h11,h17,h18,h26,h19,h21,h22,h23,h25,h24,h28,h31,h33,h34,h35,h39,h36,h37,h40,h41,h42,h38⟩:=Zvb h
 simp only[ofF,ZvL,List.lookup,h1,h2,h3,h8,h9,h11,h17,h18,h26,h19,h21,h22,h23,h25,h24,h28,h31,h33,h34,h35,h39,h36,h37,h40,h41,h42,h38,Option.getD_none]
theorem ZNP(id:Int):E 168 [.int .i64 id] []=some (.agg [.int .i64 (ofF id).1,.int .i64 (ofF id).2],[]):=by
 by_cases h:Zey id
 ·rcases h with rfl |rfl |rfl |rfl |rfl |rfl |rfl |rfl |rfl |rfl |rfl |rfl |rfl |rfl |rfl |rfl |rfl |rfl |rfl |rfl |rfl |rfl |rfl |rfl |rfl |rfl |rfl
  all_goals exact ZbQ.2 ⟨20,by kernel_rfl⟩
 ·rw[Ztq h]
  obtain⟨h1,h2,h3,h8,h9,h11,h17,h18,h26,h19,h21,h22,h23,h25,h24,h28,h31,h33,h34,h35,h39,h36,h37,h40,h41,h42,h38⟩:=Zvb h
  rw[Zi (by rfl) ZC4]
  simp -implicitDefEqProofs only[EQA,Zv,Xe,Xc,Xf,Xa,Xg,reduceCtorEq,↓reduceIte,Zf,ZN6,ZpL,ZEY,Zd,h1,h2,h3,h8,h9,h11,h17,h18,h26,h19,h21,h22,h23,h25,h24,h28,h31,h33,h34,h35,h39,h36,h37,h40,h41,h42,h38,Zab,AVal.cells]
theorem ZAH(σ:Za)(sq own:Nat)(id:Int):Zj E BY σ sq 168 own true [.int .i64 id]=some (.agg [.int .i64 (ofF id).1,.int .i64 (ofF id).2],σ,{}) :=
 ZbD (ZNP id) (by kernel_rfl) rfl rfl rfl (fun _=>rfl) _ _ _
theorem ZUq(id:Int):E 150 [.int .i64 id] []=some (.int .i64 (Zbt id),[]):=by
 have hC:=fun σ sq own=>ZAH σ sq own id
 unfold Zbt
 rw[Zi (by rfl) ZOH]
 simp -implicitDefEqProofs only[EQA,Xc,Xa,reduceCtorEq,↓reduceIte,ZOO,Zpm,ZUh,Zd,hC]
theorem ZjM(σ:Za)(sq own:Nat)(id:Int):Zj E BY σ sq 150 own true [.int .i64 id]=some (.int .i64 (Zbt id),σ,{}) :=
 ZbD (ZUq id) (by kernel_rfl) rfl rfl rfl (fun _=>rfl) _ _ _
def Zqz(pl w:Int):Int:=IntKind.i64.wrap (((XP IntKind.i64.bits (pl.fdiv (2^min w.toNat IntKind.i64.bits))&&&XP IntKind.i64.bits 1).toNat:Nat):Int)
def ZcQ(id w:Int):Bool:=decide (w>=1)&&decide (w<=16)&&Zqz (ofF id).2 w==1
theorem ZBA(id w:Int):E 169 [.int .i64 id,.int .i64 w] []=some (.bool (ZcQ id w),[]):=by
 have hC:=fun σ sq own=>ZAH σ sq own id
 unfold ZcQ Zqz
 generalize (ofF id).2=pl at *
 rw[Zi (by rfl) ZFY]
 by_cases h1:w>=1
 ·have h2:¬w<0:=by omega
  by_cases h3:w<=16
  ·simp -implicitDefEqProofs only[EQA,Xc,Xa,ZaR,Zw,unG,reduceCtorEq,↓reduceIte,Zsh,Zj4,ZtG,Zd,hC,h1,h2,h3]
  ·simp -implicitDefEqProofs only[EQA,Xc,Xa,Zw,Zad,unG,reduceCtorEq,↓reduceIte,Zsh,Zj4,ZtG,Zd,h1,h3]
 ·simp -implicitDefEqProofs only[EQA,Xc,Xa,Zw,Zad,reduceCtorEq,↓reduceIte,Zsh,Zj4,ZtG,Zd,h1]
theorem ZDi(σ:Za)(sq own:Nat)(id w:Int):Zj E BY σ sq 169 own true [.int .i64 id,.int .i64 w]=some (.bool (ZcQ id w),σ,{}) :=
 ZbD (ZBA id w) (by kernel_rfl) rfl rfl rfl (fun _=>rfl) _ _ _
theorem ZFW{id w:Int}(h:¬(1<=w/\w<=16)):ZcQ id w=false:=by
 unfold ZcQ
 by_cases h1:w>=1
 ·have h2:¬w<=16:=fun h2=>h ⟨h1,h2⟩
  simp[h2]
 ·simp[h1]
theorem ZLE:∀ k:Fin 17,Zqz 0 k.val=0:=by decide +kernel
theorem ZD3{id:Int}(h:¬Zey id)(w:Int):ZcQ id w=false:=by
 by_cases hw:1<=w/\w<=16
 ·unfold ZcQ
  rw[Ztq h]
  have:=ZLE ⟨w.toNat,by omega⟩
  have e:((w.toNat:Nat):Int)=w:=by omega
  simp only[e]at this
  rw[this];simp
 ·exact ZFW hw
end
section
theorem ZoZ(id:Int):Zbt id=0\/Zbt id=1\/Zbt id=2\/Zbt id=3\/Zbt id=4\/Zbt id=5\/Zbt id=6\/Zbt id=7:=by
 unfold Zbt
 by_cases h:Zey id
 ·unfold Zey at h
  rcases h with rfl |rfl |rfl |rfl |rfl |rfl |rfl |rfl |rfl |rfl |rfl |rfl |rfl |rfl |rfl |rfl |rfl |rfl |rfl |rfl |rfl |rfl |rfl |rfl |rfl |rfl |rfl
  all_goals decide
 ·rw[Ztq h];simp
theorem ZOT(b:Zc)(h:b.length<=4):ZcR b<4294967296:=by
 unfold ZcR
 match b,h with
 | [],_=>simp[Zfa]
 | [a],_=>rw[Zdb,Zfa];have:=a.toNat_lt;omega
 | [a,c],_=>rw[Zdb,Zdb,Zfa];have:=a.toNat_lt;have:=c.toNat_lt;omega
 | [a,c,d],_=>rw[Zdb,Zdb,Zdb,Zfa];have:=a.toNat_lt;have:=c.toNat_lt;have:=d.toNat_lt;omega
 | [a,c,d,e],_=>rw[Zdb,Zdb,Zdb,Zdb,Zfa];have:=a.toNat_lt;have:=c.toNat_lt;have:=d.toNat_lt;have:=e.toNat_lt;omega
def Zfo(id:Int)(W:Nat)(b:Zc):Zp×Nat×Bool:=if b.length<W then(⟨id,0,[],[],[]⟩,0,false)else(⟨id,ZcR (b.take W),[],[],[]⟩,W,true)
def Zh5(id:Int)(b:Zc):Zp×Nat×Bool :=
 if(Zaq b).2.2=0 then(⟨id,0,(Zaq b).1,(Zaq (b.drop (Zaq b).2.1)).1,[]⟩,(Zaq b).2.1+(Zaq (b.drop (Zaq b).2.1)).2.1,(Zaq (b.drop (Zaq b).2.1)).2.2==0)else(⟨id,0,[],[],[]⟩,0,false)
def Zc7(k id:Int)(b:Zc):Zp×Nat×Bool :=
 if k=1 then Zfo id 1 b else if k=2 then Zfo id 2 b else if k=3 then Zfo id 4 b
 else if k=4 then(⟨id,(Z0 b).1,[],[],[]⟩,(Z0 b).2.1,(Z0 b).2.2==0)
 else if k=5 then(⟨id,0,(Zaq b).1,[],[]⟩,(Zaq b).2.1,(Zaq b).2.2==0)
 else if k=6 then(⟨id,0,[],[],(ZaP b).1⟩,(ZaP b).2.1,(ZaP b).2.2==0)
 else if k=7 then Zh5 id b else(⟨id,0,[],[],[]⟩,0,true)
def ZcZ(id:Int)(b:Zc):Zp×Nat×Bool:=Zc7 (Zbt id) id b
def ZcX(f:Bool)(x:Zp×Nat×Bool):AVal:=.tup [.agg [.int .i64 x.1.id,.int .i64 x.1.num,.str x.1.text,.str x.1.pair,.lst f (x.1.data.map Zb)],.int .i64 (x.2.1:Nat),.bool x.2.2]
theorem ZnT(b:Zc):(ZaP b).2.1<=b.length/\(ZaP b).1.length<=b.length:=by
 unfold ZaP
 by_cases h:b.length<2\/b.length-2<ZcR (b.take 2)
 ·rw[if_pos h];simp
 ·rw[if_neg h]
  simp only[not_or]at h
  simp;omega
theorem ZiI(b:Zc):(Zaq b).2.1<=b.length/\((Zaq b).2.2≠0->(Zaq b).1=[]/\(Zaq b).2.1=0):=by
 have hd:=ZnT b
 unfold Zaq
 by_cases h:(ZaP b).2.2≠0
 ·rw[if_pos h];simp
 ·rw[if_neg h]
  by_cases ht:Zct (ZaP b).1=true
  ·rw[if_pos ht];exact⟨hd.1,fun h'=>absurd h' h⟩
  ·rw[if_neg ht];simp
theorem Zqg(id:Int)(b:Zc)(hl:b.length<=140737488355328)(k:Int)(W:Nat)(hk:Zbt id=k)(hW:(k=1/\W=1)\/(k=2/\W=2)\/(k=3/\W=4)):E 170 [.int .i64 id,ZJ b] []=some (ZcX true (Zfo id W b),[]):=by
 have hC:=fun σ sq own=>ZjM σ sq own id
 rw[hk]at hC
 have hG:=fun σ sq own f=>Zle σ sq own (b.take W) (by simp;omega) f
 have hg:=ZOT (b.take W) (by simp;omega)
 unfold Zfo
 generalize ZcR (b.take W)=g at *
 have hi:IntKind.i64.wrap (g:Int)=(g:Int):=ZaC (by omega) (by omega)
 have hw:∀ W:Nat,W<=b.length->∀ (σ:Za) (kk:IntKind),ZbI σ 1 (.lst false (b.map Zb)) none (some (.int kk (W:Int))) none=some (.lst false ((b.take W).map Zb),σ,{}):=fun W hW σ kk=>by
  have:=ZjQ σ 1 b Zb kk (W:Int) (by omega) (by omega)
  exact this
 have z1:((1:Nat):Int)=1:=rfl
 have z2:((2:Nat):Int)=2:=rfl
 have z4:((4:Nat):Int)=4:=rfl
 rcases hW with⟨rfl,rfl⟩ |⟨rfl,rfl⟩ |⟨rfl,rfl⟩
 ·have w1:IntKind.i64.wrap (1-1)=0:=rfl
  have w2:IntKind.i64.wrap (1*2^min (WW 0) IntKind.i64.bits)=1:=rfl
  have ng:¬((0:Int)<0):=by decide
  by_cases h:b.length<1
  ·have h':(b.length:Int)<1:=by omega
   rw[Zi (by rfl) ZeI,if_pos h]
   simp -implicitDefEqProofs only[EQA,Zv,Xe,Xc,Xf,Xa,Xg,ZaR,reduceCtorEq,↓reduceIte,Zf,Zek,ZdH,Zes,Zd,ZJ,hC,w1,w2,ng,h',ZcX,AVal.cells]
   rfl
  ·have h':¬(b.length:Int)<1:=by omega
   have hs:=hw 1 (by omega)
   rw[z1]at hs
   have e0:((0:Int)==0)=true:=rfl
   rw[Zi (by rfl) ZeI,if_neg h]
   simp -implicitDefEqProofs only[EQA,Zv,Xe,Xc,Xf,Xa,Xg,ZaR,reduceCtorEq,↓reduceIte,Zf,Zek,ZdH,Zes,Zd,ZJ,hC,w1,w2,ng,h',hs,hG,hi,ZcX,AVal.cells]
   rfl
 ·have w1:IntKind.i64.wrap (2-1)=1:=rfl
  have w2:IntKind.i64.wrap (1*2^min (WW 1) IntKind.i64.bits)=2:=rfl
  have ng:¬((1:Int)<0):=by decide
  by_cases h:b.length<2
  ·have h':(b.length:Int)<2:=by omega
   rw[Zi (by rfl) ZeI,if_pos h]
   simp -implicitDefEqProofs only[EQA,Zv,Xe,Xc,Xf,Xa,Xg,ZaR,reduceCtorEq,↓reduceIte,Zf,Zek,ZdH,Zes,Zd,ZJ,hC,w1,w2,ng,h',Xs,ZcX,AVal.cells]
   rfl
  ·have h':¬(b.length:Int)<2:=by omega
   have hs:=hw 2 (by omega)
   rw[z2]at hs
   have e0:((0:Int)==0)=true:=rfl
   rw[Zi (by rfl) ZeI,if_neg h]
   simp -implicitDefEqProofs only[EQA,Zv,Xe,Xc,Xf,Xa,Xg,ZaR,reduceCtorEq,↓reduceIte,Zf,Zek,ZdH,Zes,Zd,ZJ,hC,w1,w2,ng,h',hs,hG,hi,Xs,ZcX,AVal.cells]
   rfl
 ·have w1:IntKind.i64.wrap (3-1)=2:=rfl
  have w2:IntKind.i64.wrap (1*2^min (WW 2) IntKind.i64.bits)=4:=rfl
  have ng:¬((2:Int)<0):=by decide
  by_cases h:b.length<4
  ·have h':(b.length:Int)<4:=by omega
   rw[Zi (by rfl) ZeI,if_pos h]
   simp -implicitDefEqProofs only[EQA,Zv,Xe,Xc,Xf,Xa,Xg,ZaR,reduceCtorEq,↓reduceIte,Zf,Zek,ZdH,Zes,Zd,ZJ,hC,w1,w2,ng,h',Xs,ZcX,AVal.cells]
   rfl
  ·have h':¬(b.length:Int)<4:=by omega
   have hs:=hw 4 (by omega)
   rw[z4]at hs
   have e0:((0:Int)==0)=true:=rfl
   rw[Zi (by rfl) ZeI,if_neg h]
   simp -implicitDefEqProofs only[EQA,Zv,Xe,Xc,Xf,Xa,Xg,ZaR,reduceCtorEq,↓reduceIte,Zf,Zek,ZdH,Zes,Zd,ZJ,hC,w1,w2,ng,h',hs,hG,hi,Xs,ZcX,AVal.cells]
   rfl
theorem ZGV(id:Int)(b:Zc)(hl:b.length<=140737488355328):∃ f,E 170 [.int .i64 id,ZJ b] []=some (ZcX f (ZcZ id b),[]):=by
 unfold ZcZ
 have hC:=fun σ sq own=>ZjM σ sq own id
 have hGV:=fun σ sq own f=>Zrs σ sq own f b (by omega)
 have hGT:=fun σ sq own f=>ZiE σ sq own f b hl
 have hGD:=fun σ sq own f=>Zn0 σ sq own f b hl
 have z0:((0:Nat):Int)=0:=rfl
 rcases ZoZ id with hk |hk |hk |hk |hk |hk |hk |hk
 ·refine⟨true,?_⟩
  rw[hk]at hC ⊢
  rw[show Zc7 0 id b=(⟨id,0,[],[],[]⟩,0,true)from rfl,Zi (by rfl) ZeI]
  have e0:((0:Int)==0)=true:=rfl
  simp -implicitDefEqProofs only[EQA,Zv,Xe,Xc,Xf,Xa,Xg,reduceCtorEq,↓reduceIte,Zf,Zek,ZdH,Zes,Zd,ZJ,hC,Xs,ZcX,AVal.cells]
  rfl
 ·rw[hk];exact⟨true,Zqg id b hl 1 1 hk (by simp)⟩
 ·rw[hk];exact⟨true,Zqg id b hl 2 2 hk (by simp)⟩
 ·rw[hk];exact⟨true,Zqg id b hl 3 4 hk (by simp)⟩
 ·refine⟨true,?_⟩
  rw[hk]at hC ⊢
  rw[show Zc7 4 id b=(⟨id,(Z0 b).1,[],[],[]⟩,(Z0 b).2.1,(Z0 b).2.2==0)from rfl,Zi (by rfl) ZeI]
  unfold gvT at hGV
  simp -implicitDefEqProofs only[EQA,Zv,Xe,Xc,Xf,Xa,Xg,reduceCtorEq,↓reduceIte,Zf,Zek,ZdH,Zes,Zd,ZJ,hC,hGV,Xs,ZcX,AVal.cells]
 ·refine⟨true,?_⟩
  rw[hk]at hC ⊢
  rw[show Zc7 5 id b=(⟨id,0,(Zaq b).1,[],[]⟩,(Zaq b).2.1,(Zaq b).2.2==0)from rfl,Zi (by rfl) ZeI]
  unfold gtT at hGT
  simp -implicitDefEqProofs only[EQA,Zv,Xe,Xc,Xf,Xa,Xg,reduceCtorEq,↓reduceIte,Zf,Zek,ZdH,Zes,Zd,ZJ,hC,hGT,Xs,ZcX,AVal.cells]
 ·refine⟨false,?_⟩
  rw[hk]at hC ⊢
  rw[show Zc7 6 id b=(⟨id,0,[],[],(ZaP b).1⟩,(ZaP b).2.1,(ZaP b).2.2==0)from rfl,Zi (by rfl) ZeI]
  unfold gdT at hGD
  simp -implicitDefEqProofs only[EQA,Zv,Xe,Xc,Xf,Xa,Xg,reduceCtorEq,↓reduceIte,Zf,Zek,ZdH,Zes,Zd,ZJ,hC,hGD,Xs,ZcX,AVal.cells]
 ·refine⟨true,?_⟩
  rw[hk]at hC ⊢
  rw[show Zc7 7 id b=Zh5 id b from rfl,Zi (by rfl) ZeI]
  unfold gtT at hGT
  unfold Zh5
  have hu:=ZiI b
  by_cases h:(Zaq b).2.2=0
  ·have h':((Zaq b).2.2==0)=true:=by simpa using h
   have hs:=fun σ kk=>Zgd σ b kk (((Zaq b).2.1:Nat):Int) (by omega) (by omega)
   have e:((((Zaq b).2.1:Nat):Int)).toNat=(Zaq b).2.1:=rfl
   rw[e]at hs
   have hGT2:=fun σ sq own f=>ZiE σ sq own f (b.drop (Zaq b).2.1) (by simp;omega)
   unfold gtT at hGT2
   have hu2:=ZiI (b.drop (Zaq b).2.1)
   have hdl:(b.drop (Zaq b).2.1).length<=b.length:=by simp
   have hw:IntKind.i64.wrap ((((Zaq b).2.1:Nat):Int)+(((Zaq (b.drop (Zaq b).2.1)).2.1:Nat):Int))=(((Zaq b).2.1+(Zaq (b.drop (Zaq b).2.1)).2.1:Nat):Int):=by
    rw[ZaC (by omega) (by omega)];rfl
   rw[if_pos h]
   rw[h]at hGT
   have e0:((0:Int)==0)=true:=rfl
   simp -implicitDefEqProofs only[EQA,Zv,Xe,Xc,Xf,Xa,Xg,reduceCtorEq,↓reduceIte,Zf,Zek,ZdH,Zes,Zd,ZJ,hC,hGT,hs,hGT2,hw,Xs,ZcX,AVal.cells]
  ·have h':((Zaq b).2.2==0)=false:=by simpa using h
   rw[if_neg h]
   obtain⟨x1,x2⟩:=hu.2 h
   rw[x1,x2]at hGT
   simp -implicitDefEqProofs only[EQA,Zv,Xe,Xc,Xf,Xa,Xg,reduceCtorEq,↓reduceIte,Zf,Zek,ZdH,Zes,Zd,ZJ,hC,hGT,h',Xs,ZcX,AVal.cells]
theorem ZGD(σ:Za)(sq own:Nat)(f:Bool)(id:Int)(b:Zc)(hl:b.length<=140737488355328):Zj E BY σ sq 170 own true [.int .i64 id,.lst f (b.map Zb)]=some (ZcX false (ZcZ id b),σ,{}):=by
 obtain⟨g,h⟩:=ZGV id b hl
 exact ZbD h (by kernel_rfl) rfl rfl rfl (fun _=>rfl) _ _ _
end
section
end
section
def Zh2(id w:Int):Bool:=id==38 ||(id==11&&w==3)
def Zer(id num:Int):Bool:=if id==11 ||id==33 ||id==35 ||id==39 then num != 0 else Zbt id != 1 ||decide (num<=1)
theorem ZSL(id w:Int):E 171 [.int .i64 id,.int .i64 w] []=some (.bool (Zh2 id w),[]):=by
 rw[Zi (by rfl) ZQo]
 unfold Zh2
 cases h1:(id==38)<;>cases h2:(id==11)
 all_goals simp -implicitDefEqProofs only[EQA,Xc,Xa,Zw,Zad,unG,reduceCtorEq,↓reduceIte,ZKG,Zp5,ZJF,Zd,h1,h2]
theorem ZQa(σ:Za)(sq own:Nat)(id w:Int):Zj E BY σ sq 171 own true [.int .i64 id,.int .i64 w]=some (.bool (Zh2 id w),σ,{}) :=
 ZbD (ZSL id w) (by kernel_rfl) rfl rfl rfl (fun _=>rfl) _ _ _
theorem ZGu(p:Zp):E 172 [Zg p] []=some (.bool (Zer p.id p.num),[]):=by
 have hC:=fun σ sq own=>ZjM σ sq own p.id
 rw[Zi (by rfl) ZHd]
 unfold Zer
 cases h1:(p.id==11)<;>cases h2:(p.id==33)<;>cases h3:(p.id==35)<;>cases h4:(p.id==39)
 all_goals simp -implicitDefEqProofs only[EQA,Zz,ZM,ZXr,Zdm,Xc,Xa,Xg,Zw,Zad,unG,ite_self,↓reduceIte,ZOz,Zpr,ZCR,Zd,ZJ,Zg,Za0,hC,h1,h2,h3,h4]
theorem ZWR(σ:Za)(sq own:Nat)(p:Zp):Zj E BY σ sq 172 own true [.agg [.int .i64 p.id,.int .i64 p.num,.str p.text,.str p.pair,.lst false (p.data.map Zb)]]=some (.bool (Zer p.id p.num),σ,{}) :=
 ZbD (ZGu p) (by kernel_rfl) rfl rfl rfl (fun _=>rfl) _ _ _
end
section
theorem ZxL:∀ (b:Zc) (i n:Nat),(gvA i n b).2.2=0->i<(gvA i n b).2.1/\(gvA i n b).2.1<=i+b.length
 | [],i,n,h=>by
  unfold gvA at h
  split at h<;>simp at h
 |c::r,i,n,h=>by
  unfold gvA at h⊢
  split at h
  ·simp at h
  ·rename_i h4
   rw[if_neg h4]
   split at h
   ·rename_i hc
    rw[if_pos hc]
    split at h
    ·simp at h
    ·rename_i h0
     rw[if_neg h0]
     simp
   ·rename_i hc
    rw[if_neg hc]
    have:=ZxL r (i+1) _ h
    simp only[Xp]
    omega
theorem Zsv(b:Zc)(h:(Z0 b).2.2=0):0<(Z0 b).2.1/\(Z0 b).2.1<=b.length:=by
 have:=ZxL b 0 0 h
 simpa[Z0]using this
theorem ZSj(id:Int)(b:Zc):(ZcZ id b).1.id=id:=by
 unfold ZcZ Zc7 Zfo Zh5
 repeat' split
 all_goals rfl
theorem ZLb(id:Int)(b:Zc):(ZcZ id b).1.data.length<=b.length:=by
 unfold ZcZ Zc7 Zfo Zh5
 repeat' split
 all_goals first
  |exact(ZnT b).2
  |exact Nat.zero_le _
theorem Zy0:∀ (b:Zc) (i n:Nat),(gvA i n b).2.1<=i+b.length
 | [],i,n=>by unfold gvA;split<;>simp
 |c::r,i,n=>by
  unfold gvA
  repeat' split
  all_goals simp only[Xp]
  all_goals first
   |omega
   |(have:=Zy0 r (i+1) (n+c.toNat%128*128^i);omega)
theorem Zzj(b:Zc):(Z0 b).2.1<=b.length:=by simpa[Z0]using Zy0 b 0 0
theorem ZBl(id:Int)(b:Zc):(ZcZ id b).2.1<=b.length:=by
 have h1:=(ZiI b).1
 have h2:=(ZiI (b.drop (Zaq b).2.1)).1
 have h3:=Zzj b
 have h4:=(ZnT b).1
 simp only[X9]at h2
 unfold ZcZ Zc7 Zfo Zh5
 repeat' split
 all_goals simp only
 all_goals omega
def ZmA(w:Int)(l:List Zp)(id:Int)(u:Nat)(v:Zp×Nat×Bool):Zp×Nat×Int :=
 if v.2.2=false then(v.1,0,129)else if((Zcm id l).isSome && !Zh2 id w)=true then(v.1,0,130)else
 if Zer v.1.id v.1.num=true then(v.1,u+v.2.1,0)else if(id==35)=true then(v.1,0,148)else(v.1,0,130)
def Zb1(w:Int)(b:Zc)(l:List Zp):Zp×Nat×Int :=
 if(Z0 b).2.2≠0\/ZcQ ((Z0 b).1:Nat) w=false then(ZfO,0,129)
 else ZmA w l ((Z0 b).1:Nat) (Z0 b).2.1 (ZcZ ((Z0 b).1:Nat) (b.drop (Z0 b).2.1))
def Zdz(f:Bool)(x:Zp×Nat×Int):AVal:=.tup [.agg [.int .i64 x.1.id,.int .i64 x.1.num,.str x.1.text,.str x.1.pair,.lst f (x.1.data.map Zb)],.int .i64 (x.2.1:Nat),.int .i64 x.2.2]
theorem ZyZ(w:Int)(b:Zc)(l:List Zp)(hl:b.length<=140737488355328)(hl2:l.length<=9223372036854775807)(hd:∀ p∈l,p.data.length<=140737488355328):∃ f,E 152 [.int .i64 w,ZJ b,Zbh l] []=some (Zdz f (Zb1 w b l),[]):=by
 have hGV:=fun σ sq own f=>Zrs σ sq own f b (by omega)
 have hu:=Zsv b
 unfold Zb1
 rcases hx:Z0 b with⟨n,u,e⟩
 rw[hx]at hGV hu
 unfold gvT at hGV
 simp only at hGV hu ⊢
 have hM:=fun σ sq own=>ZDi σ sq own (n:Int) w
 by_cases he:e=0
 ·subst he
  have n0:((0:Int) != 0)=false:=rfl
  cases hm:ZcQ (n:Int) w
  ·refine⟨true,?_⟩
   rw[hm]at hM
   have hc:(0:Int)≠0\/false=false:=XE rfl
   rw[if_pos hc,Zi (by rfl) ZgN]
   unfold Zdz ZfO
   simp -implicitDefEqProofs only[EQA,Zv,Xe,Xc,Xf,Xa,Xg,unA,Zw,unG,reduceCtorEq,↓reduceIte,Zf,Zgl,Zfd,ZgK,Zd,ZJ,Zbh,hGV,hM,n0,AVal.cells]
   rfl
  ·refine⟨false,?_⟩
   rw[hm]at hM
   have hc:¬((0:Int)≠0\/true=false):=by simp
   rw[if_neg hc]
   have hul:=(hu rfl).2
   have hs:=fun σ kk=>Zgd σ b kk ((u:Nat):Int) (by omega) (by omega)
   have e2:(((u:Nat):Int)).toNat=u:=rfl
   rw[e2]at hs
   have hV:=fun σ sq own f=>ZGD σ sq own f (n:Int) (b.drop u) (by simp;omega)
   have hF:=fun σ sq own=>ZAO σ sq own l hl2 hd (n:Int)
   have hO:=fun σ sq own=>ZQa σ sq own (n:Int) w
   have hid:=ZSj (n:Int) (b.drop u)
   have hused:(ZcZ (n:Int) (b.drop u)).2.1<=b.length:=Nat.le_trans (ZBl _ _) (by simp)
   have hT:=fun σ sq own=>ZWR σ sq own (ZcZ (n:Int) (b.drop u)).1
   unfold ZcX at hV
   simp only[ZPc]at hF
   unfold ZmA
   generalize ZcZ (n:Int) (b.drop u)=v at *
   obtain⟨p,m,ok⟩:=v
   simp only at hV hT hid hused ⊢
   have hw:IntKind.i64.wrap ((u:Int)+(m:Int))=((u+m:Nat):Int):=by
    rw[ZaC (by omega) (by omega)];rfl
   generalize (Zcm (n:Int) l).getD ZfO=q at *
   cases ok
   ·rw[Zi (by rfl) ZgN]
    unfold Zdz
    simp -implicitDefEqProofs only[EQA,Zv,Xe,Xc,Xf,Xa,Xg,unA,Zw,unG,reduceCtorEq,↓reduceIte,Zf,Zgl,Zfd,ZgK,Zd,ZJ,Zbh,hGV,hM,hs,hV,hF,n0,AVal.cells]
    rfl
   ·cases h1:(Zcm (n:Int) l).isSome<;>rw[h1]at hF
    ·cases h3:Zer p.id p.num<;>rw[h3]at hT
     ·cases h4:((n:Int)==35)
      all_goals rw[Zi (by rfl) ZgN]
      all_goals unfold Zdz
      all_goals simp -implicitDefEqProofs only[EQA,Zv,Xe,Xc,Xf,Xa,Xg,unA,Zw,Zad,unG,reduceCtorEq,↓reduceIte,Zf,Zgl,Zfd,ZgK,Zd,ZJ,Zbh,hGV,hM,hs,hV,hF,hT,h4,n0,AVal.cells]
      all_goals rfl
     ·rw[Zi (by rfl) ZgN]
      unfold Zdz
      simp -implicitDefEqProofs only[EQA,Zv,Xe,Xc,Xf,Xa,Xg,unA,Zw,Zad,unG,reduceCtorEq,↓reduceIte,Zf,Zgl,Zfd,ZgK,Zd,ZJ,Zbh,hGV,hM,hs,hV,hF,hT,hw,n0,AVal.cells]
    ·cases h2:Zh2 (n:Int) w<;>rw[h2]at hO
     ·rw[Zi (by rfl) ZgN]
      unfold Zdz
      simp -implicitDefEqProofs only[EQA,Zv,Xe,Xc,Xf,Xa,Xg,unA,Zw,unG,reduceCtorEq,↓reduceIte,Zf,Zgl,Zfd,ZgK,Zd,ZJ,Zbh,hGV,hM,hs,hV,hF,hO,n0,AVal.cells]
      rfl
     ·cases h3:Zer p.id p.num<;>rw[h3]at hT
      ·cases h4:((n:Int)==35)
       all_goals rw[Zi (by rfl) ZgN]
       all_goals unfold Zdz
       all_goals simp -implicitDefEqProofs only[EQA,Zv,Xe,Xc,Xf,Xa,Xg,unA,Zw,unG,reduceCtorEq,↓reduceIte,Zf,Zgl,Zfd,ZgK,Zd,ZJ,Zbh,hGV,hM,hs,hV,hF,hT,hO,h4,n0,AVal.cells]
       all_goals rfl
      ·rw[Zi (by rfl) ZgN]
       unfold Zdz
       simp -implicitDefEqProofs only[EQA,Zv,Xe,Xc,Xf,Xa,Xg,unA,Zw,unG,reduceCtorEq,↓reduceIte,Zf,Zgl,Zfd,ZgK,Zd,ZJ,Zbh,hGV,hM,hs,hV,hF,hT,hO,hw,n0,AVal.cells]
 ·refine⟨true,?_⟩
  have hc:e≠0\/ZcQ (n:Int) w=false:=Xr he
  have n1:(e != 0)=true:=by simpa using he
  rw[if_pos hc,Zi (by rfl) ZgN]
  unfold Zdz ZfO
  simp -implicitDefEqProofs only[EQA,Zv,Xe,Xc,Xf,Xa,Xg,Zw,Zad,reduceCtorEq,↓reduceIte,Zf,Zgl,Zfd,ZgK,Zd,ZJ,Zbh,hGV,n1,AVal.cells]
  rfl
end
section
def Zd3(w:Int):Nat->Zc->List Zp->List Zp×Int
 |_,[],l=>(l,0)
 |0,_::_,_=>([],129)
 |n+1,c::r,l=>if(Zb1 w (c::r) l).2.2=0 then Zd3 w n ((c::r).drop (Zb1 w (c::r) l).2.1) (l++[(Zb1 w (c::r) l).1])else([],(Zb1 w (c::r) l).2.2)
def Z9(w:Int)(b:Zc):List Zp×Nat×Int :=
 if(Z0 b).2.2≠0\/((Z0 b).1:Int)>(b.length:Int)-((Z0 b).2.1:Nat)then([],0,129)
 else if(Zd3 w (Z0 b).1 ((b.take ((Z0 b).2.1+(Z0 b).1)).drop (Z0 b).2.1) []).2=0 then
  ((Zd3 w (Z0 b).1 ((b.take ((Z0 b).2.1+(Z0 b).1)).drop (Z0 b).2.1) []).1,(Z0 b).2.1+(Z0 b).1,0)
 else([],0,(Zd3 w (Z0 b).1 ((b.take ((Z0 b).2.1+(Z0 b).1)).drop (Z0 b).2.1) []).2)
def ZkC(u:Nat)(x:List Zp×Int):AVal×Za:=if x.2=0 then(.tup [ZcL (x.1.map Zg),.int .i64 (u:Nat),.int .i64 0],ZcI 5 (x.1.map Zg))else(.tup [.lst true [],.int .i64 0,.int .i64 x.2],[])
theorem ZyV{w:Int}{b:Zc}{l:List Zp}(h:(Zb1 w b l).2.2=0):0<(Zb1 w b l).2.1/\(Zb1 w b l).2.1<=b.length/\(Zb1 w b l).1.data.length<=b.length:=by
 unfold Zb1 at h⊢
 split at h
 ·simp at h
 ·rename_i hc
  rw[if_neg hc]
  have hc0:(Z0 b).2.2=0:=Decidable.byContradiction fun h=>hc (Xr h)
  have h1:=Zsv b hc0
  have h2:=ZBl ((Z0 b).1:Nat) (b.drop (Z0 b).2.1)
  have h3:=ZLb ((Z0 b).1:Nat) (b.drop (Z0 b).2.1)
  simp only[X9]at h2 h3
  unfold ZmA at h⊢
  generalize ZcZ ((Z0 b).1:Nat) (b.drop (Z0 b).2.1)=v at *
  repeat' (split at h)
  all_goals first
   |(simp at h;done)
   |skip
  rename_i a1 a2 a3
  rw[if_neg a1,if_neg a2,if_pos a3]
  simp only
  omega
theorem ZiT{xs:List AVal}(h:0<xs.length):ZcL xs=.sl 0 0 0 xs.length:=by
 cases xs with
 |nil=>simp at h
 |cons x xs=>rfl
theorem Zjp{k:Nat}{xs:List AVal}(h:0<xs.length):ZcI k xs=[.row 0 k xs]:=by
 cases xs with
 |nil=>simp at h
 |cons x xs=>rfl
theorem ZDE(l:List Zp):Zlo (l.map Zg)=true:=by
 unfold Zlo
 rw[XH]
 intro x hx
 obtain⟨p,_,rfl⟩:=X2.1 hx
 rfl
theorem ZDo(b:Zc):(b.map Zb).all Zn6=true:=by
 rw[XH]
 intro x hx
 obtain⟨p,_,rfl⟩:=X2.1 hx
 rfl
theorem ZGa(σ:Za)(sq own:Nat)(f g:Bool)(w:Int)(b:Zc)(l:List Zp)(hl:b.length<=140737488355328)(hl2:l.length<=9223372036854775807)(hd:∀ p∈l,p.data.length<=140737488355328) :
  Zj E BY σ sq 152 own true [.int .i64 w,.lst f (b.map Zb),.lst g (l.map Zg)]=some (Zdz false (Zb1 w b l),σ,{}):=by
 obtain⟨f',h⟩:=ZyZ w b l hl hl2 hd
 exact ZbD h (by kernel_rfl) rfl rfl (by cases f'<;>rfl) (fun _=>rfl) _ _ _
theorem ZLu(σ:Za)(sq own:Nat)(f:Bool)(w:Int)(b:Zc)(l:List Zp)(hl:b.length<=140737488355328)(hl2:l.length<=9223372036854775807)(hd:∀ p∈l,p.data.length<=140737488355328) :
  Zj E BY (.row 0 5 (l.map Zg)::σ) sq 152 own true [.int .i64 w,.lst f (b.map Zb),.sl 0 0 0 (l.map Zg).length]=some (Zdz false (Zb1 w b l),.row 0 5 (l.map Zg)::σ,{ rd:=[0] }):=by
 obtain⟨f',h⟩:=ZyZ w b l hl hl2 hd
 refine ZTB (vs:=[.int .i64 w,ZJ b,Zbh l]) (by kernel_rfl) ?_ rfl rfl h (r':=Zdz false (Zb1 w b l)) (by cases f'<;>rfl) ?_ _ _
 ·simp[showAs,showA,Zdc,ZY,ZJ,Zbh]
  exact XI (by simp)
 ·have h1:=ZDE l
  have h2:=ZDo (Zb1 w b l).1.data
  unfold ZcY
  simp only[Wm,Bool.not_false,Zdz,Zji,Zje,Zjc,XO,Ws,Za5,h2,Zgk,XJ,h1,Wg]
theorem ZrO(w:Int)(n:Nat)(l:List Zp):Zd3 w n [] l=(l,0):=by cases n<;>rfl
theorem Zqe(w:Int)(n:Nat)(c:UInt8)(r:Zc)(l:List Zp):Zd3 w (n+1) (c::r) l=if(Zb1 w (c::r) l).2.2=0 then Zd3 w n ((c::r).drop (Zb1 w (c::r) l).2.1) (l++[(Zb1 w (c::r) l).1])else([],(Zb1 w (c::r) l).2.2):=rfl
theorem ZDT(w:Int)(N U:Nat)(hU:U+N<=140737488355328)(l:List Zp) :
  Zio 0 [(10,.lst false []),(8,.int .i64 (U:Nat)),(7,.int .i64 (N:Nat)),(4,ZcL (l.map Zg)),(0,.int .i64 w)] (ZcI 5 (l.map Zg))=some (ZkC (U+N) (l,0)):=by
 have hw:IntKind.i64.wrap ((U:Int)+(N:Int))=((U+N:Nat):Int):=by rw[ZaC (by omega) (by omega)];rfl
 have h1:¬(((0:Nat):Int)>0):=by simp
 unfold ZkC Zio
 rw[ZR]
 cases l with
 |nil =>
  simp -implicitDefEqProofs only[EQA,Zv,Xc,Xa,reduceCtorEq,↓reduceIte,Zf,Zi9,ZxH,Zmw,Zjq,Zgx,Zd,Zdu,ZdB,hw,h1]
  try (simp[Z4,gcA,Zu,Zs,Zt,ZT,Zk,Zn,ZI,Zl,ZF,Zh,Zo,Zy,Zx,Wd])
 |cons p l =>
  generalize hX:(p::l).map Zg=X
  have hpos:0<X.length:=by rw[<-hX];simp
  simp only[ZiT hpos,Zjp hpos]
  simp -implicitDefEqProofs only[EQA,Xc,Xa,reduceCtorEq,↓reduceIte,Zi9,ZxH,Zmw,Zjq,Zgx,Zd,hw,h1]
  simp[Z4,gcA,Zu,Zs,Zt,ZT,Zk,Zn,ZI,Zl,ZF,Zh,Zo,Zy,Zx]
theorem Zw1(w:Int)(N U:Nat)(hU:U+N<=140737488355328)(hN9:N<=1000000000):∀ (n:Nat) (b:Zc) (l:List Zp),b.length<=n->l.length+b.length<=N->(∀ p∈l,p.data.length<=140737488355328) ->
  Zio 0 [(10,.lst false (b.map Zb)),(8,.int .i64 (U:Nat)),(7,.int .i64 (N:Nat)),(4,ZcL (l.map Zg)),(0,.int .i64 w)] (ZcI 5 (l.map Zg))=some (ZkC (U+N) (Zd3 w n b l))
 |n,[],l,hb,hN,hd=>by
  rw[ZrO]
  exact ZDT w N U hU l
 |0,c::r,l,hb,hN,hd=>by simp at hb
 |n+1,c::r,l,hb,hN,hd=>by
  rw[Zqe]
  generalize hB:c::r=b at *
  have hlen:0<b.length:=by rw[<-hB];simp
  have hpos:((b.length:Nat):Int)>0:=by omega
  have hC:=fun σ sq own f g=>ZGa σ sq own f g w b l (by omega) (by omega) hd
  have hS:=fun σ sq own f=>ZLu σ sq own f w b l (by omega) (by omega) hd
  have hu:=ZyV (w:=w) (b:=b) (l:=l)
  unfold Zdz at hC hS
  rcases hx:Zb1 w b l with⟨p,m,e⟩
  rw[hx]at hC hS hu
  simp only at hC hS hu ⊢
  by_cases he:e=0
  ·subst he
   obtain⟨u1,u2,u3⟩:=hu rfl
   have n0:((0:Int) != 0)=false:=rfl
   rw[if_pos rfl]
   have ih:=Zw1 w N U hU hN9 n (b.drop m) (l++[p]) (by simp;omega) (by simp;omega) (by
    intro q hq
    rcases List.mem_append.1 hq with h |h
    ·exact hd q h
    ·simp at h;subst h;omega)
   have hs:=fun σ kk=>Zgd σ b kk ((m:Nat):Int) (by omega) (by omega)
   have e2:(((m:Nat):Int)).toNat=m:=rfl
   rw[e2]at hs
   generalize Zd3 w n (b.drop m) (l++[p])=R at *
   unfold Zio at ih ⊢
   rw[ZR]
   cases l with
   |nil =>
    simp only[Xt]at hC
    simp only[XA,Xm,Xt,ZdF,Zdr,Zdu,ZdB,Xp,Xw,XB,Zg,Za0,ZJ]at ih ⊢
    simp -implicitDefEqProofs only[EQA,ZM,Za7,Xe,Xc,Xf,Xa,Xg,reduceCtorEq,ZY,↓reduceIte,gcT,gcA,Zu,Zs,Zk,Zn,ZI,Zl,ZF,Zy,Zx,Zjq,Zgx,Zd,hpos,hC,n0,hs,ZaE,kOk,viewAs,ZP,ZK,Zat,Zr,W7,AVal.cells]
    exact ih
   |cons a l =>
    have hXl:((a::l).map Zg).length=l.length+1:=by simp
    rw[X4]at ih
    generalize hX:(a::l).map Zg=X at *
    have hXp:0<X.length:=by omega
    have hXq:0<(X++[p].map Zg).length:=by rw[Xi];omega
    simp only[ZiT hXp,Zjp hXp,ZiT hXq,Zjp hXq]at ih ⊢
    have hk:kOk 5 X=true:=by rw[<-hX];rfl
    have hb9:(X.length+1)*72<=140737488355328:=by simp at hN;omega
    try simp only[Xm,Xt,Zg,Za0,ZJ,Xi,Xp,Xw,XB]at ih
    simp -implicitDefEqProofs only[EQA,ZM,Za7,Xe,Xc,Xf,Xa,Xg,reduceCtorEq,ZY,↓reduceIte,gcT,gcA,Zu,Zs,Zk,Zn,ZI,Zl,ZF,Zy,Zx,Zjq,Zgx,Zd,hpos,hS,n0,hs,hb9,ZaE,kOk,viewAs,ZP,ZK,Zat,Zr,AVal.cells]
    exact ih
  ·have n1:(e != 0)=true:=by simpa using he
   rw[if_neg he]
   unfold ZkC Zio
   simp only
   rw[if_neg he,ZR]
   cases l with
   |nil =>
    simp only[Xt,Zdu,ZdB]at hC ⊢
    simp -implicitDefEqProofs only[EQA,Zv,Xe,Xc,Xf,Xa,Xg,reduceCtorEq,↓reduceIte,Zf,Zi9,Zjq,Zgx,Zd,hpos,hC,n1,AVal.cells]
    try (simp[Z4,gcA,Zu,Zs,Zt,ZT,Zk,Zn,ZI,Zl,ZF,Zh,Zo,Zy,Zx,Wd])
   |cons a l =>
    generalize hX:(a::l).map Zg=X at *
    have hXp:0<X.length:=by rw[<-hX];simp
    simp only[ZiT hXp,Zjp hXp]
    simp -implicitDefEqProofs only[EQA,Zv,Xe,Xc,Xf,Xa,Xg,reduceCtorEq,↓reduceIte,Zf,Zi9,Zjq,Zgx,Zd,hpos,hS,n1,AVal.cells]
    try (simp[Z4,gcA,Zu,Zs,Zt,ZT,Zk,Zn,ZI,Zl,ZF,Zh,Zo,Zy,Zx,Wd])
theorem Zvg:∀ (b:Zc) (i n:Nat),i<=4->n<128^i->(gvA i n b).1<268435456
 | [],i,n,hi,hn=>by unfold gvA;split<;>simp
 |c::r,i,n,hi,hn=>by
  have ha:c.toNat%128<128:=Xbg _ (by decide)
  unfold gvA
  split
  ·simp
  ·rename_i h4
   have hb:=Zza n i _ hn ha
   have hp:128^(i+1)<=128^4:=WN (by decide) (by omega)
   split
   ·split
    ·simp
    ·simp only;omega
   ·exact Zvg r (i+1) _ (by omega) hb
theorem ZuW(b:Zc):(Z0 b).1<268435456:=Zvg b 0 0 (by omega) (by simp)
def Zv7(x:List Zp×Nat×Int):AVal×Za:=(.tup [ZcL (x.1.map Zg),.int .i64 (x.2.1:Nat),.int .i64 x.2.2],ZcI 5 (x.1.map Zg))
theorem ZPH(w:Int)(b:Zc)(hl:b.length<=140737488355328):E 130 [.int .i64 w,ZJ b] []=some (Zv7 (Z9 w b)):=by
 have hGV:=fun σ sq own f=>Zrs σ sq own f b (by omega)
 have hu:=Zsv b
 have hlt:=ZuW b
 have hle:=Zzj b
 unfold Z9 Zv7
 rcases hx:Z0 b with⟨n,u,e⟩
 rw[hx]at hGV hu hlt hle
 unfold gvT at hGV
 simp only at hGV hu hlt hle ⊢
 have hw:IntKind.i64.wrap ((b.length:Int)-(u:Int))=(b.length:Int)-(u:Int):=ZaC (by omega) (by omega)
 by_cases he:e=0
 ·subst he
  have n0:((0:Int) != 0)=false:=rfl
  by_cases hn:(n:Int)>(b.length:Int)-(u:Int)
  ·rw[if_pos (XE hn),Zi (by rfl) Zra]
   simp -implicitDefEqProofs only[EQA,Zv,Xc,Xa,Zw,unG,reduceCtorEq,↓reduceIte,Zf,Zti,ZjX,Zi9,Zd,ZJ,hGV,n0,hw,hn]
   simp[]
   exact⟨rfl,rfl⟩
  ·have hc:¬((0:Int)≠0\/(n:Int)>(b.length:Int)-(u:Int)):=by simpa using hn
   rw[if_neg hc,Zi (by rfl) Zra]
   have hw2:IntKind.i64.wrap ((u:Int)+(n:Int))=((u+n:Nat):Int):=by rw[ZaC (by omega) (by omega)];rfl
   have hs:=fun σ k1 k2=>Ztt σ b k1 k2 ((u:Nat):Int) ((u+n:Nat):Int) (by omega) (by omega) (by omega)
   have e1:(((u:Nat):Int)).toNat=u:=rfl
   have e2:(((u+n:Nat):Int)).toNat=u+n:=rfl
   rw[e1,e2]at hs
   have key:=Zw1 w n u (by omega) (by omega) n ((b.take (u+n)).drop u) [] (by simp;omega) (by simp;omega) (by simp)
   generalize (b.take (u+n)).drop u=B at *
   unfold Zio at key
   simp only[Xt,Zdu,ZdB]at key
   simp -implicitDefEqProofs only[EQA,ZM,Xc,Xa,Zw,unG,reduceCtorEq,↓reduceIte,gcT,gcA,Zu,Zs,Zn,Zx,Zti,ZjX,Zd,ZJ,hGV,n0,hw,hn,hw2,hs]
   rw[key]
   unfold ZkC
   split<;>rfl
 ·have n1:(e != 0)=true:=by simpa using he
  rw[if_pos (Xr he),Zi (by rfl) Zra]
  simp -implicitDefEqProofs only[EQA,Zv,Xc,Xa,Zw,Zad,reduceCtorEq,↓reduceIte,Zf,Zti,ZjX,Zi9,Zd,ZJ,hGV,n1]
  simp[]
  exact⟨rfl,rfl⟩
theorem ZTF{σ:Za}{x:AVal}(h:Za5 x=true):ZP σ x=some (x,[])/\ZT x=[]/\∀ ρ,Zo ρ x=x:=by
 cases x<;>simp[Za5]at h<;>simp[ZP,ZK,ZT,Zo]
theorem Zmm{σ:Za}:∀ {vs:List AVal},vs.all Za5=true->viewAs σ vs=some (vs,[])/\Zt vs=[]/\∀ ρ,Zh ρ vs=vs
 | [],_=>⟨rfl,rfl,fun _=>rfl⟩
 |x::xs,h=>by
  simp only[XO,Xk]at h
  obtain⟨a1,a2,a3⟩:=ZTF (σ:=σ) h.1
  obtain⟨b1,b2,b3⟩:=Zmm (σ:=σ) h.2
  refine⟨by simp only[viewAs,a1,b1,Xo],by simp only[Zt,a2,b2,Xo],fun ρ=>by simp only[Zh,a3,b3]⟩
theorem ZDn{O:ZV}{bf:Nat->Bool}{f k:Nat}{args args':List AVal}{full vs:List AVal}(h:O f args' []=some (.tup (ZcL full::vs),ZcI k full))(hv:vs.all Za5=true)(hb:bf f=false)(hp:args.all Zan=true)(hn:args.map ZN=args')(σ:Za)(sq own:Nat):Zj O bf σ sq f own true args=some (.tup (.lst false full::vs),σ,{}):=by
 have hr:∀ sq,Zo (ZaJ [] [] sq) (.tup (.lst false full::vs))=.tup (.lst false full::vs):=fun sq=>by
  simp only[Zo,Zh,(Zmm (σ:=[]) hv).2.2]
 rw[ZcT hb hp,hn,h]
 have : Z3 true 0 (some (.tup (ZcL full::vs),ZcI k full))=some (.tup (.lst false full::vs),[]):=by
  unfold Z3
  rw[if_pos rfl]
  cases full with
  |nil =>
   obtain⟨b1,b2,b3⟩:=Zmm (σ:=[]) hv
   simp[Zdu,ZdB,ZbB,viewR,viewAs,ZP,ZK,b1,Zr,gcA,Zu,Zs,Zt,ZT,b2,Zh,Zo,b3,Zn]
  |cons x xs =>
   obtain⟨b1,b2,b3⟩:=Zmm (σ:=[ZO.row 0 k (x::xs)]) hv
   simp only[ZdF,Zdr]
   generalize x::xs=X at *
   simp[ZbB,viewR,viewAs,ZP,ZK,ZY,b1,Zr,gcA,Zu,Zs,Zt,ZT,b2,Zh,Zo,b3,Zn]
 rw[this,Zgu _ _ _ _ (hr sq)]
theorem ZnG(σ:Za)(sq own:Nat)(f:Bool)(w:Int)(b:Zc)(hl:b.length<=140737488355328):Zj E BY σ sq 130 own true [.int .i64 w,.lst f (b.map Zb)]=some (.tup [.lst false ((Z9 w b).1.map Zg),.int .i64 ((Z9 w b).2.1:Nat),.int .i64 (Z9 w b).2.2],σ,{}) :=
 ZDn (k:=5) (ZPH w b hl) rfl (by kernel_rfl) rfl rfl _ _ _
end
section
structure ZeE where
 b:Zc
 short:Bool
def Zh9(b:Zc):Int:=IntKind.i64.wrap (ZcR b:Int)
end
section
def Zbs:Ze:=by apply Zd 78 [] [];conv=>lhs;reduce;dsimp only[zi]
def Zrm:ZA:=⟨[],Zbs⟩
theorem Zby:FC 78=some Zrm:=by kernel_rfl
theorem Zbz:Zrm.body=Zbs:=rfl
theorem Zfz:Zrm.res=[]:=rfl
def ZdT:Ze:=by apply Zd 109 [] [];conv=>lhs;reduce;dsimp only[zi]
def ZOM:ZA:=⟨[],ZdT⟩
theorem Zmg:FC 109=some ZOM:=by kernel_rfl
def ZdI:Ze:=by apply Zd 111 [] [];conv=>lhs;reduce;dsimp only[zi]
def ZIh:ZA:=⟨[],ZdI⟩
theorem ZlN:FC 111=some ZIh:=by kernel_rfl
def Ze1:Ze:=by apply Zd 102 [] [];conv=>lhs;reduce;dsimp only[zi]
def ZtK:ZA:=⟨[(.tmp 2)],Ze1⟩
theorem ZgZ:FC 102=some ZtK:=by kernel_rfl
theorem Zg4:ZtK.body=Ze1:=rfl
theorem ZvK:ZtK.res=[(.tmp 2)]:=rfl
def Zpi:Ze:=by apply Zd 100 [] [];conv=>lhs;reduce;simp only[zi,zb]
def ZsX:ZA:=⟨[],Zpi⟩
theorem ZwA:FC 100=some ZsX:=by kernel_rfl
def Zoz:Ze:=by apply Zd 134 [] [];conv=>lhs;reduce;dsimp only[zi]
def ZuH:ZA:=⟨[(.tmp 2)],Zoz⟩
theorem Zyb:FC 134=some ZuH:=by kernel_rfl
theorem ZAD:ZuH.body=Zoz:=rfl
theorem ZBq:ZuH.res=[(.tmp 2)]:=rfl
def Zgc:Ze:=by apply Zd 77 [] [];conv=>lhs;reduce;dsimp only[zi]
def ZsV:ZA:=⟨[],Zgc⟩
theorem Zhy:FC 77=some ZsV:=by kernel_rfl
theorem Zhn:ZsV.body=Zgc:=rfl
theorem Zpj:ZsV.res=[]:=rfl
def ZkI:Ze:=by apply Zd 105 [] [];conv=>lhs;reduce;dsimp only[zi]
def ZoQ:ZA:=⟨[],ZkI⟩
theorem ZqK:FC 105=some ZoQ:=by kernel_rfl
theorem ZrG:ZoQ.body=ZkI:=rfl
theorem ZTh:ZoQ.res=[]:=rfl
def Zdt:Ze:=by apply Zd 107 [1,1,1,0,0] [];conv=>lhs;reduce;dsimp only[zi]
@[irreducible] def ZsO:Ze:=Zdt
def Zd8:=xw ZsO Zdt (by kernel_rfl)
def ZfA:Ze:=by apply Zd 107 [] [([1,1,1,0,0],ZsO)];conv=>lhs;reduce;dsimp only[zi]
def ZmM:ZA:=⟨[],ZfA⟩
theorem ZgS:FC 107=some ZmM:=by kernel_rfl
theorem Zg8:ZmM.body=ZfA:=rfl
theorem ZmZ:ZmM.res=[]:=rfl
noncomputable def Zbl(m:Nat)(tm:Tms)(σ:Za):Option (AVal×Za):=(Zap m ZmM (Option.map (ZaK 0) (evL FC PR BY m [1,0] ZsO tm σ)))
def Ziv:Ze:=by apply Zd 101 [] [];conv=>lhs;reduce;dsimp only[zi]
def ZpV:ZA:=⟨[(.tmp 4)],Ziv⟩
theorem ZmG:FC 101=some ZpV:=by kernel_rfl
theorem Zod:ZpV.body=Ziv:=rfl
theorem ZvS:ZpV.res=[(.tmp 4)]:=rfl
def Zow:Ze:=by apply Zd 103 [] [];conv=>lhs;reduce;dsimp only[zi]
def Ztg:ZA:=⟨[(.tmp 4)],Zow⟩
theorem ZxV:FC 103=some Ztg:=by kernel_rfl
theorem ZvG:Ztg.body=Zow:=rfl
theorem ZF1:Ztg.res=[(.tmp 4)]:=rfl
def ZgR:Ze:=by apply Zd 104 [] [];conv=>lhs;reduce;dsimp only[zi]
def ZoN:ZA:=⟨[],ZgR⟩
theorem Ziq:FC 104=some ZoN:=by kernel_rfl
theorem Zi8:ZoN.body=ZgR:=rfl
theorem Zyi:ZoN.res=[]:=rfl
def Zh7:Ze:=by apply Zd 106 [] [];conv=>lhs;reduce;dsimp only[zi]
def Zqk:ZA:=⟨[],Zh7⟩
theorem ZkJ:FC 106=some Zqk:=by kernel_rfl
theorem ZkZ:Zqk.body=Zh7:=rfl
theorem Zt8:Zqk.res=[]:=rfl
def ZdA:Ze:=by apply Zd 108 [] [];conv=>lhs;reduce;dsimp only[zi]
def ZsK:ZA:=⟨[],ZdA⟩
theorem Zd9:FC 108=some ZsK:=by kernel_rfl
theorem Zee:ZsK.body=ZdA:=rfl
theorem Zzr:ZsK.res=[]:=rfl
def Zib:Ze:=by apply Zd 110 [] [];conv=>lhs;reduce;dsimp only[zi]
def Zsb:ZA:=⟨[(.tmp 2)],Zib⟩
theorem Zlb:FC 110=some Zsb:=by kernel_rfl
theorem ZlU:Zsb.body=Zib:=rfl
theorem Zwo:Zsb.res=[(.tmp 2)]:=rfl
def Zm5:Ze:=by apply Zd 53 [1,1,0,1,1,1,1,1,1,1,1,1,0,1,1,0,0] [];conv=>lhs;reduce;dsimp only[zi]
@[irreducible] def ZqC:Ze:=Zm5
def Zm7:Ze:=by apply Zd 53 [1,1,0,1,1,1,1,1,1,1,1,1,1,1,0,1,1,0,0] [];conv=>lhs;reduce;dsimp only[zi]
@[irreducible] def ZtY:Ze:=Zm7
def Znc:Ze:=by apply Zd 53 [1,1,0,1,1,1,1,1,1,1,1,1,1,1,1,1,0,1,1,0,0] [];conv=>lhs;reduce;dsimp only[zi]
@[irreducible] def Ztn:Ze:=Znc
def ZdV:Ze:=by apply Zd 53 [] [([1,1,0,1,1,1,1,1,1,1,1,1,0,1,1,0,0],ZqC),([1,1,0,1,1,1,1,1,1,1,1,1,1,1,0,1,1,0,0],ZtY),([1,1,0,1,1,1,1,1,1,1,1,1,1,1,1,1,0,1,1,0,0],Ztn)];conv=>lhs;reduce;dsimp only[zi]
def Zi7:ZA:=⟨[],ZdV⟩
theorem Ze9:FC 53=some Zi7:=by kernel_rfl
theorem ZeP:Zi7.body=ZdV:=rfl
theorem ZeM:Zi7.res=[]:=rfl
def Zfc:Ze:=by apply Zd 69 [] [];conv=>lhs;reduce;simp only[zi,zb]
def Zte:ZA:=⟨[],Zfc⟩
theorem ZOf:FC 69=some Zte:=by kernel_rfl
theorem Zgg:Zte.body=Zfc:=rfl
theorem ZgA:Zte.res=[]:=rfl
def Zta:Ze:=by apply Zd 93 [] [];conv=>lhs;reduce;dsimp only[zi]
def ZtS:ZA:=⟨[],Zta⟩
theorem ZWW:FC 93=some ZtS:=by kernel_rfl
theorem ZMu:ZtS.body=Zta:=rfl
theorem ZG3:ZtS.res=[]:=rfl
def Zr2:Ze:=by apply Zd 75 [] [];conv=>lhs;reduce;dsimp only[zi]
def Zqj:ZA:=⟨[],Zr2⟩
theorem ZVm:FC 75=some Zqj:=by kernel_rfl
theorem ZSa:Zqj.body=Zr2:=rfl
theorem ZCZ:Zqj.res=[]:=rfl
def ZlV:Ze:=by apply Zd 70 [] [];conv=>lhs;reduce;dsimp only[zi]
def Zts:ZA:=⟨[],ZlV⟩
theorem Zxw:FC 70=some Zts:=by kernel_rfl
theorem ZyR:Zts.body=ZlV:=rfl
theorem ZAZ:Zts.res=[]:=rfl
def ZuU:Ze:=by apply Zd 71 [] [];conv=>lhs;reduce;dsimp only[zi]
def Zrx:ZA:=⟨[],ZuU⟩
theorem ZIy:FC 71=some Zrx:=by kernel_rfl
theorem ZSy:Zrx.body=ZuU:=rfl
theorem ZNV:Zrx.res=[]:=rfl
def Zfe:Ze:=by apply Zd 74 [] [];conv=>lhs;reduce;dsimp only[zi]
def ZrP:ZA:=⟨[],Zfe⟩
theorem Zxr:FC 74=some ZrP:=by kernel_rfl
theorem ZgH:ZrP.body=Zfe:=rfl
theorem ZgQ:ZrP.res=[]:=rfl
def ZmW:Ze:=by apply Zd 72 [] [];conv=>lhs;reduce;dsimp only[zi]
def Zrn:ZA:=⟨[],ZmW⟩
theorem Zwi:FC 72=some Zrn:=by kernel_rfl
theorem Zwv:Zrn.body=ZmW:=rfl
theorem ZwZ:Zrn.res=[]:=rfl
def Zt3:Ze:=by apply Zd 136 [] [];conv=>lhs;reduce;dsimp only[zi]
def Zur:ZA:=⟨[(.tmp 4)],Zt3⟩
theorem ZWP:FC 136=some Zur:=by kernel_rfl
theorem ZDx:Zur.body=Zt3:=rfl
theorem ZKd:Zur.res=[(.tmp 4)]:=rfl
def Zlc:Ze:=by apply Zd 157 [] [];conv=>lhs;reduce;dsimp only[zi]
def ZpX:ZA:=⟨[(.tmp 3)],Zlc⟩
theorem ZFG:FC 157=some ZpX:=by kernel_rfl
theorem ZyE:ZpX.body=Zlc:=rfl
theorem ZvC:ZpX.res=[(.tmp 3)]:=rfl
def ZcH:Ze:=by apply Zd 27 [] [];conv=>lhs;reduce;dsimp only[zi]
def ZpM:ZA:=⟨[(.cell 2 (some 2)),(.tmp 3)],ZcH⟩
theorem Zmy:FC 27=some ZpM:=by kernel_rfl
theorem Zc6:ZpM.body=ZcH:=rfl
theorem Zc5:ZpM.res=[(.cell 2 (some 2)),(.tmp 3)]:=rfl
def Zpa:Ze:=by apply Zd 11 [] [];conv=>lhs;reduce;dsimp only[zi]
def ZqB:ZA:=⟨[(.tmp 2),(.tmp 3)],Zpa⟩
theorem ZH6:FC 11=some ZqB:=by kernel_rfl
theorem ZO8:ZqB.body=Zpa:=rfl
theorem ZWN:ZqB.res=[(.tmp 2),(.tmp 3)]:=rfl
def Zup:Ze:=by apply Zd 58 [] [];conv=>lhs;reduce;dsimp only[zi]
def ZsT:ZA:=⟨[(.tmp 4)],Zup⟩
theorem ZMm:FC 58=some ZsT:=by kernel_rfl
theorem ZGj:ZsT.body=Zup:=rfl
theorem ZJQ:ZsT.res=[(.tmp 4)]:=rfl
def Zeq:Ze:=by apply Zd 156 [] [];conv=>lhs;reduce;dsimp only[zi]
def ZpO:ZA:=⟨[(.tmp 2)],Zeq⟩
theorem ZfG:FC 156=some ZpO:=by kernel_rfl
theorem Zfb:ZpO.body=Zeq:=rfl
theorem ZfD:ZpO.res=[(.tmp 2)]:=rfl
def Zjj:Ze:=by apply Zd 54 [] [];conv=>lhs;reduce;dsimp only[zi]
def ZpP:ZA:=⟨[(.tmp 2)],Zjj⟩
theorem Znd:FC 54=some ZpP:=by kernel_rfl
theorem Zk5:ZpP.body=Zjj:=rfl
theorem Znq:ZpP.res=[(.tmp 2)]:=rfl
def ZqA:Ze:=by apply Zd 56 [] [];conv=>lhs;reduce;dsimp only[zi]
def Zq0:ZA:=⟨[(.tmp 4)],ZqA⟩
theorem ZFt:FC 56=some Zq0:=by kernel_rfl
theorem ZDs:Zq0.body=ZqA:=rfl
theorem ZGL:Zq0.res=[(.tmp 4)]:=rfl
def Zml:Ze:=by apply Zd 99 [] [];conv=>lhs;reduce;dsimp only[zi]
def Ztd:ZA:=⟨[],Zml⟩
theorem ZzO:FC 99=some Ztd:=by kernel_rfl
theorem Zwh:Ztd.body=Zml:=rfl
theorem ZJE:Ztd.res=[]:=rfl
end
section
def ZH(c:Int):AVal:=.iface 41 (.int .i64 c)
theorem Zbw(c:Int)(σ:Za)(sq own:Nat):Zj E BY σ sq 99 own true [.bool true,.int .i64 c]=some (.tup [],σ,{}):=by
 have h:E 99 [.bool true,.int .i64 c] []=some (.tup [],[]):=by
  rw[Zi (by rfl) ZzO]
  simp -implicitDefEqProofs only[EQA,Zv,Xc,Xa,unA,reduceCtorEq,↓reduceIte,Zf,Zwh,Zml,ZJE,Zd]
 exact Za2 (h) (by kernel_rfl) (by simp -implicitDefEqProofs only[Zbu,Zai,eq_self,eq_self]) (by simp -implicitDefEqProofs only[Zz,Zai,eq_self,eq_self]) rfl (fun _=>rfl) _ _ _ _
theorem ZbR(c:Int)(σ:Za)(sq own:Nat):Zj E BY σ sq 99 own true [.bool false,.int .i64 c]=some (.pan (ZH c),σ,{}):=by
 have h:E 99 [.bool false,.int .i64 c] []=some (.pan (ZH c),[]):=by
  rw[Zi (by rfl) ZzO]
  simp -implicitDefEqProofs only[EQA,Zv,Xc,Xa,unA,reduceCtorEq,↓reduceIte,Zwh,Zml,Zd,ZH]
 exact Za2 (h) (by kernel_rfl) (by simp -implicitDefEqProofs only[Zbu,Zai,eq_self]) (by simp -implicitDefEqProofs only[Zz,Zai,eq_self]) rfl (fun _=>rfl) _ _ _ _
theorem ZaQ{xs ys:List AVal}(h:Zf xs=true)(h':Zf ys=true):Zf (xs++ys)=true:=by
 induction xs with
 |nil=>exact h'
 |cons x xs ih =>
  simp only[Zf,Xk,XV]at h⊢
  exact⟨h.1,ih h.2⟩
section
variable (P:List AVal)(hP:P.length=26)(hN:Zf P=true)
include hP
theorem Zal(L:AVal):(P++[L]).length=27:=by simp[hP]
theorem ZaI(L:AVal):(P++[L])[26]?=some L:=by
 rw[List.getElem?_append_right (by omega)];simp[hP]
theorem Zfs(L:AVal):(P++[L]).take 26=P:=by
 rw[X6 (by omega),XI (by omega)]
theorem ZgU(L:AVal):(P++[L]).drop 27=[]:=List.drop_eq_nil_of_le (by simp[hP])
include hN
theorem ZG(f:Bool)(xs:List AVal):Zf (P++[.lst f xs])=true:=ZaQ hN rfl
theorem ZEi(l:Zc)(n:Nat)(hn:n<=l.length)(hl:l.length<=140737488355328):E 101 [.ref 0 0,.int .i64 (n:Nat)] [.var (P++[.lst false (l.map Zb)])]=some (.int .i64 (Zh9 (l.take n)),[.var (P++[.lst false ((l.drop n).map Zb)])]):=by
 have h1:(l.length:Int)>=((n:Nat):Int):=by omega
 have s1:=fun σ kk=>ZjQ σ 1 l Zb kk (n:Int) (by omega) (by omega)
 have s2:=fun σ kk=>Zgd σ l kk (n:Int) (by omega) (by omega)
 have e2:((n:Int)).toNat=n:=rfl
 rw[e2]at s1 s2
 have ht:(l.take n).length<=9223372036854775807:=by simp;omega
 have hG:=fun σ sq own f=>Zle σ sq own (l.take n) ht f
 have a1:=Zal P hP
 have a2:=ZaI P hP
 have a3:=Zfs P hP
 have a4:=ZgU P hP
 have m1:=Zbw
 rw[Zi (by rfl) ZmG]
 simp -implicitDefEqProofs only[EQA,Zz,Xe,Xc,Xf,Xa,reduceCtorEq,↓reduceIte,Zod,Ziv,ZvS,Zd,h1,s1,s2,hG,a1,a2,a3,a4,m1,Zh9]
 exact Z7 rfl (ZG P hP hN _ _)
theorem ZDU(l:Zc)(n:Nat)(hn:l.length<n)(hn':n<=9223372036854775807):E 101 [.ref 0 0,.int .i64 (n:Nat)] [.var (P++[.lst false (l.map Zb)])]=some (.pan (ZH 129),[.var (P++[.lst false (l.map Zb)])]):=by
 have h1:¬(l.length:Int)>=((n:Nat):Int):=by omega
 have a2:=ZaI P hP
 have m1:=ZbR
 rw[Zi (by rfl) ZmG]
 simp -implicitDefEqProofs only[EQA,Xc,Xa,reduceCtorEq,↓reduceIte,Zod,Ziv,Zd,h1,a2,m1]
 exact Z7 rfl (ZG P hP hN _ _)
theorem ZUy(l:Zc)(hl:l.length<=140737488355328)(h:(Zaq l).2.2=0):E 110 [.ref 0 0] [.var (P++[.lst false (l.map Zb)])]=some (.str (Zaq l).1,[.var (P++[.lst false ((l.drop (Zaq l).2.1).map Zb)])]):=by
 have hG:=fun σ sq own f=>ZiE σ sq own f l hl
 have hu:=(ZiI l).1
 unfold gtT at hG
 have s2:=fun σ kk=>Zgd σ l kk ((Zaq l).2.1:Int) (by omega) (by omega)
 have e2:(((Zaq l).2.1:Nat):Int).toNat=(Zaq l).2.1:=rfl
 rw[e2]at s2
 rw[h]at hG
 have a1:=Zal P hP
 have a2:=ZaI P hP
 have a3:=Zfs P hP
 have a4:=ZgU P hP
 have m1:=Zbw
 rw[Zi (by rfl) Zlb]
 simp -implicitDefEqProofs only[EQA,Zz,Zv,Xe,Xc,Xf,Xa,reduceCtorEq,↓reduceIte,ZlU,Zib,Zwo,Zd,s2,hG,a1,a2,a3,a4,m1]
 exact Z7 rfl (ZG P hP hN _ _)
theorem ZPt(l:Zc)(hl:l.length<=140737488355328)(h:(Zaq l).2.2≠0):E 110 [.ref 0 0] [.var (P++[.lst false (l.map Zb)])]=some (.pan (ZH 129),[.var (P++[.lst false (l.map Zb)])]):=by
 have hG:=fun σ sq own f=>ZiE σ sq own f l hl
 unfold gtT at hG
 have h0:((Zaq l).2.2==0)=false:=by simpa using h
 have h1:=h
 have a2:=ZaI P hP
 have m1:=ZbR
 rw[Zi (by rfl) Zlb]
 simp -implicitDefEqProofs only[EQA,Xc,Xa,reduceCtorEq,↓reduceIte,ZlU,Zib,Zd,hG,a2,h0,m1]
 exact Z7 rfl (ZG P hP hN _ _)
theorem ZFQ(l:Zc)(hl:l.length<=140737488355328)(h:(ZaP l).2.2=0):E 134 [.ref 0 0] [.var (P++[.lst false (l.map Zb)])]=some (.lst false ((ZaP l).1.map Zb),[.var (P++[.lst false ((l.drop (ZaP l).2.1).map Zb)])]):=by
 have hG:=fun σ sq own f=>Zn0 σ sq own f l hl
 have hu:=(ZnT l).1
 unfold gdT at hG
 have s2:=fun σ kk=>Zgd σ l kk ((ZaP l).2.1:Int) (by omega) (by omega)
 have e2:(((ZaP l).2.1:Nat):Int).toNat=(ZaP l).2.1:=rfl
 rw[e2]at s2
 rw[h]at hG
 have a1:=Zal P hP
 have a2:=ZaI P hP
 have a3:=Zfs P hP
 have a4:=ZgU P hP
 have m1:=Zbw
 rw[Zi (by rfl) Zyb]
 simp -implicitDefEqProofs only[EQA,Zz,Zv,Xe,Xc,Xf,Xa,reduceCtorEq,↓reduceIte,ZAD,Zoz,ZBq,Zd,s2,hG,a1,a2,a3,a4,m1]
 exact Z7 rfl (ZG P hP hN _ _)
theorem ZFZ(l:Zc)(hl:l.length<=140737488355328)(h:(ZaP l).2.2≠0):E 134 [.ref 0 0] [.var (P++[.lst false (l.map Zb)])]=some (.pan (ZH 129),[.var (P++[.lst false (l.map Zb)])]):=by
 have hG:=fun σ sq own f=>Zn0 σ sq own f l hl
 unfold gdT at hG
 have h0:((ZaP l).2.2==0)=false:=by simpa using h
 have h1:=h
 have a2:=ZaI P hP
 have m1:=ZbR
 rw[Zi (by rfl) Zyb]
 simp -implicitDefEqProofs only[EQA,Xc,Xa,reduceCtorEq,↓reduceIte,ZAD,Zoz,Zd,hG,a2,h0,m1]
 exact Z7 rfl (ZG P hP hN _ _)
theorem ZVb(w:Int)(l:Zc)(hl:l.length<=140737488355328)(h:(Z9 w l).2.2=0)(hu:(Z9 w l).2.1<=l.length):E 103 [.ref 0 0,.int .i64 w] [.var (P++[.lst false (l.map Zb)])]=some (.lst false ((Z9 w l).1.map Zg),[.var (P++[.lst false ((l.drop (Z9 w l).2.1).map Zb)])]):=by
 have hG:=fun σ sq own f=>ZnG σ sq own f w l hl
 have s2:=fun σ kk=>Zgd σ l kk ((Z9 w l).2.1:Int) (by omega) (by omega)
 have e2:(((Z9 w l).2.1:Nat):Int).toNat=(Z9 w l).2.1:=rfl
 rw[e2]at s2
 rw[h]at hG
 have a1:=Zal P hP
 have a2:=ZaI P hP
 have a3:=Zfs P hP
 have a4:=ZgU P hP
 have m1:=Zbw
 generalize Z9 w l=R at *
 rw[Zi (by rfl) ZxV]
 simp -implicitDefEqProofs only[EQA,Zz,Zv,Xe,Xc,Xf,Xa,reduceCtorEq,↓reduceIte,ZvG,Zow,ZF1,Zd,s2,hG,a1,a2,a3,a4,m1]
 exact Z7 rfl (ZG P hP hN _ _)
theorem ZMK(w:Int)(l:Zc)(hl:l.length<=140737488355328)(h:(Z9 w l).2.2≠0):E 103 [.ref 0 0,.int .i64 w] [.var (P++[.lst false (l.map Zb)])]=some (.pan (ZH (Z9 w l).2.2),[.var (P++[.lst false (l.map Zb)])]):=by
 have hG:=fun σ sq own f=>ZnG σ sq own f w l hl
 have h0:((Z9 w l).2.2==0)=false:=by simpa using h
 have h1:=h
 have a2:=ZaI P hP
 have m1:=ZbR
 generalize Z9 w l=R at *
 rw[Zi (by rfl) ZxV]
 simp -implicitDefEqProofs only[EQA,Xc,Xa,reduceCtorEq,↓reduceIte,ZvG,Zow,Zd,hG,a2,h0,m1]
 exact Z7 rfl (ZG P hP hN _ _)
end
end
section
theorem ZlI{O:ZV}{bf:Nat->Bool}{σ:Za}{t sq f own:Nat}{view:Bool}{args vs vs':List AVal}{cs cs':List AVal}{r:AVal}(hs:σ[t]?=some (.var cs))(hc:Zf cs=true)(hc':Zf cs'=true)(hb:bf f=false)(hff:ZaM σ sq own=true)
  (hsh:showAs σ args=some (vs,[])) (href:Zt vs=[t]) (hren:∀ ρ:Rho,ρ t 0=some (0,0)->Zh ρ vs=vs') (hn:ZS r=true) (hv:viewR [.var cs'] r=some (r,[]))
  (h:O f vs' [.var cs]=some (r,[.var cs'])):Zj O bf σ sq f own view args=some (r,σ.set t (.var cs'),{ any:=true,upd:=[(t,cs')] }):=by
 have htl:t<σ.length:=by
  rcases Wx t σ.length with h |h
  ·exact h
  ·rw[XQ h]at hs;cases hs
 have hup:ZaZ (σ.set t (.var cs')) [t]=[(t,cs')]:=by
  simp only[ZaZ,Xx,if_pos htl,if_true]
 have hd:σ.getD t .free=.var cs:=by simp[Xh,hs]
 have hf0:Zr σ []=σ:=rfl
 unfold Zj ZbS
 rw[hb]
 simp only[Xj,if_false,hsh,hf0,href,Zff hs hc]
 unfold ZbK
 have hall:([t].all fun t=>okB (σ.getD t .free))=true:=by simp[XO,Ws,hs,okB]
 rw[if_pos hall]
 have hρ:Zk σ 0 [t] t 0=some (0,0):=by simp[Zk,ZI,hs,Zl,ZF]
 have hheap:Zn σ 0 [t] (Zk σ 0 [t]) [t] 0=[.var cs]:=by
  simp only[Zn,hd,Zy,(ZaV _ cs hc).1]
 rw[hren _ hρ,hheap,h]
 have hask:Z3 view [t].length (some (r,[.var cs']))=some (r,[.var cs']):=by
  unfold Z3
  split
  ·have hnp:∀ x,r≠.pan x:=by rintro x rfl;simp[viewR,ZP,ZK]at hv
   rw[show ZbB [t].length (some (r,[.var cs']))=(match viewR [.var cs'] r with
    |some (r',ts)=>match gcA [t].length [r'] (Zr [.var cs'] ts)with
     |([r''],σ')=>some (r'',σ')
     |_=>none
    |none=>none)from by cases r<;>first |rfl |exact absurd rfl (hnp _)]
   rw[hv]
   simp only[Xp,Xw,XB,show Zr [ZO.var cs'] []=[.var cs']from rfl,ZkP hn hc']
  ·rfl
 rw[hask]
 have hk:ZaW σ [t] [.var cs'] 0=true:=by
  simp[ZaW,okB,hs,Zcr,Zl]
 simp only[ZaA,Wm,Xj,if_false,Xp,Xw,XB,Xay,XF,decide_true,hk,hff,Wg,if_true,Za9,ZaN,Xu,Zy,(Zbm _ r hn).1,(ZaV _ cs' hc').1,hup]
def ZgM(k:Int):List (Int×Int) :=
 if k=2 then [(0,0),(128,138),(140,140),(144,144),(149,149),(151,151),(153,157),(159,159)]else
 if k=4 then [(0,0),(16,16),(128,128),(131,131),(135,135),(144,145),(151,151),(153,153)]else
 if k=5 then [(0,0),(16,16),(128,128),(131,131),(135,135),(144,145),(151,151),(153,153)]else
 if k=6 then [(0,0),(146,146)]else
 if k=7 then [(0,0),(146,146)]else
 if k=9 then [(0,2),(128,128),(131,131),(135,135),(143,143),(145,145),(151,151),(158,158),(161,162)]else
 if k=11 then [(0,0),(17,17),(128,128),(131,131),(135,135),(143,143),(145,145)]else
 if k=14 then [(0,0),(4,4),(128,131),(135,135),(137,137),(139,139),(141,144),(147,162)]else
 if k=15 then [(0,0),(24,25)]else
 []
def Zeh(s:Int×Int):AVal:=.agg [.int .i64 s.1,.int .i64 s.2]
def Zg9(c:Int)(s:Int×Int):Bool:=decide (c>=s.1)&&decide (c<=s.2)
def Zmj(k c:Int):Bool:=(ZgM k).any (Zg9 c)
theorem ZHu(k:Int):(ZgM k).length<=9:=by
 unfold ZgM
 repeat' split
 all_goals simp
theorem ZJG(k:Int):∃ f,E 156 [.int .i64 k] []=some (.lst f ((ZgM k).map Zeh),[]):=by
 refine⟨true,?_⟩
 unfold ZgM
 by_cases h2:k=2
 ·subst h2
  rw[Zi (by rfl) ZfG]
  simp -implicitDefEqProofs only[EQA,Zv,Xe,Xc,Xf,Xa,reduceCtorEq,↓reduceIte,Zfb,Zeq,ZfD,Zd,Zab,AVal.cells,ZbA,viewAs,ZP,ZK,Zat,Zr]
  rfl
 by_cases h4:k=4
 ·subst h4
  rw[Zi (by rfl) ZfG]
  simp -implicitDefEqProofs only[EQA,Zv,Zdm,Xe,Xc,Xf,Xa,reduceCtorEq,ite_self,↓reduceIte,Zfb,Zeq,ZfD,Zd,Xs,Zab,AVal.cells,ZbA,viewAs,ZP,ZK,Zat,Zr]
  rfl
 by_cases h5:k=5
 ·subst h5
  rw[Zi (by rfl) ZfG]
  simp -implicitDefEqProofs only[EQA,Zv,Zdm,Xe,Xc,Xf,Xa,reduceCtorEq,ite_self,↓reduceIte,Zfb,Zeq,ZfD,Zd,Xs,Zab,AVal.cells,ZbA,viewAs,ZP,ZK,Zat,Zr]
  rfl
 by_cases h6:k=6
 ·subst h6
  rw[Zi (by rfl) ZfG]
  simp -implicitDefEqProofs only[EQA,Zv,Zdm,Xe,Xc,Xf,Xa,reduceCtorEq,ite_self,↓reduceIte,Zfb,Zeq,ZfD,Zd,Xs,Zab,AVal.cells,ZbA,viewAs,ZP,ZK,Zat,Zr]
  rfl
 by_cases h7:k=7
 ·subst h7
  rw[Zi (by rfl) ZfG]
  simp -implicitDefEqProofs only[EQA,Zv,Zdm,Xe,Xc,Xf,Xa,reduceCtorEq,ite_self,↓reduceIte,Zfb,Zeq,ZfD,Zd,Xs,Zab,AVal.cells,ZbA,viewAs,ZP,ZK,Zat,Zr]
  rfl
 by_cases h9:k=9
 ·subst h9
  rw[Zi (by rfl) ZfG]
  simp -implicitDefEqProofs only[EQA,Zv,Zdm,Xe,Xc,Xf,Xa,reduceCtorEq,↓reduceIte,Zfb,Zeq,ZfD,Zd,Xs,Zab,AVal.cells,ZbA,viewAs,ZP,ZK,Zat,Zr]
  rfl
 by_cases h11:k=11
 ·subst h11
  rw[Zi (by rfl) ZfG]
  simp -implicitDefEqProofs only[EQA,Zv,Zdm,Xe,Xc,Xf,Xa,reduceCtorEq,↓reduceIte,Zfb,Zeq,ZfD,Zd,Xs,Zab,AVal.cells,ZbA,viewAs,ZP,ZK,Zat,Zr]
  rfl
 by_cases h14:k=14
 ·subst h14
  rw[Zi (by rfl) ZfG]
  simp -implicitDefEqProofs only[EQA,Zv,Zdm,Xe,Xc,Xf,Xa,reduceCtorEq,ite_self,↓reduceIte,Zfb,Zeq,ZfD,Zd,Xs,Zab,AVal.cells,ZbA,viewAs,ZP,ZK,Zat,Zr]
  rfl
 by_cases h15:k=15
 ·subst h15
  rw[Zi (by rfl) ZfG]
  simp -implicitDefEqProofs only[EQA,Zv,Zdm,Xe,Xc,Xf,Xa,reduceCtorEq,ite_self,↓reduceIte,Zfb,Zeq,ZfD,Zd,Xs,Zab,AVal.cells,ZbA,viewAs,ZP,ZK,Zat,Zr]
  rfl
 have b2:(k==2)=false:=by simpa using h2
 have b4:(k==4)=false:=by simpa using h4
 have b5:(k==5)=false:=by simpa using h5
 have b6:(k==6)=false:=by simpa using h6
 have b7:(k==7)=false:=by simpa using h7
 have b9:(k==9)=false:=by simpa using h9
 have b11:(k==11)=false:=by simpa using h11
 have b14:(k==14)=false:=by simpa using h14
 have b15:(k==15)=false:=by simpa using h15
 rw[if_neg h2,if_neg h4,if_neg h5,if_neg h6,if_neg h7,if_neg h9,if_neg h11,if_neg h14,if_neg h15]
 rw[Zi (by rfl) ZfG]
 simp -implicitDefEqProofs only[EQA,Zv,Xc,Xa,reduceCtorEq,↓reduceIte,Zfb,Zeq,ZfD,Zd,b2,b4,b5,b6,b7,b9,b11,b14,b15]
theorem ZVq(c:Int)(s:Int×Int):E 157 [.agg [.int .i64 s.1,.int .i64 s.2],.ref 0 0] [.var [.int .i64 c]]=some (.bool (Zg9 c s),[.var [.int .i64 c]]):=by
 unfold Zg9
 rw[Zi (by rfl) ZFG]
 by_cases h:c>=s.1
 ·simp -implicitDefEqProofs only[EQA,Zz,ZM,Xe,Xc,Xa,Xg,Zw,unG,reduceCtorEq,↓reduceIte,Zf,ZyE,Zlc,ZvC,Zd,h]
  try (simp[Z4,gcA,Zu,Zs,Zt,ZT,Zk,Zn,ZI,Zl,ZF,Zh,Zo,Zy,Zx,Wd])
 ·simp -implicitDefEqProofs only[EQA,Zz,ZM,Xe,Xc,Xa,Xg,Zw,Zad,reduceCtorEq,↓reduceIte,Zf,ZyE,Zlc,ZvC,Zd,h]
  try (simp[Z4,gcA,Zu,Zs,Zt,ZT,Zk,Zn,ZI,Zl,ZF,Zh,Zo,Zy,Zx,Wd])
theorem ZFu(k:Int)(σ:Za)(sq own:Nat):Zj E BY σ sq 156 own true [.int .i64 k]=some (.lst false ((ZgM k).map Zeh),σ,{}):=by
 obtain⟨f,h⟩:=ZJG k
 exact ZbD h (by kernel_rfl) rfl rfl rfl (fun _=>rfl) _ _ _
theorem ZPY(σ:Za)(sq t own:Nat)(view:Bool)(c:Int)(s:Int×Int)(hs:σ[t]?=some (.var [.int .i64 c]))(hff:ZaM σ sq own=true):Zj E BY σ sq 157 own view [.agg [.int .i64 s.1,.int .i64 s.2],.ref t 0]=some (.bool (Zg9 c s),σ.set t (.var [.int .i64 c]),{ any:=true,upd:=[(t,[.int .i64 c])] }) :=
 ZlI hs rfl rfl (by kernel_rfl) hff rfl rfl (fun ρ h=>by simp only[Zh,Zo,h]) rfl rfl (ZVq c s)
theorem ZwC(L:List (Int×Int))(c:Int)(hL:L.length<=9223372036854775807):∀ (r:List (Int×Int)) (i:Nat),L.drop i=r ->
  ∃ z,ZnV 1 [(8,.int .i64 i),(7,.int .i64 L.length),(1,.fn 157 [.ref 0 0]),(0,.lst false (L.map Zeh))] [.var [.int .i64 c]]=some (.int .i64 z,[.var [.int .i64 c]])/\decide (z>=0)=r.any (Zg9 c)
 | [],i,h=>by
  have h1:=Zcq h
  refine⟨-1,?_,by simp⟩
  unfold ZnV
  rw[ZR]
  simp -implicitDefEqProofs only[EQA,ZM,Xc,Xa,reduceCtorEq,↓reduceIte,Zf,ZzZ,ZT5,Zo0,ZtX,ZkH,Zd,h1]
 |x::r,i,h=>by
  obtain⟨z,ih,hz⟩:=ZwC L c hL r (i+1) (ZW h).2.1
  have h1:(i:Int)<L.length:=by have:=(ZW h).2.2;omega
  have e1:=iad (ZW h).1 Zeh (k:=2) rfl
  have e3:=Zcs h1 hL
  have hm:x∈L:=XC (ZW h).1
  have hc:=fun σ sq t own view hs hff=>ZPY σ sq t own view c x hs hff
  unfold ZnV at ih ⊢
  cases hb:Zg9 c x
  ·refine⟨z,?_,by rw[hz];simp[hb]⟩
   rw[ZR]
   simp -implicitDefEqProofs only[EQA,Zz,ZM,Xe,Xc,Xf,Xa,Xg,reduceCtorEq,↓reduceIte,gcT,gcA,Zu,Zs,Zk,Zn,ZI,Zl,ZF,Zy,Zx,Wd,ZtX,ZkH,Zd,h1,e1,e3,hc,hb,ZaM,Zeh]
   exact ih
  ·refine⟨i,?_,by simp[hb]⟩
   rw[ZR]
   simp -implicitDefEqProofs only[EQA,Zz,ZM,Xe,Xc,Xf,Xa,Xg,reduceCtorEq,↓reduceIte,Zf,ZzZ,ZtX,ZkH,Zd,h1,e1,hc,hb,ZaM,Zeh]
theorem ZVu(L:List (Int×Int))(c:Int)(hL:L.length<=9223372036854775807) :
  ∃ z,E 173 [.lst false (L.map Zeh),.fn 157 [.ref 0 0]] [.var [.int .i64 c]]=some (.int .i64 z,[.var [.int .i64 c]])/\decide (z>=0)=L.any (Zg9 c):=by
 obtain⟨z,h,hz⟩:=ZwC L c hL L 0 rfl
 refine⟨z,?_,hz⟩
 rw[Zi (by rfl) ZOx]
 have z0:((0:Nat):Int)=0:=rfl
 rw[z0]at h
 unfold ZnV at h
 simp -implicitDefEqProofs only[EQA,ZM,Xc,Xa,reduceCtorEq,↓reduceIte,gcT,gcA,Zu,Zs,Zk,Zn,ZI,Zl,ZF,Zy,Zx,Wd,ZKE,Zo2,Zd,h]
theorem ZI1(L:List (Int×Int))(c:Int)(hL:L.length<=9223372036854775807) :
  E 155 [.lst false (L.map Zeh),.fn 157 [.ref 0 0]] [.var [.int .i64 c]]=some (.bool (L.any (Zg9 c)),[.var [.int .i64 c]]):=by
 obtain⟨z,h,hz⟩:=ZVu L c hL
 rw[Zi (by rfl) ZVA]
 have hc:=fun(σ:Za) sq t view hs=>ZlI (O:=E) (bf:=BY) (σ:=σ) (t:=t) (sq:=sq) (own:=0) (view:=view) (f:=173) (args:=[.lst false (L.map Zeh),.fn 157 [.ref t 0]]) (vs:=[.lst false (L.map Zeh),.fn 157 [.ref t 0]]) hs rfl rfl (by kernel_rfl) rfl rfl rfl (fun ρ h=>by simp only[Zh,Zo,h]) rfl rfl h
 simp -implicitDefEqProofs only[EQA,ZM,Xc,Xa,reduceCtorEq,↓reduceIte,Zf,ZVQ,Zuo,ZCe,Zd,hc,hz]
theorem ZDW(k c:Int):E 136 [.int .i64 k,.int .i64 c] []=some (.bool (Zmj k c),[]):=by
 have h:=ZI1 (ZgM k) c (by have:=ZHu k;omega)
 have hC:=fun σ sq own=>ZFu k σ sq own
 unfold Zmj
 generalize ZgM k=L at *
 rw[Zi (by rfl) ZWP]
 have hc:=fun(σ:Za) sq t view hs=>ZlI (O:=E) (bf:=BY) (σ:=σ) (t:=t) (sq:=sq) (own:=0) (view:=view) (f:=155) (args:=[.lst false (L.map Zeh),.fn 157 [.ref t 0]]) (vs:=[.lst false (L.map Zeh),.fn 157 [.ref t 0]]) hs rfl rfl (by kernel_rfl) rfl rfl rfl (fun ρ h=>by simp only[Zh,Zo,h]) rfl rfl h
 simp -implicitDefEqProofs only[EQA,Zz,Xc,Xa,Xg,reduceCtorEq,↓reduceIte,ZDx,Zt3,ZKd,Zd,hC,hc]
theorem ZkK(k c:Int)(σ:Za)(sq own:Nat):Zj E BY σ sq 136 own true [.int .i64 k,.int .i64 c]=some (.bool (Zmj k c),σ,{}) :=
 Za2 (ZDW k c) (by kernel_rfl) (by simp -implicitDefEqProofs only[Zbu,Zai,eq_self,eq_self]) (by simp -implicitDefEqProofs only[Zz,Zai,eq_self,eq_self]) rfl (fun _=>rfl) _ _ _ _
end
section
abbrev RK(α:Type):=Except Int (α×Zc)
def ZaU(n:Nat)(l:Zc):RK Int:=if l.length<n then .error 129 else .ok (Zh9 (l.take n),l.drop n)
def ZaD(l:Zc):RK Zc:=if(Zaq l).2.2=0 then .ok ((Zaq l).1,l.drop (Zaq l).2.1)else .error 129
def ZdK(l:Zc):RK Zc:=if(ZaP l).2.2=0 then .ok ((ZaP l).1,l.drop (ZaP l).2.1)else .error 129
def ZbU(w:Int)(l:Zc):RK (List Zp):=if(Z9 w l).2.2=0 then .ok ((Z9 w l).1,l.drop (Z9 w l).2.1)else .error (Z9 w l).2.2
def idK(l:Zc):RK Int:=match ZaU 2 l with
 | .ok (n,r)=>if n=0 then .error 130 else .ok (n,r)
 | .error c=>.error c
def ZaY(k:Int)(l:Zc):RK Int:=match ZaU 1 l with
 | .ok (n,r)=>if Zmj k n=true then .ok (n,r)else .error 130
 | .error c=>.error c
theorem ZZ{v:AVal}(hv:ZS v=true):∀ {P:List AVal} (k:Nat),Zf P=true->Zf (P.set k v)=true
 | [],_,_=>rfl
 |x::P,0,h=>by
  simp only[Zf,Xk,WH]at h⊢
  exact⟨hv,h.2⟩
 |x::P,k+1,h=>by
  simp only[Zf,Xk,WQ]at h⊢
  exact⟨h.1,ZZ hv k h.2⟩
theorem Zcn(f:Bool)(xs:List AVal):ZS (.lst f xs)=true:=rfl
section
variable (P:List AVal)(hP:P.length=26)(hN:Zf P=true)
include hP
theorem ZaL(k k':Nat)(hk:k<26)(hk':k'=k+1)(L v:AVal):List.take k (P++[L])++[v]++List.drop k' (P++[L])=P.set k v++[L]:=by
 subst hk'
 rw[X6 (by omega),List.drop_append_of_le_length (by omega),<-XU]
 congr 1
 rw[List.set_eq_take_append_cons_drop,if_pos (by omega)]
 simp
theorem Zam(k:Nat)(hk:k<26)(L:AVal):(P++[L])[k]?=P[k]?:=Wi (by omega)
theorem Zic(k:Nat)(hk:k<26)(L v:AVal):(P.set k v++[L])[k]?=some v:=by
 rw[Wi (by simp;omega),X7 (by omega)]
include hN
section
variable (l:Zc)(hl:l.length<=140737488355328)(σ:Za)(t sq:Nat)(hs:σ[t]?=some (.var (P++[.lst false (l.map Zb)])))
include hl hs
theorem Zde{n:Nat}{m:Int}{a:Int}{r:Zc}(hm:((n:Nat):Int)=m)(h:ZaU n l=.ok (a,r)):Zj E BY σ sq 101 0 true [.ref t 0,.int .i64 m]=some (.int .i64 a,σ.set t (.var (P++[.lst false (r.map Zb)])),{ any:=true,upd:=[(t,P++[.lst false (r.map Zb)])] }):=by
 subst hm
 unfold ZaU at h
 split at h
 ·cases h
 ·injection h with h;injection h with h1 h2;subst h1 h2
  exact Zdn (rest:=[.int .i64 (n:Nat)]) (by kernel_rfl) rfl (ZG P hP hN _ _) (ZG P hP hN _ _) rfl rfl (ZEi P hP hN l n (by omega) hl) hs sq
theorem ZgI{n:Nat}{m:Int}{c:Int}(hm:((n:Nat):Int)=m)(hn:n<=9223372036854775807)(h:ZaU n l=.error c):Zj E BY σ sq 101 0 true [.ref t 0,.int .i64 m]=some (.pan (ZH c),σ.set t (.var (P++[.lst false (l.map Zb)])),{ any:=true,upd:=[(t,P++[.lst false (l.map Zb)])] }):=by
 subst hm
 unfold ZaU at h
 split at h
 ·injection h with h;subst h
  exact Zc1 (rest:=[.int .i64 (n:Nat)]) (by kernel_rfl) rfl (ZG P hP hN _ _) (ZG P hP hN _ _) rfl (ZDU P hP hN l n (by omega) hn) hs sq
 ·cases h
theorem ZeF{a r:Zc}(h:ZaD l=.ok (a,r)):Zj E BY σ sq 110 0 true [.ref t 0]=some (.str a,σ.set t (.var (P++[.lst false (r.map Zb)])),{ any:=true,upd:=[(t,P++[.lst false (r.map Zb)])] }):=by
 unfold ZaD at h
 split at h
 ·rename_i h0
  injection h with h;injection h with h1 h2;subst h1 h2
  exact Zdn (rest:=[]) (by kernel_rfl) rfl (ZG P hP hN _ _) (ZG P hP hN _ _) rfl rfl (ZUy P hP hN l hl h0) hs sq
 ·cases h
theorem ZhB{c:Int}(h:ZaD l=.error c):Zj E BY σ sq 110 0 true [.ref t 0]=some (.pan (ZH c),σ.set t (.var (P++[.lst false (l.map Zb)])),{ any:=true,upd:=[(t,P++[.lst false (l.map Zb)])] }):=by
 unfold ZaD at h
 split at h
 ·cases h
 ·rename_i h0
  injection h with h;subst h
  exact Zc1 (rest:=[]) (by kernel_rfl) rfl (ZG P hP hN _ _) (ZG P hP hN _ _) rfl (ZPt P hP hN l hl h0) hs sq
theorem ZvX{a r:Zc}(h:ZdK l=.ok (a,r)):Zj E BY σ sq 134 0 true [.ref t 0]=some (.lst false (a.map Zb),σ.set t (.var (P++[.lst false (r.map Zb)])),{ any:=true,upd:=[(t,P++[.lst false (r.map Zb)])] }):=by
 unfold ZdK at h
 split at h
 ·rename_i h0
  injection h with h;injection h with h1 h2;subst h1 h2
  exact Zdn (rest:=[]) (by kernel_rfl) rfl (ZG P hP hN _ _) (ZG P hP hN _ _) rfl rfl (ZFQ P hP hN l hl h0) hs sq
 ·cases h
theorem Zwm{c:Int}(h:ZdK l=.error c):Zj E BY σ sq 134 0 true [.ref t 0]=some (.pan (ZH c),σ.set t (.var (P++[.lst false (l.map Zb)])),{ any:=true,upd:=[(t,P++[.lst false (l.map Zb)])] }):=by
 unfold ZdK at h
 split at h
 ·cases h
 ·rename_i h0
  injection h with h;subst h
  exact Zc1 (rest:=[]) (by kernel_rfl) rfl (ZG P hP hN _ _) (ZG P hP hN _ _) rfl (ZFZ P hP hN l hl h0) hs sq
theorem ZeY{w:Int}{a:List Zp}{r:Zc}(hu:(Z9 w l).2.1<=l.length)(h:ZbU w l=.ok (a,r)):Zj E BY σ sq 103 0 true [.ref t 0,.int .i64 w]=some (.lst false (a.map Zg),σ.set t (.var (P++[.lst false (r.map Zb)])),{ any:=true,upd:=[(t,P++[.lst false (r.map Zb)])] }):=by
 unfold ZbU at h
 split at h
 ·rename_i h0
  injection h with h;injection h with h1 h2;subst h1 h2
  exact Zdn (rest:=[.int .i64 w]) (by kernel_rfl) rfl (ZG P hP hN _ _) (ZG P hP hN _ _) rfl rfl (ZVb P hP hN w l hl h0 hu) hs sq
 ·cases h
theorem Zgi{w c:Int}(h:ZbU w l=.error c):Zj E BY σ sq 103 0 true [.ref t 0,.int .i64 w]=some (.pan (ZH c),σ.set t (.var (P++[.lst false (l.map Zb)])),{ any:=true,upd:=[(t,P++[.lst false (l.map Zb)])] }):=by
 unfold ZbU at h
 split at h
 ·cases h
 ·rename_i h0
  injection h with h;subst h
  exact Zc1 (rest:=[.int .i64 w]) (by kernel_rfl) rfl (ZG P hP hN _ _) (ZG P hP hN _ _) rfl (ZMK P hP hN w l hl h0) hs sq
end
theorem ZIU(l:Zc)(hl:l.length<=140737488355328){n:Int}{r:Zc}(h:idK l=.ok (n,r)):E 105 [.ref 0 0] [.var (P++[.lst false (l.map Zb)])]=some (.tup [],[.var (P.set 4 (.int .i64 n)++[.lst false (r.map Zb)])]):=by
 unfold idK at h
 split at h
 case h_2=>cases h
 rename_i n' r' h2
 split at h
 ·cases h
 rename_i hn
 injection h with h;injection h with h3 h4;subst h3 h4
 have hG:=fun σ sq hs=>Zde P hP hN l hl σ 0 sq hs (m:=2) rfl h2
 have a1:=Zal P hP
 have a3:=ZaL P hP 4 5 (by omega) rfl
 have a4:=Zic P hP 4 (by omega)
 have m1:=Zbw
 have h0:(n' != 0)=true:=by simpa using hn
 rw[Zi (by rfl) ZqK]
 simp -implicitDefEqProofs only[EQA,Zz,Zv,Xe,Xc,Xf,Xa,reduceCtorEq,↓reduceIte,Zf,ZrG,ZkI,ZTh,Zd,hG,a1,a3,a4,m1,h0]
 exact Z7 rfl (ZaQ (ZZ rfl 4 hN) (by rfl))
theorem Zl2(l:Zc)(hl:l.length<=140737488355328){c:Int}(h:idK l=.error c):∃ cs,Zf cs=true/\E 105 [.ref 0 0] [.var (P++[.lst false (l.map Zb)])]=some (.pan (ZH c),[.var cs]):=by
 unfold idK at h
 split at h
 ·rename_i n' r' h2
  split at h
  case isFalse=>cases h
  rename_i hn
  injection h with h;subst h hn
  have hG:=fun σ sq hs=>Zde P hP hN l hl σ 0 sq hs (m:=2) rfl h2
  have a1:=Zal P hP
  have a3:=ZaL P hP 4 5 (by omega) rfl
  have a4:=Zic P hP 4 (by omega)
  have m1:=ZbR
  refine⟨P.set 4 (.int .i64 0)++[.lst false (r'.map Zb)],ZaQ (ZZ rfl 4 hN) (by rfl),?_⟩
  rw[Zi (by rfl) ZqK]
  simp -implicitDefEqProofs only[EQA,Zz,Xe,Xc,Xf,Xa,reduceCtorEq,↓reduceIte,ZrG,ZkI,Zd,hG,a1,a3,a4,m1,bne_self_eq_false]
  exact Z7 rfl (ZaQ (ZZ rfl 4 hN) (by rfl))
 ·rename_i c' h2
  injection h with h;subst h
  have hG:=fun σ sq hs=>ZgI P hP hN l hl σ 0 sq hs (m:=2) rfl (by decide) h2
  refine⟨P++[.lst false (l.map Zb)],ZaQ hN (by rfl),?_⟩
  rw[Zi (by rfl) ZqK]
  simp -implicitDefEqProofs only[EQA,Xc,reduceCtorEq,↓reduceIte,ZrG,ZkI,Zd,hG]
  exact Z7 rfl (ZaQ hN (by rfl))
theorem ZID(k:Int)(hk:P[0]?=some (.int .i64 k))(l:Zc)(hl:l.length<=140737488355328){n:Int}{r:Zc}(h:ZaY k l=.ok (n,r)):E 102 [.ref 0 0] [.var (P++[.lst false (l.map Zb)])]=some (.int .i64 n,[.var (P++[.lst false (r.map Zb)])]):=by
 unfold ZaY at h
 split at h
 case h_2=>cases h
 rename_i n' r' h2
 split at h
 case isFalse=>cases h
 rename_i hn
 injection h with h;injection h with h3 h4;subst h3 h4
 have hG:=fun σ sq hs=>Zde P hP hN l hl σ 0 sq hs (m:=1) rfl h2
 have a4:=fun L=>(Zam P hP 0 (by omega) L).trans hk
 have m1:=Zbw
 have hC:=fun σ sq own=>ZkK k n' σ sq own
 rw[hn]at hC
 rw[Zi (by rfl) ZgZ]
 simp -implicitDefEqProofs only[EQA,Xc,Xa,reduceCtorEq,↓reduceIte,Zg4,Ze1,ZvK,Zd,hG,hC,a4,m1]
 exact Z7 rfl (ZaQ hN (by rfl))
theorem ZxX(k:Int)(hk:P[0]?=some (.int .i64 k))(l:Zc)(hl:l.length<=140737488355328){c:Int}(h:ZaY k l=.error c):∃ cs,Zf cs=true/\E 102 [.ref 0 0] [.var (P++[.lst false (l.map Zb)])]=some (.pan (ZH c),[.var cs]):=by
 unfold ZaY at h
 split at h
 ·rename_i n' r' h2
  split at h
  case isTrue=>cases h
  rename_i hn
  injection h with h;subst h
  have hG:=fun σ sq hs=>Zde P hP hN l hl σ 0 sq hs (m:=1) rfl h2
  have a4:=fun L=>(Zam P hP 0 (by omega) L).trans hk
  have m1:=ZbR
  have hC:=fun σ sq own=>ZkK k n' σ sq own
  rw[WV _ |>.mp hn]at hC
  refine⟨P++[.lst false (r'.map Zb)],ZaQ hN (by rfl),?_⟩
  rw[Zi (by rfl) ZgZ]
  simp -implicitDefEqProofs only[EQA,Xc,Xa,reduceCtorEq,↓reduceIte,Zg4,Ze1,Zd,hG,hC,a4,m1]
  exact Z7 rfl (ZaQ hN (by rfl))
 ·rename_i c' h2
  injection h with h;subst h
  have hG:=fun σ sq hs=>ZgI P hP hN l hl σ 0 sq hs (m:=1) rfl (by decide) h2
  refine⟨P++[.lst false (l.map Zb)],ZaQ hN (by rfl),?_⟩
  rw[Zi (by rfl) ZgZ]
  simp -implicitDefEqProofs only[EQA,Xc,reduceCtorEq,↓reduceIte,Zg4,Ze1,Zd,hG]
  exact Z7 rfl (ZaQ hN (by rfl))
section
variable (l:Zc)(hl:l.length<=140737488355328)(σ:Za)(t sq:Nat)(hs:σ[t]?=some (.var (P++[.lst false (l.map Zb)])))
include hl hs
theorem ZgL{n:Int}{r:Zc}(h:idK l=.ok (n,r)):Zj E BY σ sq 105 0 true [.ref t 0]=some (.tup [],σ.set t (.var (P.set 4 (.int .i64 n)++[.lst false (r.map Zb)])),{ any:=true,upd:=[(t,P.set 4 (.int .i64 n)++[.lst false (r.map Zb)])] }) :=
 Zdn (rest:=[]) (by kernel_rfl) rfl (ZG P hP hN _ _) (ZaQ (ZZ rfl 4 hN) (by rfl)) rfl rfl (ZIU P hP hN l hl h) hs sq
theorem ZkY(k:Int)(hk:P[0]?=some (.int .i64 k)){n:Int}{r:Zc}(h:ZaY k l=.ok (n,r)):Zj E BY σ sq 102 0 true [.ref t 0]=some (.int .i64 n,σ.set t (.var (P++[.lst false (r.map Zb)])),{ any:=true,upd:=[(t,P++[.lst false (r.map Zb)])] }) :=
 Zdn (rest:=[]) (by kernel_rfl) rfl (ZG P hP hN _ _) (ZG P hP hN _ _) rfl rfl (ZID P hP hN k hk l hl h) hs sq
end
end
end
section
def ZfX:Option (List Zp)->AVal
 |none=>.lst true []
 |some l=>.lst false (l.map Zg)
def Zdl(k:Int)(l:Zc):RK (Int×Option (List Zp)) :=
 if l.length=0 then .ok ((0,none),l)else match ZaY k l with
 | .error c=>.error c
 | .ok (c,r)=>if r.length=0 then .ok ((c,none),r)else match ZbU k r with
  | .error c=>.error c
  | .ok (ps,r')=>.ok ((c,some ps),r')
theorem ZlZ{k n:Int}{l r:Zc}(h:ZaY k l=.ok (n,r)):r.length<=l.length:=by
 unfold ZaY ZaU at h
 split at h
 ·rename_i h1
  split at h1
  ·cases h1
  ·injection h1 with h1;injection h1 with _ h1
   split at h
   ·injection h with h;injection h with _ h;subst h h1;simp
   ·cases h
 ·cases h
theorem Zl1{P:List AVal}{k:Nat}{v:AVal}(h:P[k]?=some v):P.set k v=P:=by
 apply Wp
 intro j
 rw[Xx]
 split
 ·rename_i e;subst e
  have hk:k<P.length:=by
   rcases Wx k P.length with h' |h'
   ·exact h'
   ·rw[XQ h']at h;cases h
  rw[if_pos hk,h]
 ·rfl
section
variable (P:List AVal)(hP:P.length=26)(hN:Zf P=true)
include hP hN
theorem ZKZ(k:Int)(hk:P[0]?=some (.int .i64 k))(h7:P[7]?=some (.int .i64 0))(h9:P[9]?=some (.lst true []))(hu:∀ r:Zc,r.length<=140737488355328->(Z9 k r).2.1<=r.length)(l:Zc)(hl:l.length<=140737488355328){c:Int}{ps:Option (List Zp)}{r:Zc}(h:Zdl k l=.ok ((c,ps),r)) :
  E 106 [.ref 0 0] [.var (P++[.lst false (l.map Zb)])]=some (.tup [],[.var ((P.set 7 (.int .i64 c)).set 9 (ZfX ps)++[.lst false (r.map Zb)])]):=by
 have a1:=Zal P hP
 have a2:=ZaI P hP
 unfold Zdl at h
 split at h
 ·rename_i h0
  injection h with h;injection h with h1 h2;injection h1 with h1 h3;subst h1 h2 h3
  have hg:¬(l.length:Int)>0:=by omega
  rw[show ZfX none=.lst true []from rfl,Zl1 h7,Zl1 h9]
  rw[Zi (by rfl) ZkJ]
  simp -implicitDefEqProofs only[EQA,Zv,Xc,reduceCtorEq,↓reduceIte,Zf,ZkZ,Zh7,Zt8,Zd,a2,hg]
  exact Z7 rfl (ZG P hP hN _ _)
 ·rename_i h0
  have hg:(l.length:Int)>0:=by omega
  split at h
  ·cases h
  rename_i c' r' hc
  have hr':=ZlZ hc
  have hC:=fun σ sq hs=>ZkY P hP hN l hl σ 0 sq hs k hk hc
  have a3:=ZaL P hP 7 8 (by omega) rfl
  have hP7:(P.set 7 (.int .i64 c')).length=26:=by simp[hP]
  have hN7:Zf (P.set 7 (.int .i64 c'))=true:=ZZ rfl 7 hN
  have hk7:(P.set 7 (.int .i64 c'))[0]?=some (.int .i64 k):=by rw[Xn (by omega)];exact hk
  have h97:(P.set 7 (.int .i64 c'))[9]?=some (.lst true []):=by rw[Xn (by omega)];exact h9
  have b1:=Zal _ hP7
  have b2:=ZaI _ hP7
  have b3:=ZaL _ hP7 9 10 (by omega) rfl
  have b4:=fun L=>(Zam _ hP7 0 (by omega) L).trans hk7
  split at h
  ·rename_i h1
   injection h with h;injection h with h1 h2;injection h1 with h1 h3;subst h1 h2 h3
   have hg':¬(r'.length:Int)>0:=by omega
   rw[show ZfX none=.lst true []from rfl,Zl1 h97]
   rw[Zi (by rfl) ZkJ]
   simp -implicitDefEqProofs only[EQA,Zz,Zv,Xe,Xc,Xf,Xa,reduceCtorEq,↓reduceIte,Zf,ZkZ,Zh7,Zt8,Zd,a1,a2,a3,b2,hg,hg',hC]
   exact Z7 rfl (ZG _ hP7 hN7 _ _)
  ·rename_i h1
   have hg':(r'.length:Int)>0:=by omega
   split at h
   ·cases h
   rename_i ps' r2 hp
   injection h with h;injection h with h1 h2;injection h1 with h1 h3;subst h1 h2 h3
   have hG:=fun σ sq hs=>ZeY _ hP7 hN7 r' (by omega) σ 0 sq hs (hu r' (by omega)) hp
   rw[Zi (by rfl) ZkJ]
   simp -implicitDefEqProofs only[EQA,Zz,Zv,Xe,Xc,Xf,Xa,reduceCtorEq,↓reduceIte,Zf,ZkZ,Zh7,Zt8,Zd,a1,a2,a3,b1,b2,b3,b4,hg,hg',hC,hG,ZfX]
   exact Z7 rfl (ZaQ (ZZ (Zcn _ _) 9 hN7) (by rfl))
theorem ZzQ(k:Int)(hk:P[0]?=some (.int .i64 k))(hu:∀ r:Zc,r.length<=140737488355328->(Z9 k r).2.1<=r.length)(l:Zc)(hl:l.length<=140737488355328){e:Int}(h:Zdl k l=.error e) :
  ∃ cs,Zf cs=true/\E 106 [.ref 0 0] [.var (P++[.lst false (l.map Zb)])]=some (.pan (ZH e),[.var cs]):=by
 have a1:=Zal P hP
 have a2:=ZaI P hP
 unfold Zdl at h
 split at h
 ·cases h
 ·rename_i h0
  have hg:(l.length:Int)>0:=by omega
  split at h
  ·rename_i c hc
   injection h with h;subst h
   obtain⟨cs,hn,he⟩:=ZxX P hP hN k hk l hl hc
   have hC:=fun(σ:Za) sq (hs:σ[0]?=some (.var (P++[.lst false (l.map Zb)])))=>Zc1 (O:=E) (bf:=BY) (f:=102) (view:=true) (rest:=[]) (by kernel_rfl) rfl (ZG P hP hN _ _) hn rfl he hs sq
   refine⟨cs,hn,?_⟩
   rw[Zi (by rfl) ZkJ]
   simp -implicitDefEqProofs only[EQA,Xc,reduceCtorEq,↓reduceIte,ZkZ,Zh7,Zd,a2,hg,hC]
   exact Z7 rfl hn
  ·rename_i c' r' hc
   have hr':=ZlZ hc
   have hC:=fun σ sq hs=>ZkY P hP hN l hl σ 0 sq hs k hk hc
   have a3:=ZaL P hP 7 8 (by omega) rfl
   have hP7:(P.set 7 (.int .i64 c')).length=26:=by simp[hP]
   have hN7:Zf (P.set 7 (.int .i64 c'))=true:=ZZ rfl 7 hN
   have hk7:(P.set 7 (.int .i64 c'))[0]?=some (.int .i64 k):=by rw[Xn (by omega)];exact hk
   have b1:=Zal _ hP7
   have b2:=ZaI _ hP7
   have b4:=fun L=>(Zam _ hP7 0 (by omega) L).trans hk7
   split at h
   ·cases h
   ·rename_i h1
    have hg':(r'.length:Int)>0:=by omega
    split at h
    ·rename_i c hp
     injection h with h;subst h
     have hG:=fun σ sq hs=>Zgi _ hP7 hN7 r' (by omega) σ 0 sq hs hp
     refine⟨P.set 7 (.int .i64 c')++[.lst false (r'.map Zb)],ZG _ hP7 hN7 _ _,?_⟩
     rw[Zi (by rfl) ZkJ]
     simp -implicitDefEqProofs only[EQA,Zz,Xe,Xc,Xf,Xa,reduceCtorEq,↓reduceIte,ZkZ,Zh7,Zd,a1,a2,a3,b2,b4,hg,hg',hC,hG]
     exact Z7 rfl (ZG _ hP7 hN7 _ _)
    ·cases h
section
variable (l:Zc)(hl:l.length<=140737488355328)(σ:Za)(t sq:Nat)(hs:σ[t]?=some (.var (P++[.lst false (l.map Zb)])))
include hl hs
theorem Zv9(k:Int)(hk:P[0]?=some (.int .i64 k))(h7:P[7]?=some (.int .i64 0))(h9:P[9]?=some (.lst true []))(hu:∀ r:Zc,r.length<=140737488355328->(Z9 k r).2.1<=r.length){c:Int}{ps:Option (List Zp)}{r:Zc}(h:Zdl k l=.ok ((c,ps),r)):Zj E BY σ sq 106 0 true [.ref t 0]=some (.tup [],σ.set t (.var ((P.set 7 (.int .i64 c)).set 9 (ZfX ps)++[.lst false (r.map Zb)])),{ any:=true,upd:=[(t,(P.set 7 (.int .i64 c)).set 9 (ZfX ps)++[.lst false (r.map Zb)])] }) :=
 Zdn (rest:=[]) (by kernel_rfl) rfl (ZG P hP hN _ _) (ZaQ (ZZ (by cases ps<;>rfl) 9 (ZZ rfl 7 hN)) (by rfl)) rfl rfl (ZKZ P hP hN k hk h7 h9 hu l hl h) hs sq
end
end
theorem Zhp{n:Nat}{l r:Zc}{a:Int}(h:ZaU n l=.ok (a,r)):r.length<=l.length:=by
 unfold ZaU at h
 split at h
 ·cases h
 ·injection h with h;injection h with _ h;subst h;simp
theorem ZfT{l r:Zc}{a:Int}(h:idK l=.ok (a,r)):r.length<=l.length:=by
 unfold idK at h
 split at h
 ·rename_i h1
  split at h
  ·cases h
  ·injection h with h;injection h with _ h;subst h;exact Zhp h1
 ·cases h
theorem Zeb{l r a:Zc}(h:ZaD l=.ok (a,r)):r.length<=l.length:=by
 unfold ZaD at h
 split at h
 ·injection h with h;injection h with _ h;subst h;simp
 ·cases h
theorem ZwX{l r a:Zc}(h:ZdK l=.ok (a,r)):r.length<=l.length:=by
 unfold ZdK at h
 split at h
 ·injection h with h;injection h with _ h;subst h;simp
 ·cases h
theorem Zhr{w:Int}{l r:Zc}{a:List Zp}(h:ZbU w l=.ok (a,r)):r.length<=l.length:=by
 unfold ZbU at h
 split at h
 ·injection h with h;injection h with _ h;subst h;simp
 ·cases h
def ZdO(qos:Int)(l:Zc):Except Int (Zc×Int×List Zp×Zc):=match ZaD l with
 | .error c=>.error c
 | .ok (tp,r1)=>if qos>0 then(match idK r1 with
  | .error c=>.error c
  | .ok (n,r2)=>match ZbU 3 r2 with
   | .error c=>.error c
   | .ok (ps,r3)=>.ok (tp,n,ps,r3))
  else match ZbU 3 r1 with
   | .error c=>.error c
   | .ok (ps,r3)=>.ok (tp,0,ps,r3)
section
variable (P:List AVal)(hP:P.length=26)(hN:Zf P=true)
include hP hN
theorem ZRT(qos:Int)(h2:P[2]?=some (.int .i64 qos))(h4:P[4]?=some (.int .i64 0))(hu:∀ r:Zc,r.length<=140737488355328->(Z9 3 r).2.1<=r.length)(l:Zc)(hl:l.length<=140737488355328){tp:Zc}{n:Int}{ps:List Zp}{pay:Zc}(h:ZdO qos l=.ok (tp,n,ps,pay)) :
  E 104 [.ref 0 0] [.var (P++[.lst false (l.map Zb)])]=some (.tup [],[.var ((((P.set 5 (.str tp)).set 4 (.int .i64 n)).set 9 (.lst false (ps.map Zg))).set 6 (.lst false (pay.map Zb))++[.lst true []])]):=by
 have a1:=Zal P hP
 have a2:=ZaI P hP
 unfold ZdO at h
 split at h
 ·cases h
 rename_i tp' r1 ht
 have l1:=Zeb ht
 have hT:=fun σ sq hs=>ZeF P hP hN l hl σ 0 sq hs ht
 have a3:=fun L=>ZaL P hP 5 6 (by omega) rfl L (.str tp')
 have hP5:(P.set 5 (.str tp')).length=26:=by simp[hP]
 have hN5:Zf (P.set 5 (.str tp'))=true:=ZZ rfl 5 hN
 have h25:(P.set 5 (.str tp'))[2]?=some (.int .i64 qos):=by rw[Xn (by omega)];exact h2
 have h45:(P.set 5 (.str tp'))[4]?=some (.int .i64 0):=by rw[Xn (by omega)];exact h4
 generalize hQ:P.set 5 (.str tp')=Q at *
 have b1:=Zal _ hP5
 have b2:=ZaI _ hP5
 have b4:=fun L=>(Zam _ hP5 2 (by omega) L).trans h25
 split at h
 ·rename_i hq
  split at h
  ·cases h
  rename_i n' r2 hi
  have l2:=ZfT hi
  split at h
  ·cases h
  rename_i ps' r3 hp
  have l3:=Zhr hp
  injection h with h;injection h with e1 h;injection h with e2 h;injection h with e3 e4;subst e1 e2 e3 e4
  rw[hQ]
  have hI:=fun σ sq hs=>ZgL Q hP5 hN5 r1 (by omega) σ 0 sq hs hi
  have hP4:(Q.set 4 (.int .i64 n')).length=26:=by simp[hP5]
  have hN4:Zf (Q.set 4 (.int .i64 n'))=true:=ZZ rfl 4 hN5
  generalize Q.set 4 (.int .i64 n')=R at *
  have hG:=fun σ sq hs=>ZeY _ hP4 hN4 r2 (by omega) σ 0 sq hs (hu r2 (by omega)) hp
  have c1:=Zal _ hP4
  have c2:=ZaI _ hP4
  have c3:=fun L=>ZaL _ hP4 9 10 (by omega) rfl L (.lst false (ps'.map Zg))
  have hP9:(R.set 9 (.lst false (ps'.map Zg))).length=26:=by simp[hP4]
  have hN9:Zf (R.set 9 (.lst false (ps'.map Zg)))=true:=ZZ (Zcn _ _) 9 hN4
  generalize R.set 9 (.lst false (ps'.map Zg))=S at *
  have d1:=Zal _ hP9
  have d2:=ZaI _ hP9
  have d3:=fun L=>ZaL _ hP9 6 7 (by omega) rfl L (.lst false (r3.map Zb))
  have hP6:(S.set 6 (.lst false (r3.map Zb))).length=26:=by simp[hP9]
  have hN6:Zf (S.set 6 (.lst false (r3.map Zb)))=true:=ZZ (Zcn _ _) 6 hN9
  generalize S.set 6 (.lst false (r3.map Zb))=U at *
  have f1:=Zal _ hP6
  have f3:=Zfs _ hP6
  have f4:=ZgU _ hP6
  have hC:=fun σ sq own=>ZlW σ sq own r3 (by omega)
  rw[Zi (by rfl) Ziq]
  simp -implicitDefEqProofs only[EQA,Zz,Zv,Xe,Xc,Xf,Xa,reduceCtorEq,↓reduceIte,Zf,Zi8,ZgR,Zyi,Zd,a1,a3,b4,c1,c3,d1,d2,d3,f1,f3,f4,hq,hT,hI,hG,hC]
  exact Z7 rfl (ZaQ hN6 (by rfl))
 ·rename_i hq
  split at h
  ·cases h
  rename_i ps' r3 hp
  have l3:=Zhr hp
  injection h with h;injection h with e1 h;injection h with e2 h;injection h with e3 e4;subst e1 e2 e3 e4
  rw[hQ,Zl1 h45]
  have hG:=fun σ sq hs=>ZeY _ hP5 hN5 r1 (by omega) σ 0 sq hs (hu r1 (by omega)) hp
  have c3:=fun L=>ZaL _ hP5 9 10 (by omega) rfl L (.lst false (ps'.map Zg))
  have hP9:(Q.set 9 (.lst false (ps'.map Zg))).length=26:=by simp[hP5]
  have hN9:Zf (Q.set 9 (.lst false (ps'.map Zg)))=true:=ZZ (Zcn _ _) 9 hN5
  generalize Q.set 9 (.lst false (ps'.map Zg))=S at *
  have d1:=Zal _ hP9
  have d2:=ZaI _ hP9
  have d3:=fun L=>ZaL _ hP9 6 7 (by omega) rfl L (.lst false (r3.map Zb))
  have hP6:(S.set 6 (.lst false (r3.map Zb))).length=26:=by simp[hP9]
  have hN6:Zf (S.set 6 (.lst false (r3.map Zb)))=true:=ZZ (Zcn _ _) 6 hN9
  generalize S.set 6 (.lst false (r3.map Zb))=U at *
  have f1:=Zal _ hP6
  have f3:=Zfs _ hP6
  have f4:=ZgU _ hP6
  have hC:=fun σ sq own=>ZlW σ sq own r3 (by omega)
  rw[Zi (by rfl) Ziq]
  simp -implicitDefEqProofs only[EQA,Zz,Zv,Xe,Xc,Xf,Xa,reduceCtorEq,↓reduceIte,Zf,Zi8,ZgR,Zyi,Zd,a1,a3,b1,b4,c3,d1,d2,d3,f1,f3,f4,hq,hT,hG,hC]
  exact Z7 rfl (ZaQ hN6 (by rfl))
theorem ZDh(qos:Int)(h2:P[2]?=some (.int .i64 qos))(l:Zc)(hl:l.length<=140737488355328){c:Int}(h:ZdO qos l=.error c) :
  ∃ cs,Zf cs=true/\E 104 [.ref 0 0] [.var (P++[.lst false (l.map Zb)])]=some (.pan (ZH c),[.var cs]):=by
 have a1:=Zal P hP
 have a2:=ZaI P hP
 unfold ZdO at h
 split at h
 ·rename_i c' ht
  injection h with h;subst h
  have hT:=fun σ sq hs=>ZhB P hP hN l hl σ 0 sq hs ht
  refine⟨P++[.lst false (l.map Zb)],ZG P hP hN _ _,?_⟩
  rw[Zi (by rfl) Ziq]
  simp -implicitDefEqProofs only[EQA,Xc,reduceCtorEq,↓reduceIte,Zi8,ZgR,Zd,hT]
  exact Z7 rfl (ZG P hP hN _ _)
 rename_i tp' r1 ht
 have l1:=Zeb ht
 have hT:=fun σ sq hs=>ZeF P hP hN l hl σ 0 sq hs ht
 have a3:=fun L=>ZaL P hP 5 6 (by omega) rfl L (.str tp')
 have hP5:(P.set 5 (.str tp')).length=26:=by simp[hP]
 have hN5:Zf (P.set 5 (.str tp'))=true:=ZZ rfl 5 hN
 have h25:(P.set 5 (.str tp'))[2]?=some (.int .i64 qos):=by rw[Xn (by omega)];exact h2
 generalize hQ:P.set 5 (.str tp')=Q at *
 have b1:=Zal _ hP5
 have b2:=ZaI _ hP5
 have b4:=fun L=>(Zam _ hP5 2 (by omega) L).trans h25
 split at h
 ·rename_i hq
  split at h
  ·rename_i c' hi
   injection h with h;subst h
   obtain⟨cs,hn,he⟩:=Zl2 Q hP5 hN5 r1 (by omega) hi
   have hI:=fun(σ:Za) sq (hs:σ[0]?=some (.var (Q++[.lst false (r1.map Zb)])))=>Zc1 (O:=E) (bf:=BY) (f:=105) (view:=true) (rest:=[]) (by kernel_rfl) rfl (ZG Q hP5 hN5 _ _) hn rfl he hs sq
   refine⟨cs,hn,?_⟩
   rw[Zi (by rfl) Ziq]
   simp -implicitDefEqProofs only[EQA,Zz,Xe,Xc,Xf,Xa,reduceCtorEq,↓reduceIte,Zi8,ZgR,Zd,a1,a3,b4,hq,hT,hI]
   exact Z7 rfl hn
  rename_i n' r2 hi
  have l2:=ZfT hi
  split at h
  ·rename_i c' hp
   injection h with h;subst h
   have hI:=fun σ sq hs=>ZgL Q hP5 hN5 r1 (by omega) σ 0 sq hs hi
   have hP4:(Q.set 4 (.int .i64 n')).length=26:=by simp[hP5]
   have hN4:Zf (Q.set 4 (.int .i64 n'))=true:=ZZ rfl 4 hN5
   generalize Q.set 4 (.int .i64 n')=R at *
   have hG:=fun σ sq hs=>Zgi _ hP4 hN4 r2 (by omega) σ 0 sq hs hp
   refine⟨R++[.lst false (r2.map Zb)],ZG R hP4 hN4 _ _,?_⟩
   rw[Zi (by rfl) Ziq]
   simp -implicitDefEqProofs only[EQA,Zz,Xe,Xc,Xf,Xa,reduceCtorEq,↓reduceIte,Zi8,ZgR,Zd,a1,a3,b4,hq,hT,hI,hG]
   exact Z7 rfl (ZG R hP4 hN4 _ _)
  ·cases h
 ·rename_i hq
  split at h
  ·rename_i c' hp
   injection h with h;subst h
   have hG:=fun σ sq hs=>Zgi _ hP5 hN5 r1 (by omega) σ 0 sq hs hp
   refine⟨Q++[.lst false (r1.map Zb)],ZG Q hP5 hN5 _ _,?_⟩
   rw[Zi (by rfl) Ziq]
   simp -implicitDefEqProofs only[EQA,Zz,Xe,Xc,Xf,Xa,reduceCtorEq,↓reduceIte,Zi8,ZgR,Zd,a1,a3,b4,hq,hT,hG]
   exact Z7 rfl (ZG Q hP5 hN5 _ _)
  ·cases h
end
end
section
abbrev KSt:=List AVal×Zc
def Zm(P:List AVal)(l:Zc):Za:=[.var (P++[.lst false (l.map Zb)])]
def KRuns(c:Ze)(tm tm':Tms)(P:List AVal)(l:Zc):Except Int KSt->Prop
 | .ok (P',l')=>evC FC PR BY 1 c tm (Zm P l)=some (.normal,tm',Zm P' l')/\P'.length=26/\Zf P'=true/\l'.length<=l.length
 | .error e=>∃ tm2 cs,Zf cs=true/\evC FC PR BY 1 c tm (Zm P l)=some (.panic (ZH e),tm2,[.var cs])
theorem KRuns.seq{a b:Ze}{tm tm1 tm2:Tms}{P:List AVal}{l:Zc}{x:Except Int KSt}{f:KSt->Except Int KSt}(h:KRuns a tm tm1 P l x)(hb:∀ P' l',x=.ok (P',l')->P'.length=26->Zf P'=true->l'.length<=l.length->KRuns b tm1 tm2 P' l' (f (P',l'))):KRuns (.seq a b) tm tm2 P l (x.bind f):=by
 cases x with
 |error e =>
  obtain⟨t,cs,h1,h2⟩:=h
  exact⟨t,cs,h1,Zj5 (by simp) h2⟩
 |ok s =>
  obtain⟨P',l'⟩:=s
  obtain⟨h1,h2,h3,h4⟩:=h
  have hb:=hb P' l' rfl h2 h3 h4
  show KRuns (.seq a b) tm tm2 P l (f (P',l'))
  generalize f (P',l')=y at *
  cases y with
  |error e =>
   obtain⟨t,cs,g1,g2⟩:=hb
   exact⟨t,cs,g1,by rw[ZjB h1];exact g2⟩
  |ok s =>
   obtain⟨P2,l2⟩:=s
   obtain⟨g1,g2,g3,g4⟩:=hb
   exact⟨by rw[ZjB h1];exact g1,g2,g3,by omega⟩
def KRun(c:Ze)(tm:Tms)(P:List AVal)(l:Zc)(x:Except Int KSt):Prop:=∃ tm',KRuns c tm tm' P l x
theorem KRun.seqT{a b:Ze}{tm tm1:Tms}{P P1:List AVal}{l l1:Zc}{x:Except Int KSt}(h:evC FC PR BY 1 a tm (Zm P l)=some (.normal,tm1,Zm P1 l1))(hl:l1.length<=l.length)(hb:KRun b tm1 P1 l1 x):KRun (.seq a b) tm P l x:=by
 obtain⟨tm',hb⟩:=hb
 refine⟨tm',?_⟩
 cases x with
 |error e =>
  obtain⟨t,cs,g1,g2⟩:=hb
  exact⟨t,cs,g1,by rw[ZjB h];exact g2⟩
 |ok s =>
  obtain⟨P2,l2⟩:=s
  obtain⟨g1,g2,g3,g4⟩:=hb
  exact⟨by rw[ZjB h];exact g1,g2,g3,by omega⟩
theorem KRun.seqF{a b:Ze}{tm tm2:Tms}{P cs:List AVal}{l:Zc}{e:Int}(hn:Zf cs=true)(h:evC FC PR BY 1 a tm (Zm P l)=some (.panic (ZH e),tm2,[.var cs])):KRun (.seq a b) tm P l (.error e) :=
 ⟨[],tm2,cs,hn,Zj5 (by simp) h⟩
theorem KRuns.fnT{f:Nat}{fn:ZA}(hp:PR f=none)(hf:FC f=some fn)(hr:fn.res=[]){P P':List AVal}{l l':Zc}(h:KRun fn.body [(0,.ref 0 0)] P l (.ok (P',l'))):E f [.ref 0 0] (Zm P l)=some (.tup [],Zm P' l'):=by
 obtain⟨_,h1,h2,h3,h4⟩:=h
 rw[Zi hp hf]
 show Zap 1 fn (evC FC PR BY 1 fn.body [(0,.ref 0 0)] (Zm P l))=_
 rw[h1]
 simp only[Zap,hr,resA,resAll]
 exact Z7 rfl (ZaQ h3 (by rfl))
theorem KRuns.fnF{f:Nat}{fn:ZA}(hp:PR f=none)(hf:FC f=some fn){P:List AVal}{l:Zc}{e:Int}(h:KRun fn.body [(0,.ref 0 0)] P l (.error e)):∃ cs,Zf cs=true/\E f [.ref 0 0] (Zm P l)=some (.pan (ZH e),[.var cs]):=by
 obtain⟨_,t,cs,h1,h2⟩:=h
 refine⟨cs,h1,?_⟩
 rw[Zi hp hf]
 show Zap 1 fn (evC FC PR BY 1 fn.body [(0,.ref 0 0)] (Zm P l))=_
 rw[h2]
 simp only[Zap]
 exact Z7 rfl h1
end
section
def cn1:Ze:=(.region [⟨(some 4),(.mov (.t 0)),none,[]⟩,⟨(some 5),(.nilchk (.t 4)),none,[]⟩,⟨(some 6),(.faddr 0 (.t 5)),none,[]⟩,⟨(some 2),(.mov (.t 6)),none,[]⟩] none [2,0])
def cn2:Ze:=(.region [⟨(some 7),(.mov (.t 0)),none,[]⟩,⟨(some 8),(.call 110 0 true [(.t 7)]),none,[]⟩,⟨(some 9),(.bin .eql (.t 8) (.c (.str [77,81,84,84]))),none,[]⟩,⟨(some 10),(.call 99 0 true [(.t 9),(.c (.int .i64 132))]),none,[]⟩] none [2,0])
def cn3:Ze:=(.region [⟨(some 11),(.mov (.t 0)),none,[]⟩,⟨(some 12),(.call 101 0 true [(.t 11),(.c (.int .i64 1))]),none,[]⟩,⟨(some 13),(.bin .eql (.t 12) (.c (.int .i64 5))),none,[]⟩,⟨(some 14),(.call 99 0 true [(.t 13),(.c (.int .i64 132))]),none,[]⟩] none [2,0])
def cn4:Ze:=(.region [⟨(some 15),(.mov (.t 0)),none,[]⟩,⟨(some 16),(.call 101 0 true [(.t 15),(.c (.int .i64 1))]),none,[]⟩,⟨(some 3),(.mov (.t 16)),none,[]⟩] none [3,2,0])
def cn5:Ze:=(.region [⟨(some 17),(.mov (.t 2)),none,[]⟩,⟨(some 18),(.mov (.t 2)),none,[]⟩,⟨(some 19),(.mov (.t 3)),none,[]⟩,⟨(some 20),(.bin .and (.t 19) (.c (.int .i64 2))),none,[]⟩,⟨(some 21),(.bin .neq (.t 20) (.c (.int .i64 0))),none,[]⟩,⟨(some 22),(.mov (.t 3)),none,[]⟩,⟨(some 23),(.bin .and (.t 22) (.c (.int .i64 4))),none,[]⟩,⟨(some 24),(.bin .neq (.t 23) (.c (.int .i64 0))),none,[]⟩,⟨(some 25),(.nilchk (.t 17)),none,[]⟩,⟨(some 26),(.faddr 12 (.t 25)),none,[]⟩,⟨none,(.st 1 (.t 26) (.t 21)),none,[]⟩,⟨(some 27),(.nilchk (.t 18)),none,[]⟩,⟨(some 28),(.faddr 15 (.t 27)),none,[]⟩,⟨none,(.st 1 (.t 28) (.t 24)),none,[]⟩] none [3,2,0])
def cn6:Ze:=(.region [⟨(some 29),(.mov (.t 2)),none,[]⟩,⟨(some 30),(.mov (.t 2)),none,[]⟩,⟨(some 31),(.mov (.t 3)),none,[]⟩,⟨(some 32),(.bin .and (.t 31) (.c (.int .i64 64))),none,[]⟩,⟨(some 33),(.bin .neq (.t 32) (.c (.int .i64 0))),none,[]⟩,⟨(some 34),(.mov (.t 3)),none,[]⟩,⟨(some 35),(.bin .and (.t 34) (.c (.int .i64 128))),none,[]⟩,⟨(some 36),(.bin .neq (.t 35) (.c (.int .i64 0))),none,[]⟩,⟨(some 37),(.nilchk (.t 29)),none,[]⟩,⟨(some 38),(.faddr 23 (.t 37)),none,[]⟩,⟨none,(.st 1 (.t 38) (.t 33)),none,[]⟩,⟨(some 39),(.nilchk (.t 30)),none,[]⟩,⟨(some 40),(.faddr 21 (.t 39)),none,[]⟩,⟨none,(.st 1 (.t 40) (.t 36)),none,[]⟩] none [3,2,0])
def cn7:Ze:=(.region [⟨(some 41),(.mov (.t 2)),none,[]⟩,⟨(some 42),(.mov (.t 2)),none,[]⟩,⟨(some 43),(.mov (.t 3)),none,[]⟩,⟨(some 44),(.bin .quo (.t 43) (.c (.int .i64 8))),none,[]⟩,⟨(some 45),(.bin .and (.t 44) (.c (.int .i64 3))),none,[]⟩,⟨(some 46),(.mov (.t 3)),none,[]⟩,⟨(some 47),(.bin .and (.t 46) (.c (.int .i64 32))),none,[]⟩,⟨(some 48),(.bin .neq (.t 47) (.c (.int .i64 0))),none,[]⟩,⟨(some 49),(.nilchk (.t 41)),none,[]⟩,⟨(some 50),(.faddr 16 (.t 49)),none,[]⟩,⟨(some 51),(.faddr 2 (.t 50)),none,[]⟩,⟨none,(.st 1 (.t 51) (.t 45)),none,[]⟩,⟨(some 52),(.nilchk (.t 42)),none,[]⟩,⟨(some 53),(.faddr 16 (.t 52)),none,[]⟩,⟨(some 54),(.faddr 3 (.t 53)),none,[]⟩,⟨none,(.st 1 (.t 54) (.t 48)),none,[]⟩] none [3,2,0])
def cn8:Ze:=(.region [⟨(some 55),(.mov (.t 3)),none,[]⟩,⟨(some 56),(.bin .and (.t 55) (.c (.int .i64 1))),none,[]⟩,⟨(some 57),(.bin .eql (.t 56) (.c (.int .i64 0))),none,[]⟩,⟨(some 58),(.mov (.t 57)),none,[]⟩,⟨(some 59),(.mov (.t 2)),(some (58,true)),[]⟩,⟨(some 60),(.nilchk (.t 59)),(some (58,true)),[]⟩,⟨(some 61),(.faddr 16 (.t 60)),(some (58,true)),[]⟩,⟨(some 62),(.faddr 2 (.t 61)),(some (58,true)),[]⟩,⟨(some 63),(.ld none (.t 62)),(some (58,true)),[]⟩,⟨(some 64),(.bin .lss (.t 63) (.c (.int .i64 3))),(some (58,true)),[]⟩,⟨(some 65),(.pick (.t 58) (.t 64) (.c (.bool false))),none,[]⟩,⟨(some 66),(.mov (.t 65)),none,[]⟩,⟨(some 67),(.mov (.t 2)),(some (66,true)),[]⟩,⟨(some 68),(.nilchk (.t 67)),(some (66,true)),[]⟩,⟨(some 69),(.faddr 15 (.t 68)),(some (66,true)),[]⟩,⟨(some 70),(.ld none (.t 69)),(some (66,true)),[]⟩,⟨(some 71),(.mov (.t 70)),(some (66,true)),[]⟩,⟨(some 72),(.mov (.t 2)),(some (71,false)),[]⟩,⟨(some 73),(.nilchk (.t 72)),(some (71,false)),[]⟩,⟨(some 74),(.faddr 16 (.t 73)),(some (71,false)),[]⟩,⟨(some 75),(.faddr 2 (.t 74)),(some (71,false)),[]⟩,⟨(some 76),(.ld none (.t 75)),(some (71,false)),[]⟩,⟨(some 77),(.bin .eql (.t 76) (.c (.int .i64 0))),(some (71,false)),[]⟩,⟨(some 78),(.mov (.t 77)),(some (71,false)),[]⟩,⟨(some 79),(.mov (.t 2)),(some (78,true)),[]⟩,⟨(some 80),(.nilchk (.t 79)),(some (78,true)),[]⟩,⟨(some 81),(.faddr 16 (.t 80)),(some (78,true)),[]⟩,⟨(some 82),(.faddr 3 (.t 81)),(some (78,true)),[]⟩,⟨(some 83),(.ld none (.t 82)),(some (78,true)),[]⟩,⟨(some 84),(.un .not (.t 83)),(some (78,true)),[]⟩,⟨(some 85),(.pick (.t 78) (.t 84) (.c (.bool false))),(some (71,false)),[]⟩,⟨(some 86),(.pick (.t 71) (.c (.bool true)) (.t 85)),(some (66,true)),[]⟩,⟨(some 87),(.pick (.t 66) (.t 86) (.c (.bool false))),none,[]⟩,⟨(some 88),(.call 99 0 true [(.t 87),(.c (.int .i64 129))]),none,[]⟩] none [2,0])
def cn9:Ze:=(.region [⟨(some 89),(.mov (.t 2)),none,[]⟩,⟨(some 90),(.mov (.t 0)),none,[]⟩,⟨(some 91),(.call 101 0 true [(.t 90),(.c (.int .i64 2))]),none,[]⟩,⟨(some 92),(.nilchk (.t 89)),none,[]⟩,⟨(some 93),(.faddr 13 (.t 92)),none,[]⟩,⟨none,(.st 1 (.t 93) (.t 91)),none,[]⟩] none [2,0])
def Zie:Ze:=(.region [⟨(some 94),(.mov (.t 2)),none,[]⟩,⟨(some 95),(.mov (.t 0)),none,[]⟩,⟨(some 96),(.call 103 0 true [(.t 95),(.c (.int .i64 1))]),none,[]⟩,⟨(some 97),(.nilchk (.t 94)),none,[]⟩,⟨(some 98),(.faddr 9 (.t 97)),none,[]⟩,⟨none,(.st 1 (.t 98) (.t 96)),none,[]⟩] none [2,0])
def ZiU:Ze:=(.region [⟨(some 99),(.mov (.t 2)),none,[]⟩,⟨(some 100),(.mov (.t 0)),none,[]⟩,⟨(some 101),(.call 110 0 true [(.t 100)]),none,[]⟩,⟨(some 102),(.nilchk (.t 99)),none,[]⟩,⟨(some 103),(.faddr 14 (.t 102)),none,[]⟩,⟨none,(.st 1 (.t 103) (.t 101)),none,[]⟩] none [2,0])
def Zeu:Ze:=(.seq (.region [⟨(some 104),(.mov (.t 2)),none,[]⟩,⟨(some 105),(.nilchk (.t 104)),none,[]⟩,⟨(some 106),(.faddr 15 (.t 105)),none,[]⟩,⟨(some 107),(.ld none (.t 106)),none,[]⟩] none [107,2,0]) (.cond (.t 107) (.seq (.region [⟨(some 108),(.mov (.t 2)),none,[]⟩,⟨(some 109),(.mov (.t 0)),none,[]⟩,⟨(some 110),(.call 103 0 true [(.t 109),(.c (.int .i64 16))]),none,[]⟩,⟨(some 111),(.nilchk (.t 108)),none,[]⟩,⟨(some 112),(.faddr 16 (.t 111)),none,[]⟩,⟨(some 113),(.faddr 4 (.t 112)),none,[]⟩,⟨none,(.st 1 (.t 113) (.t 110)),none,[]⟩] none [2,0]) (.seq (.region [⟨(some 114),(.mov (.t 2)),none,[]⟩,⟨(some 115),(.mov (.t 0)),none,[]⟩,⟨(some 116),(.call 110 0 true [(.t 115)]),none,[]⟩,⟨(some 117),(.nilchk (.t 114)),none,[]⟩,⟨(some 118),(.faddr 16 (.t 117)),none,[]⟩,⟨(some 119),(.faddr 0 (.t 118)),none,[]⟩,⟨none,(.st 1 (.t 119) (.t 116)),none,[]⟩] none [2,0]) (.region [⟨(some 120),(.mov (.t 2)),none,[]⟩,⟨(some 121),(.mov (.t 0)),none,[]⟩,⟨(some 122),(.call 134 0 true [(.t 121)]),none,[]⟩,⟨(some 123),(.nilchk (.t 120)),none,[]⟩,⟨(some 124),(.faddr 16 (.t 123)),none,[]⟩,⟨(some 125),(.faddr 1 (.t 124)),none,[]⟩,⟨none,(.st 1 (.t 125) (.t 122)),none,[]⟩] none [2,0]))) .skip))
def Zfv:Ze:=(.seq (.region [⟨(some 126),(.mov (.t 2)),none,[]⟩,⟨(some 127),(.nilchk (.t 126)),none,[]⟩,⟨(some 128),(.faddr 21 (.t 127)),none,[]⟩,⟨(some 129),(.ld none (.t 128)),none,[]⟩] none [129,2,0]) (.cond (.t 129) (.region [⟨(some 130),(.mov (.t 2)),none,[]⟩,⟨(some 131),(.mov (.t 0)),none,[]⟩,⟨(some 132),(.call 110 0 true [(.t 131)]),none,[]⟩,⟨(some 133),(.nilchk (.t 130)),none,[]⟩,⟨(some 134),(.faddr 22 (.t 133)),none,[]⟩,⟨none,(.st 1 (.t 134) (.t 132)),none,[]⟩] none [2,0]) .skip))
def ZhY:Ze:=(.region [⟨(some 135),(.mov (.t 2)),none,[]⟩,⟨(some 136),(.nilchk (.t 135)),none,[]⟩,⟨(some 137),(.faddr 23 (.t 136)),none,[]⟩,⟨(some 138),(.ld none (.t 137)),none,[]⟩] none [138,2,0])
def ZeR:Ze:=(.cond (.t 138) (.region [⟨(some 139),(.mov (.t 2)),none,[]⟩,⟨(some 140),(.mov (.t 0)),none,[]⟩,⟨(some 141),(.call 134 0 true [(.t 140)]),none,[]⟩,⟨(some 142),(.nilchk (.t 139)),none,[]⟩,⟨(some 143),(.faddr 24 (.t 142)),none,[]⟩,⟨none,(.st 1 (.t 143) (.t 141)),none,[]⟩] none []) .skip)
theorem ZQV:Zpi=(.seq cn1 (.seq cn2 (.seq cn3 (.seq cn4 (.seq cn5 (.seq cn6 (.seq cn7 (.seq cn8 (.seq cn9 (.seq Zie (.seq ZiU (.seq Zeu (.seq Zfv (.seq ZhY ZeR)))))))))))))):=rfl
def t20:Tms:=[(2,.ref 0 0),(0,.ref 0 0)]
def Zdj(m:Int):Tms:=[(3,.int .i64 m),(2,.ref 0 0),(0,.ref 0 0)]
def ZD(a b:Int):Int:=IntKind.i64.wrap (XP IntKind.i64.bits a&&&XP IntKind.i64.bits b).toNat
def ZeW(m:Int):Int:=IntKind.i64.wrap (m.tdiv 8)
section
variable (P:List AVal)(hP:P.length=26)(hN:Zf P=true)(l:Zc)(hl:l.length<=140737488355328)
include hP hN hl
theorem ZOa:evC FC PR BY 1 cn1 [(0,.ref 0 0)] (Zm P l)=some (.normal,t20,Zm P l):=by
 unfold Zm t20
 simp -implicitDefEqProofs only[EQA,Xc,Xa,reduceCtorEq,↓reduceIte,cn1]
theorem ZP5{r:Zc}(h:ZaD l=.ok ([77,81,84,84],r)):evC FC PR BY 1 cn2 t20 (Zm P l)=some (.normal,t20,Zm P r):=by
 have hT:=fun σ sq hs=>ZeF P hP hN l hl σ 0 sq hs h
 have m1:=Zbw
 have e1:(([77,81,84,84]:List UInt8)==[77,81,84,84])=true:=by decide
 unfold Zm t20
 simp -implicitDefEqProofs only[EQA,Xc,Xa,Zbi,reduceCtorEq,↓reduceIte,cn2,hT,m1]
theorem ZBs{a r:Zc}(h:ZaD l=.ok (a,r))(hn:(a==[77,81,84,84])=false):evC FC PR BY 1 cn2 t20 (Zm P l)=some (.panic (ZH 132),[],Zm P r):=by
 have hT:=fun σ sq hs=>ZeF P hP hN l hl σ 0 sq hs h
 have m1:=ZbR
 unfold Zm t20
 simp -implicitDefEqProofs only[EQA,Xc,Zbi,reduceCtorEq,↓reduceIte,cn2,hT,m1,hn]
theorem ZNI{c:Int}(h:ZaD l=.error c):evC FC PR BY 1 cn2 t20 (Zm P l)=some (.panic (ZH c),[],Zm P l):=by
 have hT:=fun σ sq hs=>ZhB P hP hN l hl σ 0 sq hs h
 unfold Zm t20
 simp -implicitDefEqProofs only[EQA,Xc,reduceCtorEq,↓reduceIte,cn2,hT]
theorem ZLZ{r:Zc}(h:ZaU 1 l=.ok (5,r)):evC FC PR BY 1 cn3 t20 (Zm P l)=some (.normal,t20,Zm P r):=by
 have hT:=fun σ sq hs=>Zde P hP hN l hl σ 0 sq hs (m:=1) rfl h
 have m1:=Zbw
 have e1:((5:Int)==5)=true:=by decide
 unfold Zm t20
 simp -implicitDefEqProofs only[EQA,Xc,Xa,reduceCtorEq,↓reduceIte,cn3,hT,m1]
theorem ZQf{a:Int}{r:Zc}(h:ZaU 1 l=.ok (a,r))(hn:(a==5)=false):evC FC PR BY 1 cn3 t20 (Zm P l)=some (.panic (ZH 132),[],Zm P r):=by
 have hT:=fun σ sq hs=>Zde P hP hN l hl σ 0 sq hs (m:=1) rfl h
 have m1:=ZbR
 unfold Zm t20
 simp -implicitDefEqProofs only[EQA,Xc,reduceCtorEq,↓reduceIte,cn3,hT,m1,hn]
theorem ZVI{c:Int}(h:ZaU 1 l=.error c):evC FC PR BY 1 cn3 t20 (Zm P l)=some (.panic (ZH c),[],Zm P l):=by
 have hT:=fun σ sq hs=>ZgI P hP hN l hl σ 0 sq hs (m:=1) rfl (by decide) h
 unfold Zm t20
 simp -implicitDefEqProofs only[EQA,Xc,reduceCtorEq,↓reduceIte,cn3,hT]
theorem ZOe{m:Int}{r:Zc}(h:ZaU 1 l=.ok (m,r)):evC FC PR BY 1 cn4 t20 (Zm P l)=some (.normal,Zdj m,Zm P r):=by
 have hT:=fun σ sq hs=>Zde P hP hN l hl σ 0 sq hs (m:=1) rfl h
 unfold Zm t20 Zdj
 simp -implicitDefEqProofs only[EQA,Xc,Xa,reduceCtorEq,↓reduceIte,cn4,hT]
theorem ZWp{c:Int}(h:ZaU 1 l=.error c):evC FC PR BY 1 cn4 t20 (Zm P l)=some (.panic (ZH c),[],Zm P l):=by
 have hT:=fun σ sq hs=>ZgI P hP hN l hl σ 0 sq hs (m:=1) rfl (by decide) h
 unfold Zm t20
 simp -implicitDefEqProofs only[EQA,Xc,reduceCtorEq,↓reduceIte,cn4,hT]
theorem ZDt(m:Int):evC FC PR BY 1 cn5 (Zdj m) (Zm P l)=some (.normal,Zdj m,Zm ((P.set 12 (.bool (ZD m 2 != 0))).set 15 (.bool (ZD m 4 != 0))) l):=by
 have a1:=Zal P hP
 have a3:=fun L=>ZaL P hP 12 13 (by omega) rfl L (.bool (ZD m 2 != 0))
 have hP1:(P.set 12 (.bool (ZD m 2 != 0))).length=26:=by simp[hP]
 have b1:=Zal _ hP1
 have b3:=fun L=>ZaL _ hP1 15 16 (by omega) rfl L (.bool (ZD m 4 != 0))
 unfold Zm Zdj
 unfold ZD at *
 simp -implicitDefEqProofs only[EQA,Zz,Xe,Xc,Xf,Xa,reduceCtorEq,↓reduceIte,cn5,a1,a3,b1,b3]
theorem ZVJ(m:Int):evC FC PR BY 1 cn6 (Zdj m) (Zm P l)=some (.normal,Zdj m,Zm ((P.set 23 (.bool (ZD m 64 != 0))).set 21 (.bool (ZD m 128 != 0))) l):=by
 have a1:=Zal P hP
 have a3:=fun L=>ZaL P hP 23 24 (by omega) rfl L (.bool (ZD m 64 != 0))
 have hP1:(P.set 23 (.bool (ZD m 64 != 0))).length=26:=by simp[hP]
 have b1:=Zal _ hP1
 have b3:=fun L=>ZaL _ hP1 21 22 (by omega) rfl L (.bool (ZD m 128 != 0))
 unfold Zm Zdj
 unfold ZD at *
 simp -implicitDefEqProofs only[EQA,Zz,Xe,Xc,Xf,Xa,reduceCtorEq,↓reduceIte,cn6,a1,a3,b1,b3]
theorem ZWC(m:Int):evC FC PR BY 1 cn7 (Zdj m) (Zm P l)=some (.normal,Zdj m,Zm ((P.set 18 (.int .i64 (ZD (ZeW m) 3))).set 19 (.bool (ZD m 32 != 0))) l):=by
 have a1:=Zal P hP
 have a3:=fun L=>ZaL P hP 18 19 (by omega) rfl L (.int .i64 (ZD (ZeW m) 3))
 have hP1:(P.set 18 (.int .i64 (ZD (ZeW m) 3))).length=26:=by simp[hP]
 have b1:=Zal _ hP1
 have b3:=fun L=>ZaL _ hP1 19 20 (by omega) rfl L (.bool (ZD m 32 != 0))
 have z:¬(8:Int)=0:=by decide
 unfold Zm Zdj
 unfold ZD ZeW at *
 simp -implicitDefEqProofs only[EQA,Zz,Xe,Xc,Xf,Xa,reduceCtorEq,↓reduceIte,cn7,a1,a3,b1,b3,z]
theorem ZJS{n:Int}{r:Zc}(h:ZaU 2 l=.ok (n,r)):evC FC PR BY 1 cn9 t20 (Zm P l)=some (.normal,t20,Zm (P.set 13 (.int .i64 n)) r):=by
 have hT:=fun σ sq hs=>Zde P hP hN l hl σ 0 sq hs (m:=2) rfl h
 have a1:=Zal P hP
 have a3:=ZaL P hP 13 14 (by omega) rfl
 unfold Zm t20
 simp -implicitDefEqProofs only[EQA,Zz,Xe,Xc,Xf,Xa,reduceCtorEq,↓reduceIte,cn9,hT,a1,a3]
theorem ZNW{c:Int}(h:ZaU 2 l=.error c):evC FC PR BY 1 cn9 t20 (Zm P l)=some (.panic (ZH c),[],Zm P l):=by
 have hT:=fun σ sq hs=>ZgI P hP hN l hl σ 0 sq hs (m:=2) rfl (by decide) h
 unfold Zm t20
 simp -implicitDefEqProofs only[EQA,Xc,reduceCtorEq,↓reduceIte,cn9,hT]
theorem ZTu(hu:(Z9 1 l).2.1<=l.length){a:List Zp}{r:Zc}(h:ZbU 1 l=.ok (a,r)):evC FC PR BY 1 Zie t20 (Zm P l)=some (.normal,t20,Zm (P.set 9 (.lst false (a.map Zg))) r):=by
 have hT:=fun σ sq hs=>ZeY P hP hN l hl σ 0 sq hs hu h
 have a1:=Zal P hP
 have a3:=ZaL P hP 9 10 (by omega) rfl
 unfold Zm t20
 simp -implicitDefEqProofs only[EQA,Zz,Xe,Xc,Xf,Xa,reduceCtorEq,↓reduceIte,Zie,hT,a1,a3]
theorem ZUe{c:Int}(h:ZbU 1 l=.error c):evC FC PR BY 1 Zie t20 (Zm P l)=some (.panic (ZH c),[],Zm P l):=by
 have hT:=fun σ sq hs=>Zgi P hP hN l hl σ 0 sq hs h
 unfold Zm t20
 simp -implicitDefEqProofs only[EQA,Xc,reduceCtorEq,↓reduceIte,Zie,hT]
theorem ZEN{a r:Zc}(h:ZaD l=.ok (a,r)):evC FC PR BY 1 ZiU t20 (Zm P l)=some (.normal,t20,Zm (P.set 14 (.str a)) r):=by
 have hT:=fun σ sq hs=>ZeF P hP hN l hl σ 0 sq hs h
 have a1:=Zal P hP
 have a3:=ZaL P hP 14 15 (by omega) rfl
 unfold Zm t20
 simp -implicitDefEqProofs only[EQA,Zz,Xe,Xc,Xf,Xa,reduceCtorEq,↓reduceIte,ZiU,hT,a1,a3]
theorem ZEl{c:Int}(h:ZaD l=.error c):evC FC PR BY 1 ZiU t20 (Zm P l)=some (.panic (ZH c),[],Zm P l):=by
 have hT:=fun σ sq hs=>ZhB P hP hN l hl σ 0 sq hs h
 unfold Zm t20
 simp -implicitDefEqProofs only[EQA,Xc,reduceCtorEq,↓reduceIte,ZiU,hT]
end
def Zjo(m q:Int)(hw rt:Bool):Bool:=(ZD m 1==0)&&decide (q<3)&&(hw ||((q==0) && !rt))
section
variable (P:List AVal)(hP:P.length=26)(hN:Zf P=true)(l:Zc)(hl:l.length<=140737488355328)
variable (m q:Int)(hw rt:Bool)(h15:P[15]?=some (.bool hw))(h18:P[18]?=some (.int .i64 q))(h19:P[19]?=some (.bool rt))
include hP hN hl h15 h18 h19
theorem ZXc(h:Zjo m q hw rt=true):evC FC PR BY 1 cn8 (Zdj m) (Zm P l)=some (.normal,t20,Zm P l):=by
 have a4:=fun L=>(Zam P hP 15 (by omega) L).trans h15
 have a5:=fun L=>(Zam P hP 18 (by omega) L).trans h18
 have a6:=fun L=>(Zam P hP 19 (by omega) L).trans h19
 have m1:=Zbw
 unfold Zjo ZD at h
 simp only[Xk,decide_eq_true_eq,Bool.or_eq_true]at h
 obtain⟨⟨e1,e2⟩,e3⟩:=h
 unfold Zm Zdj t20
 cases hw
 ·simp only[Xj,false_or]at e3
  obtain⟨e3,e4⟩:=e3
  cases rt
  ·simp -implicitDefEqProofs only[EQA,Xe,Xc,Xa,unA,Zw,unG,reduceCtorEq,↓reduceIte,cn8,a4,a5,a6,m1,e1,e2,e3]
  ·cases e4
 ·simp -implicitDefEqProofs only[EQA,Xe,Xc,Xa,Zw,Zad,unG,reduceCtorEq,↓reduceIte,cn8,a4,a5,m1,e1,e2]
theorem ZEC(h:Zjo m q hw rt=false):evC FC PR BY 1 cn8 (Zdj m) (Zm P l)=some (.panic (ZH 129),[],Zm P l):=by
 have a4:=fun L=>(Zam P hP 15 (by omega) L).trans h15
 have a5:=fun L=>(Zam P hP 18 (by omega) L).trans h18
 have a6:=fun L=>(Zam P hP 19 (by omega) L).trans h19
 have m1:=ZbR
 unfold Zjo ZD at h
 unfold Zm Zdj
 by_cases e1:(IntKind.i64.wrap (XP IntKind.i64.bits m&&&XP IntKind.i64.bits 1).toNat==0)=true
 ·rw[e1]at h
  by_cases e2:q<3
  ·cases hw
   ·by_cases e3:(q==0)=true
    ·cases rt
     ·simp[e2,e3]at h
     ·simp -implicitDefEqProofs only[EQA,Xe,Xc,Xa,unA,Zw,unG,reduceCtorEq,↓reduceIte,cn8,a4,a5,a6,m1,e1,e2,e3]
    ·have e3:=WV _ |>.mp e3
     simp -implicitDefEqProofs only[EQA,Xe,Xc,Xa,Zw,Zad,unG,reduceCtorEq,↓reduceIte,cn8,a4,a5,m1,e1,e2,e3]
   ·simp[e2]at h
  ·simp -implicitDefEqProofs only[EQA,Xe,Xc,Xa,Zw,Zad,unG,reduceCtorEq,↓reduceIte,cn8,a5,m1,e1,e2]
 ·have e1:=WV _ |>.mp e1
  simp -implicitDefEqProofs only[EQA,Xc,Xa,Zw,Zad,reduceCtorEq,↓reduceIte,cn8,m1,e1]
end
def ZdR(n:Nat):Tms:=[(n,.bool false),(2,.ref 0 0),(0,.ref 0 0)]
def ZiK(P:List AVal)(ps:List Zp)(tp d:Zc):List AVal:=((P.set 20 (.lst false (ps.map Zg))).set 16 (.str tp)).set 17 (.lst false (d.map Zb))
def ZeQ(l:Zc):Except Int (List Zp×Zc×Zc×Zc):=match ZbU 16 l with
 | .error c=>.error c
 | .ok (ps,r1)=>match ZaD r1 with
  | .error c=>.error c
  | .ok (tp,r2)=>match ZdK r2 with
   | .error c=>.error c
   | .ok (d,r3)=>.ok (ps,tp,d,r3)
section
variable (P:List AVal)(hP:P.length=26)(hN:Zf P=true)(l:Zc)(hl:l.length<=140737488355328)
include hP hN hl
theorem ZNA(h15:P[15]?=some (.bool false)):evC FC PR BY 1 Zeu t20 (Zm P l)=some (.normal,ZdR 107,Zm P l):=by
 have a4:=fun L=>(Zam P hP 15 (by omega) L).trans h15
 unfold Zm t20 ZdR
 simp -implicitDefEqProofs only[EQA,Xc,Xa,reduceCtorEq,↓reduceIte,Zeu,a4]
theorem ZOP(h15:P[15]?=some (.bool true))(hu:(Z9 16 l).2.1<=l.length){ps:List Zp}{tp d r:Zc}(h:ZeQ l=.ok (ps,tp,d,r)):evC FC PR BY 1 Zeu t20 (Zm P l)=some (.normal,t20,Zm (ZiK P ps tp d) r):=by
 have a1:=Zal P hP
 have a4:=fun L=>(Zam P hP 15 (by omega) L).trans h15
 unfold ZeQ at h
 split at h
 ·cases h
 rename_i ps' r1 hp
 split at h
 ·cases h
 rename_i tp' r2 ht
 split at h
 ·cases h
 rename_i d' r3 hd
 have l1:=Zhr hp
 have l2:=Zeb ht
 injection h with h;injection h with e1 h;injection h with e2 h;injection h with e3 e4;subst e1 e2 e3 e4
 have hG:=fun σ sq hs=>ZeY P hP hN l hl σ 0 sq hs hu hp
 have a3:=fun L=>ZaL P hP 20 21 (by omega) rfl L (.lst false (ps'.map Zg))
 unfold ZiK
 have hP1:(P.set 20 (.lst false (ps'.map Zg))).length=26:=by simp[hP]
 have hN1:Zf (P.set 20 (.lst false (ps'.map Zg)))=true:=ZZ (Zcn _ _) 20 hN
 generalize P.set 20 (.lst false (ps'.map Zg))=Q at *
 have hT:=fun σ sq hs=>ZeF Q hP1 hN1 r1 (by omega) σ 0 sq hs ht
 have b1:=Zal _ hP1
 have b3:=fun L=>ZaL _ hP1 16 17 (by omega) rfl L (.str tp')
 have hP2:(Q.set 16 (.str tp')).length=26:=by simp[hP1]
 have hN2:Zf (Q.set 16 (.str tp'))=true:=ZZ rfl 16 hN1
 generalize Q.set 16 (.str tp')=R at *
 have hD:=fun σ sq hs=>ZvX R hP2 hN2 r2 (by omega) σ 0 sq hs hd
 have c1:=Zal _ hP2
 have c3:=ZaL _ hP2 17 18 (by omega) rfl
 unfold Zm t20
 simp -implicitDefEqProofs only[EQA,Zz,Xe,Xc,Xf,Xa,reduceCtorEq,↓reduceIte,Zeu,a1,a3,a4,b1,b3,c1,c3,hG,hT,hD]
theorem ZIt(h15:P[15]?=some (.bool true))(hu:(Z9 16 l).2.1<=l.length){c:Int}(h:ZeQ l=.error c):∃ cs,Zf cs=true/\evC FC PR BY 1 Zeu t20 (Zm P l)=some (.panic (ZH c),[],[.var cs]):=by
 have a1:=Zal P hP
 have a4:=fun L=>(Zam P hP 15 (by omega) L).trans h15
 unfold ZeQ at h
 split at h
 ·rename_i c' hp
  injection h with h;subst h
  have hG:=fun σ sq hs=>Zgi P hP hN l hl σ 0 sq hs hp
  refine⟨P++[.lst false (l.map Zb)],ZG P hP hN _ _,?_⟩
  unfold Zm t20
  simp -implicitDefEqProofs only[EQA,Xc,Xa,reduceCtorEq,↓reduceIte,Zeu,a4,hG]
 rename_i ps' r1 hp
 have l1:=Zhr hp
 have hG:=fun σ sq hs=>ZeY P hP hN l hl σ 0 sq hs hu hp
 have a3:=fun L=>ZaL P hP 20 21 (by omega) rfl L (.lst false (ps'.map Zg))
 have hP1:(P.set 20 (.lst false (ps'.map Zg))).length=26:=by simp[hP]
 have hN1:Zf (P.set 20 (.lst false (ps'.map Zg)))=true:=ZZ (Zcn _ _) 20 hN
 generalize P.set 20 (.lst false (ps'.map Zg))=Q at *
 have b1:=Zal _ hP1
 split at h
 ·rename_i c' ht
  injection h with h;subst h
  have hT:=fun σ sq hs=>ZhB Q hP1 hN1 r1 (by omega) σ 0 sq hs ht
  refine⟨Q++[.lst false (r1.map Zb)],ZG Q hP1 hN1 _ _,?_⟩
  unfold Zm t20
  simp -implicitDefEqProofs only[EQA,Zz,Xe,Xc,Xf,Xa,reduceCtorEq,↓reduceIte,Zeu,a1,a3,a4,hG,hT]
 rename_i tp' r2 ht
 have l2:=Zeb ht
 have hT:=fun σ sq hs=>ZeF Q hP1 hN1 r1 (by omega) σ 0 sq hs ht
 have b3:=fun L=>ZaL _ hP1 16 17 (by omega) rfl L (.str tp')
 have hP2:(Q.set 16 (.str tp')).length=26:=by simp[hP1]
 have hN2:Zf (Q.set 16 (.str tp'))=true:=ZZ rfl 16 hN1
 generalize Q.set 16 (.str tp')=R at *
 split at h
 ·rename_i c' hd
  injection h with h;subst h
  have hD:=fun σ sq hs=>Zwm R hP2 hN2 r2 (by omega) σ 0 sq hs hd
  refine⟨R++[.lst false (r2.map Zb)],ZG R hP2 hN2 _ _,?_⟩
  unfold Zm t20
  simp -implicitDefEqProofs only[EQA,Zz,Xe,Xc,Xf,Xa,reduceCtorEq,↓reduceIte,Zeu,a1,a3,a4,b1,b3,hG,hT,hD]
 ·cases h
theorem ZTb{tm:Tms}(ht:tm=t20\/tm=ZdR 107)(h21:P[21]?=some (.bool false)):evC FC PR BY 1 Zfv tm (Zm P l)=some (.normal,ZdR 129,Zm P l):=by
 have a4:=fun L=>(Zam P hP 21 (by omega) L).trans h21
 rcases ht with rfl |rfl<;>unfold Zm ZdR<;>try unfold t20
 all_goals simp -implicitDefEqProofs only[EQA,Xc,Xa,reduceCtorEq,↓reduceIte,Zfv,a4]
theorem ZFk{tm:Tms}(htm:tm=t20\/tm=ZdR 107)(h21:P[21]?=some (.bool true)){a r:Zc}(h:ZaD l=.ok (a,r)):evC FC PR BY 1 Zfv tm (Zm P l)=some (.normal,t20,Zm (P.set 22 (.str a)) r):=by
 have a1:=Zal P hP
 have a4:=fun L=>(Zam P hP 21 (by omega) L).trans h21
 have hT:=fun σ sq hs=>ZeF P hP hN l hl σ 0 sq hs h
 have a3:=ZaL P hP 22 23 (by omega) rfl
 rcases htm with rfl |rfl<;>unfold Zm t20<;>try unfold ZdR
 all_goals simp -implicitDefEqProofs only[EQA,Zz,Xe,Xc,Xf,Xa,reduceCtorEq,↓reduceIte,Zfv,a1,a3,a4,hT]
theorem ZEs{tm:Tms}(htm:tm=t20\/tm=ZdR 107)(h21:P[21]?=some (.bool true)){c:Int}(h:ZaD l=.error c):evC FC PR BY 1 Zfv tm (Zm P l)=some (.panic (ZH c),[],Zm P l):=by
 have a4:=fun L=>(Zam P hP 21 (by omega) L).trans h21
 have hT:=fun σ sq hs=>ZhB P hP hN l hl σ 0 sq hs h
 rcases htm with rfl |rfl<;>unfold Zm<;>first |unfold ZdR |unfold t20
 all_goals simp -implicitDefEqProofs only[EQA,Xc,Xa,reduceCtorEq,↓reduceIte,Zfv,a4,hT]
theorem ZFD{tm:Tms}{b:Bool}(htm:tm=t20\/tm=ZdR 129)(h23:P[23]?=some (.bool b)):evC FC PR BY 1 ZhY tm (Zm P l)=some (.normal,[(138,.bool b),(2,.ref 0 0),(0,.ref 0 0)],Zm P l):=by
 have a4:=fun L=>(Zam P hP 23 (by omega) L).trans h23
 rcases htm with rfl |rfl<;>unfold Zm<;>first |unfold ZdR |unfold t20
 all_goals simp -implicitDefEqProofs only[EQA,Xc,Xa,reduceCtorEq,↓reduceIte,ZhY,a4]
theorem ZNS:KRun ZeR [(138,.bool false),(2,.ref 0 0),(0,.ref 0 0)] P l (.ok (P,l)):=by
 refine⟨[(138,.bool false),(2,.ref 0 0),(0,.ref 0 0)],?_,hP,hN,XF _⟩
 unfold Zm
 simp -implicitDefEqProofs only[Zv6,eq_self,Opd.ev,tget,Xj,↓reduceIte,ZeR]
theorem ZHy{a r:Zc}(h:ZdK l=.ok (a,r)):KRun ZeR [(138,.bool true),(2,.ref 0 0),(0,.ref 0 0)] P l (.ok (P.set 24 (.lst false (a.map Zb)),r)):=by
 have a1:=Zal P hP
 have hT:=fun σ sq hs=>ZvX P hP hN l hl σ 0 sq hs h
 have a3:=ZaL P hP 24 25 (by omega) rfl
 refine⟨[],?_,by simp[hP],ZZ (Zcn _ _) 24 hN,ZwX h⟩
 unfold Zm
 simp -implicitDefEqProofs only[EQA,Zz,Xe,Xc,Xf,Xa,reduceCtorEq,↓reduceIte,ZeR,a1,a3,hT]
theorem ZTx{c:Int}(h:ZdK l=.error c):KRun ZeR [(138,.bool true),(2,.ref 0 0),(0,.ref 0 0)] P l (.error c):=by
 have hT:=fun σ sq hs=>Zwm P hP hN l hl σ 0 sq hs h
 refine⟨[],[],P++[.lst false (l.map Zb)],ZG P hP hN _ _,?_⟩
 unfold Zm
 simp -implicitDefEqProofs only[EQA,Xc,Xa,reduceCtorEq,↓reduceIte,ZeR,hT]
end
def ZbT(P:List AVal)(m:Int):List AVal:=((((((P.set 12 (.bool (ZD m 2 != 0))).set 15 (.bool (ZD m 4 != 0))).set 23 (.bool (ZD m 64 != 0))).set 21 (.bool (ZD m 128 != 0))).set 18 (.int .i64 (ZD (ZeW m) 3))).set 19 (.bool (ZD m 32 != 0)))
def Zkm(P:List AVal)(k:Int)(ps:List Zp)(cl:Zc):List AVal:=((P.set 13 (.int .i64 k)).set 9 (.lst false (ps.map Zg))).set 14 (.str cl)
def Zjs(b:Bool)(s:KSt):Except Int KSt:=if b=true then(match ZdK s.2 with
 | .error c=>.error c
 | .ok (d,r)=>.ok (s.1.set 24 (.lst false (d.map Zb)),r))else .ok s
def Zjk(b:Bool)(s:KSt):Except Int KSt:=if b=true then(match ZaD s.2 with
 | .error c=>.error c
 | .ok (d,r)=>.ok (s.1.set 22 (.str d),r))else .ok s
def Zj3(b:Bool)(s:KSt):Except Int KSt:=if b=true then(match ZeQ s.2 with
 | .error c=>.error c
 | .ok (ps,tp,d,r)=>.ok (ZiK s.1 ps tp d,r))else .ok s
def ZjJ(m:Int)(s:KSt):Except Int KSt:=match Zj3 (ZD m 4 != 0) s with
 | .error c=>.error c
 | .ok s=>match Zjk (ZD m 128 != 0) s with
  | .error c=>.error c
  | .ok s=>Zjs (ZD m 64 != 0) s
def ZkE(P:List AVal)(m:Int)(l:Zc):Except Int KSt:=match ZaU 2 l with
 | .error c=>.error c
 | .ok (k,r4)=>match ZbU 1 r4 with
  | .error c=>.error c
  | .ok (ps,r5)=>match ZaD r5 with
   | .error c=>.error c
   | .ok (cl,r6)=>ZjJ m (Zkm (ZbT P m) k ps cl,r6)
def ZjE(P:List AVal)(l:Zc):Except Int KSt:=match ZaD l with
 | .error c=>.error c
 | .ok (s,r1)=>if(s==[77,81,84,84])=true then(match ZaU 1 r1 with
  | .error c=>.error c
  | .ok (v,r2)=>if(v==5)=true then(match ZaU 1 r2 with
   | .error c=>.error c
   | .ok (m,r3)=>if Zjo m (ZD (ZeW m) 3) (ZD m 4 != 0) (ZD m 32 != 0)=true then ZkE P m r3 else .error 129)
   else .error 132)
  else .error 132
theorem Zv2(P:List AVal)(hP:P.length=26)(hN:Zf P=true)(l:Zc)(hl:l.length<=140737488355328){tm:Tms}{b:Bool}(htm:tm=t20\/tm=ZdR 129)(h23:P[23]?=some (.bool b)):KRun (.seq ZhY ZeR) tm P l (Zjs b (P,l)):=by
 refine KRun.seqT (ZFD P hP hN l hl htm h23) (XF _) ?_
 unfold Zjs
 cases b
 ·exact ZNS P hP hN l hl
 ·rw[if_pos rfl]
  cases h:ZdK l with
  |error c=>exact ZTx P hP hN l hl h
  |ok a=>exact ZHy P hP hN l hl h
theorem Zzk(P:List AVal)(hP:P.length=26)(hN:Zf P=true)(l:Zc)(hl:l.length<=140737488355328){tm:Tms}{b bp:Bool}(htm:tm=t20\/tm=ZdR 107)(h21:P[21]?=some (.bool b))(h23:P[23]?=some (.bool bp)):KRun (.seq Zfv (.seq ZhY ZeR)) tm P l (match Zjk b (P,l)with
  | .error c=>.error c
  | .ok s=>Zjs bp s):=by
 unfold Zjk
 cases b
 ·rw[if_neg (by simp)]
  refine KRun.seqT (ZTb P hP hN l hl htm h21) (XF _) ?_
  exact Zv2 P hP hN l hl (XE rfl) h23
 ·rw[if_pos rfl]
  cases h:ZaD l with
  |error c=>exact KRun.seqF (ZG P hP hN _ _) (ZEs P hP hN l hl htm h21 h)
  |ok a =>
   have hr:=Zeb h
   refine KRun.seqT (ZFk P hP hN l hl htm h21 h) hr ?_
   exact Zv2 _ (by simp[hP]) (ZZ rfl 22 hN) a.2 (by omega) (Xr rfl) (by rw[Xn (by omega)];exact h23)
theorem ZCh{l:Zc}{ps:List Zp}{tp d r:Zc}(h:ZeQ l=.ok (ps,tp,d,r)):r.length<=l.length:=by
 unfold ZeQ at h
 split at h
 ·cases h
 rename_i h1
 split at h
 ·cases h
 rename_i h2
 split at h
 ·cases h
 rename_i h3
 injection h with h;injection h with e1 h;injection h with e2 h;injection h with e3 e4;subst e4
 have:=Zhr h1;have:=Zeb h2;have:=ZwX h3
 omega
theorem ZCc(P:List AVal)(hP:P.length=26)(hN:Zf P=true)(l:Zc)(hl:l.length<=140737488355328){m:Int}(hu:(Z9 16 l).2.1<=l.length)(h15:P[15]?=some (.bool (ZD m 4 != 0)))(h21:P[21]?=some (.bool (ZD m 128 != 0)))(h23:P[23]?=some (.bool (ZD m 64 != 0))):KRun (.seq Zeu (.seq Zfv (.seq ZhY ZeR))) t20 P l (ZjJ m (P,l)):=by
 unfold ZjJ Zj3
 cases hb:(ZD m 4 != 0)
 ·rw[hb]at h15
  rw[if_neg (by simp)]
  refine KRun.seqT (ZNA P hP hN l hl h15) (XF _) ?_
  exact Zzk P hP hN l hl (XE rfl) h21 h23
 ·rw[hb]at h15
  rw[if_pos rfl]
  cases h:ZeQ l with
  |error c =>
   obtain⟨cs,h1,h2⟩:=ZIt P hP hN l hl h15 hu h
   exact KRun.seqF h1 h2
  |ok a =>
   obtain⟨ps,tp,d,r⟩:=a
   have hr:=ZCh h
   refine KRun.seqT (ZOP P hP hN l hl h15 hu h) hr ?_
   refine Zzk _ (by simp[hP]) (ZZ (Zcn _ _) 17 (ZZ rfl 16 (ZZ (Zcn _ _) 20 hN))) r (by omega) (Xr rfl) ?_ ?_
   ·rw[Xn (by omega),Xn (by omega),Xn (by omega)];exact h21
   ·rw[Xn (by omega),Xn (by omega),Xn (by omega)];exact h23
theorem ZHb(P:List AVal)(hP:P.length=26)(hN:Zf P=true)(l:Zc)(hl:l.length<=140737488355328){m:Int}(hu1:∀ r:Zc,r.length<=140737488355328->(Z9 1 r).2.1<=r.length)(hu:∀ r:Zc,r.length<=140737488355328->(Z9 16 r).2.1<=r.length):KRun (.seq cn9 (.seq Zie (.seq ZiU (.seq Zeu (.seq Zfv (.seq ZhY ZeR)))))) t20 (ZbT P m) l (ZkE P m l):=by
 have hM:(ZbT P m).length=26:=by simp[ZbT,hP]
 have hMN:Zf (ZbT P m)=true:=ZZ rfl _ (ZZ rfl _ (ZZ rfl _ (ZZ rfl _ (ZZ rfl _ (ZZ rfl _ hN)))))
 have g15:(ZbT P m)[15]?=some (.bool (ZD m 4 != 0)):=by simp[ZbT,hP]
 have g21:(ZbT P m)[21]?=some (.bool (ZD m 128 != 0)):=by simp[ZbT,hP]
 have g23:(ZbT P m)[23]?=some (.bool (ZD m 64 != 0)):=by simp[ZbT,hP]
 unfold ZkE Zkm
 generalize ZbT P m=M at *
 cases h1:ZaU 2 l with
 |error c=>exact KRun.seqF (ZG M hM hMN _ _) (ZNW M hM hMN l hl h1)
 |ok a =>
 obtain⟨k,r4⟩:=a
 have l1:=Zhp h1
 refine KRun.seqT (ZJS M hM hMN l hl h1) l1 ?_
 have hM1:(M.set 13 (.int .i64 k)).length=26:=by simp[hM]
 have hN1:Zf (M.set 13 (.int .i64 k))=true:=ZZ rfl 13 hMN
 simp only
 cases h2:ZbU 1 r4 with
 |error c=>exact KRun.seqF (ZG _ hM1 hN1 _ _) (ZUe _ hM1 hN1 r4 (by omega) h2)
 |ok a =>
 obtain⟨ps,r5⟩:=a
 have l2:=Zhr h2
 refine KRun.seqT (ZTu _ hM1 hN1 r4 (by omega) (hu1 r4 (by omega)) h2) l2 ?_
 have hM2:((M.set 13 (.int .i64 k)).set 9 (.lst false (ps.map Zg))).length=26:=by simp[hM]
 have hN2:Zf ((M.set 13 (.int .i64 k)).set 9 (.lst false (ps.map Zg)))=true:=ZZ (Zcn _ _) 9 hN1
 simp only
 cases h3:ZaD r5 with
 |error c=>exact KRun.seqF (ZG _ hM2 hN2 _ _) (ZEl _ hM2 hN2 r5 (by omega) h3)
 |ok a =>
 obtain⟨cl,r6⟩:=a
 have l3:=Zeb h3
 refine KRun.seqT (ZEN _ hM2 hN2 r5 (by omega) h3) l3 ?_
 refine ZCc _ (by simp[hM]) (ZZ rfl 14 hN2) r6 (by omega) (hu r6 (by omega)) ?_ ?_ ?_
 ·rw[Xn (by omega),Xn (by omega),Xn (by omega)];exact g15
 ·rw[Xn (by omega),Xn (by omega),Xn (by omega)];exact g21
 ·rw[Xn (by omega),Xn (by omega),Xn (by omega)];exact g23
theorem ZKR(P:List AVal)(hP:P.length=26)(hN:Zf P=true)(l:Zc)(hl:l.length<=140737488355328)(hu1:∀ r:Zc,r.length<=140737488355328->(Z9 1 r).2.1<=r.length)(hu:∀ r:Zc,r.length<=140737488355328->(Z9 16 r).2.1<=r.length):KRun Zpi [(0,.ref 0 0)] P l (ZjE P l):=by
 rw[ZQV]
 refine KRun.seqT (ZOa P hP hN l hl) (XF _) ?_
 unfold ZjE
 cases h1:ZaD l with
 |error c=>exact KRun.seqF (ZG _ hP hN _ _) (ZNI P hP hN l hl h1)
 |ok a =>
 obtain⟨s,r1⟩:=a
 have l1:=Zeb h1
 simp only
 split
 case isFalse hs=>exact KRun.seqF (ZG _ hP hN _ _) (ZBs P hP hN l hl h1 (WV _ |>.mp hs))
 rename_i hs
 have hs:=eq_of_beq hs
 subst hs
 refine KRun.seqT (ZP5 P hP hN l hl h1) l1 ?_
 cases h2:ZaU 1 r1 with
 |error c=>exact KRun.seqF (ZG _ hP hN _ _) (ZVI P hP hN r1 (by omega) h2)
 |ok a =>
 obtain⟨v,r2⟩:=a
 have l2:=Zhp h2
 simp only
 split
 case isFalse hs=>exact KRun.seqF (ZG _ hP hN _ _) (ZQf P hP hN r1 (by omega) h2 (WV _ |>.mp hs))
 rename_i hs
 have hs:=eq_of_beq hs
 subst hs
 refine KRun.seqT (ZLZ P hP hN r1 (by omega) h2) l2 ?_
 cases h3:ZaU 1 r2 with
 |error c=>exact KRun.seqF (ZG _ hP hN _ _) (ZWp P hP hN r2 (by omega) h3)
 |ok a =>
 obtain⟨m,r3⟩:=a
 have l3:=Zhp h3
 simp only
 refine KRun.seqT (ZOe P hP hN r2 (by omega) h3) l3 ?_
 have l4:r3.length<=140737488355328:=by omega
 refine KRun.seqT (ZDt P hP hN r3 l4 m) (XF _) ?_
 refine KRun.seqT (ZVJ _ (by simp[hP]) (ZZ rfl _ (ZZ rfl _ hN)) r3 l4 m) (XF _) ?_
 refine KRun.seqT (ZWC _ (by simp[hP]) (ZZ rfl _ (ZZ rfl _ (ZZ rfl _ (ZZ rfl _ hN)))) r3 l4 m) (XF _) ?_
 have hM:(ZbT P m).length=26:=by simp[ZbT,hP]
 have hMN:Zf (ZbT P m)=true:=ZZ rfl _ (ZZ rfl _ (ZZ rfl _ (ZZ rfl _ (ZZ rfl _ (ZZ rfl _ hN)))))
 have g15:(ZbT P m)[15]?=some (.bool (ZD m 4 != 0)):=by simp[ZbT,hP]
 have g18:(ZbT P m)[18]?=some (.int .i64 (ZD (ZeW m) 3)):=by simp[ZbT,hP]
 have g19:(ZbT P m)[19]?=some (.bool (ZD m 32 != 0)):=by simp[ZbT,hP]
 split
 case isFalse hs=>exact KRun.seqF (ZG _ hM hMN _ _) (ZEC _ hM hMN r3 l4 m _ _ _ g15 g18 g19 (WV _ |>.mp hs))
 rename_i hs
 refine KRun.seqT (ZXc _ hM hMN r3 l4 m _ _ _ g15 g18 g19 hs) (XF _) ?_
 exact ZHb P hP hN r3 l4 hu1 hu
end
section
theorem z0b:((((0:Nat):Int))==0)=true:=by decide
theorem Ze2{l:Zc}{b:Bool}(h:decide (l.length=0)=b):(((l.length:Nat):Int)==0)=b:=by
 subst h
 by_cases h:l.length=0
 ·simp[h]
 ·have : ¬((l.length:Nat):Int)=0:=by omega
  simp[h]
section
variable (P:List AVal)(hP:P.length=26)(hN:Zf P=true)
include hP hN
theorem ZMD(qos:Int)(h0:P[0]?=some (.int .i64 3))(h2:P[2]?=some (.int .i64 qos))(h4:P[4]?=some (.int .i64 0))(hu:∀ r:Zc,r.length<=140737488355328->(Z9 3 r).2.1<=r.length)(l:Zc)(hl:l.length<=140737488355328){tp:Zc}{n:Int}{ps:List Zp}{pay:Zc}(h:ZdO qos l=.ok (tp,n,ps,pay)) :
  E 78 [.ref 0 0] [.var (P++[.lst false (l.map Zb)])]=some (.tup [],[.var ((((P.set 5 (.str tp)).set 4 (.int .i64 n)).set 9 (.lst false (ps.map Zg))).set 6 (.lst false (pay.map Zb))++[.lst true []])]):=by
 have hq:=ZRT P hP hN qos h2 h4 hu l hl h
 have hN':Zf ((((P.set 5 (.str tp)).set 4 (.int .i64 n)).set 9 (.lst false (ps.map Zg))).set 6 (.lst false (pay.map Zb)))=true:=ZZ (Zcn _ _) _ (ZZ (Zcn _ _) _ (ZZ rfl _ (ZZ rfl _ hN)))
 have hP':((((P.set 5 (.str tp)).set 4 (.int .i64 n)).set 9 (.lst false (ps.map Zg))).set 6 (.lst false (pay.map Zb))).length=26:=by simp[hP]
 generalize (((P.set 5 (.str tp)).set 4 (.int .i64 n)).set 9 (.lst false (ps.map Zg))).set 6 (.lst false (pay.map Zb))=Q at *
 have hG:=fun σ sq (hs:(σ:Za)[0]?=some (.var (P++[.lst false (l.map Zb)])))=>Zdn (O:=E) (bf:=BY) (f:=104) (rest:=[]) (by kernel_rfl) rfl (ZG P hP hN _ _) (ZaQ hN' (by rfl)) rfl rfl hq hs sq
 have a4:=fun L=>(Zam P hP 0 (by omega) L).trans h0
 have b2:=ZaI Q hP'
 have m1:=Zbw
 have z:=z0b
 rw[Zi (by rfl) Zby]
 simp -implicitDefEqProofs only[EQA,Zz,Zv,Xe,Xc,Xf,Xa,Xg,↓reduceIte,Zf,Zbz,Zbs,Zfz,Zd,a4,b2,hG,m1,Xs,z]
 exact Z7 rfl (ZaQ hN' (by rfl))
theorem ZTd(qos:Int)(h0:P[0]?=some (.int .i64 3))(h2:P[2]?=some (.int .i64 qos))(l:Zc)(hl:l.length<=140737488355328){c:Int}(h:ZdO qos l=.error c) :
  ∃ cs,Zf cs=true/\E 78 [.ref 0 0] [.var (P++[.lst false (l.map Zb)])]=some (.pan (ZH c),[.var cs]):=by
 obtain⟨cs,hn,he⟩:=ZDh P hP hN qos h2 l hl h
 have hG:=fun σ sq (hs:(σ:Za)[0]?=some (.var (P++[.lst false (l.map Zb)])))=>Zc1 (O:=E) (bf:=BY) (f:=104) (view:=true) (rest:=[]) (by kernel_rfl) rfl (ZG P hP hN _ _) hn rfl he hs sq
 have a4:=fun L=>(Zam P hP 0 (by omega) L).trans h0
 refine⟨cs,hn,?_⟩
 rw[Zi (by rfl) Zby]
 simp -implicitDefEqProofs only[EQA,Zz,Xe,Xc,Xf,Xa,Xg,↓reduceIte,Zbz,Zbs,Zd,a4,hG,Xs]
 exact Z7 rfl hn
theorem ZEc(h0:P[0]?=some (.int .i64 1))(l:Zc)(hl:l.length<=140737488355328){Q:List AVal}{r:Zc}(hq:E 100 [.ref 0 0] (Zm P l)=some (.tup [],Zm Q r))(hQ:Q.length=26)(hQN:Zf Q=true)(hr:r.length=0) :
  E 78 [.ref 0 0] (Zm P l)=some (.tup [],Zm Q r):=by
 unfold Zm at *
 have hG:=fun σ sq (hs:(σ:Za)[0]?=some (.var (P++[.lst false (l.map Zb)])))=>Zdn (O:=E) (bf:=BY) (f:=100) (rest:=[]) (by kernel_rfl) rfl (ZG P hP hN _ _) (ZaQ hQN (by rfl)) rfl rfl hq hs sq
 have a4:=fun L=>(Zam P hP 0 (by omega) L).trans h0
 have b2:=ZaI Q hQ
 have m1:=Zbw
 have z:=Ze2 (l:=r) (decide_eq_true hr)
 rw[Zi (by rfl) Zby]
 simp -implicitDefEqProofs only[EQA,Zz,Zv,Xe,Xc,Xf,Xa,Xg,↓reduceIte,Zf,Zbz,Zbs,Zfz,Zd,a4,b2,hG,m1,z]
 exact Z7 rfl (ZaQ hQN (by rfl))
theorem ZFo(h0:P[0]?=some (.int .i64 1))(l:Zc)(hl:l.length<=140737488355328){Q:List AVal}{r:Zc}(hq:E 100 [.ref 0 0] (Zm P l)=some (.tup [],Zm Q r))(hQ:Q.length=26)(hQN:Zf Q=true)(hr:¬r.length=0) :
  E 78 [.ref 0 0] (Zm P l)=some (.pan (ZH 129),Zm Q r):=by
 unfold Zm at *
 have hG:=fun σ sq (hs:(σ:Za)[0]?=some (.var (P++[.lst false (l.map Zb)])))=>Zdn (O:=E) (bf:=BY) (f:=100) (rest:=[]) (by kernel_rfl) rfl (ZG P hP hN _ _) (ZaQ hQN (by rfl)) rfl rfl hq hs sq
 have a4:=fun L=>(Zam P hP 0 (by omega) L).trans h0
 have b2:=ZaI Q hQ
 have m1:=ZbR
 have z:=Ze2 (l:=r) (decide_eq_false hr)
 rw[Zi (by rfl) Zby]
 simp -implicitDefEqProofs only[EQA,Zz,Xe,Xc,Xf,Xa,Xg,↓reduceIte,Zbz,Zbs,Zd,a4,b2,hG,m1,z]
 exact Z7 rfl (ZaQ hQN (by rfl))
theorem ZFB(h0:P[0]?=some (.int .i64 1))(l:Zc)(hl:l.length<=140737488355328){cs:List AVal}{c:Int}(hn:Zf cs=true)(he:E 100 [.ref 0 0] (Zm P l)=some (.pan (ZH c),[.var cs])) :
  E 78 [.ref 0 0] (Zm P l)=some (.pan (ZH c),[.var cs]):=by
 unfold Zm at *
 have hG:=fun σ sq (hs:(σ:Za)[0]?=some (.var (P++[.lst false (l.map Zb)])))=>Zc1 (O:=E) (bf:=BY) (f:=100) (view:=true) (rest:=[]) (by kernel_rfl) rfl (ZG P hP hN _ _) hn rfl he hs sq
 have a4:=fun L=>(Zam P hP 0 (by omega) L).trans h0
 rw[Zi (by rfl) Zby]
 simp -implicitDefEqProofs only[EQA,Zz,Xe,Xc,Xf,Xa,Xg,↓reduceIte,Zbz,Zbs,Zd,a4,hG]
 exact Z7 rfl hn
end
end
section
def ZeL(P:List AVal)(c:Int)(ps:Option (List Zp)):List AVal:=(P.set 7 (.int .i64 c)).set 9 (ZfX ps)
theorem ZmR{P:List AVal}(hP:P.length=26)(hN:Zf P=true)(c:Int)(ps:Option (List Zp)):(ZeL P c ps).length=26/\Zf (ZeL P c ps)=true :=
 ⟨by simp[ZeL,hP],ZZ (by cases ps<;>rfl) 9 (ZZ rfl 7 hN)⟩
section
variable (P:List AVal)(hP:P.length=26)(hN:Zf P=true)
include hP hN
theorem ZGm(k:Int)(hk:k=14\/k=15)(h0:P[0]?=some (.int .i64 k))(h7:P[7]?=some (.int .i64 0))(h9:P[9]?=some (.lst true []))(hu:∀ r:Zc,r.length<=140737488355328->(Z9 k r).2.1<=r.length)(l:Zc)(hl:l.length<=140737488355328){c:Int}{ps:Option (List Zp)}{r:Zc}(h:Zdl k l=.ok ((c,ps),r)) :
  E 78 [.ref 0 0] (Zm P l)=some (if r.length=0 then .tup []else .pan (ZH 129),Zm (ZeL P c ps) r):=by
 have hG:=fun σ sq hs=>Zv9 P hP hN l hl σ 0 sq hs k h0 h7 h9 hu h
 obtain⟨hQ,hQN⟩:=ZmR hP hN c ps
 have a4:=fun L=>(Zam P hP 0 (by omega) L).trans h0
 unfold Zm
 rw[show(P.set 7 (.int .i64 c)).set 9 (ZfX ps)=ZeL P c ps from rfl]at hG
 generalize ZeL P c ps=Q at *
 have b2:=ZaI Q hQ
 by_cases hr:r.length=0
 ·have m1:=Zbw
  have z:=Ze2 (l:=r) (decide_eq_true hr)
  rw[if_pos hr]
  rcases hk with rfl |rfl
  all_goals
   rw[Zi (by rfl) Zby]
   simp -implicitDefEqProofs only[EQA,Zz,Zv,Xe,Xc,Xf,Xa,Xg,↓reduceIte,Zf,Zbz,Zbs,Zfz,Zd,a4,b2,hG,m1,Xs,z]
   exact Z7 rfl (ZaQ hQN (by rfl))
 ·have m1:=ZbR
  have z:=Ze2 (l:=r) (decide_eq_false hr)
  rw[if_neg hr]
  rcases hk with rfl |rfl
  all_goals
   rw[Zi (by rfl) Zby]
   simp -implicitDefEqProofs only[EQA,Zz,Xe,Xc,Xf,Xa,Xg,↓reduceIte,Zbz,Zbs,Zd,a4,b2,hG,m1,Xs,z]
   exact Z7 rfl (ZaQ hQN (by rfl))
theorem ZIx(k:Int)(hk:k=14\/k=15)(h0:P[0]?=some (.int .i64 k))(hu:∀ r:Zc,r.length<=140737488355328->(Z9 k r).2.1<=r.length)(l:Zc)(hl:l.length<=140737488355328){e:Int}(h:Zdl k l=.error e) :
  ∃ cs,Zf cs=true/\E 78 [.ref 0 0] (Zm P l)=some (.pan (ZH e),[.var cs]):=by
 obtain⟨cs,hn,he⟩:=ZzQ P hP hN k h0 hu l hl h
 have hG:=fun σ sq (hs:(σ:Za)[0]?=some (.var (P++[.lst false (l.map Zb)])))=>Zc1 (O:=E) (bf:=BY) (f:=106) (view:=true) (rest:=[]) (by kernel_rfl) rfl (ZG P hP hN _ _) hn rfl he hs sq
 have a4:=fun L=>(Zam P hP 0 (by omega) L).trans h0
 refine⟨cs,hn,?_⟩
 unfold Zm
 rcases hk with rfl |rfl
 all_goals
  rw[Zi (by rfl) Zby]
  simp -implicitDefEqProofs only[EQA,Zz,Xe,Xc,Xf,Xa,Xg,↓reduceIte,Zbz,Zbs,Zd,a4,hG,Xs]
  exact Z7 rfl hn
theorem ZGo(k:Int)(hk:k=4\/k=5\/k=6\/k=7)(h0:P[0]?=some (.int .i64 k))(h7:P[7]?=some (.int .i64 0))(h9:P[9]?=some (.lst true []))(hu:∀ r:Zc,r.length<=140737488355328->(Z9 k r).2.1<=r.length)(l:Zc)(hl:l.length<=140737488355328){n:Int}{r1:Zc}(hi:idK l=.ok (n,r1)){c:Int}{ps:Option (List Zp)}{r:Zc}(h:Zdl k r1=.ok ((c,ps),r)) :
  E 78 [.ref 0 0] (Zm P l)=some (if r.length=0 then .tup []else .pan (ZH 129),Zm (ZeL (P.set 4 (.int .i64 n)) c ps) r):=by
 have hr1:=ZfT hi
 have hI:=fun σ sq hs=>ZgL P hP hN l hl σ 0 sq hs hi
 have hP4:(P.set 4 (.int .i64 n)).length=26:=by simp[hP]
 have hN4:Zf (P.set 4 (.int .i64 n))=true:=ZZ rfl 4 hN
 have g0:(P.set 4 (.int .i64 n))[0]?=some (.int .i64 k):=by rw[Xn (by omega)];exact h0
 have g7:(P.set 4 (.int .i64 n))[7]?=some (.int .i64 0):=by rw[Xn (by omega)];exact h7
 have g9:(P.set 4 (.int .i64 n))[9]?=some (.lst true []):=by rw[Xn (by omega)];exact h9
 generalize P.set 4 (.int .i64 n)=S at *
 have hG:=fun σ sq hs=>Zv9 S hP4 hN4 r1 (by omega) σ 0 sq hs k g0 g7 g9 hu h
 obtain⟨hQ,hQN⟩:=ZmR hP4 hN4 c ps
 have a4:=fun L=>(Zam P hP 0 (by omega) L).trans h0
 unfold Zm
 rw[show(S.set 7 (.int .i64 c)).set 9 (ZfX ps)=ZeL S c ps from rfl]at hG
 generalize ZeL S c ps=Q at *
 have b2:=ZaI Q hQ
 by_cases hr:r.length=0
 ·have m1:=Zbw
  have z:=Ze2 (l:=r) (decide_eq_true hr)
  rw[if_pos hr]
  rcases hk with rfl |rfl |rfl |rfl
  all_goals
   rw[Zi (by rfl) Zby]
   simp -implicitDefEqProofs only[EQA,Zz,Zv,Xe,Xc,Xf,Xa,Xg,↓reduceIte,Zf,Zbz,Zbs,Zfz,Zd,a4,b2,hI,hG,m1,Xs,z]
   exact Z7 rfl (ZaQ hQN (by rfl))
 ·have m1:=ZbR
  have z:=Ze2 (l:=r) (decide_eq_false hr)
  rw[if_neg hr]
  rcases hk with rfl |rfl |rfl |rfl
  all_goals
   rw[Zi (by rfl) Zby]
   simp -implicitDefEqProofs only[EQA,Zz,Xe,Xc,Xf,Xa,Xg,↓reduceIte,Zbz,Zbs,Zd,a4,b2,hI,hG,m1,Xs,z]
   exact Z7 rfl (ZaQ hQN (by rfl))
theorem ZLP(k:Int)(hk:k=4\/k=5\/k=6\/k=7)(h0:P[0]?=some (.int .i64 k))(l:Zc)(hl:l.length<=140737488355328){e:Int}(h:idK l=.error e) :
  ∃ cs,Zf cs=true/\E 78 [.ref 0 0] (Zm P l)=some (.pan (ZH e),[.var cs]):=by
 obtain⟨cs,hn,he⟩:=Zl2 P hP hN l hl h
 have hG:=fun σ sq (hs:(σ:Za)[0]?=some (.var (P++[.lst false (l.map Zb)])))=>Zc1 (O:=E) (bf:=BY) (f:=105) (view:=true) (rest:=[]) (by kernel_rfl) rfl (ZG P hP hN _ _) hn rfl he hs sq
 have a4:=fun L=>(Zam P hP 0 (by omega) L).trans h0
 refine⟨cs,hn,?_⟩
 unfold Zm
 rcases hk with rfl |rfl |rfl |rfl
 all_goals
  rw[Zi (by rfl) Zby]
  simp -implicitDefEqProofs only[EQA,Zz,Xe,Xc,Xf,Xa,Xg,↓reduceIte,Zbz,Zbs,Zd,a4,hG,Xs]
  exact Z7 rfl hn
theorem ZHB(k:Int)(hk:k=4\/k=5\/k=6\/k=7)(h0:P[0]?=some (.int .i64 k))(hu:∀ r:Zc,r.length<=140737488355328->(Z9 k r).2.1<=r.length)(l:Zc)(hl:l.length<=140737488355328){n:Int}{r1:Zc}(hi:idK l=.ok (n,r1)){e:Int}(h:Zdl k r1=.error e) :
  ∃ cs,Zf cs=true/\E 78 [.ref 0 0] (Zm P l)=some (.pan (ZH e),[.var cs]):=by
 have hr1:=ZfT hi
 have hI:=fun σ sq hs=>ZgL P hP hN l hl σ 0 sq hs hi
 have hP4:(P.set 4 (.int .i64 n)).length=26:=by simp[hP]
 have hN4:Zf (P.set 4 (.int .i64 n))=true:=ZZ rfl 4 hN
 have g0:(P.set 4 (.int .i64 n))[0]?=some (.int .i64 k):=by rw[Xn (by omega)];exact h0
 generalize P.set 4 (.int .i64 n)=S at *
 obtain⟨cs,hn,he⟩:=ZzQ S hP4 hN4 k g0 hu r1 (by omega) h
 have hG:=fun σ sq (hs:(σ:Za)[0]?=some (.var (S++[.lst false (r1.map Zb)])))=>Zc1 (O:=E) (bf:=BY) (f:=106) (view:=true) (rest:=[]) (by kernel_rfl) rfl (ZG S hP4 hN4 _ _) hn rfl he hs sq
 have a4:=fun L=>(Zam P hP 0 (by omega) L).trans h0
 refine⟨cs,hn,?_⟩
 unfold Zm
 rcases hk with rfl |rfl |rfl |rfl
 all_goals
  rw[Zi (by rfl) Zby]
  simp -implicitDefEqProofs only[EQA,Zz,Xe,Xc,Xf,Xa,Xg,↓reduceIte,Zbz,Zbs,Zd,a4,hI,hG,Xs]
  exact Z7 rfl hn
theorem ZNQ(k:Int)(hk:k=12\/k=13)(h0:P[0]?=some (.int .i64 k))(l:Zc):E 78 [.ref 0 0] (Zm P l)=some (if l.length=0 then .tup []else .pan (ZH 129),Zm P l):=by
 have a4:=fun L=>(Zam P hP 0 (by omega) L).trans h0
 have b2:=ZaI P hP
 unfold Zm
 by_cases hr:l.length=0
 ·have m1:=Zbw
  have z:=Ze2 (l:=l) (decide_eq_true hr)
  rw[if_pos hr]
  rcases hk with rfl |rfl
  all_goals
   rw[Zi (by rfl) Zby]
   simp -implicitDefEqProofs only[EQA,Zz,Zv,Xe,Xc,Xf,Xa,Xg,↓reduceIte,Zf,Zbz,Zbs,Zfz,Zd,a4,b2,m1,Xs,z]
   exact Z7 rfl (ZG P hP hN _ _)
 ·have m1:=ZbR
  have z:=Ze2 (l:=l) (decide_eq_false hr)
  rw[if_neg hr]
  rcases hk with rfl |rfl
  all_goals
   rw[Zi (by rfl) Zby]
   simp -implicitDefEqProofs only[EQA,Zz,Xe,Xc,Xf,Xa,Xg,↓reduceIte,Zbz,Zbs,Zd,a4,b2,m1,Xs,z]
   exact Z7 rfl (ZG P hP hN _ _)
end
end
section
def Ze6(k:Int):Int:=if k=6\/k=8\/k=10 then 2 else 0
theorem ZK9(k:Int):E 54 [.int .i64 k] []=some (.int .u8 (Ze6 k),[]):=by
 unfold Ze6
 by_cases h6:k=6
 ·subst h6;rw[Zi (by rfl) Znd];simp -implicitDefEqProofs only[EQA,Xc,Xa,reduceCtorEq,↓reduceIte,Zk5,Zjj,Znq,Zd]
 by_cases h8:k=8
 ·subst h8;rw[Zi (by rfl) Znd];simp -implicitDefEqProofs only[EQA,Xc,Xa,reduceCtorEq,↓reduceIte,Zk5,Zjj,Znq,Zd,Xs]
 by_cases h10:k=10
 ·subst h10;rw[Zi (by rfl) Znd];simp -implicitDefEqProofs only[EQA,Xc,Xa,reduceCtorEq,↓reduceIte,Zk5,Zjj,Znq,Zd,Xs]
 have b6:(k==6)=false:=by simpa using h6
 have b8:(k==8)=false:=by simpa using h8
 have b10:(k==10)=false:=by simpa using h10
 rw[if_neg (by omega),Zi (by rfl) Znd]
 simp -implicitDefEqProofs only[EQA,Xc,Xa,reduceCtorEq,↓reduceIte,Zk5,Zjj,Znq,Zd,b6,b8,b10]
theorem ZmV(k:Int)(σ:Za)(sq own:Nat):Zj E BY σ sq 54 own true [.int .i64 k]=some (.int .u8 (Ze6 k),σ,{}) :=
 Za2 (ZK9 k) (by kernel_rfl) (by simp -implicitDefEqProofs only[Zbu,Zai,eq_self,eq_self]) (by simp -implicitDefEqProofs only[Zz,Zai,eq_self,eq_self]) rfl (fun _=>rfl) _ _ _ _
def tyI(b:Int):Int:=IntKind.i64.wrap (b.fdiv (2^min (WW 4) IntKind.u8.bits))
def ZbH(a b:Int):Int:=IntKind.u8.wrap (XP IntKind.u8.bits a&&&XP IntKind.u8.bits b).toNat
def qoI(b:Int):Int:=IntKind.i64.wrap (ZbH (b.fdiv (2^min (WW 1) IntKind.u8.bits)) 3)
def Zdi(P:List AVal)(b:Int):List AVal:=(((P.set 0 (.int .i64 3)).set 1 (.bool (ZbH b 8 != 0))).set 2 (.int .i64 (qoI b))).set 3 (.bool (ZbH b 1 != 0))
section
variable (P:List AVal)(hP:P.length=26)(hN:Zf P=true)
include hP hN
theorem Zne(L v:AVal):[v]++List.drop 1 (P++[L])=P.set 0 v++[L]:=ZaL P hP 0 1 (by omega) rfl L v
theorem ZIr(b:Int)(l:Zc)(h:tyI b=0):E 77 [.ref 0 0,.int .u8 b] (Zm P l)=some (.pan (ZH 129),Zm (P.set 0 (.int .i64 0)) l):=by
 have a1:=Zal P hP
 have a3:=Zne P hP hN
 have a4:=Zic P hP 0 (by omega)
 have m1:=ZbR
 have z:((0:Int) != 0)=false:=by decide
 unfold tyI at h
 unfold Zm
 rw[Zi (by rfl) Zhy]
 simp -implicitDefEqProofs only[EQA,Zz,Xc,Xf,Xa,ZaR,reduceCtorEq,↓reduceIte,Zhn,Zgc,Zd,a1,a3,a4,m1,h,z,XY]
 exact Z7 rfl (ZaQ (ZZ rfl _ hN) (by rfl))
theorem ZVU(b t:Int)(l:Zc)(h:tyI b=t)(h0:¬t=0)(h3:¬t=3)(hf:¬ZbH b 15=Ze6 t):E 77 [.ref 0 0,.int .u8 b] (Zm P l)=some (.pan (ZH 129),Zm (P.set 0 (.int .i64 t)) l):=by
 have a1:=Zal P hP
 have a3:=Zne P hP hN
 have a4:=Zic P hP 0 (by omega)
 have m0:=Zbw
 have m1:=ZbR
 have e0:(t != 0)=true:=by simpa using h0
 have e3:(t != 3)=true:=by simpa using h3
 have ef:(ZbH b 15==Ze6 t)=false:=by simpa using hf
 have hC:=ZmV t
 unfold tyI at h
 unfold ZbH at ef
 unfold Zm
 rw[Zi (by rfl) Zhy]
 simp -implicitDefEqProofs only[EQA,Zz,Xc,Xf,Xa,ZaR,reduceCtorEq,↓reduceIte,Zhn,Zgc,Zd,a1,a3,a4,m0,m1,h,e0,e3,ef,hC,XY]
 exact Z7 rfl (ZaQ (ZZ rfl _ hN) (by rfl))
theorem ZEt(b t:Int)(l:Zc)(h:tyI b=t)(h0:¬t=0)(h3:¬t=3)(hf:ZbH b 15=Ze6 t):E 77 [.ref 0 0,.int .u8 b] (Zm P l)=some (.tup [],Zm (P.set 0 (.int .i64 t)) l):=by
 have a1:=Zal P hP
 have a3:=Zne P hP hN
 have a4:=Zic P hP 0 (by omega)
 have m0:=Zbw
 have e0:(t != 0)=true:=by simpa using h0
 have e3:(t != 3)=true:=by simpa using h3
 have ef:(ZbH b 15==Ze6 t)=true:=by simpa using hf
 have hC:=ZmV t
 unfold tyI at h
 unfold ZbH at ef
 unfold Zm
 rw[Zi (by rfl) Zhy]
 simp -implicitDefEqProofs only[EQA,Zz,Zv,Xc,Xf,Xa,ZaR,reduceCtorEq,↓reduceIte,Zf,Zhn,Zgc,Zpj,Zd,a1,a3,a4,m0,h,e0,e3,ef,hC,XY]
 exact Z7 rfl (ZaQ (ZZ rfl _ hN) (by rfl))
theorem ZUj(b:Int)(l:Zc)(h:tyI b=3):E 77 [.ref 0 0,.int .u8 b] (Zm P l)=some (if qoI b<3 then(if qoI b>0\/(ZbH b 8 != 0)=false then .tup []else .pan (ZH 130))else .pan (ZH 129),Zm (Zdi P b) l):=by
 have hQ:(Zdi P b).length=26:=by simp[Zdi,hP]
 have hQN:Zf (Zdi P b)=true:=ZZ rfl _ (ZZ rfl _ (ZZ rfl _ (ZZ rfl _ hN)))
 have g1:(Zdi P b)[1]?=some (.bool (ZbH b 8 != 0)):=by simp[Zdi,hP]
 have g2:(Zdi P b)[2]?=some (.int .i64 (qoI b)):=by simp[Zdi,hP]
 have a1:=Zal P hP
 have a3:=fun L=>Zne P hP hN L (.int .i64 3)
 have a4:=Zic P hP 0 (by omega)
 have hP0:(P.set 0 (.int .i64 3)).length=26:=by simp[hP]
 have b1:=Zal _ hP0
 have b3:=fun L=>ZaL _ hP0 1 2 (by omega) rfl L (.bool (ZbH b 8 != 0))
 have hP1:((P.set 0 (.int .i64 3)).set 1 (.bool (ZbH b 8 != 0))).length=26:=by simp[hP]
 have c1:=Zal _ hP1
 have c3:=fun L=>ZaL _ hP1 2 3 (by omega) rfl L (.int .i64 (qoI b))
 have hP2:(((P.set 0 (.int .i64 3)).set 1 (.bool (ZbH b 8 != 0))).set 2 (.int .i64 (qoI b))).length=26:=by simp[hP]
 have d1:=Zal _ hP2
 have d3:=fun L=>ZaL _ hP2 3 4 (by omega) rfl L (.bool (ZbH b 1 != 0))
 rw[show(((P.set 0 (.int .i64 3)).set 1 (.bool (ZbH b 8 != 0))).set 2 (.int .i64 (qoI b))).set 3 (.bool (ZbH b 1 != 0))=Zdi P b from rfl]at d3
 generalize Zdi P b=Q at *
 have k1:=fun L=>(Zam Q hQ 1 (by omega) L).trans g1
 have k2:=fun L=>(Zam Q hQ 2 (by omega) L).trans g2
 have m0:=Zbw
 have m1:=ZbR
 have e0:((3:Int) != 0)=true:=by decide
 have e3:((3:Int) != 3)=false:=by decide
 unfold tyI at h
 unfold Zm
 by_cases hq:qoI b<3
 ·rw[if_pos hq]
  by_cases hq0:qoI b>0
  ·rw[if_pos (Xr hq0)]
   unfold qoI ZbH at *
   rw[Zi (by rfl) Zhy]
   simp -implicitDefEqProofs only[EQA,Zz,Zv,Xe,Xc,Xf,Xa,ZaR,Zw,Zad,reduceCtorEq,↓reduceIte,Zf,Zhn,Zgc,Zpj,Zd,a1,a3,a4,b1,b3,c1,c3,d1,d3,k2,m0,h,e0,e3,hq,hq0,XY]
   exact Z7 rfl (ZaQ hQN (by rfl))
  ·cases hd:(ZbH b 8 != 0)
   ·rw[if_pos (XE rfl)]
    rw[hd]at b3 c1 c3 d1 d3 k1
    unfold qoI ZbH at *
    rw[Zi (by rfl) Zhy]
    simp -implicitDefEqProofs only[EQA,Zz,Zv,Xe,Xc,Xf,Xa,ZaR,unA,Zw,unG,reduceCtorEq,↓reduceIte,Zf,Zhn,Zgc,Zpj,Zd,a1,a3,a4,b1,b3,c1,c3,d1,d3,k1,k2,m0,h,e0,e3,hq,hq0,hd,XY]
    exact Z7 rfl (ZaQ hQN (by rfl))
   ·rw[if_neg (by simp[hq0])]
    rw[hd]at b3 c1 c3 d1 d3 k1
    unfold qoI ZbH at *
    rw[Zi (by rfl) Zhy]
    simp -implicitDefEqProofs only[EQA,Zz,Xe,Xc,Xf,Xa,ZaR,unA,Zw,unG,reduceCtorEq,↓reduceIte,Zhn,Zgc,Zd,a1,a3,a4,b1,b3,c1,c3,d1,d3,k1,k2,m0,m1,h,e0,e3,hq,hq0,hd,XY]
    exact Z7 rfl (ZaQ hQN (by rfl))
 ·rw[if_neg hq]
  unfold qoI ZbH at *
  rw[Zi (by rfl) Zhy]
  simp -implicitDefEqProofs only[EQA,Zz,Xe,Xc,Xf,Xa,ZaR,reduceCtorEq,↓reduceIte,Zhn,Zgc,Zd,a1,a3,a4,b1,b3,c1,c3,d1,d3,k2,m0,m1,h,e0,e3,hq,XY]
  exact Z7 rfl (ZaQ hQN (by rfl))
end
end
section
section
variable {σ:Za}{cs xs:List AVal}{g w:Nat}
theorem ZqJ{t r:Nat}(hs:σ[t]?=some (.var cs))(hr:σ[r]?=some (.row g w xs))(htr:t≠r)(hrf:Zt cs=[r]):Zs σ 1000 [t] []=[t,r]:=by
 have h1:σ.getD t .free=.var cs:=by simp[Xh,hs]
 have h2:σ.getD r .free=.row g w xs:=by simp[Xh,hr]
 have e1:([]:List Nat).contains t=false:=rfl
 have e2:([t]:List Nat).contains r=false:=by simp;exact fun e=>htr e.symm
 rw[show(1000:Nat)=997+1+1+1 from rfl,Zs,e1]
 simp only[Xj,if_false,h1,Zx,hrf,Xo,XA]
 rw[Zs,e2]
 simp only[Xj,if_false,h2,Zx,XA]
 rfl
theorem ZA5{r:AVal}{σ:Za}(hr:ZS r=true)(hrf:Zt cs=[1])(hg:g<=1)(hren:∀ ρ:Rho,ρ 1 g=some (1,g)->Zh ρ cs=cs):gcA 2 [r] (.var cs::.row g w xs::σ)=([r],[.var cs,.row g w xs]):=by
 have e1:=(Zbm (Zk (.var cs::.row g w xs::σ) 2 [0,1]) r hr)
 have h1:Zu 2 [r] (.var cs::.row g w xs::σ)=[0,1]:=by
  have : Zt [r]=[]:=by simp only[Zt,e1.2,Xo]
  have hR:Wa 2=[0,1]:=rfl
  simp only[Zu,this,XA,hR,XK,X5,Xo,Xu,XN,Zx,hrf]
  rfl
 have hng:(if g=0 then 0 else 1)=g:=by split<;>omega
 have hρ:Zk (.var cs::.row g w xs::σ) 2 [0,1] 1 g=some (1,g):=by
  simp only[Zk,ZI,Zl,ZF,XT,XJ]
  simp[hng]
 simp only[gcA,h1,Zh,e1.1,Zn,Xu,XN,ZF,Zl,Zy,hren _ hρ]
 simp[hng]
theorem ZpS{r:AVal}{σ:Za}(hr:ZS r=true)(hrf:Zt cs=[1])(hg:g<=1)(hren:∀ ρ:Rho,ρ 1 g=some (1,g)->Zh ρ cs=cs):Z4 2 (.var cs::.row g w xs::σ) r=some (r,[.var cs,.row g w xs]):=by
 simp only[Z4,ZA5 hr hrf hg hren]
end
theorem Zc8:∀ (a b:List AVal),Zt (a++b)=Zt a++Zt b
 | [],b=>by simp[Zt]
 |x::a,b=>by simp[Zt,Zc8 a b,XU]
theorem Zcb(ρ:Rho):∀ (a b:List AVal),Zh ρ (a++b)=Zh ρ a++Zh ρ b
 | [],b=>by simp[Zh]
 |x::a,b=>by simp[Zh,Zcb ρ a b]
theorem ZkR{v:AVal}:∀ {P:List AVal} {k:Nat},Zf P=true->k<P.length->Zt (P.set k v)=ZT v
 | [],_,_,h=>by simp at h
 |x::P,0,h,_=>by
  simp only[Zf,Xk]at h
  simp only[WH,Zt,(ZaV (fun _ _=>none) P h.2).2,Xo]
 |x::P,k+1,h,hk=>by
  simp only[Zf,Xk]at h
  simp only[WQ,Zt,(Zbm (fun _ _=>none) x h.1).2,XA]
  exact ZkR h.2 (by simpa using hk)
theorem Zj7(ρ:Rho){v:AVal}:∀ {P:List AVal} {k:Nat},Zf P=true->Zh ρ (P.set k v)=P.set k (Zo ρ v)
 | [],_,_=>by simp[Zh]
 |x::P,0,h=>by
  simp only[Zf,Xk]at h
  simp only[WH,Zh,(ZaV ρ P h.2).1]
 |x::P,k+1,h=>by
  simp only[Zf,Xk]at h
  simp only[WQ,Zh,(Zbm ρ x h.1).1,Zj7 ρ h.2]
theorem ZDK{σ:Za}{t r g w w2 g2:Nat}{cs xs cs2 xs2:List AVal}(hs:σ[t]?=some (.var cs))(hr:σ[r]?=some (.row g w xs))(hg2:g2<=1):ZaW σ [t,r] [.var cs2,.row g2 w2 xs2] 0=true:=by
 have h1:σ.getD t .free=.var cs:=by simp[Xh,hs]
 have h2:σ.getD r .free=.row g w xs:=by simp[Xh,hr]
 simp[ZaW,okB,Zcr,Zl,hs,hr,hg2]
theorem ZhO{O:ZV}{bf:Nat->Bool}{σ:Za}{t r f own g w g2 w2 sq:Nat}{view:Bool}{rest:List AVal}{cs cs1 cs2 cs3 xs xs2:List AVal}{q q':AVal}(hs:σ[t]?=some (.var cs))(hr:σ[r]?=some (.row g w xs))(htr:t≠r)(hrf:Zt cs=[r])(hb:bf f=false)(hp:rest.all Zan=true)
  (hren:∀ ρ:Rho,ρ r g=some (1,0)->Zh ρ cs=cs1) (hg2:g2<=1) (hff:ZaM σ sq own=true) (hn:ZS q'=true)
  (h:O f (.ref 0 0::rest.map ZN) [.var cs1,.row 0 w xs]=some (q,[.var cs2,.row g2 w2 xs2])) (hv:Z3 view 2 (some (q,[.var cs2,.row g2 w2 xs2]))=some (q',[.var cs2,.row g2 w2 xs2]))
  (hback:∀ ρ:Rho,(∀ j,ρ 1 j=some (r,g+j))->Zh ρ cs2=cs3) :
  Zj O bf σ sq f own view (.ref t 0::rest)=some (q',(σ.set t (.var cs3)).set r (.row (g+g2) w2 xs2),{ any:=true,upd:=[(t,cs3)] }):=by
 have htl:t<σ.length:=by
  rcases Wx t σ.length with h |h
  ·exact h
  ·rw[XQ h]at hs;cases hs
 have h1:σ.getD t .free=.var cs:=by simp[Xh,hs]
 have h2:σ.getD r .free=.row g w xs:=by simp[Xh,hr]
 have hf0:Zr σ []=σ:=rfl
 have hsh:showAs σ (.ref t 0::rest)=some (.ref t 0::rest.map ZN,[]):=by
  rw[showAs,show showA σ (.ref t 0)=some (.ref t 0,[])from rfl,Zej hp]
  rfl
 have href:Zt (.ref t 0::rest.map ZN)=[t]:=by
  rw[Zt,ZdC hp];rfl
 have hup:ZaZ ((σ.set t (.var cs3)).set r (.row (g+g2) w2 xs2)) [t,r]=[(t,cs3)]:=by
  have e1:((σ.set t (.var cs3)).set r (.row (g+g2) w2 xs2))[t]?=some (.var cs3):=by
   rw[Xn (fun e=>htr e.symm),X7 htl]
  have e2:((σ.set t (.var cs3)).set r (.row (g+g2) w2 xs2))[r]?=some (.row (g+g2) w2 xs2):=by
   rw[X7 (by
    rcases Wx r σ.length with h |h
    ·simpa using h
    ·rw[XQ h]at hr;cases hr)]
  simp only[ZaZ,e1,e2]
 unfold Zj ZbS
 rw[hb]
 simp only[Xj,if_false,hsh,hf0,href,ZqJ hs hr htr hrf]
 unfold ZbK
 have hall:([t,r].all fun t=>okB (σ.getD t .free))=true:=by simp only[XO,Ws,h1,h2,okB,Bool.and_true]
 rw[if_pos hall]
 have hρt:Zk σ 0 [t,r] t 0=some (0,0):=by simp[Zk,ZI,hs,Zl,ZF]
 have hρr:Zk σ 0 [t,r] r g=some (1,0):=by simp[Zk,ZI,hr,Zl,ZF,htr]
 have hargs:Zh (Zk σ 0 [t,r]) (.ref t 0::rest.map ZN)=.ref 0 0::rest.map ZN:=by
  rw[Zh,ZdE hp]
  simp only[Zo,hρt]
 have hheap:Zn σ 0 [t,r] (Zk σ 0 [t,r]) [t,r] 0=[.var cs1,.row 0 w xs]:=by
  simp only[Zn,h1,h2,ZF,Zl,Zy,hren _ hρr]
  simp
 rw[hargs,hheap,h]
 rw[show [t,r].length=2 from rfl,hv]
 have hk:=ZDK (cs2:=cs2) (w2:=w2) (xs2:=xs2) hs hr hg2
 have hb3:Zh (ZaJ σ [t,r] sq) cs2=cs3:=hback _ (fun j=>by simp only[ZaJ,XT,XJ,h2,Zl])
 simp only[ZaA,Wm,Xj,if_false,Xp,Xw,XB,Xe,Xay,XF,decide_true,hk,hff,Wg,if_true,Za9,ZaN,Xu,XN,Zch,XJ,XT,h2,Zl,Zy,(Zbm _ _ hn).1,hb3,hup]
end
section
theorem ZUb(l:List Zp):kOk 5 (l.map Zg)=true:=by cases l<;>rfl
theorem ZLJ(l:List Zp)(h:l.length<=700000000):E 45 [.lst false (l.map Zg)] []=some (.sl 0 0 0 (l.map Zg).length,[.row 0 5 (l.map Zg)]):=by
 refine ZbQ.2 ⟨1,?_⟩
 show ZeD 5 72 [.lst false (l.map Zg)] []=_
 have h1:(l.map Zg).length*72<=140737488355328/\kOk 5 (l.map Zg)=true:=⟨by simp;omega,ZUb l⟩
 simp only[ZeD,ZY]
 rw[if_pos h1];rfl
def ZeX(n:Zax)(a b:Nat):List AVal:=[.str n.topic,.sl a 0 0 n.payload.length,.int .i64 n.qos,.bool n.retain,.str n.sender,.int .i64 n.expires,.sl b 0 0 n.props.length,.int .i64 n.origin,.int .i64 n.number,.int .i64 n.hops]
def ZnC:List AVal:=[.str [],.lst true [],.int .i64 0,.bool false,.str [],.int .i64 0,.lst true [],.int .i64 0,.int .i64 0,.int .i64 0]
theorem Zwe(n:Zax)(hl:n.props.length<=700000000)(hd:∀ p∈n.props,p.data.length<=140737488355328):∀ (r:List Zp) (i:Nat),n.props.drop i=r ->
  ZnK 0 [(15,.int .i64 i),(14,.int .i64 n.props.length),(2,.ref 0 0),(1,.ref 1 0)] [.var ZnC,.var (ZeX n 2 3),.row 0 1 (n.payload.map Zb),.row 0 5 (n.props.map Zg)] =
  some (.agg (ZeX n 0 1),[.row 0 1 (n.payload.map Zb),.row 0 5 (n.props.map Zg)])
 | [],i,h=>by
  have h1:=Zcq h
  generalize n.payload.map Zb=L at *
  generalize n.props.map Zg=R at *
  unfold ZnK ZeX ZnC
  rw[ZR]
  simp -implicitDefEqProofs only[EQA,Xe,Xc,Xf,Xa,↓reduceIte,ZMZ,ZVt,Zrf,Zww,Zn1,Zd,h1,ZX,AVal.cells]
  simp[Z4,gcA,Zu,Zs,Zt,ZT,Zk,Zn,ZI,Zl,ZF,Zh,Zo,Zy,Zx]
 |p::r,i,h=>by
  have ih:=Zwe n hl hd r (i+1) (ZW h).2.1
  have hp:=hd p (XC (ZW h).1)
  have hC:=fun σ sq own=>ZlW σ sq own p.data hp
  have h1:(i:Int)<n.props.length:=by have:=(ZW h).2.2;omega
  have h2:i<n.props.length:=(ZW h).2.2
  have h0:(0:Int)<=(i:Int):=by omega
  have hg:(n.props.map Zg)[i]?=some (.agg [.int .i64 p.id,.int .i64 p.num,.str p.text,.str p.pair,.lst false (p.data.map Zb)]):=by
   rw[List.getElem?_map,(ZW h).1];rfl
  have hset:(n.props.map Zg).set i (.agg [.int .i64 p.id,.int .i64 p.num,.str p.text,.str p.pair,.lst false (p.data.map Zb)])=n.props.map Zg:=by
   apply Wp
   intro j
   rw[Xx]
   by_cases e:i=j
   ·subst e;rw[if_pos rfl,if_pos (by simpa using h2),hg]
   ·simp[e]
  have hw:IntKind.i64.wrap ((i:Int)+1)=((i+1:Nat):Int):=by rw[ZaC (by omega) (by omega)];rfl
  have hn:((i:Nat):Int).toNat=i:=Wv i
  generalize n.payload.map Zb=L at *
  generalize n.props.map Zg=R at *
  generalize p.data.map Zb=D at *
  unfold ZnK ZeX ZnC at *
  rw[ZR]
  simp -implicitDefEqProofs only[EQA,ZM,Za7,Xe,Xc,Xf,Xa,Xg,reduceCtorEq,↓reduceIte,gcT,gcA,Zu,Zs,Zk,Zn,ZI,Zl,ZF,Zy,Zx,Zww,Zn1,Zd,h1,h0,h2,hg,hset,hC,hw,hn,Zb9,Zg5,Zat,ZK,Zr,ZX,AVal.cells,Z6,Zaf,Zah,Zau,Zas,Zar,Zav,Zaw,Zag,Xy]
  exact ih
end
section
section
variable (P:List AVal)(hP:P.length=26)(hF:Zt P=[1])(hS:∀ ρ:Rho,ρ 1 0=some (1,0)->Zh ρ P=P)(w:Nat)(xs:List AVal)
include hP hF hS
theorem ZhD{r:AVal}(hr:ZS r=true)(f:Bool)(ys:List AVal):Z4 2 [.var (P++[.lst f ys]),.row 0 w xs] r=some (r,[.var (P++[.lst f ys]),.row 0 w xs]) :=
 ZpS hr (by rw[Zc8,hF];rfl) (by omega) (fun ρ h=>by rw[Zcb,hS ρ h];rfl)
theorem ZUV(l:Zc)(n:Nat)(hn:n<=l.length)(hl:l.length<=140737488355328):E 101 [.ref 0 0,.int .i64 (n:Nat)] [.var (P++[.lst false (l.map Zb)]),.row 0 w xs]=some (.int .i64 (Zh9 (l.take n)),[.var (P++[.lst false ((l.drop n).map Zb)]),.row 0 w xs]):=by
 have h1:(l.length:Int)>=((n:Nat):Int):=by omega
 have s1:=fun σ kk=>ZjQ σ 1 l Zb kk (n:Int) (by omega) (by omega)
 have s2:=fun σ kk=>Zgd σ l kk (n:Int) (by omega) (by omega)
 have e2:((n:Int)).toNat=n:=rfl
 rw[e2]at s1 s2
 have ht:(l.take n).length<=9223372036854775807:=by simp;omega
 have hG:=fun σ sq own f=>Zle σ sq own (l.take n) ht f
 have a1:=Zal P hP
 have a2:=ZaI P hP
 have a3:=Zfs P hP
 have a4:=ZgU P hP
 have m1:=Zbw
 rw[Zi (by rfl) ZmG]
 simp -implicitDefEqProofs only[EQA,Zz,Xe,Xc,Xf,Xa,reduceCtorEq,↓reduceIte,Zod,Ziv,ZvS,Zd,h1,s1,s2,hG,a1,a2,a3,a4,m1,Zh9]
 exact ZhD P hP hF hS w xs rfl _ _
theorem ZPs(l:Zc)(n:Nat)(hn:l.length<n)(hn':n<=9223372036854775807):E 101 [.ref 0 0,.int .i64 (n:Nat)] [.var (P++[.lst false (l.map Zb)]),.row 0 w xs]=some (.pan (ZH 129),[.var (P++[.lst false (l.map Zb)]),.row 0 w xs]):=by
 have h1:¬(l.length:Int)>=((n:Nat):Int):=by omega
 have a2:=ZaI P hP
 have m1:=ZbR
 rw[Zi (by rfl) ZmG]
 simp -implicitDefEqProofs only[EQA,Xe,Xc,Xa,reduceCtorEq,↓reduceIte,Zod,Ziv,Zd,h1,a2,m1]
 exact ZhD P hP hF hS w xs rfl _ _
theorem ZTz(l:Zc)(hl:l.length<=140737488355328)(h:(Zaq l).2.2=0):E 110 [.ref 0 0] [.var (P++[.lst false (l.map Zb)]),.row 0 w xs]=some (.str (Zaq l).1,[.var (P++[.lst false ((l.drop (Zaq l).2.1).map Zb)]),.row 0 w xs]):=by
 have hG:=fun σ sq own f=>ZiE σ sq own f l hl
 have hu:=(ZiI l).1
 unfold gtT at hG
 have s2:=fun σ kk=>Zgd σ l kk ((Zaq l).2.1:Int) (by omega) (by omega)
 have e2:(((Zaq l).2.1:Nat):Int).toNat=(Zaq l).2.1:=rfl
 rw[e2]at s2
 rw[h]at hG
 have a1:=Zal P hP
 have a2:=ZaI P hP
 have a3:=Zfs P hP
 have a4:=ZgU P hP
 have m1:=Zbw
 rw[Zi (by rfl) Zlb]
 simp -implicitDefEqProofs only[EQA,Zz,Xe,Xc,Xf,Xa,reduceCtorEq,↓reduceIte,ZlU,Zib,Zwo,Zd,s2,hG,a1,a2,a3,a4,m1]
 exact ZhD P hP hF hS w xs rfl _ _
theorem ZGK(l:Zc)(hl:l.length<=140737488355328)(h:(Zaq l).2.2≠0):E 110 [.ref 0 0] [.var (P++[.lst false (l.map Zb)]),.row 0 w xs]=some (.pan (ZH 129),[.var (P++[.lst false (l.map Zb)]),.row 0 w xs]):=by
 have hG:=fun σ sq own f=>ZiE σ sq own f l hl
 unfold gtT at hG
 have h0:((Zaq l).2.2==0)=false:=by simpa using h
 have h1:=h
 have a2:=ZaI P hP
 have m1:=ZbR
 rw[Zi (by rfl) Zlb]
 simp -implicitDefEqProofs only[EQA,Xe,Xc,Xa,reduceCtorEq,↓reduceIte,ZlU,Zib,Zd,hG,a2,h0,m1]
 exact ZhD P hP hF hS w xs rfl _ _
end
theorem Zm1{q:AVal}{cs xs:List AVal}{g w:Nat}(view:Bool)(hn:ZS q=true)(hv:viewR [.var cs,.row g w xs] q=some (q,[]))(hrf:Zt cs=[1])(hg:g<=1)(hren:∀ ρ:Rho,ρ 1 g=some (1,g)->Zh ρ cs=cs):Z3 view 2 (some (q,[.var cs,.row g w xs]))=some (q,[.var cs,.row g w xs]):=by
 unfold Z3
 split
 ·have hnp:∀ x,q≠.pan x:=by rintro x rfl;simp[viewR,ZP,ZK]at hv
  rw[show ZbB 2 (some (q,[.var cs,.row g w xs]))=(match viewR [.var cs,.row g w xs] q with
   |some (r',ts)=>match gcA 2 [r'] (Zr [.var cs,.row g w xs] ts)with
    |([r''],σ')=>some (r'',σ')
    |_=>none
   |none=>none)from by cases q<;>first |rfl |exact absurd rfl (hnp _)]
  rw[hv]
  simp only[show Zr [ZO.var cs,.row g w xs] []=[.var cs,.row g w xs]from rfl,ZA5 hn hrf hg hren]
 ·rfl
theorem Zqf{x:AVal}{σ:Za}(view:Bool):Z3 view 2 (some (.pan x,σ))=some (.pan x,σ):=by
 unfold Z3
 split<;>rfl
def Zq(Q:List AVal)(k r g n:Nat):List AVal:=Q.set k (.sl r g 0 n)
section
variable (Q:List AVal)(hQ:Q.length=26)(hN:Zf Q=true)(k:Nat)(hk:k<26)(n:Nat)
include hQ hN hk
theorem Zcj(r g:Nat):(Zq Q k r g n).length=26:=by simp[Zq,hQ]
theorem ZcF(r g:Nat):Zt (Zq Q k r g n)=[r]:=by
 unfold Zq
 rw[ZkR hN (by omega)]
 rfl
theorem ZbX{r g r' g':Nat}(ρ:Rho)(h:ρ r g=some (r',g')):Zh ρ (Zq Q k r g n)=Zq Q k r' g' n:=by
 unfold Zq
 rw[Zj7 ρ hN]
 simp only[Zo,h]
variable (w:Nat)(xs:List AVal)(l:Zc)(hl:l.length<=140737488355328)(σ:Za)(t r g sq:Nat)(htr:t≠r)(hs:σ[t]?=some (.var (Zq Q k r g n++[.lst false (l.map Zb)])))(hr:σ[r]?=some (.row g w xs))
include hl htr hs hr
theorem Zk7{c:Nat}{m a:Int}{l2:Zc}(hm:((c:Nat):Int)=m)(h:ZaU c l=.ok (a,l2)):Zj E BY σ sq 101 0 true [.ref t 0,.int .i64 m]=some (.int .i64 a,(σ.set t (.var (Zq Q k r g n++[.lst false (l2.map Zb)]))).set r (.row g w xs),{ any:=true,upd:=[(t,Zq Q k r g n++[.lst false (l2.map Zb)])] }):=by
 subst hm
 unfold ZaU at h
 split at h
 ·cases h
 ·injection h with h;injection h with h1 h2;subst h1 h2
  have e:=ZUV (Zq Q k 1 0 n) (Zcj Q hQ hN k hk n 1 0) (ZcF Q hQ hN k hk n 1 0) (fun ρ h=>ZbX Q hQ hN k hk n ρ h) w xs l c (by omega) hl
  exact ZhO (g2:=0) (own:=0) (rest:=[.int .i64 (c:Nat)]) hs hr htr (by rw[Zc8,ZcF Q hQ hN k hk n];rfl) (by kernel_rfl) rfl (fun ρ h=>by rw[Zcb,ZbX Q hQ hN k hk n ρ h];rfl) (by omega) rfl rfl e
   (Zm1 true rfl rfl (by rw[Zc8,ZcF Q hQ hN k hk n];rfl) (by omega) (fun ρ h=>by rw[Zcb,ZbX Q hQ hN k hk n ρ h];rfl)) (fun ρ h=>by rw[Zcb,ZbX Q hQ hN k hk n ρ (h 0)];rfl)
theorem ZAy{c:Nat}{m e:Int}(hm:((c:Nat):Int)=m)(hc:c<=9223372036854775807)(h:ZaU c l=.error e):Zj E BY σ sq 101 0 true [.ref t 0,.int .i64 m]=some (.pan (ZH e),(σ.set t (.var (Zq Q k r g n++[.lst false (l.map Zb)]))).set r (.row g w xs),{ any:=true,upd:=[(t,Zq Q k r g n++[.lst false (l.map Zb)])] }):=by
 subst hm
 unfold ZaU at h
 split at h
 ·injection h with h;subst h
  have e:=ZPs (Zq Q k 1 0 n) (Zcj Q hQ hN k hk n 1 0) (ZcF Q hQ hN k hk n 1 0) (fun ρ h=>ZbX Q hQ hN k hk n ρ h) w xs l c (by omega) hc
  exact ZhO (g2:=0) (own:=0) (rest:=[.int .i64 (c:Nat)]) hs hr htr (by rw[Zc8,ZcF Q hQ hN k hk n];rfl) (by kernel_rfl) rfl (fun ρ h=>by rw[Zcb,ZbX Q hQ hN k hk n ρ h];rfl) (by omega) rfl rfl e
   (Zqf true) (fun ρ h=>by rw[Zcb,ZbX Q hQ hN k hk n ρ (h 0)];rfl)
 ·cases h
theorem Zq2{a l2:Zc}(h:ZaD l=.ok (a,l2)):Zj E BY σ sq 110 0 true [.ref t 0]=some (.str a,(σ.set t (.var (Zq Q k r g n++[.lst false (l2.map Zb)]))).set r (.row g w xs),{ any:=true,upd:=[(t,Zq Q k r g n++[.lst false (l2.map Zb)])] }):=by
 unfold ZaD at h
 split at h
 ·rename_i h0
  injection h with h;injection h with h1 h2;subst h1 h2
  have e:=ZTz (Zq Q k 1 0 n) (Zcj Q hQ hN k hk n 1 0) (ZcF Q hQ hN k hk n 1 0) (fun ρ h=>ZbX Q hQ hN k hk n ρ h) w xs l hl h0
  exact ZhO (g2:=0) (own:=0) (rest:=[]) hs hr htr (by rw[Zc8,ZcF Q hQ hN k hk n];rfl) (by kernel_rfl) rfl (fun ρ h=>by rw[Zcb,ZbX Q hQ hN k hk n ρ h];rfl) (by omega) rfl rfl e
   (Zm1 true rfl rfl (by rw[Zc8,ZcF Q hQ hN k hk n];rfl) (by omega) (fun ρ h=>by rw[Zcb,ZbX Q hQ hN k hk n ρ h];rfl)) (fun ρ h=>by rw[Zcb,ZbX Q hQ hN k hk n ρ (h 0)];rfl)
 ·cases h
theorem ZwD{c:Int}(h:ZaD l=.error c):Zj E BY σ sq 110 0 true [.ref t 0]=some (.pan (ZH c),(σ.set t (.var (Zq Q k r g n++[.lst false (l.map Zb)]))).set r (.row g w xs),{ any:=true,upd:=[(t,Zq Q k r g n++[.lst false (l.map Zb)])] }):=by
 unfold ZaD at h
 split at h
 ·cases h
 ·rename_i h0
  injection h with h;subst h
  have e:=ZGK (Zq Q k 1 0 n) (Zcj Q hQ hN k hk n 1 0) (ZcF Q hQ hN k hk n 1 0) (fun ρ h=>ZbX Q hQ hN k hk n ρ h) w xs l hl h0
  exact ZhO (g2:=0) (own:=0) (rest:=[]) hs hr htr (by rw[Zc8,ZcF Q hQ hN k hk n];rfl) (by kernel_rfl) rfl (fun ρ h=>by rw[Zcb,ZbX Q hQ hN k hk n ρ h];rfl) (by omega) rfl rfl e
   (Zqf true) (fun ρ h=>by rw[Zcb,ZbX Q hQ hN k hk n ρ (h 0)];rfl)
end
section
variable (Q:List AVal)(hQ:Q.length=26)(hN:Zf Q=true)(k:Nat)(hk:k<26)(n:Nat)(w:Nat)(xs:List AVal)(l:Zc)(hl:l.length<=140737488355328)(kd:Int)(h0:(Zq Q k 1 0 n)[0]?=some (.int .i64 kd))
include hQ hN hk hl h0
theorem ZHJ{c:Int}{r:Zc}(h:ZaY kd l=.ok (c,r)):E 102 [.ref 0 0] [.var (Zq Q k 1 0 n++[.lst false (l.map Zb)]),.row 0 w xs]=some (.int .i64 c,[.var (Zq Q k 1 0 n++[.lst false (r.map Zb)]),.row 0 w xs]):=by
 unfold ZaY at h
 split at h
 case h_2=>cases h
 rename_i n' r' h2
 split at h
 case isFalse=>cases h
 rename_i hn
 injection h with h;injection h with h3 h4;subst h3 h4
 have hG:=fun σ sq hs hr=>Zk7 Q hQ hN k hk n w xs l hl σ 0 1 0 sq (by omega) hs hr (m:=1) rfl h2
 have hL:=Zcj Q hQ hN k hk n 1 0
 have hR:=ZcF Q hQ hN k hk n 1 0
 have hS:∀ ρ:Rho,ρ 1 0=some (1,0)->Zh ρ (Zq Q k 1 0 n)=Zq Q k 1 0 n:=fun ρ h=>ZbX Q hQ hN k hk n ρ h
 generalize Zq Q k 1 0 n=P at *
 have a4:=fun L=>(Zam P hL 0 (by omega) L).trans h0
 have m1:=Zbw
 have hC:=fun σ sq own=>ZkK kd n' σ sq own
 rw[hn]at hC
 rw[Zi (by rfl) ZgZ]
 simp -implicitDefEqProofs only[EQA,Xe,Xc,Xa,reduceCtorEq,↓reduceIte,Zg4,Ze1,ZvK,Zd,hG,hC,a4,m1]
 exact ZhD P hL hR hS w xs rfl _ _
theorem ZSI{c:Int}(h:ZaY kd l=.error c):∃ r:Zc,E 102 [.ref 0 0] [.var (Zq Q k 1 0 n++[.lst false (l.map Zb)]),.row 0 w xs]=some (.pan (ZH c),[.var (Zq Q k 1 0 n++[.lst false (r.map Zb)]),.row 0 w xs]):=by
 unfold ZaY at h
 have hL:=Zcj Q hQ hN k hk n 1 0
 have hR:=ZcF Q hQ hN k hk n 1 0
 have hS:∀ ρ:Rho,ρ 1 0=some (1,0)->Zh ρ (Zq Q k 1 0 n)=Zq Q k 1 0 n:=fun ρ h=>ZbX Q hQ hN k hk n ρ h
 split at h
 ·rename_i n' r' h2
  split at h
  case isTrue=>cases h
  rename_i hn
  injection h with h;subst h
  have hG:=fun σ sq hs hr=>Zk7 Q hQ hN k hk n w xs l hl σ 0 1 0 sq (by omega) hs hr (m:=1) rfl h2
  refine⟨r',?_⟩
  generalize Zq Q k 1 0 n=P at *
  have a4:=fun L=>(Zam P hL 0 (by omega) L).trans h0
  have m1:=ZbR
  have hC:=fun σ sq own=>ZkK kd n' σ sq own
  rw[WV _ |>.mp hn]at hC
  rw[Zi (by rfl) ZgZ]
  simp -implicitDefEqProofs only[EQA,Xe,Xc,Xa,reduceCtorEq,↓reduceIte,Zg4,Ze1,Zd,hG,hC,a4,m1]
  exact ZhD P hL hR hS w xs rfl _ _
 ·rename_i c' h2
  injection h with h;subst h
  have hG:=fun σ sq hs hr=>ZAy Q hQ hN k hk n w xs l hl σ 0 1 0 sq (by omega) hs hr (m:=1) rfl (by decide) h2
  refine⟨l,?_⟩
  generalize Zq Q k 1 0 n=P at *
  rw[Zi (by rfl) ZgZ]
  simp -implicitDefEqProofs only[EQA,Xe,Xc,reduceCtorEq,↓reduceIte,Zg4,Ze1,Zd,hG]
  exact ZhD P hL hR hS w xs rfl _ _
variable (σ:Za)(t r g sq:Nat)(htr:t≠r)(hs:σ[t]?=some (.var (Zq Q k r g n++[.lst false (l.map Zb)])))(hr:σ[r]?=some (.row g w xs))
include htr hs hr
theorem ZBE{c:Int}{l2:Zc}(h:ZaY kd l=.ok (c,l2)):Zj E BY σ sq 102 0 true [.ref t 0]=some (.int .i64 c,(σ.set t (.var (Zq Q k r g n++[.lst false (l2.map Zb)]))).set r (.row g w xs),{ any:=true,upd:=[(t,Zq Q k r g n++[.lst false (l2.map Zb)])] }):=by
 have e:=ZHJ Q hQ hN k hk n w xs l hl kd h0 h
 exact ZhO (g2:=0) (own:=0) (rest:=[]) hs hr htr (by rw[Zc8,ZcF Q hQ hN k hk n];rfl) (by kernel_rfl) rfl (fun ρ h=>by rw[Zcb,ZbX Q hQ hN k hk n ρ h];rfl) (by omega) rfl rfl e
  (Zm1 true rfl rfl (by rw[Zc8,ZcF Q hQ hN k hk n];rfl) (by omega) (fun ρ h=>by rw[Zcb,ZbX Q hQ hN k hk n ρ h];rfl)) (fun ρ h=>by rw[Zcb,ZbX Q hQ hN k hk n ρ (h 0)];rfl)
theorem ZS6{c:Int}(h:ZaY kd l=.error c):∃ l2:Zc,Zj E BY σ sq 102 0 true [.ref t 0]=some (.pan (ZH c),(σ.set t (.var (Zq Q k r g n++[.lst false (l2.map Zb)]))).set r (.row g w xs),{ any:=true,upd:=[(t,Zq Q k r g n++[.lst false (l2.map Zb)])] }):=by
 obtain⟨l2,e⟩:=ZSI Q hQ hN k hk n w xs l hl kd h0 h
 exact⟨l2,ZhO (g2:=0) (own:=0) (rest:=[]) hs hr htr (by rw[Zc8,ZcF Q hQ hN k hk n];rfl) (by kernel_rfl) rfl (fun ρ h=>by rw[Zcb,ZbX Q hQ hN k hk n ρ h];rfl) (by omega) rfl rfl e
  (Zqf true) (fun ρ h=>by rw[Zcb,ZbX Q hQ hN k hk n ρ (h 0)];rfl)⟩
end
end
section
structure ZbP where
 filter:Zc
 qos:Int
 noLocal:Bool
 asPublished:Bool
 handling:Int
 id:Int
 deriving DecidableEq
def Zaa(s:ZbP):AVal:=.agg [.str s.filter,.int .i64 s.qos,.bool s.noLocal,.bool s.asPublished,.int .i64 s.handling,.int .i64 s.id]
structure Zz7 where
 topic:Zc
 data:Zc
 qos:Int
 retain:Bool
 props:List Zp
 deriving DecidableEq
structure ZE where
 type:Int
 dup:Bool
 qos:Int
 retain:Bool
 id:Int
 topic:Zc
 payload:Zc
 code:Int
 codes:List Int
 props:List Zp
 subs:List ZbP
 filters:List Zc
 clean:Bool
 keep:Int
 client:Zc
 hasWill:Bool
 will:Zz7
 hasUser:Bool
 user:Zc
 hasPassword:Bool
 password:Zc
 present:Bool
 deriving DecidableEq
def ZaH(p:ZE):AVal:=.agg [.int .i64 p.type,.bool p.dup,.int .i64 p.qos,.bool p.retain,.int .i64 p.id,.str p.topic,.lst false (p.payload.map Zb),.int .i64 p.code,.lst false (p.codes.map (AVal.int .i64)),.lst false (p.props.map Zg),.lst false (p.subs.map Zaa),.lst false (p.filters.map AVal.str),.bool p.clean,.int .i64 p.keep,.str p.client,.bool p.hasWill,.str p.will.topic,.lst false (p.will.data.map Zb),.int .i64 p.will.qos,.bool p.will.retain,.lst false (p.will.props.map Zg),.bool p.hasUser,.str p.user,.bool p.hasPassword,.lst false (p.password.map Zb),.bool p.present]
end
section
def ZgB(m:Int):Int:=IntKind.i64.wrap (m.tdiv 16)
def ZbN(l:Zc):RK ZbP:=match ZaD l with
 | .error c=>.error c
 | .ok (f,r1)=>match ZaU 1 r1 with
  | .error c=>.error c
  | .ok (o,r2)=>if o<64 then(if ZD o 3<3/\ZgB o<3 then .ok (⟨f,ZD o 3,ZD o 4 != 0,ZD o 8 != 0,ZgB o,0⟩,r2)else .error 130)else .error 129
theorem Zdv{cs cs' xs:List AVal}{w j:Nat}{r:AVal}{σ:Za}(hr:ZS r=true)(hj:j≠0)(h0:σ[0]?=some (.var cs))(h1:σ[j]?=some (.row 0 w xs))(hrf:Zt cs=[j])(hren:∀ ρ:Rho,ρ j 0=some (1,0)->Zh ρ cs=cs'):Z4 1 σ r=some (r,[.var cs',.row 0 w xs]):=by
 have d0:σ.getD 0 .free=.var cs:=by simp[Xh,h0]
 have d1:σ.getD j .free=.row 0 w xs:=by simp[Xh,h1]
 have e1:=(Zbm (Zk σ 1 [0,j]) r hr)
 have ej:([0]:List Nat).contains j=false:=by simp;omega
 have hi:Zu 1 [r] σ=[0,j]:=by
  have : Zt [r]=[]:=by simp only[Zt,e1.2,Xo]
  have hR:Wa 1=[0]:=rfl
  simp only[Zu,this,XA,hR,XK,X5,Xo,d0,Zx,hrf]
  rw[show(1000:Nat)=998+1+1 from rfl,Zs,ej]
  simp only[Xj,if_false,d1,Zx,XA]
  rfl
 have hρ:Zk σ 1 [0,j] j 0=some (1,0):=by
  have : ¬(0:Nat)=j:=fun e=>hj e.symm
  simp[Zk,ZI,Zl,ZF,h1,this]
 simp only[Z4,gcA,hi,Zh,e1.1,Zn,d0,d1,ZF,Zl,Zy,hren _ hρ]
 simp
section
variable (P:List AVal)(hP:P.length=26)(hN:Zf P=true)(h10:P[10]?=some (.lst true []))(l:Zc)(hl:l.length<=140737488355328)
include hP hN h10 hl
theorem ZUs{s:ZbP}{r:Zc}(h:ZbN l=.ok (s,r)):E 108 [.ref 0 0] (Zm P l)=some (.tup [],[.var (Zq P 10 1 0 1++[.lst false (r.map Zb)]),.row 0 6 [Zaa s]]):=by
 unfold ZbN at h
 split at h
 ·cases h
 rename_i f r1 ht
 have l1:=Zeb ht
 split at h
 ·cases h
 rename_i o r2 hn
 split at h
 case isFalse=>cases h
 rename_i h64
 split at h
 case isFalse=>cases h
 rename_i hq
 obtain⟨hq1,hq2⟩:=hq
 injection h with h;injection h with e1 e2;subst e1 e2
 have hT:=fun σ sq hs=>ZeF P hP hN l hl σ 0 sq hs ht
 have hG:=fun σ sq hs=>Zde P hP hN r1 (by omega) σ 0 sq hs (m:=1) rfl hn
 have m0:=Zbw
 have a1:=Zal P hP
 have a3:=fun L v=>ZaL P hP 10 11 (by omega) rfl L v
 have a4:=fun L=>(Zam P hP 10 (by omega) L).trans h10
 have z:¬(16:Int)=0:=by decide
 unfold Zq Zaa Zm
 unfold ZD ZgB at *
 rw[Zi (by rfl) Zd9]
 simp -implicitDefEqProofs only[EQA,ZaG,Zv,Xe,Xc,Xf,Xa,Xg,Zw,unG,reduceCtorEq,ZY,↓reduceIte,Zf,Zee,ZdA,Zzr,Zd,hT,hG,m0,a1,a3,a4,z,h64,hq1,hq2,Zab,AVal.cells,ZaE,viewAs,ZP,ZK,Zat,Zr,W7,XF,Z6,Zaf,Zah,Zau,Zas,Zar,Zav,Zaw,Zag,Xy,kOk]
 refine Zdv (j:=2) rfl (by omega) rfl rfl ?_ (fun ρ h=>?_)
 ·rw[Zc8,ZkR hN (by omega)];rfl
 ·rw[Zcb,Zj7 ρ hN]
  simp only[Zo,h]
  rfl
end
theorem ZCW(ss:List ZbP):kOk 6 (ss.map Zaa)=true:=by cases ss<;>rfl
section
variable (P:List AVal)(hP:P.length=26)(hN:Zf P=true)(ss:List ZbP)(hss:ss.length*48+48<=140737488355328)(l:Zc)(hl:l.length<=140737488355328)
include hP hN hss hl
theorem ZJL{s:ZbP}{r:Zc}(h:ZbN l=.ok (s,r)):E 108 [.ref 0 0] [.var (Zq P 10 1 0 ss.length++[.lst false (l.map Zb)]),.row 0 6 (ss.map Zaa)]=some (.tup [],[.var (Zq P 10 1 1 (ss.length+1)++[.lst false (r.map Zb)]),.row 1 6 ((ss++[s]).map Zaa)]):=by
 unfold ZbN at h
 split at h
 ·cases h
 rename_i f r1 ht
 have l1:=Zeb ht
 split at h
 ·cases h
 rename_i o r2 hn
 split at h
 case isFalse=>cases h
 rename_i h64
 split at h
 case isFalse=>cases h
 rename_i hq
 obtain⟨hq1,hq2⟩:=hq
 injection h with h;injection h with e1 e2;subst e1 e2
 have hT:=fun σ sq hs hr=>Zq2 P hP hN 10 (by omega) ss.length 6 (ss.map Zaa) l hl σ 0 1 0 sq (by omega) hs hr ht
 have hG:=fun σ sq hs hr=>Zk7 P hP hN 10 (by omega) ss.length 6 (ss.map Zaa) r1 (by omega) σ 0 1 0 sq (by omega) hs hr (m:=1) rfl hn
 have m0:=Zbw
 have hL:=Zcj P hP hN 10 (by omega) ss.length 1 0
 have a1:=Zal _ hL
 have a3:=fun L v=>ZaL _ hL 10 11 (by omega) rfl L v
 have h10:(Zq P 10 1 0 ss.length)[10]?=some (.sl 1 0 0 ss.length):=by unfold Zq;rw[X7 (by omega)]
 have a4:=fun L=>(Zam _ hL 10 (by omega) L).trans h10
 have hset:(Zq P 10 1 0 ss.length).set 10 (.sl 1 1 0 (ss.length+1))=Zq P 10 1 1 (ss.length+1):=by unfold Zq;rw[Xbj]
 have z:¬(16:Int)=0:=by decide
 have kk:=ZCW ss
 have k1:∀ a b c d e f:AVal,kOk 6 [.agg [a,b,c,d,e,f]]=true:=fun _ _ _ _ _ _=>rfl
 have len:(ss.map Zaa).length=ss.length:=by simp
 have tk:(ss.map Zaa).take ss.length=ss.map Zaa:=by rw[<-len,Xaz]
 have lim:(ss.length+1)*48<=140737488355328:=by omega
 have lim2:48*(ss.length+1)<=140737488355328:=by omega
 unfold ZD ZgB at *
 rw[Zi (by rfl) Zd9]
 simp -implicitDefEqProofs only[EQA,ZaG,Xe,Xc,Xf,Xa,Xg,Zw,unG,reduceCtorEq,ZY,↓reduceIte,Zee,ZdA,Zzr,Zd,hT,hG,m0,a1,a3,a4,z,h64,hq1,hq2,Zab,AVal.cells,ZaE,viewAs,ZP,ZK,Zat,Zr,XF,Z6,Zaf,Zah,Zau,Zas,Zar,Zav,Zaw,Zag,Xy,k1,len,lim,hset]
 rw[ZpS (g:=1) rfl (by rw[Zc8,ZcF P hP hN 10 (by omega)];rfl) (by omega) (fun ρ h=>by rw[Zcb,ZbX P hP hN 10 (by omega) _ ρ h];rfl)]
 simp only[X4,Xm,Xt]
 rfl
end
section
variable (P:List AVal)(hP:P.length=26)(hN:Zf P=true)(l:Zc)(hl:l.length<=140737488355328)
include hP hN hl
theorem ZKN{e:Int}(h:ZbN l=.error e):∃ cs,Zf cs=true/\E 108 [.ref 0 0] (Zm P l)=some (.pan (ZH e),[.var cs]):=by
 unfold ZbN at h
 have z:¬(16:Int)=0:=by decide
 unfold Zm
 split at h
 ·rename_i c ht
  injection h with h;subst h
  have hT:=fun σ sq hs=>ZhB P hP hN l hl σ 0 sq hs ht
  refine⟨_,ZG P hP hN false (l.map Zb),?_⟩
  rw[Zi (by rfl) Zd9]
  simp -implicitDefEqProofs only[EQA,Xc,↓reduceIte,Zee,ZdA,Zd,hT]
  exact Z7 rfl (ZG P hP hN _ _)
 rename_i f r1 ht
 have l1:=Zeb ht
 have hT:=fun σ sq hs=>ZeF P hP hN l hl σ 0 sq hs ht
 split at h
 ·rename_i c hn
  injection h with h;subst h
  have hG:=fun σ sq hs=>ZgI P hP hN r1 (by omega) σ 0 sq hs (m:=1) rfl (by decide) hn
  refine⟨_,ZG P hP hN false (r1.map Zb),?_⟩
  rw[Zi (by rfl) Zd9]
  simp -implicitDefEqProofs only[EQA,ZaG,Xe,Xc,Xf,Xa,Xg,reduceCtorEq,↓reduceIte,Zee,ZdA,Zd,hT,hG,Zab,AVal.cells]
  exact Z7 rfl (ZG P hP hN _ _)
 rename_i o r2 hn
 have hG:=fun σ sq hs=>Zde P hP hN r1 (by omega) σ 0 sq hs (m:=1) rfl hn
 have m0:=Zbw
 have m1:=ZbR
 refine⟨_,ZG P hP hN false (r2.map Zb),?_⟩
 split at h
 case isFalse =>
  rename_i h64
  injection h with h;subst h
  rw[Zi (by rfl) Zd9]
  simp -implicitDefEqProofs only[EQA,ZaG,Xe,Xc,Xf,Xa,Xg,reduceCtorEq,↓reduceIte,Zee,ZdA,Zd,hT,hG,m1,h64,Zab,AVal.cells]
  exact Z7 rfl (ZG P hP hN _ _)
 rename_i h64
 split at h
 ·cases h
 rename_i hq
 injection h with h;subst h
 by_cases hq1:ZD o 3<3
 ·have hq2:¬ZgB o<3:=fun h=>hq ⟨hq1,h⟩
  unfold ZD ZgB at *
  rw[Zi (by rfl) Zd9]
  simp -implicitDefEqProofs only[EQA,ZaG,Xe,Xc,Xf,Xa,Xg,Zw,unG,reduceCtorEq,↓reduceIte,Zee,ZdA,Zd,hT,hG,m0,m1,z,h64,hq1,hq2,Zab,AVal.cells]
  exact Z7 rfl (ZG P hP hN _ _)
 ·unfold ZD at *
  rw[Zi (by rfl) Zd9]
  simp -implicitDefEqProofs only[EQA,ZaG,Xe,Xc,Xf,Xa,Xg,Zw,Zad,reduceCtorEq,↓reduceIte,Zee,ZdA,Zd,hT,hG,m0,m1,z,h64,hq1,Zab,AVal.cells]
  exact Z7 rfl (ZG P hP hN _ _)
variable (ss:List ZbP)
theorem ZQs{e:Int}(h:ZbN l=.error e):∃ r:Zc,E 108 [.ref 0 0] [.var (Zq P 10 1 0 ss.length++[.lst false (l.map Zb)]),.row 0 6 (ss.map Zaa)]=some (.pan (ZH e),[.var (Zq P 10 1 0 ss.length++[.lst false (r.map Zb)]),.row 0 6 (ss.map Zaa)]):=by
 unfold ZbN at h
 have z:¬(16:Int)=0:=by decide
 have fin:∀ (r:Zc) (σ:Za) (x:AVal),ZS x=true->Z4 2 (.var (Zq P 10 1 0 ss.length++[.lst false (r.map Zb)])::.row 0 6 (ss.map Zaa)::σ) x=some (x,[.var (Zq P 10 1 0 ss.length++[.lst false (r.map Zb)]),.row 0 6 (ss.map Zaa)]):=fun r σ x hx =>
  ZpS (g:=0) hx (by rw[Zc8,ZcF P hP hN 10 (by omega)];rfl) (by omega) (fun ρ h=>by rw[Zcb,ZbX P hP hN 10 (by omega) _ ρ h];rfl)
 split at h
 ·rename_i c ht
  injection h with h;subst h
  have hT:=fun σ sq hs hr=>ZwD P hP hN 10 (by omega) ss.length 6 (ss.map Zaa) l hl σ 0 1 0 sq (by omega) hs hr ht
  refine⟨l,?_⟩
  rw[Zi (by rfl) Zd9]
  simp -implicitDefEqProofs only[EQA,Xe,Xc,↓reduceIte,Zee,ZdA,Zd,hT]
  exact fin _ _ _ rfl
 rename_i f r1 ht
 have l1:=Zeb ht
 have hT:=fun σ sq hs hr=>Zq2 P hP hN 10 (by omega) ss.length 6 (ss.map Zaa) l hl σ 0 1 0 sq (by omega) hs hr ht
 split at h
 ·rename_i c hn
  injection h with h;subst h
  have hG:=fun σ sq hs hr=>ZAy P hP hN 10 (by omega) ss.length 6 (ss.map Zaa) r1 (by omega) σ 0 1 0 sq (by omega) hs hr (m:=1) rfl (by decide) hn
  refine⟨r1,?_⟩
  rw[Zi (by rfl) Zd9]
  simp -implicitDefEqProofs only[EQA,ZaG,Xe,Xc,Xf,Xa,Xg,reduceCtorEq,↓reduceIte,Zee,ZdA,Zd,hT,hG,Zab,AVal.cells]
  exact fin _ _ _ rfl
 rename_i o r2 hn
 have hG:=fun σ sq hs hr=>Zk7 P hP hN 10 (by omega) ss.length 6 (ss.map Zaa) r1 (by omega) σ 0 1 0 sq (by omega) hs hr (m:=1) rfl hn
 have m0:=Zbw
 have m1:=ZbR
 refine⟨r2,?_⟩
 split at h
 case isFalse =>
  rename_i h64
  injection h with h;subst h
  rw[Zi (by rfl) Zd9]
  simp -implicitDefEqProofs only[EQA,ZaG,Xe,Xc,Xf,Xa,Xg,reduceCtorEq,↓reduceIte,Zee,ZdA,Zd,hT,hG,m1,h64,Zab,AVal.cells]
  exact fin _ _ _ rfl
 rename_i h64
 split at h
 ·cases h
 rename_i hq
 injection h with h;subst h
 by_cases hq1:ZD o 3<3
 ·have hq2:¬ZgB o<3:=fun h=>hq ⟨hq1,h⟩
  unfold ZD ZgB at *
  rw[Zi (by rfl) Zd9]
  simp -implicitDefEqProofs only[EQA,ZaG,Xe,Xc,Xf,Xa,Xg,Zw,unG,reduceCtorEq,↓reduceIte,Zee,ZdA,Zd,hT,hG,m0,m1,z,h64,hq1,hq2,Zab,AVal.cells]
  exact fin _ _ _ rfl
 ·unfold ZD at *
  rw[Zi (by rfl) Zd9]
  simp -implicitDefEqProofs only[EQA,ZaG,Xe,Xc,Xf,Xa,Xg,Zw,Zad,reduceCtorEq,↓reduceIte,Zee,ZdA,Zd,hT,hG,m0,m1,z,h64,hq1,Zab,AVal.cells]
  exact fin _ _ _ rfl
end
end
section
section
variable (P:List AVal)(hP:P.length=26)(hN:Zf P=true)
include hP hN
theorem ZPV(k:Int)(hk:P[0]?=some (.int .i64 k))(l:Zc)(hl:l.length<=140737488355328){c:Int}(h:ZaY k l=.error c):∃ r:Zc,E 102 [.ref 0 0] [.var (P++[.lst false (l.map Zb)])]=some (.pan (ZH c),[.var (P++[.lst false (r.map Zb)])]):=by
 unfold ZaY at h
 split at h
 ·rename_i n' r' h2
  split at h
  case isTrue=>cases h
  rename_i hn
  injection h with h;subst h
  have hG:=fun σ sq hs=>Zde P hP hN l hl σ 0 sq hs (m:=1) rfl h2
  have a4:=fun L=>(Zam P hP 0 (by omega) L).trans hk
  have m1:=ZbR
  have hC:=fun σ sq own=>ZkK k n' σ sq own
  rw[WV _ |>.mp hn]at hC
  refine⟨r',?_⟩
  rw[Zi (by rfl) ZgZ]
  simp -implicitDefEqProofs only[EQA,Xc,Xa,reduceCtorEq,↓reduceIte,Zg4,Ze1,Zd,hG,hC,a4,m1]
  exact Z7 rfl (ZaQ hN (by rfl))
 ·rename_i c' h2
  injection h with h;subst h
  have hG:=fun σ sq hs=>ZgI P hP hN l hl σ 0 sq hs (m:=1) rfl (by decide) h2
  refine⟨l,?_⟩
  rw[Zi (by rfl) ZgZ]
  simp -implicitDefEqProofs only[EQA,Xc,reduceCtorEq,↓reduceIte,Zg4,Ze1,Zd,hG]
  exact Z7 rfl (ZaQ hN (by rfl))
end
section
variable (P:List AVal)(hP:P.length=26)(hN:Zf P=true)(l:Zc)(hl:l.length<=140737488355328)
include hP hN hl
theorem ZBt(h11:P[11]?=some (.lst true [])){s r:Zc}(h:ZaD l=.ok (s,r)):evC FC PR BY 3 ZdT [(1,.ref 2 0),(0,.ref 0 0)] [.var [.ref 1 0],.var (P++[.lst false (l.map Zb)]),.var [.ref 1 0]]=some (.normal,[],[.var [.ref 1 0],.var (Zq P 11 3 0 1++[.lst false (r.map Zb)]),.var [.ref 1 0],.row 0 1 [.str s]]):=by
 have hT:=fun σ sq hs=>ZeF P hP hN l hl σ 1 sq hs h
 have a1:=Zal P hP
 have a3:=fun L v=>ZaL P hP 11 12 (by omega) rfl L v
 have a4:=fun L=>(Zam P hP 11 (by omega) L).trans h11
 unfold Zq
 simp -implicitDefEqProofs only[EQA,Xe,Xc,Xf,Xa,Xg,reduceCtorEq,ZY,↓reduceIte,ZdT,Zd,hT,a1,a3,a4,AVal.cells,ZaE,viewAs,ZP,ZK,Zr,W7,Z6,Zaf,Zah,Zau,Zas,Zar,Zav,Zaw,Zag,ZdX,XL,Xy,kOk]
theorem ZPZ{c:Int}(h:ZaD l=.error c)(h11:P[11]?=some (.lst true [])):evC FC PR BY 3 ZdT [(1,.ref 2 0),(0,.ref 0 0)] [.var [.ref 1 0],.var (P++[.lst false (l.map Zb)]),.var [.ref 1 0]]=some (.panic (ZH c),[],[.var [.ref 1 0],.var (P++[.lst false (l.map Zb)]),.var [.ref 1 0],.free]):=by
 have hT:=fun σ sq hs=>ZhB P hP hN l hl σ 1 sq hs h
 have a4:=fun L=>(Zam P hP 11 (by omega) L).trans h11
 simp -implicitDefEqProofs only[EQA,Xe,WK,Xc,Xf,Xa,Xg,reduceCtorEq,↓reduceIte,ZdT,Zd,hT,a4,Ziy,ZdN,XaI,XaR,Z6,Zaf,Zah,Zau,Zas,Zar,Zav,Zaw,Zag,ZdX,XL,Xy]
theorem ZGs(h8:P[8]?=some (.lst true []))(k:Int)(hk:P[0]?=some (.int .i64 k)){c:Int}{r:Zc}(h:ZaY k l=.ok (c,r)):evC FC PR BY 3 ZdI [(1,.ref 2 0),(0,.ref 0 0)] [.var [.ref 1 0],.var (P++[.lst false (l.map Zb)]),.var [.ref 1 0]]=some (.normal,[],[.var [.ref 1 0],.var (Zq P 8 3 0 1++[.lst false (r.map Zb)]),.var [.ref 1 0],.row 0 1 [.int .i64 c]]):=by
 have hT:=fun σ sq hs=>ZkY P hP hN l hl σ 1 sq hs k hk h
 have a1:=Zal P hP
 have a3:=fun L v=>ZaL P hP 8 9 (by omega) rfl L v
 have a4:=fun L=>(Zam P hP 8 (by omega) L).trans h8
 unfold Zq
 simp -implicitDefEqProofs only[EQA,Xe,Xc,Xf,Xa,Xg,reduceCtorEq,ZY,↓reduceIte,ZdI,Zd,hT,a1,a3,a4,AVal.cells,ZaE,viewAs,ZP,ZK,Zr,W7,Z6,Zaf,Zah,Zau,Zas,Zar,Zav,Zaw,Zag,ZdX,XL,Xy,kOk]
theorem ZGk(h8:P[8]?=some (.lst true []))(k:Int)(hk:P[0]?=some (.int .i64 k)){e:Int}(h:ZaY k l=.error e):∃ r:Zc,evC FC PR BY 3 ZdI [(1,.ref 2 0),(0,.ref 0 0)] [.var [.ref 1 0],.var (P++[.lst false (l.map Zb)]),.var [.ref 1 0]]=some (.panic (ZH e),[],[.var [.ref 1 0],.var (P++[.lst false (r.map Zb)]),.var [.ref 1 0],.free]):=by
 obtain⟨r,he⟩:=ZPV P hP hN k hk l hl h
 have hT:=fun(σ:Za) sq (hs:σ[1]?=some (.var (P++[.lst false (l.map Zb)])))=>Zc1 (O:=E) (bf:=BY) (f:=102) (view:=true) (rest:=[]) (by kernel_rfl) rfl (ZG P hP hN _ _) (ZG P hP hN _ _) rfl he hs sq
 have a4:=fun L=>(Zam P hP 8 (by omega) L).trans h8
 refine⟨r,?_⟩
 simp -implicitDefEqProofs only[EQA,Xe,WK,Xc,Xf,Xa,Xg,reduceCtorEq,↓reduceIte,ZdI,Zd,hT,a4,Ziy,ZdN,XaI,XaR,Z6,Zaf,Zah,Zau,Zas,Zar,Zav,Zaw,Zag,ZdX,XL,Xy]
end
end
section
section
variable (P:List AVal)(hP:P.length=26)(hN:Zf P=true)(l:Zc)(hl:l.length<=140737488355328)
include hP hN hl
theorem ZGz(xs:List AVal)(hx:xs.length*16+16<=140737488355328)(kk:kOk 1 xs=true){s r:Zc}(h:ZaD l=.ok (s,r)):evC FC PR BY 4 ZdT [(1,.ref 3 0),(0,.ref 0 0)] [.var [.ref 1 0],.var (Zq P 11 2 0 xs.length++[.lst false (l.map Zb)]),.row 0 1 xs,.var [.ref 1 0]]=some (.normal,[],[.var [.ref 1 0],.var (Zq P 11 2 1 (xs.length+1)++[.lst false (r.map Zb)]),.row 1 1 (xs++[.str s]),.var [.ref 1 0],.free]):=by
 have hT:=fun σ sq hs hr=>Zq2 P hP hN 11 (by omega) xs.length 1 xs l hl σ 1 2 0 sq (by omega) hs hr h
 have hL:=Zcj P hP hN 11 (by omega) xs.length 2 0
 have a1:=Zal _ hL
 have a3:=fun L v=>ZaL _ hL 11 12 (by omega) rfl L v
 have hc:(Zq P 11 2 0 xs.length)[11]?=some (.sl 2 0 0 xs.length):=by unfold Zq;rw[X7 (by omega)]
 have a4:=fun L=>(Zam _ hL 11 (by omega) L).trans hc
 have hset:(Zq P 11 2 0 xs.length).set 11 (.sl 2 1 0 (xs.length+1))=Zq P 11 2 1 (xs.length+1):=by unfold Zq;rw[Xbj]
 have k1:kOk 1 [.str s]=true:=rfl
 have tk:xs.take xs.length=xs:=Xaz
 have lim:(xs.length+1)*16<=140737488355328:=by omega
 have lim2:16*(xs.length+1)<=140737488355328:=by omega
 simp -implicitDefEqProofs only[EQA,Xe,Xc,Xf,Xa,Xg,reduceCtorEq,ZY,↓reduceIte,ZdT,Zd,hT,a1,a3,a4,AVal.cells,ZaE,viewAs,ZP,ZK,Zr,Z6,Zaf,Zah,Zau,Zas,Zar,Zav,Zaw,Zag,ZdX,XL,Xy,k1,lim,hset]
theorem ZEJ(xs:List AVal)(hx:xs.length*8+8<=140737488355328)(kk:kOk 1 xs=true)(k:Int)(hk:P[0]?=some (.int .i64 k)){c:Int}{r:Zc}(h:ZaY k l=.ok (c,r)):evC FC PR BY 4 ZdI [(1,.ref 3 0),(0,.ref 0 0)] [.var [.ref 1 0],.var (Zq P 8 2 0 xs.length++[.lst false (l.map Zb)]),.row 0 1 xs,.var [.ref 1 0]]=some (.normal,[],[.var [.ref 1 0],.var (Zq P 8 2 1 (xs.length+1)++[.lst false (r.map Zb)]),.row 1 1 (xs++[.int .i64 c]),.var [.ref 1 0],.free]):=by
 have hk0:(Zq P 8 1 0 xs.length)[0]?=some (.int .i64 k):=by unfold Zq;rw[Xn (by omega)];exact hk
 have hT:=fun σ sq hs hr=>ZBE P hP hN 8 (by omega) xs.length 1 xs l hl k hk0 σ 1 2 0 sq (by omega) hs hr h
 have hL:=Zcj P hP hN 8 (by omega) xs.length 2 0
 have a1:=Zal _ hL
 have a3:=fun L v=>ZaL _ hL 8 9 (by omega) rfl L v
 have hc:(Zq P 8 2 0 xs.length)[8]?=some (.sl 2 0 0 xs.length):=by unfold Zq;rw[X7 (by omega)]
 have a4:=fun L=>(Zam _ hL 8 (by omega) L).trans hc
 have hset:(Zq P 8 2 0 xs.length).set 8 (.sl 2 1 0 (xs.length+1))=Zq P 8 2 1 (xs.length+1):=by unfold Zq;rw[Xbj]
 have k1:kOk 1 [.int .i64 c]=true:=rfl
 have tk:xs.take xs.length=xs:=Xaz
 have lim:(xs.length+1)*8<=140737488355328:=by omega
 have lim2:8*(xs.length+1)<=140737488355328:=by omega
 simp -implicitDefEqProofs only[EQA,Xe,Xc,Xf,Xa,Xg,reduceCtorEq,ZY,↓reduceIte,ZdI,Zd,hT,a1,a3,a4,AVal.cells,ZaE,viewAs,ZP,ZK,Zr,Z6,Zaf,Zah,Zau,Zas,Zar,Zav,Zaw,Zag,ZdX,XL,Xy,k1,lim,hset]
end
end
section
def ZwH(P:List AVal)(f c:Int)(ps:List Zp):List AVal:=((P.set 25 (.bool (f==1))).set 7 (.int .i64 c)).set 9 (.lst false (ps.map Zg))
section
variable (P:List AVal)(hP:P.length=26)(hN:Zf P=true)(h0:P[0]?=some (.int .i64 2))(l:Zc)(hl:l.length<=140737488355328)
include hP hN h0 hl
theorem ZPG{e:Int}(h:ZaU 1 l=.error e):∃ cs,Zf cs=true/\E 78 [.ref 0 0] (Zm P l)=some (.pan (ZH e),[.var cs]):=by
 have a4:=fun L=>(Zam P hP 0 (by omega) L).trans h0
 have hT:=fun σ sq hs=>ZgI P hP hN l hl σ 0 sq hs (m:=1) rfl (by decide) h
 refine⟨P++[.lst false (l.map Zb)],ZG P hP hN _ _,?_⟩
 unfold Zm
 rw[Zi (by rfl) Zby]
 simp -implicitDefEqProofs only[EQA,Zz,Xe,Xc,Xf,Xa,Xg,↓reduceIte,Zbz,Zbs,Zd,a4,hT,Xs]
 exact Z7 rfl (ZG P hP hN _ _)
theorem ZWa{f:Int}{r:Zc}(h:ZaU 1 l=.ok (f,r))(hf:¬f<2):∃ cs,Zf cs=true/\E 78 [.ref 0 0] (Zm P l)=some (.pan (ZH 129),[.var cs]):=by
 have a4:=fun L=>(Zam P hP 0 (by omega) L).trans h0
 have hT:=fun σ sq hs=>Zde P hP hN l hl σ 0 sq hs (m:=1) rfl h
 have m1:=ZbR
 refine⟨P++[.lst false (r.map Zb)],ZG P hP hN _ _,?_⟩
 unfold Zm
 rw[Zi (by rfl) Zby]
 simp -implicitDefEqProofs only[EQA,Zz,Xe,Xc,Xf,Xa,Xg,↓reduceIte,Zbz,Zbs,Zd,a4,hT,m1,hf,Xs]
 exact Z7 rfl (ZG P hP hN _ _)
theorem ZNe{f:Int}{r:Zc}(h:ZaU 1 l=.ok (f,r))(hf:f<2){e:Int}(hc:ZaY 2 r=.error e):∃ cs,Zf cs=true/\E 78 [.ref 0 0] (Zm P l)=some (.pan (ZH e),[.var cs]):=by
 have hr:=Zhp h
 have a1:=Zal P hP
 have a4:=fun L=>(Zam P hP 0 (by omega) L).trans h0
 have hT:=fun σ sq hs=>Zde P hP hN l hl σ 0 sq hs (m:=1) rfl h
 have m0:=Zbw
 have a3:=fun L=>ZaL P hP 25 26 (by omega) rfl L (.bool (f==1))
 have hP1:(P.set 25 (.bool (f==1))).length=26:=by simp[hP]
 have hN1:Zf (P.set 25 (.bool (f==1)))=true:=ZZ rfl _ hN
 have g0:(P.set 25 (.bool (f==1)))[0]?=some (.int .i64 2):=by rw[Xn (by omega)];exact h0
 generalize P.set 25 (.bool (f==1))=Q at *
 obtain⟨cs,hn,he⟩:=ZxX Q hP1 hN1 2 g0 r (by omega) hc
 have hC:=fun(σ:Za) sq (hs:σ[0]?=some (.var (Q++[.lst false (r.map Zb)])))=>Zc1 (O:=E) (bf:=BY) (f:=102) (view:=true) (rest:=[]) (by kernel_rfl) rfl (ZG Q hP1 hN1 _ _) hn rfl he hs sq
 refine⟨cs,hn,?_⟩
 unfold Zm
 rw[Zi (by rfl) Zby]
 simp -implicitDefEqProofs only[EQA,Zz,Xe,WK,Xc,Xf,Xa,Xg,↓reduceIte,Zbz,Zbs,Zd,a1,a3,a4,hT,hC,m0,hf,Xs,Ziy,ZdN,XaI,XaR,Z6,Zaf,Zah,Zau,Zas,Zar,Zav,Zaw,Zag,ZdX,XL,Xy]
 exact Z7 rfl hn
theorem ZMR{f:Int}{r:Zc}(h:ZaU 1 l=.ok (f,r))(hf:f<2){c:Int}{r2:Zc}(hc:ZaY 2 r=.ok (c,r2)){e:Int}(hp:ZbU 2 r2=.error e):∃ cs,Zf cs=true/\E 78 [.ref 0 0] (Zm P l)=some (.pan (ZH e),[.var cs]):=by
 have hr2:=ZlZ hc
 have hr:=Zhp h
 have a1:=Zal P hP
 have a4:=fun L=>(Zam P hP 0 (by omega) L).trans h0
 have hT:=fun σ sq hs=>Zde P hP hN l hl σ 0 sq hs (m:=1) rfl h
 have m0:=Zbw
 have a3:=fun L=>ZaL P hP 25 26 (by omega) rfl L (.bool (f==1))
 have hP1:(P.set 25 (.bool (f==1))).length=26:=by simp[hP]
 have hN1:Zf (P.set 25 (.bool (f==1)))=true:=ZZ rfl _ hN
 have g0:(P.set 25 (.bool (f==1)))[0]?=some (.int .i64 2):=by rw[Xn (by omega)];exact h0
 generalize P.set 25 (.bool (f==1))=Q at *
 have hC:=fun σ sq hs=>ZkY Q hP1 hN1 r (by omega) σ 0 sq hs 2 g0 hc
 have b1:=Zal _ hP1
 have b3:=fun L=>ZaL _ hP1 7 8 (by omega) rfl L (.int .i64 c)
 have hP2:(Q.set 7 (.int .i64 c)).length=26:=by simp[hP1]
 have hN2:Zf (Q.set 7 (.int .i64 c))=true:=ZZ rfl _ hN1
 generalize Q.set 7 (.int .i64 c)=S at *
 have hG:=fun σ sq hs=>Zgi S hP2 hN2 r2 (by omega) σ 0 sq hs hp
 have c1:=Zal _ hP2
 refine⟨S++[.lst false (r2.map Zb)],ZG _ hP2 hN2 _ _,?_⟩
 unfold Zm
 rw[Zi (by rfl) Zby]
 simp -implicitDefEqProofs only[EQA,Zz,Xe,WK,Xc,Xf,Xa,Xg,↓reduceIte,Zbz,Zbs,Zd,a1,a3,a4,b1,b3,hT,hC,hG,m0,hf,Xs,Ziy,ZdN,XaI,XaR,Z6,Zaf,Zah,Zau,Zas,Zar,Zav,Zaw,Zag,ZdX,XL,Xy]
 exact Z7 rfl (ZG _ hP2 hN2 _ _)
theorem ZWY{f:Int}{r:Zc}(h:ZaU 1 l=.ok (f,r))(hf:f<2){c:Int}{r2:Zc}(hc:ZaY 2 r=.ok (c,r2)){ps:List Zp}{r3:Zc}(hp:ZbU 2 r2=.ok (ps,r3))(hu:(Z9 2 r2).2.1<=r2.length):E 78 [.ref 0 0] (Zm P l)=some (if r3.length=0 then .tup []else .pan (ZH 129),Zm (ZwH P f c ps) r3):=by
 have hr2:=ZlZ hc
 have hr:=Zhp h
 have a1:=Zal P hP
 have a4:=fun L=>(Zam P hP 0 (by omega) L).trans h0
 have hT:=fun σ sq hs=>Zde P hP hN l hl σ 0 sq hs (m:=1) rfl h
 have m0:=Zbw
 have a3:=fun L=>ZaL P hP 25 26 (by omega) rfl L (.bool (f==1))
 have hP1:(P.set 25 (.bool (f==1))).length=26:=by simp[hP]
 have hN1:Zf (P.set 25 (.bool (f==1)))=true:=ZZ rfl _ hN
 have g0:(P.set 25 (.bool (f==1)))[0]?=some (.int .i64 2):=by rw[Xn (by omega)];exact h0
 unfold ZwH
 generalize P.set 25 (.bool (f==1))=Q at *
 have hC:=fun σ sq hs=>ZkY Q hP1 hN1 r (by omega) σ 0 sq hs 2 g0 hc
 have b1:=Zal _ hP1
 have b3:=fun L=>ZaL _ hP1 7 8 (by omega) rfl L (.int .i64 c)
 have hP2:(Q.set 7 (.int .i64 c)).length=26:=by simp[hP1]
 have hN2:Zf (Q.set 7 (.int .i64 c))=true:=ZZ rfl _ hN1
 generalize Q.set 7 (.int .i64 c)=S at *
 have hG:=fun σ sq hs=>ZeY S hP2 hN2 r2 (by omega) σ 0 sq hs hu hp
 have c1:=Zal _ hP2
 have c3:=fun L=>ZaL _ hP2 9 10 (by omega) rfl L (.lst false (ps.map Zg))
 have hP3:(S.set 9 (.lst false (ps.map Zg))).length=26:=by simp[hP2]
 have hN3:Zf (S.set 9 (.lst false (ps.map Zg)))=true:=ZZ (Zcn _ _) _ hN2
 generalize S.set 9 (.lst false (ps.map Zg))=U at *
 have d2:=ZaI _ hP3
 unfold Zm
 by_cases hr3:r3.length=0
 ·have z:=Ze2 (l:=r3) (decide_eq_true hr3)
  rw[if_pos hr3]
  rw[Zi (by rfl) Zby]
  simp -implicitDefEqProofs only[EQA,Zz,Zv,Xe,Xc,Xf,Xa,Xg,↓reduceIte,Zf,Zbz,Zbs,Zfz,Zd,a1,a3,a4,b1,b3,c1,c3,d2,z,hT,hC,hG,m0,hf,Xs,Z6,Zaf,Zah,Zau,Zas,Zar,Zav,Zaw,Zag,XL,Xy]
  exact Z7 rfl (ZG _ hP3 hN3 _ _)
 ·have z:=Ze2 (l:=r3) (decide_eq_false hr3)
  have m1:=ZbR
  rw[if_neg hr3]
  rw[Zi (by rfl) Zby]
  simp -implicitDefEqProofs only[EQA,Zz,Xe,Xc,Xf,Xa,Xg,↓reduceIte,Zbz,Zbs,Zd,a1,a3,a4,b1,b3,c1,c3,d2,z,hT,hC,hG,m0,m1,hf,Xs,Z6,Zaf,Zah,Zau,Zas,Zar,Zav,Zaw,Zag,XL,Xy]
  exact Z7 rfl (ZG _ hP3 hN3 _ _)
end
end
end Go.Proofs.YtfhocpplckoodaaGreatDoor
