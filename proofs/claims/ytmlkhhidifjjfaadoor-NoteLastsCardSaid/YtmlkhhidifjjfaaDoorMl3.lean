/- packed -/
import Derived.Test.YtmlkhhidifjjfaaDoorMl2
import Derived.Lib.TrimUEq
import Derived.Lib.MapLaws
import Derived.Lib.ValidLaws
set_option linter.defProp false
set_option linter.unusedSectionVars false
set_option linter.unusedSimpArgs false
set_option linter.unusedVariables false
namespace Go.Proofs.YtmlkhhidifjjfaaDoor
set_option maxHeartbeats 16000000
set_option maxRecDepth 10000
section
theorem ZCK (n:Nat):IntKind.u8.wrap (n:Int)=((UInt8.ofNat (n % 256)).toNat:Int):=by
 rw [IntKind.wrap_u8,UInt8.toNat_ofNat']
 omega
theorem ZNu (k n:Nat) (xs:List AVal) (σ:Za):Z6 0 (.row 0 k xs::σ) (.sl 0 0 0 n)=some (.sl 0 0 0 n,[.row 0 k xs]):=by
 simp [Z6,gcA,Zv,Zu,Zp,ZS,Zj,Zr,ZJ,Zl,ZE,Zf,Zm,Zw,ZC]
theorem ZMF (m:Nat) (z:AVal) (t:List AVal):(List.replicate (m+1) z++t)[m]?=some z:=by
 rw [List.getElem?_append_left (by simp)];simp
theorem ZNk (m:Nat) (z v:AVal) (t:List AVal):(List.replicate (m+1) z++t).set m v=List.replicate m z++v::t:=by
 rw [List.replicate_succ',List.append_assoc,List.set_append_right _ _ (by simp)];simp
theorem Zuj (W:Nat) (hW:W<=8):∀ (m n:Nat) (tail:Zb),m+tail.length=W->Zlw 0 [(6,.int .i64 ((m:Int) - 1)),(5,.sl 0 0 0 W),(0,.int .u64 (n:Nat))] [.row 0 1 (List.replicate m (.int .u8 0)++tail.map Zc)]=some (.sl 0 0 0 W,[.row 0 1 ((beB n m++tail).map Zc)])
 | 0,n,tail,h=>by
  have h1:¬(((0:Nat):Int) - 1>=0):=by omega
  unfold Zlw
  rw [Z2,beB]
  simp -implicitDefEqProofs only [EQA,Nat.reduceLT,Nat.reduceEqDiff,reduceCtorEq,↓reduceIte,ZEW,ZNQ,ZqF,ZtJ,Zlu,oI,oN,h1,ZNu]
 | m+1,n,tail,h=>by
  have ih:=Zuj W hW m (n / 256) (UInt8.ofNat (n % 256)::tail) (by simp;omega)
  have e0:((m+1:Nat):Int) - 1=(m:Int):=by omega
  have h1:(m:Int)>=0:=by omega
  have h2:(0:Int)<=(m:Int):=by omega
  have h3:m < W:=by omega
  have hg:=ZMF m (.int .u8 0) (tail.map Zc)
  have hs:=ZNk m (.int .u8 0) (Zc (UInt8.ofNat (n % 256))) (tail.map Zc)
  have hb:=ZCK n
  have hw:IntKind.i64.wrap ((m:Int) - 1)=(m:Int) - 1:=Za6 (by omega) (by omega)
  have hd:(n:Int).fdiv (2 ^ min (Int.toNat 8) IntKind.u64.bits)=((n / 256:Nat):Int):=by
   rw [show (2:Int) ^ min (Int.toNat 8) IntKind.u64.bits=256 from rfl,Int.fdiv_eq_ediv_of_nonneg _ (by decide)]
   omega
  have e1:beB n (m+1)++tail=beB (n / 256) m++(UInt8.ofNat (n % 256)::tail):=by simp [beB]
  rw [e0,e1]
  have e2:List.replicate m (AVal.int .u8 0)++(UInt8.ofNat (n % 256)::tail).map Zc=List.replicate m (.int .u8 0)++Zc (UInt8.ofNat (n % 256))::tail.map Zc:=rfl
  rw [e2] at ih
  generalize hX:List.replicate (m+1) (AVal.int .u8 0)++tail.map Zc=X at *
  generalize hY:List.replicate m (AVal.int .u8 0)++Zc (UInt8.ofNat (n % 256))::tail.map Zc=Y at *
  unfold Zc at hs
  unfold Zlw at ih ⊢
  rw [Z2]
  simp -implicitDefEqProofs only [EQA,ZV,Za2,Nat.reduceLT,Nat.reduceEqDiff,ZaC,reduceCtorEq,↓reduceIte,gcT,gcA,Zv,Zu,Zj,Zr,ZJ,Zl,ZE,Zw,ZC,ZtJ,Zlu,oI,oN,h1,h3,hg,hs,hb,hw,hd,Zdl,Int.toNat_natCast,AVal.cells,Zas,ZL,ZhE,Zq,Int.reduceLT]
  exact ih
theorem ZL3 (n W:Nat) (h1:1<=W) (hW:W<=8):E 59 [.int .u64 (n:Nat),.int .i64 (W:Nat)] []=some (.sl 0 0 0 W,[.row 0 1 ((beB n W).map Zc)]):=by
 have key:=Zuj W hW W n [] (by simp)
 have c1:¬((W:Int) < 1):=by omega
 have c2:¬((W:Int) > 8):=by omega
 have c3:(0:Int)<=(W:Int):=by omega
 have c4:(W:Int)<=9223372036854775807:=by omega
 have c5:((1:Nat):Int)*(W:Int)<=140737488355328:=by omega
 have w1:IntKind.i64.wrap ((W:Int) - 1)=(W:Int) - 1:=Za6 (by omega) (by omega)
 simp only [List.map_nil,List.append_nil] at key
 rw [Zh (by rfl) ZJK]
 unfold Zlw at key
 simp -implicitDefEqProofs only [EQA,ZK,ZV,Za2,Nat.reduceLT,Nat.reduceEqDiff,Nat.reduceBEq,ZD,unG,reduceCtorEq,↓reduceIte,gcT,gcA,Zv,Zu,Zj,Zr,ZJ,Zl,ZE,Zw,ZC,ZBF,Zrm,oI,c1,c2,c3,c4,c5,w1,Int.le_refl,Int.toNat_natCast]
 exact key
theorem Zl4 (σ:Za) (sq own:Nat) (n W:Nat) (h1:1<=W) (hW:W<=8):Zo E BY σ sq 59 own true [.int .u64 (n:Nat),.int .i64 (W:Nat)]=some (.lst false ((beB n W).map Zc),σ,{}) :=
 Zoc (bf:=BY) (ZL3 n W h1 hW) (by simp [ZaL]) rfl rfl σ sq own
theorem ZEv (x c:Nat) (hc:c < 256):IntKind.u64.wrap (((BitVec.ofInt IntKind.u64.bits (IntKind.u64.wrap ((x:Int)*2 ^ min (Int.toNat 8) IntKind.u64.bits)) ||| BitVec.ofInt IntKind.u64.bits (c:Int)).toNat:Nat):Int)=(((x*256+c) % 18446744073709551616:Nat):Int):=by
 rw [show (2:Int) ^ min (Int.toNat 8) IntKind.u64.bits=256 from rfl]
 have hb:IntKind.u64.bits=64:=rfl
 rw [hb,IntKind.wrap_u64,IntKind.wrap_u64]
 have e1:(x:Int)*256 % 18446744073709551616=((x*256 % 18446744073709551616:Nat):Int):=by omega
 rw [e1,BitVec.toNat_or]
 simp only [BitVec.ofInt_natCast,BitVec.toNat_ofNat]
 have e2:x*256 % 18446744073709551616 % 2 ^ 64=(x % 72057594037927936) <<< 8:=by
  rw [Nat.shiftLeft_eq];omega
 have e3:c % 2 ^ 64=c:=by omega
 rw [e2,e3,<-Nat.shiftLeft_add_eq_or_of_lt (by omega:c < 2 ^ 8),Nat.shiftLeft_eq]
 omega
theorem ZuM (b:Zb) (hl:b.length<=9223372036854775807):∀ (r:Zb) (i x:Nat),b.drop i=r->Zkx 0 [(8,.int .i64 i),(7,.int .i64 b.length),(6,.lst false (b.map Zc)),(3,.int .u64 (x:Nat))] []=some (.int .u64 (Zex x r:Nat),[])
 | [],i,x,h=>by
  have h1:=Zcv h
  unfold Zkx
  rw [Z2,ZeK]
  simp -implicitDefEqProofs only [EQA,Nat.reduceLT,Nat.reduceEqDiff,↓reduceIte,ZId,ZMX,ZrC,Ztm,ZlJ,oI,h1]
 | c::r,i,x,h=>by
  have ih:=ZuM b hl r (i+1) ((x*256+c.toNat) % 18446744073709551616) (Z4 h).2.1
  have h1:(i:Int) < b.length:=by have:=(Z4 h).2.2;omega
  have e1:=iad (Z4 h).1 Zc (k:=1) rfl
  have e3:=ZcL h1 hl
  have ho:=ZEv x c.toNat c.toNat_lt
  have hc:IntKind.u64.wrap (c.toNat:Int)=(c.toNat:Int):=by rw [IntKind.wrap_u64];have:=c.toNat_lt;omega
  unfold Zkx at ih ⊢
  rw [Z2,ZcM]
  simp -implicitDefEqProofs only [EQA,ZV,Nat.reduceLT,Nat.reduceEqDiff,ZaC,↓reduceIte,gcT,gcA,Zv,Zu,Zr,ZC,Ztm,ZlJ,oI,h1,e1,e3,ho,hc,Zc,AVal.cells,Int.reduceLT]
  exact ih
theorem ZEa (b:Zb) (hl:b.length<=9223372036854775807):E 108 [ZI b] []=some (.int .u64 (Zct b:Nat),[]):=by
 have key:=ZuM b hl b 0 0 rfl
 have z0:((0:Nat):Int)=0:=rfl
 rw [z0] at key
 unfold Zkx at key
 unfold Zct
 rw [Zh (by rfl) ZIT]
 simp -implicitDefEqProofs only [EQA,ZV,Nat.reduceLT,Nat.reduceEqDiff,reduceCtorEq,↓reduceIte,gcT,gcA,Zv,Zu,Zr,ZC,ZN0,ZnC,oI,ZI]
 exact key
theorem Zj0 (σ:Za) (sq own:Nat) (b:Zb) (hl:b.length<=9223372036854775807) (f:Bool):Zo E BY σ sq 108 own true [.lst f (b.map Zc)]=some (.int .u64 (Zct b:Nat),σ,{}) :=
 ZbK (ZEa b hl) (by kernel_rfl) rfl rfl rfl (fun _=>rfl) _ _ _
end
section
theorem Ztb (ls:List Zb) (hl:ls.length<=9223372036854775807):∀ (r:List Zb) (i:Nat) (acc full:Zb),ls.drop i=r->full=acc++r.flatten->full.length<=140737488355328 ->
  ZlH 0 [(8,.int .i64 i),(7,.int .i64 ls.length),(6,.lst false (ls.map ZI)),(3,.sl 0 0 0 acc.length)] [.row 0 1 (acc.map Zc)]=some (.sl 0 0 0 full.length,[.row 0 1 (full.map Zc)])
 | [],i,acc,full,h,hf,hn=>by
  have h1:=Zcv h
  have e:full=acc:=by simpa using hf
  subst e
  unfold ZlH
  rw [Z2]
  simp -implicitDefEqProofs only [EQA,Nat.reduceLT,Nat.reduceEqDiff,↓reduceIte,ZLs,ZKR,Zod,Zpw,Ziz,oI,h1,ZCs]
 | p::r,i,acc,full,h,hf,hn=>by
  have ih:=Ztb ls hl r (i+1) (acc++p) full (Z4 h).2.1 (by rw [hf];simp) hn
  have h1:(i:Int) < ls.length:=by have:=(Z4 h).2.2;omega
  have e1:=iad (Z4 h).1 ZI (k:=1) rfl
  have e3:=ZcL h1 hl
  have k1:=ZfO p
  have k2:(acc.length+p.length)*1<=140737488355328:=by have:=congrArg List.length hf;simp at this;omega
  have e4:(acc++p).map Zc=acc.map Zc++p.map Zc:=by simp
  have e5:(acc++p).length=acc.length+p.length:=by simp
  rw [e4,e5] at ih
  clear hf
  unfold ZlH at ih ⊢
  rw [Z2]
  unfold ZI at e1 ih ⊢
  simp -implicitDefEqProofs only [EQA,ZV,Za2,Nat.reduceAdd,Nat.reduceLT,Nat.reduceEqDiff,Nat.reduceBEq,reduceCtorEq,ZY,↓reduceIte,gcT,gcA,Zv,Zu,Zj,Zr,ZJ,Zl,ZE,Zw,ZC,Zpw,Ziz,oI,h1,e1,e3,k1,k2,Zaz,AVal.cells]
  exact ih
theorem Zzt (p:Zb) (ls:List Zb) (hl:(p::ls).length<=9223372036854775807) (hn:(p::ls).flatten.length<=140737488355328):E 56 [.lst false ((p::ls).map ZI)] []=some (.sl 0 0 0 (p::ls).flatten.length,[.row 0 1 ((p::ls).flatten.map Zc)]):=by
 have key:=Ztb (p::ls) hl ls 1 p (p::ls).flatten rfl rfl hn
 have k1:=ZfO p
 have k2:p.length*1<=140737488355328:=by simp at hn;omega
 have h1:(0:Int) < ((p::ls).length:Int):=by simp
 have hat:(p::ls)[0]?=some p:=rfl
 have e1:=iad hat ZI (k:=1) rfl
 have z0:((0:Nat):Int)=0:=rfl
 have z1:((1:Nat):Int)=1:=rfl
 have w1:IntKind.i64.wrap (0+1)=1:=rfl
 rw [z0] at e1
 rw [z1] at key
 unfold ZlH at key
 generalize hL:p::ls=L at *
 rw [Zh (by rfl) Zze]
 unfold ZI at e1 key ⊢
 simp -implicitDefEqProofs only [EQA,ZV,Nat.reduceLT,Nat.reduceEqDiff,reduceCtorEq,↓reduceIte,gcT,gcA,Zv,Zu,Zr,ZC,ZEF,ZqM,oI]
 rw [Z2]
 simp -implicitDefEqProofs only [EQA,ZV,Za2,Nat.reduceLT,Nat.reduceEqDiff,Nat.reduceBEq,ZY,↓reduceIte,gcT,gcA,Zv,Zu,Zj,Zr,ZJ,Zl,ZE,Zw,ZC,Zpw,Ziz,oI,h1,e1,w1,k1,k2,Zaz,AVal.cells]
 exact key
theorem Zh8 (σ:Za) (sq own:Nat) (f:Bool) (p:Zb) (ls:List Zb) (hl:(p::ls).length<=9223372036854775807) (hn:(p::ls).flatten.length<=140737488355328):Zo E BY σ sq 56 own true [.lst f ((p::ls).map ZI)]=some (.lst false ((p::ls).flatten.map Zc),σ,{}):=by
 have h:=Zoc (bf:=BY) (Zzt p ls hl hn) (by rw [List.length_map]) rfl rfl σ sq own
 cases f
 ·exact h
 ·rw [Zd2 (by kernel_rfl) rfl] at h ⊢
  exact h
theorem ZBJ:∀ n:Fin 256,IntKind.u8.wrap (((BitVec.ofInt IntKind.u8.bits ((n.val:Nat):Int) ||| BitVec.ofInt IntKind.u8.bits 128).toNat:Nat):Int)=((n.val % 128+128:Nat):Int):=by decide +kernel
theorem Zzu (n:Nat):IntKind.u8.wrap (((BitVec.ofInt IntKind.u8.bits (IntKind.u8.wrap (n:Int)) ||| BitVec.ofInt IntKind.u8.bits 128).toNat:Nat):Int)=((UInt8.ofNat (n % 128+128)).toNat:Int):=by
 have h:=ZBJ ⟨n % 256,Nat.mod_lt _ (by decide)⟩
 have e:IntKind.u8.wrap (n:Int)=((n % 256:Nat):Int):=by rw [IntKind.wrap_u8];omega
 rw [e,h,UInt8.toNat_ofNat']
 simp only
 omega
theorem Zr0:∀ (k n:Nat) (acc full:Zb),n < 128 ^ (k+1)->acc.length+k<=3->full=acc++ZbZ k n ->
  ZmP 0 [(4,ZcR (acc.map Zc)),(0,.int .i64 (n:Nat))] (ZcY 1 (acc.map Zc))=some (.tup [.sl 0 0 0 full.length,.int .i64 0],[.row 0 1 (full.map Zc)])
 | k,n,acc,full,hk,hacc,hf=>by
  by_cases hn:n < 128
  ·have h1:¬((n:Int) > 127):=by omega
   have hv:ZbZ k n=[UInt8.ofNat n]:=by cases k <;> simp [ZbZ,hn]
   rw [hv] at hf
   have hb:IntKind.u8.wrap (n:Int)=((UInt8.ofNat n).toNat:Int):=by rw [IntKind.wrap_u8,UInt8.toNat_ofNat'];omega
   subst hf
   unfold ZmP
   rw [Z2]
   cases acc with
   | nil =>
    simp -implicitDefEqProofs only [EQA,Nat.reduceLT,Nat.reduceLeDiff,Nat.reduceEqDiff,Nat.reduceBEq,reduceCtorEq,ZY,↓reduceIte,ZkF,Zwx,Zky,ZkO,Zio,oI,h1,hb,ZeL,ZeZ,Zaz,kOk,viewAs,ZP,ZL,Zq,Nat.one_mul,AVal.cells]
    simp [Z6,gcA,Zv,Zu,Zp,ZS,Zj,Zr,ZJ,Zl,ZE,Zf,Zm,Zw,ZC]
    rfl
   | cons a acc =>
    have hz:(acc.length+1+1)*1<=140737488355328:=by simp at hacc;omega
    simp -implicitDefEqProofs only [EQA,Nat.reduceAdd,Nat.reduceLT,Nat.reduceEqDiff,Nat.reduceBEq,reduceCtorEq,ZY,↓reduceIte,ZkF,Zwx,Zky,ZkO,Zio,oI,h1,hb,Zf3,Zgy,Zaz,kOk,viewAs,ZP,ZL,Zq,AVal.cells,hz]
    simp [Z6,gcA,Zv,Zu,Zp,ZS,Zj,Zr,ZJ,Zl,ZE,Zf,Zm,Zw,ZC]
    rfl
  ·cases k with
   | zero=>simp at hk;omega
   | succ k =>
    have hlt:n / 128 < 128 ^ (k+1):=by
     rw [Nat.div_lt_iff_lt_mul (by decide)]
     rw [Nat.pow_succ] at hk;exact hk
    have hv:ZbZ (k+1) n=UInt8.ofNat (n % 128+128)::ZbZ k (n / 128):=by simp [ZbZ,hn]
    have ih:=Zr0 k (n / 128) (acc++[UInt8.ofNat (n % 128+128)]) full hlt (by simp;omega) (by rw [hf,hv];simp)
    clear hf
    have h1:((n:Int) > 127):=by omega
    have ho:=Zzu n
    have hd:(n:Int).fdiv (2 ^ min (Int.toNat 7) IntKind.i64.bits)=((n / 128:Nat):Int):=by
     rw [show (2:Int) ^ min (Int.toNat 7) IntKind.i64.bits=128 from rfl,Int.fdiv_eq_ediv_of_nonneg _ (by decide)]
     omega
    unfold ZmP at ih ⊢
    rw [Z2]
    cases acc with
    | nil =>
     simp -implicitDefEqProofs only [EQA,ZV,Za2,Nat.reduceLT,Nat.reduceLeDiff,Nat.reduceEqDiff,Nat.reduceBEq,ZaC,reduceCtorEq,ZY,↓reduceIte,gcT,gcA,Zv,Zu,Zj,Zr,ZJ,Zl,ZE,Zw,ZC,ZkO,Zio,oI,h1,ho,hd,ZeL,ZeZ,Zaz,kOk,viewAs,ZP,ZL,Zq,Nat.one_mul,AVal.cells,Int.reduceLT]
     simp only [List.map_cons,List.map_nil,List.nil_append,Zf3,Zgy,List.length_cons,List.length_nil,Nat.zero_add,Zc] at ih
     exact ih
    | cons a acc =>
     have hz:(acc.length+1+1)*1<=140737488355328:=by simp at hacc;omega
     simp -implicitDefEqProofs only [EQA,ZV,Za2,Nat.reduceAdd,Nat.reduceLT,Nat.reduceEqDiff,Nat.reduceBEq,ZaC,reduceCtorEq,ZY,↓reduceIte,gcT,gcA,Zv,Zu,Zj,Zr,ZJ,Zl,ZE,Zw,ZC,ZkO,Zio,oI,h1,ho,hd,Zf3,Zgy,Zaz,kOk,viewAs,ZP,ZL,Zq,AVal.cells,hz,Int.reduceLT]
     simp only [List.map_append,List.map_cons,List.map_nil,List.cons_append,Zf3,Zgy,List.length_append,List.length_cons,List.length_map,List.length_nil,Nat.zero_add,Nat.add_assoc,Nat.reduceAdd,Zc] at ih
     exact ih
theorem ZLw (n:Int):E 82 [.int .i64 n] []=some (if n < 0\/n > 268435455 then (.tup [.lst true [],.int .i64 10],[]) else (.tup [.sl 0 0 0 (ZbZ 3 n.toNat).length,.int .i64 0],[.row 0 1 ((ZbZ 3 n.toNat).map Zc)])):=by
 rw [Zh (by rfl) ZIr]
 by_cases h0:n < 0
 ·have : n < 0\/n > 268435455:=Or.inl h0
  simp -implicitDefEqProofs only [EQA,Zt,Nat.reduceLT,Nat.reduceEqDiff,ZD,Zam,reduceCtorEq,↓reduceIte,Zd,Zrw,ZjD,ZkF,oI,h0]
 ·by_cases h2:n > 268435455
  ·have : n < 0\/n > 268435455:=Or.inr h2
   simp -implicitDefEqProofs only [EQA,Zt,Nat.reduceLT,Nat.reduceEqDiff,ZD,unG,reduceCtorEq,↓reduceIte,Zd,Zrw,ZjD,ZkF,oI,h0,h2]
  ·have : ¬(n < 0\/n > 268435455):=by omega
   have key:=Zr0 3 n.toNat [] (ZbZ 3 n.toNat) (by omega) (by simp) rfl
   have e:((n.toNat:Nat):Int)=n:=by omega
   rw [e] at key
   simp only [List.map_nil,ZeL,ZeZ] at key
   unfold ZmP at key
   generalize ZbZ 3 n.toNat=V at *
   simp -implicitDefEqProofs only [EQA,ZV,Nat.reduceLT,Nat.reduceEqDiff,ZD,unG,reduceCtorEq,↓reduceIte,gcT,gcA,Zv,Zu,Zr,ZC,Zrw,ZjD,oI,h0,h2]
   exact key
def ZeS (n:Int):AVal:=.tup [.lst false ((Z7 n).1.map Zc),.int .i64 (Z7 n).2]
theorem ZyR {O:ZU} {bf:Nat->Bool} {f:Nat} {args args':List AVal} {k n:Nat} {xs:List AVal} {c:Int} (h:O f args' []=some (.tup [.sl 0 0 0 n,.int .i64 c],[.row 0 k xs])) (hl:xs.length=n) (hb:bf f=false) (hp:args.all Zak=true) (hn:args.map ZM=args') (σ:Za) (sq own:Nat):Zo O bf σ sq f own true args=some (.tup [.lst false xs,.int .i64 c],σ,{}):=by
 subst hl
 rw [Zd2 hb hp,hn,h]
 simp [Zab,Zbs,viewR,viewAs,ZP,ZL,ZY,Zq,gcA,Zv,Zu,Zp,ZS,Zf,Zm,Zr,Zav,Zbx,Zbh,ZaV]
theorem Zf7 (σ:Za) (sq own:Nat) (n:Int):Zo E BY σ sq 82 own true [.int .i64 n]=some (ZeS n,σ,{}):=by
 have h:=ZLw n
 unfold ZeS Z7
 by_cases hc:n < 0\/n > 268435455
 ·rw [if_pos hc] at h ⊢
  exact ZbK h (by kernel_rfl) rfl rfl rfl (fun _=>rfl) _ _ _
 ·rw [if_neg hc] at h ⊢
  exact ZyR h (by rw [List.length_map]) (by kernel_rfl) rfl rfl _ _ _
end
section
def gvT (x:Nat×Nat×Int):AVal:=.tup [.int .i64 (x.1:Nat),.int .i64 (x.2.1:Nat),.int .i64 x.2.2]
theorem ZHf:∀ n:Fin 256,IntKind.u8.wrap (((BitVec.ofInt IntKind.u8.bits ((n.val:Nat):Int) &&& BitVec.ofInt IntKind.u8.bits 127).toNat:Nat):Int)=((n.val % 128:Nat):Int):=by decide +kernel
theorem ZEI (c:UInt8):IntKind.u8.wrap (((BitVec.ofInt IntKind.u8.bits (c.toNat:Int) &&& BitVec.ofInt IntKind.u8.bits 127).toNat:Nat):Int)=((c.toNat % 128:Nat):Int):=ZHf ⟨c.toNat,c.toNat_lt⟩
theorem ZoX (i:Nat):128 ^ i=2 ^ (7*i):=by rw [Nat.pow_mul]
theorem ZFI (n a i:Nat) (hi:i<=3) (hn:n < 128 ^ i) (ha:a < 128):IntKind.i64.wrap (((BitVec.ofInt IntKind.i64.bits (n:Int) ||| BitVec.ofInt IntKind.i64.bits ((a*128 ^ i:Nat):Int)).toNat:Nat):Int)=((n+a*128 ^ i:Nat):Int):=by
 have hb:IntKind.i64.bits=64:=rfl
 have hp:128 ^ i<=128 ^ 3:=Nat.pow_le_pow_right (by decide) hi
 have hm:a*128 ^ i<=127*128 ^ 3:=Nat.mul_le_mul (by omega) hp
 rw [hb,BitVec.toNat_or]
 simp only [BitVec.ofInt_natCast,BitVec.toNat_ofNat]
 have e1:n % 2 ^ 64=n:=Nat.mod_eq_of_lt (by omega)
 have e2:a*128 ^ i % 2 ^ 64=a*128 ^ i:=Nat.mod_eq_of_lt (by omega)
 rw [e1,e2]
 have e3:a*128 ^ i=a <<< (7*i):=by rw [Nat.shiftLeft_eq,ZoX]
 have e4:n ||| a*128 ^ i=n+a*128 ^ i:=by
  rw [e3,Nat.or_comm,<-Nat.shiftLeft_add_eq_or_of_lt (by rw [<-ZoX];exact hn)]
  omega
 rw [e4,Za6 (by omega) (by omega)]
theorem ZD1 (a i:Nat) (hi:i<=3) (ha:a < 128):IntKind.i64.wrap ((a:Int)*2 ^ min (Int.toNat ((7*i:Nat):Int)) IntKind.i64.bits)=((a*128 ^ i:Nat):Int):=by
 have hp:128 ^ i<=128 ^ 3:=Nat.pow_le_pow_right (by decide) hi
 have hm:a*128 ^ i<=127*128 ^ 3:=Nat.mul_le_mul (by omega) hp
 have e:min (Int.toNat ((7*i:Nat):Int)) IntKind.i64.bits=7*i:=by
  have hb:IntKind.i64.bits=64:=rfl
  rw [hb];omega
 have e2:((a:Int)*2 ^ (7*i))=((a*128 ^ i:Nat):Int):=by rw [ZoX];simp
 rw [e,e2,Za6 (by omega) (by omega)]
theorem Zvh (n i a:Nat) (hn:n < 128 ^ i) (ha:a < 128):n+a*128 ^ i < 128 ^ (i+1):=by
 have : a*128 ^ i<=127*128 ^ i:=Nat.mul_le_mul_right _ (by omega)
 rw [Nat.pow_succ];omega
theorem ZwC (b:Zb) (hl:b.length<=9223372036854775807):∀ (r:Zb) (i n:Nat),i<=4->i<=b.length->n < 128 ^ i->b.drop i=r ->
  ZhD 0 [(9,.int .i64 i),(8,.int .i64 b.length),(7,.lst false (b.map Zc)),(2,.int .i64 n),(0,.lst false (b.map Zc))] []=some (gvT (gvA i n r),[])
 | [],i,n,hi,hib,hn,h=>by
  have h1:=Zcv h
  unfold ZhD
  rw [Z2,gvA]
  by_cases h4:i < 4
  ·have h5:(b.length:Int) < 4:=by omega
   simp -implicitDefEqProofs only [EQA,Zt,Nat.reduceLT,Nat.reduceEqDiff,reduceCtorEq,↓reduceIte,Zd,Zii,Zrl,Zjg,Zhj,Zfm,oI,h1,h4,h5,gvT]
   rfl
  ·have h5:¬(b.length:Int) < 4:=by omega
   simp -implicitDefEqProofs only [EQA,Zt,Nat.reduceLT,Nat.reduceEqDiff,reduceCtorEq,↓reduceIte,Zd,Zii,Zrl,Zjg,Zhj,Zfm,oI,h1,h4,h5,gvT]
   rfl
 | c::r,i,n,hi,hib,hn,h=>by
  have hlt:=(Z4 h).2.2
  have h1:(i:Int) < b.length:=by omega
  have e1:=iad (Z4 h).1 Zc (k:=1) rfl
  have e3:=ZcL h1 hl
  rw [gvA]
  by_cases h4:i=4
  ·have h5:¬(b.length:Int) < 4:=by omega
   have h6:((i:Int) == 4)=true:=by simp;omega
   rw [if_pos h4]
   unfold ZhD
   rw [Z2]
   simp -implicitDefEqProofs only [EQA,Zt,Nat.reduceLT,Nat.reduceEqDiff,reduceCtorEq,↓reduceIte,Zd,Zii,Zrl,Zjg,Zhj,Zfm,oI,h1,e1,h5,h6,gvT,Zc,AVal.cells]
   rfl
  ·have h6:((i:Int) == 4)=false:=by simp;omega
   have hm:=ZEI c
   have ha:c.toNat % 128 < 128:=Nat.mod_lt _ (by decide)
   have hi64:IntKind.i64.wrap ((c.toNat % 128:Nat):Int)=((c.toNat % 128:Nat):Int):=Za6 (by omega) (by omega)
   have h7:IntKind.i64.wrap (7*(i:Int))=((7*i:Nat):Int):=by rw [Za6 (by omega) (by omega)];omega
   have hneg:¬((7*i:Nat):Int) < 0:=by omega
   have hs:=ZD1 (c.toNat % 128) i (by omega) ha
   have ho:=ZFI n (c.toNat % 128) i (by omega) hn ha
   by_cases hc:c.toNat < 128
   ·have hc':(c.toNat:Int) < 128:=by omega
    unfold ZhD
    rw [Z2]
    by_cases hc0:c=0
    ·have hc1:((c.toNat:Int) == 0)=true:=by rw [hc0];rfl
     by_cases hip:0 < i
     ·have hip':(i:Int) > 0:=by omega
      have hcc:c=0/\0 < i:=⟨hc0,hip⟩
      simp -implicitDefEqProofs only [EQA,Zt,ZV,ZdB,ZmD,Nat.reduceLT,Nat.reduceEqDiff,ZaC,ZD,Zam,unG,reduceCtorEq,decide_eq_true_eq,ite_self,↓reduceIte,Zd,gcT,gcA,Zv,Zu,Zr,ZC,Zii,Zhj,Zfm,oI,h1,e1,h4,h6,h7,hneg,hip',hcc,gvT,Zc,AVal.cells]
      rfl
     ·have hip':¬(i:Int) > 0:=by omega
      have hcc:¬(c=0/\0 < i):=fun h=>hip h.2
      simp -implicitDefEqProofs only [EQA,Zt,Nat.reduceLT,Nat.reduceEqDiff,ZaC,ZD,unG,reduceCtorEq,↓reduceIte,Zd,Zii,Zhj,Zfm,oI,h1,e1,h4,h6,hm,hi64,h7,hneg,hs,ho,hc,hc',hc1,hip',hcc,e3,gvT,Zc,AVal.cells]
    ·have hc1:((c.toNat:Int) == 0)=false:=by
      have : c.toNat≠0:=fun h=>hc0 (UInt8.toNat_inj.1 (by simpa using h))
      simp;omega
     have hcc:¬(c=0/\0 < i):=fun h=>hc0 h.1
     simp -implicitDefEqProofs only [EQA,Zt,Nat.reduceLT,Nat.reduceEqDiff,ZaC,ZD,Zam,reduceCtorEq,↓reduceIte,Zd,Zii,Zhj,Zfm,oI,h1,e1,h4,h6,hm,hi64,h7,hneg,hs,ho,hc,hc',hc1,hcc,e3,gvT,Zc,AVal.cells]
   ·have hc':¬(c.toNat:Int) < 128:=by omega
    have ih:=ZwC b hl r (i+1) (n+c.toNat % 128*128 ^ i) (by omega) (by omega) (Zvh n i _ hn ha) (Z4 h).2.1
    unfold ZhD at ih ⊢
    rw [Z2]
    simp -implicitDefEqProofs only [EQA,ZV,Nat.reduceLT,Nat.reduceEqDiff,ZaC,reduceCtorEq,↓reduceIte,gcT,gcA,Zv,Zu,Zr,ZC,Zhj,Zfm,oI,h1,e1,h4,h6,hm,hi64,h7,hneg,hs,ho,hc,hc',e3,Zc,AVal.cells]
    exact ih
theorem ZNp (b:Zb) (hl:b.length<=9223372036854775807):E 135 [ZI b] []=some (gvT (ZW b),[]):=by
 have key:=ZwC b hl b 0 0 (by omega) (by omega) (by simp) rfl
 have z0:((0:Nat):Int)=0:=rfl
 rw [z0] at key
 unfold ZhD at key
 unfold ZW
 rw [Zh (by rfl) ZKN]
 simp -implicitDefEqProofs only [EQA,ZV,Nat.reduceLT,Nat.reduceEqDiff,reduceCtorEq,↓reduceIte,gcT,gcA,Zv,Zu,Zr,ZC,ZD3,Zqz,oI,ZI]
 exact key
theorem Zol (σ:Za) (sq own:Nat) (f:Bool) (b:Zb) (hl:b.length<=9223372036854775807):Zo E BY σ sq 135 own true [.lst f (b.map Zc)]=some (gvT (ZW b),σ,{}) :=
 ZbK (ZNp b hl) (by kernel_rfl) rfl rfl rfl (fun _=>rfl) _ _ _
end
section
theorem ZvZ (l:List UInt8) (p:Nat):Zfu l p=Lib.decodeL (l.drop p):=by
 have:=Lib.decodeL_drop ⟨l.toArray⟩ p
 simpa [Zfu] using this.symm
def zfG:Nat->List UInt8->Bool
 | 0,_=>true
 | n+1,l=>if l=[] then true else if (Lib.decodeL l).1=0 then false else zfG n (l.drop (Lib.decodeL l).2)
def Zcq (l:List UInt8):Bool:=zfG l.length l && Lib.validD l
theorem ZFK (l:List UInt8):E 142 [.str l] []=some (.bool (Lib.validD l),[]):=ZcO.2 ⟨1,rfl⟩
theorem ZOI (σ:Za) (sq own:Nat) (view:Bool) (l:List UInt8):Zo E BY σ sq 142 own view [.str l]=some (.bool (Lib.validD l),σ,{}) :=
 Zb8 (ZFK l) (by kernel_rfl) (by simp -implicitDefEqProofs only [ZcI,Zbo,eq_self]) (by simp -implicitDefEqProofs only [ZK,Zbo,eq_self]) rfl (fun _=>rfl) _ _ _ _
theorem Zsv (s:List UInt8):∀ (n p:Nat),s.length - p<=n->p<=s.length->ZmW 0 [(6,.ref 0 0),(0,.str s)] [.siter s p]=some (.bool (zfG n (s.drop p) && Lib.validD s),[])
 | n,p,hn,hp=>by
  by_cases h:p < s.length
  ·obtain ⟨n,rfl⟩:∃ m,n=m+1:=⟨n - 1,by omega⟩
   have hw:=Lib.decodeL_width (s.drop p)
   have hne:s.drop p≠[]:=by rw [ne_eq,List.drop_eq_nil_iff];omega
   have hle:=Lib.decodeL_le (s.drop p) hne
   rw [List.length_drop] at hle
   have ih:=Zsv s n (p+(Lib.decodeL (s.drop p)).2) (by omega) (by omega)
   rw [<-List.drop_drop] at ih
   unfold ZmW at ih ⊢
   rw [Z2]
   by_cases hz:(Lib.decodeL (s.drop p)).1=0
   ·have hz':((Lib.decodeL (s.drop p)).1:Int)=0:=by omega
    simp -implicitDefEqProofs only [EQA,Nat.reduceLT,Nat.reduceEqDiff,reduceCtorEq,↓reduceIte,ZuO,Zos,Zjr,oI,h,ZvZ,hz']
    rw [zfG,if_neg hne,if_pos hz];rfl
   ·have hz':(((Lib.decodeL (s.drop p)).1:Int) == 0)=false:=by rw [beq_eq_false_iff_ne];omega
    simp -implicitDefEqProofs only [EQA,ZV,Za2,Nat.reduceLT,Nat.reduceEqDiff,reduceCtorEq,↓reduceIte,gcT,gcA,Zv,Zu,Zj,Zr,ZJ,Zl,ZE,Zw,ZC,Zos,Zjr,oI,h,ZvZ,hz']
    rw [ih,zfG,if_neg hne,if_neg hz]
  ·have he:s.drop p=[]:=by rw [List.drop_eq_nil_iff];omega
   unfold ZmW
   rw [Z2]
   simp -implicitDefEqProofs only [EQA,Nat.reduceLT,Nat.reduceEqDiff,reduceCtorEq,↓reduceIte,ZuO,ZBg,Zra,Zos,Zjr,oI,h,ZOI]
   rw [he]
   cases n <;> simp [zfG]
theorem Zzh (s:List UInt8):E 97 [.str s] []=some (.bool (Zcq s),[]):=by
 rw [Zh (by rfl) ZHF]
 have:=Zsv s s.length 0 (by omega) (by omega)
 unfold ZmW at this
 simp -implicitDefEqProofs only [EQA,ZV,Za2,Nat.reduceLT,Nat.reduceBEq,reduceCtorEq,↓reduceIte,gcT,gcA,Zv,Zu,Zj,Zr,ZJ,Zl,ZE,Zw,ZC,ZxQ,Zoj,oI]
 rw [this,List.drop_zero];rfl
theorem Zuz (σ:Za) (sq own:Nat) (view:Bool) (l:List UInt8):Zo E BY σ sq 97 own view [.str l]=some (.bool (Zcq l),σ,{}) :=
 Zb8 (Zzh l) (by kernel_rfl) (by simp -implicitDefEqProofs only [ZcI,Zbo,eq_self]) (by simp -implicitDefEqProofs only [ZK,Zbo,eq_self]) rfl (fun _=>rfl) _ _ _ _
theorem wrap_i64 {n:Int} (h0:-9223372036854775808<=n) (h:n<=9223372036854775807):IntKind.i64.wrap n=n:=Za6 h0 h
end
section
theorem Zob (σ:Za) (l:Zb) (k1 k2:IntKind) (lo hi:Int) (h0:0<=lo) (h1:lo<=hi) (h2:hi<=(l.length:Int)):ZbS σ 1 (.lst false (l.map Zc)) (some (.int k1 lo)) (some (.int k2 hi)) none=some (.lst false (((l.take hi.toNat).drop lo.toNat).map Zc),σ,{}):=by
 have hh:0<=hi:=by omega
 have h3:lo<=((hi.toNat:Nat):Int):=by omega
 have hk:=ZfO l
 simp only [ZbS,Zbl,Zel,List.length_map,hh,h2,and_self,if_true,h0,h3,hk,Bool.or_true,Option.isSome_none,Bool.false_eq_true,if_false,Bool.false_and,List.map_take,List.map_drop]
theorem Zfy (σ:Za) (l:Zb) (k1:IntKind) (lo:Int) (h0:0<=lo) (h1:lo<=(l.length:Int)):ZbS σ 1 (.lst false (l.map Zc)) (some (.int k1 lo)) none none=some (.lst false ((l.drop lo.toNat).map Zc),σ,{}):=by
 have hk:=ZfO l
 simp only [ZbS,Zbl,Zel,List.length_map,and_self,if_true,h0,h1,hk,Bool.or_true,Option.isSome_none,Bool.false_eq_true,if_false,Bool.false_and,List.map_drop]
 rw [List.take_of_length_le (by simp)]
def byT (x:Zb×Int):AVal:=.tup [.lst false (x.1.map Zc),.int .i64 x.2]
theorem ZN8 (b:Zb) (h:b.length<=9223372036854775807):IntKind.u64.wrap (b.length:Int)=(b.length:Int):=by rw [IntKind.wrap_u64];omega
theorem ZGc (b:Zb) (hl:b.length<=9223372036854775807):∃ f,E 55 [ZI b] []=some (.tup [.lst f ((Za4 b).1.map Zc),.int .i64 (Za4 b).2],[]):=by
 unfold Za4
 by_cases h:b.length > 65535
 ·refine ⟨true,?_⟩
  have h':(b.length:Int) > 65535:=by omega
  rw [Zh (by rfl) Zwd,if_pos h]
  simp -implicitDefEqProofs only [EQA,Zt,Nat.reduceLT,Nat.reduceEqDiff,reduceCtorEq,↓reduceIte,Zd,Zu1,Zmn,Zuq,oI,ZI,h']
 ·refine ⟨false,?_⟩
  have h':¬(b.length:Int) > 65535:=by omega
  have hw:=ZN8 b hl
  have hP:=fun σ sq own=>Zl4 σ sq own b.length 2 (by omega) (by omega)
  have hJ:=fun σ sq own f=>Zh8 σ sq own f (beB b.length 2) [b] (by simp) (by simp [ZaL];omega)
  simp only [List.map_cons,List.map_nil,ZI,List.flatten_cons,List.flatten_nil,List.append_nil] at hJ
  have z2:((2:Nat):Int)=2:=rfl
  rw [z2] at hP
  rw [Zh (by rfl) Zwd,if_neg h]
  simp -implicitDefEqProofs only [EQA,Zt,Nat.reduceLT,Nat.reduceEqDiff,reduceCtorEq,↓reduceIte,Zd,Zu1,Zmn,Zuq,oI,ZI,h',hw,hP,hJ,viewAs,ZP,ZL,Zq,AVal.cells]
theorem Zqc (σ:Za) (sq own:Nat) (f:Bool) (b:Zb) (hl:b.length<=9223372036854775807):Zo E BY σ sq 55 own true [.lst f (b.map Zc)]=some (byT (Za4 b),σ,{}):=by
 obtain ⟨g,h⟩:=ZGc b hl
 exact ZbK h (by kernel_rfl) rfl rfl rfl (fun _=>rfl) _ _ _
def ZZ (s:Zb):Zb×Int:=if Zcq s then Za4 s else ([],13)
theorem ZBW (s:Zb) (hl:s.length<=9223372036854775807):∃ f,E 54 [.str s] []=some (.tup [.lst f ((ZZ s).1.map Zc),.int .i64 (ZZ s).2],[]):=by
 have hI:=fun σ sq own=>Zuz σ sq own true s
 have hD:=fun σ sq own f=>Zqc σ sq own f s hl
 unfold ZZ
 cases h:Zcq s <;> rw [h] at hI
 ·refine ⟨true,?_⟩
  rw [Zh (by rfl) Zsq]
  simp -implicitDefEqProofs only [EQA,Zt,Nat.reduceLT,Nat.reduceEqDiff,unA,reduceCtorEq,↓reduceIte,Zd,Zr5,ZmT,Zum,oI,hI]
 ·refine ⟨false,?_⟩
  rw [Zh (by rfl) Zsq]
  simp -implicitDefEqProofs only [EQA,Zt,Nat.reduceLT,Nat.reduceEqDiff,unA,reduceCtorEq,↓reduceIte,Zd,Zr5,ZmT,Zum,oI,hI,hD,byT]
theorem ZiZ (σ:Za) (sq own:Nat) (s:Zb) (hl:s.length<=9223372036854775807):Zo E BY σ sq 54 own true [.str s]=some (byT (ZZ s),σ,{}):=by
 obtain ⟨g,h⟩:=ZBW s hl
 exact ZbK h (by kernel_rfl) rfl rfl rfl (fun _=>rfl) _ _ _
end
section
def gdT (x:Zb×Nat×Int):AVal:=.tup [.lst false (x.1.map Zc),.int .i64 (x.2.1:Nat),.int .i64 x.2.2]
def gtT (x:Zb×Nat×Int):AVal:=.tup [.str x.1,.int .i64 (x.2.1:Nat),.int .i64 x.2.2]
theorem ZM1 (b:Zb) (h:b.length<=2):Zct b < 65536:=by
 unfold Zct
 match b,h with
 | [],_=>simp [ZeK]
 | [a],_=>rw [ZcM,ZeK];have:=a.toNat_lt;omega
 | [a,c],_=>rw [ZcM,ZcM,ZeK];have:=a.toNat_lt;have:=c.toNat_lt;omega
def Zaf (b:Zb):Zb×Nat×Int:=if (ZaB b).2.2≠0 then ([],0,(ZaB b).2.2) else if Zcq (ZaB b).1 then ZaB b else ([],0,13)
theorem ZFW (b:Zb) (hl:b.length<=140737488355328):∃ f,E 106 [ZI b] []=some (.tup [.lst f ((ZaB b).1.map Zc),.int .i64 ((ZaB b).2.1:Nat),.int .i64 (ZaB b).2.2],[]):=by
 have t2:(b.take 2).length<=9223372036854775807:=by simp;omega
 have hG:=fun σ sq own f=>Zj0 σ sq own (b.take 2) t2 f
 have hg:=ZM1 (b.take 2) (by simp;omega)
 unfold ZaB
 generalize hGG:Zct (b.take 2)=g at *
 have hi:IntKind.i64.wrap (g:Int)=(g:Int):=Za6 (by omega) (by omega)
 by_cases h1:b.length < 2
 ·have h1':(b.length:Int) < 2:=by omega
  refine ⟨true,?_⟩
  rw [Zh (by rfl) Zpa,if_pos (Or.inl h1)]
  simp -implicitDefEqProofs only [EQA,Zt,Nat.reduceLT,Nat.reduceEqDiff,ZD,Zam,reduceCtorEq,↓reduceIte,Zd,Znu,Zjm,Zn0,oI,ZI,h1']
  rfl
 ·have h1':¬(b.length:Int) < 2:=by omega
  have s2:=fun σ kk=>Zje σ 1 b Zc kk 2 (by omega) (by omega)
  have e2:(2:Int).toNat=2:=rfl
  rw [e2] at s2
  have w1:IntKind.i64.wrap ((b.length:Int) - 2)=((b.length - 2:Nat):Int):=by rw [Za6 (by omega) (by omega)];omega
  by_cases h3:b.length - 2 < g
  ·have h3':((b.length - 2:Nat):Int) < (g:Int):=by omega
   refine ⟨true,?_⟩
   rw [Zh (by rfl) Zpa,if_pos (Or.inr h3)]
   simp -implicitDefEqProofs only [EQA,Zt,Nat.reduceLT,Nat.reduceEqDiff,ZD,unG,reduceCtorEq,↓reduceIte,Zd,Znu,Zjm,Zn0,oI,ZI,h1',s2,hG,hi,w1,h3']
   rfl
  ·have h3':¬((b.length - 2:Nat):Int) < (g:Int):=by omega
   have w2:IntKind.i64.wrap (2+(g:Int))=((2+g:Nat):Int):=by rw [Za6 (by omega) (by omega)];omega
   have s3:=fun σ k1 k2=>Zob σ b k1 k2 2 ((2+g:Nat):Int) (by omega) (by omega) (by omega)
   have e3:(((2+g:Nat):Int)).toNat=2+g:=rfl
   have e4:(b.take (2+g)).drop 2=(b.drop 2).take g:=by rw [List.drop_take];congr 1;omega
   rw [e2,e3,e4] at s3
   have hJ:=fun σ sq own f=>Zh8 σ sq own f ((b.drop 2).take g) [] (by simp) (by simp;omega)
   simp only [List.map_cons,List.map_nil,ZI,List.flatten_cons,List.flatten_nil,List.append_nil] at hJ
   have hc:¬(b.length < 2\/b.length - 2 < g):=by omega
   refine ⟨false,?_⟩
   rw [Zh (by rfl) Zpa,if_neg hc]
   simp -implicitDefEqProofs only [EQA,Zt,Nat.reduceLT,Nat.reduceEqDiff,ZD,unG,reduceCtorEq,↓reduceIte,Zd,Znu,Zjm,Zn0,oI,ZI,h1',s2,hG,hi,w1,h3',w2,s3,hJ,viewAs,ZP,ZL,Zq,AVal.cells]
theorem Zk5 (σ:Za) (sq own:Nat) (f:Bool) (b:Zb) (hl:b.length<=140737488355328):Zo E BY σ sq 106 own true [.lst f (b.map Zc)]=some (gdT (ZaB b),σ,{}):=by
 obtain ⟨g,h⟩:=ZFW b hl
 exact ZbK h (by kernel_rfl) rfl rfl rfl (fun _=>rfl) _ _ _
theorem ZJz (b:Zb) (hl:b.length<=140737488355328):E 109 [ZI b] []=some (gtT (Zaf b),[]):=by
 have hD:=fun σ sq own f=>Zk5 σ sq own f b hl
 unfold gdT at hD
 have hI:=fun σ sq own=>Zuz σ sq own true (ZaB b).1
 unfold Zaf
 by_cases h0:(ZaB b).2.2=0
 ·have hn0:¬((ZaB b).2.2≠0):=by omega
  have e0:((0:Int) != 0)=false:=rfl
  have hp:ZaB b=((ZaB b).1,(ZaB b).2.1,0):=by rw [<-h0]
  rw [if_neg hn0]
  rw [hp]
  simp only
  rw [h0] at hD
  generalize (ZaB b).1=d at *
  generalize (ZaB b).2.1=u at *
  rw [Zh (by rfl) Zu3]
  cases ht:Zcq d <;> rw [ht] at hI
  ·simp -implicitDefEqProofs only [EQA,Zt,Nat.reduceLT,Nat.reduceEqDiff,unA,reduceCtorEq,ZY,↓reduceIte,Zd,ZqQ,ZiV,Zpq,oI,ZI,hD,hI,e0,gtT]
   rfl
  ·simp -implicitDefEqProofs only [EQA,Zt,Nat.reduceLT,Nat.reduceEqDiff,unA,reduceCtorEq,ZY,↓reduceIte,Zd,ZqQ,ZiV,Zpq,oI,ZI,hD,hI,e0,gtT]
 ·have hn0:((ZaB b).2.2≠0):=h0
  have e0:((ZaB b).2.2 != 0)=true:=by simpa using h0
  rw [if_pos hn0]
  generalize (ZaB b).2.2=e at *
  rw [Zh (by rfl) Zu3]
  simp -implicitDefEqProofs only [EQA,Zt,Nat.reduceLT,Nat.reduceEqDiff,reduceCtorEq,↓reduceIte,Zd,ZqQ,ZiV,Zpq,oI,ZI,hD,e0,gtT]
  rfl
theorem Zhv (σ:Za) (sq own:Nat) (f:Bool) (b:Zb) (hl:b.length<=140737488355328):Zo E BY σ sq 109 own true [.lst f (b.map Zc)]=some (gtT (Zaf b),σ,{}) :=
 ZbK (ZJz b hl) (by kernel_rfl) rfl rfl rfl (fun _=>rfl) _ _ _
end
section
theorem Zc5 {O:ZU} {bf:Nat->Bool} {σ:Za} {t f:Nat} {rest:List AVal} {cs cs':List AVal} {r r':AVal} (hb:bf f=false) (hp:rest.all Zak=true) (hc:Zd cs=true) (hc':Zd cs'=true) (hn:ZQ r'=true) (hv:viewR [.var cs'] r=some (r',[]))
  (h:O f (.ref 0 0::rest.map ZM) [.var cs]=some (r,[.var cs'])) (hs:σ[t]?=some (.var cs)) (sq:Nat):Zo O bf σ sq f 0 true (.ref t 0::rest)=some (r',σ.set t (.var cs'),{ any:=true,upd:=[(t,cs')] }):=by
 have htl:t < σ.length:=by
  rcases Nat.lt_or_ge t σ.length with h | h
  ·exact h
  ·rw [List.getElem?_eq_none h] at hs;cases hs
 have hup:Za1 (σ.set t (.var cs')) [t]=[(t,cs')]:=by
  simp only [Za1,List.getElem?_set,if_pos htl,if_true]
 have hd:σ.getD t .free=.var cs:=by simp [List.getD_eq_getElem?_getD,hs]
 have hf0:Zq σ []=σ:=rfl
 have hsh:showAs σ (.ref t 0::rest)=some (.ref t 0::rest.map ZM,[]):=by
  rw [showAs,show showA σ (.ref t 0)=some (.ref t 0,[]) from rfl,Zed hp]
  rfl
 have href:Zp (.ref t 0::rest.map ZM)=[t]:=by
  rw [Zp,Zdu hp];rfl
 unfold Zo ZbO
 rw [hb]
 simp only [Bool.false_eq_true,if_false,hsh,hf0,href,Zfr hs hc]
 unfold Zbz
 have hall:([t].all fun t=>okB (σ.getD t .free))=true:=by simp [List.all_cons,List.all_nil,hs,okB]
 rw [if_pos hall]
 have hρ:Zj σ 0 [t] t 0=some (0,0):=by simp [Zj,ZJ,hs,Zl,ZE]
 have hheap:Zr σ 0 [t] (Zj σ 0 [t]) [t] 0=[.var cs]:=by
  simp only [Zr,hd,Zw,(ZaW _ cs hc).1]
 have hargs:Zf (Zj σ 0 [t]) (.ref t 0::rest.map ZM)=.ref 0 0::rest.map ZM:=by
  rw [Zf,ZdA hp]
  simp only [Zm,hρ]
 rw [hargs,hheap,h]
 have hask:Zab true [t].length (some (r,[.var cs']))=some (r',[.var cs']):=by
  unfold Zab
  rw [if_pos rfl]
  have hnp:∀ x,r≠.pan x:=by rintro x rfl;simp [viewR,ZP,ZL] at hv
  rw [show Zbs [t].length (some (r,[.var cs']))=(match viewR [.var cs'] r with
   | some (r',ts)=>match gcA [t].length [r'] (Zq [.var cs'] ts) with
    | ([r''],σ')=>some (r'',σ')
    | _=>none
   | none=>none) from by cases r <;> first | rfl | exact absurd rfl (hnp _)]
  rw [hv]
  simp only [List.length_cons,List.length_nil,Nat.zero_add,show Zq [ZN.var cs'] []=[.var cs'] from rfl,Zls hn hc']
 rw [hask]
 have hk:Za0 σ [t] [.var cs'] 0=true:=by
  simp [Za0,okB,hs,Zce,Zl]
 simp only [Zav,List.isEmpty_cons,Bool.false_eq_true,if_false,List.length_cons,List.length_nil,Nat.zero_add,Nat.add_zero,Nat.le_refl,decide_true,hk,ZaX,Bool.and_self,if_true,Za3,ZaF,List.getD_cons_zero,Zw,(Za7 _ r' hn).1,(ZaW _ cs' hc').1,hup]
theorem ZcA {O:ZU} {bf:Nat->Bool} {σ:Za} {t f:Nat} {rest:List AVal} {cs cs':List AVal} {x:AVal} {view:Bool} (hb:bf f=false) (hp:rest.all Zak=true) (hc:Zd cs=true) (hc':Zd cs'=true) (hn:ZQ x=true)
  (h:O f (.ref 0 0::rest.map ZM) [.var cs]=some (.pan x,[.var cs'])) (hs:σ[t]?=some (.var cs)) (sq:Nat):Zo O bf σ sq f 0 view (.ref t 0::rest)=some (.pan x,σ.set t (.var cs'),{ any:=true,upd:=[(t,cs')] }):=by
 have htl:t < σ.length:=by
  rcases Nat.lt_or_ge t σ.length with h | h
  ·exact h
  ·rw [List.getElem?_eq_none h] at hs;cases hs
 have hup:Za1 (σ.set t (.var cs')) [t]=[(t,cs')]:=by
  simp only [Za1,List.getElem?_set,if_pos htl,if_true]
 have hd:σ.getD t .free=.var cs:=by simp [List.getD_eq_getElem?_getD,hs]
 have hf0:Zq σ []=σ:=rfl
 have hsh:showAs σ (.ref t 0::rest)=some (.ref t 0::rest.map ZM,[]):=by
  rw [showAs,show showA σ (.ref t 0)=some (.ref t 0,[]) from rfl,Zed hp]
  rfl
 have href:Zp (.ref t 0::rest.map ZM)=[t]:=by
  rw [Zp,Zdu hp];rfl
 unfold Zo ZbO
 rw [hb]
 simp only [Bool.false_eq_true,if_false,hsh,hf0,href,Zfr hs hc]
 unfold Zbz
 have hall:([t].all fun t=>okB (σ.getD t .free))=true:=by simp [List.all_cons,List.all_nil,hs,okB]
 rw [if_pos hall]
 have hρ:Zj σ 0 [t] t 0=some (0,0):=by simp [Zj,ZJ,hs,Zl,ZE]
 have hheap:Zr σ 0 [t] (Zj σ 0 [t]) [t] 0=[.var cs]:=by
  simp only [Zr,hd,Zw,(ZaW _ cs hc).1]
 have hargs:Zf (Zj σ 0 [t]) (.ref t 0::rest.map ZM)=.ref 0 0::rest.map ZM:=by
  rw [Zf,ZdA hp]
  simp only [Zm,hρ]
 rw [hargs,hheap,h]
 have hask:Zab view [t].length (some (.pan x,[.var cs']))=some (.pan x,[.var cs']):=by
  unfold Zab
  split <;> rfl
 rw [hask]
 have hk:Za0 σ [t] [.var cs'] 0=true:=by
  simp [Za0,okB,hs,Zce,Zl]
 have hnp:ZQ (.pan x)=true:=by simpa only [ZQ] using hn
 simp only [Zav,List.isEmpty_cons,Bool.false_eq_true,if_false,List.length_cons,List.length_nil,Nat.zero_add,Nat.add_zero,Nat.le_refl,decide_true,hk,ZaX,Bool.and_self,if_true,Za3,ZaF,List.getD_cons_zero,Zw,(Za7 _ _ hnp).1,(ZaW _ cs' hc').1,hup]
end
section
end
section
def ZrL:List (Int×Int×Int):=[(1,1,65544),(2,3,65544),(3,5,65544),(8,5,65544),(9,6,65544),(11,4,264),(17,3,16390),(18,5,4),(26,5,4),(19,2,4),(21,5,32774),(22,6,32774),(23,1,2),(25,1,2),(24,3,65536),(28,5,16388),(31,5,51956),(33,2,6),(34,2,6),(35,2,8),(39,3,6),(36,1,4),(37,1,4),(40,1,4),(41,1,4),(42,1,4),(38,7,-12290)]
def ofF (id:Int):Int×Int:=(ZrL.lookup id).getD (0,0)
def Zbb (id:Int):Int:=(ofF id).1
def Zd6 (id:Int):Prop:=id=1\/id=2\/id=3\/id=8\/id=9\/id=11\/id=17\/id=18\/id=26\/id=19\/id=21\/id=22\/id=23\/id=25\/id=24\/id=28\/id=31\/id=33\/id=34\/id=35\/id=39\/id=36\/id=37\/id=40\/id=41\/id=42\/id=38
instance (id:Int):Decidable (Zd6 id):=by unfold Zd6;infer_instance
theorem ZwA {id:Int} (h:¬Zd6 id):(id == 1)=false/\(id == 2)=false/\(id == 3)=false/\(id == 8)=false/\(id == 9)=false/\(id == 11)=false/\(id == 17)=false/\(id == 18)=false/\(id == 26)=false/\(id == 19)=false/\(id == 21)=false/\(id == 22)=false/\(id == 23)=false/\(id == 25)=false/\(id == 24)=false/\(id == 28)=false/\(id == 31)=false/\(id == 33)=false/\(id == 34)=false/\(id == 35)=false/\(id == 39)=false/\(id == 36)=false/\(id == 37)=false/\(id == 40)=false/\(id == 41)=false/\(id == 42)=false/\(id == 38)=false:=by
 unfold Zd6 at h
 simp only [not_or] at h
 simp only [beq_eq_false_iff_ne,ne_eq]
 exact h
theorem Zof {id:Int} (h:¬Zd6 id):ofF id=(0,0):=by
 obtain ⟨h1,h2,h3,h8,h9,h11,h17,h18,h26,h19,h21,h22,h23,h25,h24,h28,h31,h33,h34,h35,h39,h36,h37,h40,h41,h42,h38⟩:=ZwA h
 simp only [ofF,ZrL,List.lookup,h1,h2,h3,h8,h9,h11,h17,h18,h26,h19,h21,h22,h23,h25,h24,h28,h31,h33,h34,h35,h39,h36,h37,h40,h41,h42,h38,Option.getD_none]
theorem ZBl (id:Int):E 152 [.int .i64 id] []=some (.agg [.int .i64 (ofF id).1,.int .i64 (ofF id).2],[]):=by
 by_cases h:Zd6 id
 ·rcases h with rfl | rfl | rfl | rfl | rfl | rfl | rfl | rfl | rfl | rfl | rfl | rfl | rfl | rfl | rfl | rfl | rfl | rfl | rfl | rfl | rfl | rfl | rfl | rfl | rfl | rfl | rfl
  all_goals exact ZcO.2 ⟨20,by kernel_rfl⟩
 ·rw [Zof h]
  obtain ⟨h1,h2,h3,h8,h9,h11,h17,h18,h26,h19,h21,h22,h23,h25,h24,h28,h31,h33,h34,h35,h39,h36,h37,h40,h41,h42,h38⟩:=ZwA h
  rw [Zh (by rfl) Zxv]
  simp -implicitDefEqProofs only [EQA,Zt,Nat.reduceAdd,Nat.reduceLT,Nat.reduceLeDiff,Nat.reduceEqDiff,Nat.reduceBEq,reduceCtorEq,↓reduceIte,Zd,ZLn,Zox,ZC3,oI,oN,h1,h2,h3,h8,h9,h11,h17,h18,h26,h19,h21,h22,h23,h25,h24,h28,h31,h33,h34,h35,h39,h36,h37,h40,h41,h42,h38,Zaj,AVal.cells]
theorem ZsM (σ:Za) (sq own:Nat) (id:Int):Zo E BY σ sq 152 own true [.int .i64 id]=some (.agg [.int .i64 (ofF id).1,.int .i64 (ofF id).2],σ,{}) :=
 ZbK (ZBl id) (by kernel_rfl) rfl rfl rfl (fun _=>rfl) _ _ _
theorem ZyG (id:Int):E 134 [.int .i64 id] []=some (.int .i64 (Zbb id),[]):=by
 have hC:=fun σ sq own=>ZsM σ sq own id
 unfold Zbb
 rw [Zh (by rfl) ZKT]
 simp -implicitDefEqProofs only [EQA,Nat.reduceLT,Nat.reduceEqDiff,reduceCtorEq,↓reduceIte,ZKX,Zrj,ZwW,oI,hC]
theorem Zjy (σ:Za) (sq own:Nat) (id:Int):Zo E BY σ sq 134 own true [.int .i64 id]=some (.int .i64 (Zbb id),σ,{}) :=
 ZbK (ZyG id) (by kernel_rfl) rfl rfl rfl (fun _=>rfl) _ _ _
def Zrc (pl w:Int):Int:=IntKind.i64.wrap (((BitVec.ofInt IntKind.i64.bits (pl.fdiv (2 ^ min w.toNat IntKind.i64.bits)) &&& BitVec.ofInt IntKind.i64.bits 1).toNat:Nat):Int)
def Zcs (id w:Int):Bool:=decide (w>=1) && decide (w<=16) && Zrc (ofF id).2 w == 1
theorem ZAG (id w:Int):E 153 [.int .i64 id,.int .i64 w] []=some (.bool (Zcs id w),[]):=by
 have hC:=fun σ sq own=>ZsM σ sq own id
 unfold Zcs Zrc
 generalize (ofF id).2=pl at *
 rw [Zh (by rfl) ZJG]
 by_cases h1:w>=1
 ·have h2:¬w < 0:=by omega
  by_cases h3:w<=16
  ·simp -implicitDefEqProofs only [EQA,Nat.reduceLT,Nat.reduceEqDiff,ZaC,ZD,unG,reduceCtorEq,↓reduceIte,Zp0,Zi5,ZnZ,oI,hC,h1,h2,h3]
  ·simp -implicitDefEqProofs only [EQA,Nat.reduceLT,Nat.reduceEqDiff,ZD,Zam,unG,reduceCtorEq,↓reduceIte,Zp0,Zi5,ZnZ,oI,h1,h3]
 ·simp -implicitDefEqProofs only [EQA,Nat.reduceLT,Nat.reduceEqDiff,ZD,Zam,reduceCtorEq,↓reduceIte,Zp0,Zi5,ZnZ,oI,h1]
theorem ZKi (σ:Za) (sq own:Nat) (id w:Int):Zo E BY σ sq 153 own true [.int .i64 id,.int .i64 w]=some (.bool (Zcs id w),σ,{}) :=
 ZbK (ZAG id w) (by kernel_rfl) rfl rfl rfl (fun _=>rfl) _ _ _
theorem ZLN {id w:Int} (h:¬(1<=w/\w<=16)):Zcs id w=false:=by
 unfold Zcs
 by_cases h1:w>=1
 ·have h2:¬w<=16:=fun h2=>h ⟨h1,h2⟩
  simp [h2]
 ·simp [h1]
theorem ZzN:∀ k:Fin 17,Zrc 0 k.val=0:=by decide +kernel
theorem ZFZ {id:Int} (h:¬Zd6 id) (w:Int):Zcs id w=false:=by
 by_cases hw:1<=w/\w<=16
 ·unfold Zcs
  rw [Zof h]
  have:=ZzN ⟨w.toNat,by omega⟩
  have e:((w.toNat:Nat):Int)=w:=by omega
  simp only [e] at this
  rw [this];simp
 ·exact ZLN hw
end
section
theorem ZnH (id:Int):Zbb id=0\/Zbb id=1\/Zbb id=2\/Zbb id=3\/Zbb id=4\/Zbb id=5\/Zbb id=6\/Zbb id=7:=by
 unfold Zbb
 by_cases h:Zd6 id
 ·unfold Zd6 at h
  rcases h with rfl | rfl | rfl | rfl | rfl | rfl | rfl | rfl | rfl | rfl | rfl | rfl | rfl | rfl | rfl | rfl | rfl | rfl | rfl | rfl | rfl | rfl | rfl | rfl | rfl | rfl | rfl
  all_goals decide
 ·rw [Zof h];simp
theorem ZBG (b:Zb) (h:b.length<=4):Zct b < 4294967296:=by
 unfold Zct
 match b,h with
 | [],_=>simp [ZeK]
 | [a],_=>rw [ZcM,ZeK];have:=a.toNat_lt;omega
 | [a,c],_=>rw [ZcM,ZcM,ZeK];have:=a.toNat_lt;have:=c.toNat_lt;omega
 | [a,c,d],_=>rw [ZcM,ZcM,ZcM,ZeK];have:=a.toNat_lt;have:=c.toNat_lt;have:=d.toNat_lt;omega
 | [a,c,d,e],_=>rw [ZcM,ZcM,ZcM,ZcM,ZeK];have:=a.toNat_lt;have:=c.toNat_lt;have:=d.toNat_lt;have:=e.toNat_lt;omega
def ZeD (id:Int) (W:Nat) (b:Zb):Zn×Nat×Bool:=if b.length < W then (⟨id,0,[],[],[]⟩,0,false) else (⟨id,Zct (b.take W),[],[],[]⟩,W,true)
def Zhc (id:Int) (b:Zb):Zn×Nat×Bool :=
 if (Zaf b).2.2=0 then (⟨id,0,(Zaf b).1,(Zaf (b.drop (Zaf b).2.1)).1,[]⟩,(Zaf b).2.1+(Zaf (b.drop (Zaf b).2.1)).2.1,(Zaf (b.drop (Zaf b).2.1)).2.2 == 0) else (⟨id,0,[],[],[]⟩,0,false)
def ZcF (k id:Int) (b:Zb):Zn×Nat×Bool :=
 if k=1 then ZeD id 1 b else if k=2 then ZeD id 2 b else if k=3 then ZeD id 4 b
 else if k=4 then (⟨id,(ZW b).1,[],[],[]⟩,(ZW b).2.1,(ZW b).2.2 == 0)
 else if k=5 then (⟨id,0,(Zaf b).1,[],[]⟩,(Zaf b).2.1,(Zaf b).2.2 == 0)
 else if k=6 then (⟨id,0,[],[],(ZaB b).1⟩,(ZaB b).2.1,(ZaB b).2.2 == 0)
 else if k=7 then Zhc id b else (⟨id,0,[],[],[]⟩,0,true)
def ZcB (id:Int) (b:Zb):Zn×Nat×Bool:=ZcF (Zbb id) id b
def Zcu (f:Bool) (x:Zn×Nat×Bool):AVal:=.tup [.agg [.int .i64 x.1.id,.int .i64 x.1.num,.str x.1.text,.str x.1.pair,.lst f (x.1.data.map Zc)],.int .i64 (x.2.1:Nat),.bool x.2.2]
theorem ZmR (b:Zb):(ZaB b).2.1<=b.length/\(ZaB b).1.length<=b.length:=by
 unfold ZaB
 by_cases h:b.length < 2\/b.length - 2 < Zct (b.take 2)
 ·rw [if_pos h];simp
 ·rw [if_neg h]
  simp only [not_or] at h
  simp;omega
theorem Zic (b:Zb):(Zaf b).2.1<=b.length/\((Zaf b).2.2≠0->(Zaf b).1=[]/\(Zaf b).2.1=0):=by
 have hd:=ZmR b
 unfold Zaf
 by_cases h:(ZaB b).2.2≠0
 ·rw [if_pos h];simp
 ·rw [if_neg h]
  by_cases ht:Zcq (ZaB b).1=true
  ·rw [if_pos ht];exact ⟨hd.1,fun h'=>absurd h' h⟩
  ·rw [if_neg ht];simp
theorem ZoE (id:Int) (b:Zb) (hl:b.length<=140737488355328) (k:Int) (W:Nat) (hk:Zbb id=k) (hW:(k=1/\W=1)\/(k=2/\W=2)\/(k=3/\W=4)):E 154 [.int .i64 id,ZI b] []=some (Zcu true (ZeD id W b),[]):=by
 have hC:=fun σ sq own=>Zjy σ sq own id
 rw [hk] at hC
 have hG:=fun σ sq own f=>Zj0 σ sq own (b.take W) (by simp;omega) f
 have hg:=ZBG (b.take W) (by simp;omega)
 unfold ZeD
 generalize Zct (b.take W)=g at *
 have hi:IntKind.i64.wrap (g:Int)=(g:Int):=Za6 (by omega) (by omega)
 have hw:∀ W:Nat,W<=b.length->∀ (σ:Za) (kk:IntKind),ZbS σ 1 (.lst false (b.map Zc)) none (some (.int kk (W:Int))) none=some (.lst false ((b.take W).map Zc),σ,{}):=fun W hW σ kk=>by
  have:=Zje σ 1 b Zc kk (W:Int) (by omega) (by omega)
  exact this
 have z1:((1:Nat):Int)=1:=rfl
 have z2:((2:Nat):Int)=2:=rfl
 have z4:((4:Nat):Int)=4:=rfl
 rcases hW with ⟨rfl,rfl⟩ | ⟨rfl,rfl⟩ | ⟨rfl,rfl⟩
 ·have w1:IntKind.i64.wrap (1 - 1)=0:=rfl
  have w2:IntKind.i64.wrap (1*2 ^ min (Int.toNat 0) IntKind.i64.bits)=1:=rfl
  have ng:¬((0:Int) < 0):=by decide
  by_cases h:b.length < 1
  ·have h':(b.length:Int) < 1:=by omega
   rw [Zh (by rfl) Zeq,if_pos h]
   simp -implicitDefEqProofs only [EQA,Zt,Nat.reduceAdd,Nat.reduceLT,Nat.reduceLeDiff,Nat.reduceEqDiff,Nat.reduceBEq,ZaC,reduceCtorEq,↓reduceIte,Zd,ZdI,Zc6,ZdF,oI,oN,ZI,hC,w1,w2,ng,h',Zcu,AVal.cells]
   rfl
  ·have h':¬(b.length:Int) < 1:=by omega
   have hs:=hw 1 (by omega)
   rw [z1] at hs
   have e0:((0:Int) == 0)=true:=rfl
   rw [Zh (by rfl) Zeq,if_neg h]
   simp -implicitDefEqProofs only [EQA,Zt,Nat.reduceAdd,Nat.reduceLT,Nat.reduceLeDiff,Nat.reduceEqDiff,Nat.reduceBEq,ZaC,reduceCtorEq,↓reduceIte,Zd,ZdI,Zc6,ZdF,oI,oN,ZI,hC,w1,w2,ng,h',hs,hG,hi,Zcu,AVal.cells]
   rfl
 ·have w1:IntKind.i64.wrap (2 - 1)=1:=rfl
  have w2:IntKind.i64.wrap (1*2 ^ min (Int.toNat 1) IntKind.i64.bits)=2:=rfl
  have ng:¬((1:Int) < 0):=by decide
  by_cases h:b.length < 2
  ·have h':(b.length:Int) < 2:=by omega
   rw [Zh (by rfl) Zeq,if_pos h]
   simp -implicitDefEqProofs only [EQA,Zt,Nat.reduceAdd,Nat.reduceLT,Nat.reduceLeDiff,Nat.reduceEqDiff,Nat.reduceBEq,ZaC,reduceCtorEq,↓reduceIte,Zd,ZdI,Zc6,ZdF,oI,oN,ZI,hC,w1,w2,ng,h',Int.reduceBEq,Zcu,AVal.cells]
   rfl
  ·have h':¬(b.length:Int) < 2:=by omega
   have hs:=hw 2 (by omega)
   rw [z2] at hs
   have e0:((0:Int) == 0)=true:=rfl
   rw [Zh (by rfl) Zeq,if_neg h]
   simp -implicitDefEqProofs only [EQA,Zt,Nat.reduceAdd,Nat.reduceLT,Nat.reduceLeDiff,Nat.reduceEqDiff,Nat.reduceBEq,ZaC,reduceCtorEq,↓reduceIte,Zd,ZdI,Zc6,ZdF,oI,oN,ZI,hC,w1,w2,ng,h',hs,hG,hi,Int.reduceBEq,Zcu,AVal.cells]
   rfl
 ·have w1:IntKind.i64.wrap (3 - 1)=2:=rfl
  have w2:IntKind.i64.wrap (1*2 ^ min (Int.toNat 2) IntKind.i64.bits)=4:=rfl
  have ng:¬((2:Int) < 0):=by decide
  by_cases h:b.length < 4
  ·have h':(b.length:Int) < 4:=by omega
   rw [Zh (by rfl) Zeq,if_pos h]
   simp -implicitDefEqProofs only [EQA,Zt,Nat.reduceAdd,Nat.reduceLT,Nat.reduceLeDiff,Nat.reduceEqDiff,Nat.reduceBEq,ZaC,reduceCtorEq,↓reduceIte,Zd,ZdI,Zc6,ZdF,oI,oN,ZI,hC,w1,w2,ng,h',Int.reduceBEq,Zcu,AVal.cells]
   rfl
  ·have h':¬(b.length:Int) < 4:=by omega
   have hs:=hw 4 (by omega)
   rw [z4] at hs
   have e0:((0:Int) == 0)=true:=rfl
   rw [Zh (by rfl) Zeq,if_neg h]
   simp -implicitDefEqProofs only [EQA,Zt,Nat.reduceAdd,Nat.reduceLT,Nat.reduceLeDiff,Nat.reduceEqDiff,Nat.reduceBEq,ZaC,reduceCtorEq,↓reduceIte,Zd,ZdI,Zc6,ZdF,oI,oN,ZI,hC,w1,w2,ng,h',hs,hG,hi,Int.reduceBEq,Zcu,AVal.cells]
   rfl
theorem ZDl (id:Int) (b:Zb) (hl:b.length<=140737488355328):∃ f,E 154 [.int .i64 id,ZI b] []=some (Zcu f (ZcB id b),[]):=by
 unfold ZcB
 have hC:=fun σ sq own=>Zjy σ sq own id
 have hGV:=fun σ sq own f=>Zol σ sq own f b (by omega)
 have hGT:=fun σ sq own f=>Zhv σ sq own f b hl
 have hGD:=fun σ sq own f=>Zk5 σ sq own f b hl
 have z0:((0:Nat):Int)=0:=rfl
 rcases ZnH id with hk | hk | hk | hk | hk | hk | hk | hk
 ·refine ⟨true,?_⟩
  rw [hk] at hC ⊢
  rw [show ZcF 0 id b=(⟨id,0,[],[],[]⟩,0,true) from rfl,Zh (by rfl) Zeq]
  have e0:((0:Int) == 0)=true:=rfl
  simp -implicitDefEqProofs only [EQA,Zt,Nat.reduceAdd,Nat.reduceLT,Nat.reduceLeDiff,Nat.reduceEqDiff,Nat.reduceBEq,reduceCtorEq,↓reduceIte,Zd,ZdI,Zc6,ZdF,oI,oN,ZI,hC,Int.reduceBEq,Zcu,AVal.cells]
  rfl
 ·rw [hk];exact ⟨true,ZoE id b hl 1 1 hk (by simp)⟩
 ·rw [hk];exact ⟨true,ZoE id b hl 2 2 hk (by simp)⟩
 ·rw [hk];exact ⟨true,ZoE id b hl 3 4 hk (by simp)⟩
 ·refine ⟨true,?_⟩
  rw [hk] at hC ⊢
  rw [show ZcF 4 id b=(⟨id,(ZW b).1,[],[],[]⟩,(ZW b).2.1,(ZW b).2.2 == 0) from rfl,Zh (by rfl) Zeq]
  unfold gvT at hGV
  simp -implicitDefEqProofs only [EQA,Zt,Nat.reduceAdd,Nat.reduceLT,Nat.reduceLeDiff,Nat.reduceEqDiff,Nat.reduceBEq,reduceCtorEq,↓reduceIte,Zd,ZdI,Zc6,ZdF,oI,oN,ZI,hC,hGV,Int.reduceBEq,Zcu,AVal.cells]
 ·refine ⟨true,?_⟩
  rw [hk] at hC ⊢
  rw [show ZcF 5 id b=(⟨id,0,(Zaf b).1,[],[]⟩,(Zaf b).2.1,(Zaf b).2.2 == 0) from rfl,Zh (by rfl) Zeq]
  unfold gtT at hGT
  simp -implicitDefEqProofs only [EQA,Zt,Nat.reduceAdd,Nat.reduceLT,Nat.reduceLeDiff,Nat.reduceEqDiff,Nat.reduceBEq,reduceCtorEq,↓reduceIte,Zd,ZdI,Zc6,ZdF,oI,oN,ZI,hC,hGT,Int.reduceBEq,Zcu,AVal.cells]
 ·refine ⟨false,?_⟩
  rw [hk] at hC ⊢
  rw [show ZcF 6 id b=(⟨id,0,[],[],(ZaB b).1⟩,(ZaB b).2.1,(ZaB b).2.2 == 0) from rfl,Zh (by rfl) Zeq]
  unfold gdT at hGD
  simp -implicitDefEqProofs only [EQA,Zt,Nat.reduceAdd,Nat.reduceLT,Nat.reduceLeDiff,Nat.reduceEqDiff,Nat.reduceBEq,reduceCtorEq,↓reduceIte,Zd,ZdI,Zc6,ZdF,oI,oN,ZI,hC,hGD,Int.reduceBEq,Zcu,AVal.cells]
 ·refine ⟨true,?_⟩
  rw [hk] at hC ⊢
  rw [show ZcF 7 id b=Zhc id b from rfl,Zh (by rfl) Zeq]
  unfold gtT at hGT
  unfold Zhc
  have hu:=Zic b
  by_cases h:(Zaf b).2.2=0
  ·have h':((Zaf b).2.2 == 0)=true:=by simpa using h
   have hs:=fun σ kk=>Zfy σ b kk (((Zaf b).2.1:Nat):Int) (by omega) (by omega)
   have e:((((Zaf b).2.1:Nat):Int)).toNat=(Zaf b).2.1:=rfl
   rw [e] at hs
   have hGT2:=fun σ sq own f=>Zhv σ sq own f (b.drop (Zaf b).2.1) (by simp;omega)
   unfold gtT at hGT2
   have hu2:=Zic (b.drop (Zaf b).2.1)
   have hdl:(b.drop (Zaf b).2.1).length<=b.length:=by simp
   have hw:IntKind.i64.wrap ((((Zaf b).2.1:Nat):Int)+(((Zaf (b.drop (Zaf b).2.1)).2.1:Nat):Int))=(((Zaf b).2.1+(Zaf (b.drop (Zaf b).2.1)).2.1:Nat):Int):=by
    rw [Za6 (by omega) (by omega)];rfl
   rw [if_pos h]
   rw [h] at hGT
   have e0:((0:Int) == 0)=true:=rfl
   simp -implicitDefEqProofs only [EQA,Zt,Nat.reduceAdd,Nat.reduceLT,Nat.reduceLeDiff,Nat.reduceEqDiff,Nat.reduceBEq,reduceCtorEq,↓reduceIte,Zd,ZdI,Zc6,ZdF,oI,oN,ZI,hC,hGT,hs,hGT2,hw,Int.reduceBEq,Zcu,AVal.cells]
  ·have h':((Zaf b).2.2 == 0)=false:=by simpa using h
   rw [if_neg h]
   obtain ⟨x1,x2⟩:=hu.2 h
   rw [x1,x2] at hGT
   simp -implicitDefEqProofs only [EQA,Zt,Nat.reduceAdd,Nat.reduceLT,Nat.reduceLeDiff,Nat.reduceEqDiff,Nat.reduceBEq,reduceCtorEq,↓reduceIte,Zd,ZdI,Zc6,ZdF,oI,oN,ZI,hC,hGT,h',Int.reduceBEq,Zcu,AVal.cells]
theorem ZEK (σ:Za) (sq own:Nat) (f:Bool) (id:Int) (b:Zb) (hl:b.length<=140737488355328):Zo E BY σ sq 154 own true [.int .i64 id,.lst f (b.map Zc)]=some (Zcu false (ZcB id b),σ,{}):=by
 obtain ⟨g,h⟩:=ZDl id b hl
 exact ZbK h (by kernel_rfl) rfl rfl rfl (fun _=>rfl) _ _ _
end
section
end
section
def Zgn (id w:Int):Bool:=id == 38 || (id == 11 && w == 3)
def Zdi (id num:Int):Bool:=if id == 11 || id == 33 || id == 35 || id == 39 then num != 0 else Zbb id != 1 || decide (num<=1)
theorem ZI7 (id w:Int):E 155 [.int .i64 id,.int .i64 w] []=some (.bool (Zgn id w),[]):=by
 rw [Zh (by rfl) ZFu]
 unfold Zgn
 cases h1:(id == 38) <;> cases h2:(id == 11)
 all_goals simp -implicitDefEqProofs only [EQA,Nat.reduceLT,Nat.reduceEqDiff,ZD,Zam,unG,reduceCtorEq,↓reduceIte,ZMU,Zql,Zyo,oI,h1,h2]
theorem ZJO (σ:Za) (sq own:Nat) (id w:Int):Zo E BY σ sq 155 own true [.int .i64 id,.int .i64 w]=some (.bool (Zgn id w),σ,{}) :=
 ZbK (ZI7 id w) (by kernel_rfl) rfl rfl rfl (fun _=>rfl) _ _ _
theorem ZJE (p:Zn):E 156 [Zg p] []=some (.bool (Zdi p.id p.num),[]):=by
 have hC:=fun σ sq own=>Zjy σ sq own p.id
 rw [Zh (by rfl) Zz8]
 unfold Zdi
 cases h1:(p.id == 11) <;> cases h2:(p.id == 33) <;> cases h3:(p.id == 35) <;> cases h4:(p.id == 39)
 all_goals simp -implicitDefEqProofs only [EQA,ZK,ZV,ZCq,ZdB,Nat.reduceLT,Nat.reduceEqDiff,Nat.reduceBEq,ZD,Zam,unG,ite_self,↓reduceIte,ZJt,ZpF,ZHy,oI,ZI,Zg,Zbd,hC,h1,h2,h3,h4]
theorem ZLC (σ:Za) (sq own:Nat) (p:Zn):Zo E BY σ sq 156 own true [.agg [.int .i64 p.id,.int .i64 p.num,.str p.text,.str p.pair,.lst false (p.data.map Zc)]]=some (.bool (Zdi p.id p.num),σ,{}) :=
 ZbK (ZJE p) (by kernel_rfl) rfl rfl rfl (fun _=>rfl) _ _ _
end
section
theorem Zst:∀ (b:Zb) (i n:Nat),(gvA i n b).2.2=0->i < (gvA i n b).2.1/\(gvA i n b).2.1<=i+b.length
 | [],i,n,h=>by
  unfold gvA at h
  split at h <;> simp at h
 | c::r,i,n,h=>by
  unfold gvA at h ⊢
  split at h
  ·simp at h
  ·rename_i h4
   rw [if_neg h4]
   split at h
   ·rename_i hc
    rw [if_pos hc]
    split at h
    ·simp at h
    ·rename_i h0
     rw [if_neg h0]
     simp
   ·rename_i hc
    rw [if_neg hc]
    have:=Zst r (i+1) _ h
    simp only [List.length_cons]
    omega
theorem Zpk (b:Zb) (h:(ZW b).2.2=0):0 < (ZW b).2.1/\(ZW b).2.1<=b.length:=by
 have:=Zst b 0 0 h
 simpa [ZW] using this
theorem ZFz (id:Int) (b:Zb):(ZcB id b).1.id=id:=by
 unfold ZcB ZcF ZeD Zhc
 repeat' split
 all_goals rfl
theorem ZBq (id:Int) (b:Zb):(ZcB id b).1.data.length<=b.length:=by
 unfold ZcB ZcF ZeD Zhc
 repeat' split
 all_goals first
  | exact (ZmR b).2
  | exact Nat.zero_le _
theorem ZsX:∀ (b:Zb) (i n:Nat),(gvA i n b).2.1<=i+b.length
 | [],i,n=>by unfold gvA;split <;> simp
 | c::r,i,n=>by
  unfold gvA
  repeat' split
  all_goals simp only [List.length_cons]
  all_goals first
   | omega
   | (have:=ZsX r (i+1) (n+c.toNat % 128*128 ^ i);omega)
theorem ZtE (b:Zb):(ZW b).2.1<=b.length:=by simpa [ZW] using ZsX b 0 0
theorem ZsI (id:Int) (b:Zb):(ZcB id b).2.1<=b.length:=by
 have h1:=(Zic b).1
 have h2:=(Zic (b.drop (Zaf b).2.1)).1
 have h3:=ZtE b
 have h4:=(ZmR b).1
 simp only [List.length_drop] at h2
 unfold ZcB ZcF ZeD Zhc
 repeat' split
 all_goals simp only
 all_goals omega
def ZkT (w:Int) (l:List Zn) (id:Int) (u:Nat) (v:Zn×Nat×Bool):Zn×Nat×Int :=
 if v.2.2=false then (v.1,0,129) else if ((Zc9 id l).isSome && !Zgn id w)=true then (v.1,0,130) else
 if Zdi v.1.id v.1.num=true then (v.1,u+v.2.1,0) else if (id == 35)=true then (v.1,0,148) else (v.1,0,130)
def ZbH (w:Int) (b:Zb) (l:List Zn):Zn×Nat×Int :=
 if (ZW b).2.2≠0\/Zcs ((ZW b).1:Nat) w=false then (Zfh,0,129)
 else ZkT w l ((ZW b).1:Nat) (ZW b).2.1 (ZcB ((ZW b).1:Nat) (b.drop (ZW b).2.1))
def Zdd (f:Bool) (x:Zn×Nat×Int):AVal:=.tup [.agg [.int .i64 x.1.id,.int .i64 x.1.num,.str x.1.text,.str x.1.pair,.lst f (x.1.data.map Zc)],.int .i64 (x.2.1:Nat),.int .i64 x.2.2]
theorem Zwk (w:Int) (b:Zb) (l:List Zn) (hl:b.length<=140737488355328) (hl2:l.length<=9223372036854775807) (hd:∀ p ∈ l,p.data.length<=140737488355328):∃ f,E 136 [.int .i64 w,ZI b,Zbc l] []=some (Zdd f (ZbH w b l),[]):=by
 have hGV:=fun σ sq own f=>Zol σ sq own f b (by omega)
 have hu:=Zpk b
 unfold ZbH
 rcases hx:ZW b with ⟨n,u,e⟩
 rw [hx] at hGV hu
 unfold gvT at hGV
 simp only at hGV hu ⊢
 have hM:=fun σ sq own=>ZKi σ sq own (n:Int) w
 by_cases he:e=0
 ·subst he
  have n0:((0:Int) != 0)=false:=rfl
  cases hm:Zcs (n:Int) w
  ·refine ⟨true,?_⟩
   rw [hm] at hM
   have hc:(0:Int)≠0\/false=false:=Or.inr rfl
   rw [if_pos hc,Zh (by rfl) Zf1]
   unfold Zdd Zfh
   simp -implicitDefEqProofs only [EQA,Zt,Nat.reduceAdd,Nat.reduceLT,Nat.reduceLeDiff,Nat.reduceEqDiff,Nat.reduceBEq,unA,ZD,unG,reduceCtorEq,↓reduceIte,Zd,Zf5,Ze6,Zgx,oI,oN,ZI,Zbc,hGV,hM,n0,AVal.cells]
   rfl
  ·refine ⟨false,?_⟩
   rw [hm] at hM
   have hc:¬((0:Int)≠0\/true=false):=by simp
   rw [if_neg hc]
   have hul:=(hu rfl).2
   have hs:=fun σ kk=>Zfy σ b kk ((u:Nat):Int) (by omega) (by omega)
   have e2:(((u:Nat):Int)).toNat=u:=rfl
   rw [e2] at hs
   have hV:=fun σ sq own f=>ZEK σ sq own f (n:Int) (b.drop u) (by simp;omega)
   have hF:=fun σ sq own=>ZJ3 σ sq own l hl2 hd (n:Int)
   have hO:=fun σ sq own=>ZJO σ sq own (n:Int) w
   have hid:=ZFz (n:Int) (b.drop u)
   have hused:(ZcB (n:Int) (b.drop u)).2.1<=b.length:=Nat.le_trans (ZsI _ _) (by simp)
   have hT:=fun σ sq own=>ZLC σ sq own (ZcB (n:Int) (b.drop u)).1
   unfold Zcu at hV
   simp only [ZEj] at hF
   unfold ZkT
   generalize ZcB (n:Int) (b.drop u)=v at *
   obtain ⟨p,m,ok⟩:=v
   simp only at hV hT hid hused ⊢
   have hw:IntKind.i64.wrap ((u:Int)+(m:Int))=((u+m:Nat):Int):=by
    rw [Za6 (by omega) (by omega)];rfl
   generalize (Zc9 (n:Int) l).getD Zfh=q at *
   cases ok
   ·rw [Zh (by rfl) Zf1]
    unfold Zdd
    simp -implicitDefEqProofs only [EQA,Zt,Nat.reduceAdd,Nat.reduceLT,Nat.reduceLeDiff,Nat.reduceEqDiff,Nat.reduceBEq,unA,ZD,unG,reduceCtorEq,↓reduceIte,Zd,Zf5,Ze6,Zgx,oI,oN,ZI,Zbc,hGV,hM,hs,hV,hF,n0,AVal.cells]
    rfl
   ·cases h1:(Zc9 (n:Int) l).isSome <;> rw [h1] at hF
    ·cases h3:Zdi p.id p.num <;> rw [h3] at hT
     ·cases h4:((n:Int) == 35)
      all_goals rw [Zh (by rfl) Zf1]
      all_goals unfold Zdd
      all_goals simp -implicitDefEqProofs only [EQA,Zt,Nat.reduceAdd,Nat.reduceLT,Nat.reduceLeDiff,Nat.reduceEqDiff,Nat.reduceBEq,unA,ZD,Zam,unG,reduceCtorEq,↓reduceIte,Zd,Zf5,Ze6,Zgx,oI,oN,ZI,Zbc,hGV,hM,hs,hV,hF,hT,h4,n0,AVal.cells]
      all_goals rfl
     ·rw [Zh (by rfl) Zf1]
      unfold Zdd
      simp -implicitDefEqProofs only [EQA,Zt,Nat.reduceAdd,Nat.reduceLT,Nat.reduceLeDiff,Nat.reduceEqDiff,Nat.reduceBEq,unA,ZD,Zam,unG,reduceCtorEq,↓reduceIte,Zd,Zf5,Ze6,Zgx,oI,oN,ZI,Zbc,hGV,hM,hs,hV,hF,hT,hw,n0,AVal.cells]
    ·cases h2:Zgn (n:Int) w <;> rw [h2] at hO
     ·rw [Zh (by rfl) Zf1]
      unfold Zdd
      simp -implicitDefEqProofs only [EQA,Zt,Nat.reduceAdd,Nat.reduceLT,Nat.reduceLeDiff,Nat.reduceEqDiff,Nat.reduceBEq,unA,ZD,unG,reduceCtorEq,↓reduceIte,Zd,Zf5,Ze6,Zgx,oI,oN,ZI,Zbc,hGV,hM,hs,hV,hF,hO,n0,AVal.cells]
      rfl
     ·cases h3:Zdi p.id p.num <;> rw [h3] at hT
      ·cases h4:((n:Int) == 35)
       all_goals rw [Zh (by rfl) Zf1]
       all_goals unfold Zdd
       all_goals simp -implicitDefEqProofs only [EQA,Zt,Nat.reduceAdd,Nat.reduceLT,Nat.reduceLeDiff,Nat.reduceEqDiff,Nat.reduceBEq,unA,ZD,unG,reduceCtorEq,↓reduceIte,Zd,Zf5,Ze6,Zgx,oI,oN,ZI,Zbc,hGV,hM,hs,hV,hF,hT,hO,h4,n0,AVal.cells]
       all_goals rfl
      ·rw [Zh (by rfl) Zf1]
       unfold Zdd
       simp -implicitDefEqProofs only [EQA,Zt,Nat.reduceAdd,Nat.reduceLT,Nat.reduceLeDiff,Nat.reduceEqDiff,Nat.reduceBEq,unA,ZD,unG,reduceCtorEq,↓reduceIte,Zd,Zf5,Ze6,Zgx,oI,oN,ZI,Zbc,hGV,hM,hs,hV,hF,hT,hO,hw,n0,AVal.cells]
 ·refine ⟨true,?_⟩
  have hc:e≠0\/Zcs (n:Int) w=false:=Or.inl he
  have n1:(e != 0)=true:=by simpa using he
  rw [if_pos hc,Zh (by rfl) Zf1]
  unfold Zdd Zfh
  simp -implicitDefEqProofs only [EQA,Zt,Nat.reduceAdd,Nat.reduceLT,Nat.reduceLeDiff,Nat.reduceEqDiff,Nat.reduceBEq,ZD,Zam,reduceCtorEq,↓reduceIte,Zd,Zf5,Ze6,Zgx,oI,oN,ZI,Zbc,hGV,n1,AVal.cells]
  rfl
end
section
def ZdS (w:Int):Nat->Zb->List Zn->List Zn×Int
 | _,[],l=>(l,0)
 | 0,_::_,_=>([],129)
 | n+1,c::r,l=>if (ZbH w (c::r) l).2.2=0 then ZdS w n ((c::r).drop (ZbH w (c::r) l).2.1) (l++[(ZbH w (c::r) l).1]) else ([],(ZbH w (c::r) l).2.2)
def Z0 (w:Int) (b:Zb):List Zn×Nat×Int :=
 if (ZW b).2.2≠0\/((ZW b).1:Int) > (b.length:Int) - ((ZW b).2.1:Nat) then ([],0,129)
 else if (ZdS w (ZW b).1 ((b.take ((ZW b).2.1+(ZW b).1)).drop (ZW b).2.1) []).2=0 then
  ((ZdS w (ZW b).1 ((b.take ((ZW b).2.1+(ZW b).1)).drop (ZW b).2.1) []).1,(ZW b).2.1+(ZW b).1,0)
 else ([],0,(ZdS w (ZW b).1 ((b.take ((ZW b).2.1+(ZW b).1)).drop (ZW b).2.1) []).2)
def ZjT (u:Nat) (x:List Zn×Int):AVal×Za:=if x.2=0 then (.tup [ZcR (x.1.map Zg),.int .i64 (u:Nat),.int .i64 0],ZcY 5 (x.1.map Zg)) else (.tup [.lst true [],.int .i64 0,.int .i64 x.2],[])
theorem Zup {w:Int} {b:Zb} {l:List Zn} (h:(ZbH w b l).2.2=0):0 < (ZbH w b l).2.1/\(ZbH w b l).2.1<=b.length/\(ZbH w b l).1.data.length<=b.length:=by
 unfold ZbH at h ⊢
 split at h
 ·simp at h
 ·rename_i hc
  rw [if_neg hc]
  have hc0:(ZW b).2.2=0:=Decidable.byContradiction fun h=>hc (Or.inl h)
  have h1:=Zpk b hc0
  have h2:=ZsI ((ZW b).1:Nat) (b.drop (ZW b).2.1)
  have h3:=ZBq ((ZW b).1:Nat) (b.drop (ZW b).2.1)
  simp only [List.length_drop] at h2 h3
  unfold ZkT at h ⊢
  generalize ZcB ((ZW b).1:Nat) (b.drop (ZW b).2.1)=v at *
  repeat' (split at h)
  all_goals first
   | (simp at h;done)
   | skip
  rename_i a1 a2 a3
  rw [if_neg a1,if_neg a2,if_pos a3]
  simp only
  omega
theorem ZhR {xs:List AVal} (h:0 < xs.length):ZcR xs=.sl 0 0 0 xs.length:=by
 cases xs with
 | nil=>simp at h
 | cons x xs=>rfl
theorem Zh9 {k:Nat} {xs:List AVal} (h:0 < xs.length):ZcY k xs=[.row 0 k xs]:=by
 cases xs with
 | nil=>simp at h
 | cons x xs=>rfl
theorem ZEg (l:List Zn):Zkc (l.map Zg)=true:=by
 unfold Zkc
 rw [List.all_eq_true]
 intro x hx
 obtain ⟨p,_,rfl⟩:=List.mem_map.1 hx
 rfl
theorem ZBr (b:Zb):(b.map Zc).all Zlg=true:=by
 rw [List.all_eq_true]
 intro x hx
 obtain ⟨p,_,rfl⟩:=List.mem_map.1 hx
 rfl
theorem ZLj (σ:Za) (sq own:Nat) (f g:Bool) (w:Int) (b:Zb) (l:List Zn) (hl:b.length<=140737488355328) (hl2:l.length<=9223372036854775807) (hd:∀ p ∈ l,p.data.length<=140737488355328) :
  Zo E BY σ sq 136 own true [.int .i64 w,.lst f (b.map Zc),.lst g (l.map Zg)]=some (Zdd false (ZbH w b l),σ,{}):=by
 obtain ⟨f',h⟩:=Zwk w b l hl hl2 hd
 exact ZbK h (by kernel_rfl) rfl rfl (by cases f' <;> rfl) (fun _=>rfl) _ _ _
theorem ZGZ (σ:Za) (sq own:Nat) (f:Bool) (w:Int) (b:Zb) (l:List Zn) (hl:b.length<=140737488355328) (hl2:l.length<=9223372036854775807) (hd:∀ p ∈ l,p.data.length<=140737488355328) :
  Zo E BY (.row 0 5 (l.map Zg)::σ) sq 136 own true [.int .i64 w,.lst f (b.map Zc),.sl 0 0 0 (l.map Zg).length]=some (Zdd false (ZbH w b l),.row 0 5 (l.map Zg)::σ,{ rd:=[0] }):=by
 obtain ⟨f',h⟩:=Zwk w b l hl hl2 hd
 refine ZJ9 (vs:=[.int .i64 w,ZI b,Zbc l]) (by kernel_rfl) ?_ rfl rfl h (r':=Zdd false (ZbH w b l)) (by cases f' <;> rfl) ?_ _ _
 ·simp [showAs,showA,ZcP,ZY,ZI,Zbc]
  exact List.take_of_length_le (by simp)
 ·have h1:=ZEg l
  have h2:=ZBr (ZbH w b l).1.data
  unfold Zda
  simp only [List.isEmpty_cons,Bool.not_false,Zdd,Zij,Zhn,Zhq,List.all_cons,List.all_nil,ZaV,h2,Zgs,List.getElem?_cons_zero,h1,Bool.and_self]
theorem Zry (w:Int) (n:Nat) (l:List Zn):ZdS w n [] l=(l,0):=by cases n <;> rfl
theorem Zm6 (w:Int) (n:Nat) (c:UInt8) (r:Zb) (l:List Zn):ZdS w (n+1) (c::r) l=if (ZbH w (c::r) l).2.2=0 then ZdS w n ((c::r).drop (ZbH w (c::r) l).2.1) (l++[(ZbH w (c::r) l).1]) else ([],(ZbH w (c::r) l).2.2):=rfl
theorem ZBu (w:Int) (N U:Nat) (hU:U+N<=140737488355328) (l:List Zn) :
  ZhB 0 [(10,.lst false []),(8,.int .i64 (U:Nat)),(7,.int .i64 (N:Nat)),(4,ZcR (l.map Zg)),(0,.int .i64 w)] (ZcY 5 (l.map Zg))=some (ZjT (U+N) (l,0)):=by
 have hw:IntKind.i64.wrap ((U:Int)+(N:Int))=((U+N:Nat):Int):=by rw [Za6 (by omega) (by omega)];rfl
 have h1:¬(((0:Nat):Int) > 0):=by simp
 unfold ZjT ZhB
 rw [Z2]
 cases l with
 | nil =>
  simp -implicitDefEqProofs only [EQA,Zt,Nat.reduceLT,Nat.reduceEqDiff,reduceCtorEq,↓reduceIte,Zd,Zh4,Zux,ZkQ,ZhA,Zgi,oI,oN,ZeL,ZeZ,hw,h1]
  try (simp [Z6,gcA,Zv,Zu,Zp,ZS,Zj,Zr,ZJ,Zl,ZE,Zf,Zm,Zw,ZC,List.range_succ])
 | cons p l =>
  generalize hX:(p::l).map Zg=X
  have hpos:0 < X.length:=by rw [<-hX];simp
  simp only [ZhR hpos,Zh9 hpos]
  simp -implicitDefEqProofs only [EQA,Nat.reduceLT,Nat.reduceEqDiff,reduceCtorEq,↓reduceIte,Zh4,Zux,ZkQ,ZhA,Zgi,oI,oN,hw,h1]
  simp [Z6,gcA,Zv,Zu,Zp,ZS,Zj,Zr,ZJ,Zl,ZE,Zf,Zm,Zw,ZC]
theorem Zv5 (w:Int) (N U:Nat) (hU:U+N<=140737488355328) (hN9:N<=1000000000):∀ (n:Nat) (b:Zb) (l:List Zn),b.length<=n->l.length+b.length<=N->(∀ p ∈ l,p.data.length<=140737488355328) ->
  ZhB 0 [(10,.lst false (b.map Zc)),(8,.int .i64 (U:Nat)),(7,.int .i64 (N:Nat)),(4,ZcR (l.map Zg)),(0,.int .i64 w)] (ZcY 5 (l.map Zg))=some (ZjT (U+N) (ZdS w n b l))
 | n,[],l,hb,hN,hd=>by
  rw [Zry]
  exact ZBu w N U hU l
 | 0,c::r,l,hb,hN,hd=>by simp at hb
 | n+1,c::r,l,hb,hN,hd=>by
  rw [Zm6]
  generalize hB:c::r=b at *
  have hlen:0 < b.length:=by rw [<-hB];simp
  have hpos:((b.length:Nat):Int) > 0:=by omega
  have hC:=fun σ sq own f g=>ZLj σ sq own f g w b l (by omega) (by omega) hd
  have hS:=fun σ sq own f=>ZGZ σ sq own f w b l (by omega) (by omega) hd
  have hu:=Zup (w:=w) (b:=b) (l:=l)
  unfold Zdd at hC hS
  rcases hx:ZbH w b l with ⟨p,m,e⟩
  rw [hx] at hC hS hu
  simp only at hC hS hu ⊢
  by_cases he:e=0
  ·subst he
   obtain ⟨u1,u2,u3⟩:=hu rfl
   have n0:((0:Int) != 0)=false:=rfl
   rw [if_pos rfl]
   have ih:=Zv5 w N U hU hN9 n (b.drop m) (l++[p]) (by simp;omega) (by simp;omega) (by
    intro q hq
    rcases List.mem_append.1 hq with h | h
    ·exact hd q h
    ·simp at h;subst h;omega)
   have hs:=fun σ kk=>Zfy σ b kk ((m:Nat):Int) (by omega) (by omega)
   have e2:(((m:Nat):Int)).toNat=m:=rfl
   rw [e2] at hs
   generalize ZdS w n (b.drop m) (l++[p])=R at *
   unfold ZhB at ih ⊢
   rw [Z2]
   cases l with
   | nil =>
    simp only [List.map_nil] at hC
    simp only [List.nil_append,List.map_cons,List.map_nil,Zf3,Zgy,ZeL,ZeZ,List.length_cons,List.length_nil,Nat.zero_add,Zg,Zbd,ZI] at ih ⊢
    simp -implicitDefEqProofs only [EQA,ZV,Za2,Nat.reduceAdd,Nat.reduceLT,Nat.reduceLeDiff,Nat.reduceEqDiff,Nat.reduceBEq,reduceCtorEq,ZY,↓reduceIte,gcT,gcA,Zv,Zu,Zj,Zr,ZJ,Zl,ZE,Zw,ZC,ZhA,Zgi,oI,oN,hpos,hC,n0,hs,Zaz,kOk,viewAs,ZP,ZL,Zas,Zq,Nat.one_mul,AVal.cells]
    exact ih
   | cons a l =>
    have hXl:((a::l).map Zg).length=l.length+1:=by simp
    rw [List.map_append] at ih
    generalize hX:(a::l).map Zg=X at *
    have hXp:0 < X.length:=by omega
    have hXq:0 < (X++[p].map Zg).length:=by rw [List.length_append];omega
    simp only [ZhR hXp,Zh9 hXp,ZhR hXq,Zh9 hXq] at ih ⊢
    have hk:kOk 5 X=true:=by rw [<-hX];rfl
    have hb9:(X.length+1)*72<=140737488355328:=by simp at hN;omega
    try simp only [List.map_cons,List.map_nil,Zg,Zbd,ZI,List.length_append,List.length_cons,List.length_nil,Nat.zero_add] at ih
    simp -implicitDefEqProofs only [EQA,ZV,Za2,Nat.reduceAdd,Nat.reduceLT,Nat.reduceLeDiff,Nat.reduceEqDiff,Nat.reduceBEq,reduceCtorEq,ZY,↓reduceIte,gcT,gcA,Zv,Zu,Zj,Zr,ZJ,Zl,ZE,Zw,ZC,ZhA,Zgi,oI,oN,hpos,hS,n0,hs,hb9,Zaz,kOk,viewAs,ZP,ZL,Zas,Zq,AVal.cells]
    exact ih
  ·have n1:(e != 0)=true:=by simpa using he
   rw [if_neg he]
   unfold ZjT ZhB
   simp only
   rw [if_neg he,Z2]
   cases l with
   | nil =>
    simp only [List.map_nil,ZeL,ZeZ] at hC ⊢
    simp -implicitDefEqProofs only [EQA,Zt,Nat.reduceAdd,Nat.reduceLT,Nat.reduceLeDiff,Nat.reduceEqDiff,Nat.reduceBEq,reduceCtorEq,↓reduceIte,Zd,Zh4,ZhA,Zgi,oI,oN,hpos,hC,n1,AVal.cells]
    try (simp [Z6,gcA,Zv,Zu,Zp,ZS,Zj,Zr,ZJ,Zl,ZE,Zf,Zm,Zw,ZC,List.range_succ])
   | cons a l =>
    generalize hX:(a::l).map Zg=X at *
    have hXp:0 < X.length:=by rw [<-hX];simp
    simp only [ZhR hXp,Zh9 hXp]
    simp -implicitDefEqProofs only [EQA,Zt,Nat.reduceAdd,Nat.reduceLT,Nat.reduceLeDiff,Nat.reduceEqDiff,Nat.reduceBEq,reduceCtorEq,↓reduceIte,Zd,Zh4,ZhA,Zgi,oI,oN,hpos,hS,n1,AVal.cells]
    try (simp [Z6,gcA,Zv,Zu,Zp,ZS,Zj,Zr,ZJ,Zl,ZE,Zf,Zm,Zw,ZC,List.range_succ])
theorem ZvM:∀ (b:Zb) (i n:Nat),i<=4->n < 128 ^ i->(gvA i n b).1 < 268435456
 | [],i,n,hi,hn=>by unfold gvA;split <;> simp
 | c::r,i,n,hi,hn=>by
  have ha:c.toNat % 128 < 128:=Nat.mod_lt _ (by decide)
  unfold gvA
  split
  ·simp
  ·rename_i h4
   have hb:=Zvh n i _ hn ha
   have hp:128 ^ (i+1)<=128 ^ 4:=Nat.pow_le_pow_right (by decide) (by omega)
   split
   ·split
    ·simp
    ·simp only;omega
   ·exact ZvM r (i+1) _ (by omega) hb
theorem ZoF (b:Zb):(ZW b).1 < 268435456:=ZvM b 0 0 (by omega) (by simp)
def Zvx (x:List Zn×Nat×Int):AVal×Za:=(.tup [ZcR (x.1.map Zg),.int .i64 (x.2.1:Nat),.int .i64 x.2.2],ZcY 5 (x.1.map Zg))
theorem ZHh (w:Int) (b:Zb) (hl:b.length<=140737488355328):E 90 [.int .i64 w,ZI b] []=some (Zvx (Z0 w b)):=by
 have hGV:=fun σ sq own f=>Zol σ sq own f b (by omega)
 have hu:=Zpk b
 have hlt:=ZoF b
 have hle:=ZtE b
 unfold Z0 Zvx
 rcases hx:ZW b with ⟨n,u,e⟩
 rw [hx] at hGV hu hlt hle
 unfold gvT at hGV
 simp only at hGV hu hlt hle ⊢
 have hw:IntKind.i64.wrap ((b.length:Int) - (u:Int))=(b.length:Int) - (u:Int):=Za6 (by omega) (by omega)
 by_cases he:e=0
 ·subst he
  have n0:((0:Int) != 0)=false:=rfl
  by_cases hn:(n:Int) > (b.length:Int) - (u:Int)
  ·rw [if_pos (Or.inr hn),Zh (by rfl) Zok]
   simp -implicitDefEqProofs only [EQA,Zt,Nat.reduceLT,Nat.reduceEqDiff,ZD,unG,reduceCtorEq,↓reduceIte,Zd,Zpc,Zi2,Zh4,oI,ZI,hGV,n0,hw,hn]
   simp []
   exact ⟨rfl,rfl⟩
  ·have hc:¬((0:Int)≠0\/(n:Int) > (b.length:Int) - (u:Int)):=by simpa using hn
   rw [if_neg hc,Zh (by rfl) Zok]
   have hw2:IntKind.i64.wrap ((u:Int)+(n:Int))=((u+n:Nat):Int):=by rw [Za6 (by omega) (by omega)];rfl
   have hs:=fun σ k1 k2=>Zob σ b k1 k2 ((u:Nat):Int) ((u+n:Nat):Int) (by omega) (by omega) (by omega)
   have e1:(((u:Nat):Int)).toNat=u:=rfl
   have e2:(((u+n:Nat):Int)).toNat=u+n:=rfl
   rw [e1,e2] at hs
   have key:=Zv5 w n u (by omega) (by omega) n ((b.take (u+n)).drop u) [] (by simp;omega) (by simp;omega) (by simp)
   generalize (b.take (u+n)).drop u=B at *
   unfold ZhB at key
   simp only [List.map_nil,ZeL,ZeZ] at key
   simp -implicitDefEqProofs only [EQA,ZV,Nat.reduceLT,Nat.reduceEqDiff,ZD,unG,reduceCtorEq,↓reduceIte,gcT,gcA,Zv,Zu,Zr,ZC,Zpc,Zi2,oI,ZI,hGV,n0,hw,hn,hw2,hs]
   rw [key]
   unfold ZjT
   split <;> rfl
 ·have n1:(e != 0)=true:=by simpa using he
  rw [if_pos (Or.inl he),Zh (by rfl) Zok]
  simp -implicitDefEqProofs only [EQA,Zt,Nat.reduceLT,Nat.reduceEqDiff,ZD,Zam,reduceCtorEq,↓reduceIte,Zd,Zpc,Zi2,Zh4,oI,ZI,hGV,n1]
  simp []
  exact ⟨rfl,rfl⟩
theorem ZDN {σ:Za} {x:AVal} (h:ZaV x=true):ZP σ x=some (x,[])/\ZS x=[]/\∀ ρ,Zm ρ x=x:=by
 cases x <;> simp [ZaV] at h <;> simp [ZP,ZL,ZS,Zm]
theorem ZkZ {σ:Za}:∀ {vs:List AVal},vs.all ZaV=true->viewAs σ vs=some (vs,[])/\Zp vs=[]/\∀ ρ,Zf ρ vs=vs
 | [],_=>⟨rfl,rfl,fun _=>rfl⟩
 | x::xs,h=>by
  simp only [List.all_cons,Bool.and_eq_true] at h
  obtain ⟨a1,a2,a3⟩:=ZDN (σ:=σ) h.1
  obtain ⟨b1,b2,b3⟩:=ZkZ (σ:=σ) h.2
  refine ⟨by simp only [viewAs,a1,b1,List.append_nil],by simp only [Zp,a2,b2,List.append_nil],fun ρ=>by simp only [Zf,a3,b3]⟩
theorem ZET {O:ZU} {bf:Nat->Bool} {f k:Nat} {args args':List AVal} {full vs:List AVal} (h:O f args' []=some (.tup (ZcR full::vs),ZcY k full)) (hv:vs.all ZaV=true) (hb:bf f=false) (hp:args.all Zak=true) (hn:args.map ZM=args') (σ:Za) (sq own:Nat):Zo O bf σ sq f own true args=some (.tup (.lst false full::vs),σ,{}):=by
 have hr:∀ sq,Zm (Zax [] [] sq) (.tup (.lst false full::vs))=.tup (.lst false full::vs):=fun sq=>by
  simp only [Zm,Zf,(ZkZ (σ:=[]) hv).2.2]
 rw [Zd2 hb hp,hn,h]
 have : Zab true 0 (some (.tup (ZcR full::vs),ZcY k full))=some (.tup (.lst false full::vs),[]):=by
  unfold Zab
  rw [if_pos rfl]
  cases full with
  | nil =>
   obtain ⟨b1,b2,b3⟩:=ZkZ (σ:=[]) hv
   simp [ZeL,ZeZ,Zbs,viewR,viewAs,ZP,ZL,b1,Zq,gcA,Zv,Zu,Zp,ZS,b2,Zf,Zm,b3,Zr]
  | cons x xs =>
   obtain ⟨b1,b2,b3⟩:=ZkZ (σ:=[ZN.row 0 k (x::xs)]) hv
   simp only [Zf3,Zgy]
   generalize x::xs=X at *
   simp [Zbs,viewR,viewAs,ZP,ZL,ZY,b1,Zq,gcA,Zv,Zu,Zp,ZS,b2,Zf,Zm,b3,Zr]
 rw [this,Zha _ _ _ _ (hr sq)]
theorem ZlY (σ:Za) (sq own:Nat) (f:Bool) (w:Int) (b:Zb) (hl:b.length<=140737488355328):Zo E BY σ sq 90 own true [.int .i64 w,.lst f (b.map Zc)]=some (.tup [.lst false ((Z0 w b).1.map Zg),.int .i64 ((Z0 w b).2.1:Nat),.int .i64 (Z0 w b).2.2],σ,{}) :=
 ZET (k:=5) (ZHh w b hl) rfl (by kernel_rfl) rfl rfl _ _ _
end
section
structure Zeu where
 b:Zb
 short:Bool
def Zhl (b:Zb):Int:=IntKind.i64.wrap (Zct b:Int)
end
section
def Zba:Ze:=(.seq (.region [oI 1 (.box (.t 0))] none [1]) (.seq (.region [oI 4 (.ld none (.t 1)),oI 5 (.nilchk (.t 4)),oI 6 (.faddr 0 (.t 5)),oI 2 (.alloc [.nilp]),oN (.st 1 (.t 2) (.t 6))] none [2,1]) (.seq (.seq (.region [oI 7 (.ld none (.t 2)),oI 8 (.nilchk (.t 7)),oI 9 (.faddr 0 (.t 8)),oI 10 (.ld none (.t 9))] none [10,2,1]) (.block 0 (.seq (.region [oI 12 (.bin .eql (.t 10) (.c (.int .i64 1))),oI 11 (.mov (.t 12))] none [11,10,2,1]) (.cond (.t 11) (.region [oI 13 (.ld none (.t 1)),oI 14 (.call 114 0 true [(.t 13)])] none [1]) (.seq (.region [oI 16 (.bin .eql (.t 10) (.c (.int .i64 2))),oI 15 (.mov (.t 16))] none [15,10,2,1]) (.cond (.t 15) (.seq (.region [oI 17 (.ld none (.t 1)),oI 18 (.call 115 0 true [(.t 17),(.c (.int .i64 1))]),oI 3 (.mov (.t 18))] none [3,2,1]) (.seq (.region [oI 19 (.mov (.t 3)),oI 20 (.bin .lss (.t 19) (.c (.int .i64 2))),oI 21 (.call 113 0 true [(.t 20),(.c (.int .i64 129))])] none [3,2,1]) (.seq (.region [oI 22 (.ld none (.t 2)),oI 23 (.mov (.t 3)),oI 24 (.bin .eql (.t 23) (.c (.int .i64 1))),oI 25 (.nilchk (.t 22)),oI 26 (.faddr 25 (.t 25)),oN (.st 1 (.t 26) (.t 24))] none [2,1]) (.seq (.region [oI 27 (.ld none (.t 2)),oI 28 (.ld none (.t 1)),oI 29 (.call 116 0 true [(.t 28)]),oI 30 (.nilchk (.t 27)),oI 31 (.faddr 7 (.t 30)),oN (.st 1 (.t 31) (.t 29))] (some [(0,1),(0,2),(2,2)]) [2,1]) (.region [oI 32 (.ld none (.t 2)),oI 33 (.ld none (.t 1)),oI 34 (.call 117 0 true [(.t 33),(.c (.int .i64 2))]),oI 35 (.nilchk (.t 32)),oI 36 (.faddr 9 (.t 35)),oN (.st 1 (.t 36) (.t 34))] (some [(0,1),(0,2),(2,2)]) [1]))))) (.seq (.region [oI 38 (.bin .eql (.t 10) (.c (.int .i64 3))),oI 37 (.mov (.t 38))] none [37,10,2,1]) (.cond (.t 37) (.region [oI 39 (.ld none (.t 1)),oI 40 (.call 118 0 true [(.t 39)])] none [1]) (.seq (.seq (.region [oI 42 (.bin .eql (.t 10) (.c (.int .i64 4))),oI 41 (.mov (.t 42))] none [41,10,2,1]) (.cond (.t 41) .skip (.seq (.region [oI 43 (.bin .eql (.t 10) (.c (.int .i64 5))),oI 41 (.mov (.t 43))] none [41,10,2,1]) (.cond (.t 41) .skip (.seq (.region [oI 44 (.bin .eql (.t 10) (.c (.int .i64 6))),oI 41 (.mov (.t 44))] none [41,10,2,1]) (.cond (.t 41) .skip (.region [oI 45 (.bin .eql (.t 10) (.c (.int .i64 7))),oI 41 (.mov (.t 45))] none [41,10,2,1]))))))) (.cond (.t 41) (.seq (.region [oI 46 (.ld none (.t 1)),oI 47 (.call 119 0 true [(.t 46)])] none [1]) (.region [oI 48 (.ld none (.t 1)),oI 49 (.call 120 0 true [(.t 48)])] none [1])) (.seq (.region [oI 51 (.bin .eql (.t 10) (.c (.int .i64 8))),oI 50 (.mov (.t 51))] none [50,10,2,1]) (.cond (.t 50) (.region [oI 52 (.ld none (.t 1)),oI 53 (.ld none (.t 1)),oI 54 (.mkfn 1000122 [(.t 53)]),oI 55 (.call 121 1 true [(.t 52),(.t 54)])] none [1]) (.seq (.region [oI 57 (.bin .eql (.t 10) (.c (.int .i64 10))),oI 56 (.mov (.t 57))] none [56,10,2,1]) (.cond (.t 56) (.region [oI 58 (.ld none (.t 1)),oI 59 (.mkfn 123 [(.t 2),(.t 1)]),oI 60 (.call 121 1 true [(.t 58),(.t 59)])] none [1]) (.seq (.seq (.region [oI 62 (.bin .eql (.t 10) (.c (.int .i64 9))),oI 61 (.mov (.t 62))] none [61,10,2,1]) (.cond (.t 61) .skip (.region [oI 63 (.bin .eql (.t 10) (.c (.int .i64 11))),oI 61 (.mov (.t 63))] none [61,10,2,1]))) (.cond (.t 61) (.region [oI 64 (.ld none (.t 1)),oI 65 (.mkfn 125 [(.t 2),(.t 1)]),oI 66 (.call 121 1 true [(.t 64),(.t 65)])] none [1]) (.seq (.seq (.region [oI 68 (.bin .eql (.t 10) (.c (.int .i64 14))),oI 67 (.mov (.t 68))] none [67,10,1]) (.cond (.t 67) .skip (.region [oI 69 (.bin .eql (.t 10) (.c (.int .i64 15))),oI 67 (.mov (.t 69))] none [67,1]))) (.cond (.t 67) (.region [oI 70 (.ld none (.t 1)),oI 71 (.call 120 0 true [(.t 70)])] none [1]) .skip)))))))))))))))))) (.region [oI 72 (.ld none (.t 1)),oI 73 (.nilchk (.t 72)),oI 74 (.faddr 26 (.t 73)),oI 75 (.ld none (.t 74)),oI 76 (.len (.t 75)),oI 77 (.bin .eql (.t 76) (.c (.int .i64 0))),oI 78 (.call 113 0 true [(.t 77),(.c (.int .i64 129))])] none []))))
def Zow:ZG:=⟨[],Zba⟩
theorem Zbf:FC 77=some Zow:=by kernel_rfl
theorem Zbg:Zow.body=Zba:=rfl
theorem ZeC:Zow.res=[]:=rfl
def ZdE:Ze:=(.region [oI 2 (.ld none (.t 0)),oI 3 (.ld none (.t 0)),oI 4 (.nilchk (.t 3)),oI 5 (.faddr 11 (.t 4)),oI 6 (.ld none (.t 5)),oI 7 (.ld none (.t 1)),oI 8 (.call 124 0 true [(.t 7)]),oI 9 (.bslice false 1 1 (.str []) [(0,(.t 8))]),oI 10 (.app 1 16 (.str []) (.t 6) (.t 9)),oI 11 (.nilchk (.t 2)),oI 12 (.faddr 11 (.t 11)),oN (.st 1 (.t 12) (.t 10))] (some [(0,1),(0,4),(0,5),(1,5),(4,5),(0,6),(1,6),(4,6),(0,7),(1,7),(4,7),(0,8),(6,6)]) [])
def ZGL:ZG:=⟨[],ZdE⟩
theorem ZlQ:FC 123=some ZGL:=by kernel_rfl
def ZdC:Ze:=(.region [oI 2 (.ld none (.t 0)),oI 3 (.ld none (.t 0)),oI 4 (.nilchk (.t 3)),oI 5 (.faddr 8 (.t 4)),oI 6 (.ld none (.t 5)),oI 7 (.ld none (.t 1)),oI 8 (.call 116 0 true [(.t 7)]),oI 9 (.bslice false 1 1 (.int .i64 0) [(0,(.t 8))]),oI 10 (.app 1 8 (.int .i64 0) (.t 6) (.t 9)),oI 11 (.nilchk (.t 2)),oI 12 (.faddr 8 (.t 11)),oN (.st 1 (.t 12) (.t 10))] (some [(0,1),(0,4),(0,5),(1,5),(4,5),(0,6),(1,6),(4,6),(0,7),(1,7),(4,7),(0,8),(6,6)]) [])
def ZFR:ZG:=⟨[],ZdC⟩
theorem ZmG:FC 125=some ZFR:=by kernel_rfl
def ZeP:Ze:=(.seq (.region [oI 2 (.mov (.c (.int .i64 0)))] none [0]) (.seq (.region [oI 4 (.mov (.t 0)),oI 5 (.call 115 0 true [(.t 4),(.c (.int .i64 1))]),oI 3 (.mov (.t 5))] none [3,0]) (.seq (.region [oI 6 (.mov (.t 0)),oI 7 (.nilchk (.t 6)),oI 8 (.faddr 0 (.t 7)),oI 9 (.faddr 0 (.t 8)),oI 10 (.ld none (.t 9)),oI 11 (.mov (.t 3)),oI 12 (.call 41 0 true [(.t 10),(.t 11)]),oI 13 (.call 113 0 true [(.t 12),(.c (.int .i64 130))])] none [3]) (.seq (.region [oI 14 (.mov (.t 3)),oI 2 (.mov (.t 14))] none [2]) .ret))))
def ZqE:ZG:=⟨[(.tmp 2)],ZeP⟩
theorem Zf8:FC 116=some ZqE:=by kernel_rfl
theorem ZfZ:ZqE.body=ZeP:=rfl
theorem ZsB:ZqE.res=[(.tmp 2)]:=rfl
def ZoR:Ze:=(.seq (.region [oI 4 (.mov (.t 0)),oI 5 (.nilchk (.t 4)),oI 6 (.faddr 0 (.t 5)),oI 2 (.mov (.t 6))] none [2,0]) (.seq (.region [oI 7 (.mov (.t 0)),oI 8 (.call 124 0 true [(.t 7)]),oI 9 (.bin .eql (.t 8) (.c (.str [77,81,84,84]))),oI 10 (.call 113 0 true [(.t 9),(.c (.int .i64 132))])] none [2,0]) (.seq (.region [oI 11 (.mov (.t 0)),oI 12 (.call 115 0 true [(.t 11),(.c (.int .i64 1))]),oI 13 (.bin .eql (.t 12) (.c (.int .i64 5))),oI 14 (.call 113 0 true [(.t 13),(.c (.int .i64 132))])] none [2,0]) (.seq (.region [oI 15 (.mov (.t 0)),oI 16 (.call 115 0 true [(.t 15),(.c (.int .i64 1))]),oI 3 (.mov (.t 16))] none [3,2,0]) (.seq (.region [oI 17 (.mov (.t 2)),oI 18 (.mov (.t 2)),oI 19 (.mov (.t 3)),oI 20 (.bin .and (.t 19) (.c (.int .i64 2))),oI 21 (.bin .neq (.t 20) (.c (.int .i64 0))),oI 22 (.mov (.t 3)),oI 23 (.bin .and (.t 22) (.c (.int .i64 4))),oI 24 (.bin .neq (.t 23) (.c (.int .i64 0))),oI 25 (.nilchk (.t 17)),oI 26 (.faddr 12 (.t 25)),oN (.st 1 (.t 26) (.t 21)),oI 27 (.nilchk (.t 18)),oI 28 (.faddr 15 (.t 27)),oN (.st 1 (.t 28) (.t 24))] none [3,2,0]) (.seq (.region [oI 29 (.mov (.t 2)),oI 30 (.mov (.t 2)),oI 31 (.mov (.t 3)),oI 32 (.bin .and (.t 31) (.c (.int .i64 64))),oI 33 (.bin .neq (.t 32) (.c (.int .i64 0))),oI 34 (.mov (.t 3)),oI 35 (.bin .and (.t 34) (.c (.int .i64 128))),oI 36 (.bin .neq (.t 35) (.c (.int .i64 0))),oI 37 (.nilchk (.t 29)),oI 38 (.faddr 23 (.t 37)),oN (.st 1 (.t 38) (.t 33)),oI 39 (.nilchk (.t 30)),oI 40 (.faddr 21 (.t 39)),oN (.st 1 (.t 40) (.t 36))] none [3,2,0]) (.seq (.region [oI 41 (.mov (.t 2)),oI 42 (.mov (.t 2)),oI 43 (.mov (.t 3)),oI 44 (.bin .quo (.t 43) (.c (.int .i64 8))),oI 45 (.bin .and (.t 44) (.c (.int .i64 3))),oI 46 (.mov (.t 3)),oI 47 (.bin .and (.t 46) (.c (.int .i64 32))),oI 48 (.bin .neq (.t 47) (.c (.int .i64 0))),oI 49 (.nilchk (.t 41)),oI 50 (.faddr 16 (.t 49)),oI 51 (.faddr 2 (.t 50)),oN (.st 1 (.t 51) (.t 45)),oI 52 (.nilchk (.t 42)),oI 53 (.faddr 16 (.t 52)),oI 54 (.faddr 3 (.t 53)),oN (.st 1 (.t 54) (.t 48))] none [3,2,0]) (.seq (.region [oI 55 (.mov (.t 3)),oI 56 (.bin .and (.t 55) (.c (.int .i64 1))),oI 57 (.bin .eql (.t 56) (.c (.int .i64 0))),oI 58 (.mov (.t 57)),⟨(some 59),(.mov (.t 2)),(some (58,true)),[]⟩,⟨(some 60),(.nilchk (.t 59)),(some (58,true)),[]⟩,⟨(some 61),(.faddr 16 (.t 60)),(some (58,true)),[]⟩,⟨(some 62),(.faddr 2 (.t 61)),(some (58,true)),[]⟩,⟨(some 63),(.ld none (.t 62)),(some (58,true)),[]⟩,⟨(some 64),(.bin .lss (.t 63) (.c (.int .i64 3))),(some (58,true)),[]⟩,oI 65 (.pick (.t 58) (.t 64) (.c (.bool false))),oI 66 (.mov (.t 65)),⟨(some 67),(.mov (.t 2)),(some (66,true)),[]⟩,⟨(some 68),(.nilchk (.t 67)),(some (66,true)),[]⟩,⟨(some 69),(.faddr 15 (.t 68)),(some (66,true)),[]⟩,⟨(some 70),(.ld none (.t 69)),(some (66,true)),[]⟩,⟨(some 71),(.mov (.t 70)),(some (66,true)),[]⟩,⟨(some 72),(.mov (.t 2)),(some (71,false)),[]⟩,⟨(some 73),(.nilchk (.t 72)),(some (71,false)),[]⟩,⟨(some 74),(.faddr 16 (.t 73)),(some (71,false)),[]⟩,⟨(some 75),(.faddr 2 (.t 74)),(some (71,false)),[]⟩,⟨(some 76),(.ld none (.t 75)),(some (71,false)),[]⟩,⟨(some 77),(.bin .eql (.t 76) (.c (.int .i64 0))),(some (71,false)),[]⟩,⟨(some 78),(.mov (.t 77)),(some (71,false)),[]⟩,⟨(some 79),(.mov (.t 2)),(some (78,true)),[]⟩,⟨(some 80),(.nilchk (.t 79)),(some (78,true)),[]⟩,⟨(some 81),(.faddr 16 (.t 80)),(some (78,true)),[]⟩,⟨(some 82),(.faddr 3 (.t 81)),(some (78,true)),[]⟩,⟨(some 83),(.ld none (.t 82)),(some (78,true)),[]⟩,⟨(some 84),(.un .not (.t 83)),(some (78,true)),[]⟩,⟨(some 85),(.pick (.t 78) (.t 84) (.c (.bool false))),(some (71,false)),[]⟩,⟨(some 86),(.pick (.t 71) (.c (.bool true)) (.t 85)),(some (66,true)),[]⟩,oI 87 (.pick (.t 66) (.t 86) (.c (.bool false))),oI 88 (.call 113 0 true [(.t 87),(.c (.int .i64 129))])] none [2,0]) (.seq (.region [oI 89 (.mov (.t 2)),oI 90 (.mov (.t 0)),oI 91 (.call 115 0 true [(.t 90),(.c (.int .i64 2))]),oI 92 (.nilchk (.t 89)),oI 93 (.faddr 13 (.t 92)),oN (.st 1 (.t 93) (.t 91))] none [2,0]) (.seq (.region [oI 94 (.mov (.t 2)),oI 95 (.mov (.t 0)),oI 96 (.call 117 0 true [(.t 95),(.c (.int .i64 1))]),oI 97 (.nilchk (.t 94)),oI 98 (.faddr 9 (.t 97)),oN (.st 1 (.t 98) (.t 96))] none [2,0]) (.seq (.region [oI 99 (.mov (.t 2)),oI 100 (.mov (.t 0)),oI 101 (.call 124 0 true [(.t 100)]),oI 102 (.nilchk (.t 99)),oI 103 (.faddr 14 (.t 102)),oN (.st 1 (.t 103) (.t 101))] none [2,0]) (.seq (.seq (.region [oI 104 (.mov (.t 2)),oI 105 (.nilchk (.t 104)),oI 106 (.faddr 15 (.t 105)),oI 107 (.ld none (.t 106))] none [107,2,0]) (.cond (.t 107) (.seq (.region [oI 108 (.mov (.t 2)),oI 109 (.mov (.t 0)),oI 110 (.call 117 0 true [(.t 109),(.c (.int .i64 16))]),oI 111 (.nilchk (.t 108)),oI 112 (.faddr 16 (.t 111)),oI 113 (.faddr 4 (.t 112)),oN (.st 1 (.t 113) (.t 110))] none [2,0]) (.seq (.region [oI 114 (.mov (.t 2)),oI 115 (.mov (.t 0)),oI 116 (.call 124 0 true [(.t 115)]),oI 117 (.nilchk (.t 114)),oI 118 (.faddr 16 (.t 117)),oI 119 (.faddr 0 (.t 118)),oN (.st 1 (.t 119) (.t 116))] none [2,0]) (.region [oI 120 (.mov (.t 2)),oI 121 (.mov (.t 0)),oI 122 (.call 148 0 true [(.t 121)]),oI 123 (.nilchk (.t 120)),oI 124 (.faddr 16 (.t 123)),oI 125 (.faddr 1 (.t 124)),oN (.st 1 (.t 125) (.t 122))] none [2,0]))) .skip)) (.seq (.seq (.region [oI 126 (.mov (.t 2)),oI 127 (.nilchk (.t 126)),oI 128 (.faddr 21 (.t 127)),oI 129 (.ld none (.t 128))] none [129,2,0]) (.cond (.t 129) (.region [oI 130 (.mov (.t 2)),oI 131 (.mov (.t 0)),oI 132 (.call 124 0 true [(.t 131)]),oI 133 (.nilchk (.t 130)),oI 134 (.faddr 22 (.t 133)),oN (.st 1 (.t 134) (.t 132))] none [2,0]) .skip)) (.seq (.region [oI 135 (.mov (.t 2)),oI 136 (.nilchk (.t 135)),oI 137 (.faddr 23 (.t 136)),oI 138 (.ld none (.t 137))] none [138,2,0]) (.cond (.t 138) (.region [oI 139 (.mov (.t 2)),oI 140 (.mov (.t 0)),oI 141 (.call 148 0 true [(.t 140)]),oI 142 (.nilchk (.t 139)),oI 143 (.faddr 24 (.t 142)),oN (.st 1 (.t 143) (.t 141))] none []) .skip)))))))))))))))
def Zpy:ZG:=⟨[],ZoR⟩
theorem Zsi:FC 114=some Zpy:=by kernel_rfl
def ZlF:Ze:=(.seq (.region [oI 2 (.mov (.c (.lst true [])))] none [0]) (.seq (.region [oI 7 (.mov (.t 0)),oI 8 (.nilchk (.t 7)),oI 9 (.faddr 26 (.t 8)),oI 10 (.ld none (.t 9)),oI 11 (.call 106 0 true [(.t 10)]),oI 6 (.mov (.t 11)),oI 12 (.ext (.t 6) 0),oI 13 (.ext (.t 6) 1),oI 14 (.ext (.t 6) 2),oI 3 (.mov (.t 12)),oI 4 (.mov (.t 13)),oI 5 (.mov (.t 14))] none [5,4,3,0]) (.seq (.region [oI 15 (.mov (.t 5)),oI 16 (.bin .eql (.t 15) (.c (.int .i64 0))),oI 17 (.call 113 0 true [(.t 16),(.c (.int .i64 129))])] none [4,3,0]) (.seq (.region [oI 18 (.mov (.t 0)),oI 19 (.mov (.t 0)),oI 20 (.nilchk (.t 19)),oI 21 (.faddr 26 (.t 20)),oI 22 (.ld none (.t 21)),oI 23 (.mov (.t 4)),oI 24 (.slice 1 (.t 22) (some (.t 23)) none none),oI 25 (.nilchk (.t 18)),oI 26 (.faddr 26 (.t 25)),oN (.st 1 (.t 26) (.t 24))] none [3]) (.seq (.region [oI 27 (.mov (.t 3)),oI 2 (.mov (.t 27))] none [2]) .ret)))))
def ZpK:ZG:=⟨[(.tmp 2)],ZlF⟩
theorem ZvS:FC 148=some ZpK:=by kernel_rfl
theorem Ztd:ZpK.body=ZlF:=rfl
theorem ZJU:ZpK.res=[(.tmp 2)]:=rfl
def Zfk:Ze:=(.seq (.region [oI 5 (.mov (.t 0)),oI 6 (.nilchk (.t 5)),oI 7 (.faddr 0 (.t 6)),oI 4 (.mov (.t 7))] none [4,1]) (.seq (.region [oI 8 (.mov (.t 4)),oI 9 (.mov (.t 1)),oI 10 (.bin .shr (.t 9) (.c (.int .u64 4))),oI 11 (.i2i .i64 (.t 10)),oI 12 (.nilchk (.t 8)),oI 13 (.faddr 0 (.t 12)),oN (.st 1 (.t 13) (.t 11))] none [4,1]) (.seq (.region [oI 14 (.mov (.t 4)),oI 15 (.nilchk (.t 14)),oI 16 (.faddr 0 (.t 15)),oI 17 (.ld none (.t 16)),oI 18 (.bin .neq (.t 17) (.c (.int .i64 0))),oI 19 (.call 113 0 true [(.t 18),(.c (.int .i64 129))])] none [4,1]) (.seq (.seq (.region [oI 20 (.mov (.t 4)),oI 21 (.nilchk (.t 20)),oI 22 (.faddr 0 (.t 21)),oI 23 (.ld none (.t 22)),oI 24 (.bin .neq (.t 23) (.c (.int .i64 3)))] none [24,4,1]) (.cond (.t 24) (.seq (.region [oI 25 (.mov (.t 1)),oI 26 (.bin .and (.t 25) (.c (.int .u8 15))),oI 27 (.mov (.t 4)),oI 28 (.nilchk (.t 27)),oI 29 (.faddr 0 (.t 28)),oI 30 (.ld none (.t 29)),oI 31 (.call 79 0 true [(.t 30)]),oI 32 (.bin .eql (.t 26) (.t 31)),oI 33 (.call 113 0 true [(.t 32),(.c (.int .i64 129))])] none []) .ret) .skip)) (.seq (.region [oI 34 (.mov (.t 4)),oI 35 (.mov (.t 4)),oI 36 (.mov (.t 4)),oI 37 (.mov (.t 1)),oI 38 (.bin .and (.t 37) (.c (.int .u8 8))),oI 39 (.bin .neq (.t 38) (.c (.int .u8 0))),oI 40 (.mov (.t 1)),oI 41 (.bin .shr (.t 40) (.c (.int .u64 1))),oI 42 (.bin .and (.t 41) (.c (.int .u8 3))),oI 43 (.i2i .i64 (.t 42)),oI 44 (.mov (.t 1)),oI 45 (.bin .and (.t 44) (.c (.int .u8 1))),oI 46 (.bin .neq (.t 45) (.c (.int .u8 0))),oI 47 (.nilchk (.t 34)),oI 48 (.faddr 1 (.t 47)),oN (.st 1 (.t 48) (.t 39)),oI 49 (.nilchk (.t 35)),oI 50 (.faddr 2 (.t 49)),oN (.st 1 (.t 50) (.t 43)),oI 51 (.nilchk (.t 36)),oI 52 (.faddr 3 (.t 51)),oN (.st 1 (.t 52) (.t 46))] none [4]) (.seq (.region [oI 53 (.mov (.t 4)),oI 54 (.nilchk (.t 53)),oI 55 (.faddr 2 (.t 54)),oI 56 (.ld none (.t 55)),oI 57 (.bin .lss (.t 56) (.c (.int .i64 3))),oI 58 (.call 113 0 true [(.t 57),(.c (.int .i64 129))])] none [4]) (.region [oI 59 (.mov (.t 4)),oI 60 (.nilchk (.t 59)),oI 61 (.faddr 2 (.t 60)),oI 62 (.ld none (.t 61)),oI 63 (.bin .gtr (.t 62) (.c (.int .i64 0))),oI 64 (.mov (.t 63)),⟨(some 65),(.mov (.t 4)),(some (64,false)),[]⟩,⟨(some 66),(.nilchk (.t 65)),(some (64,false)),[]⟩,⟨(some 67),(.faddr 1 (.t 66)),(some (64,false)),[]⟩,⟨(some 68),(.ld none (.t 67)),(some (64,false)),[]⟩,⟨(some 69),(.un .not (.t 68)),(some (64,false)),[]⟩,oI 70 (.pick (.t 64) (.c (.bool true)) (.t 69)),oI 71 (.call 113 0 true [(.t 70),(.c (.int .i64 130))])] none [])))))))
def ZmY:ZG:=⟨[],Zfk⟩
theorem Zhg:FC 76=some ZmY:=by kernel_rfl
theorem ZgM:ZmY.body=Zfk:=rfl
theorem Zqf:ZmY.res=[]:=rfl
def ZiX:Ze:=(.seq (.region [oI 2 (.mov (.t 0)),oI 3 (.mov (.t 0)),oI 4 (.call 115 0 true [(.t 3),(.c (.int .i64 2))]),oI 5 (.nilchk (.t 2)),oI 6 (.faddr 0 (.t 5)),oI 7 (.faddr 4 (.t 6)),oN (.st 1 (.t 7) (.t 4))] none [0]) (.region [oI 8 (.mov (.t 0)),oI 9 (.nilchk (.t 8)),oI 10 (.faddr 0 (.t 9)),oI 11 (.faddr 4 (.t 10)),oI 12 (.ld none (.t 11)),oI 13 (.bin .neq (.t 12) (.c (.int .i64 0))),oI 14 (.call 113 0 true [(.t 13),(.c (.int .i64 130))])] none []))
def Zqg:ZG:=⟨[],ZiX⟩
theorem Zno:FC 119=some Zqg:=by kernel_rfl
theorem Zrv:Zqg.body=ZiX:=rfl
theorem ZKC:Zqg.res=[]:=rfl
def Zc1:Ze:=(.seq (.seq (.region [oI 24 (.mov (.t 0)),oI 25 (.nilchk (.t 24)),oI 26 (.faddr 26 (.t 25)),oI 27 (.ld none (.t 26)),oI 28 (.len (.t 27)),oI 29 (.bin .gtr (.t 28) (.c (.int .i64 0)))] none [29,1,0]) (.cond (.t 29) .skip (.exit 0))) (.block 1 (.region [oI 30 (.mov (.t 1)),oI 31 (.callv (.t 30) [])] none [1,0])))
def Znn:Ze:=Zc1
def ZdG:=xw Znn Zc1 rfl
def ZeT:Ze:=(.seq (.region [oI 4 (.mov (.t 0)),oI 5 (.call 119 0 true [(.t 4)])] none [1,0]) (.seq (.region [oI 6 (.mov (.t 0)),oI 7 (.mov (.t 0)),oI 8 (.mov (.t 0)),oI 9 (.nilchk (.t 8)),oI 10 (.faddr 0 (.t 9)),oI 11 (.faddr 0 (.t 10)),oI 12 (.ld none (.t 11)),oI 13 (.call 117 0 true [(.t 7),(.t 12)]),oI 14 (.nilchk (.t 6)),oI 15 (.faddr 0 (.t 14)),oI 16 (.faddr 9 (.t 15)),oN (.st 1 (.t 16) (.t 13))] none [1,0]) (.seq (.region [oI 17 (.mov (.t 0)),oI 18 (.nilchk (.t 17)),oI 19 (.faddr 26 (.t 18)),oI 20 (.ld none (.t 19)),oI 21 (.len (.t 20)),oI 22 (.bin .gtr (.t 21) (.c (.int .i64 0))),oI 23 (.call 113 0 true [(.t 22),(.c (.int .i64 130))])] none [1,0]) (.block 0 (.loop [1,0] Znn)))))
def Zk0:ZG:=⟨[],ZeT⟩
theorem ZfM:FC 121=some Zk0:=by kernel_rfl
theorem Zf0:Zk0.body=ZeT:=rfl
theorem ZmL:Zk0.res=[]:=rfl
noncomputable def Za5 (m:Nat) (tm:Tms) (σ:Za):Option (AVal×Za):=(Zan m Zk0 (Option.map (ZaJ 0) (evL FC PR BY m [1,0] Znn tm σ)))
def Zih:Ze:=(.seq (.region [oI 4 (.mov (.c (.int .i64 0)))] none [1,0]) (.seq (.region [oI 6 (.mov (.t 0)),oI 7 (.nilchk (.t 6)),oI 8 (.faddr 26 (.t 7)),oI 9 (.ld none (.t 8)),oI 10 (.len (.t 9)),oI 11 (.mov (.t 1)),oI 12 (.bin .geq (.t 10) (.t 11)),oI 13 (.call 113 0 true [(.t 12),(.c (.int .i64 129))])] none [1,0]) (.seq (.region [oI 14 (.mov (.t 0)),oI 15 (.nilchk (.t 14)),oI 16 (.faddr 26 (.t 15)),oI 17 (.ld none (.t 16)),oI 18 (.mov (.t 1)),oI 19 (.slice 1 (.t 17) none (some (.t 18)) none),oI 20 (.call 108 0 true [(.t 19)]),oI 21 (.i2i .i64 (.t 20)),oI 5 (.mov (.t 21))] none [5,1,0]) (.seq (.region [oI 22 (.mov (.t 0)),oI 23 (.mov (.t 0)),oI 24 (.nilchk (.t 23)),oI 25 (.faddr 26 (.t 24)),oI 26 (.ld none (.t 25)),oI 27 (.mov (.t 1)),oI 28 (.slice 1 (.t 26) (some (.t 27)) none none),oI 29 (.nilchk (.t 22)),oI 30 (.faddr 26 (.t 29)),oN (.st 1 (.t 30) (.t 28))] none [5]) (.seq (.region [oI 31 (.mov (.t 5)),oI 4 (.mov (.t 31))] none [4]) .ret)))))
def ZoH:ZG:=⟨[(.tmp 4)],Zih⟩
theorem Zk8:FC 115=some ZoH:=by kernel_rfl
theorem Zkn:ZoH.body=Zih:=rfl
theorem ZvY:ZoH.res=[(.tmp 4)]:=rfl
def Zku:Ze:=(.seq (.region [oI 4 (.mov (.c (.lst true [])))] none [1,0]) (.seq (.region [oI 9 (.mov (.t 1)),oI 10 (.mov (.t 0)),oI 11 (.nilchk (.t 10)),oI 12 (.faddr 26 (.t 11)),oI 13 (.ld none (.t 12)),oI 14 (.call 90 0 true [(.t 9),(.t 13)]),oI 8 (.mov (.t 14)),oI 15 (.ext (.t 8) 0),oI 16 (.ext (.t 8) 1),oI 17 (.ext (.t 8) 2),oI 5 (.mov (.t 15)),oI 6 (.mov (.t 16)),oI 7 (.mov (.t 17))] none [7,6,5,0]) (.seq (.region [oI 18 (.mov (.t 7)),oI 19 (.bin .eql (.t 18) (.c (.int .i64 0))),oI 20 (.mov (.t 7)),oI 21 (.call 113 0 true [(.t 19),(.t 20)])] none [6,5,0]) (.seq (.region [oI 22 (.mov (.t 0)),oI 23 (.mov (.t 0)),oI 24 (.nilchk (.t 23)),oI 25 (.faddr 26 (.t 24)),oI 26 (.ld none (.t 25)),oI 27 (.mov (.t 6)),oI 28 (.slice 1 (.t 26) (some (.t 27)) none none),oI 29 (.nilchk (.t 22)),oI 30 (.faddr 26 (.t 29)),oN (.st 1 (.t 30) (.t 28))] none [5]) (.seq (.region [oI 31 (.mov (.t 5)),oI 4 (.mov (.t 31))] none [4]) .ret)))))
def ZnS:ZG:=⟨[(.tmp 4)],Zku⟩
theorem Zsm:FC 117=some ZnS:=by kernel_rfl
theorem ZuD:ZnS.body=Zku:=rfl
theorem ZDb:ZnS.res=[(.tmp 4)]:=rfl
def Zgt:Ze:=(.seq (.region [oI 2 (.mov (.t 0)),oI 3 (.mov (.t 0)),oI 4 (.call 124 0 true [(.t 3)]),oI 5 (.nilchk (.t 2)),oI 6 (.faddr 0 (.t 5)),oI 7 (.faddr 5 (.t 6)),oN (.st 1 (.t 7) (.t 4))] none [0]) (.seq (.seq (.region [oI 8 (.mov (.t 0)),oI 9 (.nilchk (.t 8)),oI 10 (.faddr 0 (.t 9)),oI 11 (.faddr 2 (.t 10)),oI 12 (.ld none (.t 11)),oI 13 (.bin .gtr (.t 12) (.c (.int .i64 0)))] none [13,0]) (.cond (.t 13) (.region [oI 14 (.mov (.t 0)),oI 15 (.call 119 0 true [(.t 14)])] none [0]) .skip)) (.seq (.region [oI 16 (.mov (.t 0)),oI 17 (.mov (.t 0)),oI 18 (.call 117 0 true [(.t 17),(.c (.int .i64 3))]),oI 19 (.nilchk (.t 16)),oI 20 (.faddr 0 (.t 19)),oI 21 (.faddr 9 (.t 20)),oN (.st 1 (.t 21) (.t 18))] none [0]) (.region [oI 22 (.mov (.t 0)),oI 23 (.mov (.t 0)),oI 24 (.mov (.t 0)),oI 25 (.nilchk (.t 24)),oI 26 (.faddr 26 (.t 25)),oI 27 (.ld none (.t 26)),oI 28 (.call 111 0 true [(.t 27)]),oI 29 (.nilchk (.t 22)),oI 30 (.faddr 0 (.t 29)),oI 31 (.faddr 6 (.t 30)),oN (.st 1 (.t 31) (.t 28)),oI 32 (.nilchk (.t 23)),oI 33 (.faddr 26 (.t 32)),oN (.st 1 (.t 33) (.c (.lst true [])))] none []))))
def Zqr:ZG:=⟨[],Zgt⟩
theorem Zho:FC 118=some Zqr:=by kernel_rfl
theorem Zhw:Zqr.body=Zgt:=rfl
theorem Zts:Zqr.res=[]:=rfl
def Zg3:Ze:=(.seq (.seq (.region [oI 2 (.mov (.t 0)),oI 3 (.nilchk (.t 2)),oI 4 (.faddr 26 (.t 3)),oI 5 (.ld none (.t 4)),oI 6 (.len (.t 5)),oI 7 (.bin .gtr (.t 6) (.c (.int .i64 0)))] none [7,0]) (.cond (.t 7) (.region [oI 8 (.mov (.t 0)),oI 9 (.mov (.t 0)),oI 10 (.call 116 0 true [(.t 9)]),oI 11 (.nilchk (.t 8)),oI 12 (.faddr 0 (.t 11)),oI 13 (.faddr 7 (.t 12)),oN (.st 1 (.t 13) (.t 10))] none [0]) .skip)) (.seq (.region [oI 14 (.mov (.t 0)),oI 15 (.nilchk (.t 14)),oI 16 (.faddr 26 (.t 15)),oI 17 (.ld none (.t 16)),oI 18 (.len (.t 17)),oI 19 (.bin .gtr (.t 18) (.c (.int .i64 0)))] none [19,0]) (.cond (.t 19) (.region [oI 20 (.mov (.t 0)),oI 21 (.mov (.t 0)),oI 22 (.mov (.t 0)),oI 23 (.nilchk (.t 22)),oI 24 (.faddr 0 (.t 23)),oI 25 (.faddr 0 (.t 24)),oI 26 (.ld none (.t 25)),oI 27 (.call 117 0 true [(.t 21),(.t 26)]),oI 28 (.nilchk (.t 20)),oI 29 (.faddr 0 (.t 28)),oI 30 (.faddr 9 (.t 29)),oN (.st 1 (.t 30) (.t 27))] none []) .skip)))
def ZoQ:ZG:=⟨[],Zg3⟩
theorem ZiC:FC 120=some ZoQ:=by kernel_rfl
theorem Zjz:ZoQ.body=Zg3:=rfl
theorem Zqh:ZoQ.res=[]:=rfl
def Zdc:Ze:=(.seq (.region [oI 4 (.mov (.t 0)),oI 5 (.call 124 0 true [(.t 4)]),oI 6 (.build [(.str []),(.int .i64 0),(.bool false),(.bool false),(.int .i64 0),(.int .i64 0)] [(0,1,(.t 5))]),oI 2 (.alloc [(.str []),(.int .i64 0),(.bool false),(.bool false),(.int .i64 0),(.int .i64 0)]),oN (.st 6 (.t 2) (.t 6))] none [2,0]) (.seq (.region [oI 7 (.mov (.t 0)),oI 8 (.call 115 0 true [(.t 7),(.c (.int .i64 1))]),oI 3 (.mov (.t 8))] none [3,2,0]) (.seq (.region [oI 9 (.mov (.t 3)),oI 10 (.bin .lss (.t 9) (.c (.int .i64 64))),oI 11 (.call 113 0 true [(.t 10),(.c (.int .i64 129))])] none [3,2,0]) (.seq (.region [oI 12 (.mov (.t 3)),oI 13 (.bin .and (.t 12) (.c (.int .i64 3))),oI 14 (.mov (.t 3)),oI 15 (.bin .quo (.t 14) (.c (.int .i64 16))),oI 16 (.faddr 1 (.t 2)),oN (.st 1 (.t 16) (.t 13)),oI 17 (.faddr 4 (.t 2)),oN (.st 1 (.t 17) (.t 15))] none [3,2,0]) (.seq (.region [oI 18 (.mov (.t 3)),oI 19 (.bin .and (.t 18) (.c (.int .i64 4))),oI 20 (.bin .neq (.t 19) (.c (.int .i64 0))),oI 21 (.mov (.t 3)),oI 22 (.bin .and (.t 21) (.c (.int .i64 8))),oI 23 (.bin .neq (.t 22) (.c (.int .i64 0))),oI 24 (.faddr 2 (.t 2)),oN (.st 1 (.t 24) (.t 20)),oI 25 (.faddr 3 (.t 2)),oN (.st 1 (.t 25) (.t 23))] none [2,0]) (.seq (.region [oI 26 (.faddr 1 (.t 2)),oI 27 (.ld none (.t 26)),oI 28 (.bin .lss (.t 27) (.c (.int .i64 3))),oI 29 (.mov (.t 28)),⟨(some 30),(.faddr 4 (.t 2)),(some (29,true)),[]⟩,⟨(some 31),(.ld none (.t 30)),(some (29,true)),[]⟩,⟨(some 32),(.bin .lss (.t 31) (.c (.int .i64 3))),(some (29,true)),[]⟩,oI 33 (.pick (.t 29) (.t 32) (.c (.bool false))),oI 34 (.call 113 0 true [(.t 33),(.c (.int .i64 130))])] none [2,0]) (.region [oI 35 (.mov (.t 0)),oI 36 (.mov (.t 0)),oI 37 (.nilchk (.t 36)),oI 38 (.faddr 0 (.t 37)),oI 39 (.faddr 10 (.t 38)),oI 40 (.ld none (.t 39)),oI 41 (.ld (some 6) (.t 2)),oI 42 (.bslice false 6 1 (.agg [(.str []),(.int .i64 0),(.bool false),(.bool false),(.int .i64 0),(.int .i64 0)]) [(0,(.t 41))]),oI 43 (.app 6 48 (.agg [(.str []),(.int .i64 0),(.bool false),(.bool false),(.int .i64 0),(.int .i64 0)]) (.t 40) (.t 42)),oI 44 (.nilchk (.t 35)),oI 45 (.faddr 0 (.t 44)),oI 46 (.faddr 10 (.t 45)),oN (.st 1 (.t 46) (.t 43))] (some [(5,6),(5,7)]) [])))))))
def ZnU:ZG:=⟨[],Zdc⟩
theorem ZdW:FC 122=some ZnU:=by kernel_rfl
theorem ZdM:ZnU.body=Zdc:=rfl
theorem ZrZ:ZnU.res=[]:=rfl
def Zib:Ze:=(.seq (.region [oI 2 (.mov (.c (.str [])))] none [0]) (.seq (.region [oI 7 (.mov (.t 0)),oI 8 (.nilchk (.t 7)),oI 9 (.faddr 26 (.t 8)),oI 10 (.ld none (.t 9)),oI 11 (.call 109 0 true [(.t 10)]),oI 6 (.mov (.t 11)),oI 12 (.ext (.t 6) 0),oI 13 (.ext (.t 6) 1),oI 14 (.ext (.t 6) 2),oI 3 (.mov (.t 12)),oI 4 (.mov (.t 13)),oI 5 (.mov (.t 14))] none [5,4,3,0]) (.seq (.region [oI 15 (.mov (.t 5)),oI 16 (.bin .eql (.t 15) (.c (.int .i64 0))),oI 17 (.call 113 0 true [(.t 16),(.c (.int .i64 129))])] none [4,3,0]) (.seq (.region [oI 18 (.mov (.t 0)),oI 19 (.mov (.t 0)),oI 20 (.nilchk (.t 19)),oI 21 (.faddr 26 (.t 20)),oI 22 (.ld none (.t 21)),oI 23 (.mov (.t 4)),oI 24 (.slice 1 (.t 22) (some (.t 23)) none none),oI 25 (.nilchk (.t 18)),oI 26 (.faddr 26 (.t 25)),oN (.st 1 (.t 26) (.t 24))] none [3]) (.seq (.region [oI 27 (.mov (.t 3)),oI 2 (.mov (.t 27))] none [2]) .ret)))))
def Znz:ZG:=⟨[(.tmp 2)],Zib⟩
theorem Zkl:FC 124=some Znz:=by kernel_rfl
theorem Zll:Znz.body=Zib:=rfl
theorem ZvO:Znz.res=[(.tmp 2)]:=rfl
def Zmu:Ze:=(.seq (.region [oI 76 (.bin .lss (.t 75) (.t 74))] none [76,75,74,73,0]) (.seq (.cond (.t 76) .skip (.exit 1)) (.seq (.block 2 (.seq (.region [oI 77 (.iaddr 6 (.t 73) (.t 75)),oI 78 (.ld (some 6) (.t 77)),oI 5 (.alloc [(.str []),(.int .i64 0),(.bool false),(.bool false),(.int .i64 0),(.int .i64 0)]),oN (.st 6 (.t 5) (.t 78))] none [75,74,73,5,0]) (.seq (.region [oI 79 (.mov (.t 0)),oI 80 (.faddr 0 (.t 5)),oI 81 (.ld none (.t 80)),oI 82 (.call 129 1 true [(.t 79),(.t 81)])] none [75,74,73,5,0]) (.region [oI 83 (.mov (.t 0)),oI 84 (.faddr 1 (.t 5)),oI 85 (.ld none (.t 84)),oI 86 (.bin .and (.t 85) (.c (.int .i64 3))),oI 87 (.faddr 2 (.t 5)),oI 88 (.ld none (.t 87)),oI 89 (.call 81 0 true [(.t 88),(.c (.int .i64 4))]),oI 90 (.bin .add (.t 86) (.t 89)),oI 91 (.faddr 3 (.t 5)),oI 92 (.ld none (.t 91)),oI 93 (.call 81 0 true [(.t 92),(.c (.int .i64 8))]),oI 94 (.bin .add (.t 90) (.t 93)),oI 95 (.faddr 4 (.t 5)),oI 96 (.ld none (.t 95)),oI 97 (.bin .and (.t 96) (.c (.int .i64 3))),oI 98 (.bin .mul (.t 97) (.c (.int .i64 16))),oI 99 (.bin .add (.t 94) (.t 98)),oI 100 (.call 127 1 true [(.t 83),(.t 99),(.c (.int .i64 1))])] (some [(2,5),(2,6),(2,9),(5,9),(6,9),(2,10),(2,13),(5,13),(6,13),(9,13),(10,13),(17,17)]) [75,74,73,0])))) (.region [oI 101 (.bin .add (.t 75) (.c (.int .i64 1))),oI 75 (.mov (.t 101))] none [75,74,73,0]))))
def Znf:Ze:=Zmu
def ZkI:Ze:=(.seq (.region [oI 111 (.bin .lss (.t 110) (.t 109))] none [111,110,109,108,0]) (.seq (.cond (.t 111) .skip (.exit 3)) (.seq (.block 4 (.seq (.region [oI 112 (.iaddr 1 (.t 108) (.t 110)),oI 113 (.ld none (.t 112)),oI 7 (.mov (.t 113))] none [110,109,108,7,0]) (.region [oI 114 (.mov (.t 0)),oI 115 (.mov (.t 7)),oI 116 (.call 129 1 true [(.t 114),(.t 115)])] none [110,109,108,0]))) (.region [oI 117 (.bin .add (.t 110) (.c (.int .i64 1))),oI 110 (.mov (.t 117))] none [110,109,108,0]))))
def ZnJ:Ze:=ZkI
def ZkB:Ze:=(.seq (.region [oI 128 (.bin .lss (.t 127) (.t 126))] none [128,127,126,125,0]) (.seq (.cond (.t 128) .skip (.exit 5)) (.seq (.block 6 (.seq (.region [oI 129 (.iaddr 1 (.t 125) (.t 127)),oI 130 (.ld none (.t 129)),oI 9 (.mov (.t 130))] none [127,126,125,9,0]) (.region [oI 131 (.mov (.t 0)),oI 132 (.mov (.t 9)),oI 133 (.call 127 1 true [(.t 131),(.t 132),(.c (.int .i64 1))])] none [127,126,125,0]))) (.region [oI 134 (.bin .add (.t 127) (.c (.int .i64 1))),oI 127 (.mov (.t 134))] none [127,126,125,0]))))
def Zm7:Ze:=ZkB
def Zdp:Ze:=(.seq (.region [oI 3 (.box (.t 1))] none [3,0]) (.seq (.region [oI 10 (.faddr 0 (.t 3)),oI 11 (.ld none (.t 10))] none [11,3,0]) (.block 0 (.seq (.region [oI 13 (.bin .eql (.t 11) (.c (.int .i64 1))),oI 12 (.mov (.t 13))] none [12,11,3,0]) (.cond (.t 12) (.region [oI 14 (.mov (.t 0)),oI 15 (.ld (some 26) (.t 3)),oI 16 (.call 126 1 true [(.t 14),(.t 15)])] none []) (.seq (.region [oI 18 (.bin .eql (.t 11) (.c (.int .i64 2))),oI 17 (.mov (.t 18))] none [17,11,3,0]) (.cond (.t 17) (.seq (.region [oI 19 (.mov (.t 0)),oI 20 (.faddr 25 (.t 3)),oI 21 (.ld none (.t 20)),oI 22 (.call 81 0 true [(.t 21),(.c (.int .i64 1))]),oI 23 (.call 127 1 true [(.t 19),(.t 22),(.c (.int .i64 1))])] none [3,0]) (.seq (.region [oI 24 (.mov (.t 0)),oI 25 (.faddr 7 (.t 3)),oI 26 (.ld none (.t 25)),oI 27 (.call 127 1 true [(.t 24),(.t 26),(.c (.int .i64 1))])] none [3,0]) (.region [oI 28 (.mov (.t 0)),oI 29 (.faddr 9 (.t 3)),oI 30 (.ld none (.t 29)),oI 31 (.call 128 1 true [(.t 28),(.c (.int .i64 2)),(.t 30)])] none []))) (.seq (.region [oI 33 (.bin .eql (.t 11) (.c (.int .i64 3))),oI 32 (.mov (.t 33))] none [32,11,3,0]) (.cond (.t 32) (.seq (.region [oI 34 (.mov (.t 0)),oI 35 (.faddr 5 (.t 3)),oI 36 (.ld none (.t 35)),oI 37 (.call 129 1 true [(.t 34),(.t 36)])] none [3,0]) (.seq (.seq (.region [oI 38 (.faddr 2 (.t 3)),oI 39 (.ld none (.t 38)),oI 40 (.bin .gtr (.t 39) (.c (.int .i64 0)))] none [40,3,0]) (.cond (.t 40) (.region [oI 41 (.mov (.t 0)),oI 42 (.faddr 4 (.t 3)),oI 43 (.ld none (.t 42)),oI 44 (.call 127 1 true [(.t 41),(.t 43),(.c (.int .i64 2))])] none [3,0]) .skip)) (.seq (.region [oI 45 (.mov (.t 0)),oI 46 (.faddr 9 (.t 3)),oI 47 (.ld none (.t 46)),oI 48 (.call 128 1 true [(.t 45),(.c (.int .i64 3)),(.t 47)])] none [3,0]) (.region [oI 49 (.mov (.t 0)),oI 50 (.nilchk (.t 49)),oI 51 (.faddr 0 (.t 50)),oI 52 (.faddr 6 (.t 3)),oI 53 (.ld none (.t 52)),oI 54 (.call 130 1 true [(.t 51),(.t 53)])] (some [(5,5)]) [])))) (.seq (.seq (.region [oI 56 (.bin .eql (.t 11) (.c (.int .i64 4))),oI 55 (.mov (.t 56))] none [55,11,3,0]) (.cond (.t 55) .skip (.seq (.region [oI 57 (.bin .eql (.t 11) (.c (.int .i64 5))),oI 55 (.mov (.t 57))] none [55,11,3,0]) (.cond (.t 55) .skip (.seq (.region [oI 58 (.bin .eql (.t 11) (.c (.int .i64 6))),oI 55 (.mov (.t 58))] none [55,11,3,0]) (.cond (.t 55) .skip (.region [oI 59 (.bin .eql (.t 11) (.c (.int .i64 7))),oI 55 (.mov (.t 59))] none [55,11,3,0]))))))) (.cond (.t 55) (.seq (.region [oI 60 (.mov (.t 0)),oI 61 (.faddr 4 (.t 3)),oI 62 (.ld none (.t 61)),oI 63 (.call 127 1 true [(.t 60),(.t 62),(.c (.int .i64 2))])] none [3,0]) (.region [oI 64 (.mov (.t 0)),oI 65 (.ld (some 26) (.t 3)),oI 66 (.call 131 1 true [(.t 64),(.t 65)])] none [])) (.seq (.region [oI 68 (.bin .eql (.t 11) (.c (.int .i64 8))),oI 67 (.mov (.t 68))] none [67,11,3,0]) (.cond (.t 67) (.seq (.region [oI 69 (.mov (.t 0)),oI 70 (.ld (some 26) (.t 3)),oI 71 (.call 132 1 true [(.t 69),(.t 70)])] none [3,0]) (.seq (.region [oI 72 (.faddr 10 (.t 3)),oI 73 (.ld none (.t 72)),oI 74 (.len (.t 73)),oI 75 (.mov (.c (.int .i64 0)))] none [75,74,73,0]) (.block 1 (.loop [75,74,73,0] Znf)))) (.seq (.region [oI 103 (.bin .eql (.t 11) (.c (.int .i64 10))),oI 102 (.mov (.t 103))] none [102,11,3,0]) (.cond (.t 102) (.seq (.region [oI 104 (.mov (.t 0)),oI 105 (.ld (some 26) (.t 3)),oI 106 (.call 132 1 true [(.t 104),(.t 105)])] none [3,0]) (.seq (.region [oI 107 (.faddr 11 (.t 3)),oI 108 (.ld none (.t 107)),oI 109 (.len (.t 108)),oI 110 (.mov (.c (.int .i64 0)))] none [110,109,108,0]) (.block 3 (.loop [110,109,108,0] ZnJ)))) (.seq (.seq (.region [oI 119 (.bin .eql (.t 11) (.c (.int .i64 9))),oI 118 (.mov (.t 119))] none [118,11,3,0]) (.cond (.t 118) .skip (.region [oI 120 (.bin .eql (.t 11) (.c (.int .i64 11))),oI 118 (.mov (.t 120))] none [118,11,3,0]))) (.cond (.t 118) (.seq (.region [oI 121 (.mov (.t 0)),oI 122 (.ld (some 26) (.t 3)),oI 123 (.call 132 1 true [(.t 121),(.t 122)])] none [3,0]) (.seq (.region [oI 124 (.faddr 8 (.t 3)),oI 125 (.ld none (.t 124)),oI 126 (.len (.t 125)),oI 127 (.mov (.c (.int .i64 0)))] none [127,126,125,0]) (.block 5 (.loop [127,126,125,0] Zm7)))) (.seq (.seq (.region [oI 136 (.bin .eql (.t 11) (.c (.int .i64 14))),oI 135 (.mov (.t 136))] none [135,11,3,0]) (.cond (.t 135) .skip (.region [oI 137 (.bin .eql (.t 11) (.c (.int .i64 15))),oI 135 (.mov (.t 137))] none [135,3,0]))) (.cond (.t 135) (.region [oI 138 (.mov (.t 0)),oI 139 (.ld (some 26) (.t 3)),oI 140 (.call 131 1 true [(.t 138),(.t 139)])] none []) .skip)))))))))))))))))))
def ZhW:ZG:=⟨[],Zdp⟩
theorem Zfe:FC 78=some ZhW:=by kernel_rfl
theorem Zd3:ZhW.body=Zdp:=rfl
theorem Zd5:ZhW.res=[]:=rfl
def Zfg:Ze:=(.seq (.region [oI 3 (.box (.t 1))] none [3,0]) (.seq (.region [oI 4 (.mov (.t 0)),oI 5 (.call 129 1 true [(.t 4),(.c (.str [77,81,84,84]))])] none [3,0]) (.seq (.region [oI 6 (.mov (.t 0)),oI 7 (.call 127 1 true [(.t 6),(.c (.int .i64 5)),(.c (.int .i64 1))])] none [3,0]) (.seq (.region [oI 8 (.mov (.t 0)),oI 9 (.faddr 12 (.t 3)),oI 10 (.ld none (.t 9)),oI 11 (.call 81 0 true [(.t 10),(.c (.int .i64 2))]),oI 12 (.faddr 15 (.t 3)),oI 13 (.ld none (.t 12)),oI 14 (.call 81 0 true [(.t 13),(.c (.int .i64 4))]),oI 15 (.bin .add (.t 11) (.t 14)),oI 16 (.faddr 16 (.t 3)),oI 17 (.faddr 2 (.t 16)),oI 18 (.ld none (.t 17)),oI 19 (.bin .and (.t 18) (.c (.int .i64 3))),oI 20 (.bin .mul (.t 19) (.c (.int .i64 8))),oI 21 (.bin .add (.t 15) (.t 20)),oI 22 (.faddr 16 (.t 3)),oI 23 (.faddr 3 (.t 22)),oI 24 (.ld none (.t 23)),oI 25 (.call 81 0 true [(.t 24),(.c (.int .i64 32))]),oI 26 (.bin .add (.t 21) (.t 25)),oI 27 (.faddr 23 (.t 3)),oI 28 (.ld none (.t 27)),oI 29 (.call 81 0 true [(.t 28),(.c (.int .i64 64))]),oI 30 (.bin .add (.t 26) (.t 29)),oI 31 (.faddr 21 (.t 3)),oI 32 (.ld none (.t 31)),oI 33 (.call 81 0 true [(.t 32),(.c (.int .i64 128))]),oI 34 (.bin .add (.t 30) (.t 33)),oI 35 (.call 127 1 true [(.t 8),(.t 34),(.c (.int .i64 1))])] (some [(2,5),(3,5),(2,10),(3,10),(5,10),(6,10),(2,16),(3,16),(5,16),(6,16),(10,16),(10,17),(2,20),(3,20),(5,20),(6,20),(10,20),(16,20),(17,20),(10,21),(2,24),(3,24),(5,24),(6,24),(10,24),(16,24),(17,24),(20,24),(21,24),(10,25),(25,25),(27,27)]) [3,0]) (.seq (.region [oI 36 (.mov (.t 0)),oI 37 (.faddr 13 (.t 3)),oI 38 (.ld none (.t 37)),oI 39 (.call 127 1 true [(.t 36),(.t 38),(.c (.int .i64 2))])] none [3,0]) (.seq (.region [oI 40 (.mov (.t 0)),oI 41 (.faddr 9 (.t 3)),oI 42 (.ld none (.t 41)),oI 43 (.call 128 1 true [(.t 40),(.c (.int .i64 1)),(.t 42)])] none [3,0]) (.seq (.region [oI 44 (.mov (.t 0)),oI 45 (.faddr 14 (.t 3)),oI 46 (.ld none (.t 45)),oI 47 (.call 129 1 true [(.t 44),(.t 46)])] none [3,0]) (.seq (.seq (.region [oI 48 (.faddr 15 (.t 3)),oI 49 (.ld none (.t 48))] none [49,3,0]) (.cond (.t 49) (.seq (.region [oI 50 (.mov (.t 0)),oI 51 (.faddr 16 (.t 3)),oI 52 (.faddr 4 (.t 51)),oI 53 (.ld none (.t 52)),oI 54 (.call 128 1 true [(.t 50),(.c (.int .i64 16)),(.t 53)])] none [3,0]) (.seq (.region [oI 55 (.mov (.t 0)),oI 56 (.faddr 16 (.t 3)),oI 57 (.faddr 0 (.t 56)),oI 58 (.ld none (.t 57)),oI 59 (.call 129 1 true [(.t 55),(.t 58)])] none [3,0]) (.region [oI 60 (.mov (.t 0)),oI 61 (.faddr 16 (.t 3)),oI 62 (.faddr 1 (.t 61)),oI 63 (.ld none (.t 62)),oI 64 (.call 149 1 true [(.t 60),(.t 63)])] none [3,0]))) .skip)) (.seq (.seq (.region [oI 65 (.faddr 21 (.t 3)),oI 66 (.ld none (.t 65))] none [66,3,0]) (.cond (.t 66) (.region [oI 67 (.mov (.t 0)),oI 68 (.faddr 22 (.t 3)),oI 69 (.ld none (.t 68)),oI 70 (.call 129 1 true [(.t 67),(.t 69)])] none [3,0]) .skip)) (.seq (.region [oI 71 (.faddr 23 (.t 3)),oI 72 (.ld none (.t 71))] none [72,3,0]) (.cond (.t 72) (.region [oI 73 (.mov (.t 0)),oI 74 (.faddr 24 (.t 3)),oI 75 (.ld none (.t 74)),oI 76 (.call 149 1 true [(.t 73),(.t 75)])] none []) .skip)))))))))))
def Zm4:ZG:=⟨[],Zfg⟩
theorem ZFb:FC 126=some Zm4:=by kernel_rfl
theorem ZfY:Zm4.body=Zfg:=rfl
theorem ZfQ:Zm4.res=[]:=rfl
def Zq1:Ze:=(.seq (.region [oI 7 (.mov (.t 1)),oI 8 (.call 55 0 true [(.t 7)]),oI 6 (.mov (.t 8)),oI 9 (.ext (.t 6) 0),oI 10 (.ext (.t 6) 1),oI 4 (.mov (.t 9)),oI 5 (.mov (.t 10))] none [4,0]) (.region [oI 11 (.mov (.t 0)),oI 12 (.nilchk (.t 11)),oI 13 (.faddr 0 (.t 12)),oI 14 (.mov (.t 4)),oI 15 (.call 130 1 true [(.t 13),(.t 14)])] none []))
def Zpz:ZG:=⟨[],Zq1⟩
theorem ZD8:FC 149=some Zpz:=by kernel_rfl
theorem ZF6:Zpz.body=Zq1:=rfl
theorem ZL7:Zpz.res=[]:=rfl
def ZqD:Ze:=(.seq (.region [oI 3 (.box (.t 1))] none [3,0]) (.seq (.region [oI 4 (.mov (.t 0)),oI 5 (.faddr 4 (.t 3)),oI 6 (.ld none (.t 5)),oI 7 (.call 127 1 true [(.t 4),(.t 6),(.c (.int .i64 2))])] none [3,0]) (.region [oI 8 (.mov (.t 0)),oI 9 (.faddr 0 (.t 3)),oI 10 (.ld none (.t 9)),oI 11 (.faddr 9 (.t 3)),oI 12 (.ld none (.t 11)),oI 13 (.call 128 1 true [(.t 8),(.t 10),(.t 12)])] none [])))
def Zrd:ZG:=⟨[],ZqD⟩
theorem ZBp:FC 132=some Zrd:=by kernel_rfl
theorem ZBS:Zrd.body=ZqD:=rfl
theorem ZPi:Zrd.res=[]:=rfl
def ZlR:Ze:=(.region [oI 6 (.mov (.t 0)),oI 7 (.nilchk (.t 6)),oI 8 (.faddr 0 (.t 7)),oI 9 (.mov (.t 1)),oI 10 (.i2i .u64 (.t 9)),oI 11 (.mov (.t 2)),oI 12 (.call 59 0 true [(.t 10),(.t 11)]),oI 13 (.call 130 1 true [(.t 8),(.t 12)])] (some [(6,6),(7,7)]) [])
def Zp9:ZG:=⟨[],ZlR⟩
theorem ZsQ:FC 127=some Zp9:=by kernel_rfl
theorem Zui:Zp9.body=ZlR:=rfl
theorem Zt5:Zp9.res=[]:=rfl
def ZnX:Ze:=(.seq (.region [oI 9 (.mov (.t 1)),oI 10 (.mov (.t 2)),oI 11 (.call 42 0 true [(.t 9),(.t 10)]),oI 8 (.mov (.t 11)),oI 12 (.ext (.t 8) 0),oI 13 (.ext (.t 8) 1),oI 6 (.mov (.t 12)),oI 7 (.mov (.t 13))] none [6,0]) (.region [oI 14 (.mov (.t 0)),oI 15 (.nilchk (.t 14)),oI 16 (.faddr 0 (.t 15)),oI 17 (.mov (.t 6)),oI 18 (.call 130 1 true [(.t 16),(.t 17)])] none []))
def ZpG:ZG:=⟨[],ZnX⟩
theorem ZIw:FC 128=some ZpG:=by kernel_rfl
theorem ZMO:ZpG.body=ZnX:=rfl
theorem ZNy:ZpG.res=[]:=rfl
def Zfb:Ze:=(.seq (.region [oI 3 (.box (.t 1))] none [3,0]) (.seq (.seq (.region [oI 4 (.faddr 7 (.t 3)),oI 5 (.ld none (.t 4)),oI 6 (.bin .neq (.t 5) (.c (.int .i64 0))),oI 7 (.mov (.t 6)),⟨(some 8),(.faddr 9 (.t 3)),(some (7,false)),[]⟩,⟨(some 9),(.ld none (.t 8)),(some (7,false)),[]⟩,⟨(some 10),(.len (.t 9)),(some (7,false)),[]⟩,⟨(some 11),(.bin .gtr (.t 10) (.c (.int .i64 0))),(some (7,false)),[]⟩,oI 12 (.pick (.t 7) (.c (.bool true)) (.t 11))] none [12,3,0]) (.cond (.t 12) (.region [oI 13 (.mov (.t 0)),oI 14 (.faddr 7 (.t 3)),oI 15 (.ld none (.t 14)),oI 16 (.call 127 1 true [(.t 13),(.t 15),(.c (.int .i64 1))])] none [3,0]) .skip)) (.seq (.region [oI 17 (.faddr 9 (.t 3)),oI 18 (.ld none (.t 17)),oI 19 (.len (.t 18)),oI 20 (.bin .gtr (.t 19) (.c (.int .i64 0)))] none [20,3,0]) (.cond (.t 20) (.region [oI 21 (.mov (.t 0)),oI 22 (.faddr 0 (.t 3)),oI 23 (.ld none (.t 22)),oI 24 (.faddr 9 (.t 3)),oI 25 (.ld none (.t 24)),oI 26 (.call 128 1 true [(.t 21),(.t 23),(.t 25)])] none []) .skip))))
def ZnN:ZG:=⟨[],Zfb⟩
theorem Zta:FC 131=some ZnN:=by kernel_rfl
theorem Zgj:ZnN.body=Zfb:=rfl
theorem Zgk:ZnN.res=[]:=rfl
def Zlx:Ze:=(.seq (.region [oI 7 (.mov (.t 1)),oI 8 (.call 54 0 true [(.t 7)]),oI 6 (.mov (.t 8)),oI 9 (.ext (.t 6) 0),oI 10 (.ext (.t 6) 1),oI 4 (.mov (.t 9)),oI 5 (.mov (.t 10))] none [4,0]) (.region [oI 11 (.mov (.t 0)),oI 12 (.nilchk (.t 11)),oI 13 (.faddr 0 (.t 12)),oI 14 (.mov (.t 4)),oI 15 (.call 130 1 true [(.t 13),(.t 14)])] none []))
def ZnV:ZG:=⟨[],Zlx⟩
theorem Zs8:FC 129=some ZnV:=by kernel_rfl
theorem Zvy:ZnV.body=Zlx:=rfl
theorem Zt2:ZnV.res=[]:=rfl
def Zpr:Ze:=(.seq (.region [oI 3 (.box (.t 1)),oI 4 (.mov (.c (.bool false)))] none [3,0]) (.seq (.region [oI 5 (.mov (.t 0)),oI 6 (.call 87 0 true [(.t 5)]),oI 7 (.mkfn 88 [(.t 3)]),oI 8 (.call 86 0 true [(.t 6),(.t 7)]),oI 4 (.mov (.t 8))] none [4]) .ret))
def ZpY:ZG:=⟨[(.tmp 4)],Zpr⟩
theorem ZFJ:FC 41=some ZpY:=by kernel_rfl
theorem ZER:ZpY.body=Zpr:=rfl
theorem ZFy:ZpY.res=[(.tmp 4)]:=rfl
def ZlB:Ze:=(.seq (.region [oI 2 (.box (.t 0)),oI 3 (.mov (.c (.bool false)))] none [2,1]) (.seq (.region [oI 4 (.ld none (.t 1)),oI 5 (.faddr 0 (.t 2)),oI 6 (.ld none (.t 5)),oI 7 (.bin .geq (.t 4) (.t 6)),oI 8 (.mov (.t 7)),⟨(some 9),(.ld none (.t 1)),(some (8,true)),[]⟩,⟨(some 10),(.faddr 1 (.t 2)),(some (8,true)),[]⟩,⟨(some 11),(.ld none (.t 10)),(some (8,true)),[]⟩,⟨(some 12),(.bin .leq (.t 9) (.t 11)),(some (8,true)),[]⟩,oI 13 (.pick (.t 8) (.t 12) (.c (.bool false))),oI 3 (.mov (.t 13))] none [3]) .ret))
def Zqt:ZG:=⟨[(.tmp 3)],ZlB⟩
theorem Zyp:FC 88=some Zqt:=by kernel_rfl
theorem Zsw:Zqt.body=ZlB:=rfl
theorem ZrM:Zqt.res=[(.tmp 3)]:=rfl
def Zch:Ze:=(.seq (.region [oI 1 (.box (.t 0)),oI 2 (.alloc [(.int .u8 0),(.lst true [])]),oI 3 (.mov (.c (.int .i64 0)))] none [2,1]) (.seq (.region [oI 10 (.build [(.lst true []),(.int .i64 0),(.int .i8 0)] []),oI 11 (.box (.t 10)),oI 4 (.mov (.t 11))] none [4,2,1]) (.seq (.region [oI 12 (.mov (.t 4)),oI 13 (.ld (some 26) (.t 1)),oI 14 (.call 78 1 true [(.t 12),(.t 13)])] none [4,2,1]) (.seq (.region [oI 15 (.faddr 0 (.t 1)),oI 16 (.ld none (.t 15)),oI 17 (.bin .shl (.t 16) (.c (.int .u64 4))),oI 18 (.i2i .u8 (.t 17)),oI 19 (.faddr 0 (.t 1)),oI 20 (.ld none (.t 19)),oI 21 (.call 79 0 true [(.t 20)]),oI 22 (.bin .or (.t 18) (.t 21)),oI 23 (.mov (.t 4)),oI 24 (.nilchk (.t 23)),oI 25 (.faddr 0 (.t 24)),oI 26 (.call 80 0 true [(.t 25)]),oI 27 (.bslice false 1 1 (.lst true []) [(0,(.t 26))]),oI 28 (.call 56 0 true [(.t 27)]),oI 29 (.build [(.int .u8 0),(.lst true [])] [(0,1,(.t 22)),(1,1,(.t 28))]),oI 5 (.alloc [(.int .u8 0),(.lst true [])]),oN (.st 2 (.t 5) (.t 29))] (some [(1,5),(1,6),(1,11),(1,12),(1,13),(1,15),(5,15),(6,15),(11,15),(12,15),(13,15)]) [5,2,1]) (.seq (.seq (.region [oI 30 (.faddr 0 (.t 1)),oI 31 (.ld none (.t 30)),oI 32 (.bin .eql (.t 31) (.c (.int .i64 3)))] none [32,5,2,1]) (.cond (.t 32) (.region [oI 33 (.faddr 0 (.t 5)),oI 34 (.ld none (.t 33)),oI 35 (.faddr 1 (.t 1)),oI 36 (.ld none (.t 35)),oI 37 (.call 81 0 true [(.t 36),(.c (.int .i64 8))]),oI 38 (.faddr 2 (.t 1)),oI 39 (.ld none (.t 38)),oI 40 (.bin .and (.t 39) (.c (.int .i64 3))),oI 41 (.bin .mul (.t 40) (.c (.int .i64 2))),oI 42 (.bin .add (.t 37) (.t 41)),oI 43 (.faddr 3 (.t 1)),oI 44 (.ld none (.t 43)),oI 45 (.call 81 0 true [(.t 44),(.c (.int .i64 1))]),oI 46 (.bin .add (.t 42) (.t 45)),oI 47 (.i2i .u8 (.t 46)),oI 48 (.bin .or (.t 34) (.t 47)),oI 49 (.faddr 0 (.t 5)),oN (.st 1 (.t 49) (.t 48))] (some [(1,3),(1,4),(1,6),(3,6),(4,6),(1,11),(3,11),(4,11),(6,11),(1,12),(6,12),(12,12)]) [5,2,1]) .skip)) (.seq (.region [oI 51 (.ld (some 2) (.t 5)),oI 52 (.call 32 0 true [(.t 51)]),oI 50 (.mov (.t 52)),oI 53 (.ext (.t 50) 0),oI 54 (.ext (.t 50) 1),oI 6 (.alloc [(.int .i64 0),(.bool false),(.int .i64 0),(.bool false),(.int .i64 0),(.str []),(.lst true []),(.int .i64 0),(.lst true []),(.lst true []),(.lst true []),(.lst true []),(.bool false),(.int .i64 0),(.str []),(.bool false),(.str []),(.lst true []),(.int .i64 0),(.bool false),(.lst true []),(.bool false),(.str []),(.bool false),(.lst true []),(.bool false)]),oN (.st 26 (.t 6) (.t 53)),oI 7 (.mov (.t 54))] none [7,6,5,2,1]) (.seq (.seq (.region [oI 56 (.faddr 1 (.t 5)),oI 57 (.ld none (.t 56)),oI 58 (.len (.t 57)),oI 59 (.call 82 0 true [(.t 58)]),oI 55 (.mov (.t 59)),oI 60 (.ext (.t 55) 0),oI 61 (.ext (.t 55) 1),oI 8 (.mov (.t 60)),oI 9 (.mov (.t 61))] none [9,7,6,5,2,1]) (.seq (.region [oI 62 (.mov (.t 9)),oI 63 (.bin .neq (.t 62) (.c (.int .i64 0))),oI 64 (.mov (.t 63)),⟨(some 65),(.mov (.t 7)),(some (64,false)),[]⟩,⟨(some 66),(.bin .neq (.t 65) (.c (.int .i64 0))),(some (64,false)),[]⟩,oI 67 (.pick (.t 64) (.c (.bool true)) (.t 66)),oI 68 (.mov (.t 67)),⟨(some 69),(.ld (some 26) (.t 6)),(some (68,false)),[]⟩,⟨(some 70),(.ld (some 26) (.t 1)),(some (68,false)),[]⟩,⟨(some 71),(.call 35 0 true [(.t 69),(.t 70)]),(some (68,false)),[]⟩,⟨(some 72),(.un .not (.t 71)),(some (68,false)),[]⟩,oI 73 (.pick (.t 68) (.c (.bool true)) (.t 72))] none [73,5,2]) (.cond (.t 73) (.seq (.region [oI 74 (.build [(.int .u8 0),(.lst true [])] []),oN (.st 2 (.t 2) (.t 74)),oI 3 (.mov (.c (.int .i64 129)))] none [3,2]) .ret) .skip))) (.seq (.region [oI 75 (.ld (some 2) (.t 5)),oN (.st 2 (.t 2) (.t 75)),oI 3 (.mov (.c (.int .i64 0)))] none [3,2]) .ret))))))))
def ZoY:ZG:=⟨[(.cell 2 (some 2)),(.tmp 3)],Zch⟩
theorem Zj4:FC 34=some ZoY:=by kernel_rfl
theorem Zcy:ZoY.body=Zch:=rfl
theorem Zcw:ZoY.res=[(.cell 2 (some 2)),(.tmp 3)]:=rfl
def ZnP:Ze:=(.seq (.region [oI 1 (.box (.t 0)),oI 2 (.mov (.c (.lst true []))),oI 3 (.mov (.c (.int .i64 0)))] none [1]) (.seq (.region [oI 9 (.ld (some 26) (.t 1)),oI 10 (.call 34 0 true [(.t 9)]),oI 8 (.mov (.t 10)),oI 11 (.ext (.t 8) 0),oI 12 (.ext (.t 8) 1),oI 4 (.alloc [(.int .u8 0),(.lst true [])]),oN (.st 2 (.t 4) (.t 11)),oI 5 (.mov (.t 12))] none [5,4]) (.seq (.seq (.region [oI 13 (.mov (.t 5)),oI 14 (.bin .neq (.t 13) (.c (.int .i64 0)))] none [14,5,4]) (.cond (.t 14) (.seq (.region [oI 15 (.mov (.t 5)),oI 2 (.mov (.c (.lst true []))),oI 3 (.mov (.t 15))] none [3,2]) .ret) .skip)) (.seq (.region [oI 17 (.faddr 1 (.t 4)),oI 18 (.ld none (.t 17)),oI 19 (.len (.t 18)),oI 20 (.call 82 0 true [(.t 19)]),oI 16 (.mov (.t 20)),oI 21 (.ext (.t 16) 0),oI 22 (.ext (.t 16) 1),oI 6 (.mov (.t 21)),oI 7 (.mov (.t 22))] none [6,4]) (.seq (.region [oI 23 (.faddr 0 (.t 4)),oI 24 (.ld none (.t 23)),oI 25 (.bslice false 1 1 (.int .u8 0) [(0,(.t 24))]),oI 26 (.mov (.t 6)),oI 27 (.faddr 1 (.t 4)),oI 28 (.ld none (.t 27)),oI 29 (.bslice false 1 3 (.lst true []) [(0,(.t 25)),(1,(.t 26)),(2,(.t 28))]),oI 30 (.call 56 0 true [(.t 29)]),oI 2 (.mov (.t 30)),oI 3 (.mov (.c (.int .i64 0)))] none [3,2]) .ret)))))
def ZpO:ZG:=⟨[(.tmp 2),(.tmp 3)],ZnP⟩
theorem ZPq:FC 40=some ZpO:=by kernel_rfl
theorem ZOb:ZpO.body=ZnP:=rfl
theorem ZCZ:ZpO.res=[(.tmp 2),(.tmp 3)]:=rfl
def ZoL:Ze:=(.seq (.region [oI 2 (.box (.t 0)),oI 3 (.box (.t 1)),oI 4 (.mov (.c (.bool false)))] none [3,2]) (.seq (.region [oI 9 (.faddr 8 (.t 2)),oI 10 (.ld none (.t 9)),oI 11 (.faddr 8 (.t 3)),oI 12 (.ld none (.t 11)),oI 13 (.call 83 0 true [(.t 10),(.t 12)]),oI 14 (.mov (.t 13)),⟨(some 15),(.faddr 10 (.t 2)),(some (14,true)),[]⟩,⟨(some 16),(.ld none (.t 15)),(some (14,true)),[]⟩,⟨(some 17),(.faddr 10 (.t 3)),(some (14,true)),[]⟩,⟨(some 18),(.ld none (.t 17)),(some (14,true)),[]⟩,⟨(some 19),(.call 84 0 true [(.t 16),(.t 18)]),(some (14,true)),[]⟩,oI 20 (.pick (.t 14) (.t 19) (.c (.bool false))),oI 21 (.mov (.t 20)),⟨(some 22),(.faddr 11 (.t 2)),(some (21,true)),[]⟩,⟨(some 23),(.ld none (.t 22)),(some (21,true)),[]⟩,⟨(some 24),(.faddr 11 (.t 3)),(some (21,true)),[]⟩,⟨(some 25),(.ld none (.t 24)),(some (21,true)),[]⟩,⟨(some 26),(.call 85 0 true [(.t 23),(.t 25)]),(some (21,true)),[]⟩,oI 27 (.pick (.t 21) (.t 26) (.c (.bool false))),oI 28 (.mov (.t 27)),⟨(some 29),(.faddr 9 (.t 2)),(some (28,true)),[]⟩,⟨(some 30),(.ld none (.t 29)),(some (28,true)),[]⟩,⟨(some 31),(.faddr 9 (.t 3)),(some (28,true)),[]⟩,⟨(some 32),(.ld none (.t 31)),(some (28,true)),[]⟩,⟨(some 33),(.call 43 0 true [(.t 30),(.t 32)]),(some (28,true)),[]⟩,oI 34 (.pick (.t 28) (.t 33) (.c (.bool false))),oI 35 (.mov (.t 34)),⟨(some 36),(.faddr 16 (.t 2)),(some (35,true)),[]⟩,⟨(some 37),(.faddr 4 (.t 36)),(some (35,true)),[]⟩,⟨(some 38),(.ld none (.t 37)),(some (35,true)),[]⟩,⟨(some 39),(.faddr 16 (.t 3)),(some (35,true)),[]⟩,⟨(some 40),(.faddr 4 (.t 39)),(some (35,true)),[]⟩,⟨(some 41),(.ld none (.t 40)),(some (35,true)),[]⟩,⟨(some 42),(.call 43 0 true [(.t 38),(.t 41)]),(some (35,true)),[]⟩,oI 43 (.pick (.t 35) (.t 42) (.c (.bool false))),oI 5 (.mov (.t 43))] none [5,3,2]) (.seq (.region [oI 44 (.faddr 6 (.t 2)),oI 45 (.ld none (.t 44)),oI 46 (.b2s (.t 45)),oI 47 (.faddr 6 (.t 3)),oI 48 (.ld none (.t 47)),oI 49 (.b2s (.t 48)),oI 50 (.bin .eql (.t 46) (.t 49)),oI 51 (.mov (.t 50)),⟨(some 52),(.faddr 24 (.t 2)),(some (51,true)),[]⟩,⟨(some 53),(.ld none (.t 52)),(some (51,true)),[]⟩,⟨(some 54),(.b2s (.t 53)),(some (51,true)),[]⟩,⟨(some 55),(.faddr 24 (.t 3)),(some (51,true)),[]⟩,⟨(some 56),(.ld none (.t 55)),(some (51,true)),[]⟩,⟨(some 57),(.b2s (.t 56)),(some (51,true)),[]⟩,⟨(some 58),(.bin .eql (.t 54) (.t 57)),(some (51,true)),[]⟩,oI 59 (.pick (.t 51) (.t 58) (.c (.bool false))),oI 60 (.mov (.t 59)),⟨(some 61),(.faddr 16 (.t 2)),(some (60,true)),[]⟩,⟨(some 62),(.faddr 1 (.t 61)),(some (60,true)),[]⟩,⟨(some 63),(.ld none (.t 62)),(some (60,true)),[]⟩,⟨(some 64),(.b2s (.t 63)),(some (60,true)),[]⟩,⟨(some 65),(.faddr 16 (.t 3)),(some (60,true)),[]⟩,⟨(some 66),(.faddr 1 (.t 65)),(some (60,true)),[]⟩,⟨(some 67),(.ld none (.t 66)),(some (60,true)),[]⟩,⟨(some 68),(.b2s (.t 67)),(some (60,true)),[]⟩,⟨(some 69),(.bin .eql (.t 64) (.t 68)),(some (60,true)),[]⟩,oI 70 (.pick (.t 60) (.t 69) (.c (.bool false))),oI 6 (.mov (.t 70))] none [6,5,3,2]) (.seq (.region [oI 71 (.faddr 16 (.t 2)),oI 72 (.faddr 0 (.t 71)),oI 73 (.ld none (.t 72)),oI 74 (.faddr 16 (.t 3)),oI 75 (.faddr 0 (.t 74)),oI 76 (.ld none (.t 75)),oI 77 (.bin .eql (.t 73) (.t 76)),oI 78 (.mov (.t 77)),⟨(some 79),(.faddr 16 (.t 2)),(some (78,true)),[]⟩,⟨(some 80),(.faddr 2 (.t 79)),(some (78,true)),[]⟩,⟨(some 81),(.ld none (.t 80)),(some (78,true)),[]⟩,⟨(some 82),(.faddr 16 (.t 3)),(some (78,true)),[]⟩,⟨(some 83),(.faddr 2 (.t 82)),(some (78,true)),[]⟩,⟨(some 84),(.ld none (.t 83)),(some (78,true)),[]⟩,⟨(some 85),(.bin .eql (.t 81) (.t 84)),(some (78,true)),[]⟩,oI 86 (.pick (.t 78) (.t 85) (.c (.bool false))),oI 87 (.mov (.t 86)),⟨(some 88),(.faddr 16 (.t 2)),(some (87,true)),[]⟩,⟨(some 89),(.faddr 3 (.t 88)),(some (87,true)),[]⟩,⟨(some 90),(.ld none (.t 89)),(some (87,true)),[]⟩,⟨(some 91),(.faddr 16 (.t 3)),(some (87,true)),[]⟩,⟨(some 92),(.faddr 3 (.t 91)),(some (87,true)),[]⟩,⟨(some 93),(.ld none (.t 92)),(some (87,true)),[]⟩,⟨(some 94),(.beq false (.t 90) (.t 93)),(some (87,true)),[]⟩,oI 95 (.pick (.t 87) (.t 94) (.c (.bool false))),oI 7 (.mov (.t 95))] none [7,6,5,3,2]) (.seq (.region [oI 96 (.faddr 1 (.t 2)),oI 97 (.ld none (.t 96)),oI 98 (.faddr 1 (.t 3)),oI 99 (.ld none (.t 98)),oI 100 (.beq false (.t 97) (.t 99)),oI 101 (.mov (.t 100)),⟨(some 102),(.faddr 3 (.t 2)),(some (101,true)),[]⟩,⟨(some 103),(.ld none (.t 102)),(some (101,true)),[]⟩,⟨(some 104),(.faddr 3 (.t 3)),(some (101,true)),[]⟩,⟨(some 105),(.ld none (.t 104)),(some (101,true)),[]⟩,⟨(some 106),(.beq false (.t 103) (.t 105)),(some (101,true)),[]⟩,oI 107 (.pick (.t 101) (.t 106) (.c (.bool false))),oI 108 (.mov (.t 107)),⟨(some 109),(.faddr 12 (.t 2)),(some (108,true)),[]⟩,⟨(some 110),(.ld none (.t 109)),(some (108,true)),[]⟩,⟨(some 111),(.faddr 12 (.t 3)),(some (108,true)),[]⟩,⟨(some 112),(.ld none (.t 111)),(some (108,true)),[]⟩,⟨(some 113),(.beq false (.t 110) (.t 112)),(some (108,true)),[]⟩,oI 114 (.pick (.t 108) (.t 113) (.c (.bool false))),oI 115 (.mov (.t 114)),⟨(some 116),(.faddr 15 (.t 2)),(some (115,true)),[]⟩,⟨(some 117),(.ld none (.t 116)),(some (115,true)),[]⟩,⟨(some 118),(.faddr 15 (.t 3)),(some (115,true)),[]⟩,⟨(some 119),(.ld none (.t 118)),(some (115,true)),[]⟩,⟨(some 120),(.beq false (.t 117) (.t 119)),(some (115,true)),[]⟩,oI 121 (.pick (.t 115) (.t 120) (.c (.bool false))),oI 122 (.mov (.t 121)),⟨(some 123),(.faddr 21 (.t 2)),(some (122,true)),[]⟩,⟨(some 124),(.ld none (.t 123)),(some (122,true)),[]⟩,⟨(some 125),(.faddr 21 (.t 3)),(some (122,true)),[]⟩,⟨(some 126),(.ld none (.t 125)),(some (122,true)),[]⟩,⟨(some 127),(.beq false (.t 124) (.t 126)),(some (122,true)),[]⟩,oI 128 (.pick (.t 122) (.t 127) (.c (.bool false))),oI 129 (.mov (.t 128)),⟨(some 130),(.faddr 23 (.t 2)),(some (129,true)),[]⟩,⟨(some 131),(.ld none (.t 130)),(some (129,true)),[]⟩,⟨(some 132),(.faddr 23 (.t 3)),(some (129,true)),[]⟩,⟨(some 133),(.ld none (.t 132)),(some (129,true)),[]⟩,⟨(some 134),(.beq false (.t 131) (.t 133)),(some (129,true)),[]⟩,oI 135 (.pick (.t 129) (.t 134) (.c (.bool false))),oI 136 (.mov (.t 135)),⟨(some 137),(.faddr 25 (.t 2)),(some (136,true)),[]⟩,⟨(some 138),(.ld none (.t 137)),(some (136,true)),[]⟩,⟨(some 139),(.faddr 25 (.t 3)),(some (136,true)),[]⟩,⟨(some 140),(.ld none (.t 139)),(some (136,true)),[]⟩,⟨(some 141),(.beq false (.t 138) (.t 140)),(some (136,true)),[]⟩,oI 142 (.pick (.t 136) (.t 141) (.c (.bool false))),oI 8 (.mov (.t 142))] none [8,7,6,5,3,2]) (.seq (.region [oI 143 (.mov (.t 5)),oI 144 (.mov (.t 143)),⟨(some 145),(.mov (.t 6)),(some (144,true)),[]⟩,oI 146 (.pick (.t 144) (.t 145) (.c (.bool false))),oI 147 (.mov (.t 146)),⟨(some 148),(.mov (.t 7)),(some (147,true)),[]⟩,oI 149 (.pick (.t 147) (.t 148) (.c (.bool false))),oI 150 (.mov (.t 149)),⟨(some 151),(.mov (.t 8)),(some (150,true)),[]⟩,oI 152 (.pick (.t 150) (.t 151) (.c (.bool false))),oI 153 (.mov (.t 152)),⟨(some 154),(.faddr 0 (.t 2)),(some (153,true)),[]⟩,⟨(some 155),(.ld none (.t 154)),(some (153,true)),[]⟩,⟨(some 156),(.faddr 0 (.t 3)),(some (153,true)),[]⟩,⟨(some 157),(.ld none (.t 156)),(some (153,true)),[]⟩,⟨(some 158),(.bin .eql (.t 155) (.t 157)),(some (153,true)),[]⟩,oI 159 (.pick (.t 153) (.t 158) (.c (.bool false))),oI 160 (.mov (.t 159)),⟨(some 161),(.faddr 2 (.t 2)),(some (160,true)),[]⟩,⟨(some 162),(.ld none (.t 161)),(some (160,true)),[]⟩,⟨(some 163),(.faddr 2 (.t 3)),(some (160,true)),[]⟩,⟨(some 164),(.ld none (.t 163)),(some (160,true)),[]⟩,⟨(some 165),(.bin .eql (.t 162) (.t 164)),(some (160,true)),[]⟩,oI 166 (.pick (.t 160) (.t 165) (.c (.bool false))),oI 167 (.mov (.t 166)),⟨(some 168),(.faddr 4 (.t 2)),(some (167,true)),[]⟩,⟨(some 169),(.ld none (.t 168)),(some (167,true)),[]⟩,⟨(some 170),(.faddr 4 (.t 3)),(some (167,true)),[]⟩,⟨(some 171),(.ld none (.t 170)),(some (167,true)),[]⟩,⟨(some 172),(.bin .eql (.t 169) (.t 171)),(some (167,true)),[]⟩,oI 173 (.pick (.t 167) (.t 172) (.c (.bool false))),oI 174 (.mov (.t 173)),⟨(some 175),(.faddr 5 (.t 2)),(some (174,true)),[]⟩,⟨(some 176),(.ld none (.t 175)),(some (174,true)),[]⟩,⟨(some 177),(.faddr 5 (.t 3)),(some (174,true)),[]⟩,⟨(some 178),(.ld none (.t 177)),(some (174,true)),[]⟩,⟨(some 179),(.bin .eql (.t 176) (.t 178)),(some (174,true)),[]⟩,oI 180 (.pick (.t 174) (.t 179) (.c (.bool false))),oI 181 (.mov (.t 180)),⟨(some 182),(.faddr 7 (.t 2)),(some (181,true)),[]⟩,⟨(some 183),(.ld none (.t 182)),(some (181,true)),[]⟩,⟨(some 184),(.faddr 7 (.t 3)),(some (181,true)),[]⟩,⟨(some 185),(.ld none (.t 184)),(some (181,true)),[]⟩,⟨(some 186),(.bin .eql (.t 183) (.t 185)),(some (181,true)),[]⟩,oI 187 (.pick (.t 181) (.t 186) (.c (.bool false))),oI 188 (.mov (.t 187)),⟨(some 189),(.faddr 13 (.t 2)),(some (188,true)),[]⟩,⟨(some 190),(.ld none (.t 189)),(some (188,true)),[]⟩,⟨(some 191),(.faddr 13 (.t 3)),(some (188,true)),[]⟩,⟨(some 192),(.ld none (.t 191)),(some (188,true)),[]⟩,⟨(some 193),(.bin .eql (.t 190) (.t 192)),(some (188,true)),[]⟩,oI 194 (.pick (.t 188) (.t 193) (.c (.bool false))),oI 195 (.mov (.t 194)),⟨(some 196),(.faddr 14 (.t 2)),(some (195,true)),[]⟩,⟨(some 197),(.ld none (.t 196)),(some (195,true)),[]⟩,⟨(some 198),(.faddr 14 (.t 3)),(some (195,true)),[]⟩,⟨(some 199),(.ld none (.t 198)),(some (195,true)),[]⟩,⟨(some 200),(.bin .eql (.t 197) (.t 199)),(some (195,true)),[]⟩,oI 201 (.pick (.t 195) (.t 200) (.c (.bool false))),oI 202 (.mov (.t 201)),⟨(some 203),(.faddr 22 (.t 2)),(some (202,true)),[]⟩,⟨(some 204),(.ld none (.t 203)),(some (202,true)),[]⟩,⟨(some 205),(.faddr 22 (.t 3)),(some (202,true)),[]⟩,⟨(some 206),(.ld none (.t 205)),(some (202,true)),[]⟩,⟨(some 207),(.bin .eql (.t 204) (.t 206)),(some (202,true)),[]⟩,oI 208 (.pick (.t 202) (.t 207) (.c (.bool false))),oI 4 (.mov (.t 208))] none [4]) .ret))))))
def Zqu:ZG:=⟨[(.tmp 4)],ZoL⟩
theorem ZKA:FC 35=some Zqu:=by kernel_rfl
theorem ZL6:Zqu.body=ZoL:=rfl
theorem ZBz:Zqu.res=[(.tmp 4)]:=rfl
def ZdK:Ze:=(.seq (.region [oI 2 (.mov (.c (.lst true [])))] none [0]) (.seq (.seq (.region [oI 3 (.mov (.t 0))] none [3]) (.block 0 (.seq (.region [oI 5 (.bin .eql (.t 3) (.c (.int .i64 2))),oI 4 (.mov (.t 5))] none [4,3]) (.cond (.t 4) (.seq (.region [oI 6 (.build [(.int .i64 0),(.int .i64 0)] [(0,1,(.c (.int .i64 0))),(1,1,(.c (.int .i64 0)))]),oI 7 (.build [(.int .i64 0),(.int .i64 0)] [(0,1,(.c (.int .i64 128))),(1,1,(.c (.int .i64 138)))]),oI 8 (.build [(.int .i64 0),(.int .i64 0)] [(0,1,(.c (.int .i64 140))),(1,1,(.c (.int .i64 140)))]),oI 9 (.build [(.int .i64 0),(.int .i64 0)] [(0,1,(.c (.int .i64 144))),(1,1,(.c (.int .i64 144)))]),oI 10 (.build [(.int .i64 0),(.int .i64 0)] [(0,1,(.c (.int .i64 149))),(1,1,(.c (.int .i64 149)))]),oI 11 (.build [(.int .i64 0),(.int .i64 0)] [(0,1,(.c (.int .i64 151))),(1,1,(.c (.int .i64 151)))]),oI 12 (.build [(.int .i64 0),(.int .i64 0)] [(0,1,(.c (.int .i64 153))),(1,1,(.c (.int .i64 157)))]),oI 13 (.build [(.int .i64 0),(.int .i64 0)] [(0,1,(.c (.int .i64 159))),(1,1,(.c (.int .i64 159)))]),oI 14 (.bslice false 2 8 (.agg [(.int .i64 0),(.int .i64 0)]) [(0,(.t 6)),(1,(.t 7)),(2,(.t 8)),(3,(.t 9)),(4,(.t 10)),(5,(.t 11)),(6,(.t 12)),(7,(.t 13))]),oI 2 (.mov (.t 14))] none [2]) .ret) (.seq (.seq (.region [oI 16 (.bin .eql (.t 3) (.c (.int .i64 4))),oI 15 (.mov (.t 16))] none [15,3]) (.cond (.t 15) .skip (.region [oI 17 (.bin .eql (.t 3) (.c (.int .i64 5))),oI 15 (.mov (.t 17))] none [15,3]))) (.cond (.t 15) (.seq (.region [oI 18 (.build [(.int .i64 0),(.int .i64 0)] [(0,1,(.c (.int .i64 0))),(1,1,(.c (.int .i64 0)))]),oI 19 (.build [(.int .i64 0),(.int .i64 0)] [(0,1,(.c (.int .i64 16))),(1,1,(.c (.int .i64 16)))]),oI 20 (.build [(.int .i64 0),(.int .i64 0)] [(0,1,(.c (.int .i64 128))),(1,1,(.c (.int .i64 128)))]),oI 21 (.build [(.int .i64 0),(.int .i64 0)] [(0,1,(.c (.int .i64 131))),(1,1,(.c (.int .i64 131)))]),oI 22 (.build [(.int .i64 0),(.int .i64 0)] [(0,1,(.c (.int .i64 135))),(1,1,(.c (.int .i64 135)))]),oI 23 (.build [(.int .i64 0),(.int .i64 0)] [(0,1,(.c (.int .i64 144))),(1,1,(.c (.int .i64 145)))]),oI 24 (.build [(.int .i64 0),(.int .i64 0)] [(0,1,(.c (.int .i64 151))),(1,1,(.c (.int .i64 151)))]),oI 25 (.build [(.int .i64 0),(.int .i64 0)] [(0,1,(.c (.int .i64 153))),(1,1,(.c (.int .i64 153)))]),oI 26 (.bslice false 2 8 (.agg [(.int .i64 0),(.int .i64 0)]) [(0,(.t 18)),(1,(.t 19)),(2,(.t 20)),(3,(.t 21)),(4,(.t 22)),(5,(.t 23)),(6,(.t 24)),(7,(.t 25))]),oI 2 (.mov (.t 26))] none [2]) .ret) (.seq (.seq (.region [oI 28 (.bin .eql (.t 3) (.c (.int .i64 6))),oI 27 (.mov (.t 28))] none [27,3]) (.cond (.t 27) .skip (.region [oI 29 (.bin .eql (.t 3) (.c (.int .i64 7))),oI 27 (.mov (.t 29))] none [27,3]))) (.cond (.t 27) (.seq (.region [oI 30 (.build [(.int .i64 0),(.int .i64 0)] [(0,1,(.c (.int .i64 0))),(1,1,(.c (.int .i64 0)))]),oI 31 (.build [(.int .i64 0),(.int .i64 0)] [(0,1,(.c (.int .i64 146))),(1,1,(.c (.int .i64 146)))]),oI 32 (.bslice false 2 2 (.agg [(.int .i64 0),(.int .i64 0)]) [(0,(.t 30)),(1,(.t 31))]),oI 2 (.mov (.t 32))] none [2]) .ret) (.seq (.region [oI 34 (.bin .eql (.t 3) (.c (.int .i64 9))),oI 33 (.mov (.t 34))] none [33,3]) (.cond (.t 33) (.seq (.region [oI 35 (.build [(.int .i64 0),(.int .i64 0)] [(0,1,(.c (.int .i64 0))),(1,1,(.c (.int .i64 2)))]),oI 36 (.build [(.int .i64 0),(.int .i64 0)] [(0,1,(.c (.int .i64 128))),(1,1,(.c (.int .i64 128)))]),oI 37 (.build [(.int .i64 0),(.int .i64 0)] [(0,1,(.c (.int .i64 131))),(1,1,(.c (.int .i64 131)))]),oI 38 (.build [(.int .i64 0),(.int .i64 0)] [(0,1,(.c (.int .i64 135))),(1,1,(.c (.int .i64 135)))]),oI 39 (.build [(.int .i64 0),(.int .i64 0)] [(0,1,(.c (.int .i64 143))),(1,1,(.c (.int .i64 143)))]),oI 40 (.build [(.int .i64 0),(.int .i64 0)] [(0,1,(.c (.int .i64 145))),(1,1,(.c (.int .i64 145)))]),oI 41 (.build [(.int .i64 0),(.int .i64 0)] [(0,1,(.c (.int .i64 151))),(1,1,(.c (.int .i64 151)))]),oI 42 (.build [(.int .i64 0),(.int .i64 0)] [(0,1,(.c (.int .i64 158))),(1,1,(.c (.int .i64 158)))]),oI 43 (.build [(.int .i64 0),(.int .i64 0)] [(0,1,(.c (.int .i64 161))),(1,1,(.c (.int .i64 162)))]),oI 44 (.bslice false 2 9 (.agg [(.int .i64 0),(.int .i64 0)]) [(0,(.t 35)),(1,(.t 36)),(2,(.t 37)),(3,(.t 38)),(4,(.t 39)),(5,(.t 40)),(6,(.t 41)),(7,(.t 42)),(8,(.t 43))]),oI 2 (.mov (.t 44))] none [2]) .ret) (.seq (.region [oI 46 (.bin .eql (.t 3) (.c (.int .i64 11))),oI 45 (.mov (.t 46))] none [45,3]) (.cond (.t 45) (.seq (.region [oI 47 (.build [(.int .i64 0),(.int .i64 0)] [(0,1,(.c (.int .i64 0))),(1,1,(.c (.int .i64 0)))]),oI 48 (.build [(.int .i64 0),(.int .i64 0)] [(0,1,(.c (.int .i64 17))),(1,1,(.c (.int .i64 17)))]),oI 49 (.build [(.int .i64 0),(.int .i64 0)] [(0,1,(.c (.int .i64 128))),(1,1,(.c (.int .i64 128)))]),oI 50 (.build [(.int .i64 0),(.int .i64 0)] [(0,1,(.c (.int .i64 131))),(1,1,(.c (.int .i64 131)))]),oI 51 (.build [(.int .i64 0),(.int .i64 0)] [(0,1,(.c (.int .i64 135))),(1,1,(.c (.int .i64 135)))]),oI 52 (.build [(.int .i64 0),(.int .i64 0)] [(0,1,(.c (.int .i64 143))),(1,1,(.c (.int .i64 143)))]),oI 53 (.build [(.int .i64 0),(.int .i64 0)] [(0,1,(.c (.int .i64 145))),(1,1,(.c (.int .i64 145)))]),oI 54 (.bslice false 2 7 (.agg [(.int .i64 0),(.int .i64 0)]) [(0,(.t 47)),(1,(.t 48)),(2,(.t 49)),(3,(.t 50)),(4,(.t 51)),(5,(.t 52)),(6,(.t 53))]),oI 2 (.mov (.t 54))] none [2]) .ret) (.seq (.region [oI 56 (.bin .eql (.t 3) (.c (.int .i64 14))),oI 55 (.mov (.t 56))] none [55,3]) (.cond (.t 55) (.seq (.region [oI 57 (.build [(.int .i64 0),(.int .i64 0)] [(0,1,(.c (.int .i64 0))),(1,1,(.c (.int .i64 0)))]),oI 58 (.build [(.int .i64 0),(.int .i64 0)] [(0,1,(.c (.int .i64 4))),(1,1,(.c (.int .i64 4)))]),oI 59 (.build [(.int .i64 0),(.int .i64 0)] [(0,1,(.c (.int .i64 128))),(1,1,(.c (.int .i64 131)))]),oI 60 (.build [(.int .i64 0),(.int .i64 0)] [(0,1,(.c (.int .i64 135))),(1,1,(.c (.int .i64 135)))]),oI 61 (.build [(.int .i64 0),(.int .i64 0)] [(0,1,(.c (.int .i64 137))),(1,1,(.c (.int .i64 137)))]),oI 62 (.build [(.int .i64 0),(.int .i64 0)] [(0,1,(.c (.int .i64 139))),(1,1,(.c (.int .i64 139)))]),oI 63 (.build [(.int .i64 0),(.int .i64 0)] [(0,1,(.c (.int .i64 141))),(1,1,(.c (.int .i64 144)))]),oI 64 (.build [(.int .i64 0),(.int .i64 0)] [(0,1,(.c (.int .i64 147))),(1,1,(.c (.int .i64 162)))]),oI 65 (.bslice false 2 8 (.agg [(.int .i64 0),(.int .i64 0)]) [(0,(.t 57)),(1,(.t 58)),(2,(.t 59)),(3,(.t 60)),(4,(.t 61)),(5,(.t 62)),(6,(.t 63)),(7,(.t 64))]),oI 2 (.mov (.t 65))] none [2]) .ret) (.seq (.region [oI 67 (.bin .eql (.t 3) (.c (.int .i64 15))),oI 66 (.mov (.t 67))] none [66]) (.cond (.t 66) (.seq (.region [oI 68 (.build [(.int .i64 0),(.int .i64 0)] [(0,1,(.c (.int .i64 0))),(1,1,(.c (.int .i64 0)))]),oI 69 (.build [(.int .i64 0),(.int .i64 0)] [(0,1,(.c (.int .i64 24))),(1,1,(.c (.int .i64 25)))]),oI 70 (.bslice false 2 2 (.agg [(.int .i64 0),(.int .i64 0)]) [(0,(.t 68)),(1,(.t 69))]),oI 2 (.mov (.t 70))] none [2]) .ret) .skip)))))))))))))))) (.seq (.region [oI 2 (.mov (.c (.lst true [])))] none [2]) .ret)))
def ZpZ:ZG:=⟨[(.tmp 2)],ZdK⟩
theorem ZeA:FC 87=some ZpZ:=by kernel_rfl
theorem Zey:ZpZ.body=ZdK:=rfl
theorem Ze4:ZpZ.res=[(.tmp 2)]:=rfl
def Zim:Ze:=(.seq (.region [oI 2 (.mov (.c (.int .u8 0)))] none [0]) (.seq (.seq (.region [oI 3 (.mov (.t 0))] none [3]) (.block 0 (.seq (.seq (.region [oI 5 (.bin .eql (.t 3) (.c (.int .i64 6))),oI 4 (.mov (.t 5))] none [4,3]) (.cond (.t 4) .skip (.seq (.region [oI 6 (.bin .eql (.t 3) (.c (.int .i64 8))),oI 4 (.mov (.t 6))] none [4,3]) (.cond (.t 4) .skip (.region [oI 7 (.bin .eql (.t 3) (.c (.int .i64 10))),oI 4 (.mov (.t 7))] none [4]))))) (.cond (.t 4) (.seq (.region [oI 2 (.mov (.c (.int .u8 2)))] none [2]) .ret) .skip)))) (.seq (.region [oI 2 (.mov (.c (.int .u8 0)))] none [2]) .ret)))
def ZqT:ZG:=⟨[(.tmp 2)],Zim⟩
theorem Zms:FC 79=some ZqT:=by kernel_rfl
theorem ZlC:ZqT.body=Zim:=rfl
theorem Zl7:ZqT.res=[(.tmp 2)]:=rfl
def ZpU:Ze:=(.seq (.region [oI 4 (.mov (.c (.int .i64 0)))] none [1,0]) (.seq (.seq (.region [oI 5 (.mov (.t 0))] none [5,1]) (.cond (.t 5) (.seq (.region [oI 6 (.mov (.t 1)),oI 4 (.mov (.t 6))] none [4]) .ret) .skip)) (.seq (.region [oI 4 (.mov (.c (.int .i64 0)))] none [4]) .ret)))
def ZpX:ZG:=⟨[(.tmp 4)],ZpU⟩
theorem ZIb:FC 81=some ZpX:=by kernel_rfl
theorem ZzS:ZpX.body=ZpU:=rfl
theorem ZLd:ZpX.res=[(.tmp 4)]:=rfl
def Zla:Ze:=(.seq (.region [oI 4 (.mov (.t 0)),oI 5 (.un .not (.t 4))] none [5,1]) (.cond (.t 5) (.region [oI 6 (.mov (.t 1)),oI 7 (.mki 61 (.t 6)),oN (.panic (.t 7))] none []) .skip))
def Zot:ZG:=⟨[],Zla⟩
theorem ZsE:FC 113=some Zot:=by kernel_rfl
theorem Zu6:Zot.body=Zla:=rfl
theorem ZJr:Zot.res=[]:=rfl
end
section
def ZB (c:Int):AVal:=.iface 61 (.int .i64 c)
theorem Zbe (c:Int) (σ:Za) (sq own:Nat):Zo E BY σ sq 113 own true [.bool true,.int .i64 c]=some (.tup [],σ,{}):=by
 have h:E 113 [.bool true,.int .i64 c] []=some (.tup [],[]):=by
  rw [Zh (by rfl) ZsE]
  simp -implicitDefEqProofs only [EQA,Zt,Nat.reduceLT,Nat.reduceEqDiff,unA,reduceCtorEq,↓reduceIte,Zd,Zu6,Zla,ZJr,oI,oN]
 exact Zb8 (h) (by kernel_rfl) (by simp -implicitDefEqProofs only [ZcI,Zbo,eq_self,eq_self]) (by simp -implicitDefEqProofs only [ZK,Zbo,eq_self,eq_self]) rfl (fun _=>rfl) _ _ _ _
theorem Zby (c:Int) (σ:Za) (sq own:Nat):Zo E BY σ sq 113 own true [.bool false,.int .i64 c]=some (.pan (ZB c),σ,{}):=by
 have h:E 113 [.bool false,.int .i64 c] []=some (.pan (ZB c),[]):=by
  rw [Zh (by rfl) ZsE]
  simp -implicitDefEqProofs only [EQA,Zt,Nat.reduceLT,Nat.reduceEqDiff,unA,reduceCtorEq,↓reduceIte,Zu6,Zla,oI,oN,ZB]
 exact Zb8 (h) (by kernel_rfl) (by simp -implicitDefEqProofs only [ZcI,Zbo,eq_self]) (by simp -implicitDefEqProofs only [ZK,Zbo,eq_self]) rfl (fun _=>rfl) _ _ _ _
theorem ZaA {xs ys:List AVal} (h:Zd xs=true) (h':Zd ys=true):Zd (xs++ys)=true:=by
 induction xs with
 | nil=>exact h'
 | cons x xs ih =>
  simp only [Zd,Bool.and_eq_true,List.cons_append] at h ⊢
  exact ⟨h.1,ih h.2⟩
section
variable (P:List AVal) (hP:P.length=26) (hN:Zd P=true)
include hP
theorem Zaa (L:AVal):(P++[L]).length=27:=by simp [hP]
theorem Zat (L:AVal):(P++[L])[26]?=some L:=by
 rw [List.getElem?_append_right (by omega)];simp [hP]
theorem Zfd (L:AVal):(P++[L]).take 26=P:=by
 rw [List.take_append_of_le_length (by omega),List.take_of_length_le (by omega)]
theorem Zgf (L:AVal):(P++[L]).drop 27=[]:=List.drop_eq_nil_of_le (by simp [hP])
include hN
theorem Zy (f:Bool) (xs:List AVal):Zd (P++[.lst f xs])=true:=ZaA hN rfl
theorem Zz1 (l:Zb) (n:Nat) (hn:n<=l.length) (hl:l.length<=140737488355328):E 115 [.ref 0 0,.int .i64 (n:Nat)] [.var (P++[.lst false (l.map Zc)])]=some (.int .i64 (Zhl (l.take n)),[.var (P++[.lst false ((l.drop n).map Zc)])]):=by
 have h1:(l.length:Int)>=((n:Nat):Int):=by omega
 have s1:=fun σ kk=>Zje σ 1 l Zc kk (n:Int) (by omega) (by omega)
 have s2:=fun σ kk=>Zfy σ l kk (n:Int) (by omega) (by omega)
 have e2:((n:Int)).toNat=n:=rfl
 rw [e2] at s1 s2
 have ht:(l.take n).length<=9223372036854775807:=by simp;omega
 have hG:=fun σ sq own f=>Zj0 σ sq own (l.take n) ht f
 have a1:=Zaa P hP
 have a2:=Zat P hP
 have a3:=Zfd P hP
 have a4:=Zgf P hP
 have m1:=Zbe
 rw [Zh (by rfl) Zk8]
 simp -implicitDefEqProofs only [EQA,ZK,Nat.reduceAdd,Nat.reduceLT,Nat.reduceLeDiff,Nat.reduceEqDiff,reduceCtorEq,↓reduceIte,Zkn,Zih,ZvY,oI,oN,h1,s1,s2,hG,a1,a2,a3,a4,m1,Zhl]
 exact Z1 rfl (Zy P hP hN _ _)
theorem ZCk (l:Zb) (n:Nat) (hn:l.length < n) (hn':n<=9223372036854775807):E 115 [.ref 0 0,.int .i64 (n:Nat)] [.var (P++[.lst false (l.map Zc)])]=some (.pan (ZB 129),[.var (P++[.lst false (l.map Zc)])]):=by
 have h1:¬(l.length:Int)>=((n:Nat):Int):=by omega
 have a2:=Zat P hP
 have m1:=Zby
 rw [Zh (by rfl) Zk8]
 simp -implicitDefEqProofs only [EQA,Nat.reduceLT,Nat.reduceEqDiff,reduceCtorEq,↓reduceIte,Zkn,Zih,oI,oN,h1,a2,m1]
 exact Z1 rfl (Zy P hP hN _ _)
theorem ZBc (l:Zb) (hl:l.length<=140737488355328) (h:(Zaf l).2.2=0):E 124 [.ref 0 0] [.var (P++[.lst false (l.map Zc)])]=some (.str (Zaf l).1,[.var (P++[.lst false ((l.drop (Zaf l).2.1).map Zc)])]):=by
 have hG:=fun σ sq own f=>Zhv σ sq own f l hl
 have hu:=(Zic l).1
 unfold gtT at hG
 have s2:=fun σ kk=>Zfy σ l kk ((Zaf l).2.1:Int) (by omega) (by omega)
 have e2:(((Zaf l).2.1:Nat):Int).toNat=(Zaf l).2.1:=rfl
 rw [e2] at s2
 rw [h] at hG
 have a1:=Zaa P hP
 have a2:=Zat P hP
 have a3:=Zfd P hP
 have a4:=Zgf P hP
 have m1:=Zbe
 rw [Zh (by rfl) Zkl]
 simp -implicitDefEqProofs only [EQA,ZK,Zt,Nat.reduceAdd,Nat.reduceLT,Nat.reduceLeDiff,Nat.reduceEqDiff,reduceCtorEq,↓reduceIte,Zll,Zib,ZvO,oI,oN,s2,hG,a1,a2,a3,a4,m1]
 exact Z1 rfl (Zy P hP hN _ _)
theorem ZKJ (l:Zb) (hl:l.length<=140737488355328) (h:(Zaf l).2.2≠0):E 124 [.ref 0 0] [.var (P++[.lst false (l.map Zc)])]=some (.pan (ZB 129),[.var (P++[.lst false (l.map Zc)])]):=by
 have hG:=fun σ sq own f=>Zhv σ sq own f l hl
 unfold gtT at hG
 have h0:((Zaf l).2.2 == 0)=false:=by simpa using h
 have h1:=h
 have a2:=Zat P hP
 have m1:=Zby
 rw [Zh (by rfl) Zkl]
 simp -implicitDefEqProofs only [EQA,Nat.reduceLT,Nat.reduceEqDiff,reduceCtorEq,↓reduceIte,Zll,Zib,oI,oN,hG,a2,h0,m1]
 exact Z1 rfl (Zy P hP hN _ _)
theorem ZJP (l:Zb) (hl:l.length<=140737488355328) (h:(ZaB l).2.2=0):E 148 [.ref 0 0] [.var (P++[.lst false (l.map Zc)])]=some (.lst false ((ZaB l).1.map Zc),[.var (P++[.lst false ((l.drop (ZaB l).2.1).map Zc)])]):=by
 have hG:=fun σ sq own f=>Zk5 σ sq own f l hl
 have hu:=(ZmR l).1
 unfold gdT at hG
 have s2:=fun σ kk=>Zfy σ l kk ((ZaB l).2.1:Int) (by omega) (by omega)
 have e2:(((ZaB l).2.1:Nat):Int).toNat=(ZaB l).2.1:=rfl
 rw [e2] at s2
 rw [h] at hG
 have a1:=Zaa P hP
 have a2:=Zat P hP
 have a3:=Zfd P hP
 have a4:=Zgf P hP
 have m1:=Zbe
 rw [Zh (by rfl) ZvS]
 simp -implicitDefEqProofs only [EQA,ZK,Zt,Nat.reduceAdd,Nat.reduceLT,Nat.reduceLeDiff,Nat.reduceEqDiff,reduceCtorEq,↓reduceIte,Ztd,ZlF,ZJU,oI,oN,s2,hG,a1,a2,a3,a4,m1]
 exact Z1 rfl (Zy P hP hN _ _)
theorem ZIa (l:Zb) (hl:l.length<=140737488355328) (h:(ZaB l).2.2≠0):E 148 [.ref 0 0] [.var (P++[.lst false (l.map Zc)])]=some (.pan (ZB 129),[.var (P++[.lst false (l.map Zc)])]):=by
 have hG:=fun σ sq own f=>Zk5 σ sq own f l hl
 unfold gdT at hG
 have h0:((ZaB l).2.2 == 0)=false:=by simpa using h
 have h1:=h
 have a2:=Zat P hP
 have m1:=Zby
 rw [Zh (by rfl) ZvS]
 simp -implicitDefEqProofs only [EQA,Nat.reduceLT,Nat.reduceEqDiff,reduceCtorEq,↓reduceIte,Ztd,ZlF,oI,oN,hG,a2,h0,m1]
 exact Z1 rfl (Zy P hP hN _ _)
theorem Zyh (w:Int) (l:Zb) (hl:l.length<=140737488355328) (h:(Z0 w l).2.2=0) (hu:(Z0 w l).2.1<=l.length):E 117 [.ref 0 0,.int .i64 w] [.var (P++[.lst false (l.map Zc)])]=some (.lst false ((Z0 w l).1.map Zg),[.var (P++[.lst false ((l.drop (Z0 w l).2.1).map Zc)])]):=by
 have hG:=fun σ sq own f=>ZlY σ sq own f w l hl
 have s2:=fun σ kk=>Zfy σ l kk ((Z0 w l).2.1:Int) (by omega) (by omega)
 have e2:(((Z0 w l).2.1:Nat):Int).toNat=(Z0 w l).2.1:=rfl
 rw [e2] at s2
 rw [h] at hG
 have a1:=Zaa P hP
 have a2:=Zat P hP
 have a3:=Zfd P hP
 have a4:=Zgf P hP
 have m1:=Zbe
 generalize Z0 w l=R at *
 rw [Zh (by rfl) Zsm]
 simp -implicitDefEqProofs only [EQA,ZK,Zt,Nat.reduceAdd,Nat.reduceLT,Nat.reduceLeDiff,Nat.reduceEqDiff,reduceCtorEq,↓reduceIte,ZuD,Zku,ZDb,oI,oN,s2,hG,a1,a2,a3,a4,m1]
 exact Z1 rfl (Zy P hP hN _ _)
theorem ZNz (w:Int) (l:Zb) (hl:l.length<=140737488355328) (h:(Z0 w l).2.2≠0):E 117 [.ref 0 0,.int .i64 w] [.var (P++[.lst false (l.map Zc)])]=some (.pan (ZB (Z0 w l).2.2),[.var (P++[.lst false (l.map Zc)])]):=by
 have hG:=fun σ sq own f=>ZlY σ sq own f w l hl
 have h0:((Z0 w l).2.2 == 0)=false:=by simpa using h
 have h1:=h
 have a2:=Zat P hP
 have m1:=Zby
 generalize Z0 w l=R at *
 rw [Zh (by rfl) Zsm]
 simp -implicitDefEqProofs only [EQA,Nat.reduceLT,Nat.reduceEqDiff,reduceCtorEq,↓reduceIte,ZuD,Zku,oI,oN,hG,a2,h0,m1]
 exact Z1 rfl (Zy P hP hN _ _)
end
end
section
theorem ZqJ {O:ZU} {bf:Nat->Bool} {σ:Za} {t sq f own:Nat} {view:Bool} {args vs vs':List AVal} {cs cs':List AVal} {r:AVal} (hs:σ[t]?=some (.var cs)) (hc:Zd cs=true) (hc':Zd cs'=true) (hb:bf f=false) (hff:ZaX σ sq own=true)
  (hsh:showAs σ args=some (vs,[])) (href:Zp vs=[t]) (hren:∀ ρ:Rho,ρ t 0=some (0,0)->Zf ρ vs=vs') (hn:ZQ r=true) (hv:viewR [.var cs'] r=some (r,[]))
  (h:O f vs' [.var cs]=some (r,[.var cs'])):Zo O bf σ sq f own view args=some (r,σ.set t (.var cs'),{ any:=true,upd:=[(t,cs')] }):=by
 have htl:t < σ.length:=by
  rcases Nat.lt_or_ge t σ.length with h | h
  ·exact h
  ·rw [List.getElem?_eq_none h] at hs;cases hs
 have hup:Za1 (σ.set t (.var cs')) [t]=[(t,cs')]:=by
  simp only [Za1,List.getElem?_set,if_pos htl,if_true]
 have hd:σ.getD t .free=.var cs:=by simp [List.getD_eq_getElem?_getD,hs]
 have hf0:Zq σ []=σ:=rfl
 unfold Zo ZbO
 rw [hb]
 simp only [Bool.false_eq_true,if_false,hsh,hf0,href,Zfr hs hc]
 unfold Zbz
 have hall:([t].all fun t=>okB (σ.getD t .free))=true:=by simp [List.all_cons,List.all_nil,hs,okB]
 rw [if_pos hall]
 have hρ:Zj σ 0 [t] t 0=some (0,0):=by simp [Zj,ZJ,hs,Zl,ZE]
 have hheap:Zr σ 0 [t] (Zj σ 0 [t]) [t] 0=[.var cs]:=by
  simp only [Zr,hd,Zw,(ZaW _ cs hc).1]
 rw [hren _ hρ,hheap,h]
 have hask:Zab view [t].length (some (r,[.var cs']))=some (r,[.var cs']):=by
  unfold Zab
  split
  ·have hnp:∀ x,r≠.pan x:=by rintro x rfl;simp [viewR,ZP,ZL] at hv
   rw [show Zbs [t].length (some (r,[.var cs']))=(match viewR [.var cs'] r with
    | some (r',ts)=>match gcA [t].length [r'] (Zq [.var cs'] ts) with
     | ([r''],σ')=>some (r'',σ')
     | _=>none
    | none=>none) from by cases r <;> first | rfl | exact absurd rfl (hnp _)]
   rw [hv]
   simp only [List.length_cons,List.length_nil,Nat.zero_add,show Zq [ZN.var cs'] []=[.var cs'] from rfl,Zls hn hc']
  ·rfl
 rw [hask]
 have hk:Za0 σ [t] [.var cs'] 0=true:=by
  simp [Za0,okB,hs,Zce,Zl]
 simp only [Zav,List.isEmpty_cons,Bool.false_eq_true,if_false,List.length_cons,List.length_nil,Nat.zero_add,Nat.le_add_right,Nat.le_refl,decide_true,hk,hff,Bool.and_self,if_true,Za3,ZaF,List.getD_cons_zero,Zw,(Za7 _ r hn).1,(ZaW _ cs' hc').1,hup]
def ZfW (k:Int):List (Int×Int) :=
 if k=2 then [(0,0),(128,138),(140,140),(144,144),(149,149),(151,151),(153,157),(159,159)] else
 if k=4 then [(0,0),(16,16),(128,128),(131,131),(135,135),(144,145),(151,151),(153,153)] else
 if k=5 then [(0,0),(16,16),(128,128),(131,131),(135,135),(144,145),(151,151),(153,153)] else
 if k=6 then [(0,0),(146,146)] else
 if k=7 then [(0,0),(146,146)] else
 if k=9 then [(0,2),(128,128),(131,131),(135,135),(143,143),(145,145),(151,151),(158,158),(161,162)] else
 if k=11 then [(0,0),(17,17),(128,128),(131,131),(135,135),(143,143),(145,145)] else
 if k=14 then [(0,0),(4,4),(128,131),(135,135),(137,137),(139,139),(141,144),(147,162)] else
 if k=15 then [(0,0),(24,25)] else
 []
def ZdV (s:Int×Int):AVal:=.agg [.int .i64 s.1,.int .i64 s.2]
def Zgg (c:Int) (s:Int×Int):Bool:=decide (c>=s.1) && decide (c<=s.2)
def Zkp (k c:Int):Bool:=(ZfW k).any (Zgg c)
theorem ZLX (k:Int):(ZfW k).length<=9:=by
 unfold ZfW
 repeat' split
 all_goals simp
theorem ZEb (k:Int):∃ f,E 87 [.int .i64 k] []=some (.lst f ((ZfW k).map ZdV),[]):=by
 refine ⟨true,?_⟩
 unfold ZfW
 by_cases h2:k=2
 ·subst h2
  rw [Zh (by rfl) ZeA]
  simp -implicitDefEqProofs only [EQA,Zt,Nat.reduceAdd,Nat.reduceLT,Nat.reduceLeDiff,Nat.reduceEqDiff,reduceCtorEq,↓reduceIte,Zey,ZdK,Ze4,oI,Zaj,AVal.cells,Zbk,viewAs,ZP,ZL,Zas,Zq]
  rfl
 by_cases h4:k=4
 ·subst h4
  rw [Zh (by rfl) ZeA]
  simp -implicitDefEqProofs only [EQA,Zt,ZdB,Nat.reduceAdd,Nat.reduceLT,Nat.reduceLeDiff,Nat.reduceEqDiff,reduceCtorEq,ite_self,↓reduceIte,Zey,ZdK,Ze4,oI,Int.reduceBEq,Zaj,AVal.cells,Zbk,viewAs,ZP,ZL,Zas,Zq]
  rfl
 by_cases h5:k=5
 ·subst h5
  rw [Zh (by rfl) ZeA]
  simp -implicitDefEqProofs only [EQA,Zt,ZdB,Nat.reduceAdd,Nat.reduceLT,Nat.reduceLeDiff,Nat.reduceEqDiff,reduceCtorEq,ite_self,↓reduceIte,Zey,ZdK,Ze4,oI,Int.reduceBEq,Zaj,AVal.cells,Zbk,viewAs,ZP,ZL,Zas,Zq]
  rfl
 by_cases h6:k=6
 ·subst h6
  rw [Zh (by rfl) ZeA]
  simp -implicitDefEqProofs only [EQA,Zt,ZdB,Nat.reduceAdd,Nat.reduceLT,Nat.reduceLeDiff,Nat.reduceEqDiff,reduceCtorEq,ite_self,↓reduceIte,Zey,ZdK,Ze4,oI,Int.reduceBEq,Zaj,AVal.cells,Zbk,viewAs,ZP,ZL,Zas,Zq]
  rfl
 by_cases h7:k=7
 ·subst h7
  rw [Zh (by rfl) ZeA]
  simp -implicitDefEqProofs only [EQA,Zt,ZdB,Nat.reduceAdd,Nat.reduceLT,Nat.reduceLeDiff,Nat.reduceEqDiff,reduceCtorEq,ite_self,↓reduceIte,Zey,ZdK,Ze4,oI,Int.reduceBEq,Zaj,AVal.cells,Zbk,viewAs,ZP,ZL,Zas,Zq]
  rfl
 by_cases h9:k=9
 ·subst h9
  rw [Zh (by rfl) ZeA]
  simp -implicitDefEqProofs only [EQA,Zt,ZdB,Nat.reduceAdd,Nat.reduceLT,Nat.reduceLeDiff,Nat.reduceEqDiff,reduceCtorEq,↓reduceIte,Zey,ZdK,Ze4,oI,Int.reduceBEq,Zaj,AVal.cells,Zbk,viewAs,ZP,ZL,Zas,Zq]
  rfl
 by_cases h11:k=11
 ·subst h11
  rw [Zh (by rfl) ZeA]
  simp -implicitDefEqProofs only [EQA,Zt,ZdB,Nat.reduceAdd,Nat.reduceLT,Nat.reduceLeDiff,Nat.reduceEqDiff,reduceCtorEq,↓reduceIte,Zey,ZdK,Ze4,oI,Int.reduceBEq,Zaj,AVal.cells,Zbk,viewAs,ZP,ZL,Zas,Zq]
  rfl
 by_cases h14:k=14
 ·subst h14
  rw [Zh (by rfl) ZeA]
  simp -implicitDefEqProofs only [EQA,Zt,ZdB,Nat.reduceAdd,Nat.reduceLT,Nat.reduceLeDiff,Nat.reduceEqDiff,reduceCtorEq,ite_self,↓reduceIte,Zey,ZdK,Ze4,oI,Int.reduceBEq,Zaj,AVal.cells,Zbk,viewAs,ZP,ZL,Zas,Zq]
  rfl
 by_cases h15:k=15
 ·subst h15
  rw [Zh (by rfl) ZeA]
  simp -implicitDefEqProofs only [EQA,Zt,ZdB,Nat.reduceAdd,Nat.reduceLT,Nat.reduceLeDiff,Nat.reduceEqDiff,reduceCtorEq,ite_self,↓reduceIte,Zey,ZdK,Ze4,oI,Int.reduceBEq,Zaj,AVal.cells,Zbk,viewAs,ZP,ZL,Zas,Zq]
  rfl
 have b2:(k == 2)=false:=by simpa using h2
 have b4:(k == 4)=false:=by simpa using h4
 have b5:(k == 5)=false:=by simpa using h5
 have b6:(k == 6)=false:=by simpa using h6
 have b7:(k == 7)=false:=by simpa using h7
 have b9:(k == 9)=false:=by simpa using h9
 have b11:(k == 11)=false:=by simpa using h11
 have b14:(k == 14)=false:=by simpa using h14
 have b15:(k == 15)=false:=by simpa using h15
 rw [if_neg h2,if_neg h4,if_neg h5,if_neg h6,if_neg h7,if_neg h9,if_neg h11,if_neg h14,if_neg h15]
 rw [Zh (by rfl) ZeA]
 simp -implicitDefEqProofs only [EQA,Zt,Nat.reduceLT,Nat.reduceEqDiff,reduceCtorEq,↓reduceIte,Zey,ZdK,Ze4,oI,b2,b4,b5,b6,b7,b9,b11,b14,b15]
theorem ZCB (c:Int) (s:Int×Int):E 88 [.agg [.int .i64 s.1,.int .i64 s.2],.ref 0 0] [.var [.int .i64 c]]=some (.bool (Zgg c s),[.var [.int .i64 c]]):=by
 unfold Zgg
 rw [Zh (by rfl) Zyp]
 by_cases h:c>=s.1
 ·simp -implicitDefEqProofs only [EQA,ZK,ZV,Nat.reduceAdd,Nat.reduceLT,Nat.reduceEqDiff,Nat.reduceBEq,ZD,unG,reduceCtorEq,↓reduceIte,Zd,Zsw,ZlB,ZrM,oI,h]
  try (simp [Z6,gcA,Zv,Zu,Zp,ZS,Zj,Zr,ZJ,Zl,ZE,Zf,Zm,Zw,ZC,List.range_succ])
 ·simp -implicitDefEqProofs only [EQA,ZK,ZV,Nat.reduceAdd,Nat.reduceLT,Nat.reduceEqDiff,Nat.reduceBEq,ZD,Zam,reduceCtorEq,↓reduceIte,Zd,Zsw,ZlB,ZrM,oI,h]
  try (simp [Z6,gcA,Zv,Zu,Zp,ZS,Zj,Zr,ZJ,Zl,ZE,Zf,Zm,Zw,ZC,List.range_succ])
theorem ZHR (k:Int) (σ:Za) (sq own:Nat):Zo E BY σ sq 87 own true [.int .i64 k]=some (.lst false ((ZfW k).map ZdV),σ,{}):=by
 obtain ⟨f,h⟩:=ZEb k
 exact ZbK h (by kernel_rfl) rfl rfl rfl (fun _=>rfl) _ _ _
theorem ZIZ (σ:Za) (sq t own:Nat) (view:Bool) (c:Int) (s:Int×Int) (hs:σ[t]?=some (.var [.int .i64 c])) (hff:ZaX σ sq own=true):Zo E BY σ sq 88 own view [.agg [.int .i64 s.1,.int .i64 s.2],.ref t 0]=some (.bool (Zgg c s),σ.set t (.var [.int .i64 c]),{ any:=true,upd:=[(t,[.int .i64 c])] }) :=
 ZqJ hs rfl rfl (by kernel_rfl) hff rfl rfl (fun ρ h=>by simp only [Zf,Zm,h]) rfl rfl (ZCB c s)
theorem Zwf (L:List (Int×Int)) (c:Int) (hL:L.length<=9223372036854775807):∀ (r:List (Int×Int)) (i:Nat),L.drop i=r ->
  ∃ z,Zkh 1 [(8,.int .i64 i),(7,.int .i64 L.length),(1,.fn 88 [.ref 0 0]),(0,.lst false (L.map ZdV))] [.var [.int .i64 c]]=some (.int .i64 z,[.var [.int .i64 c]])/\decide (z>=0)=r.any (Zgg c)
 | [],i,h=>by
  have h1:=Zcv h
  refine ⟨-1,?_,by simp⟩
  unfold Zkh
  rw [Z2]
  simp -implicitDefEqProofs only [EQA,ZV,Nat.reduceLT,Nat.reduceEqDiff,reduceCtorEq,↓reduceIte,Zd,ZuT,ZIM,Zqp,ZqV,Zi6,oI,h1]
 | x::r,i,h=>by
  obtain ⟨z,ih,hz⟩:=Zwf L c hL r (i+1) (Z4 h).2.1
  have h1:(i:Int) < L.length:=by have:=(Z4 h).2.2;omega
  have e1:=iad (Z4 h).1 ZdV (k:=2) rfl
  have e3:=ZcL h1 hL
  have hm:x ∈ L:=List.mem_of_getElem? (Z4 h).1
  have hc:=fun σ sq t own view hs hff=>ZIZ σ sq t own view c x hs hff
  unfold Zkh at ih ⊢
  cases hb:Zgg c x
  ·refine ⟨z,?_,by rw [hz];simp [hb]⟩
   rw [Z2]
   simp -implicitDefEqProofs only [EQA,ZK,ZV,Nat.reduceAdd,Nat.reduceLT,Nat.reduceLeDiff,Nat.reduceEqDiff,Nat.reduceBEq,reduceCtorEq,↓reduceIte,gcT,gcA,Zv,Zu,Zj,Zr,ZJ,Zl,ZE,Zw,ZC,List.range_succ,ZqV,Zi6,oI,h1,e1,e3,hc,hb,ZaX,ZdV]
   exact ih
  ·refine ⟨i,?_,by simp [hb]⟩
   rw [Z2]
   simp -implicitDefEqProofs only [EQA,ZK,ZV,Nat.reduceAdd,Nat.reduceLT,Nat.reduceLeDiff,Nat.reduceEqDiff,Nat.reduceBEq,reduceCtorEq,↓reduceIte,Zd,ZuT,ZqV,Zi6,oI,h1,e1,hc,hb,ZaX,ZdV]
theorem ZDU (L:List (Int×Int)) (c:Int) (hL:L.length<=9223372036854775807) :
  ∃ z,E 133 [.lst false (L.map ZdV),.fn 88 [.ref 0 0]] [.var [.int .i64 c]]=some (.int .i64 z,[.var [.int .i64 c]])/\decide (z>=0)=L.any (Zgg c):=by
 obtain ⟨z,h,hz⟩:=Zwf L c hL L 0 rfl
 refine ⟨z,?_,hz⟩
 rw [Zh (by rfl) ZyO]
 have z0:((0:Nat):Int)=0:=rfl
 rw [z0] at h
 unfold Zkh at h
 simp -implicitDefEqProofs only [EQA,ZV,Nat.reduceLT,Nat.reduceEqDiff,reduceCtorEq,↓reduceIte,gcT,gcA,Zv,Zu,Zj,Zr,ZJ,Zl,ZE,Zw,ZC,List.range_succ,ZKs,Zm5,oI,h]
theorem Zy1 (L:List (Int×Int)) (c:Int) (hL:L.length<=9223372036854775807) :
  E 86 [.lst false (L.map ZdV),.fn 88 [.ref 0 0]] [.var [.int .i64 c]]=some (.bool (L.any (Zgg c)),[.var [.int .i64 c]]):=by
 obtain ⟨z,h,hz⟩:=ZDU L c hL
 rw [Zh (by rfl) ZDO]
 have hc:=fun (σ:Za) sq t view hs=>ZqJ (O:=E) (bf:=BY) (σ:=σ) (t:=t) (sq:=sq) (own:=0) (view:=view) (f:=133) (args:=[.lst false (L.map ZdV),.fn 88 [.ref t 0]]) (vs:=[.lst false (L.map ZdV),.fn 88 [.ref t 0]]) hs rfl rfl (by kernel_rfl) rfl rfl rfl (fun ρ h=>by simp only [Zf,Zm,h]) rfl rfl h
 simp -implicitDefEqProofs only [EQA,ZV,Nat.reduceLT,Nat.reduceEqDiff,reduceCtorEq,↓reduceIte,Zd,ZxO,Zoz,ZyC,oI,hc,hz]
theorem ZEz (k c:Int):E 41 [.int .i64 k,.int .i64 c] []=some (.bool (Zkp k c),[]):=by
 have h:=Zy1 (ZfW k) c (by have:=ZLX k;omega)
 have hC:=fun σ sq own=>ZHR k σ sq own
 unfold Zkp
 generalize ZfW k=L at *
 rw [Zh (by rfl) ZFJ]
 have hc:=fun (σ:Za) sq t view hs=>ZqJ (O:=E) (bf:=BY) (σ:=σ) (t:=t) (sq:=sq) (own:=0) (view:=view) (f:=86) (args:=[.lst false (L.map ZdV),.fn 88 [.ref t 0]]) (vs:=[.lst false (L.map ZdV),.fn 88 [.ref t 0]]) hs rfl rfl (by kernel_rfl) rfl rfl rfl (fun ρ h=>by simp only [Zf,Zm,h]) rfl rfl h
 simp -implicitDefEqProofs only [EQA,ZK,Nat.reduceLT,Nat.reduceEqDiff,Nat.reduceBEq,reduceCtorEq,↓reduceIte,ZER,Zpr,ZFy,oI,hC,hc]
theorem ZiL (k c:Int) (σ:Za) (sq own:Nat):Zo E BY σ sq 41 own true [.int .i64 k,.int .i64 c]=some (.bool (Zkp k c),σ,{}) :=
 Zb8 (ZEz k c) (by kernel_rfl) (by simp -implicitDefEqProofs only [ZcI,Zbo,eq_self,eq_self]) (by simp -implicitDefEqProofs only [ZK,Zbo,eq_self,eq_self]) rfl (fun _=>rfl) _ _ _ _
end
section
abbrev RK (α:Type):=Except Int (α×Zb)
def ZaG (n:Nat) (l:Zb):RK Int:=if l.length < n then .error 129 else .ok (Zhl (l.take n),l.drop n)
def Zap (l:Zb):RK Zb:=if (Zaf l).2.2=0 then .ok ((Zaf l).1,l.drop (Zaf l).2.1) else .error 129
def Zdh (l:Zb):RK Zb:=if (ZaB l).2.2=0 then .ok ((ZaB l).1,l.drop (ZaB l).2.1) else .error 129
def ZbC (w:Int) (l:Zb):RK (List Zn):=if (Z0 w l).2.2=0 then .ok ((Z0 w l).1,l.drop (Z0 w l).2.1) else .error (Z0 w l).2.2
def idK (l:Zb):RK Int:=match ZaG 2 l with
 | .ok (n,r)=>if n=0 then .error 130 else .ok (n,r)
 | .error c=>.error c
def ZaK (k:Int) (l:Zb):RK Int:=match ZaG 1 l with
 | .ok (n,r)=>if Zkp k n=true then .ok (n,r) else .error 130
 | .error c=>.error c
theorem ZT {v:AVal} (hv:ZQ v=true):∀ {P:List AVal} (k:Nat),Zd P=true->Zd (P.set k v)=true
 | [],_,_=>rfl
 | x::P,0,h=>by
  simp only [Zd,Bool.and_eq_true,List.set_cons_zero] at h ⊢
  exact ⟨hv,h.2⟩
 | x::P,k+1,h=>by
  simp only [Zd,Bool.and_eq_true,List.set_cons_succ] at h ⊢
  exact ⟨h.1,ZT hv k h.2⟩
theorem Zb5 (f:Bool) (xs:List AVal):ZQ (.lst f xs)=true:=rfl
section
variable (P:List AVal) (hP:P.length=26) (hN:Zd P=true)
include hP
theorem Zaw (k k':Nat) (hk:k < 26) (hk':k'=k+1) (L v:AVal):List.take k (P++[L])++[v]++List.drop k' (P++[L])=P.set k v++[L]:=by
 subst hk'
 rw [List.take_append_of_le_length (by omega),List.drop_append_of_le_length (by omega),<-List.append_assoc]
 congr 1
 rw [List.set_eq_take_append_cons_drop,if_pos (by omega)]
 simp
theorem Zad (k:Nat) (hk:k < 26) (L:AVal):(P++[L])[k]?=P[k]?:=List.getElem?_append_left (by omega)
theorem ZhQ (k:Nat) (hk:k < 26) (L v:AVal):(P.set k v++[L])[k]?=some v:=by
 rw [List.getElem?_append_left (by simp;omega),List.getElem?_set_self (by omega)]
include hN
section
variable (l:Zb) (hl:l.length<=140737488355328) (σ:Za) (t sq:Nat) (hs:σ[t]?=some (.var (P++[.lst false (l.map Zc)])))
include hl hs
theorem ZcZ {n:Nat} {m:Int} {a:Int} {r:Zb} (hm:((n:Nat):Int)=m) (h:ZaG n l=.ok (a,r)):Zo E BY σ sq 115 0 true [.ref t 0,.int .i64 m]=some (.int .i64 a,σ.set t (.var (P++[.lst false (r.map Zc)])),{ any:=true,upd:=[(t,P++[.lst false (r.map Zc)])] }):=by
 subst hm
 unfold ZaG at h
 split at h
 ·cases h
 ·injection h with h;injection h with h1 h2;subst h1 h2
  exact Zc5 (rest:=[.int .i64 (n:Nat)]) (by kernel_rfl) rfl (Zy P hP hN _ _) (Zy P hP hN _ _) rfl rfl (Zz1 P hP hN l n (by omega) hl) hs sq
theorem ZgA {n:Nat} {m:Int} {c:Int} (hm:((n:Nat):Int)=m) (hn:n<=9223372036854775807) (h:ZaG n l=.error c):Zo E BY σ sq 115 0 true [.ref t 0,.int .i64 m]=some (.pan (ZB c),σ.set t (.var (P++[.lst false (l.map Zc)])),{ any:=true,upd:=[(t,P++[.lst false (l.map Zc)])] }):=by
 subst hm
 unfold ZaG at h
 split at h
 ·injection h with h;subst h
  exact ZcA (rest:=[.int .i64 (n:Nat)]) (by kernel_rfl) rfl (Zy P hP hN _ _) (Zy P hP hN _ _) rfl (ZCk P hP hN l n (by omega) hn) hs sq
 ·cases h
theorem Zer {a r:Zb} (h:Zap l=.ok (a,r)):Zo E BY σ sq 124 0 true [.ref t 0]=some (.str a,σ.set t (.var (P++[.lst false (r.map Zc)])),{ any:=true,upd:=[(t,P++[.lst false (r.map Zc)])] }):=by
 unfold Zap at h
 split at h
 ·rename_i h0
  injection h with h;injection h with h1 h2;subst h1 h2
  exact Zc5 (rest:=[]) (by kernel_rfl) rfl (Zy P hP hN _ _) (Zy P hP hN _ _) rfl rfl (ZBc P hP hN l hl h0) hs sq
 ·cases h
theorem Zg0 {c:Int} (h:Zap l=.error c):Zo E BY σ sq 124 0 true [.ref t 0]=some (.pan (ZB c),σ.set t (.var (P++[.lst false (l.map Zc)])),{ any:=true,upd:=[(t,P++[.lst false (l.map Zc)])] }):=by
 unfold Zap at h
 split at h
 ·cases h
 ·rename_i h0
  injection h with h;subst h
  exact ZcA (rest:=[]) (by kernel_rfl) rfl (Zy P hP hN _ _) (Zy P hP hN _ _) rfl (ZKJ P hP hN l hl h0) hs sq
theorem Zv4 {a r:Zb} (h:Zdh l=.ok (a,r)):Zo E BY σ sq 148 0 true [.ref t 0]=some (.lst false (a.map Zc),σ.set t (.var (P++[.lst false (r.map Zc)])),{ any:=true,upd:=[(t,P++[.lst false (r.map Zc)])] }):=by
 unfold Zdh at h
 split at h
 ·rename_i h0
  injection h with h;injection h with h1 h2;subst h1 h2
  exact Zc5 (rest:=[]) (by kernel_rfl) rfl (Zy P hP hN _ _) (Zy P hP hN _ _) rfl rfl (ZJP P hP hN l hl h0) hs sq
 ·cases h
theorem Zu9 {c:Int} (h:Zdh l=.error c):Zo E BY σ sq 148 0 true [.ref t 0]=some (.pan (ZB c),σ.set t (.var (P++[.lst false (l.map Zc)])),{ any:=true,upd:=[(t,P++[.lst false (l.map Zc)])] }):=by
 unfold Zdh at h
 split at h
 ·cases h
 ·rename_i h0
  injection h with h;subst h
  exact ZcA (rest:=[]) (by kernel_rfl) rfl (Zy P hP hN _ _) (Zy P hP hN _ _) rfl (ZIa P hP hN l hl h0) hs sq
theorem Zeg {w:Int} {a:List Zn} {r:Zb} (hu:(Z0 w l).2.1<=l.length) (h:ZbC w l=.ok (a,r)):Zo E BY σ sq 117 0 true [.ref t 0,.int .i64 w]=some (.lst false (a.map Zg),σ.set t (.var (P++[.lst false (r.map Zc)])),{ any:=true,upd:=[(t,P++[.lst false (r.map Zc)])] }):=by
 unfold ZbC at h
 split at h
 ·rename_i h0
  injection h with h;injection h with h1 h2;subst h1 h2
  exact Zc5 (rest:=[.int .i64 w]) (by kernel_rfl) rfl (Zy P hP hN _ _) (Zy P hP hN _ _) rfl rfl (Zyh P hP hN w l hl h0 hu) hs sq
 ·cases h
theorem ZfK {w c:Int} (h:ZbC w l=.error c):Zo E BY σ sq 117 0 true [.ref t 0,.int .i64 w]=some (.pan (ZB c),σ.set t (.var (P++[.lst false (l.map Zc)])),{ any:=true,upd:=[(t,P++[.lst false (l.map Zc)])] }):=by
 unfold ZbC at h
 split at h
 ·cases h
 ·rename_i h0
  injection h with h;subst h
  exact ZcA (rest:=[.int .i64 w]) (by kernel_rfl) rfl (Zy P hP hN _ _) (Zy P hP hN _ _) rfl (ZNz P hP hN w l hl h0) hs sq
end
theorem ZGH (l:Zb) (hl:l.length<=140737488355328) {n:Int} {r:Zb} (h:idK l=.ok (n,r)):E 119 [.ref 0 0] [.var (P++[.lst false (l.map Zc)])]=some (.tup [],[.var (P.set 4 (.int .i64 n)++[.lst false (r.map Zc)])]):=by
 unfold idK at h
 split at h
 case h_2=>cases h
 rename_i n' r' h2
 split at h
 ·cases h
 rename_i hn
 injection h with h;injection h with h3 h4;subst h3 h4
 have hG:=fun σ sq hs=>ZcZ P hP hN l hl σ 0 sq hs (m:=2) rfl h2
 have a1:=Zaa P hP
 have a3:=Zaw P hP 4 5 (by omega) rfl
 have a4:=ZhQ P hP 4 (by omega)
 have m1:=Zbe
 have h0:(n' != 0)=true:=by simpa using hn
 rw [Zh (by rfl) Zno]
 simp -implicitDefEqProofs only [EQA,ZK,Zt,Nat.reduceAdd,Nat.reduceLT,Nat.reduceLeDiff,Nat.reduceEqDiff,reduceCtorEq,↓reduceIte,Zd,Zrv,ZiX,ZKC,oI,oN,hG,a1,a3,a4,m1,h0]
 exact Z1 rfl (ZaA (ZT rfl 4 hN) (by rfl))
theorem Zmx (l:Zb) (hl:l.length<=140737488355328) {c:Int} (h:idK l=.error c):∃ cs,Zd cs=true/\E 119 [.ref 0 0] [.var (P++[.lst false (l.map Zc)])]=some (.pan (ZB c),[.var cs]):=by
 unfold idK at h
 split at h
 ·rename_i n' r' h2
  split at h
  case isFalse=>cases h
  rename_i hn
  injection h with h;subst h hn
  have hG:=fun σ sq hs=>ZcZ P hP hN l hl σ 0 sq hs (m:=2) rfl h2
  have a1:=Zaa P hP
  have a3:=Zaw P hP 4 5 (by omega) rfl
  have a4:=ZhQ P hP 4 (by omega)
  have m1:=Zby
  refine ⟨P.set 4 (.int .i64 0)++[.lst false (r'.map Zc)],ZaA (ZT rfl 4 hN) (by rfl),?_⟩
  rw [Zh (by rfl) Zno]
  simp -implicitDefEqProofs only [EQA,ZK,Nat.reduceAdd,Nat.reduceLT,Nat.reduceLeDiff,Nat.reduceEqDiff,reduceCtorEq,↓reduceIte,Zrv,ZiX,oI,oN,hG,a1,a3,a4,m1,bne_self_eq_false]
  exact Z1 rfl (ZaA (ZT rfl 4 hN) (by rfl))
 ·rename_i c' h2
  injection h with h;subst h
  have hG:=fun σ sq hs=>ZgA P hP hN l hl σ 0 sq hs (m:=2) rfl (by decide) h2
  refine ⟨P++[.lst false (l.map Zc)],ZaA hN (by rfl),?_⟩
  rw [Zh (by rfl) Zno]
  simp -implicitDefEqProofs only [EQA,Nat.reduceLT,reduceCtorEq,↓reduceIte,Zrv,ZiX,oI,oN,hG]
  exact Z1 rfl (ZaA hN (by rfl))
theorem ZCp (k:Int) (hk:P[0]?=some (.int .i64 k)) (l:Zb) (hl:l.length<=140737488355328) {n:Int} {r:Zb} (h:ZaK k l=.ok (n,r)):E 116 [.ref 0 0] [.var (P++[.lst false (l.map Zc)])]=some (.int .i64 n,[.var (P++[.lst false (r.map Zc)])]):=by
 unfold ZaK at h
 split at h
 case h_2=>cases h
 rename_i n' r' h2
 split at h
 case isFalse=>cases h
 rename_i hn
 injection h with h;injection h with h3 h4;subst h3 h4
 have hG:=fun σ sq hs=>ZcZ P hP hN l hl σ 0 sq hs (m:=1) rfl h2
 have a4:=fun L=>(Zad P hP 0 (by omega) L).trans hk
 have m1:=Zbe
 have hC:=fun σ sq own=>ZiL k n' σ sq own
 rw [hn] at hC
 rw [Zh (by rfl) Zf8]
 simp -implicitDefEqProofs only [EQA,Nat.reduceLT,Nat.reduceEqDiff,reduceCtorEq,↓reduceIte,ZfZ,ZeP,ZsB,oI,hG,hC,a4,m1]
 exact Z1 rfl (ZaA hN (by rfl))
theorem ZrI (k:Int) (hk:P[0]?=some (.int .i64 k)) (l:Zb) (hl:l.length<=140737488355328) {c:Int} (h:ZaK k l=.error c):∃ cs,Zd cs=true/\E 116 [.ref 0 0] [.var (P++[.lst false (l.map Zc)])]=some (.pan (ZB c),[.var cs]):=by
 unfold ZaK at h
 split at h
 ·rename_i n' r' h2
  split at h
  case isTrue=>cases h
  rename_i hn
  injection h with h;subst h
  have hG:=fun σ sq hs=>ZcZ P hP hN l hl σ 0 sq hs (m:=1) rfl h2
  have a4:=fun L=>(Zad P hP 0 (by omega) L).trans hk
  have m1:=Zby
  have hC:=fun σ sq own=>ZiL k n' σ sq own
  rw [Bool.not_eq_true _ |>.mp hn] at hC
  refine ⟨P++[.lst false (r'.map Zc)],ZaA hN (by rfl),?_⟩
  rw [Zh (by rfl) Zf8]
  simp -implicitDefEqProofs only [EQA,Nat.reduceLT,Nat.reduceEqDiff,reduceCtorEq,↓reduceIte,ZfZ,ZeP,oI,hG,hC,a4,m1]
  exact Z1 rfl (ZaA hN (by rfl))
 ·rename_i c' h2
  injection h with h;subst h
  have hG:=fun σ sq hs=>ZgA P hP hN l hl σ 0 sq hs (m:=1) rfl (by decide) h2
  refine ⟨P++[.lst false (l.map Zc)],ZaA hN (by rfl),?_⟩
  rw [Zh (by rfl) Zf8]
  simp -implicitDefEqProofs only [EQA,Nat.reduceLT,reduceCtorEq,↓reduceIte,ZfZ,ZeP,oI,hG]
  exact Z1 rfl (ZaA hN (by rfl))
section
variable (l:Zb) (hl:l.length<=140737488355328) (σ:Za) (t sq:Nat) (hs:σ[t]?=some (.var (P++[.lst false (l.map Zc)])))
include hl hs
theorem Zgh {n:Int} {r:Zb} (h:idK l=.ok (n,r)):Zo E BY σ sq 119 0 true [.ref t 0]=some (.tup [],σ.set t (.var (P.set 4 (.int .i64 n)++[.lst false (r.map Zc)])),{ any:=true,upd:=[(t,P.set 4 (.int .i64 n)++[.lst false (r.map Zc)])] }) :=
 Zc5 (rest:=[]) (by kernel_rfl) rfl (Zy P hP hN _ _) (ZaA (ZT rfl 4 hN) (by rfl)) rfl rfl (ZGH P hP hN l hl h) hs sq
theorem ZjR (k:Int) (hk:P[0]?=some (.int .i64 k)) {n:Int} {r:Zb} (h:ZaK k l=.ok (n,r)):Zo E BY σ sq 116 0 true [.ref t 0]=some (.int .i64 n,σ.set t (.var (P++[.lst false (r.map Zc)])),{ any:=true,upd:=[(t,P++[.lst false (r.map Zc)])] }) :=
 Zc5 (rest:=[]) (by kernel_rfl) rfl (Zy P hP hN _ _) (Zy P hP hN _ _) rfl rfl (ZCp P hP hN k hk l hl h) hs sq
end
end
end
section
def ZfF:Option (List Zn)->AVal
 | none=>.lst true []
 | some l=>.lst false (l.map Zg)
def Zdb (k:Int) (l:Zb):RK (Int×Option (List Zn)) :=
 if l.length=0 then .ok ((0,none),l) else match ZaK k l with
 | .error c=>.error c
 | .ok (c,r)=>if r.length=0 then .ok ((c,none),r) else match ZbC k r with
  | .error c=>.error c
  | .ok (ps,r')=>.ok ((c,some ps),r')
theorem ZlX {k n:Int} {l r:Zb} (h:ZaK k l=.ok (n,r)):r.length<=l.length:=by
 unfold ZaK ZaG at h
 split at h
 ·rename_i h1
  split at h1
  ·cases h1
  ·injection h1 with h1;injection h1 with _ h1
   split at h
   ·injection h with h;injection h with _ h;subst h h1;simp
   ·cases h
 ·cases h
theorem ZlV {P:List AVal} {k:Nat} {v:AVal} (h:P[k]?=some v):P.set k v=P:=by
 apply List.ext_getElem?
 intro j
 rw [List.getElem?_set]
 split
 ·rename_i e;subst e
  have hk:k < P.length:=by
   rcases Nat.lt_or_ge k P.length with h' | h'
   ·exact h'
   ·rw [List.getElem?_eq_none h'] at h;cases h
  rw [if_pos hk,h]
 ·rfl
section
variable (P:List AVal) (hP:P.length=26) (hN:Zd P=true)
include hP hN
theorem ZPB (k:Int) (hk:P[0]?=some (.int .i64 k)) (h7:P[7]?=some (.int .i64 0)) (h9:P[9]?=some (.lst true [])) (hu:∀ r:Zb,r.length<=140737488355328->(Z0 k r).2.1<=r.length) (l:Zb) (hl:l.length<=140737488355328) {c:Int} {ps:Option (List Zn)} {r:Zb} (h:Zdb k l=.ok ((c,ps),r)) :
  E 120 [.ref 0 0] [.var (P++[.lst false (l.map Zc)])]=some (.tup [],[.var ((P.set 7 (.int .i64 c)).set 9 (ZfF ps)++[.lst false (r.map Zc)])]):=by
 have a1:=Zaa P hP
 have a2:=Zat P hP
 unfold Zdb at h
 split at h
 ·rename_i h0
  injection h with h;injection h with h1 h2;injection h1 with h1 h3;subst h1 h2 h3
  have hg:¬(l.length:Int) > 0:=by omega
  rw [show ZfF none=.lst true [] from rfl,ZlV h7,ZlV h9]
  rw [Zh (by rfl) ZiC]
  simp -implicitDefEqProofs only [EQA,Zt,Nat.reduceLT,reduceCtorEq,↓reduceIte,Zd,Zjz,Zg3,Zqh,oI,oN,a2,hg]
  exact Z1 rfl (Zy P hP hN _ _)
 ·rename_i h0
  have hg:(l.length:Int) > 0:=by omega
  split at h
  ·cases h
  rename_i c' r' hc
  have hr':=ZlX hc
  have hC:=fun σ sq hs=>ZjR P hP hN l hl σ 0 sq hs k hk hc
  have a3:=Zaw P hP 7 8 (by omega) rfl
  have hP7:(P.set 7 (.int .i64 c')).length=26:=by simp [hP]
  have hN7:Zd (P.set 7 (.int .i64 c'))=true:=ZT rfl 7 hN
  have hk7:(P.set 7 (.int .i64 c'))[0]?=some (.int .i64 k):=by rw [List.getElem?_set_ne (by omega)];exact hk
  have h97:(P.set 7 (.int .i64 c'))[9]?=some (.lst true []):=by rw [List.getElem?_set_ne (by omega)];exact h9
  have b1:=Zaa _ hP7
  have b2:=Zat _ hP7
  have b3:=Zaw _ hP7 9 10 (by omega) rfl
  have b4:=fun L=>(Zad _ hP7 0 (by omega) L).trans hk7
  split at h
  ·rename_i h1
   injection h with h;injection h with h1 h2;injection h1 with h1 h3;subst h1 h2 h3
   have hg':¬(r'.length:Int) > 0:=by omega
   rw [show ZfF none=.lst true [] from rfl,ZlV h97]
   rw [Zh (by rfl) ZiC]
   simp -implicitDefEqProofs only [EQA,ZK,Zt,Nat.reduceAdd,Nat.reduceLT,Nat.reduceLeDiff,Nat.reduceEqDiff,reduceCtorEq,↓reduceIte,Zd,Zjz,Zg3,Zqh,oI,oN,a1,a2,a3,b2,hg,hg',hC]
   exact Z1 rfl (Zy _ hP7 hN7 _ _)
  ·rename_i h1
   have hg':(r'.length:Int) > 0:=by omega
   split at h
   ·cases h
   rename_i ps' r2 hp
   injection h with h;injection h with h1 h2;injection h1 with h1 h3;subst h1 h2 h3
   have hG:=fun σ sq hs=>Zeg _ hP7 hN7 r' (by omega) σ 0 sq hs (hu r' (by omega)) hp
   rw [Zh (by rfl) ZiC]
   simp -implicitDefEqProofs only [EQA,ZK,Zt,Nat.reduceAdd,Nat.reduceLT,Nat.reduceLeDiff,Nat.reduceEqDiff,reduceCtorEq,↓reduceIte,Zd,Zjz,Zg3,Zqh,oI,oN,a1,a2,a3,b1,b2,b3,b4,hg,hg',hC,hG,ZfF]
   exact Z1 rfl (ZaA (ZT (Zb5 _ _) 9 hN7) (by rfl))
theorem Ztj (k:Int) (hk:P[0]?=some (.int .i64 k)) (hu:∀ r:Zb,r.length<=140737488355328->(Z0 k r).2.1<=r.length) (l:Zb) (hl:l.length<=140737488355328) {e:Int} (h:Zdb k l=.error e) :
  ∃ cs,Zd cs=true/\E 120 [.ref 0 0] [.var (P++[.lst false (l.map Zc)])]=some (.pan (ZB e),[.var cs]):=by
 have a1:=Zaa P hP
 have a2:=Zat P hP
 unfold Zdb at h
 split at h
 ·cases h
 ·rename_i h0
  have hg:(l.length:Int) > 0:=by omega
  split at h
  ·rename_i c hc
   injection h with h;subst h
   obtain ⟨cs,hn,he⟩:=ZrI P hP hN k hk l hl hc
   have hC:=fun (σ:Za) sq (hs:σ[0]?=some (.var (P++[.lst false (l.map Zc)])))=>ZcA (O:=E) (bf:=BY) (f:=116) (view:=true) (rest:=[]) (by kernel_rfl) rfl (Zy P hP hN _ _) hn rfl he hs sq
   refine ⟨cs,hn,?_⟩
   rw [Zh (by rfl) ZiC]
   simp -implicitDefEqProofs only [EQA,Nat.reduceLT,reduceCtorEq,↓reduceIte,Zjz,Zg3,oI,oN,a2,hg,hC]
   exact Z1 rfl hn
  ·rename_i c' r' hc
   have hr':=ZlX hc
   have hC:=fun σ sq hs=>ZjR P hP hN l hl σ 0 sq hs k hk hc
   have a3:=Zaw P hP 7 8 (by omega) rfl
   have hP7:(P.set 7 (.int .i64 c')).length=26:=by simp [hP]
   have hN7:Zd (P.set 7 (.int .i64 c'))=true:=ZT rfl 7 hN
   have hk7:(P.set 7 (.int .i64 c'))[0]?=some (.int .i64 k):=by rw [List.getElem?_set_ne (by omega)];exact hk
   have b1:=Zaa _ hP7
   have b2:=Zat _ hP7
   have b4:=fun L=>(Zad _ hP7 0 (by omega) L).trans hk7
   split at h
   ·cases h
   ·rename_i h1
    have hg':(r'.length:Int) > 0:=by omega
    split at h
    ·rename_i c hp
     injection h with h;subst h
     have hG:=fun σ sq hs=>ZfK _ hP7 hN7 r' (by omega) σ 0 sq hs hp
     refine ⟨P.set 7 (.int .i64 c')++[.lst false (r'.map Zc)],Zy _ hP7 hN7 _ _,?_⟩
     rw [Zh (by rfl) ZiC]
     simp -implicitDefEqProofs only [EQA,ZK,Nat.reduceAdd,Nat.reduceLT,Nat.reduceLeDiff,Nat.reduceEqDiff,reduceCtorEq,↓reduceIte,Zjz,Zg3,oI,oN,a1,a2,a3,b2,b4,hg,hg',hC,hG]
     exact Z1 rfl (Zy _ hP7 hN7 _ _)
    ·cases h
section
variable (l:Zb) (hl:l.length<=140737488355328) (σ:Za) (t sq:Nat) (hs:σ[t]?=some (.var (P++[.lst false (l.map Zc)])))
include hl hs
theorem Zt1 (k:Int) (hk:P[0]?=some (.int .i64 k)) (h7:P[7]?=some (.int .i64 0)) (h9:P[9]?=some (.lst true [])) (hu:∀ r:Zb,r.length<=140737488355328->(Z0 k r).2.1<=r.length) {c:Int} {ps:Option (List Zn)} {r:Zb} (h:Zdb k l=.ok ((c,ps),r)):Zo E BY σ sq 120 0 true [.ref t 0]=some (.tup [],σ.set t (.var ((P.set 7 (.int .i64 c)).set 9 (ZfF ps)++[.lst false (r.map Zc)])),{ any:=true,upd:=[(t,(P.set 7 (.int .i64 c)).set 9 (ZfF ps)++[.lst false (r.map Zc)])] }) :=
 Zc5 (rest:=[]) (by kernel_rfl) rfl (Zy P hP hN _ _) (ZaA (ZT (by cases ps <;> rfl) 9 (ZT rfl 7 hN)) (by rfl)) rfl rfl (ZPB P hP hN k hk h7 h9 hu l hl h) hs sq
end
end
theorem Zhb {n:Nat} {l r:Zb} {a:Int} (h:ZaG n l=.ok (a,r)):r.length<=l.length:=by
 unfold ZaG at h
 split at h
 ·cases h
 ·injection h with h;injection h with _ h;subst h;simp
theorem Zfo {l r:Zb} {a:Int} (h:idK l=.ok (a,r)):r.length<=l.length:=by
 unfold idK at h
 split at h
 ·rename_i h1
  split at h
  ·cases h
  ·injection h with h;injection h with _ h;subst h;exact Zhb h1
 ·cases h
theorem ZdQ {l r a:Zb} (h:Zap l=.ok (a,r)):r.length<=l.length:=by
 unfold Zap at h
 split at h
 ·injection h with h;injection h with _ h;subst h;simp
 ·cases h
theorem ZuJ {l r a:Zb} (h:Zdh l=.ok (a,r)):r.length<=l.length:=by
 unfold Zdh at h
 split at h
 ·injection h with h;injection h with _ h;subst h;simp
 ·cases h
theorem ZgD {w:Int} {l r:Zb} {a:List Zn} (h:ZbC w l=.ok (a,r)):r.length<=l.length:=by
 unfold ZbC at h
 split at h
 ·injection h with h;injection h with _ h;subst h;simp
 ·cases h
def Zdk (qos:Int) (l:Zb):Except Int (Zb×Int×List Zn×Zb):=match Zap l with
 | .error c=>.error c
 | .ok (tp,r1)=>if qos > 0 then (match idK r1 with
  | .error c=>.error c
  | .ok (n,r2)=>match ZbC 3 r2 with
   | .error c=>.error c
   | .ok (ps,r3)=>.ok (tp,n,ps,r3))
  else match ZbC 3 r1 with
   | .error c=>.error c
   | .ok (ps,r3)=>.ok (tp,0,ps,r3)
section
variable (P:List AVal) (hP:P.length=26) (hN:Zd P=true)
include hP hN
theorem ZGz (qos:Int) (h2:P[2]?=some (.int .i64 qos)) (h4:P[4]?=some (.int .i64 0)) (hu:∀ r:Zb,r.length<=140737488355328->(Z0 3 r).2.1<=r.length) (l:Zb) (hl:l.length<=140737488355328) {tp:Zb} {n:Int} {ps:List Zn} {pay:Zb} (h:Zdk qos l=.ok (tp,n,ps,pay)) :
  E 118 [.ref 0 0] [.var (P++[.lst false (l.map Zc)])]=some (.tup [],[.var ((((P.set 5 (.str tp)).set 4 (.int .i64 n)).set 9 (.lst false (ps.map Zg))).set 6 (.lst false (pay.map Zc))++[.lst true []])]):=by
 have a1:=Zaa P hP
 have a2:=Zat P hP
 unfold Zdk at h
 split at h
 ·cases h
 rename_i tp' r1 ht
 have l1:=ZdQ ht
 have hT:=fun σ sq hs=>Zer P hP hN l hl σ 0 sq hs ht
 have a3:=fun L=>Zaw P hP 5 6 (by omega) rfl L (.str tp')
 have hP5:(P.set 5 (.str tp')).length=26:=by simp [hP]
 have hN5:Zd (P.set 5 (.str tp'))=true:=ZT rfl 5 hN
 have h25:(P.set 5 (.str tp'))[2]?=some (.int .i64 qos):=by rw [List.getElem?_set_ne (by omega)];exact h2
 have h45:(P.set 5 (.str tp'))[4]?=some (.int .i64 0):=by rw [List.getElem?_set_ne (by omega)];exact h4
 generalize hQ:P.set 5 (.str tp')=Q at *
 have b1:=Zaa _ hP5
 have b2:=Zat _ hP5
 have b4:=fun L=>(Zad _ hP5 2 (by omega) L).trans h25
 split at h
 ·rename_i hq
  split at h
  ·cases h
  rename_i n' r2 hi
  have l2:=Zfo hi
  split at h
  ·cases h
  rename_i ps' r3 hp
  have l3:=ZgD hp
  injection h with h;injection h with e1 h;injection h with e2 h;injection h with e3 e4;subst e1 e2 e3 e4
  rw [hQ]
  have hI:=fun σ sq hs=>Zgh Q hP5 hN5 r1 (by omega) σ 0 sq hs hi
  have hP4:(Q.set 4 (.int .i64 n')).length=26:=by simp [hP5]
  have hN4:Zd (Q.set 4 (.int .i64 n'))=true:=ZT rfl 4 hN5
  generalize Q.set 4 (.int .i64 n')=R at *
  have hG:=fun σ sq hs=>Zeg _ hP4 hN4 r2 (by omega) σ 0 sq hs (hu r2 (by omega)) hp
  have c1:=Zaa _ hP4
  have c2:=Zat _ hP4
  have c3:=fun L=>Zaw _ hP4 9 10 (by omega) rfl L (.lst false (ps'.map Zg))
  have hP9:(R.set 9 (.lst false (ps'.map Zg))).length=26:=by simp [hP4]
  have hN9:Zd (R.set 9 (.lst false (ps'.map Zg)))=true:=ZT (Zb5 _ _) 9 hN4
  generalize R.set 9 (.lst false (ps'.map Zg))=S at *
  have d1:=Zaa _ hP9
  have d2:=Zat _ hP9
  have d3:=fun L=>Zaw _ hP9 6 7 (by omega) rfl L (.lst false (r3.map Zc))
  have hP6:(S.set 6 (.lst false (r3.map Zc))).length=26:=by simp [hP9]
  have hN6:Zd (S.set 6 (.lst false (r3.map Zc)))=true:=ZT (Zb5 _ _) 6 hN9
  generalize S.set 6 (.lst false (r3.map Zc))=U at *
  have f1:=Zaa _ hP6
  have f3:=Zfd _ hP6
  have f4:=Zgf _ hP6
  have hC:=fun σ sq own=>Zki σ sq own r3 (by omega)
  rw [Zh (by rfl) Zho]
  simp -implicitDefEqProofs only [EQA,ZK,Zt,Nat.reduceAdd,Nat.reduceLT,Nat.reduceLeDiff,Nat.reduceEqDiff,reduceCtorEq,↓reduceIte,Zd,Zhw,Zgt,Zts,oI,oN,a1,a3,b4,c1,c3,d1,d2,d3,f1,f3,f4,hq,hT,hI,hG,hC]
  exact Z1 rfl (ZaA hN6 (by rfl))
 ·rename_i hq
  split at h
  ·cases h
  rename_i ps' r3 hp
  have l3:=ZgD hp
  injection h with h;injection h with e1 h;injection h with e2 h;injection h with e3 e4;subst e1 e2 e3 e4
  rw [hQ,ZlV h45]
  have hG:=fun σ sq hs=>Zeg _ hP5 hN5 r1 (by omega) σ 0 sq hs (hu r1 (by omega)) hp
  have c3:=fun L=>Zaw _ hP5 9 10 (by omega) rfl L (.lst false (ps'.map Zg))
  have hP9:(Q.set 9 (.lst false (ps'.map Zg))).length=26:=by simp [hP5]
  have hN9:Zd (Q.set 9 (.lst false (ps'.map Zg)))=true:=ZT (Zb5 _ _) 9 hN5
  generalize Q.set 9 (.lst false (ps'.map Zg))=S at *
  have d1:=Zaa _ hP9
  have d2:=Zat _ hP9
  have d3:=fun L=>Zaw _ hP9 6 7 (by omega) rfl L (.lst false (r3.map Zc))
  have hP6:(S.set 6 (.lst false (r3.map Zc))).length=26:=by simp [hP9]
  have hN6:Zd (S.set 6 (.lst false (r3.map Zc)))=true:=ZT (Zb5 _ _) 6 hN9
  generalize S.set 6 (.lst false (r3.map Zc))=U at *
  have f1:=Zaa _ hP6
  have f3:=Zfd _ hP6
  have f4:=Zgf _ hP6
  have hC:=fun σ sq own=>Zki σ sq own r3 (by omega)
  rw [Zh (by rfl) Zho]
  simp -implicitDefEqProofs only [EQA,ZK,Zt,Nat.reduceAdd,Nat.reduceLT,Nat.reduceLeDiff,Nat.reduceEqDiff,reduceCtorEq,↓reduceIte,Zd,Zhw,Zgt,Zts,oI,oN,a1,a3,b1,b4,c3,d1,d2,d3,f1,f3,f4,hq,hT,hG,hC]
  exact Z1 rfl (ZaA hN6 (by rfl))
theorem ZyQ (qos:Int) (h2:P[2]?=some (.int .i64 qos)) (l:Zb) (hl:l.length<=140737488355328) {c:Int} (h:Zdk qos l=.error c) :
  ∃ cs,Zd cs=true/\E 118 [.ref 0 0] [.var (P++[.lst false (l.map Zc)])]=some (.pan (ZB c),[.var cs]):=by
 have a1:=Zaa P hP
 have a2:=Zat P hP
 unfold Zdk at h
 split at h
 ·rename_i c' ht
  injection h with h;subst h
  have hT:=fun σ sq hs=>Zg0 P hP hN l hl σ 0 sq hs ht
  refine ⟨P++[.lst false (l.map Zc)],Zy P hP hN _ _,?_⟩
  rw [Zh (by rfl) Zho]
  simp -implicitDefEqProofs only [EQA,Nat.reduceLT,reduceCtorEq,↓reduceIte,Zhw,Zgt,oI,oN,hT]
  exact Z1 rfl (Zy P hP hN _ _)
 rename_i tp' r1 ht
 have l1:=ZdQ ht
 have hT:=fun σ sq hs=>Zer P hP hN l hl σ 0 sq hs ht
 have a3:=fun L=>Zaw P hP 5 6 (by omega) rfl L (.str tp')
 have hP5:(P.set 5 (.str tp')).length=26:=by simp [hP]
 have hN5:Zd (P.set 5 (.str tp'))=true:=ZT rfl 5 hN
 have h25:(P.set 5 (.str tp'))[2]?=some (.int .i64 qos):=by rw [List.getElem?_set_ne (by omega)];exact h2
 generalize hQ:P.set 5 (.str tp')=Q at *
 have b1:=Zaa _ hP5
 have b2:=Zat _ hP5
 have b4:=fun L=>(Zad _ hP5 2 (by omega) L).trans h25
 split at h
 ·rename_i hq
  split at h
  ·rename_i c' hi
   injection h with h;subst h
   obtain ⟨cs,hn,he⟩:=Zmx Q hP5 hN5 r1 (by omega) hi
   have hI:=fun (σ:Za) sq (hs:σ[0]?=some (.var (Q++[.lst false (r1.map Zc)])))=>ZcA (O:=E) (bf:=BY) (f:=119) (view:=true) (rest:=[]) (by kernel_rfl) rfl (Zy Q hP5 hN5 _ _) hn rfl he hs sq
   refine ⟨cs,hn,?_⟩
   rw [Zh (by rfl) Zho]
   simp -implicitDefEqProofs only [EQA,ZK,Nat.reduceAdd,Nat.reduceLT,Nat.reduceLeDiff,Nat.reduceEqDiff,reduceCtorEq,↓reduceIte,Zhw,Zgt,oI,oN,a1,a3,b4,hq,hT,hI]
   exact Z1 rfl hn
  rename_i n' r2 hi
  have l2:=Zfo hi
  split at h
  ·rename_i c' hp
   injection h with h;subst h
   have hI:=fun σ sq hs=>Zgh Q hP5 hN5 r1 (by omega) σ 0 sq hs hi
   have hP4:(Q.set 4 (.int .i64 n')).length=26:=by simp [hP5]
   have hN4:Zd (Q.set 4 (.int .i64 n'))=true:=ZT rfl 4 hN5
   generalize Q.set 4 (.int .i64 n')=R at *
   have hG:=fun σ sq hs=>ZfK _ hP4 hN4 r2 (by omega) σ 0 sq hs hp
   refine ⟨R++[.lst false (r2.map Zc)],Zy R hP4 hN4 _ _,?_⟩
   rw [Zh (by rfl) Zho]
   simp -implicitDefEqProofs only [EQA,ZK,Nat.reduceAdd,Nat.reduceLT,Nat.reduceLeDiff,Nat.reduceEqDiff,reduceCtorEq,↓reduceIte,Zhw,Zgt,oI,oN,a1,a3,b4,hq,hT,hI,hG]
   exact Z1 rfl (Zy R hP4 hN4 _ _)
  ·cases h
 ·rename_i hq
  split at h
  ·rename_i c' hp
   injection h with h;subst h
   have hG:=fun σ sq hs=>ZfK _ hP5 hN5 r1 (by omega) σ 0 sq hs hp
   refine ⟨Q++[.lst false (r1.map Zc)],Zy Q hP5 hN5 _ _,?_⟩
   rw [Zh (by rfl) Zho]
   simp -implicitDefEqProofs only [EQA,ZK,Nat.reduceAdd,Nat.reduceLT,Nat.reduceLeDiff,Nat.reduceEqDiff,reduceCtorEq,↓reduceIte,Zhw,Zgt,oI,oN,a1,a3,b4,hq,hT,hG]
   exact Z1 rfl (Zy Q hP5 hN5 _ _)
  ·cases h
end
end
section
abbrev KSt:=List AVal×Zb
def Zi (P:List AVal) (l:Zb):Za:=[.var (P++[.lst false (l.map Zc)])]
def KRuns (c:Ze) (tm tm':Tms) (P:List AVal) (l:Zb):Except Int KSt->Prop
 | .ok (P',l')=>evC FC PR BY 1 c tm (Zi P l)=some (.normal,tm',Zi P' l')/\P'.length=26/\Zd P'=true/\l'.length<=l.length
 | .error e=>∃ tm2 cs,Zd cs=true/\evC FC PR BY 1 c tm (Zi P l)=some (.panic (ZB e),tm2,[.var cs])
theorem KRuns.seq {a b:Ze} {tm tm1 tm2:Tms} {P:List AVal} {l:Zb} {x:Except Int KSt} {f:KSt->Except Int KSt} (h:KRuns a tm tm1 P l x) (hb:∀ P' l',x=.ok (P',l')->P'.length=26->Zd P'=true->l'.length<=l.length->KRuns b tm1 tm2 P' l' (f (P',l'))):KRuns (.seq a b) tm tm2 P l (x.bind f):=by
 cases x with
 | error e =>
  obtain ⟨t,cs,h1,h2⟩:=h
  exact ⟨t,cs,h1,ZjF (by simp) h2⟩
 | ok s =>
  obtain ⟨P',l'⟩:=s
  obtain ⟨h1,h2,h3,h4⟩:=h
  have hb:=hb P' l' rfl h2 h3 h4
  show KRuns (.seq a b) tm tm2 P l (f (P',l'))
  generalize f (P',l')=y at *
  cases y with
  | error e =>
   obtain ⟨t,cs,g1,g2⟩:=hb
   exact ⟨t,cs,g1,by rw [Zi3 h1];exact g2⟩
  | ok s =>
   obtain ⟨P2,l2⟩:=s
   obtain ⟨g1,g2,g3,g4⟩:=hb
   exact ⟨by rw [Zi3 h1];exact g1,g2,g3,by omega⟩
def KRun (c:Ze) (tm:Tms) (P:List AVal) (l:Zb) (x:Except Int KSt):Prop:=∃ tm',KRuns c tm tm' P l x
theorem KRun.seqT {a b:Ze} {tm tm1:Tms} {P P1:List AVal} {l l1:Zb} {x:Except Int KSt} (h:evC FC PR BY 1 a tm (Zi P l)=some (.normal,tm1,Zi P1 l1)) (hl:l1.length<=l.length) (hb:KRun b tm1 P1 l1 x):KRun (.seq a b) tm P l x:=by
 obtain ⟨tm',hb⟩:=hb
 refine ⟨tm',?_⟩
 cases x with
 | error e =>
  obtain ⟨t,cs,g1,g2⟩:=hb
  exact ⟨t,cs,g1,by rw [Zi3 h];exact g2⟩
 | ok s =>
  obtain ⟨P2,l2⟩:=s
  obtain ⟨g1,g2,g3,g4⟩:=hb
  exact ⟨by rw [Zi3 h];exact g1,g2,g3,by omega⟩
theorem KRun.seqF {a b:Ze} {tm tm2:Tms} {P cs:List AVal} {l:Zb} {e:Int} (hn:Zd cs=true) (h:evC FC PR BY 1 a tm (Zi P l)=some (.panic (ZB e),tm2,[.var cs])):KRun (.seq a b) tm P l (.error e) :=
 ⟨[],tm2,cs,hn,ZjF (by simp) h⟩
theorem KRuns.fnT {f:Nat} {fn:ZG} (hp:PR f=none) (hf:FC f=some fn) (hr:fn.res=[]) {P P':List AVal} {l l':Zb} (h:KRun fn.body [(0,.ref 0 0)] P l (.ok (P',l'))):E f [.ref 0 0] (Zi P l)=some (.tup [],Zi P' l'):=by
 obtain ⟨_,h1,h2,h3,h4⟩:=h
 rw [Zh hp hf]
 show Zan 1 fn (evC FC PR BY 1 fn.body [(0,.ref 0 0)] (Zi P l))=_
 rw [h1]
 simp only [Zan,hr,resA,resAll]
 exact Z1 rfl (ZaA h3 (by rfl))
theorem KRuns.fnF {f:Nat} {fn:ZG} (hp:PR f=none) (hf:FC f=some fn) {P:List AVal} {l:Zb} {e:Int} (h:KRun fn.body [(0,.ref 0 0)] P l (.error e)):∃ cs,Zd cs=true/\E f [.ref 0 0] (Zi P l)=some (.pan (ZB e),[.var cs]):=by
 obtain ⟨_,t,cs,h1,h2⟩:=h
 refine ⟨cs,h1,?_⟩
 rw [Zh hp hf]
 show Zan 1 fn (evC FC PR BY 1 fn.body [(0,.ref 0 0)] (Zi P l))=_
 rw [h2]
 simp only [Zan]
 exact Z1 rfl h1
end
section
def cn1:Ze:=(.region [⟨(some 4),(.mov (.t 0)),none,[]⟩,⟨(some 5),(.nilchk (.t 4)),none,[]⟩,⟨(some 6),(.faddr 0 (.t 5)),none,[]⟩,⟨(some 2),(.mov (.t 6)),none,[]⟩] none [2,0])
def cn2:Ze:=(.region [⟨(some 7),(.mov (.t 0)),none,[]⟩,⟨(some 8),(.call 124 0 true [(.t 7)]),none,[]⟩,⟨(some 9),(.bin .eql (.t 8) (.c (.str [77,81,84,84]))),none,[]⟩,⟨(some 10),(.call 113 0 true [(.t 9),(.c (.int .i64 132))]),none,[]⟩] none [2,0])
def cn3:Ze:=(.region [⟨(some 11),(.mov (.t 0)),none,[]⟩,⟨(some 12),(.call 115 0 true [(.t 11),(.c (.int .i64 1))]),none,[]⟩,⟨(some 13),(.bin .eql (.t 12) (.c (.int .i64 5))),none,[]⟩,⟨(some 14),(.call 113 0 true [(.t 13),(.c (.int .i64 132))]),none,[]⟩] none [2,0])
def cn4:Ze:=(.region [⟨(some 15),(.mov (.t 0)),none,[]⟩,⟨(some 16),(.call 115 0 true [(.t 15),(.c (.int .i64 1))]),none,[]⟩,⟨(some 3),(.mov (.t 16)),none,[]⟩] none [3,2,0])
def cn5:Ze:=(.region [⟨(some 17),(.mov (.t 2)),none,[]⟩,⟨(some 18),(.mov (.t 2)),none,[]⟩,⟨(some 19),(.mov (.t 3)),none,[]⟩,⟨(some 20),(.bin .and (.t 19) (.c (.int .i64 2))),none,[]⟩,⟨(some 21),(.bin .neq (.t 20) (.c (.int .i64 0))),none,[]⟩,⟨(some 22),(.mov (.t 3)),none,[]⟩,⟨(some 23),(.bin .and (.t 22) (.c (.int .i64 4))),none,[]⟩,⟨(some 24),(.bin .neq (.t 23) (.c (.int .i64 0))),none,[]⟩,⟨(some 25),(.nilchk (.t 17)),none,[]⟩,⟨(some 26),(.faddr 12 (.t 25)),none,[]⟩,⟨none,(.st 1 (.t 26) (.t 21)),none,[]⟩,⟨(some 27),(.nilchk (.t 18)),none,[]⟩,⟨(some 28),(.faddr 15 (.t 27)),none,[]⟩,⟨none,(.st 1 (.t 28) (.t 24)),none,[]⟩] none [3,2,0])
def cn6:Ze:=(.region [⟨(some 29),(.mov (.t 2)),none,[]⟩,⟨(some 30),(.mov (.t 2)),none,[]⟩,⟨(some 31),(.mov (.t 3)),none,[]⟩,⟨(some 32),(.bin .and (.t 31) (.c (.int .i64 64))),none,[]⟩,⟨(some 33),(.bin .neq (.t 32) (.c (.int .i64 0))),none,[]⟩,⟨(some 34),(.mov (.t 3)),none,[]⟩,⟨(some 35),(.bin .and (.t 34) (.c (.int .i64 128))),none,[]⟩,⟨(some 36),(.bin .neq (.t 35) (.c (.int .i64 0))),none,[]⟩,⟨(some 37),(.nilchk (.t 29)),none,[]⟩,⟨(some 38),(.faddr 23 (.t 37)),none,[]⟩,⟨none,(.st 1 (.t 38) (.t 33)),none,[]⟩,⟨(some 39),(.nilchk (.t 30)),none,[]⟩,⟨(some 40),(.faddr 21 (.t 39)),none,[]⟩,⟨none,(.st 1 (.t 40) (.t 36)),none,[]⟩] none [3,2,0])
def cn7:Ze:=(.region [⟨(some 41),(.mov (.t 2)),none,[]⟩,⟨(some 42),(.mov (.t 2)),none,[]⟩,⟨(some 43),(.mov (.t 3)),none,[]⟩,⟨(some 44),(.bin .quo (.t 43) (.c (.int .i64 8))),none,[]⟩,⟨(some 45),(.bin .and (.t 44) (.c (.int .i64 3))),none,[]⟩,⟨(some 46),(.mov (.t 3)),none,[]⟩,⟨(some 47),(.bin .and (.t 46) (.c (.int .i64 32))),none,[]⟩,⟨(some 48),(.bin .neq (.t 47) (.c (.int .i64 0))),none,[]⟩,⟨(some 49),(.nilchk (.t 41)),none,[]⟩,⟨(some 50),(.faddr 16 (.t 49)),none,[]⟩,⟨(some 51),(.faddr 2 (.t 50)),none,[]⟩,⟨none,(.st 1 (.t 51) (.t 45)),none,[]⟩,⟨(some 52),(.nilchk (.t 42)),none,[]⟩,⟨(some 53),(.faddr 16 (.t 52)),none,[]⟩,⟨(some 54),(.faddr 3 (.t 53)),none,[]⟩,⟨none,(.st 1 (.t 54) (.t 48)),none,[]⟩] none [3,2,0])
def cn8:Ze:=(.region [⟨(some 55),(.mov (.t 3)),none,[]⟩,⟨(some 56),(.bin .and (.t 55) (.c (.int .i64 1))),none,[]⟩,⟨(some 57),(.bin .eql (.t 56) (.c (.int .i64 0))),none,[]⟩,⟨(some 58),(.mov (.t 57)),none,[]⟩,⟨(some 59),(.mov (.t 2)),(some (58,true)),[]⟩,⟨(some 60),(.nilchk (.t 59)),(some (58,true)),[]⟩,⟨(some 61),(.faddr 16 (.t 60)),(some (58,true)),[]⟩,⟨(some 62),(.faddr 2 (.t 61)),(some (58,true)),[]⟩,⟨(some 63),(.ld none (.t 62)),(some (58,true)),[]⟩,⟨(some 64),(.bin .lss (.t 63) (.c (.int .i64 3))),(some (58,true)),[]⟩,⟨(some 65),(.pick (.t 58) (.t 64) (.c (.bool false))),none,[]⟩,⟨(some 66),(.mov (.t 65)),none,[]⟩,⟨(some 67),(.mov (.t 2)),(some (66,true)),[]⟩,⟨(some 68),(.nilchk (.t 67)),(some (66,true)),[]⟩,⟨(some 69),(.faddr 15 (.t 68)),(some (66,true)),[]⟩,⟨(some 70),(.ld none (.t 69)),(some (66,true)),[]⟩,⟨(some 71),(.mov (.t 70)),(some (66,true)),[]⟩,⟨(some 72),(.mov (.t 2)),(some (71,false)),[]⟩,⟨(some 73),(.nilchk (.t 72)),(some (71,false)),[]⟩,⟨(some 74),(.faddr 16 (.t 73)),(some (71,false)),[]⟩,⟨(some 75),(.faddr 2 (.t 74)),(some (71,false)),[]⟩,⟨(some 76),(.ld none (.t 75)),(some (71,false)),[]⟩,⟨(some 77),(.bin .eql (.t 76) (.c (.int .i64 0))),(some (71,false)),[]⟩,⟨(some 78),(.mov (.t 77)),(some (71,false)),[]⟩,⟨(some 79),(.mov (.t 2)),(some (78,true)),[]⟩,⟨(some 80),(.nilchk (.t 79)),(some (78,true)),[]⟩,⟨(some 81),(.faddr 16 (.t 80)),(some (78,true)),[]⟩,⟨(some 82),(.faddr 3 (.t 81)),(some (78,true)),[]⟩,⟨(some 83),(.ld none (.t 82)),(some (78,true)),[]⟩,⟨(some 84),(.un .not (.t 83)),(some (78,true)),[]⟩,⟨(some 85),(.pick (.t 78) (.t 84) (.c (.bool false))),(some (71,false)),[]⟩,⟨(some 86),(.pick (.t 71) (.c (.bool true)) (.t 85)),(some (66,true)),[]⟩,⟨(some 87),(.pick (.t 66) (.t 86) (.c (.bool false))),none,[]⟩,⟨(some 88),(.call 113 0 true [(.t 87),(.c (.int .i64 129))]),none,[]⟩] none [2,0])
def cn9:Ze:=(.region [⟨(some 89),(.mov (.t 2)),none,[]⟩,⟨(some 90),(.mov (.t 0)),none,[]⟩,⟨(some 91),(.call 115 0 true [(.t 90),(.c (.int .i64 2))]),none,[]⟩,⟨(some 92),(.nilchk (.t 89)),none,[]⟩,⟨(some 93),(.faddr 13 (.t 92)),none,[]⟩,⟨none,(.st 1 (.t 93) (.t 91)),none,[]⟩] none [2,0])
def Zh0:Ze:=(.region [⟨(some 94),(.mov (.t 2)),none,[]⟩,⟨(some 95),(.mov (.t 0)),none,[]⟩,⟨(some 96),(.call 117 0 true [(.t 95),(.c (.int .i64 1))]),none,[]⟩,⟨(some 97),(.nilchk (.t 94)),none,[]⟩,⟨(some 98),(.faddr 9 (.t 97)),none,[]⟩,⟨none,(.st 1 (.t 98) (.t 96)),none,[]⟩] none [2,0])
def ZhC:Ze:=(.region [⟨(some 99),(.mov (.t 2)),none,[]⟩,⟨(some 100),(.mov (.t 0)),none,[]⟩,⟨(some 101),(.call 124 0 true [(.t 100)]),none,[]⟩,⟨(some 102),(.nilchk (.t 99)),none,[]⟩,⟨(some 103),(.faddr 14 (.t 102)),none,[]⟩,⟨none,(.st 1 (.t 103) (.t 101)),none,[]⟩] none [2,0])
def Zeb:Ze:=(.seq (.region [⟨(some 104),(.mov (.t 2)),none,[]⟩,⟨(some 105),(.nilchk (.t 104)),none,[]⟩,⟨(some 106),(.faddr 15 (.t 105)),none,[]⟩,⟨(some 107),(.ld none (.t 106)),none,[]⟩] none [107,2,0]) (.cond (.t 107) (.seq (.region [⟨(some 108),(.mov (.t 2)),none,[]⟩,⟨(some 109),(.mov (.t 0)),none,[]⟩,⟨(some 110),(.call 117 0 true [(.t 109),(.c (.int .i64 16))]),none,[]⟩,⟨(some 111),(.nilchk (.t 108)),none,[]⟩,⟨(some 112),(.faddr 16 (.t 111)),none,[]⟩,⟨(some 113),(.faddr 4 (.t 112)),none,[]⟩,⟨none,(.st 1 (.t 113) (.t 110)),none,[]⟩] none [2,0]) (.seq (.region [⟨(some 114),(.mov (.t 2)),none,[]⟩,⟨(some 115),(.mov (.t 0)),none,[]⟩,⟨(some 116),(.call 124 0 true [(.t 115)]),none,[]⟩,⟨(some 117),(.nilchk (.t 114)),none,[]⟩,⟨(some 118),(.faddr 16 (.t 117)),none,[]⟩,⟨(some 119),(.faddr 0 (.t 118)),none,[]⟩,⟨none,(.st 1 (.t 119) (.t 116)),none,[]⟩] none [2,0]) (.region [⟨(some 120),(.mov (.t 2)),none,[]⟩,⟨(some 121),(.mov (.t 0)),none,[]⟩,⟨(some 122),(.call 148 0 true [(.t 121)]),none,[]⟩,⟨(some 123),(.nilchk (.t 120)),none,[]⟩,⟨(some 124),(.faddr 16 (.t 123)),none,[]⟩,⟨(some 125),(.faddr 1 (.t 124)),none,[]⟩,⟨none,(.st 1 (.t 125) (.t 122)),none,[]⟩] none [2,0]))) .skip))
def ZeO:Ze:=(.seq (.region [⟨(some 126),(.mov (.t 2)),none,[]⟩,⟨(some 127),(.nilchk (.t 126)),none,[]⟩,⟨(some 128),(.faddr 21 (.t 127)),none,[]⟩,⟨(some 129),(.ld none (.t 128)),none,[]⟩] none [129,2,0]) (.cond (.t 129) (.region [⟨(some 130),(.mov (.t 2)),none,[]⟩,⟨(some 131),(.mov (.t 0)),none,[]⟩,⟨(some 132),(.call 124 0 true [(.t 131)]),none,[]⟩,⟨(some 133),(.nilchk (.t 130)),none,[]⟩,⟨(some 134),(.faddr 22 (.t 133)),none,[]⟩,⟨none,(.st 1 (.t 134) (.t 132)),none,[]⟩] none [2,0]) .skip))
def Zg9:Ze:=(.region [⟨(some 135),(.mov (.t 2)),none,[]⟩,⟨(some 136),(.nilchk (.t 135)),none,[]⟩,⟨(some 137),(.faddr 23 (.t 136)),none,[]⟩,⟨(some 138),(.ld none (.t 137)),none,[]⟩] none [138,2,0])
def Zd1:Ze:=(.cond (.t 138) (.region [⟨(some 139),(.mov (.t 2)),none,[]⟩,⟨(some 140),(.mov (.t 0)),none,[]⟩,⟨(some 141),(.call 148 0 true [(.t 140)]),none,[]⟩,⟨(some 142),(.nilchk (.t 139)),none,[]⟩,⟨(some 143),(.faddr 24 (.t 142)),none,[]⟩,⟨none,(.st 1 (.t 143) (.t 141)),none,[]⟩] none []) .skip)
theorem ZAw:ZoR=(.seq cn1 (.seq cn2 (.seq cn3 (.seq cn4 (.seq cn5 (.seq cn6 (.seq cn7 (.seq cn8 (.seq cn9 (.seq Zh0 (.seq ZhC (.seq Zeb (.seq ZeO (.seq Zg9 Zd1)))))))))))))):=rfl
def t20:Tms:=[(2,.ref 0 0),(0,.ref 0 0)]
def ZcU (m:Int):Tms:=[(3,.int .i64 m),(2,.ref 0 0),(0,.ref 0 0)]
def Zx (a b:Int):Int:=IntKind.i64.wrap (BitVec.ofInt IntKind.i64.bits a &&& BitVec.ofInt IntKind.i64.bits b).toNat
def Zej (m:Int):Int:=IntKind.i64.wrap (m.tdiv 8)
section
variable (P:List AVal) (hP:P.length=26) (hN:Zd P=true) (l:Zb) (hl:l.length<=140737488355328)
include hP hN hl
theorem ZyP:evC FC PR BY 1 cn1 [(0,.ref 0 0)] (Zi P l)=some (.normal,t20,Zi P l):=by
 unfold Zi t20
 simp -implicitDefEqProofs only [EQA,Nat.reduceLT,Nat.reduceEqDiff,reduceCtorEq,↓reduceIte,cn1]
theorem Zxs {r:Zb} (h:Zap l=.ok ([77,81,84,84],r)):evC FC PR BY 1 cn2 t20 (Zi P l)=some (.normal,t20,Zi P r):=by
 have hT:=fun σ sq hs=>Zer P hP hN l hl σ 0 sq hs h
 have m1:=Zbe
 have e1:(([77,81,84,84]:List UInt8) == [77,81,84,84])=true:=by decide
 unfold Zi t20
 simp -implicitDefEqProofs only [EQA,Nat.reduceLT,Nat.reduceEqDiff,Zcn,reduceCtorEq,↓reduceIte,cn2,hT,m1]
theorem ZC0 {a r:Zb} (h:Zap l=.ok (a,r)) (hn:(a == [77,81,84,84])=false):evC FC PR BY 1 cn2 t20 (Zi P l)=some (.panic (ZB 132),[],Zi P r):=by
 have hT:=fun σ sq hs=>Zer P hP hN l hl σ 0 sq hs h
 have m1:=Zby
 unfold Zi t20
 simp -implicitDefEqProofs only [EQA,Nat.reduceLT,Zcn,reduceCtorEq,↓reduceIte,cn2,hT,m1,hn]
theorem ZJl {c:Int} (h:Zap l=.error c):evC FC PR BY 1 cn2 t20 (Zi P l)=some (.panic (ZB c),[],Zi P l):=by
 have hT:=fun σ sq hs=>Zg0 P hP hN l hl σ 0 sq hs h
 unfold Zi t20
 simp -implicitDefEqProofs only [EQA,Nat.reduceLT,reduceCtorEq,↓reduceIte,cn2,hT]
theorem ZA2 {r:Zb} (h:ZaG 1 l=.ok (5,r)):evC FC PR BY 1 cn3 t20 (Zi P l)=some (.normal,t20,Zi P r):=by
 have hT:=fun σ sq hs=>ZcZ P hP hN l hl σ 0 sq hs (m:=1) rfl h
 have m1:=Zbe
 have e1:((5:Int) == 5)=true:=by decide
 unfold Zi t20
 simp -implicitDefEqProofs only [EQA,Nat.reduceLT,Nat.reduceEqDiff,reduceCtorEq,↓reduceIte,cn3,hT,m1]
theorem Zy8 {a:Int} {r:Zb} (h:ZaG 1 l=.ok (a,r)) (hn:(a == 5)=false):evC FC PR BY 1 cn3 t20 (Zi P l)=some (.panic (ZB 132),[],Zi P r):=by
 have hT:=fun σ sq hs=>ZcZ P hP hN l hl σ 0 sq hs (m:=1) rfl h
 have m1:=Zby
 unfold Zi t20
 simp -implicitDefEqProofs only [EQA,Nat.reduceLT,reduceCtorEq,↓reduceIte,cn3,hT,m1,hn]
theorem ZLa {c:Int} (h:ZaG 1 l=.error c):evC FC PR BY 1 cn3 t20 (Zi P l)=some (.panic (ZB c),[],Zi P l):=by
 have hT:=fun σ sq hs=>ZgA P hP hN l hl σ 0 sq hs (m:=1) rfl (by decide) h
 unfold Zi t20
 simp -implicitDefEqProofs only [EQA,Nat.reduceLT,reduceCtorEq,↓reduceIte,cn3,hT]
theorem ZFG {m:Int} {r:Zb} (h:ZaG 1 l=.ok (m,r)):evC FC PR BY 1 cn4 t20 (Zi P l)=some (.normal,ZcU m,Zi P r):=by
 have hT:=fun σ sq hs=>ZcZ P hP hN l hl σ 0 sq hs (m:=1) rfl h
 unfold Zi t20 ZcU
 simp -implicitDefEqProofs only [EQA,Nat.reduceLT,Nat.reduceEqDiff,reduceCtorEq,↓reduceIte,cn4,hT]
theorem ZBP {c:Int} (h:ZaG 1 l=.error c):evC FC PR BY 1 cn4 t20 (Zi P l)=some (.panic (ZB c),[],Zi P l):=by
 have hT:=fun σ sq hs=>ZgA P hP hN l hl σ 0 sq hs (m:=1) rfl (by decide) h
 unfold Zi t20
 simp -implicitDefEqProofs only [EQA,Nat.reduceLT,reduceCtorEq,↓reduceIte,cn4,hT]
theorem Zw7 (m:Int):evC FC PR BY 1 cn5 (ZcU m) (Zi P l)=some (.normal,ZcU m,Zi ((P.set 12 (.bool (Zx m 2 != 0))).set 15 (.bool (Zx m 4 != 0))) l):=by
 have a1:=Zaa P hP
 have a3:=fun L=>Zaw P hP 12 13 (by omega) rfl L (.bool (Zx m 2 != 0))
 have hP1:(P.set 12 (.bool (Zx m 2 != 0))).length=26:=by simp [hP]
 have b1:=Zaa _ hP1
 have b3:=fun L=>Zaw _ hP1 15 16 (by omega) rfl L (.bool (Zx m 4 != 0))
 unfold Zi ZcU
 unfold Zx at *
 simp -implicitDefEqProofs only [EQA,ZK,Nat.reduceAdd,Nat.reduceLT,Nat.reduceLeDiff,Nat.reduceEqDiff,reduceCtorEq,↓reduceIte,cn5,a1,a3,b1,b3]
theorem ZOQ (m:Int):evC FC PR BY 1 cn6 (ZcU m) (Zi P l)=some (.normal,ZcU m,Zi ((P.set 23 (.bool (Zx m 64 != 0))).set 21 (.bool (Zx m 128 != 0))) l):=by
 have a1:=Zaa P hP
 have a3:=fun L=>Zaw P hP 23 24 (by omega) rfl L (.bool (Zx m 64 != 0))
 have hP1:(P.set 23 (.bool (Zx m 64 != 0))).length=26:=by simp [hP]
 have b1:=Zaa _ hP1
 have b3:=fun L=>Zaw _ hP1 21 22 (by omega) rfl L (.bool (Zx m 128 != 0))
 unfold Zi ZcU
 unfold Zx at *
 simp -implicitDefEqProofs only [EQA,ZK,Nat.reduceAdd,Nat.reduceLT,Nat.reduceLeDiff,Nat.reduceEqDiff,reduceCtorEq,↓reduceIte,cn6,a1,a3,b1,b3]
theorem ZJB (m:Int):evC FC PR BY 1 cn7 (ZcU m) (Zi P l)=some (.normal,ZcU m,Zi ((P.set 18 (.int .i64 (Zx (Zej m) 3))).set 19 (.bool (Zx m 32 != 0))) l):=by
 have a1:=Zaa P hP
 have a3:=fun L=>Zaw P hP 18 19 (by omega) rfl L (.int .i64 (Zx (Zej m) 3))
 have hP1:(P.set 18 (.int .i64 (Zx (Zej m) 3))).length=26:=by simp [hP]
 have b1:=Zaa _ hP1
 have b3:=fun L=>Zaw _ hP1 19 20 (by omega) rfl L (.bool (Zx m 32 != 0))
 have z:¬(8:Int)=0:=by decide
 unfold Zi ZcU
 unfold Zx Zej at *
 simp -implicitDefEqProofs only [EQA,ZK,Nat.reduceAdd,Nat.reduceLT,Nat.reduceLeDiff,Nat.reduceEqDiff,reduceCtorEq,↓reduceIte,cn7,a1,a3,b1,b3,z]
theorem ZMK {n:Int} {r:Zb} (h:ZaG 2 l=.ok (n,r)):evC FC PR BY 1 cn9 t20 (Zi P l)=some (.normal,t20,Zi (P.set 13 (.int .i64 n)) r):=by
 have hT:=fun σ sq hs=>ZcZ P hP hN l hl σ 0 sq hs (m:=2) rfl h
 have a1:=Zaa P hP
 have a3:=Zaw P hP 13 14 (by omega) rfl
 unfold Zi t20
 simp -implicitDefEqProofs only [EQA,ZK,Nat.reduceAdd,Nat.reduceLT,Nat.reduceLeDiff,Nat.reduceEqDiff,reduceCtorEq,↓reduceIte,cn9,hT,a1,a3]
theorem ZIQ {c:Int} (h:ZaG 2 l=.error c):evC FC PR BY 1 cn9 t20 (Zi P l)=some (.panic (ZB c),[],Zi P l):=by
 have hT:=fun σ sq hs=>ZgA P hP hN l hl σ 0 sq hs (m:=2) rfl (by decide) h
 unfold Zi t20
 simp -implicitDefEqProofs only [EQA,Nat.reduceLT,reduceCtorEq,↓reduceIte,cn9,hT]
theorem Zzk (hu:(Z0 1 l).2.1<=l.length) {a:List Zn} {r:Zb} (h:ZbC 1 l=.ok (a,r)):evC FC PR BY 1 Zh0 t20 (Zi P l)=some (.normal,t20,Zi (P.set 9 (.lst false (a.map Zg))) r):=by
 have hT:=fun σ sq hs=>Zeg P hP hN l hl σ 0 sq hs hu h
 have a1:=Zaa P hP
 have a3:=Zaw P hP 9 10 (by omega) rfl
 unfold Zi t20
 simp -implicitDefEqProofs only [EQA,ZK,Nat.reduceAdd,Nat.reduceLT,Nat.reduceLeDiff,Nat.reduceEqDiff,reduceCtorEq,↓reduceIte,Zh0,hT,a1,a3]
theorem ZNM {c:Int} (h:ZbC 1 l=.error c):evC FC PR BY 1 Zh0 t20 (Zi P l)=some (.panic (ZB c),[],Zi P l):=by
 have hT:=fun σ sq hs=>ZfK P hP hN l hl σ 0 sq hs h
 unfold Zi t20
 simp -implicitDefEqProofs only [EQA,Nat.reduceLT,reduceCtorEq,↓reduceIte,Zh0,hT]
theorem ZNF {a r:Zb} (h:Zap l=.ok (a,r)):evC FC PR BY 1 ZhC t20 (Zi P l)=some (.normal,t20,Zi (P.set 14 (.str a)) r):=by
 have hT:=fun σ sq hs=>Zer P hP hN l hl σ 0 sq hs h
 have a1:=Zaa P hP
 have a3:=Zaw P hP 14 15 (by omega) rfl
 unfold Zi t20
 simp -implicitDefEqProofs only [EQA,ZK,Nat.reduceAdd,Nat.reduceLT,Nat.reduceLeDiff,Nat.reduceEqDiff,reduceCtorEq,↓reduceIte,ZhC,hT,a1,a3]
theorem ZEd {c:Int} (h:Zap l=.error c):evC FC PR BY 1 ZhC t20 (Zi P l)=some (.panic (ZB c),[],Zi P l):=by
 have hT:=fun σ sq hs=>Zg0 P hP hN l hl σ 0 sq hs h
 unfold Zi t20
 simp -implicitDefEqProofs only [EQA,Nat.reduceLT,reduceCtorEq,↓reduceIte,ZhC,hT]
end
def Zhm (m q:Int) (hw rt:Bool):Bool:=(Zx m 1 == 0) && decide (q < 3) && (hw || ((q == 0) && !rt))
section
variable (P:List AVal) (hP:P.length=26) (hN:Zd P=true) (l:Zb) (hl:l.length<=140737488355328)
variable (m q:Int) (hw rt:Bool) (h15:P[15]?=some (.bool hw)) (h18:P[18]?=some (.int .i64 q)) (h19:P[19]?=some (.bool rt))
include hP hN hl h15 h18 h19
theorem ZwO (h:Zhm m q hw rt=true):evC FC PR BY 1 cn8 (ZcU m) (Zi P l)=some (.normal,t20,Zi P l):=by
 have a4:=fun L=>(Zad P hP 15 (by omega) L).trans h15
 have a5:=fun L=>(Zad P hP 18 (by omega) L).trans h18
 have a6:=fun L=>(Zad P hP 19 (by omega) L).trans h19
 have m1:=Zbe
 unfold Zhm Zx at h
 simp only [Bool.and_eq_true,decide_eq_true_eq,Bool.or_eq_true] at h
 obtain ⟨⟨e1,e2⟩,e3⟩:=h
 unfold Zi ZcU t20
 cases hw
 ·simp only [Bool.false_eq_true,false_or] at e3
  obtain ⟨e3,e4⟩:=e3
  cases rt
  ·simp -implicitDefEqProofs only [EQA,Nat.reduceAdd,Nat.reduceLT,Nat.reduceEqDiff,unA,ZD,unG,reduceCtorEq,↓reduceIte,cn8,a4,a5,a6,m1,e1,e2,e3]
  ·cases e4
 ·simp -implicitDefEqProofs only [EQA,Nat.reduceAdd,Nat.reduceLT,Nat.reduceEqDiff,ZD,Zam,unG,reduceCtorEq,↓reduceIte,cn8,a4,a5,m1,e1,e2]
theorem ZGe (h:Zhm m q hw rt=false):evC FC PR BY 1 cn8 (ZcU m) (Zi P l)=some (.panic (ZB 129),[],Zi P l):=by
 have a4:=fun L=>(Zad P hP 15 (by omega) L).trans h15
 have a5:=fun L=>(Zad P hP 18 (by omega) L).trans h18
 have a6:=fun L=>(Zad P hP 19 (by omega) L).trans h19
 have m1:=Zby
 unfold Zhm Zx at h
 unfold Zi ZcU
 by_cases e1:(IntKind.i64.wrap (BitVec.ofInt IntKind.i64.bits m &&& BitVec.ofInt IntKind.i64.bits 1).toNat == 0)=true
 ·rw [e1] at h
  by_cases e2:q < 3
  ·cases hw
   ·by_cases e3:(q == 0)=true
    ·cases rt
     ·simp [e2,e3] at h
     ·simp -implicitDefEqProofs only [EQA,Nat.reduceAdd,Nat.reduceLT,Nat.reduceEqDiff,unA,ZD,unG,reduceCtorEq,↓reduceIte,cn8,a4,a5,a6,m1,e1,e2,e3]
    ·have e3:=Bool.not_eq_true _ |>.mp e3
     simp -implicitDefEqProofs only [EQA,Nat.reduceAdd,Nat.reduceLT,Nat.reduceEqDiff,ZD,Zam,unG,reduceCtorEq,↓reduceIte,cn8,a4,a5,m1,e1,e2,e3]
   ·simp [e2] at h
  ·simp -implicitDefEqProofs only [EQA,Nat.reduceAdd,Nat.reduceLT,Nat.reduceEqDiff,ZD,Zam,unG,reduceCtorEq,↓reduceIte,cn8,a5,m1,e1,e2]
 ·have e1:=Bool.not_eq_true _ |>.mp e1
  simp -implicitDefEqProofs only [EQA,Nat.reduceLT,Nat.reduceEqDiff,ZD,Zam,reduceCtorEq,↓reduceIte,cn8,m1,e1]
end
def Zdt (n:Nat):Tms:=[(n,.bool false),(2,.ref 0 0),(0,.ref 0 0)]
def Zhz (P:List AVal) (ps:List Zn) (tp d:Zb):List AVal:=((P.set 20 (.lst false (ps.map Zg))).set 16 (.str tp)).set 17 (.lst false (d.map Zc))
def Zeo (l:Zb):Except Int (List Zn×Zb×Zb×Zb):=match ZbC 16 l with
 | .error c=>.error c
 | .ok (ps,r1)=>match Zap r1 with
  | .error c=>.error c
  | .ok (tp,r2)=>match Zdh r2 with
   | .error c=>.error c
   | .ok (d,r3)=>.ok (ps,tp,d,r3)
section
variable (P:List AVal) (hP:P.length=26) (hN:Zd P=true) (l:Zb) (hl:l.length<=140737488355328)
include hP hN hl
theorem ZIG (h15:P[15]?=some (.bool false)):evC FC PR BY 1 Zeb t20 (Zi P l)=some (.normal,Zdt 107,Zi P l):=by
 have a4:=fun L=>(Zad P hP 15 (by omega) L).trans h15
 unfold Zi t20 Zdt
 simp -implicitDefEqProofs only [EQA,Nat.reduceLT,Nat.reduceEqDiff,reduceCtorEq,↓reduceIte,Zeb,a4]
theorem ZCP (h15:P[15]?=some (.bool true)) (hu:(Z0 16 l).2.1<=l.length) {ps:List Zn} {tp d r:Zb} (h:Zeo l=.ok (ps,tp,d,r)):evC FC PR BY 1 Zeb t20 (Zi P l)=some (.normal,t20,Zi (Zhz P ps tp d) r):=by
 have a1:=Zaa P hP
 have a4:=fun L=>(Zad P hP 15 (by omega) L).trans h15
 unfold Zeo at h
 split at h
 ·cases h
 rename_i ps' r1 hp
 split at h
 ·cases h
 rename_i tp' r2 ht
 split at h
 ·cases h
 rename_i d' r3 hd
 have l1:=ZgD hp
 have l2:=ZdQ ht
 injection h with h;injection h with e1 h;injection h with e2 h;injection h with e3 e4;subst e1 e2 e3 e4
 have hG:=fun σ sq hs=>Zeg P hP hN l hl σ 0 sq hs hu hp
 have a3:=fun L=>Zaw P hP 20 21 (by omega) rfl L (.lst false (ps'.map Zg))
 unfold Zhz
 have hP1:(P.set 20 (.lst false (ps'.map Zg))).length=26:=by simp [hP]
 have hN1:Zd (P.set 20 (.lst false (ps'.map Zg)))=true:=ZT (Zb5 _ _) 20 hN
 generalize P.set 20 (.lst false (ps'.map Zg))=Q at *
 have hT:=fun σ sq hs=>Zer Q hP1 hN1 r1 (by omega) σ 0 sq hs ht
 have b1:=Zaa _ hP1
 have b3:=fun L=>Zaw _ hP1 16 17 (by omega) rfl L (.str tp')
 have hP2:(Q.set 16 (.str tp')).length=26:=by simp [hP1]
 have hN2:Zd (Q.set 16 (.str tp'))=true:=ZT rfl 16 hN1
 generalize Q.set 16 (.str tp')=R at *
 have hD:=fun σ sq hs=>Zv4 R hP2 hN2 r2 (by omega) σ 0 sq hs hd
 have c1:=Zaa _ hP2
 have c3:=Zaw _ hP2 17 18 (by omega) rfl
 unfold Zi t20
 simp -implicitDefEqProofs only [EQA,ZK,Nat.reduceAdd,Nat.reduceLT,Nat.reduceLeDiff,Nat.reduceEqDiff,reduceCtorEq,↓reduceIte,Zeb,a1,a3,a4,b1,b3,c1,c3,hG,hT,hD]
theorem ZIH (h15:P[15]?=some (.bool true)) (hu:(Z0 16 l).2.1<=l.length) {c:Int} (h:Zeo l=.error c):∃ cs,Zd cs=true/\evC FC PR BY 1 Zeb t20 (Zi P l)=some (.panic (ZB c),[],[.var cs]):=by
 have a1:=Zaa P hP
 have a4:=fun L=>(Zad P hP 15 (by omega) L).trans h15
 unfold Zeo at h
 split at h
 ·rename_i c' hp
  injection h with h;subst h
  have hG:=fun σ sq hs=>ZfK P hP hN l hl σ 0 sq hs hp
  refine ⟨P++[.lst false (l.map Zc)],Zy P hP hN _ _,?_⟩
  unfold Zi t20
  simp -implicitDefEqProofs only [EQA,Nat.reduceLT,Nat.reduceEqDiff,reduceCtorEq,↓reduceIte,Zeb,a4,hG]
 rename_i ps' r1 hp
 have l1:=ZgD hp
 have hG:=fun σ sq hs=>Zeg P hP hN l hl σ 0 sq hs hu hp
 have a3:=fun L=>Zaw P hP 20 21 (by omega) rfl L (.lst false (ps'.map Zg))
 have hP1:(P.set 20 (.lst false (ps'.map Zg))).length=26:=by simp [hP]
 have hN1:Zd (P.set 20 (.lst false (ps'.map Zg)))=true:=ZT (Zb5 _ _) 20 hN
 generalize P.set 20 (.lst false (ps'.map Zg))=Q at *
 have b1:=Zaa _ hP1
 split at h
 ·rename_i c' ht
  injection h with h;subst h
  have hT:=fun σ sq hs=>Zg0 Q hP1 hN1 r1 (by omega) σ 0 sq hs ht
  refine ⟨Q++[.lst false (r1.map Zc)],Zy Q hP1 hN1 _ _,?_⟩
  unfold Zi t20
  simp -implicitDefEqProofs only [EQA,ZK,Nat.reduceAdd,Nat.reduceLT,Nat.reduceLeDiff,Nat.reduceEqDiff,reduceCtorEq,↓reduceIte,Zeb,a1,a3,a4,hG,hT]
 rename_i tp' r2 ht
 have l2:=ZdQ ht
 have hT:=fun σ sq hs=>Zer Q hP1 hN1 r1 (by omega) σ 0 sq hs ht
 have b3:=fun L=>Zaw _ hP1 16 17 (by omega) rfl L (.str tp')
 have hP2:(Q.set 16 (.str tp')).length=26:=by simp [hP1]
 have hN2:Zd (Q.set 16 (.str tp'))=true:=ZT rfl 16 hN1
 generalize Q.set 16 (.str tp')=R at *
 split at h
 ·rename_i c' hd
  injection h with h;subst h
  have hD:=fun σ sq hs=>Zu9 R hP2 hN2 r2 (by omega) σ 0 sq hs hd
  refine ⟨R++[.lst false (r2.map Zc)],Zy R hP2 hN2 _ _,?_⟩
  unfold Zi t20
  simp -implicitDefEqProofs only [EQA,ZK,Nat.reduceAdd,Nat.reduceLT,Nat.reduceLeDiff,Nat.reduceEqDiff,reduceCtorEq,↓reduceIte,Zeb,a1,a3,a4,b1,b3,hG,hT,hD]
 ·cases h
theorem ZzO {tm:Tms} (ht:tm=t20\/tm=Zdt 107) (h21:P[21]?=some (.bool false)):evC FC PR BY 1 ZeO tm (Zi P l)=some (.normal,Zdt 129,Zi P l):=by
 have a4:=fun L=>(Zad P hP 21 (by omega) L).trans h21
 rcases ht with rfl | rfl <;> unfold Zi Zdt <;> try unfold t20
 all_goals simp -implicitDefEqProofs only [EQA,Nat.reduceLT,Nat.reduceEqDiff,reduceCtorEq,↓reduceIte,ZeO,a4]
theorem ZzE {tm:Tms} (htm:tm=t20\/tm=Zdt 107) (h21:P[21]?=some (.bool true)) {a r:Zb} (h:Zap l=.ok (a,r)):evC FC PR BY 1 ZeO tm (Zi P l)=some (.normal,t20,Zi (P.set 22 (.str a)) r):=by
 have a1:=Zaa P hP
 have a4:=fun L=>(Zad P hP 21 (by omega) L).trans h21
 have hT:=fun σ sq hs=>Zer P hP hN l hl σ 0 sq hs h
 have a3:=Zaw P hP 22 23 (by omega) rfl
 rcases htm with rfl | rfl <;> unfold Zi t20 <;> try unfold Zdt
 all_goals simp -implicitDefEqProofs only [EQA,ZK,Nat.reduceAdd,Nat.reduceLT,Nat.reduceLeDiff,Nat.reduceEqDiff,reduceCtorEq,↓reduceIte,ZeO,a1,a3,a4,hT]
theorem ZH8 {tm:Tms} (htm:tm=t20\/tm=Zdt 107) (h21:P[21]?=some (.bool true)) {c:Int} (h:Zap l=.error c):evC FC PR BY 1 ZeO tm (Zi P l)=some (.panic (ZB c),[],Zi P l):=by
 have a4:=fun L=>(Zad P hP 21 (by omega) L).trans h21
 have hT:=fun σ sq hs=>Zg0 P hP hN l hl σ 0 sq hs h
 rcases htm with rfl | rfl <;> unfold Zi <;> first | unfold Zdt | unfold t20
 all_goals simp -implicitDefEqProofs only [EQA,Nat.reduceLT,Nat.reduceEqDiff,reduceCtorEq,↓reduceIte,ZeO,a4,hT]
theorem ZMj {tm:Tms} {b:Bool} (htm:tm=t20\/tm=Zdt 129) (h23:P[23]?=some (.bool b)):evC FC PR BY 1 Zg9 tm (Zi P l)=some (.normal,[(138,.bool b),(2,.ref 0 0),(0,.ref 0 0)],Zi P l):=by
 have a4:=fun L=>(Zad P hP 23 (by omega) L).trans h23
 rcases htm with rfl | rfl <;> unfold Zi <;> first | unfold Zdt | unfold t20
 all_goals simp -implicitDefEqProofs only [EQA,Nat.reduceLT,Nat.reduceEqDiff,reduceCtorEq,↓reduceIte,Zg9,a4]
theorem ZKI:KRun Zd1 [(138,.bool false),(2,.ref 0 0),(0,.ref 0 0)] P l (.ok (P,l)):=by
 refine ⟨[(138,.bool false),(2,.ref 0 0),(0,.ref 0 0)],?_,hP,hN,Nat.le_refl _⟩
 unfold Zi
 simp -implicitDefEqProofs only [Zvb,eq_self,Opd.ev,tget,Bool.false_eq_true,↓reduceIte,Zd1]
theorem ZG0 {a r:Zb} (h:Zdh l=.ok (a,r)):KRun Zd1 [(138,.bool true),(2,.ref 0 0),(0,.ref 0 0)] P l (.ok (P.set 24 (.lst false (a.map Zc)),r)):=by
 have a1:=Zaa P hP
 have hT:=fun σ sq hs=>Zv4 P hP hN l hl σ 0 sq hs h
 have a3:=Zaw P hP 24 25 (by omega) rfl
 refine ⟨[],?_,by simp [hP],ZT (Zb5 _ _) 24 hN,ZuJ h⟩
 unfold Zi
 simp -implicitDefEqProofs only [EQA,ZK,Nat.reduceAdd,Nat.reduceLT,Nat.reduceLeDiff,Nat.reduceEqDiff,reduceCtorEq,↓reduceIte,Zd1,a1,a3,hT]
theorem ZKo {c:Int} (h:Zdh l=.error c):KRun Zd1 [(138,.bool true),(2,.ref 0 0),(0,.ref 0 0)] P l (.error c):=by
 have hT:=fun σ sq hs=>Zu9 P hP hN l hl σ 0 sq hs h
 refine ⟨[],[],P++[.lst false (l.map Zc)],Zy P hP hN _ _,?_⟩
 unfold Zi
 simp -implicitDefEqProofs only [EQA,Nat.reduceLT,Nat.reduceEqDiff,reduceCtorEq,↓reduceIte,Zd1,hT]
end
def ZbE (P:List AVal) (m:Int):List AVal:=((((((P.set 12 (.bool (Zx m 2 != 0))).set 15 (.bool (Zx m 4 != 0))).set 23 (.bool (Zx m 64 != 0))).set 21 (.bool (Zx m 128 != 0))).set 18 (.int .i64 (Zx (Zej m) 3))).set 19 (.bool (Zx m 32 != 0)))
def Zjk (P:List AVal) (k:Int) (ps:List Zn) (cl:Zb):List AVal:=((P.set 13 (.int .i64 k)).set 9 (.lst false (ps.map Zg))).set 14 (.str cl)
def Zig (b:Bool) (s:KSt):Except Int KSt:=if b=true then (match Zdh s.2 with
 | .error c=>.error c
 | .ok (d,r)=>.ok (s.1.set 24 (.lst false (d.map Zc)),r)) else .ok s
def ZhJ (b:Bool) (s:KSt):Except Int KSt:=if b=true then (match Zap s.2 with
 | .error c=>.error c
 | .ok (d,r)=>.ok (s.1.set 22 (.str d),r)) else .ok s
def ZjM (b:Bool) (s:KSt):Except Int KSt:=if b=true then (match Zeo s.2 with
 | .error c=>.error c
 | .ok (ps,tp,d,r)=>.ok (Zhz s.1 ps tp d,r)) else .ok s
def ZjI (m:Int) (s:KSt):Except Int KSt:=match ZjM (Zx m 4 != 0) s with
 | .error c=>.error c
 | .ok s=>match ZhJ (Zx m 128 != 0) s with
  | .error c=>.error c
  | .ok s=>Zig (Zx m 64 != 0) s
def Zjq (P:List AVal) (m:Int) (l:Zb):Except Int KSt:=match ZaG 2 l with
 | .error c=>.error c
 | .ok (k,r4)=>match ZbC 1 r4 with
  | .error c=>.error c
  | .ok (ps,r5)=>match Zap r5 with
   | .error c=>.error c
   | .ok (cl,r6)=>ZjI m (Zjk (ZbE P m) k ps cl,r6)
def Zjb (P:List AVal) (l:Zb):Except Int KSt:=match Zap l with
 | .error c=>.error c
 | .ok (s,r1)=>if (s == [77,81,84,84])=true then (match ZaG 1 r1 with
  | .error c=>.error c
  | .ok (v,r2)=>if (v == 5)=true then (match ZaG 1 r2 with
   | .error c=>.error c
   | .ok (m,r3)=>if Zhm m (Zx (Zej m) 3) (Zx m 4 != 0) (Zx m 32 != 0)=true then Zjq P m r3 else .error 129)
   else .error 132)
  else .error 132
theorem ZuG (P:List AVal) (hP:P.length=26) (hN:Zd P=true) (l:Zb) (hl:l.length<=140737488355328) {tm:Tms} {b:Bool} (htm:tm=t20\/tm=Zdt 129) (h23:P[23]?=some (.bool b)):KRun (.seq Zg9 Zd1) tm P l (Zig b (P,l)):=by
 refine KRun.seqT (ZMj P hP hN l hl htm h23) (Nat.le_refl _) ?_
 unfold Zig
 cases b
 ·exact ZKI P hP hN l hl
 ·rw [if_pos rfl]
  cases h:Zdh l with
  | error c=>exact ZKo P hP hN l hl h
  | ok a=>exact ZG0 P hP hN l hl h
theorem ZtM (P:List AVal) (hP:P.length=26) (hN:Zd P=true) (l:Zb) (hl:l.length<=140737488355328) {tm:Tms} {b bp:Bool} (htm:tm=t20\/tm=Zdt 107) (h21:P[21]?=some (.bool b)) (h23:P[23]?=some (.bool bp)):KRun (.seq ZeO (.seq Zg9 Zd1)) tm P l (match ZhJ b (P,l) with
  | .error c=>.error c
  | .ok s=>Zig bp s):=by
 unfold ZhJ
 cases b
 ·rw [if_neg (by simp)]
  refine KRun.seqT (ZzO P hP hN l hl htm h21) (Nat.le_refl _) ?_
  exact ZuG P hP hN l hl (Or.inr rfl) h23
 ·rw [if_pos rfl]
  cases h:Zap l with
  | error c=>exact KRun.seqF (Zy P hP hN _ _) (ZH8 P hP hN l hl htm h21 h)
  | ok a =>
   have hr:=ZdQ h
   refine KRun.seqT (ZzE P hP hN l hl htm h21 h) hr ?_
   exact ZuG _ (by simp [hP]) (ZT rfl 22 hN) a.2 (by omega) (Or.inl rfl) (by rw [List.getElem?_set_ne (by omega)];exact h23)
theorem Zxr {l:Zb} {ps:List Zn} {tp d r:Zb} (h:Zeo l=.ok (ps,tp,d,r)):r.length<=l.length:=by
 unfold Zeo at h
 split at h
 ·cases h
 rename_i h1
 split at h
 ·cases h
 rename_i h2
 split at h
 ·cases h
 rename_i h3
 injection h with h;injection h with e1 h;injection h with e2 h;injection h with e3 e4;subst e4
 have:=ZgD h1;have:=ZdQ h2;have:=ZuJ h3
 omega
theorem ZGg (P:List AVal) (hP:P.length=26) (hN:Zd P=true) (l:Zb) (hl:l.length<=140737488355328) {m:Int} (hu:(Z0 16 l).2.1<=l.length) (h15:P[15]?=some (.bool (Zx m 4 != 0))) (h21:P[21]?=some (.bool (Zx m 128 != 0))) (h23:P[23]?=some (.bool (Zx m 64 != 0))):KRun (.seq Zeb (.seq ZeO (.seq Zg9 Zd1))) t20 P l (ZjI m (P,l)):=by
 unfold ZjI ZjM
 cases hb:(Zx m 4 != 0)
 ·rw [hb] at h15
  rw [if_neg (by simp)]
  refine KRun.seqT (ZIG P hP hN l hl h15) (Nat.le_refl _) ?_
  exact ZtM P hP hN l hl (Or.inr rfl) h21 h23
 ·rw [hb] at h15
  rw [if_pos rfl]
  cases h:Zeo l with
  | error c =>
   obtain ⟨cs,h1,h2⟩:=ZIH P hP hN l hl h15 hu h
   exact KRun.seqF h1 h2
  | ok a =>
   obtain ⟨ps,tp,d,r⟩:=a
   have hr:=Zxr h
   refine KRun.seqT (ZCP P hP hN l hl h15 hu h) hr ?_
   refine ZtM _ (by simp [hP]) (ZT (Zb5 _ _) 17 (ZT rfl 16 (ZT (Zb5 _ _) 20 hN))) r (by omega) (Or.inl rfl) ?_ ?_
   ·rw [List.getElem?_set_ne (by omega),List.getElem?_set_ne (by omega),List.getElem?_set_ne (by omega)];exact h21
   ·rw [List.getElem?_set_ne (by omega),List.getElem?_set_ne (by omega),List.getElem?_set_ne (by omega)];exact h23
theorem ZIY (P:List AVal) (hP:P.length=26) (hN:Zd P=true) (l:Zb) (hl:l.length<=140737488355328) {m:Int} (hu1:∀ r:Zb,r.length<=140737488355328->(Z0 1 r).2.1<=r.length) (hu:∀ r:Zb,r.length<=140737488355328->(Z0 16 r).2.1<=r.length):KRun (.seq cn9 (.seq Zh0 (.seq ZhC (.seq Zeb (.seq ZeO (.seq Zg9 Zd1)))))) t20 (ZbE P m) l (Zjq P m l):=by
 have hM:(ZbE P m).length=26:=by simp [ZbE,hP]
 have hMN:Zd (ZbE P m)=true:=ZT rfl _ (ZT rfl _ (ZT rfl _ (ZT rfl _ (ZT rfl _ (ZT rfl _ hN)))))
 have g15:(ZbE P m)[15]?=some (.bool (Zx m 4 != 0)):=by simp [ZbE,hP]
 have g21:(ZbE P m)[21]?=some (.bool (Zx m 128 != 0)):=by simp [ZbE,hP]
 have g23:(ZbE P m)[23]?=some (.bool (Zx m 64 != 0)):=by simp [ZbE,hP]
 unfold Zjq Zjk
 generalize ZbE P m=M at *
 cases h1:ZaG 2 l with
 | error c=>exact KRun.seqF (Zy M hM hMN _ _) (ZIQ M hM hMN l hl h1)
 | ok a =>
 obtain ⟨k,r4⟩:=a
 have l1:=Zhb h1
 refine KRun.seqT (ZMK M hM hMN l hl h1) l1 ?_
 have hM1:(M.set 13 (.int .i64 k)).length=26:=by simp [hM]
 have hN1:Zd (M.set 13 (.int .i64 k))=true:=ZT rfl 13 hMN
 simp only
 cases h2:ZbC 1 r4 with
 | error c=>exact KRun.seqF (Zy _ hM1 hN1 _ _) (ZNM _ hM1 hN1 r4 (by omega) h2)
 | ok a =>
 obtain ⟨ps,r5⟩:=a
 have l2:=ZgD h2
 refine KRun.seqT (Zzk _ hM1 hN1 r4 (by omega) (hu1 r4 (by omega)) h2) l2 ?_
 have hM2:((M.set 13 (.int .i64 k)).set 9 (.lst false (ps.map Zg))).length=26:=by simp [hM]
 have hN2:Zd ((M.set 13 (.int .i64 k)).set 9 (.lst false (ps.map Zg)))=true:=ZT (Zb5 _ _) 9 hN1
 simp only
 cases h3:Zap r5 with
 | error c=>exact KRun.seqF (Zy _ hM2 hN2 _ _) (ZEd _ hM2 hN2 r5 (by omega) h3)
 | ok a =>
 obtain ⟨cl,r6⟩:=a
 have l3:=ZdQ h3
 refine KRun.seqT (ZNF _ hM2 hN2 r5 (by omega) h3) l3 ?_
 refine ZGg _ (by simp [hM]) (ZT rfl 14 hN2) r6 (by omega) (hu r6 (by omega)) ?_ ?_ ?_
 ·rw [List.getElem?_set_ne (by omega),List.getElem?_set_ne (by omega),List.getElem?_set_ne (by omega)];exact g15
 ·rw [List.getElem?_set_ne (by omega),List.getElem?_set_ne (by omega),List.getElem?_set_ne (by omega)];exact g21
 ·rw [List.getElem?_set_ne (by omega),List.getElem?_set_ne (by omega),List.getElem?_set_ne (by omega)];exact g23
theorem ZyA (P:List AVal) (hP:P.length=26) (hN:Zd P=true) (l:Zb) (hl:l.length<=140737488355328) (hu1:∀ r:Zb,r.length<=140737488355328->(Z0 1 r).2.1<=r.length) (hu:∀ r:Zb,r.length<=140737488355328->(Z0 16 r).2.1<=r.length):KRun ZoR [(0,.ref 0 0)] P l (Zjb P l):=by
 rw [ZAw]
 refine KRun.seqT (ZyP P hP hN l hl) (Nat.le_refl _) ?_
 unfold Zjb
 cases h1:Zap l with
 | error c=>exact KRun.seqF (Zy _ hP hN _ _) (ZJl P hP hN l hl h1)
 | ok a =>
 obtain ⟨s,r1⟩:=a
 have l1:=ZdQ h1
 simp only
 split
 case isFalse hs=>exact KRun.seqF (Zy _ hP hN _ _) (ZC0 P hP hN l hl h1 (Bool.not_eq_true _ |>.mp hs))
 rename_i hs
 have hs:=eq_of_beq hs
 subst hs
 refine KRun.seqT (Zxs P hP hN l hl h1) l1 ?_
 cases h2:ZaG 1 r1 with
 | error c=>exact KRun.seqF (Zy _ hP hN _ _) (ZLa P hP hN r1 (by omega) h2)
 | ok a =>
 obtain ⟨v,r2⟩:=a
 have l2:=Zhb h2
 simp only
 split
 case isFalse hs=>exact KRun.seqF (Zy _ hP hN _ _) (Zy8 P hP hN r1 (by omega) h2 (Bool.not_eq_true _ |>.mp hs))
 rename_i hs
 have hs:=eq_of_beq hs
 subst hs
 refine KRun.seqT (ZA2 P hP hN r1 (by omega) h2) l2 ?_
 cases h3:ZaG 1 r2 with
 | error c=>exact KRun.seqF (Zy _ hP hN _ _) (ZBP P hP hN r2 (by omega) h3)
 | ok a =>
 obtain ⟨m,r3⟩:=a
 have l3:=Zhb h3
 simp only
 refine KRun.seqT (ZFG P hP hN r2 (by omega) h3) l3 ?_
 have l4:r3.length<=140737488355328:=by omega
 refine KRun.seqT (Zw7 P hP hN r3 l4 m) (Nat.le_refl _) ?_
 refine KRun.seqT (ZOQ _ (by simp [hP]) (ZT rfl _ (ZT rfl _ hN)) r3 l4 m) (Nat.le_refl _) ?_
 refine KRun.seqT (ZJB _ (by simp [hP]) (ZT rfl _ (ZT rfl _ (ZT rfl _ (ZT rfl _ hN)))) r3 l4 m) (Nat.le_refl _) ?_
 have hM:(ZbE P m).length=26:=by simp [ZbE,hP]
 have hMN:Zd (ZbE P m)=true:=ZT rfl _ (ZT rfl _ (ZT rfl _ (ZT rfl _ (ZT rfl _ (ZT rfl _ hN)))))
 have g15:(ZbE P m)[15]?=some (.bool (Zx m 4 != 0)):=by simp [ZbE,hP]
 have g18:(ZbE P m)[18]?=some (.int .i64 (Zx (Zej m) 3)):=by simp [ZbE,hP]
 have g19:(ZbE P m)[19]?=some (.bool (Zx m 32 != 0)):=by simp [ZbE,hP]
 split
 case isFalse hs=>exact KRun.seqF (Zy _ hM hMN _ _) (ZGe _ hM hMN r3 l4 m _ _ _ g15 g18 g19 (Bool.not_eq_true _ |>.mp hs))
 rename_i hs
 refine KRun.seqT (ZwO _ hM hMN r3 l4 m _ _ _ g15 g18 g19 hs) (Nat.le_refl _) ?_
 exact ZIY P hP hN r3 l4 hu1 hu
end
section
theorem z0b:((((0:Nat):Int)) == 0)=true:=by decide
theorem ZeM {l:Zb} {b:Bool} (h:decide (l.length=0)=b):(((l.length:Nat):Int) == 0)=b:=by
 subst h
 by_cases h:l.length=0
 ·simp [h]
 ·have : ¬((l.length:Nat):Int)=0:=by omega
  simp [h]
section
variable (P:List AVal) (hP:P.length=26) (hN:Zd P=true)
include hP hN
theorem ZOJ (qos:Int) (h0:P[0]?=some (.int .i64 3)) (h2:P[2]?=some (.int .i64 qos)) (h4:P[4]?=some (.int .i64 0)) (hu:∀ r:Zb,r.length<=140737488355328->(Z0 3 r).2.1<=r.length) (l:Zb) (hl:l.length<=140737488355328) {tp:Zb} {n:Int} {ps:List Zn} {pay:Zb} (h:Zdk qos l=.ok (tp,n,ps,pay)) :
  E 77 [.ref 0 0] [.var (P++[.lst false (l.map Zc)])]=some (.tup [],[.var ((((P.set 5 (.str tp)).set 4 (.int .i64 n)).set 9 (.lst false (ps.map Zg))).set 6 (.lst false (pay.map Zc))++[.lst true []])]):=by
 have hq:=ZGz P hP hN qos h2 h4 hu l hl h
 have hN':Zd ((((P.set 5 (.str tp)).set 4 (.int .i64 n)).set 9 (.lst false (ps.map Zg))).set 6 (.lst false (pay.map Zc)))=true:=ZT (Zb5 _ _) _ (ZT (Zb5 _ _) _ (ZT rfl _ (ZT rfl _ hN)))
 have hP':((((P.set 5 (.str tp)).set 4 (.int .i64 n)).set 9 (.lst false (ps.map Zg))).set 6 (.lst false (pay.map Zc))).length=26:=by simp [hP]
 generalize (((P.set 5 (.str tp)).set 4 (.int .i64 n)).set 9 (.lst false (ps.map Zg))).set 6 (.lst false (pay.map Zc))=Q at *
 have hG:=fun σ sq (hs:(σ:Za)[0]?=some (.var (P++[.lst false (l.map Zc)])))=>Zc5 (O:=E) (bf:=BY) (f:=118) (rest:=[]) (by kernel_rfl) rfl (Zy P hP hN _ _) (ZaA hN' (by rfl)) rfl rfl hq hs sq
 have a4:=fun L=>(Zad P hP 0 (by omega) L).trans h0
 have b2:=Zat Q hP'
 have m1:=Zbe
 have z:=z0b
 rw [Zh (by rfl) Zbf]
 simp -implicitDefEqProofs only [EQA,ZK,Zt,Nat.reduceAdd,Nat.reduceLT,Nat.reduceLeDiff,Nat.reduceEqDiff,Nat.reduceBEq,↓reduceIte,Zd,Zbg,Zba,ZeC,oI,oN,a4,b2,hG,m1,Int.reduceBEq,z]
 exact Z1 rfl (ZaA hN' (by rfl))
theorem ZzJ (qos:Int) (h0:P[0]?=some (.int .i64 3)) (h2:P[2]?=some (.int .i64 qos)) (l:Zb) (hl:l.length<=140737488355328) {c:Int} (h:Zdk qos l=.error c) :
  ∃ cs,Zd cs=true/\E 77 [.ref 0 0] [.var (P++[.lst false (l.map Zc)])]=some (.pan (ZB c),[.var cs]):=by
 obtain ⟨cs,hn,he⟩:=ZyQ P hP hN qos h2 l hl h
 have hG:=fun σ sq (hs:(σ:Za)[0]?=some (.var (P++[.lst false (l.map Zc)])))=>ZcA (O:=E) (bf:=BY) (f:=118) (view:=true) (rest:=[]) (by kernel_rfl) rfl (Zy P hP hN _ _) hn rfl he hs sq
 have a4:=fun L=>(Zad P hP 0 (by omega) L).trans h0
 refine ⟨cs,hn,?_⟩
 rw [Zh (by rfl) Zbf]
 simp -implicitDefEqProofs only [EQA,ZK,Nat.reduceAdd,Nat.reduceLT,Nat.reduceLeDiff,Nat.reduceEqDiff,Nat.reduceBEq,↓reduceIte,Zbg,Zba,oI,oN,a4,hG,Int.reduceBEq]
 exact Z1 rfl hn
theorem ZBX (h0:P[0]?=some (.int .i64 1)) (l:Zb) (hl:l.length<=140737488355328) {Q:List AVal} {r:Zb} (hq:E 114 [.ref 0 0] (Zi P l)=some (.tup [],Zi Q r)) (hQ:Q.length=26) (hQN:Zd Q=true) (hr:r.length=0) :
  E 77 [.ref 0 0] (Zi P l)=some (.tup [],Zi Q r):=by
 unfold Zi at *
 have hG:=fun σ sq (hs:(σ:Za)[0]?=some (.var (P++[.lst false (l.map Zc)])))=>Zc5 (O:=E) (bf:=BY) (f:=114) (rest:=[]) (by kernel_rfl) rfl (Zy P hP hN _ _) (ZaA hQN (by rfl)) rfl rfl hq hs sq
 have a4:=fun L=>(Zad P hP 0 (by omega) L).trans h0
 have b2:=Zat Q hQ
 have m1:=Zbe
 have z:=ZeM (l:=r) (decide_eq_true hr)
 rw [Zh (by rfl) Zbf]
 simp -implicitDefEqProofs only [EQA,ZK,Zt,Nat.reduceAdd,Nat.reduceLT,Nat.reduceLeDiff,Nat.reduceEqDiff,Nat.reduceBEq,↓reduceIte,Zd,Zbg,Zba,ZeC,oI,oN,a4,b2,hG,m1,z]
 exact Z1 rfl (ZaA hQN (by rfl))
theorem ZzX (h0:P[0]?=some (.int .i64 1)) (l:Zb) (hl:l.length<=140737488355328) {Q:List AVal} {r:Zb} (hq:E 114 [.ref 0 0] (Zi P l)=some (.tup [],Zi Q r)) (hQ:Q.length=26) (hQN:Zd Q=true) (hr:¬r.length=0) :
  E 77 [.ref 0 0] (Zi P l)=some (.pan (ZB 129),Zi Q r):=by
 unfold Zi at *
 have hG:=fun σ sq (hs:(σ:Za)[0]?=some (.var (P++[.lst false (l.map Zc)])))=>Zc5 (O:=E) (bf:=BY) (f:=114) (rest:=[]) (by kernel_rfl) rfl (Zy P hP hN _ _) (ZaA hQN (by rfl)) rfl rfl hq hs sq
 have a4:=fun L=>(Zad P hP 0 (by omega) L).trans h0
 have b2:=Zat Q hQ
 have m1:=Zby
 have z:=ZeM (l:=r) (decide_eq_false hr)
 rw [Zh (by rfl) Zbf]
 simp -implicitDefEqProofs only [EQA,ZK,Nat.reduceAdd,Nat.reduceLT,Nat.reduceLeDiff,Nat.reduceEqDiff,Nat.reduceBEq,↓reduceIte,Zbg,Zba,oI,oN,a4,b2,hG,m1,z]
 exact Z1 rfl (ZaA hQN (by rfl))
theorem ZPa (h0:P[0]?=some (.int .i64 1)) (l:Zb) (hl:l.length<=140737488355328) {cs:List AVal} {c:Int} (hn:Zd cs=true) (he:E 114 [.ref 0 0] (Zi P l)=some (.pan (ZB c),[.var cs])) :
  E 77 [.ref 0 0] (Zi P l)=some (.pan (ZB c),[.var cs]):=by
 unfold Zi at *
 have hG:=fun σ sq (hs:(σ:Za)[0]?=some (.var (P++[.lst false (l.map Zc)])))=>ZcA (O:=E) (bf:=BY) (f:=114) (view:=true) (rest:=[]) (by kernel_rfl) rfl (Zy P hP hN _ _) hn rfl he hs sq
 have a4:=fun L=>(Zad P hP 0 (by omega) L).trans h0
 rw [Zh (by rfl) Zbf]
 simp -implicitDefEqProofs only [EQA,ZK,Nat.reduceAdd,Nat.reduceLT,Nat.reduceLeDiff,Nat.reduceEqDiff,Nat.reduceBEq,↓reduceIte,Zbg,Zba,oI,oN,a4,hG]
 exact Z1 rfl hn
end
end
section
def Zeh (P:List AVal) (c:Int) (ps:Option (List Zn)):List AVal:=(P.set 7 (.int .i64 c)).set 9 (ZfF ps)
theorem Zka {P:List AVal} (hP:P.length=26) (hN:Zd P=true) (c:Int) (ps:Option (List Zn)):(Zeh P c ps).length=26/\Zd (Zeh P c ps)=true :=
 ⟨by simp [Zeh,hP],ZT (by cases ps <;> rfl) 9 (ZT rfl 7 hN)⟩
section
variable (P:List AVal) (hP:P.length=26) (hN:Zd P=true)
include hP hN
theorem ZAq (k:Int) (hk:k=14\/k=15) (h0:P[0]?=some (.int .i64 k)) (h7:P[7]?=some (.int .i64 0)) (h9:P[9]?=some (.lst true [])) (hu:∀ r:Zb,r.length<=140737488355328->(Z0 k r).2.1<=r.length) (l:Zb) (hl:l.length<=140737488355328) {c:Int} {ps:Option (List Zn)} {r:Zb} (h:Zdb k l=.ok ((c,ps),r)) :
  E 77 [.ref 0 0] (Zi P l)=some (if r.length=0 then .tup [] else .pan (ZB 129),Zi (Zeh P c ps) r):=by
 have hG:=fun σ sq hs=>Zt1 P hP hN l hl σ 0 sq hs k h0 h7 h9 hu h
 obtain ⟨hQ,hQN⟩:=Zka hP hN c ps
 have a4:=fun L=>(Zad P hP 0 (by omega) L).trans h0
 unfold Zi
 rw [show (P.set 7 (.int .i64 c)).set 9 (ZfF ps)=Zeh P c ps from rfl] at hG
 generalize Zeh P c ps=Q at *
 have b2:=Zat Q hQ
 by_cases hr:r.length=0
 ·have m1:=Zbe
  have z:=ZeM (l:=r) (decide_eq_true hr)
  rw [if_pos hr]
  rcases hk with rfl | rfl
  all_goals
   rw [Zh (by rfl) Zbf]
   simp -implicitDefEqProofs only [EQA,ZK,Zt,Nat.reduceAdd,Nat.reduceLT,Nat.reduceLeDiff,Nat.reduceEqDiff,Nat.reduceBEq,↓reduceIte,Zd,Zbg,Zba,ZeC,oI,oN,a4,b2,hG,m1,Int.reduceBEq,z]
   exact Z1 rfl (ZaA hQN (by rfl))
 ·have m1:=Zby
  have z:=ZeM (l:=r) (decide_eq_false hr)
  rw [if_neg hr]
  rcases hk with rfl | rfl
  all_goals
   rw [Zh (by rfl) Zbf]
   simp -implicitDefEqProofs only [EQA,ZK,Nat.reduceAdd,Nat.reduceLT,Nat.reduceLeDiff,Nat.reduceEqDiff,Nat.reduceBEq,↓reduceIte,Zbg,Zba,oI,oN,a4,b2,hG,m1,Int.reduceBEq,z]
   exact Z1 rfl (ZaA hQN (by rfl))
theorem ZA3 (k:Int) (hk:k=14\/k=15) (h0:P[0]?=some (.int .i64 k)) (hu:∀ r:Zb,r.length<=140737488355328->(Z0 k r).2.1<=r.length) (l:Zb) (hl:l.length<=140737488355328) {e:Int} (h:Zdb k l=.error e) :
  ∃ cs,Zd cs=true/\E 77 [.ref 0 0] (Zi P l)=some (.pan (ZB e),[.var cs]):=by
 obtain ⟨cs,hn,he⟩:=Ztj P hP hN k h0 hu l hl h
 have hG:=fun σ sq (hs:(σ:Za)[0]?=some (.var (P++[.lst false (l.map Zc)])))=>ZcA (O:=E) (bf:=BY) (f:=120) (view:=true) (rest:=[]) (by kernel_rfl) rfl (Zy P hP hN _ _) hn rfl he hs sq
 have a4:=fun L=>(Zad P hP 0 (by omega) L).trans h0
 refine ⟨cs,hn,?_⟩
 unfold Zi
 rcases hk with rfl | rfl
 all_goals
  rw [Zh (by rfl) Zbf]
  simp -implicitDefEqProofs only [EQA,ZK,Nat.reduceAdd,Nat.reduceLT,Nat.reduceLeDiff,Nat.reduceEqDiff,Nat.reduceBEq,↓reduceIte,Zbg,Zba,oI,oN,a4,hG,Int.reduceBEq]
  exact Z1 rfl hn
theorem ZJZ (k:Int) (hk:k=4\/k=5\/k=6\/k=7) (h0:P[0]?=some (.int .i64 k)) (h7:P[7]?=some (.int .i64 0)) (h9:P[9]?=some (.lst true [])) (hu:∀ r:Zb,r.length<=140737488355328->(Z0 k r).2.1<=r.length) (l:Zb) (hl:l.length<=140737488355328) {n:Int} {r1:Zb} (hi:idK l=.ok (n,r1)) {c:Int} {ps:Option (List Zn)} {r:Zb} (h:Zdb k r1=.ok ((c,ps),r)) :
  E 77 [.ref 0 0] (Zi P l)=some (if r.length=0 then .tup [] else .pan (ZB 129),Zi (Zeh (P.set 4 (.int .i64 n)) c ps) r):=by
 have hr1:=Zfo hi
 have hI:=fun σ sq hs=>Zgh P hP hN l hl σ 0 sq hs hi
 have hP4:(P.set 4 (.int .i64 n)).length=26:=by simp [hP]
 have hN4:Zd (P.set 4 (.int .i64 n))=true:=ZT rfl 4 hN
 have g0:(P.set 4 (.int .i64 n))[0]?=some (.int .i64 k):=by rw [List.getElem?_set_ne (by omega)];exact h0
 have g7:(P.set 4 (.int .i64 n))[7]?=some (.int .i64 0):=by rw [List.getElem?_set_ne (by omega)];exact h7
 have g9:(P.set 4 (.int .i64 n))[9]?=some (.lst true []):=by rw [List.getElem?_set_ne (by omega)];exact h9
 generalize P.set 4 (.int .i64 n)=S at *
 have hG:=fun σ sq hs=>Zt1 S hP4 hN4 r1 (by omega) σ 0 sq hs k g0 g7 g9 hu h
 obtain ⟨hQ,hQN⟩:=Zka hP4 hN4 c ps
 have a4:=fun L=>(Zad P hP 0 (by omega) L).trans h0
 unfold Zi
 rw [show (S.set 7 (.int .i64 c)).set 9 (ZfF ps)=Zeh S c ps from rfl] at hG
 generalize Zeh S c ps=Q at *
 have b2:=Zat Q hQ
 by_cases hr:r.length=0
 ·have m1:=Zbe
  have z:=ZeM (l:=r) (decide_eq_true hr)
  rw [if_pos hr]
  rcases hk with rfl | rfl | rfl | rfl
  all_goals
   rw [Zh (by rfl) Zbf]
   simp -implicitDefEqProofs only [EQA,ZK,Zt,Nat.reduceAdd,Nat.reduceLT,Nat.reduceLeDiff,Nat.reduceEqDiff,Nat.reduceBEq,↓reduceIte,Zd,Zbg,Zba,ZeC,oI,oN,a4,b2,hI,hG,m1,Int.reduceBEq,z]
   exact Z1 rfl (ZaA hQN (by rfl))
 ·have m1:=Zby
  have z:=ZeM (l:=r) (decide_eq_false hr)
  rw [if_neg hr]
  rcases hk with rfl | rfl | rfl | rfl
  all_goals
   rw [Zh (by rfl) Zbf]
   simp -implicitDefEqProofs only [EQA,ZK,Nat.reduceAdd,Nat.reduceLT,Nat.reduceLeDiff,Nat.reduceEqDiff,Nat.reduceBEq,↓reduceIte,Zbg,Zba,oI,oN,a4,b2,hI,hG,m1,Int.reduceBEq,z]
   exact Z1 rfl (ZaA hQN (by rfl))
theorem ZHl (k:Int) (hk:k=4\/k=5\/k=6\/k=7) (h0:P[0]?=some (.int .i64 k)) (l:Zb) (hl:l.length<=140737488355328) {e:Int} (h:idK l=.error e) :
  ∃ cs,Zd cs=true/\E 77 [.ref 0 0] (Zi P l)=some (.pan (ZB e),[.var cs]):=by
 obtain ⟨cs,hn,he⟩:=Zmx P hP hN l hl h
 have hG:=fun σ sq (hs:(σ:Za)[0]?=some (.var (P++[.lst false (l.map Zc)])))=>ZcA (O:=E) (bf:=BY) (f:=119) (view:=true) (rest:=[]) (by kernel_rfl) rfl (Zy P hP hN _ _) hn rfl he hs sq
 have a4:=fun L=>(Zad P hP 0 (by omega) L).trans h0
 refine ⟨cs,hn,?_⟩
 unfold Zi
 rcases hk with rfl | rfl | rfl | rfl
 all_goals
  rw [Zh (by rfl) Zbf]
  simp -implicitDefEqProofs only [EQA,ZK,Nat.reduceAdd,Nat.reduceLT,Nat.reduceLeDiff,Nat.reduceEqDiff,Nat.reduceBEq,↓reduceIte,Zbg,Zba,oI,oN,a4,hG,Int.reduceBEq]
  exact Z1 rfl hn
theorem ZMJ (k:Int) (hk:k=4\/k=5\/k=6\/k=7) (h0:P[0]?=some (.int .i64 k)) (hu:∀ r:Zb,r.length<=140737488355328->(Z0 k r).2.1<=r.length) (l:Zb) (hl:l.length<=140737488355328) {n:Int} {r1:Zb} (hi:idK l=.ok (n,r1)) {e:Int} (h:Zdb k r1=.error e) :
  ∃ cs,Zd cs=true/\E 77 [.ref 0 0] (Zi P l)=some (.pan (ZB e),[.var cs]):=by
 have hr1:=Zfo hi
 have hI:=fun σ sq hs=>Zgh P hP hN l hl σ 0 sq hs hi
 have hP4:(P.set 4 (.int .i64 n)).length=26:=by simp [hP]
 have hN4:Zd (P.set 4 (.int .i64 n))=true:=ZT rfl 4 hN
 have g0:(P.set 4 (.int .i64 n))[0]?=some (.int .i64 k):=by rw [List.getElem?_set_ne (by omega)];exact h0
 generalize P.set 4 (.int .i64 n)=S at *
 obtain ⟨cs,hn,he⟩:=Ztj S hP4 hN4 k g0 hu r1 (by omega) h
 have hG:=fun σ sq (hs:(σ:Za)[0]?=some (.var (S++[.lst false (r1.map Zc)])))=>ZcA (O:=E) (bf:=BY) (f:=120) (view:=true) (rest:=[]) (by kernel_rfl) rfl (Zy S hP4 hN4 _ _) hn rfl he hs sq
 have a4:=fun L=>(Zad P hP 0 (by omega) L).trans h0
 refine ⟨cs,hn,?_⟩
 unfold Zi
 rcases hk with rfl | rfl | rfl | rfl
 all_goals
  rw [Zh (by rfl) Zbf]
  simp -implicitDefEqProofs only [EQA,ZK,Nat.reduceAdd,Nat.reduceLT,Nat.reduceLeDiff,Nat.reduceEqDiff,Nat.reduceBEq,↓reduceIte,Zbg,Zba,oI,oN,a4,hI,hG,Int.reduceBEq]
  exact Z1 rfl hn
theorem ZAX (k:Int) (hk:k=12\/k=13) (h0:P[0]?=some (.int .i64 k)) (l:Zb):E 77 [.ref 0 0] (Zi P l)=some (if l.length=0 then .tup [] else .pan (ZB 129),Zi P l):=by
 have a4:=fun L=>(Zad P hP 0 (by omega) L).trans h0
 have b2:=Zat P hP
 unfold Zi
 by_cases hr:l.length=0
 ·have m1:=Zbe
  have z:=ZeM (l:=l) (decide_eq_true hr)
  rw [if_pos hr]
  rcases hk with rfl | rfl
  all_goals
   rw [Zh (by rfl) Zbf]
   simp -implicitDefEqProofs only [EQA,ZK,Zt,Nat.reduceAdd,Nat.reduceLT,Nat.reduceLeDiff,Nat.reduceEqDiff,Nat.reduceBEq,↓reduceIte,Zd,Zbg,Zba,ZeC,oI,oN,a4,b2,m1,Int.reduceBEq,z]
   exact Z1 rfl (Zy P hP hN _ _)
 ·have m1:=Zby
  have z:=ZeM (l:=l) (decide_eq_false hr)
  rw [if_neg hr]
  rcases hk with rfl | rfl
  all_goals
   rw [Zh (by rfl) Zbf]
   simp -implicitDefEqProofs only [EQA,ZK,Nat.reduceAdd,Nat.reduceLT,Nat.reduceLeDiff,Nat.reduceEqDiff,Nat.reduceBEq,↓reduceIte,Zbg,Zba,oI,oN,a4,b2,m1,Int.reduceBEq,z]
   exact Z1 rfl (Zy P hP hN _ _)
end
end
section
def ZeE (k:Int):Int:=if k=6\/k=8\/k=10 then 2 else 0
theorem Zxo (k:Int):E 79 [.int .i64 k] []=some (.int .u8 (ZeE k),[]):=by
 unfold ZeE
 by_cases h6:k=6
 ·subst h6;rw [Zh (by rfl) Zms];simp -implicitDefEqProofs only [EQA,Nat.reduceLT,Nat.reduceEqDiff,reduceCtorEq,↓reduceIte,ZlC,Zim,Zl7,oI]
 by_cases h8:k=8
 ·subst h8;rw [Zh (by rfl) Zms];simp -implicitDefEqProofs only [EQA,Nat.reduceLT,Nat.reduceEqDiff,reduceCtorEq,↓reduceIte,ZlC,Zim,Zl7,oI,Int.reduceBEq]
 by_cases h10:k=10
 ·subst h10;rw [Zh (by rfl) Zms];simp -implicitDefEqProofs only [EQA,Nat.reduceLT,Nat.reduceEqDiff,reduceCtorEq,↓reduceIte,ZlC,Zim,Zl7,oI,Int.reduceBEq]
 have b6:(k == 6)=false:=by simpa using h6
 have b8:(k == 8)=false:=by simpa using h8
 have b10:(k == 10)=false:=by simpa using h10
 rw [if_neg (by omega),Zh (by rfl) Zms]
 simp -implicitDefEqProofs only [EQA,Nat.reduceLT,Nat.reduceEqDiff,reduceCtorEq,↓reduceIte,ZlC,Zim,Zl7,oI,b6,b8,b10]
theorem ZjY (k:Int) (σ:Za) (sq own:Nat):Zo E BY σ sq 79 own true [.int .i64 k]=some (.int .u8 (ZeE k),σ,{}) :=
 Zb8 (Zxo k) (by kernel_rfl) (by simp -implicitDefEqProofs only [ZcI,Zbo,eq_self,eq_self]) (by simp -implicitDefEqProofs only [ZK,Zbo,eq_self,eq_self]) rfl (fun _=>rfl) _ _ _ _
def tyI (b:Int):Int:=IntKind.i64.wrap (b.fdiv (2 ^ min (Int.toNat 4) IntKind.u8.bits))
def Zbm (a b:Int):Int:=IntKind.u8.wrap (BitVec.ofInt IntKind.u8.bits a &&& BitVec.ofInt IntKind.u8.bits b).toNat
def qoI (b:Int):Int:=IntKind.i64.wrap (Zbm (b.fdiv (2 ^ min (Int.toNat 1) IntKind.u8.bits)) 3)
def ZcS (P:List AVal) (b:Int):List AVal:=(((P.set 0 (.int .i64 3)).set 1 (.bool (Zbm b 8 != 0))).set 2 (.int .i64 (qoI b))).set 3 (.bool (Zbm b 1 != 0))
section
variable (P:List AVal) (hP:P.length=26) (hN:Zd P=true)
include hP hN
theorem ZlN (L v:AVal):[v]++List.drop 1 (P++[L])=P.set 0 v++[L]:=Zaw P hP 0 1 (by omega) rfl L v
theorem ZFg (b:Int) (l:Zb) (h:tyI b=0):E 76 [.ref 0 0,.int .u8 b] (Zi P l)=some (.pan (ZB 129),Zi (P.set 0 (.int .i64 0)) l):=by
 have a1:=Zaa P hP
 have a3:=ZlN P hP hN
 have a4:=ZhQ P hP 0 (by omega)
 have m1:=Zby
 have z:((0:Int) != 0)=false:=by decide
 unfold tyI at h
 unfold Zi
 rw [Zh (by rfl) Zhg]
 simp -implicitDefEqProofs only [EQA,ZK,Nat.reduceLT,Nat.reduceLeDiff,Nat.reduceEqDiff,ZaC,reduceCtorEq,↓reduceIte,ZgM,Zfk,oI,oN,a1,a3,a4,m1,h,z,Int.reduceLT]
 exact Z1 rfl (ZaA (ZT rfl _ hN) (by rfl))
theorem ZGM (b t:Int) (l:Zb) (h:tyI b=t) (h0:¬t=0) (h3:¬t=3) (hf:¬Zbm b 15=ZeE t):E 76 [.ref 0 0,.int .u8 b] (Zi P l)=some (.pan (ZB 129),Zi (P.set 0 (.int .i64 t)) l):=by
 have a1:=Zaa P hP
 have a3:=ZlN P hP hN
 have a4:=ZhQ P hP 0 (by omega)
 have m0:=Zbe
 have m1:=Zby
 have e0:(t != 0)=true:=by simpa using h0
 have e3:(t != 3)=true:=by simpa using h3
 have ef:(Zbm b 15 == ZeE t)=false:=by simpa using hf
 have hC:=ZjY t
 unfold tyI at h
 unfold Zbm at ef
 unfold Zi
 rw [Zh (by rfl) Zhg]
 simp -implicitDefEqProofs only [EQA,ZK,Nat.reduceLT,Nat.reduceLeDiff,Nat.reduceEqDiff,ZaC,reduceCtorEq,↓reduceIte,ZgM,Zfk,oI,oN,a1,a3,a4,m0,m1,h,e0,e3,ef,hC,Int.reduceLT]
 exact Z1 rfl (ZaA (ZT rfl _ hN) (by rfl))
theorem ZIS (b t:Int) (l:Zb) (h:tyI b=t) (h0:¬t=0) (h3:¬t=3) (hf:Zbm b 15=ZeE t):E 76 [.ref 0 0,.int .u8 b] (Zi P l)=some (.tup [],Zi (P.set 0 (.int .i64 t)) l):=by
 have a1:=Zaa P hP
 have a3:=ZlN P hP hN
 have a4:=ZhQ P hP 0 (by omega)
 have m0:=Zbe
 have e0:(t != 0)=true:=by simpa using h0
 have e3:(t != 3)=true:=by simpa using h3
 have ef:(Zbm b 15 == ZeE t)=true:=by simpa using hf
 have hC:=ZjY t
 unfold tyI at h
 unfold Zbm at ef
 unfold Zi
 rw [Zh (by rfl) Zhg]
 simp -implicitDefEqProofs only [EQA,ZK,Zt,Nat.reduceLT,Nat.reduceLeDiff,Nat.reduceEqDiff,ZaC,reduceCtorEq,↓reduceIte,Zd,ZgM,Zfk,Zqf,oI,oN,a1,a3,a4,m0,h,e0,e3,ef,hC,Int.reduceLT]
 exact Z1 rfl (ZaA (ZT rfl _ hN) (by rfl))
theorem ZLr (b:Int) (l:Zb) (h:tyI b=3):E 76 [.ref 0 0,.int .u8 b] (Zi P l)=some (if qoI b < 3 then (if qoI b > 0\/(Zbm b 8 != 0)=false then .tup [] else .pan (ZB 130)) else .pan (ZB 129),Zi (ZcS P b) l):=by
 have hQ:(ZcS P b).length=26:=by simp [ZcS,hP]
 have hQN:Zd (ZcS P b)=true:=ZT rfl _ (ZT rfl _ (ZT rfl _ (ZT rfl _ hN)))
 have g1:(ZcS P b)[1]?=some (.bool (Zbm b 8 != 0)):=by simp [ZcS,hP]
 have g2:(ZcS P b)[2]?=some (.int .i64 (qoI b)):=by simp [ZcS,hP]
 have a1:=Zaa P hP
 have a3:=fun L=>ZlN P hP hN L (.int .i64 3)
 have a4:=ZhQ P hP 0 (by omega)
 have hP0:(P.set 0 (.int .i64 3)).length=26:=by simp [hP]
 have b1:=Zaa _ hP0
 have b3:=fun L=>Zaw _ hP0 1 2 (by omega) rfl L (.bool (Zbm b 8 != 0))
 have hP1:((P.set 0 (.int .i64 3)).set 1 (.bool (Zbm b 8 != 0))).length=26:=by simp [hP]
 have c1:=Zaa _ hP1
 have c3:=fun L=>Zaw _ hP1 2 3 (by omega) rfl L (.int .i64 (qoI b))
 have hP2:(((P.set 0 (.int .i64 3)).set 1 (.bool (Zbm b 8 != 0))).set 2 (.int .i64 (qoI b))).length=26:=by simp [hP]
 have d1:=Zaa _ hP2
 have d3:=fun L=>Zaw _ hP2 3 4 (by omega) rfl L (.bool (Zbm b 1 != 0))
 rw [show (((P.set 0 (.int .i64 3)).set 1 (.bool (Zbm b 8 != 0))).set 2 (.int .i64 (qoI b))).set 3 (.bool (Zbm b 1 != 0))=ZcS P b from rfl] at d3
 generalize ZcS P b=Q at *
 have k1:=fun L=>(Zad Q hQ 1 (by omega) L).trans g1
 have k2:=fun L=>(Zad Q hQ 2 (by omega) L).trans g2
 have m0:=Zbe
 have m1:=Zby
 have e0:((3:Int) != 0)=true:=by decide
 have e3:((3:Int) != 3)=false:=by decide
 unfold tyI at h
 unfold Zi
 by_cases hq:qoI b < 3
 ·rw [if_pos hq]
  by_cases hq0:qoI b > 0
  ·rw [if_pos (Or.inl hq0)]
   unfold qoI Zbm at *
   rw [Zh (by rfl) Zhg]
   simp -implicitDefEqProofs only [EQA,ZK,Zt,Nat.reduceAdd,Nat.reduceLT,Nat.reduceLeDiff,Nat.reduceEqDiff,ZaC,ZD,Zam,reduceCtorEq,↓reduceIte,Zd,ZgM,Zfk,Zqf,oI,oN,a1,a3,a4,b1,b3,c1,c3,d1,d3,k2,m0,h,e0,e3,hq,hq0,Int.reduceLT]
   exact Z1 rfl (ZaA hQN (by rfl))
  ·cases hd:(Zbm b 8 != 0)
   ·rw [if_pos (Or.inr rfl)]
    rw [hd] at b3 c1 c3 d1 d3 k1
    unfold qoI Zbm at *
    rw [Zh (by rfl) Zhg]
    simp -implicitDefEqProofs only [EQA,ZK,Zt,Nat.reduceAdd,Nat.reduceLT,Nat.reduceLeDiff,Nat.reduceEqDiff,ZaC,unA,ZD,unG,reduceCtorEq,↓reduceIte,Zd,ZgM,Zfk,Zqf,oI,oN,a1,a3,a4,b1,b3,c1,c3,d1,d3,k1,k2,m0,h,e0,e3,hq,hq0,hd,Int.reduceLT]
    exact Z1 rfl (ZaA hQN (by rfl))
   ·rw [if_neg (by simp [hq0])]
    rw [hd] at b3 c1 c3 d1 d3 k1
    unfold qoI Zbm at *
    rw [Zh (by rfl) Zhg]
    simp -implicitDefEqProofs only [EQA,ZK,Nat.reduceAdd,Nat.reduceLT,Nat.reduceLeDiff,Nat.reduceEqDiff,ZaC,unA,ZD,unG,reduceCtorEq,↓reduceIte,ZgM,Zfk,oI,oN,a1,a3,a4,b1,b3,c1,c3,d1,d3,k1,k2,m0,m1,h,e0,e3,hq,hq0,hd,Int.reduceLT]
    exact Z1 rfl (ZaA hQN (by rfl))
 ·rw [if_neg hq]
  unfold qoI Zbm at *
  rw [Zh (by rfl) Zhg]
  simp -implicitDefEqProofs only [EQA,ZK,Nat.reduceAdd,Nat.reduceLT,Nat.reduceLeDiff,Nat.reduceEqDiff,ZaC,reduceCtorEq,↓reduceIte,ZgM,Zfk,oI,oN,a1,a3,a4,b1,b3,c1,c3,d1,d3,k2,m0,m1,h,e0,e3,hq,Int.reduceLT]
  exact Z1 rfl (ZaA hQN (by rfl))
end
end
end Go.Proofs.YtmlkhhidifjjfaaDoor
