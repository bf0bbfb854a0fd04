/- packed -/
import Derived.Test.YtmlkhhidifjjfaaDoorMb2
set_option linter.defProp false
set_option linter.unusedSectionVars false
set_option linter.unusedSimpArgs false
set_option linter.unusedVariables false
namespace Go.Proofs.YtmlkhhidifjjfaaDoor
set_option maxHeartbeats 16000000
set_option maxRecDepth 10000
section
theorem ZnO (id:Int):Zb5 id=0\/Zb5 id=1\/Zb5 id=2\/Zb5 id=3\/Zb5 id=4\/Zb5 id=5\/Zb5 id=6\/Zb5 id=7:=by
 unfold Zb5
 by_cases h:Zgq id
 ·unfold Zgq at h
  rcases h with rfl | rfl | rfl | rfl | rfl | rfl | rfl | rfl | rfl | rfl | rfl | rfl | rfl | rfl | rfl | rfl | rfl | rfl | rfl | rfl | rfl | rfl | rfl | rfl | rfl | rfl | rfl
  all_goals decide
 ·rw [Zs7 h];simp
theorem ZtS (b:Zb) (h:b.length<=4):Zba b < 4294967296:=by
 unfold Zba
 match b,h with
 | [],_=>simp [Zcy]
 | [a],_=>rw [Zbz,Zcy];have:=a.toNat_lt;omega
 | [a,c],_=>rw [Zbz,Zbz,Zcy];have:=a.toNat_lt;have:=c.toNat_lt;omega
 | [a,c,d],_=>rw [Zbz,Zbz,Zbz,Zcy];have:=a.toNat_lt;have:=c.toNat_lt;have:=d.toNat_lt;omega
 | [a,c,d,e],_=>rw [Zbz,Zbz,Zbz,Zbz,Zcy];have:=a.toNat_lt;have:=c.toNat_lt;have:=d.toNat_lt;have:=e.toNat_lt;omega
def Zd8 (id:Int) (W:Nat) (b:Zb):Zp×Nat×Bool:=if b.length < W then (⟨id,0,[],[],[]⟩,0,false) else (⟨id,Zba (b.take W),[],[],[]⟩,W,true)
def ZfJ (id:Int) (b:Zb):Zp×Nat×Bool :=
 if (ZX b).2.2=0 then (⟨id,0,(ZX b).1,(ZX (b.drop (ZX b).2.1)).1,[]⟩,(ZX b).2.1+(ZX (b.drop (ZX b).2.1)).2.1,(ZX (b.drop (ZX b).2.1)).2.2 == 0) else (⟨id,0,[],[],[]⟩,0,false)
def ZdK (k id:Int) (b:Zb):Zp×Nat×Bool :=
 if k=1 then Zd8 id 1 b else if k=2 then Zd8 id 2 b else if k=3 then Zd8 id 4 b
 else if k=4 then (⟨id,(ZO b).1,[],[],[]⟩,(ZO b).2.1,(ZO b).2.2 == 0)
 else if k=5 then (⟨id,0,(ZX b).1,[],[]⟩,(ZX b).2.1,(ZX b).2.2 == 0)
 else if k=6 then (⟨id,0,[],[],(Zan b).1⟩,(Zan b).2.1,(Zan b).2.2 == 0)
 else if k=7 then ZfJ id b else (⟨id,0,[],[],[]⟩,0,true)
def Zcb (id:Int) (b:Zb):Zp×Nat×Bool:=ZdK (Zb5 id) id b
def ZcC (f:Bool) (x:Zp×Nat×Bool):AVal:=.tup [.agg [.int .i64 x.1.id,.int .i64 x.1.num,.str x.1.text,.str x.1.pair,.lst f (x.1.data.map Zc)],.int .i64 (x.2.1:Nat),.bool x.2.2]
theorem Zkx (b:Zb):(Zan b).2.1<=b.length/\(Zan b).1.length<=b.length:=by
 unfold Zan
 by_cases h:b.length < 2\/b.length - 2 < Zba (b.take 2)
 ·rw [if_pos h];simp
 ·rw [if_neg h]
  simp only [not_or] at h
  simp;omega
theorem Zh8 (b:Zb):(ZX b).2.1<=b.length/\((ZX b).2.2≠0->(ZX b).1=[]/\(ZX b).2.1=0):=by
 have hd:=Zkx b
 unfold ZX
 by_cases h:(Zan b).2.2≠0
 ·rw [if_pos h];simp
 ·rw [if_neg h]
  by_cases ht:ZgV (Zan b).1=true
  ·rw [if_pos ht];exact ⟨hd.1,fun h'=>absurd h' h⟩
  ·rw [if_neg ht];simp
theorem Zp5 (id:Int) (b:Zb) (hl:b.length<=140737488355328) (k:Int) (W:Nat) (hk:Zb5 id=k) (hW:(k=1/\W=1)\/(k=2/\W=2)\/(k=3/\W=4)):E 154 [.int .i64 id,ZI b] []=some (ZcC true (Zd8 id W b),[]):=by
 have hC:=fun σ sq own=>Zjj σ sq own id
 rw [hk] at hC
 have hG:=fun σ sq own f=>Zk0 σ sq own (b.take W) (by simp;omega) f
 have hg:=ZtS (b.take W) (by simp;omega)
 unfold Zd8
 generalize Zba (b.take W)=g at *
 have hi:IntKind.i64.wrap (g:Int)=(g:Int):=ZbX (by omega) (by omega)
 have hw:∀ W:Nat,W<=b.length->∀ (σ:Za) (kk:IntKind),ZbY σ 1 (.lst false (b.map Zc)) none (some (.int kk (W:Int))) none=some (.lst false ((b.take W).map Zc),σ,{}):=fun W hW σ kk=>by
  have:=Zhi σ 1 b Zc kk (W:Int) (by omega) (by omega)
  exact this
 have z1:((1:Nat):Int)=1:=rfl
 have z2:((2:Nat):Int)=2:=rfl
 have z4:((4:Nat):Int)=4:=rfl
 rcases hW with ⟨rfl,rfl⟩ | ⟨rfl,rfl⟩ | ⟨rfl,rfl⟩
 ·have w1:IntKind.i64.wrap (1 - 1)=0:=rfl
  have w2:IntKind.i64.wrap (1*2 ^ min (Int.toNat 0) IntKind.i64.bits)=1:=rfl
  have ng:¬((0:Int) < 0):=by decide
  by_cases h:b.length < 1
  ·have h':(b.length:Int) < 1:=by omega
   rw [Zh (by rfl) Zei,if_pos h]
   simp -implicitDefEqProofs only [EQA,Zu,Nat.reduceAdd,Nat.reduceLT,Nat.reduceLeDiff,Nat.reduceEqDiff,Nat.reduceBEq,ZaB,reduceCtorEq,↓reduceIte,Zd,ZdP,Zc4,ZdR,oI,oN,ZI,hC,w1,w2,ng,h',ZcC,AVal.cells]
   rfl
  ·have h':¬(b.length:Int) < 1:=by omega
   have hs:=hw 1 (by omega)
   rw [z1] at hs
   have e0:((0:Int) == 0)=true:=rfl
   rw [Zh (by rfl) Zei,if_neg h]
   simp -implicitDefEqProofs only [EQA,Zu,Nat.reduceAdd,Nat.reduceLT,Nat.reduceLeDiff,Nat.reduceEqDiff,Nat.reduceBEq,ZaB,reduceCtorEq,↓reduceIte,Zd,ZdP,Zc4,ZdR,oI,oN,ZI,hC,w1,w2,ng,h',hs,hG,hi,ZcC,AVal.cells]
   rfl
 ·have w1:IntKind.i64.wrap (2 - 1)=1:=rfl
  have w2:IntKind.i64.wrap (1*2 ^ min (Int.toNat 1) IntKind.i64.bits)=2:=rfl
  have ng:¬((1:Int) < 0):=by decide
  by_cases h:b.length < 2
  ·have h':(b.length:Int) < 2:=by omega
   rw [Zh (by rfl) Zei,if_pos h]
   simp -implicitDefEqProofs only [EQA,Zu,Nat.reduceAdd,Nat.reduceLT,Nat.reduceLeDiff,Nat.reduceEqDiff,Nat.reduceBEq,ZaB,reduceCtorEq,↓reduceIte,Zd,ZdP,Zc4,ZdR,oI,oN,ZI,hC,w1,w2,ng,h',Int.reduceBEq,ZcC,AVal.cells]
   rfl
  ·have h':¬(b.length:Int) < 2:=by omega
   have hs:=hw 2 (by omega)
   rw [z2] at hs
   have e0:((0:Int) == 0)=true:=rfl
   rw [Zh (by rfl) Zei,if_neg h]
   simp -implicitDefEqProofs only [EQA,Zu,Nat.reduceAdd,Nat.reduceLT,Nat.reduceLeDiff,Nat.reduceEqDiff,Nat.reduceBEq,ZaB,reduceCtorEq,↓reduceIte,Zd,ZdP,Zc4,ZdR,oI,oN,ZI,hC,w1,w2,ng,h',hs,hG,hi,Int.reduceBEq,ZcC,AVal.cells]
   rfl
 ·have w1:IntKind.i64.wrap (3 - 1)=2:=rfl
  have w2:IntKind.i64.wrap (1*2 ^ min (Int.toNat 2) IntKind.i64.bits)=4:=rfl
  have ng:¬((2:Int) < 0):=by decide
  by_cases h:b.length < 4
  ·have h':(b.length:Int) < 4:=by omega
   rw [Zh (by rfl) Zei,if_pos h]
   simp -implicitDefEqProofs only [EQA,Zu,Nat.reduceAdd,Nat.reduceLT,Nat.reduceLeDiff,Nat.reduceEqDiff,Nat.reduceBEq,ZaB,reduceCtorEq,↓reduceIte,Zd,ZdP,Zc4,ZdR,oI,oN,ZI,hC,w1,w2,ng,h',Int.reduceBEq,ZcC,AVal.cells]
   rfl
  ·have h':¬(b.length:Int) < 4:=by omega
   have hs:=hw 4 (by omega)
   rw [z4] at hs
   have e0:((0:Int) == 0)=true:=rfl
   rw [Zh (by rfl) Zei,if_neg h]
   simp -implicitDefEqProofs only [EQA,Zu,Nat.reduceAdd,Nat.reduceLT,Nat.reduceLeDiff,Nat.reduceEqDiff,Nat.reduceBEq,ZaB,reduceCtorEq,↓reduceIte,Zd,ZdP,Zc4,ZdR,oI,oN,ZI,hC,w1,w2,ng,h',hs,hG,hi,Int.reduceBEq,ZcC,AVal.cells]
   rfl
theorem ZIr (id:Int) (b:Zb) (hl:b.length<=140737488355328):∃ f,E 154 [.int .i64 id,ZI b] []=some (ZcC f (Zcb id b),[]):=by
 unfold Zcb
 have hC:=fun σ sq own=>Zjj σ sq own id
 have hGV:=fun σ sq own f=>Zn7 σ sq own f b (by omega)
 have hGT:=fun σ sq own f=>ZhR σ sq own f b hl
 have hGD:=fun σ sq own f=>Zl3 σ sq own f b hl
 have z0:((0:Nat):Int)=0:=rfl
 rcases ZnO id with hk | hk | hk | hk | hk | hk | hk | hk
 ·refine ⟨true,?_⟩
  rw [hk] at hC ⊢
  rw [show ZdK 0 id b=(⟨id,0,[],[],[]⟩,0,true) from rfl,Zh (by rfl) Zei]
  have e0:((0:Int) == 0)=true:=rfl
  simp -implicitDefEqProofs only [EQA,Zu,Nat.reduceAdd,Nat.reduceLT,Nat.reduceLeDiff,Nat.reduceEqDiff,Nat.reduceBEq,reduceCtorEq,↓reduceIte,Zd,ZdP,Zc4,ZdR,oI,oN,ZI,hC,Int.reduceBEq,ZcC,AVal.cells]
  rfl
 ·rw [hk];exact ⟨true,Zp5 id b hl 1 1 hk (by simp)⟩
 ·rw [hk];exact ⟨true,Zp5 id b hl 2 2 hk (by simp)⟩
 ·rw [hk];exact ⟨true,Zp5 id b hl 3 4 hk (by simp)⟩
 ·refine ⟨true,?_⟩
  rw [hk] at hC ⊢
  rw [show ZdK 4 id b=(⟨id,(ZO b).1,[],[],[]⟩,(ZO b).2.1,(ZO b).2.2 == 0) from rfl,Zh (by rfl) Zei]
  unfold gvT at hGV
  simp -implicitDefEqProofs only [EQA,Zu,Nat.reduceAdd,Nat.reduceLT,Nat.reduceLeDiff,Nat.reduceEqDiff,Nat.reduceBEq,reduceCtorEq,↓reduceIte,Zd,ZdP,Zc4,ZdR,oI,oN,ZI,hC,hGV,Int.reduceBEq,ZcC,AVal.cells]
 ·refine ⟨true,?_⟩
  rw [hk] at hC ⊢
  rw [show ZdK 5 id b=(⟨id,0,(ZX b).1,[],[]⟩,(ZX b).2.1,(ZX b).2.2 == 0) from rfl,Zh (by rfl) Zei]
  unfold gtT at hGT
  simp -implicitDefEqProofs only [EQA,Zu,Nat.reduceAdd,Nat.reduceLT,Nat.reduceLeDiff,Nat.reduceEqDiff,Nat.reduceBEq,reduceCtorEq,↓reduceIte,Zd,ZdP,Zc4,ZdR,oI,oN,ZI,hC,hGT,Int.reduceBEq,ZcC,AVal.cells]
 ·refine ⟨false,?_⟩
  rw [hk] at hC ⊢
  rw [show ZdK 6 id b=(⟨id,0,[],[],(Zan b).1⟩,(Zan b).2.1,(Zan b).2.2 == 0) from rfl,Zh (by rfl) Zei]
  unfold gdT at hGD
  simp -implicitDefEqProofs only [EQA,Zu,Nat.reduceAdd,Nat.reduceLT,Nat.reduceLeDiff,Nat.reduceEqDiff,Nat.reduceBEq,reduceCtorEq,↓reduceIte,Zd,ZdP,Zc4,ZdR,oI,oN,ZI,hC,hGD,Int.reduceBEq,ZcC,AVal.cells]
 ·refine ⟨true,?_⟩
  rw [hk] at hC ⊢
  rw [show ZdK 7 id b=ZfJ id b from rfl,Zh (by rfl) Zei]
  unfold gtT at hGT
  unfold ZfJ
  have hu:=Zh8 b
  by_cases h:(ZX b).2.2=0
  ·have h':((ZX b).2.2 == 0)=true:=by simpa using h
   have hs:=fun σ kk=>Zfg σ b kk (((ZX b).2.1:Nat):Int) (by omega) (by omega)
   have e:((((ZX b).2.1:Nat):Int)).toNat=(ZX b).2.1:=rfl
   rw [e] at hs
   have hGT2:=fun σ sq own f=>ZhR σ sq own f (b.drop (ZX b).2.1) (by simp;omega)
   unfold gtT at hGT2
   have hu2:=Zh8 (b.drop (ZX b).2.1)
   have hdl:(b.drop (ZX b).2.1).length<=b.length:=by simp
   have hw:IntKind.i64.wrap ((((ZX b).2.1:Nat):Int)+(((ZX (b.drop (ZX b).2.1)).2.1:Nat):Int))=(((ZX b).2.1+(ZX (b.drop (ZX b).2.1)).2.1:Nat):Int):=by
    rw [ZbX (by omega) (by omega)];rfl
   rw [if_pos h]
   rw [h] at hGT
   have e0:((0:Int) == 0)=true:=rfl
   simp -implicitDefEqProofs only [EQA,Zu,Nat.reduceAdd,Nat.reduceLT,Nat.reduceLeDiff,Nat.reduceEqDiff,Nat.reduceBEq,reduceCtorEq,↓reduceIte,Zd,ZdP,Zc4,ZdR,oI,oN,ZI,hC,hGT,hs,hGT2,hw,Int.reduceBEq,ZcC,AVal.cells]
  ·have h':((ZX b).2.2 == 0)=false:=by simpa using h
   rw [if_neg h]
   obtain ⟨x1,x2⟩:=hu.2 h
   rw [x1,x2] at hGT
   simp -implicitDefEqProofs only [EQA,Zu,Nat.reduceAdd,Nat.reduceLT,Nat.reduceLeDiff,Nat.reduceEqDiff,Nat.reduceBEq,reduceCtorEq,↓reduceIte,Zd,ZdP,Zc4,ZdR,oI,oN,ZI,hC,hGT,h',Int.reduceBEq,ZcC,AVal.cells]
theorem ZJs (σ:Za) (sq own:Nat) (f:Bool) (id:Int) (b:Zb) (hl:b.length<=140737488355328):Zj E BY σ sq 154 own true [.int .i64 id,.lst f (b.map Zc)]=some (ZcC false (Zcb id b),σ,{}):=by
 obtain ⟨g,h⟩:=ZIr id b hl
 exact ZbC h (by kernel_rfl) rfl rfl rfl (fun _=>rfl) _ _ _
end
section
end
section
def Zoo (b:Bool):AVal:=.tup [.agg [.int .i64 0,.int .i64 0,.str [],.str [],.lst b []],.bool false]
theorem ZEE (l:Zb):kOk 1 (l.map Zc)=true:=by cases l <;> rfl
theorem Zxe (l:Zb) (h:l.length<=140737488355328):E 111 [.lst false (l.map Zc)] []=some (.sl 0 0 0 (l.map Zc).length,[.row 0 1 (l.map Zc)]):=by
 refine ZdI.2 ⟨1,?_⟩
 show ZhH 1 1 [.lst false (l.map Zc)] []=_
 have h1:(l.map Zc).length*1<=140737488355328/\kOk 1 (l.map Zc)=true:=⟨by simpa using h,ZEE l⟩
 simp only [ZhH,Z0]
 rw [if_pos h1];rfl
theorem Znn (σ:Za) (sq own:Nat) (l:Zb) (h:l.length<=140737488355328):Zj E BY σ sq 111 own true [.lst false (l.map Zc)]=some (.lst false (l.map Zc),σ,{}) :=
 ZqC (bf:=BY) (Zxe l h) rfl rfl rfl σ sq own
theorem ZIF (p:Zp) (h:p.data.length<=140737488355328):E 147 [Zn p] []=some (Zn p,[]):=by
 have hC:=fun σ sq own=>Znn σ sq own p.data h
 rw [Zh (by rfl) Zyp]
 simp -implicitDefEqProofs only [EQA,ZC,Zu,Nat.reduceAdd,Nat.reduceLT,Nat.reduceLeDiff,Nat.reduceEqDiff,Nat.reduceBEq,↓reduceIte,Zd,ZKS,Zn4,Zzo,oI,oN,ZI,Zn,ZbI,hC]
theorem ZPn (σ:Za) (sq own:Nat) (p:Zp) (h:p.data.length<=140737488355328):Zj E BY σ sq 147 own true [.agg [.int .i64 p.id,.int .i64 p.num,.str p.text,.str p.pair,.lst false (p.data.map Zc)]]=some (.agg [.int .i64 p.id,.int .i64 p.num,.str p.text,.str p.pair,.lst false (p.data.map Zc)],σ,{}) :=
 Zce (ZIF p h) (by kernel_rfl) (by simp -implicitDefEqProofs only [ZcM,Zbn,eq_self,ZI,Zn,ZbI]) (by simp -implicitDefEqProofs only [ZcM,ZC,Zbn,eq_self,ZI,Zn,ZbI]) rfl (fun _=>rfl) _ _ _ _
def Zgw (id:Int):List Zp->AVal
 | []=>Zoo true
 | p::r=>if p.id == id then .tup [Zn p,.bool true] else Zgw id r
theorem ZuM (l:List Zp) (hl:l.length<=9223372036854775807) (hd:∀ p ∈ l,p.data.length<=140737488355328) (id:Int):∀ (r:List Zp) (i:Nat),l.drop i=r ->
  Zkt 0 [(10,.int .i64 i),(9,.int .i64 l.length),(8,.lst false (l.map Zn)),(4,.ref 0 0),(0,.int .i64 id)] [.var [.int .i64 0,.int .i64 0,.str [],.str [],.lst true []]]=some (Zgw id r,[])
 | [],i,h=>by
  have h1:=Zda h
  unfold Zkt
  rw [Z9,Zgw]
  simp -implicitDefEqProofs only [EQA,Zu,Nat.reduceAdd,Nat.reduceLT,Nat.reduceLeDiff,Nat.reduceEqDiff,reduceCtorEq,↓reduceIte,Zd,Zsj,ZIt,Zqq,ZnG,Zjh,oI,oN,h1,Zoo,Zao,AVal.cells]
 | p::r,i,h=>by
  have ih:=ZuM l hl hd id r (i+1) (Z8 h).2.1
  have h1:(i:Int) < l.length:=by have:=(Z8 h).2.2;omega
  have e1:=iad (Z8 h).1 Zn (k:=5) rfl
  have e3:=Zc9 h1 hl
  have hC:=fun σ sq own=>ZPn σ sq own p (hd p (List.mem_of_getElem? (Z8 h).1))
  unfold Zkt at ih ⊢
  rw [Z9,Zgw]
  cases hb:(p.id == id)
  ·simp -implicitDefEqProofs only [EQA,ZC,Z5,Zcq,Nat.reduceAdd,Nat.reduceLT,Nat.reduceLeDiff,Nat.reduceEqDiff,Nat.reduceBEq,reduceCtorEq,↓reduceIte,gcT,gcA,ZB,Zz,Zo,Zw,Z1,Zq,ZU,ZG,ZM,ZnG,Zjh,oI,oN,ZI,Zn,ZbI,h1,e1,e3,hb]
   exact ih
  ·simp -implicitDefEqProofs only [EQA,ZC,Zu,Nat.reduceAdd,Nat.reduceLT,Nat.reduceLeDiff,Nat.reduceEqDiff,Nat.reduceBEq,reduceCtorEq,↓reduceIte,Zd,Zsj,ZnG,Zjh,oI,oN,ZI,Zn,ZbI,h1,e1,hb,hC]
theorem ZLz (l:List Zp) (hl:l.length<=9223372036854775807) (hd:∀ p ∈ l,p.data.length<=140737488355328) (id:Int):E 112 [.int .i64 id,ZaA l] []=some (Zgw id l,[]):=by
 have:=ZuM l hl hd id l 0 rfl
 have z0:((0:Nat):Int)=0:=rfl
 rw [z0] at this
 unfold Zkt at this
 rw [Zh (by rfl) ZBK]
 simp -implicitDefEqProofs only [EQA,Z5,Zcq,Nat.reduceLT,Nat.reduceEqDiff,Nat.reduceBEq,reduceCtorEq,↓reduceIte,gcT,gcA,ZB,Zz,Zo,Zw,Z1,Zq,ZU,ZG,ZM,ZAj,Zpx,oI,ZaA]
 exact this
def Zgg (id:Int) (l:List Zp):Option Zp:=l.find? (fun p=>p.id == id)
def Znm (b:Bool):Option Zp->AVal
 | none=>Zoo b
 | some p=>.tup [Zn p,.bool true]
theorem ZvG (id:Int):∀ l:List Zp,Zgw id l=Znm true (Zgg id l)
 | []=>rfl
 | p::r=>by
  have ih:=ZvG id r
  unfold Zgg at ih ⊢
  rw [Zgw,List.find?_cons]
  cases h:(p.id == id)
  ·simpa using ih
  ·rfl
theorem ZEH (σ:Za) (sq own:Nat) (l:List Zp) (hl:l.length<=9223372036854775807) (hd:∀ p ∈ l,p.data.length<=140737488355328) (id:Int):Zj E BY σ sq 112 own true [.int .i64 id,.lst false (l.map Zn)]=some (Znm false (Zgg id l),σ,{}):=by
 have h:=ZLz l hl hd id
 rw [ZvG] at h
 cases hf:Zgg id l with
 | none=>rw [hf] at h;exact ZbC h (by kernel_rfl) rfl rfl rfl (fun _=>rfl) σ sq own
 | some p =>
  rw [hf] at h
  exact ZbC h (by kernel_rfl) rfl rfl rfl (fun _=>rfl) σ sq own
def Zfx:Zp:=⟨0,0,[],[],[]⟩
theorem ZHI (o:Option Zp):Znm false o=.tup [.agg [.int .i64 (o.getD Zfx).id,.int .i64 (o.getD Zfx).num,.str (o.getD Zfx).text,.str (o.getD Zfx).pair,.lst false ((o.getD Zfx).data.map Zc)],.bool o.isSome]:=by
 cases o <;> rfl
end
section
def Zhj (id w:Int):Bool:=id == 38 || (id == 11 && w == 3)
def Zg9 (id num:Int):Bool:=if id == 11 || id == 33 || id == 35 || id == 39 then num != 0 else Zb5 id != 1 || decide (num<=1)
theorem ZEd (id w:Int):E 155 [.int .i64 id,.int .i64 w] []=some (.bool (Zhj id w),[]):=by
 rw [Zh (by rfl) ZAq]
 unfold Zhj
 cases h1:(id == 38) <;> cases h2:(id == 11)
 all_goals simp -implicitDefEqProofs only [EQA,Nat.reduceLT,Nat.reduceEqDiff,ZF,Zav,unG,reduceCtorEq,↓reduceIte,ZzR,ZpA,ZCR,oI,h1,h2]
theorem ZCC (σ:Za) (sq own:Nat) (id w:Int):Zj E BY σ sq 155 own true [.int .i64 id,.int .i64 w]=some (.bool (Zhj id w),σ,{}) :=
 ZbC (ZEd id w) (by kernel_rfl) rfl rfl rfl (fun _=>rfl) _ _ _
theorem ZG6 (p:Zp):E 156 [Zn p] []=some (.bool (Zg9 p.id p.num),[]):=by
 have hC:=fun σ sq own=>Zjj σ sq own p.id
 rw [Zh (by rfl) ZGY]
 unfold Zg9
 cases h1:(p.id == 11) <;> cases h2:(p.id == 33) <;> cases h3:(p.id == 35) <;> cases h4:(p.id == 39)
 all_goals simp -implicitDefEqProofs only [EQA,ZC,Z5,ZIZ,Zdx,Nat.reduceLT,Nat.reduceEqDiff,Nat.reduceBEq,ZF,Zav,unG,ite_self,↓reduceIte,ZI2,ZoX,ZLn,oI,ZI,Zn,ZbI,hC,h1,h2,h3,h4]
theorem Zz3 (σ:Za) (sq own:Nat) (p:Zp):Zj E BY σ sq 156 own true [.agg [.int .i64 p.id,.int .i64 p.num,.str p.text,.str p.pair,.lst false (p.data.map Zc)]]=some (.bool (Zg9 p.id p.num),σ,{}) :=
 ZbC (ZG6 p) (by kernel_rfl) rfl rfl rfl (fun _=>rfl) _ _ _
end
section
theorem ZqU:∀ (b:Zb) (i n:Nat),(gvA i n b).2.2=0->i < (gvA i n b).2.1/\(gvA i n b).2.1<=i+b.length
 | [],i,n,h=>by
  unfold gvA at h
  split at h <;> simp at h
 | c::r,i,n,h=>by
  unfold gvA at h ⊢
  split at h
  ·simp at h
  ·rename_i h4
   rw [if_neg h4]
   split at h
   ·rename_i hc
    rw [if_pos hc]
    split at h
    ·simp at h
    ·rename_i h0
     rw [if_neg h0]
     simp
   ·rename_i hc
    rw [if_neg hc]
    have:=ZqU r (i+1) _ h
    simp only [List.length_cons]
    omega
theorem Znw (b:Zb) (h:(ZO b).2.2=0):0 < (ZO b).2.1/\(ZO b).2.1<=b.length:=by
 have:=ZqU b 0 0 h
 simpa [ZO] using this
theorem ZAs (id:Int) (b:Zb):(Zcb id b).1.id=id:=by
 unfold Zcb ZdK Zd8 ZfJ
 repeat' split
 all_goals rfl
theorem ZFc (id:Int) (b:Zb):(Zcb id b).1.data.length<=b.length:=by
 unfold Zcb ZdK Zd8 ZfJ
 repeat' split
 all_goals first
  | exact (Zkx b).2
  | exact Nat.zero_le _
theorem Zss:∀ (b:Zb) (i n:Nat),(gvA i n b).2.1<=i+b.length
 | [],i,n=>by unfold gvA;split <;> simp
 | c::r,i,n=>by
  unfold gvA
  repeat' split
  all_goals simp only [List.length_cons]
  all_goals first
   | omega
   | (have:=Zss r (i+1) (n+c.toNat % 128*128 ^ i);omega)
theorem ZpE (b:Zb):(ZO b).2.1<=b.length:=by simpa [ZO] using Zss b 0 0
theorem Zra (id:Int) (b:Zb):(Zcb id b).2.1<=b.length:=by
 have h1:=(Zh8 b).1
 have h2:=(Zh8 (b.drop (ZX b).2.1)).1
 have h3:=ZpE b
 have h4:=(Zkx b).1
 simp only [List.length_drop] at h2
 unfold Zcb ZdK Zd8 ZfJ
 repeat' split
 all_goals simp only
 all_goals omega
def Zjg (w:Int) (l:List Zp) (id:Int) (u:Nat) (v:Zp×Nat×Bool):Zp×Nat×Int :=
 if v.2.2=false then (v.1,0,129) else if ((Zgg id l).isSome && !Zhj id w)=true then (v.1,0,130) else
 if Zg9 v.1.id v.1.num=true then (v.1,u+v.2.1,0) else if (id == 35)=true then (v.1,0,148) else (v.1,0,130)
def Za7 (w:Int) (b:Zb) (l:List Zp):Zp×Nat×Int :=
 if (ZO b).2.2≠0\/ZgM ((ZO b).1:Nat) w=false then (Zfx,0,129)
 else Zjg w l ((ZO b).1:Nat) (ZO b).2.1 (Zcb ((ZO b).1:Nat) (b.drop (ZO b).2.1))
def Zc8 (f:Bool) (x:Zp×Nat×Int):AVal:=.tup [.agg [.int .i64 x.1.id,.int .i64 x.1.num,.str x.1.text,.str x.1.pair,.lst f (x.1.data.map Zc)],.int .i64 (x.2.1:Nat),.int .i64 x.2.2]
theorem ZvK (w:Int) (b:Zb) (l:List Zp) (hl:b.length<=140737488355328) (hl2:l.length<=9223372036854775807) (hd:∀ p ∈ l,p.data.length<=140737488355328):∃ f,E 136 [.int .i64 w,ZI b,ZaA l] []=some (Zc8 f (Za7 w b l),[]):=by
 have hGV:=fun σ sq own f=>Zn7 σ sq own f b (by omega)
 have hu:=Znw b
 unfold Za7
 rcases hx:ZO b with ⟨n,u,e⟩
 rw [hx] at hGV hu
 unfold gvT at hGV
 simp only at hGV hu ⊢
 have hM:=fun σ sq own=>ZEb σ sq own (n:Int) w
 by_cases he:e=0
 ·subst he
  have n0:((0:Int) != 0)=false:=rfl
  cases hm:ZgM (n:Int) w
  ·refine ⟨true,?_⟩
   rw [hm] at hM
   have hc:(0:Int)≠0\/false=false:=Or.inr rfl
   rw [if_pos hc,Zh (by rfl) Zfz]
   unfold Zc8 Zfx
   simp -implicitDefEqProofs only [EQA,Zu,Nat.reduceAdd,Nat.reduceLT,Nat.reduceLeDiff,Nat.reduceEqDiff,Nat.reduceBEq,unA,ZF,unG,reduceCtorEq,↓reduceIte,Zd,Zgi,ZeT,Zf1,oI,oN,ZI,ZaA,hGV,hM,n0,AVal.cells]
   rfl
  ·refine ⟨false,?_⟩
   rw [hm] at hM
   have hc:¬((0:Int)≠0\/true=false):=by simp
   rw [if_neg hc]
   have hul:=(hu rfl).2
   have hs:=fun σ kk=>Zfg σ b kk ((u:Nat):Int) (by omega) (by omega)
   have e2:(((u:Nat):Int)).toNat=u:=rfl
   rw [e2] at hs
   have hV:=fun σ sq own f=>ZJs σ sq own f (n:Int) (b.drop u) (by simp;omega)
   have hF:=fun σ sq own=>ZEH σ sq own l hl2 hd (n:Int)
   have hO:=fun σ sq own=>ZCC σ sq own (n:Int) w
   have hid:=ZAs (n:Int) (b.drop u)
   have hused:(Zcb (n:Int) (b.drop u)).2.1<=b.length:=Nat.le_trans (Zra _ _) (by simp)
   have hT:=fun σ sq own=>Zz3 σ sq own (Zcb (n:Int) (b.drop u)).1
   unfold ZcC at hV
   simp only [ZHI] at hF
   unfold Zjg
   generalize Zcb (n:Int) (b.drop u)=v at *
   obtain ⟨p,m,ok⟩:=v
   simp only at hV hT hid hused ⊢
   have hw:IntKind.i64.wrap ((u:Int)+(m:Int))=((u+m:Nat):Int):=by
    rw [ZbX (by omega) (by omega)];rfl
   generalize (Zgg (n:Int) l).getD Zfx=q at *
   cases ok
   ·rw [Zh (by rfl) Zfz]
    unfold Zc8
    simp -implicitDefEqProofs only [EQA,Zu,Nat.reduceAdd,Nat.reduceLT,Nat.reduceLeDiff,Nat.reduceEqDiff,Nat.reduceBEq,unA,ZF,unG,reduceCtorEq,↓reduceIte,Zd,Zgi,ZeT,Zf1,oI,oN,ZI,ZaA,hGV,hM,hs,hV,hF,n0,AVal.cells]
    rfl
   ·cases h1:(Zgg (n:Int) l).isSome <;> rw [h1] at hF
    ·cases h3:Zg9 p.id p.num <;> rw [h3] at hT
     ·cases h4:((n:Int) == 35)
      all_goals rw [Zh (by rfl) Zfz]
      all_goals unfold Zc8
      all_goals simp -implicitDefEqProofs only [EQA,Zu,Nat.reduceAdd,Nat.reduceLT,Nat.reduceLeDiff,Nat.reduceEqDiff,Nat.reduceBEq,unA,ZF,Zav,unG,reduceCtorEq,↓reduceIte,Zd,Zgi,ZeT,Zf1,oI,oN,ZI,ZaA,hGV,hM,hs,hV,hF,hT,h4,n0,AVal.cells]
      all_goals rfl
     ·rw [Zh (by rfl) Zfz]
      unfold Zc8
      simp -implicitDefEqProofs only [EQA,Zu,Nat.reduceAdd,Nat.reduceLT,Nat.reduceLeDiff,Nat.reduceEqDiff,Nat.reduceBEq,unA,ZF,Zav,unG,reduceCtorEq,↓reduceIte,Zd,Zgi,ZeT,Zf1,oI,oN,ZI,ZaA,hGV,hM,hs,hV,hF,hT,hw,n0,AVal.cells]
    ·cases h2:Zhj (n:Int) w <;> rw [h2] at hO
     ·rw [Zh (by rfl) Zfz]
      unfold Zc8
      simp -implicitDefEqProofs only [EQA,Zu,Nat.reduceAdd,Nat.reduceLT,Nat.reduceLeDiff,Nat.reduceEqDiff,Nat.reduceBEq,unA,ZF,unG,reduceCtorEq,↓reduceIte,Zd,Zgi,ZeT,Zf1,oI,oN,ZI,ZaA,hGV,hM,hs,hV,hF,hO,n0,AVal.cells]
      rfl
     ·cases h3:Zg9 p.id p.num <;> rw [h3] at hT
      ·cases h4:((n:Int) == 35)
       all_goals rw [Zh (by rfl) Zfz]
       all_goals unfold Zc8
       all_goals simp -implicitDefEqProofs only [EQA,Zu,Nat.reduceAdd,Nat.reduceLT,Nat.reduceLeDiff,Nat.reduceEqDiff,Nat.reduceBEq,unA,ZF,unG,reduceCtorEq,↓reduceIte,Zd,Zgi,ZeT,Zf1,oI,oN,ZI,ZaA,hGV,hM,hs,hV,hF,hT,hO,h4,n0,AVal.cells]
       all_goals rfl
      ·rw [Zh (by rfl) Zfz]
       unfold Zc8
       simp -implicitDefEqProofs only [EQA,Zu,Nat.reduceAdd,Nat.reduceLT,Nat.reduceLeDiff,Nat.reduceEqDiff,Nat.reduceBEq,unA,ZF,unG,reduceCtorEq,↓reduceIte,Zd,Zgi,ZeT,Zf1,oI,oN,ZI,ZaA,hGV,hM,hs,hV,hF,hT,hO,hw,n0,AVal.cells]
 ·refine ⟨true,?_⟩
  have hc:e≠0\/ZgM (n:Int) w=false:=Or.inl he
  have n1:(e != 0)=true:=by simpa using he
  rw [if_pos hc,Zh (by rfl) Zfz]
  unfold Zc8 Zfx
  simp -implicitDefEqProofs only [EQA,Zu,Nat.reduceAdd,Nat.reduceLT,Nat.reduceLeDiff,Nat.reduceEqDiff,Nat.reduceBEq,ZF,Zav,reduceCtorEq,↓reduceIte,Zd,Zgi,ZeT,Zf1,oI,oN,ZI,ZaA,hGV,n1,AVal.cells]
  rfl
end
section
def Zch (w:Int):Nat->Zb->List Zp->List Zp×Int
 | _,[],l=>(l,0)
 | 0,_::_,_=>([],129)
 | n+1,c::r,l=>if (Za7 w (c::r) l).2.2=0 then Zch w n ((c::r).drop (Za7 w (c::r) l).2.1) (l++[(Za7 w (c::r) l).1]) else ([],(Za7 w (c::r) l).2.2)
def Z3 (w:Int) (b:Zb):List Zp×Nat×Int :=
 if (ZO b).2.2≠0\/((ZO b).1:Int) > (b.length:Int) - ((ZO b).2.1:Nat) then ([],0,129)
 else if (Zch w (ZO b).1 ((b.take ((ZO b).2.1+(ZO b).1)).drop (ZO b).2.1) []).2=0 then
  ((Zch w (ZO b).1 ((b.take ((ZO b).2.1+(ZO b).1)).drop (ZO b).2.1) []).1,(ZO b).2.1+(ZO b).1,0)
 else ([],0,(Zch w (ZO b).1 ((b.take ((ZO b).2.1+(ZO b).1)).drop (ZO b).2.1) []).2)
def Zjq (u:Nat) (x:List Zp×Int):AVal×Za:=if x.2=0 then (.tup [ZeB (x.1.map Zn),.int .i64 (u:Nat),.int .i64 0],ZeH 5 (x.1.map Zn)) else (.tup [.lst true [],.int .i64 0,.int .i64 x.2],[])
theorem ZvP {w:Int} {b:Zb} {l:List Zp} (h:(Za7 w b l).2.2=0):0 < (Za7 w b l).2.1/\(Za7 w b l).2.1<=b.length/\(Za7 w b l).1.data.length<=b.length:=by
 unfold Za7 at h ⊢
 split at h
 ·simp at h
 ·rename_i hc
  rw [if_neg hc]
  have hc0:(ZO b).2.2=0:=Decidable.byContradiction fun h=>hc (Or.inl h)
  have h1:=Znw b hc0
  have h2:=Zra ((ZO b).1:Nat) (b.drop (ZO b).2.1)
  have h3:=ZFc ((ZO b).1:Nat) (b.drop (ZO b).2.1)
  simp only [List.length_drop] at h2 h3
  unfold Zjg at h ⊢
  generalize Zcb ((ZO b).1:Nat) (b.drop (ZO b).2.1)=v at *
  repeat' (split at h)
  all_goals first
   | (simp at h;done)
   | skip
  rename_i a1 a2 a3
  rw [if_neg a1,if_neg a2,if_pos a3]
  simp only
  omega
theorem ZlC {xs:List AVal} (h:0 < xs.length):ZeB xs=.sl 0 0 0 xs.length:=by
 cases xs with
 | nil=>simp at h
 | cons x xs=>rfl
theorem Zk9 {k:Nat} {xs:List AVal} (h:0 < xs.length):ZeH k xs=[.row 0 k xs]:=by
 cases xs with
 | nil=>simp at h
 | cons x xs=>rfl
theorem ZKI (l:List Zp):ZkS (l.map Zn)=true:=by
 unfold ZkS
 rw [List.all_eq_true]
 intro x hx
 obtain ⟨p,_,rfl⟩:=List.mem_map.1 hx
 rfl
theorem ZMr (b:Zb):(b.map Zc).all Zkg=true:=by
 rw [List.all_eq_true]
 intro x hx
 obtain ⟨p,_,rfl⟩:=List.mem_map.1 hx
 rfl
theorem ZIG (σ:Za) (sq own:Nat) (f g:Bool) (w:Int) (b:Zb) (l:List Zp) (hl:b.length<=140737488355328) (hl2:l.length<=9223372036854775807) (hd:∀ p ∈ l,p.data.length<=140737488355328) :
  Zj E BY σ sq 136 own true [.int .i64 w,.lst f (b.map Zc),.lst g (l.map Zn)]=some (Zc8 false (Za7 w b l),σ,{}):=by
 obtain ⟨f',h⟩:=ZvK w b l hl hl2 hd
 exact ZbC h (by kernel_rfl) rfl rfl (by cases f' <;> rfl) (fun _=>rfl) _ _ _
theorem Zx3 (σ:Za) (sq own:Nat) (f:Bool) (w:Int) (b:Zb) (l:List Zp) (hl:b.length<=140737488355328) (hl2:l.length<=9223372036854775807) (hd:∀ p ∈ l,p.data.length<=140737488355328) :
  Zj E BY (.row 0 5 (l.map Zn)::σ) sq 136 own true [.int .i64 w,.lst f (b.map Zc),.sl 0 0 0 (l.map Zn).length]=some (Zc8 false (Za7 w b l),.row 0 5 (l.map Zn)::σ,{ rd:=[0] }):=by
 obtain ⟨f',h⟩:=ZvK w b l hl hl2 hd
 refine ZHL (vs:=[.int .i64 w,ZI b,ZaA l]) (by kernel_rfl) ?_ rfl rfl h (r':=Zc8 false (Za7 w b l)) (by cases f' <;> rfl) ?_ _ _
 ·simp [showAs,showA,ZcT,Z0,ZI,ZaA]
  exact List.take_of_length_le (by simp)
 ·have h1:=ZKI l
  have h2:=ZMr (Za7 w b l).1.data
  unfold Zdv
  simp only [List.isEmpty_cons,Bool.not_false,Zc8,Zhg,ZhM,Zhe,List.all_cons,List.all_nil,ZaY,h2,Zgc,List.getElem?_cons_zero,h1,Bool.and_self]
theorem Znz (w:Int) (n:Nat) (l:List Zp):Zch w n [] l=(l,0):=by cases n <;> rfl
theorem ZnT (w:Int) (n:Nat) (c:UInt8) (r:Zb) (l:List Zp):Zch w (n+1) (c::r) l=if (Za7 w (c::r) l).2.2=0 then Zch w n ((c::r).drop (Za7 w (c::r) l).2.1) (l++[(Za7 w (c::r) l).1]) else ([],(Za7 w (c::r) l).2.2):=rfl
theorem ZAD (w:Int) (N U:Nat) (hU:U+N<=140737488355328) (l:List Zp) :
  ZhC 0 [(10,.lst false []),(8,.int .i64 (U:Nat)),(7,.int .i64 (N:Nat)),(4,ZeB (l.map Zn)),(0,.int .i64 w)] (ZeH 5 (l.map Zn))=some (Zjq (U+N) (l,0)):=by
 have hw:IntKind.i64.wrap ((U:Int)+(N:Int))=((U+N:Nat):Int):=by rw [ZbX (by omega) (by omega)];rfl
 have h1:¬(((0:Nat):Int) > 0):=by simp
 unfold Zjq ZhC
 rw [Z9]
 cases l with
 | nil =>
  simp -implicitDefEqProofs only [EQA,Zu,Nat.reduceLT,Nat.reduceEqDiff,reduceCtorEq,↓reduceIte,Zd,Zid,ZuD,ZjZ,Zh6,ZfG,oI,oN,Zgm,Zga,hw,h1]
  try (simp [Zak,gcA,ZB,Zz,Zt,Z2,Zo,Zw,Z1,Zq,ZU,Zf,Zm,ZG,ZM,List.range_succ])
 | cons p l =>
  generalize hX:(p::l).map Zn=X
  have hpos:0 < X.length:=by rw [<-hX];simp
  simp only [ZlC hpos,Zk9 hpos]
  simp -implicitDefEqProofs only [EQA,Nat.reduceLT,Nat.reduceEqDiff,reduceCtorEq,↓reduceIte,Zid,ZuD,ZjZ,Zh6,ZfG,oI,oN,hw,h1]
  simp [Zak,gcA,ZB,Zz,Zt,Z2,Zo,Zw,Z1,Zq,ZU,Zf,Zm,ZG,ZM]
theorem Zq8 (w:Int) (N U:Nat) (hU:U+N<=140737488355328) (hN9:N<=1000000000):∀ (n:Nat) (b:Zb) (l:List Zp),b.length<=n->l.length+b.length<=N->(∀ p ∈ l,p.data.length<=140737488355328) ->
  ZhC 0 [(10,.lst false (b.map Zc)),(8,.int .i64 (U:Nat)),(7,.int .i64 (N:Nat)),(4,ZeB (l.map Zn)),(0,.int .i64 w)] (ZeH 5 (l.map Zn))=some (Zjq (U+N) (Zch w n b l))
 | n,[],l,hb,hN,hd=>by
  rw [Znz]
  exact ZAD w N U hU l
 | 0,c::r,l,hb,hN,hd=>by simp at hb
 | n+1,c::r,l,hb,hN,hd=>by
  rw [ZnT]
  generalize hB:c::r=b at *
  have hlen:0 < b.length:=by rw [<-hB];simp
  have hpos:((b.length:Nat):Int) > 0:=by omega
  have hC:=fun σ sq own f g=>ZIG σ sq own f g w b l (by omega) (by omega) hd
  have hS:=fun σ sq own f=>Zx3 σ sq own f w b l (by omega) (by omega) hd
  have hu:=ZvP (w:=w) (b:=b) (l:=l)
  unfold Zc8 at hC hS
  rcases hx:Za7 w b l with ⟨p,m,e⟩
  rw [hx] at hC hS hu
  simp only at hC hS hu ⊢
  by_cases he:e=0
  ·subst he
   obtain ⟨u1,u2,u3⟩:=hu rfl
   have n0:((0:Int) != 0)=false:=rfl
   rw [if_pos rfl]
   have ih:=Zq8 w N U hU hN9 n (b.drop m) (l++[p]) (by simp;omega) (by simp;omega) (by
    intro q hq
    rcases List.mem_append.1 hq with h | h
    ·exact hd q h
    ·simp at h;subst h;omega)
   have hs:=fun σ kk=>Zfg σ b kk ((m:Nat):Int) (by omega) (by omega)
   have e2:(((m:Nat):Int)).toNat=m:=rfl
   rw [e2] at hs
   generalize Zch w n (b.drop m) (l++[p])=R at *
   unfold ZhC at ih ⊢
   rw [Z9]
   cases l with
   | nil =>
    simp only [List.map_nil] at hC
    simp only [List.nil_append,List.map_cons,List.map_nil,Zhw,ZhZ,Zgm,Zga,List.length_cons,List.length_nil,Nat.zero_add,Zn,ZbI,ZI] at ih ⊢
    simp -implicitDefEqProofs only [EQA,Z5,Zcq,Nat.reduceAdd,Nat.reduceLT,Nat.reduceLeDiff,Nat.reduceEqDiff,Nat.reduceBEq,reduceCtorEq,Z0,↓reduceIte,gcT,gcA,ZB,Zz,Zo,Zw,Z1,Zq,ZU,ZG,ZM,Zh6,ZfG,oI,oN,hpos,hC,n0,hs,ZaX,kOk,viewAs,ZS,ZN,ZaL,Zs,Nat.one_mul,AVal.cells]
    exact ih
   | cons a l =>
    have hXl:((a::l).map Zn).length=l.length+1:=by simp
    rw [List.map_append] at ih
    generalize hX:(a::l).map Zn=X at *
    have hXp:0 < X.length:=by omega
    have hXq:0 < (X++[p].map Zn).length:=by rw [List.length_append];omega
    simp only [ZlC hXp,Zk9 hXp,ZlC hXq,Zk9 hXq] at ih ⊢
    have hk:kOk 5 X=true:=by rw [<-hX];rfl
    have hb9:(X.length+1)*72<=140737488355328:=by simp at hN;omega
    try simp only [List.map_cons,List.map_nil,Zn,ZbI,ZI,List.length_append,List.length_cons,List.length_nil,Nat.zero_add] at ih
    simp -implicitDefEqProofs only [EQA,Z5,Zcq,Nat.reduceAdd,Nat.reduceLT,Nat.reduceLeDiff,Nat.reduceEqDiff,Nat.reduceBEq,reduceCtorEq,Z0,↓reduceIte,gcT,gcA,ZB,Zz,Zo,Zw,Z1,Zq,ZU,ZG,ZM,Zh6,ZfG,oI,oN,hpos,hS,n0,hs,hb9,ZaX,kOk,viewAs,ZS,ZN,ZaL,Zs,AVal.cells]
    exact ih
  ·have n1:(e != 0)=true:=by simpa using he
   rw [if_neg he]
   unfold Zjq ZhC
   simp only
   rw [if_neg he,Z9]
   cases l with
   | nil =>
    simp only [List.map_nil,Zgm,Zga] at hC ⊢
    simp -implicitDefEqProofs only [EQA,Zu,Nat.reduceAdd,Nat.reduceLT,Nat.reduceLeDiff,Nat.reduceEqDiff,Nat.reduceBEq,reduceCtorEq,↓reduceIte,Zd,Zid,Zh6,ZfG,oI,oN,hpos,hC,n1,AVal.cells]
    try (simp [Zak,gcA,ZB,Zz,Zt,Z2,Zo,Zw,Z1,Zq,ZU,Zf,Zm,ZG,ZM,List.range_succ])
   | cons a l =>
    generalize hX:(a::l).map Zn=X at *
    have hXp:0 < X.length:=by rw [<-hX];simp
    simp only [ZlC hXp,Zk9 hXp]
    simp -implicitDefEqProofs only [EQA,Zu,Nat.reduceAdd,Nat.reduceLT,Nat.reduceLeDiff,Nat.reduceEqDiff,Nat.reduceBEq,reduceCtorEq,↓reduceIte,Zd,Zid,Zh6,ZfG,oI,oN,hpos,hS,n1,AVal.cells]
    try (simp [Zak,gcA,ZB,Zz,Zt,Z2,Zo,Zw,Z1,Zq,ZU,Zf,Zm,ZG,ZM,List.range_succ])
theorem ZuE:∀ (b:Zb) (i n:Nat),i<=4->n < 128 ^ i->(gvA i n b).1 < 268435456
 | [],i,n,hi,hn=>by unfold gvA;split <;> simp
 | c::r,i,n,hi,hn=>by
  have ha:c.toNat % 128 < 128:=Nat.mod_lt _ (by decide)
  unfold gvA
  split
  ·simp
  ·rename_i h4
   have hb:=Zvx n i _ hn ha
   have hp:128 ^ (i+1)<=128 ^ 4:=Nat.pow_le_pow_right (by decide) (by omega)
   split
   ·split
    ·simp
    ·simp only;omega
   ·exact ZuE r (i+1) _ (by omega) hb
theorem Zjn (b:Zb):(ZO b).1 < 268435456:=ZuE b 0 0 (by omega) (by simp)
def Ztv (x:List Zp×Nat×Int):AVal×Za:=(.tup [ZeB (x.1.map Zn),.int .i64 (x.2.1:Nat),.int .i64 x.2.2],ZeH 5 (x.1.map Zn))
theorem ZKl (w:Int) (b:Zb) (hl:b.length<=140737488355328):E 90 [.int .i64 w,ZI b] []=some (Ztv (Z3 w b)):=by
 have hGV:=fun σ sq own f=>Zn7 σ sq own f b (by omega)
 have hu:=Znw b
 have hlt:=Zjn b
 have hle:=ZpE b
 unfold Z3 Ztv
 rcases hx:ZO b with ⟨n,u,e⟩
 rw [hx] at hGV hu hlt hle
 unfold gvT at hGV
 simp only at hGV hu hlt hle ⊢
 have hw:IntKind.i64.wrap ((b.length:Int) - (u:Int))=(b.length:Int) - (u:Int):=ZbX (by omega) (by omega)
 by_cases he:e=0
 ·subst he
  have n0:((0:Int) != 0)=false:=rfl
  by_cases hn:(n:Int) > (b.length:Int) - (u:Int)
  ·rw [if_pos (Or.inr hn),Zh (by rfl) Zqa]
   simp -implicitDefEqProofs only [EQA,Zu,Nat.reduceLT,Nat.reduceEqDiff,ZF,unG,reduceCtorEq,↓reduceIte,Zd,Zpj,Zi6,Zid,oI,ZI,hGV,n0,hw,hn]
   simp []
   exact ⟨rfl,rfl⟩
  ·have hc:¬((0:Int)≠0\/(n:Int) > (b.length:Int) - (u:Int)):=by simpa using hn
   rw [if_neg hc,Zh (by rfl) Zqa]
   have hw2:IntKind.i64.wrap ((u:Int)+(n:Int))=((u+n:Nat):Int):=by rw [ZbX (by omega) (by omega)];rfl
   have hs:=fun σ k1 k2=>Zuy σ b k1 k2 ((u:Nat):Int) ((u+n:Nat):Int) (by omega) (by omega) (by omega)
   have e1:(((u:Nat):Int)).toNat=u:=rfl
   have e2:(((u+n:Nat):Int)).toNat=u+n:=rfl
   rw [e1,e2] at hs
   have key:=Zq8 w n u (by omega) (by omega) n ((b.take (u+n)).drop u) [] (by simp;omega) (by simp;omega) (by simp)
   generalize (b.take (u+n)).drop u=B at *
   unfold ZhC at key
   simp only [List.map_nil,Zgm,Zga] at key
   simp -implicitDefEqProofs only [EQA,Z5,Nat.reduceLT,Nat.reduceEqDiff,ZF,unG,reduceCtorEq,↓reduceIte,gcT,gcA,ZB,Zz,Zw,ZM,Zpj,Zi6,oI,ZI,hGV,n0,hw,hn,hw2,hs]
   rw [key]
   unfold Zjq
   split <;> rfl
 ·have n1:(e != 0)=true:=by simpa using he
  rw [if_pos (Or.inl he),Zh (by rfl) Zqa]
  simp -implicitDefEqProofs only [EQA,Zu,Nat.reduceLT,Nat.reduceEqDiff,ZF,Zav,reduceCtorEq,↓reduceIte,Zd,Zpj,Zi6,Zid,oI,ZI,hGV,n1]
  simp []
  exact ⟨rfl,rfl⟩
theorem ZGs {σ:Za} {x:AVal} (h:ZaY x=true):ZS σ x=some (x,[])/\Z2 x=[]/\∀ ρ,Zm ρ x=x:=by
 cases x <;> simp [ZaY] at h <;> simp [ZS,ZN,Z2,Zm]
theorem ZlS {σ:Za}:∀ {vs:List AVal},vs.all ZaY=true->viewAs σ vs=some (vs,[])/\Zt vs=[]/\∀ ρ,Zf ρ vs=vs
 | [],_=>⟨rfl,rfl,fun _=>rfl⟩
 | x::xs,h=>by
  simp only [List.all_cons,Bool.and_eq_true] at h
  obtain ⟨a1,a2,a3⟩:=ZGs (σ:=σ) h.1
  obtain ⟨b1,b2,b3⟩:=ZlS (σ:=σ) h.2
  refine ⟨by simp only [viewAs,a1,b1,List.append_nil],by simp only [Zt,a2,b2,List.append_nil],fun ρ=>by simp only [Zf,a3,b3]⟩
theorem ZDK {O:ZR} {bf:Nat->Bool} {f k:Nat} {args args':List AVal} {full vs:List AVal} (h:O f args' []=some (.tup (ZeB full::vs),ZeH k full)) (hv:vs.all ZaY=true) (hb:bf f=false) (hp:args.all Zac=true) (hn:args.map ZH=args') (σ:Za) (sq own:Nat):Zj O bf σ sq f own true args=some (.tup (.lst false full::vs),σ,{}):=by
 have hr:∀ sq,Zm (ZaD [] [] sq) (.tup (.lst false full::vs))=.tup (.lst false full::vs):=fun sq=>by
  simp only [Zm,Zf,(ZlS (σ:=[]) hv).2.2]
 rw [Zgz hb hp,hn,h]
 have : Zaf true 0 (some (.tup (ZeB full::vs),ZeH k full))=some (.tup (.lst false full::vs),[]):=by
  unfold Zaf
  rw [if_pos rfl]
  cases full with
  | nil =>
   obtain ⟨b1,b2,b3⟩:=ZlS (σ:=[]) hv
   simp [Zgm,Zga,ZbJ,viewR,viewAs,ZS,ZN,b1,Zs,gcA,ZB,Zz,Zt,Z2,b2,Zf,Zm,b3,Zw]
  | cons x xs =>
   obtain ⟨b1,b2,b3⟩:=ZlS (σ:=[ZK.row 0 k (x::xs)]) hv
   simp only [Zhw,ZhZ]
   generalize x::xs=X at *
   simp [ZbJ,viewR,viewAs,ZS,ZN,Z0,b1,Zs,gcA,ZB,Zz,Zt,Z2,b2,Zf,Zm,b3,Zw]
 rw [this,Zjx _ _ _ _ (hr sq)]
theorem ZjT (σ:Za) (sq own:Nat) (f:Bool) (w:Int) (b:Zb) (hl:b.length<=140737488355328):Zj E BY σ sq 90 own true [.int .i64 w,.lst f (b.map Zc)]=some (.tup [.lst false ((Z3 w b).1.map Zn),.int .i64 ((Z3 w b).2.1:Nat),.int .i64 (Z3 w b).2.2],σ,{}) :=
 ZDK (k:=5) (ZKl w b hl) rfl (by kernel_rfl) rfl rfl _ _ _
end
section
end
section
structure Zd4 where
 b:Zb
 short:Bool
def ZeZ (b:Zb):Int:=IntKind.i64.wrap (Zba b:Int)
end
section
def Zbb:Ze:=(.seq (.region [oI 1 (.box (.t 0))] none [1]) (.seq (.region [oI 4 (.ld none (.t 1)),oI 5 (.nilchk (.t 4)),oI 6 (.faddr 0 (.t 5)),oI 2 (.alloc [.nilp]),oN (.st 1 (.t 2) (.t 6))] none [2,1]) (.seq (.seq (.region [oI 7 (.ld none (.t 2)),oI 8 (.nilchk (.t 7)),oI 9 (.faddr 0 (.t 8)),oI 10 (.ld none (.t 9))] none [10,2,1]) (.block 0 (.seq (.region [oI 12 (.bin .eql (.t 10) (.c (.int .i64 1))),oI 11 (.mov (.t 12))] none [11,10,2,1]) (.cond (.t 11) (.region [oI 13 (.ld none (.t 1)),oI 14 (.call 114 0 true [(.t 13)])] none [1]) (.seq (.region [oI 16 (.bin .eql (.t 10) (.c (.int .i64 2))),oI 15 (.mov (.t 16))] none [15,10,2,1]) (.cond (.t 15) (.seq (.region [oI 17 (.ld none (.t 1)),oI 18 (.call 115 0 true [(.t 17),(.c (.int .i64 1))]),oI 3 (.mov (.t 18))] none [3,2,1]) (.seq (.region [oI 19 (.mov (.t 3)),oI 20 (.bin .lss (.t 19) (.c (.int .i64 2))),oI 21 (.call 113 0 true [(.t 20),(.c (.int .i64 129))])] none [3,2,1]) (.seq (.region [oI 22 (.ld none (.t 2)),oI 23 (.mov (.t 3)),oI 24 (.bin .eql (.t 23) (.c (.int .i64 1))),oI 25 (.nilchk (.t 22)),oI 26 (.faddr 25 (.t 25)),oN (.st 1 (.t 26) (.t 24))] none [2,1]) (.seq (.region [oI 27 (.ld none (.t 2)),oI 28 (.ld none (.t 1)),oI 29 (.call 116 0 true [(.t 28)]),oI 30 (.nilchk (.t 27)),oI 31 (.faddr 7 (.t 30)),oN (.st 1 (.t 31) (.t 29))] (some [(0,1),(0,2),(2,2)]) [2,1]) (.region [oI 32 (.ld none (.t 2)),oI 33 (.ld none (.t 1)),oI 34 (.call 117 0 true [(.t 33),(.c (.int .i64 2))]),oI 35 (.nilchk (.t 32)),oI 36 (.faddr 9 (.t 35)),oN (.st 1 (.t 36) (.t 34))] (some [(0,1),(0,2),(2,2)]) [1]))))) (.seq (.region [oI 38 (.bin .eql (.t 10) (.c (.int .i64 3))),oI 37 (.mov (.t 38))] none [37,10,2,1]) (.cond (.t 37) (.region [oI 39 (.ld none (.t 1)),oI 40 (.call 118 0 true [(.t 39)])] none [1]) (.seq (.seq (.region [oI 42 (.bin .eql (.t 10) (.c (.int .i64 4))),oI 41 (.mov (.t 42))] none [41,10,2,1]) (.cond (.t 41) .skip (.seq (.region [oI 43 (.bin .eql (.t 10) (.c (.int .i64 5))),oI 41 (.mov (.t 43))] none [41,10,2,1]) (.cond (.t 41) .skip (.seq (.region [oI 44 (.bin .eql (.t 10) (.c (.int .i64 6))),oI 41 (.mov (.t 44))] none [41,10,2,1]) (.cond (.t 41) .skip (.region [oI 45 (.bin .eql (.t 10) (.c (.int .i64 7))),oI 41 (.mov (.t 45))] none [41,10,2,1]))))))) (.cond (.t 41) (.seq (.region [oI 46 (.ld none (.t 1)),oI 47 (.call 119 0 true [(.t 46)])] none [1]) (.region [oI 48 (.ld none (.t 1)),oI 49 (.call 120 0 true [(.t 48)])] none [1])) (.seq (.region [oI 51 (.bin .eql (.t 10) (.c (.int .i64 8))),oI 50 (.mov (.t 51))] none [50,10,2,1]) (.cond (.t 50) (.region [oI 52 (.ld none (.t 1)),oI 53 (.ld none (.t 1)),oI 54 (.mkfn 1000122 [(.t 53)]),oI 55 (.call 121 1 true [(.t 52),(.t 54)])] none [1]) (.seq (.region [oI 57 (.bin .eql (.t 10) (.c (.int .i64 10))),oI 56 (.mov (.t 57))] none [56,10,2,1]) (.cond (.t 56) (.region [oI 58 (.ld none (.t 1)),oI 59 (.mkfn 123 [(.t 2),(.t 1)]),oI 60 (.call 121 1 true [(.t 58),(.t 59)])] none [1]) (.seq (.seq (.region [oI 62 (.bin .eql (.t 10) (.c (.int .i64 9))),oI 61 (.mov (.t 62))] none [61,10,2,1]) (.cond (.t 61) .skip (.region [oI 63 (.bin .eql (.t 10) (.c (.int .i64 11))),oI 61 (.mov (.t 63))] none [61,10,2,1]))) (.cond (.t 61) (.region [oI 64 (.ld none (.t 1)),oI 65 (.mkfn 125 [(.t 2),(.t 1)]),oI 66 (.call 121 1 true [(.t 64),(.t 65)])] none [1]) (.seq (.seq (.region [oI 68 (.bin .eql (.t 10) (.c (.int .i64 14))),oI 67 (.mov (.t 68))] none [67,10,1]) (.cond (.t 67) .skip (.region [oI 69 (.bin .eql (.t 10) (.c (.int .i64 15))),oI 67 (.mov (.t 69))] none [67,1]))) (.cond (.t 67) (.region [oI 70 (.ld none (.t 1)),oI 71 (.call 120 0 true [(.t 70)])] none [1]) .skip)))))))))))))))))) (.region [oI 72 (.ld none (.t 1)),oI 73 (.nilchk (.t 72)),oI 74 (.faddr 26 (.t 73)),oI 75 (.ld none (.t 74)),oI 76 (.len (.t 75)),oI 77 (.bin .eql (.t 76) (.c (.int .i64 0))),oI 78 (.call 113 0 true [(.t 77),(.c (.int .i64 129))])] none []))))
def ZqG:ZE:=⟨[],Zbb⟩
theorem Zbj:FC 77=some ZqG:=by kernel_rfl
theorem Zbi:ZqG.body=Zbb:=rfl
theorem ZeU:ZqG.res=[]:=rfl
def Zdu:Ze:=(.region [oI 2 (.ld none (.t 0)),oI 3 (.ld none (.t 0)),oI 4 (.nilchk (.t 3)),oI 5 (.faddr 11 (.t 4)),oI 6 (.ld none (.t 5)),oI 7 (.ld none (.t 1)),oI 8 (.call 124 0 true [(.t 7)]),oI 9 (.bslice false 1 1 (.str []) [(0,(.t 8))]),oI 10 (.app 1 16 (.str []) (.t 6) (.t 9)),oI 11 (.nilchk (.t 2)),oI 12 (.faddr 11 (.t 11)),oN (.st 1 (.t 12) (.t 10))] (some [(0,1),(0,4),(0,5),(1,5),(4,5),(0,6),(1,6),(4,6),(0,7),(1,7),(4,7),(0,8),(6,6)]) [])
def ZDQ:ZE:=⟨[],Zdu⟩
theorem Zk1:FC 123=some ZDQ:=by kernel_rfl
def Zdy:Ze:=(.region [oI 2 (.ld none (.t 0)),oI 3 (.ld none (.t 0)),oI 4 (.nilchk (.t 3)),oI 5 (.faddr 8 (.t 4)),oI 6 (.ld none (.t 5)),oI 7 (.ld none (.t 1)),oI 8 (.call 116 0 true [(.t 7)]),oI 9 (.bslice false 1 1 (.int .i64 0) [(0,(.t 8))]),oI 10 (.app 1 8 (.int .i64 0) (.t 6) (.t 9)),oI 11 (.nilchk (.t 2)),oI 12 (.faddr 8 (.t 11)),oN (.st 1 (.t 12) (.t 10))] (some [(0,1),(0,4),(0,5),(1,5),(4,5),(0,6),(1,6),(4,6),(0,7),(1,7),(4,7),(0,8),(6,6)]) [])
def ZyK:ZE:=⟨[],Zdy⟩
theorem Zka:FC 125=some ZyK:=by kernel_rfl
def Ze2:Ze:=(.seq (.region [oI 2 (.mov (.c (.int .i64 0)))] none [0]) (.seq (.region [oI 4 (.mov (.t 0)),oI 5 (.call 115 0 true [(.t 4),(.c (.int .i64 1))]),oI 3 (.mov (.t 5))] none [3,0]) (.seq (.region [oI 6 (.mov (.t 0)),oI 7 (.nilchk (.t 6)),oI 8 (.faddr 0 (.t 7)),oI 9 (.faddr 0 (.t 8)),oI 10 (.ld none (.t 9)),oI 11 (.mov (.t 3)),oI 12 (.call 41 0 true [(.t 10),(.t 11)]),oI 13 (.call 113 0 true [(.t 12),(.c (.int .i64 130))])] none [3]) (.seq (.region [oI 14 (.mov (.t 3)),oI 2 (.mov (.t 14))] none [2]) .ret))))
def Zpm:ZE:=⟨[(.tmp 2)],Ze2⟩
theorem ZfS:FC 116=some Zpm:=by kernel_rfl
theorem Zf4:Zpm.body=Ze2:=rfl
theorem ZsX:Zpm.res=[(.tmp 2)]:=rfl
def Zqp:Ze:=(.seq (.region [oI 4 (.mov (.t 0)),oI 5 (.nilchk (.t 4)),oI 6 (.faddr 0 (.t 5)),oI 2 (.mov (.t 6))] none [2,0]) (.seq (.region [oI 7 (.mov (.t 0)),oI 8 (.call 124 0 true [(.t 7)]),oI 9 (.bin .eql (.t 8) (.c (.str [77,81,84,84]))),oI 10 (.call 113 0 true [(.t 9),(.c (.int .i64 132))])] none [2,0]) (.seq (.region [oI 11 (.mov (.t 0)),oI 12 (.call 115 0 true [(.t 11),(.c (.int .i64 1))]),oI 13 (.bin .eql (.t 12) (.c (.int .i64 5))),oI 14 (.call 113 0 true [(.t 13),(.c (.int .i64 132))])] none [2,0]) (.seq (.region [oI 15 (.mov (.t 0)),oI 16 (.call 115 0 true [(.t 15),(.c (.int .i64 1))]),oI 3 (.mov (.t 16))] none [3,2,0]) (.seq (.region [oI 17 (.mov (.t 2)),oI 18 (.mov (.t 2)),oI 19 (.mov (.t 3)),oI 20 (.bin .and (.t 19) (.c (.int .i64 2))),oI 21 (.bin .neq (.t 20) (.c (.int .i64 0))),oI 22 (.mov (.t 3)),oI 23 (.bin .and (.t 22) (.c (.int .i64 4))),oI 24 (.bin .neq (.t 23) (.c (.int .i64 0))),oI 25 (.nilchk (.t 17)),oI 26 (.faddr 12 (.t 25)),oN (.st 1 (.t 26) (.t 21)),oI 27 (.nilchk (.t 18)),oI 28 (.faddr 15 (.t 27)),oN (.st 1 (.t 28) (.t 24))] none [3,2,0]) (.seq (.region [oI 29 (.mov (.t 2)),oI 30 (.mov (.t 2)),oI 31 (.mov (.t 3)),oI 32 (.bin .and (.t 31) (.c (.int .i64 64))),oI 33 (.bin .neq (.t 32) (.c (.int .i64 0))),oI 34 (.mov (.t 3)),oI 35 (.bin .and (.t 34) (.c (.int .i64 128))),oI 36 (.bin .neq (.t 35) (.c (.int .i64 0))),oI 37 (.nilchk (.t 29)),oI 38 (.faddr 23 (.t 37)),oN (.st 1 (.t 38) (.t 33)),oI 39 (.nilchk (.t 30)),oI 40 (.faddr 21 (.t 39)),oN (.st 1 (.t 40) (.t 36))] none [3,2,0]) (.seq (.region [oI 41 (.mov (.t 2)),oI 42 (.mov (.t 2)),oI 43 (.mov (.t 3)),oI 44 (.bin .quo (.t 43) (.c (.int .i64 8))),oI 45 (.bin .and (.t 44) (.c (.int .i64 3))),oI 46 (.mov (.t 3)),oI 47 (.bin .and (.t 46) (.c (.int .i64 32))),oI 48 (.bin .neq (.t 47) (.c (.int .i64 0))),oI 49 (.nilchk (.t 41)),oI 50 (.faddr 16 (.t 49)),oI 51 (.faddr 2 (.t 50)),oN (.st 1 (.t 51) (.t 45)),oI 52 (.nilchk (.t 42)),oI 53 (.faddr 16 (.t 52)),oI 54 (.faddr 3 (.t 53)),oN (.st 1 (.t 54) (.t 48))] none [3,2,0]) (.seq (.region [oI 55 (.mov (.t 3)),oI 56 (.bin .and (.t 55) (.c (.int .i64 1))),oI 57 (.bin .eql (.t 56) (.c (.int .i64 0))),oI 58 (.mov (.t 57)),⟨(some 59),(.mov (.t 2)),(some (58,true)),[]⟩,⟨(some 60),(.nilchk (.t 59)),(some (58,true)),[]⟩,⟨(some 61),(.faddr 16 (.t 60)),(some (58,true)),[]⟩,⟨(some 62),(.faddr 2 (.t 61)),(some (58,true)),[]⟩,⟨(some 63),(.ld none (.t 62)),(some (58,true)),[]⟩,⟨(some 64),(.bin .lss (.t 63) (.c (.int .i64 3))),(some (58,true)),[]⟩,oI 65 (.pick (.t 58) (.t 64) (.c (.bool false))),oI 66 (.mov (.t 65)),⟨(some 67),(.mov (.t 2)),(some (66,true)),[]⟩,⟨(some 68),(.nilchk (.t 67)),(some (66,true)),[]⟩,⟨(some 69),(.faddr 15 (.t 68)),(some (66,true)),[]⟩,⟨(some 70),(.ld none (.t 69)),(some (66,true)),[]⟩,⟨(some 71),(.mov (.t 70)),(some (66,true)),[]⟩,⟨(some 72),(.mov (.t 2)),(some (71,false)),[]⟩,⟨(some 73),(.nilchk (.t 72)),(some (71,false)),[]⟩,⟨(some 74),(.faddr 16 (.t 73)),(some (71,false)),[]⟩,⟨(some 75),(.faddr 2 (.t 74)),(some (71,false)),[]⟩,⟨(some 76),(.ld none (.t 75)),(some (71,false)),[]⟩,⟨(some 77),(.bin .eql (.t 76) (.c (.int .i64 0))),(some (71,false)),[]⟩,⟨(some 78),(.mov (.t 77)),(some (71,false)),[]⟩,⟨(some 79),(.mov (.t 2)),(some (78,true)),[]⟩,⟨(some 80),(.nilchk (.t 79)),(some (78,true)),[]⟩,⟨(some 81),(.faddr 16 (.t 80)),(some (78,true)),[]⟩,⟨(some 82),(.faddr 3 (.t 81)),(some (78,true)),[]⟩,⟨(some 83),(.ld none (.t 82)),(some (78,true)),[]⟩,⟨(some 84),(.un .not (.t 83)),(some (78,true)),[]⟩,⟨(some 85),(.pick (.t 78) (.t 84) (.c (.bool false))),(some (71,false)),[]⟩,⟨(some 86),(.pick (.t 71) (.c (.bool true)) (.t 85)),(some (66,true)),[]⟩,oI 87 (.pick (.t 66) (.t 86) (.c (.bool false))),oI 88 (.call 113 0 true [(.t 87),(.c (.int .i64 129))])] none [2,0]) (.seq (.region [oI 89 (.mov (.t 2)),oI 90 (.mov (.t 0)),oI 91 (.call 115 0 true [(.t 90),(.c (.int .i64 2))]),oI 92 (.nilchk (.t 89)),oI 93 (.faddr 13 (.t 92)),oN (.st 1 (.t 93) (.t 91))] none [2,0]) (.seq (.region [oI 94 (.mov (.t 2)),oI 95 (.mov (.t 0)),oI 96 (.call 117 0 true [(.t 95),(.c (.int .i64 1))]),oI 97 (.nilchk (.t 94)),oI 98 (.faddr 9 (.t 97)),oN (.st 1 (.t 98) (.t 96))] none [2,0]) (.seq (.region [oI 99 (.mov (.t 2)),oI 100 (.mov (.t 0)),oI 101 (.call 124 0 true [(.t 100)]),oI 102 (.nilchk (.t 99)),oI 103 (.faddr 14 (.t 102)),oN (.st 1 (.t 103) (.t 101))] none [2,0]) (.seq (.seq (.region [oI 104 (.mov (.t 2)),oI 105 (.nilchk (.t 104)),oI 106 (.faddr 15 (.t 105)),oI 107 (.ld none (.t 106))] none [107,2,0]) (.cond (.t 107) (.seq (.region [oI 108 (.mov (.t 2)),oI 109 (.mov (.t 0)),oI 110 (.call 117 0 true [(.t 109),(.c (.int .i64 16))]),oI 111 (.nilchk (.t 108)),oI 112 (.faddr 16 (.t 111)),oI 113 (.faddr 4 (.t 112)),oN (.st 1 (.t 113) (.t 110))] none [2,0]) (.seq (.region [oI 114 (.mov (.t 2)),oI 115 (.mov (.t 0)),oI 116 (.call 124 0 true [(.t 115)]),oI 117 (.nilchk (.t 114)),oI 118 (.faddr 16 (.t 117)),oI 119 (.faddr 0 (.t 118)),oN (.st 1 (.t 119) (.t 116))] none [2,0]) (.region [oI 120 (.mov (.t 2)),oI 121 (.mov (.t 0)),oI 122 (.call 148 0 true [(.t 121)]),oI 123 (.nilchk (.t 120)),oI 124 (.faddr 16 (.t 123)),oI 125 (.faddr 1 (.t 124)),oN (.st 1 (.t 125) (.t 122))] none [2,0]))) .skip)) (.seq (.seq (.region [oI 126 (.mov (.t 2)),oI 127 (.nilchk (.t 126)),oI 128 (.faddr 21 (.t 127)),oI 129 (.ld none (.t 128))] none [129,2,0]) (.cond (.t 129) (.region [oI 130 (.mov (.t 2)),oI 131 (.mov (.t 0)),oI 132 (.call 124 0 true [(.t 131)]),oI 133 (.nilchk (.t 130)),oI 134 (.faddr 22 (.t 133)),oN (.st 1 (.t 134) (.t 132))] none [2,0]) .skip)) (.seq (.region [oI 135 (.mov (.t 2)),oI 136 (.nilchk (.t 135)),oI 137 (.faddr 23 (.t 136)),oI 138 (.ld none (.t 137))] none [138,2,0]) (.cond (.t 138) (.region [oI 139 (.mov (.t 2)),oI 140 (.mov (.t 0)),oI 141 (.call 148 0 true [(.t 140)]),oI 142 (.nilchk (.t 139)),oI 143 (.faddr 24 (.t 142)),oN (.st 1 (.t 143) (.t 141))] none []) .skip)))))))))))))))
def ZnV:ZE:=⟨[],Zqp⟩
theorem Zu1:FC 114=some ZnV:=by kernel_rfl
def Zlx:Ze:=(.seq (.region [oI 2 (.mov (.c (.lst true [])))] none [0]) (.seq (.region [oI 7 (.mov (.t 0)),oI 8 (.nilchk (.t 7)),oI 9 (.faddr 26 (.t 8)),oI 10 (.ld none (.t 9)),oI 11 (.call 106 0 true [(.t 10)]),oI 6 (.mov (.t 11)),oI 12 (.ext (.t 6) 0),oI 13 (.ext (.t 6) 1),oI 14 (.ext (.t 6) 2),oI 3 (.mov (.t 12)),oI 4 (.mov (.t 13)),oI 5 (.mov (.t 14))] none [5,4,3,0]) (.seq (.region [oI 15 (.mov (.t 5)),oI 16 (.bin .eql (.t 15) (.c (.int .i64 0))),oI 17 (.call 113 0 true [(.t 16),(.c (.int .i64 129))])] none [4,3,0]) (.seq (.region [oI 18 (.mov (.t 0)),oI 19 (.mov (.t 0)),oI 20 (.nilchk (.t 19)),oI 21 (.faddr 26 (.t 20)),oI 22 (.ld none (.t 21)),oI 23 (.mov (.t 4)),oI 24 (.slice 1 (.t 22) (some (.t 23)) none none),oI 25 (.nilchk (.t 18)),oI 26 (.faddr 26 (.t 25)),oN (.st 1 (.t 26) (.t 24))] none [3]) (.seq (.region [oI 27 (.mov (.t 3)),oI 2 (.mov (.t 27))] none [2]) .ret)))))
def Zos:ZE:=⟨[(.tmp 2)],Zlx⟩
theorem Zv4:FC 148=some Zos:=by kernel_rfl
theorem ZsV:Zos.body=Zlx:=rfl
theorem ZKF:Zos.res=[(.tmp 2)]:=rfl
def Zfl:Ze:=(.seq (.region [oI 5 (.mov (.t 0)),oI 6 (.nilchk (.t 5)),oI 7 (.faddr 0 (.t 6)),oI 4 (.mov (.t 7))] none [4,1]) (.seq (.region [oI 8 (.mov (.t 4)),oI 9 (.mov (.t 1)),oI 10 (.bin .shr (.t 9) (.c (.int .u64 4))),oI 11 (.i2i .i64 (.t 10)),oI 12 (.nilchk (.t 8)),oI 13 (.faddr 0 (.t 12)),oN (.st 1 (.t 13) (.t 11))] none [4,1]) (.seq (.region [oI 14 (.mov (.t 4)),oI 15 (.nilchk (.t 14)),oI 16 (.faddr 0 (.t 15)),oI 17 (.ld none (.t 16)),oI 18 (.bin .neq (.t 17) (.c (.int .i64 0))),oI 19 (.call 113 0 true [(.t 18),(.c (.int .i64 129))])] none [4,1]) (.seq (.seq (.region [oI 20 (.mov (.t 4)),oI 21 (.nilchk (.t 20)),oI 22 (.faddr 0 (.t 21)),oI 23 (.ld none (.t 22)),oI 24 (.bin .neq (.t 23) (.c (.int .i64 3)))] none [24,4,1]) (.cond (.t 24) (.seq (.region [oI 25 (.mov (.t 1)),oI 26 (.bin .and (.t 25) (.c (.int .u8 15))),oI 27 (.mov (.t 4)),oI 28 (.nilchk (.t 27)),oI 29 (.faddr 0 (.t 28)),oI 30 (.ld none (.t 29)),oI 31 (.call 79 0 true [(.t 30)]),oI 32 (.bin .eql (.t 26) (.t 31)),oI 33 (.call 113 0 true [(.t 32),(.c (.int .i64 129))])] none []) .ret) .skip)) (.seq (.region [oI 34 (.mov (.t 4)),oI 35 (.mov (.t 4)),oI 36 (.mov (.t 4)),oI 37 (.mov (.t 1)),oI 38 (.bin .and (.t 37) (.c (.int .u8 8))),oI 39 (.bin .neq (.t 38) (.c (.int .u8 0))),oI 40 (.mov (.t 1)),oI 41 (.bin .shr (.t 40) (.c (.int .u64 1))),oI 42 (.bin .and (.t 41) (.c (.int .u8 3))),oI 43 (.i2i .i64 (.t 42)),oI 44 (.mov (.t 1)),oI 45 (.bin .and (.t 44) (.c (.int .u8 1))),oI 46 (.bin .neq (.t 45) (.c (.int .u8 0))),oI 47 (.nilchk (.t 34)),oI 48 (.faddr 1 (.t 47)),oN (.st 1 (.t 48) (.t 39)),oI 49 (.nilchk (.t 35)),oI 50 (.faddr 2 (.t 49)),oN (.st 1 (.t 50) (.t 43)),oI 51 (.nilchk (.t 36)),oI 52 (.faddr 3 (.t 51)),oN (.st 1 (.t 52) (.t 46))] none [4]) (.seq (.region [oI 53 (.mov (.t 4)),oI 54 (.nilchk (.t 53)),oI 55 (.faddr 2 (.t 54)),oI 56 (.ld none (.t 55)),oI 57 (.bin .lss (.t 56) (.c (.int .i64 3))),oI 58 (.call 113 0 true [(.t 57),(.c (.int .i64 129))])] none [4]) (.region [oI 59 (.mov (.t 4)),oI 60 (.nilchk (.t 59)),oI 61 (.faddr 2 (.t 60)),oI 62 (.ld none (.t 61)),oI 63 (.bin .gtr (.t 62) (.c (.int .i64 0))),oI 64 (.mov (.t 63)),⟨(some 65),(.mov (.t 4)),(some (64,false)),[]⟩,⟨(some 66),(.nilchk (.t 65)),(some (64,false)),[]⟩,⟨(some 67),(.faddr 1 (.t 66)),(some (64,false)),[]⟩,⟨(some 68),(.ld none (.t 67)),(some (64,false)),[]⟩,⟨(some 69),(.un .not (.t 68)),(some (64,false)),[]⟩,oI 70 (.pick (.t 64) (.c (.bool true)) (.t 69)),oI 71 (.call 113 0 true [(.t 70),(.c (.int .i64 130))])] none [])))))))
def Zm0:ZE:=⟨[],Zfl⟩
theorem ZgH:FC 76=some Zm0:=by kernel_rfl
theorem Zg5:Zm0.body=Zfl:=rfl
theorem Zqw:Zm0.res=[]:=rfl
def ZjA:Ze:=(.seq (.region [oI 2 (.mov (.t 0)),oI 3 (.mov (.t 0)),oI 4 (.call 115 0 true [(.t 3),(.c (.int .i64 2))]),oI 5 (.nilchk (.t 2)),oI 6 (.faddr 0 (.t 5)),oI 7 (.faddr 4 (.t 6)),oN (.st 1 (.t 7) (.t 4))] none [0]) (.region [oI 8 (.mov (.t 0)),oI 9 (.nilchk (.t 8)),oI 10 (.faddr 0 (.t 9)),oI 11 (.faddr 4 (.t 10)),oI 12 (.ld none (.t 11)),oI 13 (.bin .neq (.t 12) (.c (.int .i64 0))),oI 14 (.call 113 0 true [(.t 13),(.c (.int .i64 130))])] none []))
def Zm6:ZE:=⟨[],ZjA⟩
theorem Zmn:FC 119=some Zm6:=by kernel_rfl
theorem Zok:Zm6.body=ZjA:=rfl
theorem ZB7:Zm6.res=[]:=rfl
def Zc6:Ze:=(.seq (.seq (.region [oI 24 (.mov (.t 0)),oI 25 (.nilchk (.t 24)),oI 26 (.faddr 26 (.t 25)),oI 27 (.ld none (.t 26)),oI 28 (.len (.t 27)),oI 29 (.bin .gtr (.t 28) (.c (.int .i64 0)))] none [29,1,0]) (.cond (.t 29) .skip (.exit 0))) (.block 1 (.region [oI 30 (.mov (.t 1)),oI 31 (.callv (.t 30) [])] none [1,0])))
def Zm3:Ze:=Zc6
def ZdQ:=xw Zm3 Zc6 rfl
def ZeA:Ze:=(.seq (.region [oI 4 (.mov (.t 0)),oI 5 (.call 119 0 true [(.t 4)])] none [1,0]) (.seq (.region [oI 6 (.mov (.t 0)),oI 7 (.mov (.t 0)),oI 8 (.mov (.t 0)),oI 9 (.nilchk (.t 8)),oI 10 (.faddr 0 (.t 9)),oI 11 (.faddr 0 (.t 10)),oI 12 (.ld none (.t 11)),oI 13 (.call 117 0 true [(.t 7),(.t 12)]),oI 14 (.nilchk (.t 6)),oI 15 (.faddr 0 (.t 14)),oI 16 (.faddr 9 (.t 15)),oN (.st 1 (.t 16) (.t 13))] none [1,0]) (.seq (.region [oI 17 (.mov (.t 0)),oI 18 (.nilchk (.t 17)),oI 19 (.faddr 26 (.t 18)),oI 20 (.ld none (.t 19)),oI 21 (.len (.t 20)),oI 22 (.bin .gtr (.t 21) (.c (.int .i64 0))),oI 23 (.call 113 0 true [(.t 22),(.c (.int .i64 130))])] none [1,0]) (.block 0 (.loop [1,0] Zm3)))))
def Zkc:ZE:=⟨[],ZeA⟩
theorem Zgb:FC 121=some Zkc:=by kernel_rfl
theorem ZfV:Zkc.body=ZeA:=rfl
theorem Zkm:Zkc.res=[]:=rfl
noncomputable def ZaZ (m:Nat) (tm:Tms) (σ:Za):Option (AVal×Za):=(Zap m Zkc (Option.map (ZaW 0) (evL FC PR BY m [1,0] Zm3 tm σ)))
def ZhL:Ze:=(.seq (.region [oI 4 (.mov (.c (.int .i64 0)))] none [1,0]) (.seq (.region [oI 6 (.mov (.t 0)),oI 7 (.nilchk (.t 6)),oI 8 (.faddr 26 (.t 7)),oI 9 (.ld none (.t 8)),oI 10 (.len (.t 9)),oI 11 (.mov (.t 1)),oI 12 (.bin .geq (.t 10) (.t 11)),oI 13 (.call 113 0 true [(.t 12),(.c (.int .i64 129))])] none [1,0]) (.seq (.region [oI 14 (.mov (.t 0)),oI 15 (.nilchk (.t 14)),oI 16 (.faddr 26 (.t 15)),oI 17 (.ld none (.t 16)),oI 18 (.mov (.t 1)),oI 19 (.slice 1 (.t 17) none (some (.t 18)) none),oI 20 (.call 108 0 true [(.t 19)]),oI 21 (.i2i .i64 (.t 20)),oI 5 (.mov (.t 21))] none [5,1,0]) (.seq (.region [oI 22 (.mov (.t 0)),oI 23 (.mov (.t 0)),oI 24 (.nilchk (.t 23)),oI 25 (.faddr 26 (.t 24)),oI 26 (.ld none (.t 25)),oI 27 (.mov (.t 1)),oI 28 (.slice 1 (.t 26) (some (.t 27)) none none),oI 29 (.nilchk (.t 22)),oI 30 (.faddr 26 (.t 29)),oN (.st 1 (.t 30) (.t 28))] none [5]) (.seq (.region [oI 31 (.mov (.t 5)),oI 4 (.mov (.t 31))] none [4]) .ret)))))
def Zpg:ZE:=⟨[(.tmp 4)],ZhL⟩
theorem ZlA:FC 115=some Zpg:=by kernel_rfl
theorem ZlQ:Zpg.body=ZhL:=rfl
theorem Zut:Zpg.res=[(.tmp 4)]:=rfl
def ZlJ:Ze:=(.seq (.region [oI 4 (.mov (.c (.lst true [])))] none [1,0]) (.seq (.region [oI 9 (.mov (.t 1)),oI 10 (.mov (.t 0)),oI 11 (.nilchk (.t 10)),oI 12 (.faddr 26 (.t 11)),oI 13 (.ld none (.t 12)),oI 14 (.call 90 0 true [(.t 9),(.t 13)]),oI 8 (.mov (.t 14)),oI 15 (.ext (.t 8) 0),oI 16 (.ext (.t 8) 1),oI 17 (.ext (.t 8) 2),oI 5 (.mov (.t 15)),oI 6 (.mov (.t 16)),oI 7 (.mov (.t 17))] none [7,6,5,0]) (.seq (.region [oI 18 (.mov (.t 7)),oI 19 (.bin .eql (.t 18) (.c (.int .i64 0))),oI 20 (.mov (.t 7)),oI 21 (.call 113 0 true [(.t 19),(.t 20)])] none [6,5,0]) (.seq (.region [oI 22 (.mov (.t 0)),oI 23 (.mov (.t 0)),oI 24 (.nilchk (.t 23)),oI 25 (.faddr 26 (.t 24)),oI 26 (.ld none (.t 25)),oI 27 (.mov (.t 6)),oI 28 (.slice 1 (.t 26) (some (.t 27)) none none),oI 29 (.nilchk (.t 22)),oI 30 (.faddr 26 (.t 29)),oN (.st 1 (.t 30) (.t 28))] none [5]) (.seq (.region [oI 31 (.mov (.t 5)),oI 4 (.mov (.t 31))] none [4]) .ret)))))
def ZoR:ZE:=⟨[(.tmp 4)],ZlJ⟩
theorem Zwf:FC 117=some ZoR:=by kernel_rfl
theorem Zta:ZoR.body=ZlJ:=rfl
theorem ZOh:ZoR.res=[(.tmp 4)]:=rfl
def Zge:Ze:=(.seq (.region [oI 2 (.mov (.t 0)),oI 3 (.mov (.t 0)),oI 4 (.call 124 0 true [(.t 3)]),oI 5 (.nilchk (.t 2)),oI 6 (.faddr 0 (.t 5)),oI 7 (.faddr 5 (.t 6)),oN (.st 1 (.t 7) (.t 4))] none [0]) (.seq (.seq (.region [oI 8 (.mov (.t 0)),oI 9 (.nilchk (.t 8)),oI 10 (.faddr 0 (.t 9)),oI 11 (.faddr 2 (.t 10)),oI 12 (.ld none (.t 11)),oI 13 (.bin .gtr (.t 12) (.c (.int .i64 0)))] none [13,0]) (.cond (.t 13) (.region [oI 14 (.mov (.t 0)),oI 15 (.call 119 0 true [(.t 14)])] none [0]) .skip)) (.seq (.region [oI 16 (.mov (.t 0)),oI 17 (.mov (.t 0)),oI 18 (.call 117 0 true [(.t 17),(.c (.int .i64 3))]),oI 19 (.nilchk (.t 16)),oI 20 (.faddr 0 (.t 19)),oI 21 (.faddr 9 (.t 20)),oN (.st 1 (.t 21) (.t 18))] none [0]) (.region [oI 22 (.mov (.t 0)),oI 23 (.mov (.t 0)),oI 24 (.mov (.t 0)),oI 25 (.nilchk (.t 24)),oI 26 (.faddr 26 (.t 25)),oI 27 (.ld none (.t 26)),oI 28 (.call 111 0 true [(.t 27)]),oI 29 (.nilchk (.t 22)),oI 30 (.faddr 0 (.t 29)),oI 31 (.faddr 6 (.t 30)),oN (.st 1 (.t 31) (.t 28)),oI 32 (.nilchk (.t 23)),oI 33 (.faddr 26 (.t 32)),oN (.st 1 (.t 33) (.c (.lst true [])))] none []))))
def Zmr:ZE:=⟨[],Zge⟩
theorem Zia:FC 118=some Zmr:=by kernel_rfl
theorem ZhW:Zmr.body=Zge:=rfl
theorem Zr8:Zmr.res=[]:=rfl
def ZgN:Ze:=(.seq (.seq (.region [oI 2 (.mov (.t 0)),oI 3 (.nilchk (.t 2)),oI 4 (.faddr 26 (.t 3)),oI 5 (.ld none (.t 4)),oI 6 (.len (.t 5)),oI 7 (.bin .gtr (.t 6) (.c (.int .i64 0)))] none [7,0]) (.cond (.t 7) (.region [oI 8 (.mov (.t 0)),oI 9 (.mov (.t 0)),oI 10 (.call 116 0 true [(.t 9)]),oI 11 (.nilchk (.t 8)),oI 12 (.faddr 0 (.t 11)),oI 13 (.faddr 7 (.t 12)),oN (.st 1 (.t 13) (.t 10))] none [0]) .skip)) (.seq (.region [oI 14 (.mov (.t 0)),oI 15 (.nilchk (.t 14)),oI 16 (.faddr 26 (.t 15)),oI 17 (.ld none (.t 16)),oI 18 (.len (.t 17)),oI 19 (.bin .gtr (.t 18) (.c (.int .i64 0)))] none [19,0]) (.cond (.t 19) (.region [oI 20 (.mov (.t 0)),oI 21 (.mov (.t 0)),oI 22 (.mov (.t 0)),oI 23 (.nilchk (.t 22)),oI 24 (.faddr 0 (.t 23)),oI 25 (.faddr 0 (.t 24)),oI 26 (.ld none (.t 25)),oI 27 (.call 117 0 true [(.t 21),(.t 26)]),oI 28 (.nilchk (.t 20)),oI 29 (.faddr 0 (.t 28)),oI 30 (.faddr 9 (.t 29)),oN (.st 1 (.t 30) (.t 27))] none []) .skip)))
def ZnL:ZE:=⟨[],ZgN⟩
theorem Zjp:FC 120=some ZnL:=by kernel_rfl
theorem ZiA:ZnL.body=ZgN:=rfl
theorem Znf:ZnL.res=[]:=rfl
def Zdd:Ze:=(.seq (.region [oI 4 (.mov (.t 0)),oI 5 (.call 124 0 true [(.t 4)]),oI 6 (.build [(.str []),(.int .i64 0),(.bool false),(.bool false),(.int .i64 0),(.int .i64 0)] [(0,1,(.t 5))]),oI 2 (.alloc [(.str []),(.int .i64 0),(.bool false),(.bool false),(.int .i64 0),(.int .i64 0)]),oN (.st 6 (.t 2) (.t 6))] none [2,0]) (.seq (.region [oI 7 (.mov (.t 0)),oI 8 (.call 115 0 true [(.t 7),(.c (.int .i64 1))]),oI 3 (.mov (.t 8))] none [3,2,0]) (.seq (.region [oI 9 (.mov (.t 3)),oI 10 (.bin .lss (.t 9) (.c (.int .i64 64))),oI 11 (.call 113 0 true [(.t 10),(.c (.int .i64 129))])] none [3,2,0]) (.seq (.region [oI 12 (.mov (.t 3)),oI 13 (.bin .and (.t 12) (.c (.int .i64 3))),oI 14 (.mov (.t 3)),oI 15 (.bin .quo (.t 14) (.c (.int .i64 16))),oI 16 (.faddr 1 (.t 2)),oN (.st 1 (.t 16) (.t 13)),oI 17 (.faddr 4 (.t 2)),oN (.st 1 (.t 17) (.t 15))] none [3,2,0]) (.seq (.region [oI 18 (.mov (.t 3)),oI 19 (.bin .and (.t 18) (.c (.int .i64 4))),oI 20 (.bin .neq (.t 19) (.c (.int .i64 0))),oI 21 (.mov (.t 3)),oI 22 (.bin .and (.t 21) (.c (.int .i64 8))),oI 23 (.bin .neq (.t 22) (.c (.int .i64 0))),oI 24 (.faddr 2 (.t 2)),oN (.st 1 (.t 24) (.t 20)),oI 25 (.faddr 3 (.t 2)),oN (.st 1 (.t 25) (.t 23))] none [2,0]) (.seq (.region [oI 26 (.faddr 1 (.t 2)),oI 27 (.ld none (.t 26)),oI 28 (.bin .lss (.t 27) (.c (.int .i64 3))),oI 29 (.mov (.t 28)),⟨(some 30),(.faddr 4 (.t 2)),(some (29,true)),[]⟩,⟨(some 31),(.ld none (.t 30)),(some (29,true)),[]⟩,⟨(some 32),(.bin .lss (.t 31) (.c (.int .i64 3))),(some (29,true)),[]⟩,oI 33 (.pick (.t 29) (.t 32) (.c (.bool false))),oI 34 (.call 113 0 true [(.t 33),(.c (.int .i64 130))])] none [2,0]) (.region [oI 35 (.mov (.t 0)),oI 36 (.mov (.t 0)),oI 37 (.nilchk (.t 36)),oI 38 (.faddr 0 (.t 37)),oI 39 (.faddr 10 (.t 38)),oI 40 (.ld none (.t 39)),oI 41 (.ld (some 6) (.t 2)),oI 42 (.bslice false 6 1 (.agg [(.str []),(.int .i64 0),(.bool false),(.bool false),(.int .i64 0),(.int .i64 0)]) [(0,(.t 41))]),oI 43 (.app 6 48 (.agg [(.str []),(.int .i64 0),(.bool false),(.bool false),(.int .i64 0),(.int .i64 0)]) (.t 40) (.t 42)),oI 44 (.nilchk (.t 35)),oI 45 (.faddr 0 (.t 44)),oI 46 (.faddr 10 (.t 45)),oN (.st 1 (.t 46) (.t 43))] (some [(5,6),(5,7)]) [])))))))
def ZpK:ZE:=⟨[],Zdd⟩
theorem ZdF:FC 122=some ZpK:=by kernel_rfl
theorem ZdX:ZpK.body=Zdd:=rfl
theorem Zsm:ZpK.res=[]:=rfl
def Zic:Ze:=(.seq (.region [oI 2 (.mov (.c (.str [])))] none [0]) (.seq (.region [oI 7 (.mov (.t 0)),oI 8 (.nilchk (.t 7)),oI 9 (.faddr 26 (.t 8)),oI 10 (.ld none (.t 9)),oI 11 (.call 109 0 true [(.t 10)]),oI 6 (.mov (.t 11)),oI 12 (.ext (.t 6) 0),oI 13 (.ext (.t 6) 1),oI 14 (.ext (.t 6) 2),oI 3 (.mov (.t 12)),oI 4 (.mov (.t 13)),oI 5 (.mov (.t 14))] none [5,4,3,0]) (.seq (.region [oI 15 (.mov (.t 5)),oI 16 (.bin .eql (.t 15) (.c (.int .i64 0))),oI 17 (.call 113 0 true [(.t 16),(.c (.int .i64 129))])] none [4,3,0]) (.seq (.region [oI 18 (.mov (.t 0)),oI 19 (.mov (.t 0)),oI 20 (.nilchk (.t 19)),oI 21 (.faddr 26 (.t 20)),oI 22 (.ld none (.t 21)),oI 23 (.mov (.t 4)),oI 24 (.slice 1 (.t 22) (some (.t 23)) none none),oI 25 (.nilchk (.t 18)),oI 26 (.faddr 26 (.t 25)),oN (.st 1 (.t 26) (.t 24))] none [3]) (.seq (.region [oI 27 (.mov (.t 3)),oI 2 (.mov (.t 27))] none [2]) .ret)))))
def Zmg:ZE:=⟨[(.tmp 2)],Zic⟩
theorem Zj9:FC 124=some Zmg:=by kernel_rfl
theorem ZjR:Zmg.body=Zic:=rfl
theorem Zrv:Zmg.res=[(.tmp 2)]:=rfl
def Zlj:Ze:=(.seq (.region [oI 76 (.bin .lss (.t 75) (.t 74))] none [76,75,74,73,0]) (.seq (.cond (.t 76) .skip (.exit 1)) (.seq (.block 2 (.seq (.region [oI 77 (.iaddr 6 (.t 73) (.t 75)),oI 78 (.ld (some 6) (.t 77)),oI 5 (.alloc [(.str []),(.int .i64 0),(.bool false),(.bool false),(.int .i64 0),(.int .i64 0)]),oN (.st 6 (.t 5) (.t 78))] none [75,74,73,5,0]) (.seq (.region [oI 79 (.mov (.t 0)),oI 80 (.faddr 0 (.t 5)),oI 81 (.ld none (.t 80)),oI 82 (.call 129 1 true [(.t 79),(.t 81)])] none [75,74,73,5,0]) (.region [oI 83 (.mov (.t 0)),oI 84 (.faddr 1 (.t 5)),oI 85 (.ld none (.t 84)),oI 86 (.bin .and (.t 85) (.c (.int .i64 3))),oI 87 (.faddr 2 (.t 5)),oI 88 (.ld none (.t 87)),oI 89 (.call 81 0 true [(.t 88),(.c (.int .i64 4))]),oI 90 (.bin .add (.t 86) (.t 89)),oI 91 (.faddr 3 (.t 5)),oI 92 (.ld none (.t 91)),oI 93 (.call 81 0 true [(.t 92),(.c (.int .i64 8))]),oI 94 (.bin .add (.t 90) (.t 93)),oI 95 (.faddr 4 (.t 5)),oI 96 (.ld none (.t 95)),oI 97 (.bin .and (.t 96) (.c (.int .i64 3))),oI 98 (.bin .mul (.t 97) (.c (.int .i64 16))),oI 99 (.bin .add (.t 94) (.t 98)),oI 100 (.call 127 1 true [(.t 83),(.t 99),(.c (.int .i64 1))])] (some [(2,5),(2,6),(2,9),(5,9),(6,9),(2,10),(2,13),(5,13),(6,13),(9,13),(10,13),(17,17)]) [75,74,73,0])))) (.region [oI 101 (.bin .add (.t 75) (.c (.int .i64 1))),oI 75 (.mov (.t 101))] none [75,74,73,0]))))
def Zmt:Ze:=Zlj
def ZlW:Ze:=(.seq (.region [oI 111 (.bin .lss (.t 110) (.t 109))] none [111,110,109,108,0]) (.seq (.cond (.t 111) .skip (.exit 3)) (.seq (.block 4 (.seq (.region [oI 112 (.iaddr 1 (.t 108) (.t 110)),oI 113 (.ld none (.t 112)),oI 7 (.mov (.t 113))] none [110,109,108,7,0]) (.region [oI 114 (.mov (.t 0)),oI 115 (.mov (.t 7)),oI 116 (.call 129 1 true [(.t 114),(.t 115)])] none [110,109,108,0]))) (.region [oI 117 (.bin .add (.t 110) (.c (.int .i64 1))),oI 110 (.mov (.t 117))] none [110,109,108,0]))))
def Zoc:Ze:=ZlW
def Zlo:Ze:=(.seq (.region [oI 128 (.bin .lss (.t 127) (.t 126))] none [128,127,126,125,0]) (.seq (.cond (.t 128) .skip (.exit 5)) (.seq (.block 6 (.seq (.region [oI 129 (.iaddr 1 (.t 125) (.t 127)),oI 130 (.ld none (.t 129)),oI 9 (.mov (.t 130))] none [127,126,125,9,0]) (.region [oI 131 (.mov (.t 0)),oI 132 (.mov (.t 9)),oI 133 (.call 127 1 true [(.t 131),(.t 132),(.c (.int .i64 1))])] none [127,126,125,0]))) (.region [oI 134 (.bin .add (.t 127) (.c (.int .i64 1))),oI 127 (.mov (.t 134))] none [127,126,125,0]))))
def Znl:Ze:=Zlo
def Zdj:Ze:=(.seq (.region [oI 3 (.box (.t 1))] none [3,0]) (.seq (.region [oI 10 (.faddr 0 (.t 3)),oI 11 (.ld none (.t 10))] none [11,3,0]) (.block 0 (.seq (.region [oI 13 (.bin .eql (.t 11) (.c (.int .i64 1))),oI 12 (.mov (.t 13))] none [12,11,3,0]) (.cond (.t 12) (.region [oI 14 (.mov (.t 0)),oI 15 (.ld (some 26) (.t 3)),oI 16 (.call 126 1 true [(.t 14),(.t 15)])] none []) (.seq (.region [oI 18 (.bin .eql (.t 11) (.c (.int .i64 2))),oI 17 (.mov (.t 18))] none [17,11,3,0]) (.cond (.t 17) (.seq (.region [oI 19 (.mov (.t 0)),oI 20 (.faddr 25 (.t 3)),oI 21 (.ld none (.t 20)),oI 22 (.call 81 0 true [(.t 21),(.c (.int .i64 1))]),oI 23 (.call 127 1 true [(.t 19),(.t 22),(.c (.int .i64 1))])] none [3,0]) (.seq (.region [oI 24 (.mov (.t 0)),oI 25 (.faddr 7 (.t 3)),oI 26 (.ld none (.t 25)),oI 27 (.call 127 1 true [(.t 24),(.t 26),(.c (.int .i64 1))])] none [3,0]) (.region [oI 28 (.mov (.t 0)),oI 29 (.faddr 9 (.t 3)),oI 30 (.ld none (.t 29)),oI 31 (.call 128 1 true [(.t 28),(.c (.int .i64 2)),(.t 30)])] none []))) (.seq (.region [oI 33 (.bin .eql (.t 11) (.c (.int .i64 3))),oI 32 (.mov (.t 33))] none [32,11,3,0]) (.cond (.t 32) (.seq (.region [oI 34 (.mov (.t 0)),oI 35 (.faddr 5 (.t 3)),oI 36 (.ld none (.t 35)),oI 37 (.call 129 1 true [(.t 34),(.t 36)])] none [3,0]) (.seq (.seq (.region [oI 38 (.faddr 2 (.t 3)),oI 39 (.ld none (.t 38)),oI 40 (.bin .gtr (.t 39) (.c (.int .i64 0)))] none [40,3,0]) (.cond (.t 40) (.region [oI 41 (.mov (.t 0)),oI 42 (.faddr 4 (.t 3)),oI 43 (.ld none (.t 42)),oI 44 (.call 127 1 true [(.t 41),(.t 43),(.c (.int .i64 2))])] none [3,0]) .skip)) (.seq (.region [oI 45 (.mov (.t 0)),oI 46 (.faddr 9 (.t 3)),oI 47 (.ld none (.t 46)),oI 48 (.call 128 1 true [(.t 45),(.c (.int .i64 3)),(.t 47)])] none [3,0]) (.region [oI 49 (.mov (.t 0)),oI 50 (.nilchk (.t 49)),oI 51 (.faddr 0 (.t 50)),oI 52 (.faddr 6 (.t 3)),oI 53 (.ld none (.t 52)),oI 54 (.call 130 1 true [(.t 51),(.t 53)])] (some [(5,5)]) [])))) (.seq (.seq (.region [oI 56 (.bin .eql (.t 11) (.c (.int .i64 4))),oI 55 (.mov (.t 56))] none [55,11,3,0]) (.cond (.t 55) .skip (.seq (.region [oI 57 (.bin .eql (.t 11) (.c (.int .i64 5))),oI 55 (.mov (.t 57))] none [55,11,3,0]) (.cond (.t 55) .skip (.seq (.region [oI 58 (.bin .eql (.t 11) (.c (.int .i64 6))),oI 55 (.mov (.t 58))] none [55,11,3,0]) (.cond (.t 55) .skip (.region [oI 59 (.bin .eql (.t 11) (.c (.int .i64 7))),oI 55 (.mov (.t 59))] none [55,11,3,0]))))))) (.cond (.t 55) (.seq (.region [oI 60 (.mov (.t 0)),oI 61 (.faddr 4 (.t 3)),oI 62 (.ld none (.t 61)),oI 63 (.call 127 1 true [(.t 60),(.t 62),(.c (.int .i64 2))])] none [3,0]) (.region [oI 64 (.mov (.t 0)),oI 65 (.ld (some 26) (.t 3)),oI 66 (.call 131 1 true [(.t 64),(.t 65)])] none [])) (.seq (.region [oI 68 (.bin .eql (.t 11) (.c (.int .i64 8))),oI 67 (.mov (.t 68))] none [67,11,3,0]) (.cond (.t 67) (.seq (.region [oI 69 (.mov (.t 0)),oI 70 (.ld (some 26) (.t 3)),oI 71 (.call 132 1 true [(.t 69),(.t 70)])] none [3,0]) (.seq (.region [oI 72 (.faddr 10 (.t 3)),oI 73 (.ld none (.t 72)),oI 74 (.len (.t 73)),oI 75 (.mov (.c (.int .i64 0)))] none [75,74,73,0]) (.block 1 (.loop [75,74,73,0] Zmt)))) (.seq (.region [oI 103 (.bin .eql (.t 11) (.c (.int .i64 10))),oI 102 (.mov (.t 103))] none [102,11,3,0]) (.cond (.t 102) (.seq (.region [oI 104 (.mov (.t 0)),oI 105 (.ld (some 26) (.t 3)),oI 106 (.call 132 1 true [(.t 104),(.t 105)])] none [3,0]) (.seq (.region [oI 107 (.faddr 11 (.t 3)),oI 108 (.ld none (.t 107)),oI 109 (.len (.t 108)),oI 110 (.mov (.c (.int .i64 0)))] none [110,109,108,0]) (.block 3 (.loop [110,109,108,0] Zoc)))) (.seq (.seq (.region [oI 119 (.bin .eql (.t 11) (.c (.int .i64 9))),oI 118 (.mov (.t 119))] none [118,11,3,0]) (.cond (.t 118) .skip (.region [oI 120 (.bin .eql (.t 11) (.c (.int .i64 11))),oI 118 (.mov (.t 120))] none [118,11,3,0]))) (.cond (.t 118) (.seq (.region [oI 121 (.mov (.t 0)),oI 122 (.ld (some 26) (.t 3)),oI 123 (.call 132 1 true [(.t 121),(.t 122)])] none [3,0]) (.seq (.region [oI 124 (.faddr 8 (.t 3)),oI 125 (.ld none (.t 124)),oI 126 (.len (.t 125)),oI 127 (.mov (.c (.int .i64 0)))] none [127,126,125,0]) (.block 5 (.loop [127,126,125,0] Znl)))) (.seq (.seq (.region [oI 136 (.bin .eql (.t 11) (.c (.int .i64 14))),oI 135 (.mov (.t 136))] none [135,11,3,0]) (.cond (.t 135) .skip (.region [oI 137 (.bin .eql (.t 11) (.c (.int .i64 15))),oI 135 (.mov (.t 137))] none [135,3,0]))) (.cond (.t 135) (.region [oI 138 (.mov (.t 0)),oI 139 (.ld (some 26) (.t 3)),oI 140 (.call 131 1 true [(.t 138),(.t 139)])] none []) .skip)))))))))))))))))))
def Zhd:ZE:=⟨[],Zdj⟩
theorem Zeu:FC 78=some Zhd:=by kernel_rfl
theorem Zer:Zhd.body=Zdj:=rfl
theorem Zd7:Zhd.res=[]:=rfl
def Ze1:Ze:=(.seq (.region [oI 3 (.box (.t 1))] none [3,0]) (.seq (.region [oI 4 (.mov (.t 0)),oI 5 (.call 129 1 true [(.t 4),(.c (.str [77,81,84,84]))])] none [3,0]) (.seq (.region [oI 6 (.mov (.t 0)),oI 7 (.call 127 1 true [(.t 6),(.c (.int .i64 5)),(.c (.int .i64 1))])] none [3,0]) (.seq (.region [oI 8 (.mov (.t 0)),oI 9 (.faddr 12 (.t 3)),oI 10 (.ld none (.t 9)),oI 11 (.call 81 0 true [(.t 10),(.c (.int .i64 2))]),oI 12 (.faddr 15 (.t 3)),oI 13 (.ld none (.t 12)),oI 14 (.call 81 0 true [(.t 13),(.c (.int .i64 4))]),oI 15 (.bin .add (.t 11) (.t 14)),oI 16 (.faddr 16 (.t 3)),oI 17 (.faddr 2 (.t 16)),oI 18 (.ld none (.t 17)),oI 19 (.bin .and (.t 18) (.c (.int .i64 3))),oI 20 (.bin .mul (.t 19) (.c (.int .i64 8))),oI 21 (.bin .add (.t 15) (.t 20)),oI 22 (.faddr 16 (.t 3)),oI 23 (.faddr 3 (.t 22)),oI 24 (.ld none (.t 23)),oI 25 (.call 81 0 true [(.t 24),(.c (.int .i64 32))]),oI 26 (.bin .add (.t 21) (.t 25)),oI 27 (.faddr 23 (.t 3)),oI 28 (.ld none (.t 27)),oI 29 (.call 81 0 true [(.t 28),(.c (.int .i64 64))]),oI 30 (.bin .add (.t 26) (.t 29)),oI 31 (.faddr 21 (.t 3)),oI 32 (.ld none (.t 31)),oI 33 (.call 81 0 true [(.t 32),(.c (.int .i64 128))]),oI 34 (.bin .add (.t 30) (.t 33)),oI 35 (.call 127 1 true [(.t 8),(.t 34),(.c (.int .i64 1))])] (some [(2,5),(3,5),(2,10),(3,10),(5,10),(6,10),(2,16),(3,16),(5,16),(6,16),(10,16),(10,17),(2,20),(3,20),(5,20),(6,20),(10,20),(16,20),(17,20),(10,21),(2,24),(3,24),(5,24),(6,24),(10,24),(16,24),(17,24),(20,24),(21,24),(10,25),(25,25),(27,27)]) [3,0]) (.seq (.region [oI 36 (.mov (.t 0)),oI 37 (.faddr 13 (.t 3)),oI 38 (.ld none (.t 37)),oI 39 (.call 127 1 true [(.t 36),(.t 38),(.c (.int .i64 2))])] none [3,0]) (.seq (.region [oI 40 (.mov (.t 0)),oI 41 (.faddr 9 (.t 3)),oI 42 (.ld none (.t 41)),oI 43 (.call 128 1 true [(.t 40),(.c (.int .i64 1)),(.t 42)])] none [3,0]) (.seq (.region [oI 44 (.mov (.t 0)),oI 45 (.faddr 14 (.t 3)),oI 46 (.ld none (.t 45)),oI 47 (.call 129 1 true [(.t 44),(.t 46)])] none [3,0]) (.seq (.seq (.region [oI 48 (.faddr 15 (.t 3)),oI 49 (.ld none (.t 48))] none [49,3,0]) (.cond (.t 49) (.seq (.region [oI 50 (.mov (.t 0)),oI 51 (.faddr 16 (.t 3)),oI 52 (.faddr 4 (.t 51)),oI 53 (.ld none (.t 52)),oI 54 (.call 128 1 true [(.t 50),(.c (.int .i64 16)),(.t 53)])] none [3,0]) (.seq (.region [oI 55 (.mov (.t 0)),oI 56 (.faddr 16 (.t 3)),oI 57 (.faddr 0 (.t 56)),oI 58 (.ld none (.t 57)),oI 59 (.call 129 1 true [(.t 55),(.t 58)])] none [3,0]) (.region [oI 60 (.mov (.t 0)),oI 61 (.faddr 16 (.t 3)),oI 62 (.faddr 1 (.t 61)),oI 63 (.ld none (.t 62)),oI 64 (.call 149 1 true [(.t 60),(.t 63)])] none [3,0]))) .skip)) (.seq (.seq (.region [oI 65 (.faddr 21 (.t 3)),oI 66 (.ld none (.t 65))] none [66,3,0]) (.cond (.t 66) (.region [oI 67 (.mov (.t 0)),oI 68 (.faddr 22 (.t 3)),oI 69 (.ld none (.t 68)),oI 70 (.call 129 1 true [(.t 67),(.t 69)])] none [3,0]) .skip)) (.seq (.region [oI 71 (.faddr 23 (.t 3)),oI 72 (.ld none (.t 71))] none [72,3,0]) (.cond (.t 72) (.region [oI 73 (.mov (.t 0)),oI 74 (.faddr 24 (.t 3)),oI 75 (.ld none (.t 74)),oI 76 (.call 149 1 true [(.t 73),(.t 75)])] none []) .skip)))))))))))
def ZmQ:ZE:=⟨[],Ze1⟩
theorem ZGz:FC 126=some ZmQ:=by kernel_rfl
theorem ZfZ:ZmQ.body=Ze1:=rfl
theorem Zgf:ZmQ.res=[]:=rfl
def Zp7:Ze:=(.seq (.region [oI 7 (.mov (.t 1)),oI 8 (.call 55 0 true [(.t 7)]),oI 6 (.mov (.t 8)),oI 9 (.ext (.t 6) 0),oI 10 (.ext (.t 6) 1),oI 4 (.mov (.t 9)),oI 5 (.mov (.t 10))] none [4,0]) (.region [oI 11 (.mov (.t 0)),oI 12 (.nilchk (.t 11)),oI 13 (.faddr 0 (.t 12)),oI 14 (.mov (.t 4)),oI 15 (.call 130 1 true [(.t 13),(.t 14)])] none []))
def ZoF:ZE:=⟨[],Zp7⟩
theorem ZGn:FC 149=some ZoF:=by kernel_rfl
theorem ZMs:ZoF.body=Zp7:=rfl
theorem ZI7:ZoF.res=[]:=rfl
def ZoA:Ze:=(.seq (.region [oI 3 (.box (.t 1))] none [3,0]) (.seq (.region [oI 4 (.mov (.t 0)),oI 5 (.faddr 4 (.t 3)),oI 6 (.ld none (.t 5)),oI 7 (.call 127 1 true [(.t 4),(.t 6),(.c (.int .i64 2))])] none [3,0]) (.region [oI 8 (.mov (.t 0)),oI 9 (.faddr 0 (.t 3)),oI 10 (.ld none (.t 9)),oI 11 (.faddr 9 (.t 3)),oI 12 (.ld none (.t 11)),oI 13 (.call 128 1 true [(.t 8),(.t 10),(.t 12)])] none [])))
def Zpz:ZE:=⟨[],ZoA⟩
theorem ZJl:FC 132=some Zpz:=by kernel_rfl
theorem ZDe:Zpz.body=ZoA:=rfl
theorem ZzV:Zpz.res=[]:=rfl
def Zks:Ze:=(.region [oI 6 (.mov (.t 0)),oI 7 (.nilchk (.t 6)),oI 8 (.faddr 0 (.t 7)),oI 9 (.mov (.t 1)),oI 10 (.i2i .u64 (.t 9)),oI 11 (.mov (.t 2)),oI 12 (.call 59 0 true [(.t 10),(.t 11)]),oI 13 (.call 130 1 true [(.t 8),(.t 12)])] (some [(6,6),(7,7)]) [])
def ZpS:ZE:=⟨[],Zks⟩
theorem Zuc:FC 127=some ZpS:=by kernel_rfl
theorem Zrm:ZpS.body=Zks:=rfl
theorem Zs0:ZpS.res=[]:=rfl
def Zp9:Ze:=(.seq (.region [oI 9 (.mov (.t 1)),oI 10 (.mov (.t 2)),oI 11 (.call 42 0 true [(.t 9),(.t 10)]),oI 8 (.mov (.t 11)),oI 12 (.ext (.t 8) 0),oI 13 (.ext (.t 8) 1),oI 6 (.mov (.t 12)),oI 7 (.mov (.t 13))] none [6,0]) (.region [oI 14 (.mov (.t 0)),oI 15 (.nilchk (.t 14)),oI 16 (.faddr 0 (.t 15)),oI 17 (.mov (.t 6)),oI 18 (.call 130 1 true [(.t 16),(.t 17)])] none []))
def ZoE:ZE:=⟨[],Zp9⟩
theorem ZIM:FC 128=some ZoE:=by kernel_rfl
theorem Zxa:ZoE.body=Zp9:=rfl
theorem ZGG:ZoE.res=[]:=rfl
def ZeW:Ze:=(.seq (.region [oI 3 (.box (.t 1))] none [3,0]) (.seq (.seq (.region [oI 4 (.faddr 7 (.t 3)),oI 5 (.ld none (.t 4)),oI 6 (.bin .neq (.t 5) (.c (.int .i64 0))),oI 7 (.mov (.t 6)),⟨(some 8),(.faddr 9 (.t 3)),(some (7,false)),[]⟩,⟨(some 9),(.ld none (.t 8)),(some (7,false)),[]⟩,⟨(some 10),(.len (.t 9)),(some (7,false)),[]⟩,⟨(some 11),(.bin .gtr (.t 10) (.c (.int .i64 0))),(some (7,false)),[]⟩,oI 12 (.pick (.t 7) (.c (.bool true)) (.t 11))] none [12,3,0]) (.cond (.t 12) (.region [oI 13 (.mov (.t 0)),oI 14 (.faddr 7 (.t 3)),oI 15 (.ld none (.t 14)),oI 16 (.call 127 1 true [(.t 13),(.t 15),(.c (.int .i64 1))])] none [3,0]) .skip)) (.seq (.region [oI 17 (.faddr 9 (.t 3)),oI 18 (.ld none (.t 17)),oI 19 (.len (.t 18)),oI 20 (.bin .gtr (.t 19) (.c (.int .i64 0)))] none [20,3,0]) (.cond (.t 20) (.region [oI 21 (.mov (.t 0)),oI 22 (.faddr 0 (.t 3)),oI 23 (.ld none (.t 22)),oI 24 (.faddr 9 (.t 3)),oI 25 (.ld none (.t 24)),oI 26 (.call 128 1 true [(.t 21),(.t 23),(.t 25)])] none []) .skip))))
def Zmy:ZE:=⟨[],ZeW⟩
theorem Zsz:FC 131=some Zmy:=by kernel_rfl
theorem Zgn:Zmy.body=ZeW:=rfl
theorem ZfM:Zmy.res=[]:=rfl
def ZkB:Ze:=(.seq (.region [oI 7 (.mov (.t 1)),oI 8 (.call 54 0 true [(.t 7)]),oI 6 (.mov (.t 8)),oI 9 (.ext (.t 6) 0),oI 10 (.ext (.t 6) 1),oI 4 (.mov (.t 9)),oI 5 (.mov (.t 10))] none [4,0]) (.region [oI 11 (.mov (.t 0)),oI 12 (.nilchk (.t 11)),oI 13 (.faddr 0 (.t 12)),oI 14 (.mov (.t 4)),oI 15 (.call 130 1 true [(.t 13),(.t 14)])] none []))
def ZnB:ZE:=⟨[],ZkB⟩
theorem ZrA:FC 129=some ZnB:=by kernel_rfl
theorem ZqT:ZnB.body=ZkB:=rfl
theorem ZrS:ZnB.res=[]:=rfl
def ZpW:Ze:=(.seq (.region [oI 3 (.box (.t 1)),oI 4 (.mov (.c (.bool false)))] none [3,0]) (.seq (.region [oI 5 (.mov (.t 0)),oI 6 (.call 87 0 true [(.t 5)]),oI 7 (.mkfn 88 [(.t 3)]),oI 8 (.call 86 0 true [(.t 6),(.t 7)]),oI 4 (.mov (.t 8))] none [4]) .ret))
def ZoO:ZE:=⟨[(.tmp 4)],ZpW⟩
theorem ZFI:FC 41=some ZoO:=by kernel_rfl
theorem ZwT:ZoO.body=ZpW:=rfl
theorem Zyj:ZoO.res=[(.tmp 4)]:=rfl
def ZjY:Ze:=(.seq (.region [oI 2 (.box (.t 0)),oI 3 (.mov (.c (.bool false)))] none [2,1]) (.seq (.region [oI 4 (.ld none (.t 1)),oI 5 (.faddr 0 (.t 2)),oI 6 (.ld none (.t 5)),oI 7 (.bin .geq (.t 4) (.t 6)),oI 8 (.mov (.t 7)),⟨(some 9),(.ld none (.t 1)),(some (8,true)),[]⟩,⟨(some 10),(.faddr 1 (.t 2)),(some (8,true)),[]⟩,⟨(some 11),(.ld none (.t 10)),(some (8,true)),[]⟩,⟨(some 12),(.bin .leq (.t 9) (.t 11)),(some (8,true)),[]⟩,oI 13 (.pick (.t 8) (.t 12) (.c (.bool false))),oI 3 (.mov (.t 13))] none [3]) .ret))
def Zpa:ZE:=⟨[(.tmp 3)],ZjY⟩
theorem ZH6:FC 88=some Zpa:=by kernel_rfl
theorem Zue:Zpa.body=ZjY:=rfl
theorem ZvF:Zpa.res=[(.tmp 3)]:=rfl
def Zcs:Ze:=(.seq (.region [oI 1 (.box (.t 0)),oI 2 (.alloc [(.int .u8 0),(.lst true [])]),oI 3 (.mov (.c (.int .i64 0)))] none [2,1]) (.seq (.region [oI 10 (.build [(.lst true []),(.int .i64 0),(.int .i8 0)] []),oI 11 (.box (.t 10)),oI 4 (.mov (.t 11))] none [4,2,1]) (.seq (.region [oI 12 (.mov (.t 4)),oI 13 (.ld (some 26) (.t 1)),oI 14 (.call 78 1 true [(.t 12),(.t 13)])] none [4,2,1]) (.seq (.region [oI 15 (.faddr 0 (.t 1)),oI 16 (.ld none (.t 15)),oI 17 (.bin .shl (.t 16) (.c (.int .u64 4))),oI 18 (.i2i .u8 (.t 17)),oI 19 (.faddr 0 (.t 1)),oI 20 (.ld none (.t 19)),oI 21 (.call 79 0 true [(.t 20)]),oI 22 (.bin .or (.t 18) (.t 21)),oI 23 (.mov (.t 4)),oI 24 (.nilchk (.t 23)),oI 25 (.faddr 0 (.t 24)),oI 26 (.call 80 0 true [(.t 25)]),oI 27 (.bslice false 1 1 (.lst true []) [(0,(.t 26))]),oI 28 (.call 56 0 true [(.t 27)]),oI 29 (.build [(.int .u8 0),(.lst true [])] [(0,1,(.t 22)),(1,1,(.t 28))]),oI 5 (.alloc [(.int .u8 0),(.lst true [])]),oN (.st 2 (.t 5) (.t 29))] (some [(1,5),(1,6),(1,11),(1,12),(1,13),(1,15),(5,15),(6,15),(11,15),(12,15),(13,15)]) [5,2,1]) (.seq (.seq (.region [oI 30 (.faddr 0 (.t 1)),oI 31 (.ld none (.t 30)),oI 32 (.bin .eql (.t 31) (.c (.int .i64 3)))] none [32,5,2,1]) (.cond (.t 32) (.region [oI 33 (.faddr 0 (.t 5)),oI 34 (.ld none (.t 33)),oI 35 (.faddr 1 (.t 1)),oI 36 (.ld none (.t 35)),oI 37 (.call 81 0 true [(.t 36),(.c (.int .i64 8))]),oI 38 (.faddr 2 (.t 1)),oI 39 (.ld none (.t 38)),oI 40 (.bin .and (.t 39) (.c (.int .i64 3))),oI 41 (.bin .mul (.t 40) (.c (.int .i64 2))),oI 42 (.bin .add (.t 37) (.t 41)),oI 43 (.faddr 3 (.t 1)),oI 44 (.ld none (.t 43)),oI 45 (.call 81 0 true [(.t 44),(.c (.int .i64 1))]),oI 46 (.bin .add (.t 42) (.t 45)),oI 47 (.i2i .u8 (.t 46)),oI 48 (.bin .or (.t 34) (.t 47)),oI 49 (.faddr 0 (.t 5)),oN (.st 1 (.t 49) (.t 48))] (some [(1,3),(1,4),(1,6),(3,6),(4,6),(1,11),(3,11),(4,11),(6,11),(1,12),(6,12),(12,12)]) [5,2,1]) .skip)) (.seq (.region [oI 51 (.ld (some 2) (.t 5)),oI 52 (.call 32 0 true [(.t 51)]),oI 50 (.mov (.t 52)),oI 53 (.ext (.t 50) 0),oI 54 (.ext (.t 50) 1),oI 6 (.alloc [(.int .i64 0),(.bool false),(.int .i64 0),(.bool false),(.int .i64 0),(.str []),(.lst true []),(.int .i64 0),(.lst true []),(.lst true []),(.lst true []),(.lst true []),(.bool false),(.int .i64 0),(.str []),(.bool false),(.str []),(.lst true []),(.int .i64 0),(.bool false),(.lst true []),(.bool false),(.str []),(.bool false),(.lst true []),(.bool false)]),oN (.st 26 (.t 6) (.t 53)),oI 7 (.mov (.t 54))] none [7,6,5,2,1]) (.seq (.seq (.region [oI 56 (.faddr 1 (.t 5)),oI 57 (.ld none (.t 56)),oI 58 (.len (.t 57)),oI 59 (.call 82 0 true [(.t 58)]),oI 55 (.mov (.t 59)),oI 60 (.ext (.t 55) 0),oI 61 (.ext (.t 55) 1),oI 8 (.mov (.t 60)),oI 9 (.mov (.t 61))] none [9,7,6,5,2,1]) (.seq (.region [oI 62 (.mov (.t 9)),oI 63 (.bin .neq (.t 62) (.c (.int .i64 0))),oI 64 (.mov (.t 63)),⟨(some 65),(.mov (.t 7)),(some (64,false)),[]⟩,⟨(some 66),(.bin .neq (.t 65) (.c (.int .i64 0))),(some (64,false)),[]⟩,oI 67 (.pick (.t 64) (.c (.bool true)) (.t 66)),oI 68 (.mov (.t 67)),⟨(some 69),(.ld (some 26) (.t 6)),(some (68,false)),[]⟩,⟨(some 70),(.ld (some 26) (.t 1)),(some (68,false)),[]⟩,⟨(some 71),(.call 35 0 true [(.t 69),(.t 70)]),(some (68,false)),[]⟩,⟨(some 72),(.un .not (.t 71)),(some (68,false)),[]⟩,oI 73 (.pick (.t 68) (.c (.bool true)) (.t 72))] none [73,5,2]) (.cond (.t 73) (.seq (.region [oI 74 (.build [(.int .u8 0),(.lst true [])] []),oN (.st 2 (.t 2) (.t 74)),oI 3 (.mov (.c (.int .i64 129)))] none [3,2]) .ret) .skip))) (.seq (.region [oI 75 (.ld (some 2) (.t 5)),oN (.st 2 (.t 2) (.t 75)),oI 3 (.mov (.c (.int .i64 0)))] none [3,2]) .ret))))))))
def ZmD:ZE:=⟨[(.cell 2 (some 2)),(.tmp 3)],Zcs⟩
theorem Zki:FC 34=some ZmD:=by kernel_rfl
theorem ZcK:ZmD.body=Zcs:=rfl
theorem ZcO:ZmD.res=[(.cell 2 (some 2)),(.tmp 3)]:=rfl
def ZoW:Ze:=(.seq (.region [oI 1 (.box (.t 0)),oI 2 (.mov (.c (.lst true []))),oI 3 (.mov (.c (.int .i64 0)))] none [1]) (.seq (.region [oI 9 (.ld (some 26) (.t 1)),oI 10 (.call 34 0 true [(.t 9)]),oI 8 (.mov (.t 10)),oI 11 (.ext (.t 8) 0),oI 12 (.ext (.t 8) 1),oI 4 (.alloc [(.int .u8 0),(.lst true [])]),oN (.st 2 (.t 4) (.t 11)),oI 5 (.mov (.t 12))] none [5,4]) (.seq (.seq (.region [oI 13 (.mov (.t 5)),oI 14 (.bin .neq (.t 13) (.c (.int .i64 0)))] none [14,5,4]) (.cond (.t 14) (.seq (.region [oI 15 (.mov (.t 5)),oI 2 (.mov (.c (.lst true []))),oI 3 (.mov (.t 15))] none [3,2]) .ret) .skip)) (.seq (.region [oI 17 (.faddr 1 (.t 4)),oI 18 (.ld none (.t 17)),oI 19 (.len (.t 18)),oI 20 (.call 82 0 true [(.t 19)]),oI 16 (.mov (.t 20)),oI 21 (.ext (.t 16) 0),oI 22 (.ext (.t 16) 1),oI 6 (.mov (.t 21)),oI 7 (.mov (.t 22))] none [6,4]) (.seq (.region [oI 23 (.faddr 0 (.t 4)),oI 24 (.ld none (.t 23)),oI 25 (.bslice false 1 1 (.int .u8 0) [(0,(.t 24))]),oI 26 (.mov (.t 6)),oI 27 (.faddr 1 (.t 4)),oI 28 (.ld none (.t 27)),oI 29 (.bslice false 1 3 (.lst true []) [(0,(.t 25)),(1,(.t 26)),(2,(.t 28))]),oI 30 (.call 56 0 true [(.t 29)]),oI 2 (.mov (.t 30)),oI 3 (.mov (.c (.int .i64 0)))] none [3,2]) .ret)))))
def Zqj:ZE:=⟨[(.tmp 2),(.tmp 3)],ZoW⟩
theorem ZDx:FC 40=some Zqj:=by kernel_rfl
theorem ZMS:Zqj.body=ZoW:=rfl
theorem ZJu:Zqj.res=[(.tmp 2),(.tmp 3)]:=rfl
def ZoZ:Ze:=(.seq (.region [oI 2 (.box (.t 0)),oI 3 (.box (.t 1)),oI 4 (.mov (.c (.bool false)))] none [3,2]) (.seq (.region [oI 9 (.faddr 8 (.t 2)),oI 10 (.ld none (.t 9)),oI 11 (.faddr 8 (.t 3)),oI 12 (.ld none (.t 11)),oI 13 (.call 83 0 true [(.t 10),(.t 12)]),oI 14 (.mov (.t 13)),⟨(some 15),(.faddr 10 (.t 2)),(some (14,true)),[]⟩,⟨(some 16),(.ld none (.t 15)),(some (14,true)),[]⟩,⟨(some 17),(.faddr 10 (.t 3)),(some (14,true)),[]⟩,⟨(some 18),(.ld none (.t 17)),(some (14,true)),[]⟩,⟨(some 19),(.call 84 0 true [(.t 16),(.t 18)]),(some (14,true)),[]⟩,oI 20 (.pick (.t 14) (.t 19) (.c (.bool false))),oI 21 (.mov (.t 20)),⟨(some 22),(.faddr 11 (.t 2)),(some (21,true)),[]⟩,⟨(some 23),(.ld none (.t 22)),(some (21,true)),[]⟩,⟨(some 24),(.faddr 11 (.t 3)),(some (21,true)),[]⟩,⟨(some 25),(.ld none (.t 24)),(some (21,true)),[]⟩,⟨(some 26),(.call 85 0 true [(.t 23),(.t 25)]),(some (21,true)),[]⟩,oI 27 (.pick (.t 21) (.t 26) (.c (.bool false))),oI 28 (.mov (.t 27)),⟨(some 29),(.faddr 9 (.t 2)),(some (28,true)),[]⟩,⟨(some 30),(.ld none (.t 29)),(some (28,true)),[]⟩,⟨(some 31),(.faddr 9 (.t 3)),(some (28,true)),[]⟩,⟨(some 32),(.ld none (.t 31)),(some (28,true)),[]⟩,⟨(some 33),(.call 43 0 true [(.t 30),(.t 32)]),(some (28,true)),[]⟩,oI 34 (.pick (.t 28) (.t 33) (.c (.bool false))),oI 35 (.mov (.t 34)),⟨(some 36),(.faddr 16 (.t 2)),(some (35,true)),[]⟩,⟨(some 37),(.faddr 4 (.t 36)),(some (35,true)),[]⟩,⟨(some 38),(.ld none (.t 37)),(some (35,true)),[]⟩,⟨(some 39),(.faddr 16 (.t 3)),(some (35,true)),[]⟩,⟨(some 40),(.faddr 4 (.t 39)),(some (35,true)),[]⟩,⟨(some 41),(.ld none (.t 40)),(some (35,true)),[]⟩,⟨(some 42),(.call 43 0 true [(.t 38),(.t 41)]),(some (35,true)),[]⟩,oI 43 (.pick (.t 35) (.t 42) (.c (.bool false))),oI 5 (.mov (.t 43))] none [5,3,2]) (.seq (.region [oI 44 (.faddr 6 (.t 2)),oI 45 (.ld none (.t 44)),oI 46 (.b2s (.t 45)),oI 47 (.faddr 6 (.t 3)),oI 48 (.ld none (.t 47)),oI 49 (.b2s (.t 48)),oI 50 (.bin .eql (.t 46) (.t 49)),oI 51 (.mov (.t 50)),⟨(some 52),(.faddr 24 (.t 2)),(some (51,true)),[]⟩,⟨(some 53),(.ld none (.t 52)),(some (51,true)),[]⟩,⟨(some 54),(.b2s (.t 53)),(some (51,true)),[]⟩,⟨(some 55),(.faddr 24 (.t 3)),(some (51,true)),[]⟩,⟨(some 56),(.ld none (.t 55)),(some (51,true)),[]⟩,⟨(some 57),(.b2s (.t 56)),(some (51,true)),[]⟩,⟨(some 58),(.bin .eql (.t 54) (.t 57)),(some (51,true)),[]⟩,oI 59 (.pick (.t 51) (.t 58) (.c (.bool false))),oI 60 (.mov (.t 59)),⟨(some 61),(.faddr 16 (.t 2)),(some (60,true)),[]⟩,⟨(some 62),(.faddr 1 (.t 61)),(some (60,true)),[]⟩,⟨(some 63),(.ld none (.t 62)),(some (60,true)),[]⟩,⟨(some 64),(.b2s (.t 63)),(some (60,true)),[]⟩,⟨(some 65),(.faddr 16 (.t 3)),(some (60,true)),[]⟩,⟨(some 66),(.faddr 1 (.t 65)),(some (60,true)),[]⟩,⟨(some 67),(.ld none (.t 66)),(some (60,true)),[]⟩,⟨(some 68),(.b2s (.t 67)),(some (60,true)),[]⟩,⟨(some 69),(.bin .eql (.t 64) (.t 68)),(some (60,true)),[]⟩,oI 70 (.pick (.t 60) (.t 69) (.c (.bool false))),oI 6 (.mov (.t 70))] none [6,5,3,2]) (.seq (.region [oI 71 (.faddr 16 (.t 2)),oI 72 (.faddr 0 (.t 71)),oI 73 (.ld none (.t 72)),oI 74 (.faddr 16 (.t 3)),oI 75 (.faddr 0 (.t 74)),oI 76 (.ld none (.t 75)),oI 77 (.bin .eql (.t 73) (.t 76)),oI 78 (.mov (.t 77)),⟨(some 79),(.faddr 16 (.t 2)),(some (78,true)),[]⟩,⟨(some 80),(.faddr 2 (.t 79)),(some (78,true)),[]⟩,⟨(some 81),(.ld none (.t 80)),(some (78,true)),[]⟩,⟨(some 82),(.faddr 16 (.t 3)),(some (78,true)),[]⟩,⟨(some 83),(.faddr 2 (.t 82)),(some (78,true)),[]⟩,⟨(some 84),(.ld none (.t 83)),(some (78,true)),[]⟩,⟨(some 85),(.bin .eql (.t 81) (.t 84)),(some (78,true)),[]⟩,oI 86 (.pick (.t 78) (.t 85) (.c (.bool false))),oI 87 (.mov (.t 86)),⟨(some 88),(.faddr 16 (.t 2)),(some (87,true)),[]⟩,⟨(some 89),(.faddr 3 (.t 88)),(some (87,true)),[]⟩,⟨(some 90),(.ld none (.t 89)),(some (87,true)),[]⟩,⟨(some 91),(.faddr 16 (.t 3)),(some (87,true)),[]⟩,⟨(some 92),(.faddr 3 (.t 91)),(some (87,true)),[]⟩,⟨(some 93),(.ld none (.t 92)),(some (87,true)),[]⟩,⟨(some 94),(.beq false (.t 90) (.t 93)),(some (87,true)),[]⟩,oI 95 (.pick (.t 87) (.t 94) (.c (.bool false))),oI 7 (.mov (.t 95))] none [7,6,5,3,2]) (.seq (.region [oI 96 (.faddr 1 (.t 2)),oI 97 (.ld none (.t 96)),oI 98 (.faddr 1 (.t 3)),oI 99 (.ld none (.t 98)),oI 100 (.beq false (.t 97) (.t 99)),oI 101 (.mov (.t 100)),⟨(some 102),(.faddr 3 (.t 2)),(some (101,true)),[]⟩,⟨(some 103),(.ld none (.t 102)),(some (101,true)),[]⟩,⟨(some 104),(.faddr 3 (.t 3)),(some (101,true)),[]⟩,⟨(some 105),(.ld none (.t 104)),(some (101,true)),[]⟩,⟨(some 106),(.beq false (.t 103) (.t 105)),(some (101,true)),[]⟩,oI 107 (.pick (.t 101) (.t 106) (.c (.bool false))),oI 108 (.mov (.t 107)),⟨(some 109),(.faddr 12 (.t 2)),(some (108,true)),[]⟩,⟨(some 110),(.ld none (.t 109)),(some (108,true)),[]⟩,⟨(some 111),(.faddr 12 (.t 3)),(some (108,true)),[]⟩,⟨(some 112),(.ld none (.t 111)),(some (108,true)),[]⟩,⟨(some 113),(.beq false (.t 110) (.t 112)),(some (108,true)),[]⟩,oI 114 (.pick (.t 108) (.t 113) (.c (.bool false))),oI 115 (.mov (.t 114)),⟨(some 116),(.faddr 15 (.t 2)),(some (115,true)),[]⟩,⟨(some 117),(.ld none (.t 116)),(some (115,true)),[]⟩,⟨(some 118),(.faddr 15 (.t 3)),(some (115,true)),[]⟩,⟨(some 119),(.ld none (.t 118)),(some (115,true)),[]⟩,⟨(some 120),(.beq false (.t 117) (.t 119)),(some (115,true)),[]⟩,oI 121 (.pick (.t 115) (.t 120) (.c (.bool false))),oI 122 (.mov (.t 121)),⟨(some 123),(.faddr 21 (.t 2)),(some (122,true)),[]⟩,⟨(some 124),(.ld none (.t 123)),(some (122,true)),[]⟩,⟨(some 125),(.faddr 21 (.t 3)),(some (122,true)),[]⟩,⟨(some 126),(.ld none (.t 125)),(some (122,true)),[]⟩,⟨(some 127),(.beq false (.t 124) (.t 126)),(some (122,true)),[]⟩,oI 128 (.pick (.t 122) (.t 127) (.c (.bool false))),oI 129 (.mov (.t 128)),⟨(some 130),(.faddr 23 (.t 2)),(some (129,true)),[]⟩,⟨(some 131),(.ld none (.t 130)),(some (129,true)),[]⟩,⟨(some 132),(.faddr 23 (.t 3)),(some (129,true)),[]⟩,⟨(some 133),(.ld none (.t 132)),(some (129,true)),[]⟩,⟨(some 134),(.beq false (.t 131) (.t 133)),(some (129,true)),[]⟩,oI 135 (.pick (.t 129) (.t 134) (.c (.bool false))),oI 136 (.mov (.t 135)),⟨(some 137),(.faddr 25 (.t 2)),(some (136,true)),[]⟩,⟨(some 138),(.ld none (.t 137)),(some (136,true)),[]⟩,⟨(some 139),(.faddr 25 (.t 3)),(some (136,true)),[]⟩,⟨(some 140),(.ld none (.t 139)),(some (136,true)),[]⟩,⟨(some 141),(.beq false (.t 138) (.t 140)),(some (136,true)),[]⟩,oI 142 (.pick (.t 136) (.t 141) (.c (.bool false))),oI 8 (.mov (.t 142))] none [8,7,6,5,3,2]) (.seq (.region [oI 143 (.mov (.t 5)),oI 144 (.mov (.t 143)),⟨(some 145),(.mov (.t 6)),(some (144,true)),[]⟩,oI 146 (.pick (.t 144) (.t 145) (.c (.bool false))),oI 147 (.mov (.t 146)),⟨(some 148),(.mov (.t 7)),(some (147,true)),[]⟩,oI 149 (.pick (.t 147) (.t 148) (.c (.bool false))),oI 150 (.mov (.t 149)),⟨(some 151),(.mov (.t 8)),(some (150,true)),[]⟩,oI 152 (.pick (.t 150) (.t 151) (.c (.bool false))),oI 153 (.mov (.t 152)),⟨(some 154),(.faddr 0 (.t 2)),(some (153,true)),[]⟩,⟨(some 155),(.ld none (.t 154)),(some (153,true)),[]⟩,⟨(some 156),(.faddr 0 (.t 3)),(some (153,true)),[]⟩,⟨(some 157),(.ld none (.t 156)),(some (153,true)),[]⟩,⟨(some 158),(.bin .eql (.t 155) (.t 157)),(some (153,true)),[]⟩,oI 159 (.pick (.t 153) (.t 158) (.c (.bool false))),oI 160 (.mov (.t 159)),⟨(some 161),(.faddr 2 (.t 2)),(some (160,true)),[]⟩,⟨(some 162),(.ld none (.t 161)),(some (160,true)),[]⟩,⟨(some 163),(.faddr 2 (.t 3)),(some (160,true)),[]⟩,⟨(some 164),(.ld none (.t 163)),(some (160,true)),[]⟩,⟨(some 165),(.bin .eql (.t 162) (.t 164)),(some (160,true)),[]⟩,oI 166 (.pick (.t 160) (.t 165) (.c (.bool false))),oI 167 (.mov (.t 166)),⟨(some 168),(.faddr 4 (.t 2)),(some (167,true)),[]⟩,⟨(some 169),(.ld none (.t 168)),(some (167,true)),[]⟩,⟨(some 170),(.faddr 4 (.t 3)),(some (167,true)),[]⟩,⟨(some 171),(.ld none (.t 170)),(some (167,true)),[]⟩,⟨(some 172),(.bin .eql (.t 169) (.t 171)),(some (167,true)),[]⟩,oI 173 (.pick (.t 167) (.t 172) (.c (.bool false))),oI 174 (.mov (.t 173)),⟨(some 175),(.faddr 5 (.t 2)),(some (174,true)),[]⟩,⟨(some 176),(.ld none (.t 175)),(some (174,true)),[]⟩,⟨(some 177),(.faddr 5 (.t 3)),(some (174,true)),[]⟩,⟨(some 178),(.ld none (.t 177)),(some (174,true)),[]⟩,⟨(some 179),(.bin .eql (.t 176) (.t 178)),(some (174,true)),[]⟩,oI 180 (.pick (.t 174) (.t 179) (.c (.bool false))),oI 181 (.mov (.t 180)),⟨(some 182),(.faddr 7 (.t 2)),(some (181,true)),[]⟩,⟨(some 183),(.ld none (.t 182)),(some (181,true)),[]⟩,⟨(some 184),(.faddr 7 (.t 3)),(some (181,true)),[]⟩,⟨(some 185),(.ld none (.t 184)),(some (181,true)),[]⟩,⟨(some 186),(.bin .eql (.t 183) (.t 185)),(some (181,true)),[]⟩,oI 187 (.pick (.t 181) (.t 186) (.c (.bool false))),oI 188 (.mov (.t 187)),⟨(some 189),(.faddr 13 (.t 2)),(some (188,true)),[]⟩,⟨(some 190),(.ld none (.t 189)),(some (188,true)),[]⟩,⟨(some 191),(.faddr 13 (.t 3)),(some (188,true)),[]⟩,⟨(some 192),(.ld none (.t 191)),(some (188,true)),[]⟩,⟨(some 193),(.bin .eql (.t 190) (.t 192)),(some (188,true)),[]⟩,oI 194 (.pick (.t 188) (.t 193) (.c (.bool false))),oI 195 (.mov (.t 194)),⟨(some 196),(.faddr 14 (.t 2)),(some (195,true)),[]⟩,⟨(some 197),(.ld none (.t 196)),(some (195,true)),[]⟩,⟨(some 198),(.faddr 14 (.t 3)),(some (195,true)),[]⟩,⟨(some 199),(.ld none (.t 198)),(some (195,true)),[]⟩,⟨(some 200),(.bin .eql (.t 197) (.t 199)),(some (195,true)),[]⟩,oI 201 (.pick (.t 195) (.t 200) (.c (.bool false))),oI 202 (.mov (.t 201)),⟨(some 203),(.faddr 22 (.t 2)),(some (202,true)),[]⟩,⟨(some 204),(.ld none (.t 203)),(some (202,true)),[]⟩,⟨(some 205),(.faddr 22 (.t 3)),(some (202,true)),[]⟩,⟨(some 206),(.ld none (.t 205)),(some (202,true)),[]⟩,⟨(some 207),(.bin .eql (.t 204) (.t 206)),(some (202,true)),[]⟩,oI 208 (.pick (.t 202) (.t 207) (.c (.bool false))),oI 4 (.mov (.t 208))] none [4]) .ret))))))
def Zqt:ZE:=⟨[(.tmp 4)],ZoZ⟩
theorem Zx4:FC 35=some Zqt:=by kernel_rfl
theorem ZKd:Zqt.body=ZoZ:=rfl
theorem ZOf:Zqt.res=[(.tmp 4)]:=rfl
def ZdN:Ze:=(.seq (.region [oI 2 (.mov (.c (.lst true [])))] none [0]) (.seq (.seq (.region [oI 3 (.mov (.t 0))] none [3]) (.block 0 (.seq (.region [oI 5 (.bin .eql (.t 3) (.c (.int .i64 2))),oI 4 (.mov (.t 5))] none [4,3]) (.cond (.t 4) (.seq (.region [oI 6 (.build [(.int .i64 0),(.int .i64 0)] [(0,1,(.c (.int .i64 0))),(1,1,(.c (.int .i64 0)))]),oI 7 (.build [(.int .i64 0),(.int .i64 0)] [(0,1,(.c (.int .i64 128))),(1,1,(.c (.int .i64 138)))]),oI 8 (.build [(.int .i64 0),(.int .i64 0)] [(0,1,(.c (.int .i64 140))),(1,1,(.c (.int .i64 140)))]),oI 9 (.build [(.int .i64 0),(.int .i64 0)] [(0,1,(.c (.int .i64 144))),(1,1,(.c (.int .i64 144)))]),oI 10 (.build [(.int .i64 0),(.int .i64 0)] [(0,1,(.c (.int .i64 149))),(1,1,(.c (.int .i64 149)))]),oI 11 (.build [(.int .i64 0),(.int .i64 0)] [(0,1,(.c (.int .i64 151))),(1,1,(.c (.int .i64 151)))]),oI 12 (.build [(.int .i64 0),(.int .i64 0)] [(0,1,(.c (.int .i64 153))),(1,1,(.c (.int .i64 157)))]),oI 13 (.build [(.int .i64 0),(.int .i64 0)] [(0,1,(.c (.int .i64 159))),(1,1,(.c (.int .i64 159)))]),oI 14 (.bslice false 2 8 (.agg [(.int .i64 0),(.int .i64 0)]) [(0,(.t 6)),(1,(.t 7)),(2,(.t 8)),(3,(.t 9)),(4,(.t 10)),(5,(.t 11)),(6,(.t 12)),(7,(.t 13))]),oI 2 (.mov (.t 14))] none [2]) .ret) (.seq (.seq (.region [oI 16 (.bin .eql (.t 3) (.c (.int .i64 4))),oI 15 (.mov (.t 16))] none [15,3]) (.cond (.t 15) .skip (.region [oI 17 (.bin .eql (.t 3) (.c (.int .i64 5))),oI 15 (.mov (.t 17))] none [15,3]))) (.cond (.t 15) (.seq (.region [oI 18 (.build [(.int .i64 0),(.int .i64 0)] [(0,1,(.c (.int .i64 0))),(1,1,(.c (.int .i64 0)))]),oI 19 (.build [(.int .i64 0),(.int .i64 0)] [(0,1,(.c (.int .i64 16))),(1,1,(.c (.int .i64 16)))]),oI 20 (.build [(.int .i64 0),(.int .i64 0)] [(0,1,(.c (.int .i64 128))),(1,1,(.c (.int .i64 128)))]),oI 21 (.build [(.int .i64 0),(.int .i64 0)] [(0,1,(.c (.int .i64 131))),(1,1,(.c (.int .i64 131)))]),oI 22 (.build [(.int .i64 0),(.int .i64 0)] [(0,1,(.c (.int .i64 135))),(1,1,(.c (.int .i64 135)))]),oI 23 (.build [(.int .i64 0),(.int .i64 0)] [(0,1,(.c (.int .i64 144))),(1,1,(.c (.int .i64 145)))]),oI 24 (.build [(.int .i64 0),(.int .i64 0)] [(0,1,(.c (.int .i64 151))),(1,1,(.c (.int .i64 151)))]),oI 25 (.build [(.int .i64 0),(.int .i64 0)] [(0,1,(.c (.int .i64 153))),(1,1,(.c (.int .i64 153)))]),oI 26 (.bslice false 2 8 (.agg [(.int .i64 0),(.int .i64 0)]) [(0,(.t 18)),(1,(.t 19)),(2,(.t 20)),(3,(.t 21)),(4,(.t 22)),(5,(.t 23)),(6,(.t 24)),(7,(.t 25))]),oI 2 (.mov (.t 26))] none [2]) .ret) (.seq (.seq (.region [oI 28 (.bin .eql (.t 3) (.c (.int .i64 6))),oI 27 (.mov (.t 28))] none [27,3]) (.cond (.t 27) .skip (.region [oI 29 (.bin .eql (.t 3) (.c (.int .i64 7))),oI 27 (.mov (.t 29))] none [27,3]))) (.cond (.t 27) (.seq (.region [oI 30 (.build [(.int .i64 0),(.int .i64 0)] [(0,1,(.c (.int .i64 0))),(1,1,(.c (.int .i64 0)))]),oI 31 (.build [(.int .i64 0),(.int .i64 0)] [(0,1,(.c (.int .i64 146))),(1,1,(.c (.int .i64 146)))]),oI 32 (.bslice false 2 2 (.agg [(.int .i64 0),(.int .i64 0)]) [(0,(.t 30)),(1,(.t 31))]),oI 2 (.mov (.t 32))] none [2]) .ret) (.seq (.region [oI 34 (.bin .eql (.t 3) (.c (.int .i64 9))),oI 33 (.mov (.t 34))] none [33,3]) (.cond (.t 33) (.seq (.region [oI 35 (.build [(.int .i64 0),(.int .i64 0)] [(0,1,(.c (.int .i64 0))),(1,1,(.c (.int .i64 2)))]),oI 36 (.build [(.int .i64 0),(.int .i64 0)] [(0,1,(.c (.int .i64 128))),(1,1,(.c (.int .i64 128)))]),oI 37 (.build [(.int .i64 0),(.int .i64 0)] [(0,1,(.c (.int .i64 131))),(1,1,(.c (.int .i64 131)))]),oI 38 (.build [(.int .i64 0),(.int .i64 0)] [(0,1,(.c (.int .i64 135))),(1,1,(.c (.int .i64 135)))]),oI 39 (.build [(.int .i64 0),(.int .i64 0)] [(0,1,(.c (.int .i64 143))),(1,1,(.c (.int .i64 143)))]),oI 40 (.build [(.int .i64 0),(.int .i64 0)] [(0,1,(.c (.int .i64 145))),(1,1,(.c (.int .i64 145)))]),oI 41 (.build [(.int .i64 0),(.int .i64 0)] [(0,1,(.c (.int .i64 151))),(1,1,(.c (.int .i64 151)))]),oI 42 (.build [(.int .i64 0),(.int .i64 0)] [(0,1,(.c (.int .i64 158))),(1,1,(.c (.int .i64 158)))]),oI 43 (.build [(.int .i64 0),(.int .i64 0)] [(0,1,(.c (.int .i64 161))),(1,1,(.c (.int .i64 162)))]),oI 44 (.bslice false 2 9 (.agg [(.int .i64 0),(.int .i64 0)]) [(0,(.t 35)),(1,(.t 36)),(2,(.t 37)),(3,(.t 38)),(4,(.t 39)),(5,(.t 40)),(6,(.t 41)),(7,(.t 42)),(8,(.t 43))]),oI 2 (.mov (.t 44))] none [2]) .ret) (.seq (.region [oI 46 (.bin .eql (.t 3) (.c (.int .i64 11))),oI 45 (.mov (.t 46))] none [45,3]) (.cond (.t 45) (.seq (.region [oI 47 (.build [(.int .i64 0),(.int .i64 0)] [(0,1,(.c (.int .i64 0))),(1,1,(.c (.int .i64 0)))]),oI 48 (.build [(.int .i64 0),(.int .i64 0)] [(0,1,(.c (.int .i64 17))),(1,1,(.c (.int .i64 17)))]),oI 49 (.build [(.int .i64 0),(.int .i64 0)] [(0,1,(.c (.int .i64 128))),(1,1,(.c (.int .i64 128)))]),oI 50 (.build [(.int .i64 0),(.int .i64 0)] [(0,1,(.c (.int .i64 131))),(1,1,(.c (.int .i64 131)))]),oI 51 (.build [(.int .i64 0),(.int .i64 0)] [(0,1,(.c (.int .i64 135))),(1,1,(.c (.int .i64 135)))]),oI 52 (.build [(.int .i64 0),(.int .i64 0)] [(0,1,(.c (.int .i64 143))),(1,1,(.c (.int .i64 143)))]),oI 53 (.build [(.int .i64 0),(.int .i64 0)] [(0,1,(.c (.int .i64 145))),(1,1,(.c (.int .i64 145)))]),oI 54 (.bslice false 2 7 (.agg [(.int .i64 0),(.int .i64 0)]) [(0,(.t 47)),(1,(.t 48)),(2,(.t 49)),(3,(.t 50)),(4,(.t 51)),(5,(.t 52)),(6,(.t 53))]),oI 2 (.mov (.t 54))] none [2]) .ret) (.seq (.region [oI 56 (.bin .eql (.t 3) (.c (.int .i64 14))),oI 55 (.mov (.t 56))] none [55,3]) (.cond (.t 55) (.seq (.region [oI 57 (.build [(.int .i64 0),(.int .i64 0)] [(0,1,(.c (.int .i64 0))),(1,1,(.c (.int .i64 0)))]),oI 58 (.build [(.int .i64 0),(.int .i64 0)] [(0,1,(.c (.int .i64 4))),(1,1,(.c (.int .i64 4)))]),oI 59 (.build [(.int .i64 0),(.int .i64 0)] [(0,1,(.c (.int .i64 128))),(1,1,(.c (.int .i64 131)))]),oI 60 (.build [(.int .i64 0),(.int .i64 0)] [(0,1,(.c (.int .i64 135))),(1,1,(.c (.int .i64 135)))]),oI 61 (.build [(.int .i64 0),(.int .i64 0)] [(0,1,(.c (.int .i64 137))),(1,1,(.c (.int .i64 137)))]),oI 62 (.build [(.int .i64 0),(.int .i64 0)] [(0,1,(.c (.int .i64 139))),(1,1,(.c (.int .i64 139)))]),oI 63 (.build [(.int .i64 0),(.int .i64 0)] [(0,1,(.c (.int .i64 141))),(1,1,(.c (.int .i64 144)))]),oI 64 (.build [(.int .i64 0),(.int .i64 0)] [(0,1,(.c (.int .i64 147))),(1,1,(.c (.int .i64 162)))]),oI 65 (.bslice false 2 8 (.agg [(.int .i64 0),(.int .i64 0)]) [(0,(.t 57)),(1,(.t 58)),(2,(.t 59)),(3,(.t 60)),(4,(.t 61)),(5,(.t 62)),(6,(.t 63)),(7,(.t 64))]),oI 2 (.mov (.t 65))] none [2]) .ret) (.seq (.region [oI 67 (.bin .eql (.t 3) (.c (.int .i64 15))),oI 66 (.mov (.t 67))] none [66]) (.cond (.t 66) (.seq (.region [oI 68 (.build [(.int .i64 0),(.int .i64 0)] [(0,1,(.c (.int .i64 0))),(1,1,(.c (.int .i64 0)))]),oI 69 (.build [(.int .i64 0),(.int .i64 0)] [(0,1,(.c (.int .i64 24))),(1,1,(.c (.int .i64 25)))]),oI 70 (.bslice false 2 2 (.agg [(.int .i64 0),(.int .i64 0)]) [(0,(.t 68)),(1,(.t 69))]),oI 2 (.mov (.t 70))] none [2]) .ret) .skip)))))))))))))))) (.seq (.region [oI 2 (.mov (.c (.lst true [])))] none [2]) .ret)))
def Zny:ZE:=⟨[(.tmp 2)],ZdN⟩
theorem ZeX:FC 87=some Zny:=by kernel_rfl
theorem ZeQ:Zny.body=ZdN:=rfl
theorem Ze0:Zny.res=[(.tmp 2)]:=rfl
def ZhF:Ze:=(.seq (.region [oI 2 (.mov (.c (.int .u8 0)))] none [0]) (.seq (.seq (.region [oI 3 (.mov (.t 0))] none [3]) (.block 0 (.seq (.seq (.region [oI 5 (.bin .eql (.t 3) (.c (.int .i64 6))),oI 4 (.mov (.t 5))] none [4,3]) (.cond (.t 4) .skip (.seq (.region [oI 6 (.bin .eql (.t 3) (.c (.int .i64 8))),oI 4 (.mov (.t 6))] none [4,3]) (.cond (.t 4) .skip (.region [oI 7 (.bin .eql (.t 3) (.c (.int .i64 10))),oI 4 (.mov (.t 7))] none [4]))))) (.cond (.t 4) (.seq (.region [oI 2 (.mov (.c (.int .u8 2)))] none [2]) .ret) .skip)))) (.seq (.region [oI 2 (.mov (.c (.int .u8 0)))] none [2]) .ret)))
def Zpi:ZE:=⟨[(.tmp 2)],ZhF⟩
theorem Zl7:FC 79=some Zpi:=by kernel_rfl
theorem ZjF:Zpi.body=ZhF:=rfl
theorem ZlE:Zpi.res=[(.tmp 2)]:=rfl
def ZmE:Ze:=(.seq (.region [oI 4 (.mov (.c (.int .i64 0)))] none [1,0]) (.seq (.seq (.region [oI 5 (.mov (.t 0))] none [5,1]) (.cond (.t 5) (.seq (.region [oI 6 (.mov (.t 1)),oI 4 (.mov (.t 6))] none [4]) .ret) .skip)) (.seq (.region [oI 4 (.mov (.c (.int .i64 0)))] none [4]) .ret)))
def Zo4:ZE:=⟨[(.tmp 4)],ZmE⟩
theorem ZFQ:FC 81=some Zo4:=by kernel_rfl
theorem ZJP:Zo4.body=ZmE:=rfl
theorem Zx7:Zo4.res=[(.tmp 4)]:=rfl
def ZjJ:Ze:=(.seq (.region [oI 4 (.mov (.t 0)),oI 5 (.un .not (.t 4))] none [5,1]) (.cond (.t 5) (.region [oI 6 (.mov (.t 1)),oI 7 (.mki 61 (.t 6)),oN (.panic (.t 7))] none []) .skip))
def Zp4:ZE:=⟨[],ZjJ⟩
theorem ZvW:FC 113=some Zp4:=by kernel_rfl
theorem Zvt:Zp4.body=ZjJ:=rfl
theorem ZNh:Zp4.res=[]:=rfl
def ZnZ:Ze:=(.seq (.region [oI 218 (.faddr 16 (.t 2)),oI 219 (.ld (some 5) (.t 218)),oI 220 (.faddr 16 (.t 3)),oI 221 (.ld (some 5) (.t 220)),oI 8 (.alloc [(.str []),(.lst true []),(.int .i64 0),(.bool false),(.lst true [])]),oI 9 (.alloc [(.str []),(.lst true []),(.int .i64 0),(.bool false),(.lst true [])]),oN (.st 5 (.t 8) (.t 219)),oN (.st 5 (.t 9) (.t 221))] (some [(1,3),(1,4),(3,4),(1,5),(3,5),(4,5),(3,6)]) [9,8]) (.seq (.region [oI 222 (.faddr 0 (.t 8)),oI 223 (.ld none (.t 222)),oI 224 (.faddr 0 (.t 9)),oI 225 (.ld none (.t 224)),oI 226 (.bin .eql (.t 223) (.t 225)),oI 227 (.mov (.t 226)),⟨(some 228),(.faddr 1 (.t 8)),(some (227,true)),[]⟩,⟨(some 229),(.ld none (.t 228)),(some (227,true)),[]⟩,⟨(some 230),(.b2s (.t 229)),(some (227,true)),[]⟩,⟨(some 231),(.faddr 1 (.t 9)),(some (227,true)),[]⟩,⟨(some 232),(.ld none (.t 231)),(some (227,true)),[]⟩,⟨(some 233),(.b2s (.t 232)),(some (227,true)),[]⟩,⟨(some 234),(.bin .eql (.t 230) (.t 233)),(some (227,true)),[]⟩,oI 235 (.pick (.t 227) (.t 234) (.c (.bool false))),oI 236 (.mov (.t 235)),⟨(some 237),(.faddr 2 (.t 8)),(some (236,true)),[]⟩,⟨(some 238),(.ld none (.t 237)),(some (236,true)),[]⟩,⟨(some 239),(.faddr 2 (.t 9)),(some (236,true)),[]⟩,⟨(some 240),(.ld none (.t 239)),(some (236,true)),[]⟩,⟨(some 241),(.bin .eql (.t 238) (.t 240)),(some (236,true)),[]⟩,oI 242 (.pick (.t 236) (.t 241) (.c (.bool false))),oI 243 (.mov (.t 242)),⟨(some 244),(.faddr 3 (.t 8)),(some (243,true)),[]⟩,⟨(some 245),(.ld none (.t 244)),(some (243,true)),[]⟩,⟨(some 246),(.faddr 3 (.t 9)),(some (243,true)),[]⟩,⟨(some 247),(.ld none (.t 246)),(some (243,true)),[]⟩,⟨(some 248),(.beq false (.t 245) (.t 247)),(some (243,true)),[]⟩,oI 249 (.pick (.t 243) (.t 248) (.c (.bool false))),oI 250 (.mov (.t 249)),⟨(some 251),(.faddr 4 (.t 8)),(some (250,true)),[]⟩,⟨(some 252),(.ld none (.t 251)),(some (250,true)),[]⟩,⟨(some 253),(.faddr 4 (.t 9)),(some (250,true)),[]⟩,⟨(some 254),(.ld none (.t 253)),(some (250,true)),[]⟩,⟨(some 255),(.call 72 0 true [(.t 252),(.t 254)]),(some (250,true)),[]⟩,oI 256 (.pick (.t 250) (.t 255) (.c (.bool false))),oI 4 (.mov (.t 256))] none [4]) .ret))
def Zto:Ze:=ZnZ
def ZL7:=xw Zto ZnZ rfl
def ZmR:Ze:=(.seq (.seq (.region [oI 200 (.mov (.t 7)),oI 201 (.faddr 11 (.t 2)),oI 202 (.ld none (.t 201)),oI 203 (.len (.t 202)),oI 204 (.bin .lss (.t 200) (.t 203))] none [204,7,3,2]) (.cond (.t 204) .skip (.exit 4))) (.seq (.block 5 (.seq (.region [oI 207 (.faddr 11 (.t 2)),oI 208 (.ld none (.t 207)),oI 209 (.mov (.t 7)),oI 210 (.iaddr 1 (.t 208) (.t 209)),oI 211 (.ld none (.t 210)),oI 212 (.faddr 11 (.t 3)),oI 213 (.ld none (.t 212)),oI 214 (.mov (.t 7)),oI 215 (.iaddr 1 (.t 213) (.t 214)),oI 216 (.ld none (.t 215)),oI 217 (.bin .neq (.t 211) (.t 216))] (some [(1,6),(3,6),(4,6),(1,8),(3,8),(4,8),(1,9),(3,9),(4,9)]) [217,7,3,2]) (.cond (.t 217) (.seq (.region [oI 4 (.mov (.c (.bool false)))] none [4]) .ret) .skip))) (.region [oI 205 (.mov (.t 7)),oI 206 (.bin .add (.t 205) (.c (.int .i64 1))),oI 7 (.mov (.t 206))] none [7,3,2])))
def Zvb:Ze:=ZmR
def ZJz:=xw Zvb ZmR rfl
def ZpH:Ze:=(.seq (.seq (.region [oI 7 (.mov (.c (.int .i64 0)))] none [7,3,2]) (.block 4 (.loop [7,3,2] Zvb))) Zto)
def Zrw:Ze:=ZpH
def ZJw:=xw Zrw ZpH rfl
def ZnK:Ze:=(.seq (.seq (.region [oI 182 (.mov (.t 6)),oI 183 (.faddr 10 (.t 2)),oI 184 (.ld none (.t 183)),oI 185 (.len (.t 184)),oI 186 (.bin .lss (.t 182) (.t 185))] none [186,6,3,2]) (.cond (.t 186) .skip (.exit 2))) (.seq (.block 3 (.seq (.region [oI 189 (.faddr 10 (.t 2)),oI 190 (.ld none (.t 189)),oI 191 (.mov (.t 6)),oI 192 (.iaddr 6 (.t 190) (.t 191)),oI 193 (.ld (some 6) (.t 192)),oI 194 (.faddr 10 (.t 3)),oI 195 (.ld none (.t 194)),oI 196 (.mov (.t 6)),oI 197 (.iaddr 6 (.t 195) (.t 196)),oI 198 (.ld (some 6) (.t 197)),oI 199 (.eqv true [2,0,1,1,0,0] (.t 193) (.t 198))] (some [(1,6),(3,6),(4,6),(1,8),(3,8),(4,8),(1,9),(3,9),(4,9)]) [199,6,3,2]) (.cond (.t 199) (.seq (.region [oI 4 (.mov (.c (.bool false)))] none [4]) .ret) .skip))) (.region [oI 187 (.mov (.t 6)),oI 188 (.bin .add (.t 187) (.c (.int .i64 1))),oI 6 (.mov (.t 188))] none [6,3,2])))
def Zsd:Ze:=ZnK
def ZNd:=xw Zsd ZnK rfl
def ZmH:Ze:=(.seq (.seq (.region [oI 6 (.mov (.c (.int .i64 0)))] none [6,3,2]) (.block 2 (.loop [6,3,2] Zsd))) Zrw)
def Zsb:Ze:=ZmH
def Zz7:=xw Zsb ZmH rfl
def Zqr:Ze:=(.seq (.seq (.region [oI 164 (.mov (.t 5)),oI 165 (.faddr 8 (.t 2)),oI 166 (.ld none (.t 165)),oI 167 (.len (.t 166)),oI 168 (.bin .lss (.t 164) (.t 167))] none [168,5,3,2]) (.cond (.t 168) .skip (.exit 0))) (.seq (.block 1 (.seq (.region [oI 171 (.faddr 8 (.t 2)),oI 172 (.ld none (.t 171)),oI 173 (.mov (.t 5)),oI 174 (.iaddr 1 (.t 172) (.t 173)),oI 175 (.ld none (.t 174)),oI 176 (.faddr 8 (.t 3)),oI 177 (.ld none (.t 176)),oI 178 (.mov (.t 5)),oI 179 (.iaddr 1 (.t 177) (.t 178)),oI 180 (.ld none (.t 179)),oI 181 (.bin .neq (.t 175) (.t 180))] (some [(1,6),(3,6),(4,6),(1,8),(3,8),(4,8),(1,9),(3,9),(4,9)]) [181,5,3,2]) (.cond (.t 181) (.seq (.region [oI 4 (.mov (.c (.bool false)))] none [4]) .ret) .skip))) (.region [oI 169 (.mov (.t 5)),oI 170 (.bin .add (.t 169) (.c (.int .i64 1))),oI 5 (.mov (.t 170))] none [5,3,2])))
def ZuK:Ze:=Zqr
def ZC3:=xw ZuK Zqr rfl
def Zpl:Ze:=(.seq (.region [oI 2 (.box (.t 0)),oI 3 (.box (.t 1)),oI 4 (.mov (.c (.bool false)))] none [3,2]) (.seq (.seq (.region [oI 10 (.faddr 0 (.t 2)),oI 11 (.ld none (.t 10)),oI 12 (.faddr 0 (.t 3)),oI 13 (.ld none (.t 12)),oI 14 (.bin .neq (.t 11) (.t 13)),oI 15 (.mov (.t 14)),⟨(some 16),(.faddr 1 (.t 2)),(some (15,false)),[]⟩,⟨(some 17),(.ld none (.t 16)),(some (15,false)),[]⟩,⟨(some 18),(.faddr 1 (.t 3)),(some (15,false)),[]⟩,⟨(some 19),(.ld none (.t 18)),(some (15,false)),[]⟩,⟨(some 20),(.beq true (.t 17) (.t 19)),(some (15,false)),[]⟩,oI 21 (.pick (.t 15) (.c (.bool true)) (.t 20)),oI 22 (.mov (.t 21)),⟨(some 23),(.faddr 2 (.t 2)),(some (22,false)),[]⟩,⟨(some 24),(.ld none (.t 23)),(some (22,false)),[]⟩,⟨(some 25),(.faddr 2 (.t 3)),(some (22,false)),[]⟩,⟨(some 26),(.ld none (.t 25)),(some (22,false)),[]⟩,⟨(some 27),(.bin .neq (.t 24) (.t 26)),(some (22,false)),[]⟩,oI 28 (.pick (.t 22) (.c (.bool true)) (.t 27)),oI 29 (.mov (.t 28)),⟨(some 30),(.faddr 3 (.t 2)),(some (29,false)),[]⟩,⟨(some 31),(.ld none (.t 30)),(some (29,false)),[]⟩,⟨(some 32),(.faddr 3 (.t 3)),(some (29,false)),[]⟩,⟨(some 33),(.ld none (.t 32)),(some (29,false)),[]⟩,⟨(some 34),(.beq true (.t 31) (.t 33)),(some (29,false)),[]⟩,oI 35 (.pick (.t 29) (.c (.bool true)) (.t 34)),oI 36 (.mov (.t 35)),⟨(some 37),(.faddr 4 (.t 2)),(some (36,false)),[]⟩,⟨(some 38),(.ld none (.t 37)),(some (36,false)),[]⟩,⟨(some 39),(.faddr 4 (.t 3)),(some (36,false)),[]⟩,⟨(some 40),(.ld none (.t 39)),(some (36,false)),[]⟩,⟨(some 41),(.bin .neq (.t 38) (.t 40)),(some (36,false)),[]⟩,oI 42 (.pick (.t 36) (.c (.bool true)) (.t 41)),oI 43 (.mov (.t 42)),⟨(some 44),(.faddr 5 (.t 2)),(some (43,false)),[]⟩,⟨(some 45),(.ld none (.t 44)),(some (43,false)),[]⟩,⟨(some 46),(.faddr 5 (.t 3)),(some (43,false)),[]⟩,⟨(some 47),(.ld none (.t 46)),(some (43,false)),[]⟩,⟨(some 48),(.bin .neq (.t 45) (.t 47)),(some (43,false)),[]⟩,oI 49 (.pick (.t 43) (.c (.bool true)) (.t 48)),oI 50 (.mov (.t 49)),⟨(some 51),(.faddr 7 (.t 2)),(some (50,false)),[]⟩,⟨(some 52),(.ld none (.t 51)),(some (50,false)),[]⟩,⟨(some 53),(.faddr 7 (.t 3)),(some (50,false)),[]⟩,⟨(some 54),(.ld none (.t 53)),(some (50,false)),[]⟩,⟨(some 55),(.bin .neq (.t 52) (.t 54)),(some (50,false)),[]⟩,oI 56 (.pick (.t 50) (.c (.bool true)) (.t 55)),oI 57 (.mov (.t 56)),⟨(some 58),(.faddr 12 (.t 2)),(some (57,false)),[]⟩,⟨(some 59),(.ld none (.t 58)),(some (57,false)),[]⟩,⟨(some 60),(.faddr 12 (.t 3)),(some (57,false)),[]⟩,⟨(some 61),(.ld none (.t 60)),(some (57,false)),[]⟩,⟨(some 62),(.beq true (.t 59) (.t 61)),(some (57,false)),[]⟩,oI 63 (.pick (.t 57) (.c (.bool true)) (.t 62)),oI 64 (.mov (.t 63)),⟨(some 65),(.faddr 13 (.t 2)),(some (64,false)),[]⟩,⟨(some 66),(.ld none (.t 65)),(some (64,false)),[]⟩,⟨(some 67),(.faddr 13 (.t 3)),(some (64,false)),[]⟩,⟨(some 68),(.ld none (.t 67)),(some (64,false)),[]⟩,⟨(some 69),(.bin .neq (.t 66) (.t 68)),(some (64,false)),[]⟩,oI 70 (.pick (.t 64) (.c (.bool true)) (.t 69)),oI 71 (.mov (.t 70)),⟨(some 72),(.faddr 14 (.t 2)),(some (71,false)),[]⟩,⟨(some 73),(.ld none (.t 72)),(some (71,false)),[]⟩,⟨(some 74),(.faddr 14 (.t 3)),(some (71,false)),[]⟩,⟨(some 75),(.ld none (.t 74)),(some (71,false)),[]⟩,⟨(some 76),(.bin .neq (.t 73) (.t 75)),(some (71,false)),[]⟩,oI 77 (.pick (.t 71) (.c (.bool true)) (.t 76)),oI 78 (.mov (.t 77)),⟨(some 79),(.faddr 15 (.t 2)),(some (78,false)),[]⟩,⟨(some 80),(.ld none (.t 79)),(some (78,false)),[]⟩,⟨(some 81),(.faddr 15 (.t 3)),(some (78,false)),[]⟩,⟨(some 82),(.ld none (.t 81)),(some (78,false)),[]⟩,⟨(some 83),(.beq true (.t 80) (.t 82)),(some (78,false)),[]⟩,oI 84 (.pick (.t 78) (.c (.bool true)) (.t 83)),oI 85 (.mov (.t 84)),⟨(some 86),(.faddr 21 (.t 2)),(some (85,false)),[]⟩,⟨(some 87),(.ld none (.t 86)),(some (85,false)),[]⟩,⟨(some 88),(.faddr 21 (.t 3)),(some (85,false)),[]⟩,⟨(some 89),(.ld none (.t 88)),(some (85,false)),[]⟩,⟨(some 90),(.beq true (.t 87) (.t 89)),(some (85,false)),[]⟩,oI 91 (.pick (.t 85) (.c (.bool true)) (.t 90)),oI 92 (.mov (.t 91)),⟨(some 93),(.faddr 22 (.t 2)),(some (92,false)),[]⟩,⟨(some 94),(.ld none (.t 93)),(some (92,false)),[]⟩,⟨(some 95),(.faddr 22 (.t 3)),(some (92,false)),[]⟩,⟨(some 96),(.ld none (.t 95)),(some (92,false)),[]⟩,⟨(some 97),(.bin .neq (.t 94) (.t 96)),(some (92,false)),[]⟩,oI 98 (.pick (.t 92) (.c (.bool true)) (.t 97)),oI 99 (.mov (.t 98)),⟨(some 100),(.faddr 23 (.t 2)),(some (99,false)),[]⟩,⟨(some 101),(.ld none (.t 100)),(some (99,false)),[]⟩,⟨(some 102),(.faddr 23 (.t 3)),(some (99,false)),[]⟩,⟨(some 103),(.ld none (.t 102)),(some (99,false)),[]⟩,⟨(some 104),(.beq true (.t 101) (.t 103)),(some (99,false)),[]⟩,oI 105 (.pick (.t 99) (.c (.bool true)) (.t 104)),oI 106 (.mov (.t 105)),⟨(some 107),(.faddr 25 (.t 2)),(some (106,false)),[]⟩,⟨(some 108),(.ld none (.t 107)),(some (106,false)),[]⟩,⟨(some 109),(.faddr 25 (.t 3)),(some (106,false)),[]⟩,⟨(some 110),(.ld none (.t 109)),(some (106,false)),[]⟩,⟨(some 111),(.beq true (.t 108) (.t 110)),(some (106,false)),[]⟩,oI 112 (.pick (.t 106) (.c (.bool true)) (.t 111))] none [112,3,2]) (.cond (.t 112) (.seq (.region [oI 4 (.mov (.c (.bool false)))] none [4]) .ret) .skip)) (.seq (.seq (.region [oI 113 (.faddr 6 (.t 2)),oI 114 (.ld none (.t 113)),oI 115 (.b2s (.t 114)),oI 116 (.faddr 6 (.t 3)),oI 117 (.ld none (.t 116)),oI 118 (.b2s (.t 117)),oI 119 (.bin .neq (.t 115) (.t 118)),oI 120 (.mov (.t 119)),⟨(some 121),(.faddr 24 (.t 2)),(some (120,false)),[]⟩,⟨(some 122),(.ld none (.t 121)),(some (120,false)),[]⟩,⟨(some 123),(.b2s (.t 122)),(some (120,false)),[]⟩,⟨(some 124),(.faddr 24 (.t 3)),(some (120,false)),[]⟩,⟨(some 125),(.ld none (.t 124)),(some (120,false)),[]⟩,⟨(some 126),(.b2s (.t 125)),(some (120,false)),[]⟩,⟨(some 127),(.bin .neq (.t 123) (.t 126)),(some (120,false)),[]⟩,oI 128 (.pick (.t 120) (.c (.bool true)) (.t 127)),oI 129 (.mov (.t 128)),⟨(some 130),(.faddr 9 (.t 2)),(some (129,false)),[]⟩,⟨(some 131),(.ld none (.t 130)),(some (129,false)),[]⟩,⟨(some 132),(.faddr 9 (.t 3)),(some (129,false)),[]⟩,⟨(some 133),(.ld none (.t 132)),(some (129,false)),[]⟩,⟨(some 134),(.call 72 0 true [(.t 131),(.t 133)]),(some (129,false)),[]⟩,⟨(some 135),(.un .not (.t 134)),(some (129,false)),[]⟩,oI 136 (.pick (.t 129) (.c (.bool true)) (.t 135)),oI 137 (.mov (.t 136)),⟨(some 138),(.faddr 8 (.t 2)),(some (137,false)),[]⟩,⟨(some 139),(.ld none (.t 138)),(some (137,false)),[]⟩,⟨(some 140),(.len (.t 139)),(some (137,false)),[]⟩,⟨(some 141),(.faddr 8 (.t 3)),(some (137,false)),[]⟩,⟨(some 142),(.ld none (.t 141)),(some (137,false)),[]⟩,⟨(some 143),(.len (.t 142)),(some (137,false)),[]⟩,⟨(some 144),(.bin .neq (.t 140) (.t 143)),(some (137,false)),[]⟩,oI 145 (.pick (.t 137) (.c (.bool true)) (.t 144)),oI 146 (.mov (.t 145)),⟨(some 147),(.faddr 10 (.t 2)),(some (146,false)),[]⟩,⟨(some 148),(.ld none (.t 147)),(some (146,false)),[]⟩,⟨(some 149),(.len (.t 148)),(some (146,false)),[]⟩,⟨(some 150),(.faddr 10 (.t 3)),(some (146,false)),[]⟩,⟨(some 151),(.ld none (.t 150)),(some (146,false)),[]⟩,⟨(some 152),(.len (.t 151)),(some (146,false)),[]⟩,⟨(some 153),(.bin .neq (.t 149) (.t 152)),(some (146,false)),[]⟩,oI 154 (.pick (.t 146) (.c (.bool true)) (.t 153)),oI 155 (.mov (.t 154)),⟨(some 156),(.faddr 11 (.t 2)),(some (155,false)),[]⟩,⟨(some 157),(.ld none (.t 156)),(some (155,false)),[]⟩,⟨(some 158),(.len (.t 157)),(some (155,false)),[]⟩,⟨(some 159),(.faddr 11 (.t 3)),(some (155,false)),[]⟩,⟨(some 160),(.ld none (.t 159)),(some (155,false)),[]⟩,⟨(some 161),(.len (.t 160)),(some (155,false)),[]⟩,⟨(some 162),(.bin .neq (.t 158) (.t 161)),(some (155,false)),[]⟩,oI 163 (.pick (.t 155) (.c (.bool true)) (.t 162))] none [163,3,2]) (.cond (.t 163) (.seq (.region [oI 4 (.mov (.c (.bool false)))] none [4]) .ret) .skip)) (.seq (.seq (.region [oI 5 (.mov (.c (.int .i64 0)))] none [5,3,2]) (.block 0 (.loop [5,3,2] ZuK))) Zsb))))
def ZpD:ZE:=⟨[(.tmp 4)],Zpl⟩
theorem ZBg:FC 36=some ZpD:=by kernel_rfl
theorem ZMv:ZpD.body=Zpl:=rfl
theorem ZIY:ZpD.res=[(.tmp 4)]:=rfl
end
section
def Zy (c:Int):AVal:=.iface 61 (.int .i64 c)
theorem Zbe (c:Int) (σ:Za) (sq own:Nat):Zj E BY σ sq 113 own true [.bool true,.int .i64 c]=some (.tup [],σ,{}):=by
 have h:E 113 [.bool true,.int .i64 c] []=some (.tup [],[]):=by
  rw [Zh (by rfl) ZvW]
  simp -implicitDefEqProofs only [EQA,Zu,Nat.reduceLT,Nat.reduceEqDiff,unA,reduceCtorEq,↓reduceIte,Zd,Zvt,ZjJ,ZNh,oI,oN]
 exact Zce (h) (by kernel_rfl) (by simp -implicitDefEqProofs only [ZcM,Zbn,eq_self,eq_self]) (by simp -implicitDefEqProofs only [ZC,Zbn,eq_self,eq_self]) rfl (fun _=>rfl) _ _ _ _
theorem ZbD (c:Int) (σ:Za) (sq own:Nat):Zj E BY σ sq 113 own true [.bool false,.int .i64 c]=some (.pan (Zy c),σ,{}):=by
 have h:E 113 [.bool false,.int .i64 c] []=some (.pan (Zy c),[]):=by
  rw [Zh (by rfl) ZvW]
  simp -implicitDefEqProofs only [EQA,Zu,Nat.reduceLT,Nat.reduceEqDiff,unA,reduceCtorEq,↓reduceIte,Zvt,ZjJ,oI,oN,Zy]
 exact Zce (h) (by kernel_rfl) (by simp -implicitDefEqProofs only [ZcM,Zbn,eq_self]) (by simp -implicitDefEqProofs only [ZC,Zbn,eq_self]) rfl (fun _=>rfl) _ _ _ _
theorem ZaC {xs ys:List AVal} (h:Zd xs=true) (h':Zd ys=true):Zd (xs++ys)=true:=by
 induction xs with
 | nil=>exact h'
 | cons x xs ih =>
  simp only [Zd,Bool.and_eq_true,List.cons_append] at h ⊢
  exact ⟨h.1,ih h.2⟩
section
variable (P:List AVal) (hP:P.length=26) (hN:Zd P=true)
include hP
theorem Z7 (L:AVal):(P++[L]).length=27:=by simp [hP]
theorem Zaq (L:AVal):(P++[L])[26]?=some L:=by
 rw [List.getElem?_append_right (by omega)];simp [hP]
theorem ZeO (L:AVal):(P++[L]).take 26=P:=by
 rw [List.take_append_of_le_length (by omega),List.take_of_length_le (by omega)]
theorem Zf5 (L:AVal):(P++[L]).drop 27=[]:=List.drop_eq_nil_of_le (by simp [hP])
include hN
theorem Zx (f:Bool) (xs:List AVal):Zd (P++[.lst f xs])=true:=ZaC hN rfl
theorem ZyE (l:Zb) (n:Nat) (hn:n<=l.length) (hl:l.length<=140737488355328):E 115 [.ref 0 0,.int .i64 (n:Nat)] [.var (P++[.lst false (l.map Zc)])]=some (.int .i64 (ZeZ (l.take n)),[.var (P++[.lst false ((l.drop n).map Zc)])]):=by
 have h1:(l.length:Int)>=((n:Nat):Int):=by omega
 have s1:=fun σ kk=>Zhi σ 1 l Zc kk (n:Int) (by omega) (by omega)
 have s2:=fun σ kk=>Zfg σ l kk (n:Int) (by omega) (by omega)
 have e2:((n:Int)).toNat=n:=rfl
 rw [e2] at s1 s2
 have ht:(l.take n).length<=9223372036854775807:=by simp;omega
 have hG:=fun σ sq own f=>Zk0 σ sq own (l.take n) ht f
 have a1:=Z7 P hP
 have a2:=Zaq P hP
 have a3:=ZeO P hP
 have a4:=Zf5 P hP
 have m1:=Zbe
 rw [Zh (by rfl) ZlA]
 simp -implicitDefEqProofs only [EQA,ZC,Nat.reduceAdd,Nat.reduceLT,Nat.reduceLeDiff,Nat.reduceEqDiff,reduceCtorEq,↓reduceIte,ZlQ,ZhL,Zut,oI,oN,h1,s1,s2,hG,a1,a2,a3,a4,m1,ZeZ]
 exact ZZ rfl (Zx P hP hN _ _)
theorem ZBH (l:Zb) (n:Nat) (hn:l.length < n) (hn':n<=9223372036854775807):E 115 [.ref 0 0,.int .i64 (n:Nat)] [.var (P++[.lst false (l.map Zc)])]=some (.pan (Zy 129),[.var (P++[.lst false (l.map Zc)])]):=by
 have h1:¬(l.length:Int)>=((n:Nat):Int):=by omega
 have a2:=Zaq P hP
 have m1:=ZbD
 rw [Zh (by rfl) ZlA]
 simp -implicitDefEqProofs only [EQA,Nat.reduceLT,Nat.reduceEqDiff,reduceCtorEq,↓reduceIte,ZlQ,ZhL,oI,oN,h1,a2,m1]
 exact ZZ rfl (Zx P hP hN _ _)
theorem ZDO (l:Zb) (hl:l.length<=140737488355328) (h:(ZX l).2.2=0):E 124 [.ref 0 0] [.var (P++[.lst false (l.map Zc)])]=some (.str (ZX l).1,[.var (P++[.lst false ((l.drop (ZX l).2.1).map Zc)])]):=by
 have hG:=fun σ sq own f=>ZhR σ sq own f l hl
 have hu:=(Zh8 l).1
 unfold gtT at hG
 have s2:=fun σ kk=>Zfg σ l kk ((ZX l).2.1:Int) (by omega) (by omega)
 have e2:(((ZX l).2.1:Nat):Int).toNat=(ZX l).2.1:=rfl
 rw [e2] at s2
 rw [h] at hG
 have a1:=Z7 P hP
 have a2:=Zaq P hP
 have a3:=ZeO P hP
 have a4:=Zf5 P hP
 have m1:=Zbe
 rw [Zh (by rfl) Zj9]
 simp -implicitDefEqProofs only [EQA,ZC,Zu,Nat.reduceAdd,Nat.reduceLT,Nat.reduceLeDiff,Nat.reduceEqDiff,reduceCtorEq,↓reduceIte,ZjR,Zic,Zrv,oI,oN,s2,hG,a1,a2,a3,a4,m1]
 exact ZZ rfl (Zx P hP hN _ _)
theorem ZBQ (l:Zb) (hl:l.length<=140737488355328) (h:(ZX l).2.2≠0):E 124 [.ref 0 0] [.var (P++[.lst false (l.map Zc)])]=some (.pan (Zy 129),[.var (P++[.lst false (l.map Zc)])]):=by
 have hG:=fun σ sq own f=>ZhR σ sq own f l hl
 unfold gtT at hG
 have h0:((ZX l).2.2 == 0)=false:=by simpa using h
 have h1:=h
 have a2:=Zaq P hP
 have m1:=ZbD
 rw [Zh (by rfl) Zj9]
 simp -implicitDefEqProofs only [EQA,Nat.reduceLT,Nat.reduceEqDiff,reduceCtorEq,↓reduceIte,ZjR,Zic,oI,oN,hG,a2,h0,m1]
 exact ZZ rfl (Zx P hP hN _ _)
theorem ZJS (l:Zb) (hl:l.length<=140737488355328) (h:(Zan l).2.2=0):E 148 [.ref 0 0] [.var (P++[.lst false (l.map Zc)])]=some (.lst false ((Zan l).1.map Zc),[.var (P++[.lst false ((l.drop (Zan l).2.1).map Zc)])]):=by
 have hG:=fun σ sq own f=>Zl3 σ sq own f l hl
 have hu:=(Zkx l).1
 unfold gdT at hG
 have s2:=fun σ kk=>Zfg σ l kk ((Zan l).2.1:Int) (by omega) (by omega)
 have e2:(((Zan l).2.1:Nat):Int).toNat=(Zan l).2.1:=rfl
 rw [e2] at s2
 rw [h] at hG
 have a1:=Z7 P hP
 have a2:=Zaq P hP
 have a3:=ZeO P hP
 have a4:=Zf5 P hP
 have m1:=Zbe
 rw [Zh (by rfl) Zv4]
 simp -implicitDefEqProofs only [EQA,ZC,Zu,Nat.reduceAdd,Nat.reduceLT,Nat.reduceLeDiff,Nat.reduceEqDiff,reduceCtorEq,↓reduceIte,ZsV,Zlx,ZKF,oI,oN,s2,hG,a1,a2,a3,a4,m1]
 exact ZZ rfl (Zx P hP hN _ _)
theorem Zz6 (l:Zb) (hl:l.length<=140737488355328) (h:(Zan l).2.2≠0):E 148 [.ref 0 0] [.var (P++[.lst false (l.map Zc)])]=some (.pan (Zy 129),[.var (P++[.lst false (l.map Zc)])]):=by
 have hG:=fun σ sq own f=>Zl3 σ sq own f l hl
 unfold gdT at hG
 have h0:((Zan l).2.2 == 0)=false:=by simpa using h
 have h1:=h
 have a2:=Zaq P hP
 have m1:=ZbD
 rw [Zh (by rfl) Zv4]
 simp -implicitDefEqProofs only [EQA,Nat.reduceLT,Nat.reduceEqDiff,reduceCtorEq,↓reduceIte,ZsV,Zlx,oI,oN,hG,a2,h0,m1]
 exact ZZ rfl (Zx P hP hN _ _)
theorem ZMU (w:Int) (l:Zb) (hl:l.length<=140737488355328) (h:(Z3 w l).2.2=0) (hu:(Z3 w l).2.1<=l.length):E 117 [.ref 0 0,.int .i64 w] [.var (P++[.lst false (l.map Zc)])]=some (.lst false ((Z3 w l).1.map Zn),[.var (P++[.lst false ((l.drop (Z3 w l).2.1).map Zc)])]):=by
 have hG:=fun σ sq own f=>ZjT σ sq own f w l hl
 have s2:=fun σ kk=>Zfg σ l kk ((Z3 w l).2.1:Int) (by omega) (by omega)
 have e2:(((Z3 w l).2.1:Nat):Int).toNat=(Z3 w l).2.1:=rfl
 rw [e2] at s2
 rw [h] at hG
 have a1:=Z7 P hP
 have a2:=Zaq P hP
 have a3:=ZeO P hP
 have a4:=Zf5 P hP
 have m1:=Zbe
 generalize Z3 w l=R at *
 rw [Zh (by rfl) Zwf]
 simp -implicitDefEqProofs only [EQA,ZC,Zu,Nat.reduceAdd,Nat.reduceLT,Nat.reduceLeDiff,Nat.reduceEqDiff,reduceCtorEq,↓reduceIte,Zta,ZlJ,ZOh,oI,oN,s2,hG,a1,a2,a3,a4,m1]
 exact ZZ rfl (Zx P hP hN _ _)
theorem ZKz (w:Int) (l:Zb) (hl:l.length<=140737488355328) (h:(Z3 w l).2.2≠0):E 117 [.ref 0 0,.int .i64 w] [.var (P++[.lst false (l.map Zc)])]=some (.pan (Zy (Z3 w l).2.2),[.var (P++[.lst false (l.map Zc)])]):=by
 have hG:=fun σ sq own f=>ZjT σ sq own f w l hl
 have h0:((Z3 w l).2.2 == 0)=false:=by simpa using h
 have h1:=h
 have a2:=Zaq P hP
 have m1:=ZbD
 generalize Z3 w l=R at *
 rw [Zh (by rfl) Zwf]
 simp -implicitDefEqProofs only [EQA,Nat.reduceLT,Nat.reduceEqDiff,reduceCtorEq,↓reduceIte,Zta,ZlJ,oI,oN,hG,a2,h0,m1]
 exact ZZ rfl (Zx P hP hN _ _)
end
end
section
def ZmO:Ze:=(.seq (.region [oI 4 (.mov (.c (.bool false)))] none [1,0]) (.seq (.region [oI 5 (.mov (.t 0)),oI 6 (.mov (.t 1)),oI 7 (.call 133 0 true [(.t 5),(.t 6)]),oI 8 (.bin .geq (.t 7) (.c (.int .i64 0))),oI 4 (.mov (.t 8))] none [4]) .ret))
def Zoe:ZE:=⟨[(.tmp 4)],ZmO⟩
theorem ZIW:FC 86=some Zoe:=by kernel_rfl
theorem ZL4:Zoe.body=ZmO:=rfl
theorem ZJf:Zoe.res=[(.tmp 4)]:=rfl
def Zo8:Ze:=(.seq (.region [oI 6 (.mov (.c (.bool true)))] none [6]) .ret)
def Zmu:Ze:=Zo8
def ZxQ:=xw Zmu Zo8 rfl
def ZkT:Ze:=(.seq (.region [oI 18 (.bin .lss (.t 17) (.t 16))] none [18,17,16,15,2,1]) (.seq (.cond (.t 18) .skip (.exit 0)) (.seq (.block 1 (.seq (.region [oI 19 (.mov (.t 17)),oI 20 (.iaddr 5 (.t 15) (.t 17)),oI 21 (.ld (some 5) (.t 20)),oI 8 (.alloc [(.int .i64 0),(.int .i64 0),(.str []),(.str []),(.lst true [])]),oI 7 (.mov (.t 19)),oN (.st 5 (.t 8) (.t 21))] none [17,16,15,8,7,2,1]) (.seq (.region [oI 22 (.mov (.t 1)),oI 23 (.mov (.t 7)),oI 24 (.iaddr 5 (.t 22) (.t 23)),oI 25 (.ld (some 5) (.t 24)),oI 9 (.alloc [(.int .i64 0),(.int .i64 0),(.str []),(.str []),(.lst true [])]),oN (.st 5 (.t 9) (.t 25))] none [17,16,15,9,8,2,1]) (.seq (.region [oI 26 (.mov (.t 2)),oI 27 (.ld (some 5) (.t 8)),oI 28 (.ld (some 5) (.t 9)),oI 29 (.callv (.t 26) [(.t 27),(.t 28)]),oI 30 (.un .not (.t 29))] none [30,17,16,15,2,1]) (.cond (.t 30) (.seq (.region [oI 6 (.mov (.c (.bool false)))] none [6]) .ret) .skip))))) (.region [oI 31 (.bin .add (.t 17) (.c (.int .i64 1))),oI 17 (.mov (.t 31))] none [17,16,15,2,1]))))
def Zmk:Ze:=ZkT
def Zts:=xw Zmk ZkT rfl
def Zk4:Ze:=(.seq (.region [oI 6 (.mov (.c (.bool false)))] none [2,1,0]) (.seq (.seq (.region [oI 10 (.mov (.t 0)),oI 11 (.len (.t 10)),oI 12 (.mov (.t 1)),oI 13 (.len (.t 12)),oI 14 (.bin .neq (.t 11) (.t 13))] none [14,2,1,0]) (.cond (.t 14) (.seq (.region [oI 6 (.mov (.c (.bool false)))] none [6]) .ret) .skip)) (.seq (.seq (.region [oI 15 (.mov (.t 0)),oI 16 (.len (.t 15)),oI 17 (.mov (.c (.int .i64 0)))] none [17,16,15,2,1]) (.block 0 (.loop [17,16,15,2,1] Zmk))) Zmu)))
def Zl8:ZE:=⟨[(.tmp 6)],Zk4⟩
theorem ZNT:FC 91=some Zl8:=by kernel_rfl
theorem Zr3:Zl8.body=Zk4:=rfl
theorem Zpq:Zl8.res=[(.tmp 6)]:=rfl
noncomputable def Zlc (m:Nat) (tm:Tms) (σ:Za):Option (AVal×Za):=(Zap m Zl8 (ZbM FC PR BY m Zmu (Option.map (ZaW 0) (evL FC PR BY m [17,16,15,2,1] Zmk tm σ))))
def Znr:Ze:=(.seq (.region [oI 4 (.mov (.c (.bool true)))] none [4]) .ret)
def ZmB:Ze:=Znr
def ZJX:=xw ZmB Znr rfl
def ZkO:Ze:=(.seq (.region [oI 14 (.bin .lss (.t 13) (.t 12))] none [14,13,12,1,0]) (.seq (.cond (.t 14) .skip (.exit 0)) (.seq (.block 1 (.seq (.region [oI 15 (.mov (.t 13)),oI 5 (.mov (.t 15))] none [13,12,5,1,0]) (.seq (.region [oI 16 (.mov (.t 0)),oI 17 (.mov (.t 5)),oI 18 (.iaddr 1 (.t 16) (.t 17)),oI 19 (.ld none (.t 18)),oI 20 (.mov (.t 1)),oI 21 (.mov (.t 5)),oI 22 (.iaddr 1 (.t 20) (.t 21)),oI 23 (.ld none (.t 22)),oI 24 (.bin .neq (.t 19) (.t 23))] (some [(2,6),(3,6),(2,7),(3,7)]) [24,13,12,1,0]) (.cond (.t 24) (.seq (.region [oI 4 (.mov (.c (.bool false)))] none [4]) .ret) .skip)))) (.region [oI 25 (.bin .add (.t 13) (.c (.int .i64 1))),oI 13 (.mov (.t 25))] none [13,12,1,0]))))
def ZmP:Ze:=ZkO
def Zus:=xw ZmP ZkO rfl
def Zlm:Ze:=(.seq (.region [oI 4 (.mov (.c (.bool false)))] none [1,0]) (.seq (.seq (.region [oI 6 (.mov (.t 0)),oI 7 (.len (.t 6)),oI 8 (.mov (.t 1)),oI 9 (.len (.t 8)),oI 10 (.bin .neq (.t 7) (.t 9))] none [10,1,0]) (.cond (.t 10) (.seq (.region [oI 4 (.mov (.c (.bool false)))] none [4]) .ret) .skip)) (.seq (.seq (.region [oI 11 (.mov (.t 0)),oI 12 (.len (.t 11)),oI 13 (.mov (.c (.int .i64 0)))] none [13,12,1,0]) (.block 0 (.loop [13,12,1,0] ZmP))) ZmB)))
def Zld:ZE:=⟨[(.tmp 4)],Zlm⟩
theorem ZJj:FC 83=some Zld:=by kernel_rfl
theorem ZvS:Zld.body=Zlm:=rfl
theorem Zna:Zld.res=[(.tmp 4)]:=rfl
noncomputable def Zl9 (m:Nat) (tm:Tms) (σ:Za):Option (AVal×Za):=(Zap m Zld (ZbM FC PR BY m ZmB (Option.map (ZaW 0) (evL FC PR BY m [13,12,1,0] ZmP tm σ))))
def ZnU:Ze:=(.seq (.region [oI 4 (.mov (.c (.bool true)))] none [4]) .ret)
def ZoN:Ze:=ZnU
def ZCw:=xw ZoN ZnU rfl
def ZkZ:Ze:=(.seq (.region [oI 14 (.bin .lss (.t 13) (.t 12))] none [14,13,12,1,0]) (.seq (.cond (.t 14) .skip (.exit 0)) (.seq (.block 1 (.seq (.region [oI 15 (.mov (.t 13)),oI 5 (.mov (.t 15))] none [13,12,5,1,0]) (.seq (.region [oI 16 (.mov (.t 0)),oI 17 (.mov (.t 5)),oI 18 (.iaddr 6 (.t 16) (.t 17)),oI 19 (.ld (some 6) (.t 18)),oI 20 (.mov (.t 1)),oI 21 (.mov (.t 5)),oI 22 (.iaddr 6 (.t 20) (.t 21)),oI 23 (.ld (some 6) (.t 22)),oI 24 (.eqv true [2,0,1,1,0,0] (.t 19) (.t 23))] (some [(2,6),(3,6),(2,7),(3,7)]) [24,13,12,1,0]) (.cond (.t 24) (.seq (.region [oI 4 (.mov (.c (.bool false)))] none [4]) .ret) .skip)))) (.region [oI 25 (.bin .add (.t 13) (.c (.int .i64 1))),oI 13 (.mov (.t 25))] none [13,12,1,0]))))
def Zqx:Ze:=ZkZ
def Ztl:=xw Zqx ZkZ rfl
def Zmb:Ze:=(.seq (.region [oI 4 (.mov (.c (.bool false)))] none [1,0]) (.seq (.seq (.region [oI 6 (.mov (.t 0)),oI 7 (.len (.t 6)),oI 8 (.mov (.t 1)),oI 9 (.len (.t 8)),oI 10 (.bin .neq (.t 7) (.t 9))] none [10,1,0]) (.cond (.t 10) (.seq (.region [oI 4 (.mov (.c (.bool false)))] none [4]) .ret) .skip)) (.seq (.seq (.region [oI 11 (.mov (.t 0)),oI 12 (.len (.t 11)),oI 13 (.mov (.c (.int .i64 0)))] none [13,12,1,0]) (.block 0 (.loop [13,12,1,0] Zqx))) ZoN)))
def Zme:ZE:=⟨[(.tmp 4)],Zmb⟩
theorem ZL2:FC 84=some Zme:=by kernel_rfl
theorem ZqY:Zme.body=Zmb:=rfl
theorem ZqJ:Zme.res=[(.tmp 4)]:=rfl
noncomputable def Zlz (m:Nat) (tm:Tms) (σ:Za):Option (AVal×Za):=(Zap m Zme (ZbM FC PR BY m ZoN (Option.map (ZaW 0) (evL FC PR BY m [13,12,1,0] Zqx tm σ))))
def Zo9:Ze:=(.seq (.region [oI 4 (.mov (.c (.bool true)))] none [4]) .ret)
def ZpQ:Ze:=Zo9
def ZHK:=xw ZpQ Zo9 rfl
def ZlN:Ze:=(.seq (.region [oI 14 (.bin .lss (.t 13) (.t 12))] none [14,13,12,1,0]) (.seq (.cond (.t 14) .skip (.exit 0)) (.seq (.block 1 (.seq (.region [oI 15 (.mov (.t 13)),oI 5 (.mov (.t 15))] none [13,12,5,1,0]) (.seq (.region [oI 16 (.mov (.t 0)),oI 17 (.mov (.t 5)),oI 18 (.iaddr 1 (.t 16) (.t 17)),oI 19 (.ld none (.t 18)),oI 20 (.mov (.t 1)),oI 21 (.mov (.t 5)),oI 22 (.iaddr 1 (.t 20) (.t 21)),oI 23 (.ld none (.t 22)),oI 24 (.bin .neq (.t 19) (.t 23))] (some [(2,6),(3,6),(2,7),(3,7)]) [24,13,12,1,0]) (.cond (.t 24) (.seq (.region [oI 4 (.mov (.c (.bool false)))] none [4]) .ret) .skip)))) (.region [oI 25 (.bin .add (.t 13) (.c (.int .i64 1))),oI 13 (.mov (.t 25))] none [13,12,1,0]))))
def ZoC:Ze:=ZlN
def ZrI:=xw ZoC ZlN rfl
def Zk5:Ze:=(.seq (.region [oI 4 (.mov (.c (.bool false)))] none [1,0]) (.seq (.seq (.region [oI 6 (.mov (.t 0)),oI 7 (.len (.t 6)),oI 8 (.mov (.t 1)),oI 9 (.len (.t 8)),oI 10 (.bin .neq (.t 7) (.t 9))] none [10,1,0]) (.cond (.t 10) (.seq (.region [oI 4 (.mov (.c (.bool false)))] none [4]) .ret) .skip)) (.seq (.seq (.region [oI 11 (.mov (.t 0)),oI 12 (.len (.t 11)),oI 13 (.mov (.c (.int .i64 0)))] none [13,12,1,0]) (.block 0 (.loop [13,12,1,0] ZoC))) ZpQ)))
def ZkQ:ZE:=⟨[(.tmp 4)],Zk5⟩
theorem ZED:FC 85=some ZkQ:=by kernel_rfl
theorem Zsy:ZkQ.body=Zk5:=rfl
theorem Zox:ZkQ.res=[(.tmp 4)]:=rfl
noncomputable def ZkV (m:Nat) (tm:Tms) (σ:Za):Option (AVal×Za):=(Zap m ZkQ (ZbM FC PR BY m ZpQ (Option.map (ZaW 0) (evL FC PR BY m [13,12,1,0] ZoC tm σ))))
def Zno:Ze:=(.seq (.region [oI 4 (.mov (.c (.int .i64 (-1))))] none [4]) .ret)
def Zql:Ze:=Zno
def Zya:=xw Zql Zno rfl
def Zjv:Ze:=(.seq (.region [oI 9 (.bin .lss (.t 8) (.t 7))] none [9,8,7,1,0]) (.seq (.cond (.t 9) .skip (.exit 0)) (.seq (.block 1 (.seq (.region [oI 10 (.mov (.t 8)),oI 5 (.mov (.t 10))] none [8,7,5,1,0]) (.seq (.region [oI 11 (.mov (.t 1)),oI 12 (.mov (.t 0)),oI 13 (.mov (.t 5)),oI 14 (.iaddr 2 (.t 12) (.t 13)),oI 15 (.ld (some 2) (.t 14)),oI 16 (.callv (.t 11) [(.t 15)])] none [16,8,7,5,1,0]) (.cond (.t 16) (.seq (.region [oI 17 (.mov (.t 5)),oI 4 (.mov (.t 17))] none [4]) .ret) .skip)))) (.region [oI 18 (.bin .add (.t 8) (.c (.int .i64 1))),oI 8 (.mov (.t 18))] none [8,7,1,0]))))
def Zqo:Ze:=Zjv
def ZoP:=xw Zqo Zjv rfl
def Zpv:Ze:=(.seq (.region [oI 4 (.mov (.c (.int .i64 0)))] none [1,0]) (.seq (.seq (.region [oI 6 (.mov (.t 0)),oI 7 (.len (.t 6)),oI 8 (.mov (.c (.int .i64 0)))] none [8,7,1,0]) (.block 0 (.loop [8,7,1,0] Zqo))) Zql))
def ZjK:ZE:=⟨[(.tmp 4)],Zpv⟩
theorem ZN2:FC 133=some ZjK:=by kernel_rfl
theorem ZFP:ZjK.body=Zpv:=rfl
theorem Zvo:ZjK.res=[(.tmp 4)]:=rfl
noncomputable def ZkD (m:Nat) (tm:Tms) (σ:Za):Option (AVal×Za):=(Zap m ZjK (ZbM FC PR BY m Zql (Option.map (ZaW 0) (evL FC PR BY m [8,7,1,0] Zqo tm σ))))
end
section
theorem ZpY {O:ZR} {bf:Nat->Bool} {σ:Za} {t sq f own:Nat} {view:Bool} {args vs vs':List AVal} {cs cs':List AVal} {r:AVal} (hs:σ[t]?=some (.var cs)) (hc:Zd cs=true) (hc':Zd cs'=true) (hb:bf f=false) (hff:Za4 σ sq own=true)
  (hsh:showAs σ args=some (vs,[])) (href:Zt vs=[t]) (hren:∀ ρ:Rho,ρ t 0=some (0,0)->Zf ρ vs=vs') (hn:ZJ r=true) (hv:viewR [.var cs'] r=some (r,[]))
  (h:O f vs' [.var cs]=some (r,[.var cs'])):Zj O bf σ sq f own view args=some (r,σ.set t (.var cs'),{ any:=true,upd:=[(t,cs')] }):=by
 have htl:t < σ.length:=by
  rcases Nat.lt_or_ge t σ.length with h | h
  ·exact h
  ·rw [List.getElem?_eq_none h] at hs;cases hs
 have hup:Zbd (σ.set t (.var cs')) [t]=[(t,cs')]:=by
  simp only [Zbd,List.getElem?_set,if_pos htl,if_true]
 have hd:σ.getD t .free=.var cs:=by simp [List.getD_eq_getElem?_getD,hs]
 have hf0:Zs σ []=σ:=rfl
 unfold Zj Zb2
 rw [hb]
 simp only [Bool.false_eq_true,if_false,hsh,hf0,href,Zfn hs hc]
 unfold ZbH
 have hall:([t].all fun t=>okB (σ.getD t .free))=true:=by simp [List.all_cons,List.all_nil,hs,okB]
 rw [if_pos hall]
 have hρ:Zo σ 0 [t] t 0=some (0,0):=by simp [Zo,Z1,hs,Zq,ZU]
 have hheap:Zw σ 0 [t] (Zo σ 0 [t]) [t] 0=[.var cs]:=by
  simp only [Zw,hd,ZG,(ZaP _ cs hc).1]
 rw [hren _ hρ,hheap,h]
 have hask:Zaf view [t].length (some (r,[.var cs']))=some (r,[.var cs']):=by
  unfold Zaf
  split
  ·have hnp:∀ x,r≠.pan x:=by rintro x rfl;simp [viewR,ZS,ZN] at hv
   rw [show ZbJ [t].length (some (r,[.var cs']))=(match viewR [.var cs'] r with
    | some (r',ts)=>match gcA [t].length [r'] (Zs [.var cs'] ts) with
     | ([r''],σ')=>some (r'',σ')
     | _=>none
    | none=>none) from by cases r <;> first | rfl | exact absurd rfl (hnp _)]
   rw [hv]
   simp only [List.length_cons,List.length_nil,Nat.zero_add,show Zs [ZK.var cs'] []=[.var cs'] from rfl,ZlZ hn hc']
  ·rfl
 rw [hask]
 have hk:Za1 σ [t] [.var cs'] 0=true:=by
  simp [Za1,okB,hs,Zck,Zq]
 simp only [ZaE,List.isEmpty_cons,Bool.false_eq_true,if_false,List.length_cons,List.length_nil,Nat.zero_add,Nat.le_add_right,Nat.le_refl,decide_true,hk,hff,Bool.and_self,if_true,Za8,ZaJ,List.getD_cons_zero,ZG,(Za5 _ r hn).1,(ZaP _ cs' hc').1,hup]
def ZfN (k:Int):List (Int×Int) :=
 if k=2 then [(0,0),(128,138),(140,140),(144,144),(149,149),(151,151),(153,157),(159,159)] else
 if k=4 then [(0,0),(16,16),(128,128),(131,131),(135,135),(144,145),(151,151),(153,153)] else
 if k=5 then [(0,0),(16,16),(128,128),(131,131),(135,135),(144,145),(151,151),(153,153)] else
 if k=6 then [(0,0),(146,146)] else
 if k=7 then [(0,0),(146,146)] else
 if k=9 then [(0,2),(128,128),(131,131),(135,135),(143,143),(145,145),(151,151),(158,158),(161,162)] else
 if k=11 then [(0,0),(17,17),(128,128),(131,131),(135,135),(143,143),(145,145)] else
 if k=14 then [(0,0),(4,4),(128,131),(135,135),(137,137),(139,139),(141,144),(147,162)] else
 if k=15 then [(0,0),(24,25)] else
 []
def ZdM (s:Int×Int):AVal:=.agg [.int .i64 s.1,.int .i64 s.2]
def Zgp (c:Int) (s:Int×Int):Bool:=decide (c>=s.1) && decide (c<=s.2)
def Zfj (k c:Int):Bool:=(ZfN k).any (Zgp c)
theorem Zyc (k:Int):(ZfN k).length<=9:=by
 unfold ZfN
 repeat' split
 all_goals simp
theorem ZDt (k:Int):∃ f,E 87 [.int .i64 k] []=some (.lst f ((ZfN k).map ZdM),[]):=by
 refine ⟨true,?_⟩
 unfold ZfN
 by_cases h2:k=2
 ·subst h2
  rw [Zh (by rfl) ZeX]
  simp -implicitDefEqProofs only [EQA,Zu,Nat.reduceAdd,Nat.reduceLT,Nat.reduceLeDiff,Nat.reduceEqDiff,reduceCtorEq,↓reduceIte,ZeQ,ZdN,Ze0,oI,Zao,AVal.cells,Zbo,viewAs,ZS,ZN,ZaL,Zs]
  rfl
 by_cases h4:k=4
 ·subst h4
  rw [Zh (by rfl) ZeX]
  simp -implicitDefEqProofs only [EQA,Zu,Zdx,Nat.reduceAdd,Nat.reduceLT,Nat.reduceLeDiff,Nat.reduceEqDiff,reduceCtorEq,ite_self,↓reduceIte,ZeQ,ZdN,Ze0,oI,Int.reduceBEq,Zao,AVal.cells,Zbo,viewAs,ZS,ZN,ZaL,Zs]
  rfl
 by_cases h5:k=5
 ·subst h5
  rw [Zh (by rfl) ZeX]
  simp -implicitDefEqProofs only [EQA,Zu,Zdx,Nat.reduceAdd,Nat.reduceLT,Nat.reduceLeDiff,Nat.reduceEqDiff,reduceCtorEq,ite_self,↓reduceIte,ZeQ,ZdN,Ze0,oI,Int.reduceBEq,Zao,AVal.cells,Zbo,viewAs,ZS,ZN,ZaL,Zs]
  rfl
 by_cases h6:k=6
 ·subst h6
  rw [Zh (by rfl) ZeX]
  simp -implicitDefEqProofs only [EQA,Zu,Zdx,Nat.reduceAdd,Nat.reduceLT,Nat.reduceLeDiff,Nat.reduceEqDiff,reduceCtorEq,ite_self,↓reduceIte,ZeQ,ZdN,Ze0,oI,Int.reduceBEq,Zao,AVal.cells,Zbo,viewAs,ZS,ZN,ZaL,Zs]
  rfl
 by_cases h7:k=7
 ·subst h7
  rw [Zh (by rfl) ZeX]
  simp -implicitDefEqProofs only [EQA,Zu,Zdx,Nat.reduceAdd,Nat.reduceLT,Nat.reduceLeDiff,Nat.reduceEqDiff,reduceCtorEq,ite_self,↓reduceIte,ZeQ,ZdN,Ze0,oI,Int.reduceBEq,Zao,AVal.cells,Zbo,viewAs,ZS,ZN,ZaL,Zs]
  rfl
 by_cases h9:k=9
 ·subst h9
  rw [Zh (by rfl) ZeX]
  simp -implicitDefEqProofs only [EQA,Zu,Zdx,Nat.reduceAdd,Nat.reduceLT,Nat.reduceLeDiff,Nat.reduceEqDiff,reduceCtorEq,↓reduceIte,ZeQ,ZdN,Ze0,oI,Int.reduceBEq,Zao,AVal.cells,Zbo,viewAs,ZS,ZN,ZaL,Zs]
  rfl
 by_cases h11:k=11
 ·subst h11
  rw [Zh (by rfl) ZeX]
  simp -implicitDefEqProofs only [EQA,Zu,Zdx,Nat.reduceAdd,Nat.reduceLT,Nat.reduceLeDiff,Nat.reduceEqDiff,reduceCtorEq,↓reduceIte,ZeQ,ZdN,Ze0,oI,Int.reduceBEq,Zao,AVal.cells,Zbo,viewAs,ZS,ZN,ZaL,Zs]
  rfl
 by_cases h14:k=14
 ·subst h14
  rw [Zh (by rfl) ZeX]
  simp -implicitDefEqProofs only [EQA,Zu,Zdx,Nat.reduceAdd,Nat.reduceLT,Nat.reduceLeDiff,Nat.reduceEqDiff,reduceCtorEq,ite_self,↓reduceIte,ZeQ,ZdN,Ze0,oI,Int.reduceBEq,Zao,AVal.cells,Zbo,viewAs,ZS,ZN,ZaL,Zs]
  rfl
 by_cases h15:k=15
 ·subst h15
  rw [Zh (by rfl) ZeX]
  simp -implicitDefEqProofs only [EQA,Zu,Zdx,Nat.reduceAdd,Nat.reduceLT,Nat.reduceLeDiff,Nat.reduceEqDiff,reduceCtorEq,ite_self,↓reduceIte,ZeQ,ZdN,Ze0,oI,Int.reduceBEq,Zao,AVal.cells,Zbo,viewAs,ZS,ZN,ZaL,Zs]
  rfl
 have b2:(k == 2)=false:=by simpa using h2
 have b4:(k == 4)=false:=by simpa using h4
 have b5:(k == 5)=false:=by simpa using h5
 have b6:(k == 6)=false:=by simpa using h6
 have b7:(k == 7)=false:=by simpa using h7
 have b9:(k == 9)=false:=by simpa using h9
 have b11:(k == 11)=false:=by simpa using h11
 have b14:(k == 14)=false:=by simpa using h14
 have b15:(k == 15)=false:=by simpa using h15
 rw [if_neg h2,if_neg h4,if_neg h5,if_neg h6,if_neg h7,if_neg h9,if_neg h11,if_neg h14,if_neg h15]
 rw [Zh (by rfl) ZeX]
 simp -implicitDefEqProofs only [EQA,Zu,Nat.reduceLT,Nat.reduceEqDiff,reduceCtorEq,↓reduceIte,ZeQ,ZdN,Ze0,oI,b2,b4,b5,b6,b7,b9,b11,b14,b15]
theorem ZLe (c:Int) (s:Int×Int):E 88 [.agg [.int .i64 s.1,.int .i64 s.2],.ref 0 0] [.var [.int .i64 c]]=some (.bool (Zgp c s),[.var [.int .i64 c]]):=by
 unfold Zgp
 rw [Zh (by rfl) ZH6]
 by_cases h:c>=s.1
 ·simp -implicitDefEqProofs only [EQA,ZC,Z5,Nat.reduceAdd,Nat.reduceLT,Nat.reduceEqDiff,Nat.reduceBEq,ZF,unG,reduceCtorEq,↓reduceIte,Zd,Zue,ZjY,ZvF,oI,h]
  try (simp [Zak,gcA,ZB,Zz,Zt,Z2,Zo,Zw,Z1,Zq,ZU,Zf,Zm,ZG,ZM,List.range_succ])
 ·simp -implicitDefEqProofs only [EQA,ZC,Z5,Nat.reduceAdd,Nat.reduceLT,Nat.reduceEqDiff,Nat.reduceBEq,ZF,Zav,reduceCtorEq,↓reduceIte,Zd,Zue,ZjY,ZvF,oI,h]
  try (simp [Zak,gcA,ZB,Zz,Zt,Z2,Zo,Zw,Z1,Zq,ZU,Zf,Zm,ZG,ZM,List.range_succ])
theorem ZMd (k:Int) (σ:Za) (sq own:Nat):Zj E BY σ sq 87 own true [.int .i64 k]=some (.lst false ((ZfN k).map ZdM),σ,{}):=by
 obtain ⟨f,h⟩:=ZDt k
 exact ZbC h (by kernel_rfl) rfl rfl rfl (fun _=>rfl) _ _ _
theorem ZKR (σ:Za) (sq t own:Nat) (view:Bool) (c:Int) (s:Int×Int) (hs:σ[t]?=some (.var [.int .i64 c])) (hff:Za4 σ sq own=true):Zj E BY σ sq 88 own view [.agg [.int .i64 s.1,.int .i64 s.2],.ref t 0]=some (.bool (Zgp c s),σ.set t (.var [.int .i64 c]),{ any:=true,upd:=[(t,[.int .i64 c])] }) :=
 ZpY hs rfl rfl (by kernel_rfl) hff rfl rfl (fun ρ h=>by simp only [Zf,Zm,h]) rfl rfl (ZLe c s)
theorem ZtP (L:List (Int×Int)) (c:Int) (hL:L.length<=9223372036854775807):∀ (r:List (Int×Int)) (i:Nat),L.drop i=r ->
  ∃ z,ZkD 1 [(8,.int .i64 i),(7,.int .i64 L.length),(1,.fn 88 [.ref 0 0]),(0,.lst false (L.map ZdM))] [.var [.int .i64 c]]=some (.int .i64 z,[.var [.int .i64 c]])/\decide (z>=0)=r.any (Zgp c)
 | [],i,h=>by
  have h1:=Zda h
  refine ⟨-1,?_,by simp⟩
  unfold ZkD
  rw [Z9]
  simp -implicitDefEqProofs only [EQA,Z5,Nat.reduceLT,Nat.reduceEqDiff,reduceCtorEq,↓reduceIte,Zd,Zvo,Zya,Zno,ZoP,Zjv,oI,h1]
 | x::r,i,h=>by
  obtain ⟨z,ih,hz⟩:=ZtP L c hL r (i+1) (Z8 h).2.1
  have h1:(i:Int) < L.length:=by have:=(Z8 h).2.2;omega
  have e1:=iad (Z8 h).1 ZdM (k:=2) rfl
  have e3:=Zc9 h1 hL
  have hm:x ∈ L:=List.mem_of_getElem? (Z8 h).1
  have hc:=fun σ sq t own view hs hff=>ZKR σ sq t own view c x hs hff
  unfold ZkD at ih ⊢
  cases hb:Zgp c x
  ·refine ⟨z,?_,by rw [hz];simp [hb]⟩
   rw [Z9]
   simp -implicitDefEqProofs only [EQA,ZC,Z5,Nat.reduceAdd,Nat.reduceLT,Nat.reduceLeDiff,Nat.reduceEqDiff,Nat.reduceBEq,reduceCtorEq,↓reduceIte,gcT,gcA,ZB,Zz,Zo,Zw,Z1,Zq,ZU,ZG,ZM,List.range_succ,ZoP,Zjv,oI,h1,e1,e3,hc,hb,Za4,ZdM]
   exact ih
  ·refine ⟨i,?_,by simp [hb]⟩
   rw [Z9]
   simp -implicitDefEqProofs only [EQA,ZC,Z5,Nat.reduceAdd,Nat.reduceLT,Nat.reduceLeDiff,Nat.reduceEqDiff,Nat.reduceBEq,reduceCtorEq,↓reduceIte,Zd,Zvo,ZoP,Zjv,oI,h1,e1,hc,hb,Za4,ZdM]
theorem Zzq (L:List (Int×Int)) (c:Int) (hL:L.length<=9223372036854775807) :
  ∃ z,E 133 [.lst false (L.map ZdM),.fn 88 [.ref 0 0]] [.var [.int .i64 c]]=some (.int .i64 z,[.var [.int .i64 c]])/\decide (z>=0)=L.any (Zgp c):=by
 obtain ⟨z,h,hz⟩:=ZtP L c hL L 0 rfl
 refine ⟨z,?_,hz⟩
 rw [Zh (by rfl) ZN2]
 have z0:((0:Nat):Int)=0:=rfl
 rw [z0] at h
 unfold ZkD at h
 simp -implicitDefEqProofs only [EQA,Z5,Nat.reduceLT,Nat.reduceEqDiff,reduceCtorEq,↓reduceIte,gcT,gcA,ZB,Zz,Zo,Zw,Z1,Zq,ZU,ZG,ZM,List.range_succ,ZFP,Zpv,oI,h]
theorem ZwW (L:List (Int×Int)) (c:Int) (hL:L.length<=9223372036854775807) :
  E 86 [.lst false (L.map ZdM),.fn 88 [.ref 0 0]] [.var [.int .i64 c]]=some (.bool (L.any (Zgp c)),[.var [.int .i64 c]]):=by
 obtain ⟨z,h,hz⟩:=Zzq L c hL
 rw [Zh (by rfl) ZIW]
 have hc:=fun (σ:Za) sq t view hs=>ZpY (O:=E) (bf:=BY) (σ:=σ) (t:=t) (sq:=sq) (own:=0) (view:=view) (f:=133) (args:=[.lst false (L.map ZdM),.fn 88 [.ref t 0]]) (vs:=[.lst false (L.map ZdM),.fn 88 [.ref t 0]]) hs rfl rfl (by kernel_rfl) rfl rfl rfl (fun ρ h=>by simp only [Zf,Zm,h]) rfl rfl h
 simp -implicitDefEqProofs only [EQA,Z5,Nat.reduceLT,Nat.reduceEqDiff,reduceCtorEq,↓reduceIte,Zd,ZL4,ZmO,ZJf,oI,hc,hz]
theorem ZDp (k c:Int):E 41 [.int .i64 k,.int .i64 c] []=some (.bool (Zfj k c),[]):=by
 have h:=ZwW (ZfN k) c (by have:=Zyc k;omega)
 have hC:=fun σ sq own=>ZMd k σ sq own
 unfold Zfj
 generalize ZfN k=L at *
 rw [Zh (by rfl) ZFI]
 have hc:=fun (σ:Za) sq t view hs=>ZpY (O:=E) (bf:=BY) (σ:=σ) (t:=t) (sq:=sq) (own:=0) (view:=view) (f:=86) (args:=[.lst false (L.map ZdM),.fn 88 [.ref t 0]]) (vs:=[.lst false (L.map ZdM),.fn 88 [.ref t 0]]) hs rfl rfl (by kernel_rfl) rfl rfl rfl (fun ρ h=>by simp only [Zf,Zm,h]) rfl rfl h
 simp -implicitDefEqProofs only [EQA,ZC,Nat.reduceLT,Nat.reduceEqDiff,Nat.reduceBEq,reduceCtorEq,↓reduceIte,ZwT,ZpW,Zyj,oI,hC,hc]
theorem Zje (k c:Int) (σ:Za) (sq own:Nat):Zj E BY σ sq 41 own true [.int .i64 k,.int .i64 c]=some (.bool (Zfj k c),σ,{}) :=
 Zce (ZDp k c) (by kernel_rfl) (by simp -implicitDefEqProofs only [ZcM,Zbn,eq_self,eq_self]) (by simp -implicitDefEqProofs only [ZC,Zbn,eq_self,eq_self]) rfl (fun _=>rfl) _ _ _ _
end
section
abbrev RK (α:Type):=Except Int (α×Zb)
def Zar (n:Nat) (l:Zb):RK Int:=if l.length < n then .error 129 else .ok (ZeZ (l.take n),l.drop n)
def Zal (l:Zb):RK Zb:=if (ZX l).2.2=0 then .ok ((ZX l).1,l.drop (ZX l).2.1) else .error 129
def Zcu (l:Zb):RK Zb:=if (Zan l).2.2=0 then .ok ((Zan l).1,l.drop (Zan l).2.1) else .error 129
def Zbw (w:Int) (l:Zb):RK (List Zp):=if (Z3 w l).2.2=0 then .ok ((Z3 w l).1,l.drop (Z3 w l).2.1) else .error (Z3 w l).2.2
def idK (l:Zb):RK Int:=match Zar 2 l with
 | .ok (n,r)=>if n=0 then .error 130 else .ok (n,r)
 | .error c=>.error c
def Zat (k:Int) (l:Zb):RK Int:=match Zar 1 l with
 | .ok (n,r)=>if Zfj k n=true then .ok (n,r) else .error 130
 | .error c=>.error c
theorem ZP {v:AVal} (hv:ZJ v=true):∀ {P:List AVal} (k:Nat),Zd P=true->Zd (P.set k v)=true
 | [],_,_=>rfl
 | x::P,0,h=>by
  simp only [Zd,Bool.and_eq_true,List.set_cons_zero] at h ⊢
  exact ⟨hv,h.2⟩
 | x::P,k+1,h=>by
  simp only [Zd,Bool.and_eq_true,List.set_cons_succ] at h ⊢
  exact ⟨h.1,ZP hv k h.2⟩
theorem Zcd (f:Bool) (xs:List AVal):ZJ (.lst f xs)=true:=rfl
section
variable (P:List AVal) (hP:P.length=26) (hN:Zd P=true)
include hP
theorem Zay (k k':Nat) (hk:k < 26) (hk':k'=k+1) (L v:AVal):List.take k (P++[L])++[v]++List.drop k' (P++[L])=P.set k v++[L]:=by
 subst hk'
 rw [List.take_append_of_le_length (by omega),List.drop_append_of_le_length (by omega),<-List.append_assoc]
 congr 1
 rw [List.set_eq_take_append_cons_drop,if_pos (by omega)]
 simp
theorem Zaa (k:Nat) (hk:k < 26) (L:AVal):(P++[L])[k]?=P[k]?:=List.getElem?_append_left (by omega)
theorem ZhK (k:Nat) (hk:k < 26) (L v:AVal):(P.set k v++[L])[k]?=some v:=by
 rw [List.getElem?_append_left (by simp;omega),List.getElem?_set_self (by omega)]
include hN
section
variable (l:Zb) (hl:l.length<=140737488355328) (σ:Za) (t sq:Nat) (hs:σ[t]?=some (.var (P++[.lst false (l.map Zc)])))
include hl hs
theorem ZcX {n:Nat} {m:Int} {a:Int} {r:Zb} (hm:((n:Nat):Int)=m) (h:Zar n l=.ok (a,r)):Zj E BY σ sq 115 0 true [.ref t 0,.int .i64 m]=some (.int .i64 a,σ.set t (.var (P++[.lst false (r.map Zc)])),{ any:=true,upd:=[(t,P++[.lst false (r.map Zc)])] }):=by
 subst hm
 unfold Zar at h
 split at h
 ·cases h
 ·injection h with h;injection h with h1 h2;subst h1 h2
  exact Zc7 (rest:=[.int .i64 (n:Nat)]) (by kernel_rfl) rfl (Zx P hP hN _ _) (Zx P hP hN _ _) rfl rfl (ZyE P hP hN l n (by omega) hl) hs sq
theorem Zf9 {n:Nat} {m:Int} {c:Int} (hm:((n:Nat):Int)=m) (hn:n<=9223372036854775807) (h:Zar n l=.error c):Zj E BY σ sq 115 0 true [.ref t 0,.int .i64 m]=some (.pan (Zy c),σ.set t (.var (P++[.lst false (l.map Zc)])),{ any:=true,upd:=[(t,P++[.lst false (l.map Zc)])] }):=by
 subst hm
 unfold Zar at h
 split at h
 ·injection h with h;subst h
  exact ZcP (rest:=[.int .i64 (n:Nat)]) (by kernel_rfl) rfl (Zx P hP hN _ _) (Zx P hP hN _ _) rfl (ZBH P hP hN l n (by omega) hn) hs sq
 ·cases h
theorem Zd3 {a r:Zb} (h:Zal l=.ok (a,r)):Zj E BY σ sq 124 0 true [.ref t 0]=some (.str a,σ.set t (.var (P++[.lst false (r.map Zc)])),{ any:=true,upd:=[(t,P++[.lst false (r.map Zc)])] }):=by
 unfold Zal at h
 split at h
 ·rename_i h0
  injection h with h;injection h with h1 h2;subst h1 h2
  exact Zc7 (rest:=[]) (by kernel_rfl) rfl (Zx P hP hN _ _) (Zx P hP hN _ _) rfl rfl (ZDO P hP hN l hl h0) hs sq
 ·cases h
theorem ZgX {c:Int} (h:Zal l=.error c):Zj E BY σ sq 124 0 true [.ref t 0]=some (.pan (Zy c),σ.set t (.var (P++[.lst false (l.map Zc)])),{ any:=true,upd:=[(t,P++[.lst false (l.map Zc)])] }):=by
 unfold Zal at h
 split at h
 ·cases h
 ·rename_i h0
  injection h with h;subst h
  exact ZcP (rest:=[]) (by kernel_rfl) rfl (Zx P hP hN _ _) (Zx P hP hN _ _) rfl (ZBQ P hP hN l hl h0) hs sq
theorem Ztk {a r:Zb} (h:Zcu l=.ok (a,r)):Zj E BY σ sq 148 0 true [.ref t 0]=some (.lst false (a.map Zc),σ.set t (.var (P++[.lst false (r.map Zc)])),{ any:=true,upd:=[(t,P++[.lst false (r.map Zc)])] }):=by
 unfold Zcu at h
 split at h
 ·rename_i h0
  injection h with h;injection h with h1 h2;subst h1 h2
  exact Zc7 (rest:=[]) (by kernel_rfl) rfl (Zx P hP hN _ _) (Zx P hP hN _ _) rfl rfl (ZJS P hP hN l hl h0) hs sq
 ·cases h
theorem ZvZ {c:Int} (h:Zcu l=.error c):Zj E BY σ sq 148 0 true [.ref t 0]=some (.pan (Zy c),σ.set t (.var (P++[.lst false (l.map Zc)])),{ any:=true,upd:=[(t,P++[.lst false (l.map Zc)])] }):=by
 unfold Zcu at h
 split at h
 ·cases h
 ·rename_i h0
  injection h with h;subst h
  exact ZcP (rest:=[]) (by kernel_rfl) rfl (Zx P hP hN _ _) (Zx P hP hN _ _) rfl (Zz6 P hP hN l hl h0) hs sq
theorem Zef {w:Int} {a:List Zp} {r:Zb} (hu:(Z3 w l).2.1<=l.length) (h:Zbw w l=.ok (a,r)):Zj E BY σ sq 117 0 true [.ref t 0,.int .i64 w]=some (.lst false (a.map Zn),σ.set t (.var (P++[.lst false (r.map Zc)])),{ any:=true,upd:=[(t,P++[.lst false (r.map Zc)])] }):=by
 unfold Zbw at h
 split at h
 ·rename_i h0
  injection h with h;injection h with h1 h2;subst h1 h2
  exact Zc7 (rest:=[.int .i64 w]) (by kernel_rfl) rfl (Zx P hP hN _ _) (Zx P hP hN _ _) rfl rfl (ZMU P hP hN w l hl h0 hu) hs sq
 ·cases h
theorem ZfH {w c:Int} (h:Zbw w l=.error c):Zj E BY σ sq 117 0 true [.ref t 0,.int .i64 w]=some (.pan (Zy c),σ.set t (.var (P++[.lst false (l.map Zc)])),{ any:=true,upd:=[(t,P++[.lst false (l.map Zc)])] }):=by
 unfold Zbw at h
 split at h
 ·cases h
 ·rename_i h0
  injection h with h;subst h
  exact ZcP (rest:=[.int .i64 w]) (by kernel_rfl) rfl (Zx P hP hN _ _) (Zx P hP hN _ _) rfl (ZKz P hP hN w l hl h0) hs sq
end
theorem ZyO (l:Zb) (hl:l.length<=140737488355328) {n:Int} {r:Zb} (h:idK l=.ok (n,r)):E 119 [.ref 0 0] [.var (P++[.lst false (l.map Zc)])]=some (.tup [],[.var (P.set 4 (.int .i64 n)++[.lst false (r.map Zc)])]):=by
 unfold idK at h
 split at h
 case h_2=>cases h
 rename_i n' r' h2
 split at h
 ·cases h
 rename_i hn
 injection h with h;injection h with h3 h4;subst h3 h4
 have hG:=fun σ sq hs=>ZcX P hP hN l hl σ 0 sq hs (m:=2) rfl h2
 have a1:=Z7 P hP
 have a3:=Zay P hP 4 5 (by omega) rfl
 have a4:=ZhK P hP 4 (by omega)
 have m1:=Zbe
 have h0:(n' != 0)=true:=by simpa using hn
 rw [Zh (by rfl) Zmn]
 simp -implicitDefEqProofs only [EQA,ZC,Zu,Nat.reduceAdd,Nat.reduceLT,Nat.reduceLeDiff,Nat.reduceEqDiff,reduceCtorEq,↓reduceIte,Zd,Zok,ZjA,ZB7,oI,oN,hG,a1,a3,a4,m1,h0]
 exact ZZ rfl (ZaC (ZP rfl 4 hN) (by rfl))
theorem Zj5 (l:Zb) (hl:l.length<=140737488355328) {c:Int} (h:idK l=.error c):∃ cs,Zd cs=true/\E 119 [.ref 0 0] [.var (P++[.lst false (l.map Zc)])]=some (.pan (Zy c),[.var cs]):=by
 unfold idK at h
 split at h
 ·rename_i n' r' h2
  split at h
  case isFalse=>cases h
  rename_i hn
  injection h with h;subst h hn
  have hG:=fun σ sq hs=>ZcX P hP hN l hl σ 0 sq hs (m:=2) rfl h2
  have a1:=Z7 P hP
  have a3:=Zay P hP 4 5 (by omega) rfl
  have a4:=ZhK P hP 4 (by omega)
  have m1:=ZbD
  refine ⟨P.set 4 (.int .i64 0)++[.lst false (r'.map Zc)],ZaC (ZP rfl 4 hN) (by rfl),?_⟩
  rw [Zh (by rfl) Zmn]
  simp -implicitDefEqProofs only [EQA,ZC,Nat.reduceAdd,Nat.reduceLT,Nat.reduceLeDiff,Nat.reduceEqDiff,reduceCtorEq,↓reduceIte,Zok,ZjA,oI,oN,hG,a1,a3,a4,m1,bne_self_eq_false]
  exact ZZ rfl (ZaC (ZP rfl 4 hN) (by rfl))
 ·rename_i c' h2
  injection h with h;subst h
  have hG:=fun σ sq hs=>Zf9 P hP hN l hl σ 0 sq hs (m:=2) rfl (by decide) h2
  refine ⟨P++[.lst false (l.map Zc)],ZaC hN (by rfl),?_⟩
  rw [Zh (by rfl) Zmn]
  simp -implicitDefEqProofs only [EQA,Nat.reduceLT,reduceCtorEq,↓reduceIte,Zok,ZjA,oI,oN,hG]
  exact ZZ rfl (ZaC hN (by rfl))
theorem ZCK (k:Int) (hk:P[0]?=some (.int .i64 k)) (l:Zb) (hl:l.length<=140737488355328) {n:Int} {r:Zb} (h:Zat k l=.ok (n,r)):E 116 [.ref 0 0] [.var (P++[.lst false (l.map Zc)])]=some (.int .i64 n,[.var (P++[.lst false (r.map Zc)])]):=by
 unfold Zat at h
 split at h
 case h_2=>cases h
 rename_i n' r' h2
 split at h
 case isFalse=>cases h
 rename_i hn
 injection h with h;injection h with h3 h4;subst h3 h4
 have hG:=fun σ sq hs=>ZcX P hP hN l hl σ 0 sq hs (m:=1) rfl h2
 have a4:=fun L=>(Zaa P hP 0 (by omega) L).trans hk
 have m1:=Zbe
 have hC:=fun σ sq own=>Zje k n' σ sq own
 rw [hn] at hC
 rw [Zh (by rfl) ZfS]
 simp -implicitDefEqProofs only [EQA,Nat.reduceLT,Nat.reduceEqDiff,reduceCtorEq,↓reduceIte,Zf4,Ze2,ZsX,oI,hG,hC,a4,m1]
 exact ZZ rfl (ZaC hN (by rfl))
theorem Ztp (k:Int) (hk:P[0]?=some (.int .i64 k)) (l:Zb) (hl:l.length<=140737488355328) {c:Int} (h:Zat k l=.error c):∃ cs,Zd cs=true/\E 116 [.ref 0 0] [.var (P++[.lst false (l.map Zc)])]=some (.pan (Zy c),[.var cs]):=by
 unfold Zat at h
 split at h
 ·rename_i n' r' h2
  split at h
  case isTrue=>cases h
  rename_i hn
  injection h with h;subst h
  have hG:=fun σ sq hs=>ZcX P hP hN l hl σ 0 sq hs (m:=1) rfl h2
  have a4:=fun L=>(Zaa P hP 0 (by omega) L).trans hk
  have m1:=ZbD
  have hC:=fun σ sq own=>Zje k n' σ sq own
  rw [Bool.not_eq_true _ |>.mp hn] at hC
  refine ⟨P++[.lst false (r'.map Zc)],ZaC hN (by rfl),?_⟩
  rw [Zh (by rfl) ZfS]
  simp -implicitDefEqProofs only [EQA,Nat.reduceLT,Nat.reduceEqDiff,reduceCtorEq,↓reduceIte,Zf4,Ze2,oI,hG,hC,a4,m1]
  exact ZZ rfl (ZaC hN (by rfl))
 ·rename_i c' h2
  injection h with h;subst h
  have hG:=fun σ sq hs=>Zf9 P hP hN l hl σ 0 sq hs (m:=1) rfl (by decide) h2
  refine ⟨P++[.lst false (l.map Zc)],ZaC hN (by rfl),?_⟩
  rw [Zh (by rfl) ZfS]
  simp -implicitDefEqProofs only [EQA,Nat.reduceLT,reduceCtorEq,↓reduceIte,Zf4,Ze2,oI,hG]
  exact ZZ rfl (ZaC hN (by rfl))
section
variable (l:Zb) (hl:l.length<=140737488355328) (σ:Za) (t sq:Nat) (hs:σ[t]?=some (.var (P++[.lst false (l.map Zc)])))
include hl hs
theorem ZfR {n:Int} {r:Zb} (h:idK l=.ok (n,r)):Zj E BY σ sq 119 0 true [.ref t 0]=some (.tup [],σ.set t (.var (P.set 4 (.int .i64 n)++[.lst false (r.map Zc)])),{ any:=true,upd:=[(t,P.set 4 (.int .i64 n)++[.lst false (r.map Zc)])] }) :=
 Zc7 (rest:=[]) (by kernel_rfl) rfl (Zx P hP hN _ _) (ZaC (ZP rfl 4 hN) (by rfl)) rfl rfl (ZyO P hP hN l hl h) hs sq
theorem ZiW (k:Int) (hk:P[0]?=some (.int .i64 k)) {n:Int} {r:Zb} (h:Zat k l=.ok (n,r)):Zj E BY σ sq 116 0 true [.ref t 0]=some (.int .i64 n,σ.set t (.var (P++[.lst false (r.map Zc)])),{ any:=true,upd:=[(t,P++[.lst false (r.map Zc)])] }) :=
 Zc7 (rest:=[]) (by kernel_rfl) rfl (Zx P hP hN _ _) (Zx P hP hN _ _) rfl rfl (ZCK P hP hN k hk l hl h) hs sq
end
end
end
section
def Zfs:Option (List Zp)->AVal
 | none=>.lst true []
 | some l=>.lst false (l.map Zn)
def ZbW (k:Int) (l:Zb):RK (Int×Option (List Zp)) :=
 if l.length=0 then .ok ((0,none),l) else match Zat k l with
 | .error c=>.error c
 | .ok (c,r)=>if r.length=0 then .ok ((c,none),r) else match Zbw k r with
  | .error c=>.error c
  | .ok (ps,r')=>.ok ((c,some ps),r')
theorem Zlu {k n:Int} {l r:Zb} (h:Zat k l=.ok (n,r)):r.length<=l.length:=by
 unfold Zat Zar at h
 split at h
 ·rename_i h1
  split at h1
  ·cases h1
  ·injection h1 with h1;injection h1 with _ h1
   split at h
   ·injection h with h;injection h with _ h;subst h h1;simp
   ·cases h
 ·cases h
theorem Zlv {P:List AVal} {k:Nat} {v:AVal} (h:P[k]?=some v):P.set k v=P:=by
 apply List.ext_getElem?
 intro j
 rw [List.getElem?_set]
 split
 ·rename_i e;subst e
  have hk:k < P.length:=by
   rcases Nat.lt_or_ge k P.length with h' | h'
   ·exact h'
   ·rw [List.getElem?_eq_none h'] at h;cases h
  rw [if_pos hk,h]
 ·rfl
section
variable (P:List AVal) (hP:P.length=26) (hN:Zd P=true)
include hP hN
theorem ZBY (k:Int) (hk:P[0]?=some (.int .i64 k)) (h7:P[7]?=some (.int .i64 0)) (h9:P[9]?=some (.lst true [])) (hu:∀ r:Zb,r.length<=140737488355328->(Z3 k r).2.1<=r.length) (l:Zb) (hl:l.length<=140737488355328) {c:Int} {ps:Option (List Zp)} {r:Zb} (h:ZbW k l=.ok ((c,ps),r)) :
  E 120 [.ref 0 0] [.var (P++[.lst false (l.map Zc)])]=some (.tup [],[.var ((P.set 7 (.int .i64 c)).set 9 (Zfs ps)++[.lst false (r.map Zc)])]):=by
 have a1:=Z7 P hP
 have a2:=Zaq P hP
 unfold ZbW at h
 split at h
 ·rename_i h0
  injection h with h;injection h with h1 h2;injection h1 with h1 h3;subst h1 h2 h3
  have hg:¬(l.length:Int) > 0:=by omega
  rw [show Zfs none=.lst true [] from rfl,Zlv h7,Zlv h9]
  rw [Zh (by rfl) Zjp]
  simp -implicitDefEqProofs only [EQA,Zu,Nat.reduceLT,reduceCtorEq,↓reduceIte,Zd,ZiA,ZgN,Znf,oI,oN,a2,hg]
  exact ZZ rfl (Zx P hP hN _ _)
 ·rename_i h0
  have hg:(l.length:Int) > 0:=by omega
  split at h
  ·cases h
  rename_i c' r' hc
  have hr':=Zlu hc
  have hC:=fun σ sq hs=>ZiW P hP hN l hl σ 0 sq hs k hk hc
  have a3:=Zay P hP 7 8 (by omega) rfl
  have hP7:(P.set 7 (.int .i64 c')).length=26:=by simp [hP]
  have hN7:Zd (P.set 7 (.int .i64 c'))=true:=ZP rfl 7 hN
  have hk7:(P.set 7 (.int .i64 c'))[0]?=some (.int .i64 k):=by rw [List.getElem?_set_ne (by omega)];exact hk
  have h97:(P.set 7 (.int .i64 c'))[9]?=some (.lst true []):=by rw [List.getElem?_set_ne (by omega)];exact h9
  have b1:=Z7 _ hP7
  have b2:=Zaq _ hP7
  have b3:=Zay _ hP7 9 10 (by omega) rfl
  have b4:=fun L=>(Zaa _ hP7 0 (by omega) L).trans hk7
  split at h
  ·rename_i h1
   injection h with h;injection h with h1 h2;injection h1 with h1 h3;subst h1 h2 h3
   have hg':¬(r'.length:Int) > 0:=by omega
   rw [show Zfs none=.lst true [] from rfl,Zlv h97]
   rw [Zh (by rfl) Zjp]
   simp -implicitDefEqProofs only [EQA,ZC,Zu,Nat.reduceAdd,Nat.reduceLT,Nat.reduceLeDiff,Nat.reduceEqDiff,reduceCtorEq,↓reduceIte,Zd,ZiA,ZgN,Znf,oI,oN,a1,a2,a3,b2,hg,hg',hC]
   exact ZZ rfl (Zx _ hP7 hN7 _ _)
  ·rename_i h1
   have hg':(r'.length:Int) > 0:=by omega
   split at h
   ·cases h
   rename_i ps' r2 hp
   injection h with h;injection h with h1 h2;injection h1 with h1 h3;subst h1 h2 h3
   have hG:=fun σ sq hs=>Zef _ hP7 hN7 r' (by omega) σ 0 sq hs (hu r' (by omega)) hp
   rw [Zh (by rfl) Zjp]
   simp -implicitDefEqProofs only [EQA,ZC,Zu,Nat.reduceAdd,Nat.reduceLT,Nat.reduceLeDiff,Nat.reduceEqDiff,reduceCtorEq,↓reduceIte,Zd,ZiA,ZgN,Znf,oI,oN,a1,a2,a3,b1,b2,b3,b4,hg,hg',hC,hG,Zfs]
   exact ZZ rfl (ZaC (ZP (Zcd _ _) 9 hN7) (by rfl))
theorem Ztb (k:Int) (hk:P[0]?=some (.int .i64 k)) (hu:∀ r:Zb,r.length<=140737488355328->(Z3 k r).2.1<=r.length) (l:Zb) (hl:l.length<=140737488355328) {e:Int} (h:ZbW k l=.error e) :
  ∃ cs,Zd cs=true/\E 120 [.ref 0 0] [.var (P++[.lst false (l.map Zc)])]=some (.pan (Zy e),[.var cs]):=by
 have a1:=Z7 P hP
 have a2:=Zaq P hP
 unfold ZbW at h
 split at h
 ·cases h
 ·rename_i h0
  have hg:(l.length:Int) > 0:=by omega
  split at h
  ·rename_i c hc
   injection h with h;subst h
   obtain ⟨cs,hn,he⟩:=Ztp P hP hN k hk l hl hc
   have hC:=fun (σ:Za) sq (hs:σ[0]?=some (.var (P++[.lst false (l.map Zc)])))=>ZcP (O:=E) (bf:=BY) (f:=116) (view:=true) (rest:=[]) (by kernel_rfl) rfl (Zx P hP hN _ _) hn rfl he hs sq
   refine ⟨cs,hn,?_⟩
   rw [Zh (by rfl) Zjp]
   simp -implicitDefEqProofs only [EQA,Nat.reduceLT,reduceCtorEq,↓reduceIte,ZiA,ZgN,oI,oN,a2,hg,hC]
   exact ZZ rfl hn
  ·rename_i c' r' hc
   have hr':=Zlu hc
   have hC:=fun σ sq hs=>ZiW P hP hN l hl σ 0 sq hs k hk hc
   have a3:=Zay P hP 7 8 (by omega) rfl
   have hP7:(P.set 7 (.int .i64 c')).length=26:=by simp [hP]
   have hN7:Zd (P.set 7 (.int .i64 c'))=true:=ZP rfl 7 hN
   have hk7:(P.set 7 (.int .i64 c'))[0]?=some (.int .i64 k):=by rw [List.getElem?_set_ne (by omega)];exact hk
   have b1:=Z7 _ hP7
   have b2:=Zaq _ hP7
   have b4:=fun L=>(Zaa _ hP7 0 (by omega) L).trans hk7
   split at h
   ·cases h
   ·rename_i h1
    have hg':(r'.length:Int) > 0:=by omega
    split at h
    ·rename_i c hp
     injection h with h;subst h
     have hG:=fun σ sq hs=>ZfH _ hP7 hN7 r' (by omega) σ 0 sq hs hp
     refine ⟨P.set 7 (.int .i64 c')++[.lst false (r'.map Zc)],Zx _ hP7 hN7 _ _,?_⟩
     rw [Zh (by rfl) Zjp]
     simp -implicitDefEqProofs only [EQA,ZC,Nat.reduceAdd,Nat.reduceLT,Nat.reduceLeDiff,Nat.reduceEqDiff,reduceCtorEq,↓reduceIte,ZiA,ZgN,oI,oN,a1,a2,a3,b2,b4,hg,hg',hC,hG]
     exact ZZ rfl (Zx _ hP7 hN7 _ _)
    ·cases h
section
variable (l:Zb) (hl:l.length<=140737488355328) (σ:Za) (t sq:Nat) (hs:σ[t]?=some (.var (P++[.lst false (l.map Zc)])))
include hl hs
theorem Zte (k:Int) (hk:P[0]?=some (.int .i64 k)) (h7:P[7]?=some (.int .i64 0)) (h9:P[9]?=some (.lst true [])) (hu:∀ r:Zb,r.length<=140737488355328->(Z3 k r).2.1<=r.length) {c:Int} {ps:Option (List Zp)} {r:Zb} (h:ZbW k l=.ok ((c,ps),r)):Zj E BY σ sq 120 0 true [.ref t 0]=some (.tup [],σ.set t (.var ((P.set 7 (.int .i64 c)).set 9 (Zfs ps)++[.lst false (r.map Zc)])),{ any:=true,upd:=[(t,(P.set 7 (.int .i64 c)).set 9 (Zfs ps)++[.lst false (r.map Zc)])] }) :=
 Zc7 (rest:=[]) (by kernel_rfl) rfl (Zx P hP hN _ _) (ZaC (ZP (by cases ps <;> rfl) 9 (ZP rfl 7 hN)) (by rfl)) rfl rfl (ZBY P hP hN k hk h7 h9 hu l hl h) hs sq
end
end
theorem ZgD {n:Nat} {l r:Zb} {a:Int} (h:Zar n l=.ok (a,r)):r.length<=l.length:=by
 unfold Zar at h
 split at h
 ·cases h
 ·injection h with h;injection h with _ h;subst h;simp
theorem ZeE {l r:Zb} {a:Int} (h:idK l=.ok (a,r)):r.length<=l.length:=by
 unfold idK at h
 split at h
 ·rename_i h1
  split at h
  ·cases h
  ·injection h with h;injection h with _ h;subst h;exact ZgD h1
 ·cases h
theorem Zdr {l r a:Zb} (h:Zal l=.ok (a,r)):r.length<=l.length:=by
 unfold Zal at h
 split at h
 ·injection h with h;injection h with _ h;subst h;simp
 ·cases h
theorem ZsN {l r a:Zb} (h:Zcu l=.ok (a,r)):r.length<=l.length:=by
 unfold Zcu at h
 split at h
 ·injection h with h;injection h with _ h;subst h;simp
 ·cases h
theorem Zfp {w:Int} {l r:Zb} {a:List Zp} (h:Zbw w l=.ok (a,r)):r.length<=l.length:=by
 unfold Zbw at h
 split at h
 ·injection h with h;injection h with _ h;subst h;simp
 ·cases h
def Zcv (qos:Int) (l:Zb):Except Int (Zb×Int×List Zp×Zb):=match Zal l with
 | .error c=>.error c
 | .ok (tp,r1)=>if qos > 0 then (match idK r1 with
  | .error c=>.error c
  | .ok (n,r2)=>match Zbw 3 r2 with
   | .error c=>.error c
   | .ok (ps,r3)=>.ok (tp,n,ps,r3))
  else match Zbw 3 r1 with
   | .error c=>.error c
   | .ok (ps,r3)=>.ok (tp,0,ps,r3)
section
variable (P:List AVal) (hP:P.length=26) (hN:Zd P=true)
include hP hN
theorem ZJg (qos:Int) (h2:P[2]?=some (.int .i64 qos)) (h4:P[4]?=some (.int .i64 0)) (hu:∀ r:Zb,r.length<=140737488355328->(Z3 3 r).2.1<=r.length) (l:Zb) (hl:l.length<=140737488355328) {tp:Zb} {n:Int} {ps:List Zp} {pay:Zb} (h:Zcv qos l=.ok (tp,n,ps,pay)) :
  E 118 [.ref 0 0] [.var (P++[.lst false (l.map Zc)])]=some (.tup [],[.var ((((P.set 5 (.str tp)).set 4 (.int .i64 n)).set 9 (.lst false (ps.map Zn))).set 6 (.lst false (pay.map Zc))++[.lst true []])]):=by
 have a1:=Z7 P hP
 have a2:=Zaq P hP
 unfold Zcv at h
 split at h
 ·cases h
 rename_i tp' r1 ht
 have l1:=Zdr ht
 have hT:=fun σ sq hs=>Zd3 P hP hN l hl σ 0 sq hs ht
 have a3:=fun L=>Zay P hP 5 6 (by omega) rfl L (.str tp')
 have hP5:(P.set 5 (.str tp')).length=26:=by simp [hP]
 have hN5:Zd (P.set 5 (.str tp'))=true:=ZP rfl 5 hN
 have h25:(P.set 5 (.str tp'))[2]?=some (.int .i64 qos):=by rw [List.getElem?_set_ne (by omega)];exact h2
 have h45:(P.set 5 (.str tp'))[4]?=some (.int .i64 0):=by rw [List.getElem?_set_ne (by omega)];exact h4
 generalize hQ:P.set 5 (.str tp')=Q at *
 have b1:=Z7 _ hP5
 have b2:=Zaq _ hP5
 have b4:=fun L=>(Zaa _ hP5 2 (by omega) L).trans h25
 split at h
 ·rename_i hq
  split at h
  ·cases h
  rename_i n' r2 hi
  have l2:=ZeE hi
  split at h
  ·cases h
  rename_i ps' r3 hp
  have l3:=Zfp hp
  injection h with h;injection h with e1 h;injection h with e2 h;injection h with e3 e4;subst e1 e2 e3 e4
  rw [hQ]
  have hI:=fun σ sq hs=>ZfR Q hP5 hN5 r1 (by omega) σ 0 sq hs hi
  have hP4:(Q.set 4 (.int .i64 n')).length=26:=by simp [hP5]
  have hN4:Zd (Q.set 4 (.int .i64 n'))=true:=ZP rfl 4 hN5
  generalize Q.set 4 (.int .i64 n')=R at *
  have hG:=fun σ sq hs=>Zef _ hP4 hN4 r2 (by omega) σ 0 sq hs (hu r2 (by omega)) hp
  have c1:=Z7 _ hP4
  have c2:=Zaq _ hP4
  have c3:=fun L=>Zay _ hP4 9 10 (by omega) rfl L (.lst false (ps'.map Zn))
  have hP9:(R.set 9 (.lst false (ps'.map Zn))).length=26:=by simp [hP4]
  have hN9:Zd (R.set 9 (.lst false (ps'.map Zn)))=true:=ZP (Zcd _ _) 9 hN4
  generalize R.set 9 (.lst false (ps'.map Zn))=S at *
  have d1:=Z7 _ hP9
  have d2:=Zaq _ hP9
  have d3:=fun L=>Zay _ hP9 6 7 (by omega) rfl L (.lst false (r3.map Zc))
  have hP6:(S.set 6 (.lst false (r3.map Zc))).length=26:=by simp [hP9]
  have hN6:Zd (S.set 6 (.lst false (r3.map Zc)))=true:=ZP (Zcd _ _) 6 hN9
  generalize S.set 6 (.lst false (r3.map Zc))=U at *
  have f1:=Z7 _ hP6
  have f3:=ZeO _ hP6
  have f4:=Zf5 _ hP6
  have hC:=fun σ sq own=>Znn σ sq own r3 (by omega)
  rw [Zh (by rfl) Zia]
  simp -implicitDefEqProofs only [EQA,ZC,Zu,Nat.reduceAdd,Nat.reduceLT,Nat.reduceLeDiff,Nat.reduceEqDiff,reduceCtorEq,↓reduceIte,Zd,ZhW,Zge,Zr8,oI,oN,a1,a3,b4,c1,c3,d1,d2,d3,f1,f3,f4,hq,hT,hI,hG,hC]
  exact ZZ rfl (ZaC hN6 (by rfl))
 ·rename_i hq
  split at h
  ·cases h
  rename_i ps' r3 hp
  have l3:=Zfp hp
  injection h with h;injection h with e1 h;injection h with e2 h;injection h with e3 e4;subst e1 e2 e3 e4
  rw [hQ,Zlv h45]
  have hG:=fun σ sq hs=>Zef _ hP5 hN5 r1 (by omega) σ 0 sq hs (hu r1 (by omega)) hp
  have c3:=fun L=>Zay _ hP5 9 10 (by omega) rfl L (.lst false (ps'.map Zn))
  have hP9:(Q.set 9 (.lst false (ps'.map Zn))).length=26:=by simp [hP5]
  have hN9:Zd (Q.set 9 (.lst false (ps'.map Zn)))=true:=ZP (Zcd _ _) 9 hN5
  generalize Q.set 9 (.lst false (ps'.map Zn))=S at *
  have d1:=Z7 _ hP9
  have d2:=Zaq _ hP9
  have d3:=fun L=>Zay _ hP9 6 7 (by omega) rfl L (.lst false (r3.map Zc))
  have hP6:(S.set 6 (.lst false (r3.map Zc))).length=26:=by simp [hP9]
  have hN6:Zd (S.set 6 (.lst false (r3.map Zc)))=true:=ZP (Zcd _ _) 6 hN9
  generalize S.set 6 (.lst false (r3.map Zc))=U at *
  have f1:=Z7 _ hP6
  have f3:=ZeO _ hP6
  have f4:=Zf5 _ hP6
  have hC:=fun σ sq own=>Znn σ sq own r3 (by omega)
  rw [Zh (by rfl) Zia]
  simp -implicitDefEqProofs only [EQA,ZC,Zu,Nat.reduceAdd,Nat.reduceLT,Nat.reduceLeDiff,Nat.reduceEqDiff,reduceCtorEq,↓reduceIte,Zd,ZhW,Zge,Zr8,oI,oN,a1,a3,b1,b4,c3,d1,d2,d3,f1,f3,f4,hq,hT,hG,hC]
  exact ZZ rfl (ZaC hN6 (by rfl))
theorem ZIJ (qos:Int) (h2:P[2]?=some (.int .i64 qos)) (l:Zb) (hl:l.length<=140737488355328) {c:Int} (h:Zcv qos l=.error c) :
  ∃ cs,Zd cs=true/\E 118 [.ref 0 0] [.var (P++[.lst false (l.map Zc)])]=some (.pan (Zy c),[.var cs]):=by
 have a1:=Z7 P hP
 have a2:=Zaq P hP
 unfold Zcv at h
 split at h
 ·rename_i c' ht
  injection h with h;subst h
  have hT:=fun σ sq hs=>ZgX P hP hN l hl σ 0 sq hs ht
  refine ⟨P++[.lst false (l.map Zc)],Zx P hP hN _ _,?_⟩
  rw [Zh (by rfl) Zia]
  simp -implicitDefEqProofs only [EQA,Nat.reduceLT,reduceCtorEq,↓reduceIte,ZhW,Zge,oI,oN,hT]
  exact ZZ rfl (Zx P hP hN _ _)
 rename_i tp' r1 ht
 have l1:=Zdr ht
 have hT:=fun σ sq hs=>Zd3 P hP hN l hl σ 0 sq hs ht
 have a3:=fun L=>Zay P hP 5 6 (by omega) rfl L (.str tp')
 have hP5:(P.set 5 (.str tp')).length=26:=by simp [hP]
 have hN5:Zd (P.set 5 (.str tp'))=true:=ZP rfl 5 hN
 have h25:(P.set 5 (.str tp'))[2]?=some (.int .i64 qos):=by rw [List.getElem?_set_ne (by omega)];exact h2
 generalize hQ:P.set 5 (.str tp')=Q at *
 have b1:=Z7 _ hP5
 have b2:=Zaq _ hP5
 have b4:=fun L=>(Zaa _ hP5 2 (by omega) L).trans h25
 split at h
 ·rename_i hq
  split at h
  ·rename_i c' hi
   injection h with h;subst h
   obtain ⟨cs,hn,he⟩:=Zj5 Q hP5 hN5 r1 (by omega) hi
   have hI:=fun (σ:Za) sq (hs:σ[0]?=some (.var (Q++[.lst false (r1.map Zc)])))=>ZcP (O:=E) (bf:=BY) (f:=119) (view:=true) (rest:=[]) (by kernel_rfl) rfl (Zx Q hP5 hN5 _ _) hn rfl he hs sq
   refine ⟨cs,hn,?_⟩
   rw [Zh (by rfl) Zia]
   simp -implicitDefEqProofs only [EQA,ZC,Nat.reduceAdd,Nat.reduceLT,Nat.reduceLeDiff,Nat.reduceEqDiff,reduceCtorEq,↓reduceIte,ZhW,Zge,oI,oN,a1,a3,b4,hq,hT,hI]
   exact ZZ rfl hn
  rename_i n' r2 hi
  have l2:=ZeE hi
  split at h
  ·rename_i c' hp
   injection h with h;subst h
   have hI:=fun σ sq hs=>ZfR Q hP5 hN5 r1 (by omega) σ 0 sq hs hi
   have hP4:(Q.set 4 (.int .i64 n')).length=26:=by simp [hP5]
   have hN4:Zd (Q.set 4 (.int .i64 n'))=true:=ZP rfl 4 hN5
   generalize Q.set 4 (.int .i64 n')=R at *
   have hG:=fun σ sq hs=>ZfH _ hP4 hN4 r2 (by omega) σ 0 sq hs hp
   refine ⟨R++[.lst false (r2.map Zc)],Zx R hP4 hN4 _ _,?_⟩
   rw [Zh (by rfl) Zia]
   simp -implicitDefEqProofs only [EQA,ZC,Nat.reduceAdd,Nat.reduceLT,Nat.reduceLeDiff,Nat.reduceEqDiff,reduceCtorEq,↓reduceIte,ZhW,Zge,oI,oN,a1,a3,b4,hq,hT,hI,hG]
   exact ZZ rfl (Zx R hP4 hN4 _ _)
  ·cases h
 ·rename_i hq
  split at h
  ·rename_i c' hp
   injection h with h;subst h
   have hG:=fun σ sq hs=>ZfH _ hP5 hN5 r1 (by omega) σ 0 sq hs hp
   refine ⟨Q++[.lst false (r1.map Zc)],Zx Q hP5 hN5 _ _,?_⟩
   rw [Zh (by rfl) Zia]
   simp -implicitDefEqProofs only [EQA,ZC,Nat.reduceAdd,Nat.reduceLT,Nat.reduceLeDiff,Nat.reduceEqDiff,reduceCtorEq,↓reduceIte,ZhW,Zge,oI,oN,a1,a3,b4,hq,hT,hG]
   exact ZZ rfl (Zx Q hP5 hN5 _ _)
  ·cases h
end
end
section
abbrev KSt:=List AVal×Zb
def Zg (P:List AVal) (l:Zb):Za:=[.var (P++[.lst false (l.map Zc)])]
def KRuns (c:Ze) (tm tm':Tms) (P:List AVal) (l:Zb):Except Int KSt->Prop
 | .ok (P',l')=>evC FC PR BY 1 c tm (Zg P l)=some (.normal,tm',Zg P' l')/\P'.length=26/\Zd P'=true/\l'.length<=l.length
 | .error e=>∃ tm2 cs,Zd cs=true/\evC FC PR BY 1 c tm (Zg P l)=some (.panic (Zy e),tm2,[.var cs])
theorem KRuns.seq {a b:Ze} {tm tm1 tm2:Tms} {P:List AVal} {l:Zb} {x:Except Int KSt} {f:KSt->Except Int KSt} (h:KRuns a tm tm1 P l x) (hb:∀ P' l',x=.ok (P',l')->P'.length=26->Zd P'=true->l'.length<=l.length->KRuns b tm1 tm2 P' l' (f (P',l'))):KRuns (.seq a b) tm tm2 P l (x.bind f):=by
 cases x with
 | error e =>
  obtain ⟨t,cs,h1,h2⟩:=h
  exact ⟨t,cs,h1,Zit (by simp) h2⟩
 | ok s =>
  obtain ⟨P',l'⟩:=s
  obtain ⟨h1,h2,h3,h4⟩:=h
  have hb:=hb P' l' rfl h2 h3 h4
  show KRuns (.seq a b) tm tm2 P l (f (P',l'))
  generalize f (P',l')=y at *
  cases y with
  | error e =>
   obtain ⟨t,cs,g1,g2⟩:=hb
   exact ⟨t,cs,g1,by rw [Zir h1];exact g2⟩
  | ok s =>
   obtain ⟨P2,l2⟩:=s
   obtain ⟨g1,g2,g3,g4⟩:=hb
   exact ⟨by rw [Zir h1];exact g1,g2,g3,by omega⟩
def KRun (c:Ze) (tm:Tms) (P:List AVal) (l:Zb) (x:Except Int KSt):Prop:=∃ tm',KRuns c tm tm' P l x
theorem KRun.seqT {a b:Ze} {tm tm1:Tms} {P P1:List AVal} {l l1:Zb} {x:Except Int KSt} (h:evC FC PR BY 1 a tm (Zg P l)=some (.normal,tm1,Zg P1 l1)) (hl:l1.length<=l.length) (hb:KRun b tm1 P1 l1 x):KRun (.seq a b) tm P l x:=by
 obtain ⟨tm',hb⟩:=hb
 refine ⟨tm',?_⟩
 cases x with
 | error e =>
  obtain ⟨t,cs,g1,g2⟩:=hb
  exact ⟨t,cs,g1,by rw [Zir h];exact g2⟩
 | ok s =>
  obtain ⟨P2,l2⟩:=s
  obtain ⟨g1,g2,g3,g4⟩:=hb
  exact ⟨by rw [Zir h];exact g1,g2,g3,by omega⟩
theorem KRun.seqF {a b:Ze} {tm tm2:Tms} {P cs:List AVal} {l:Zb} {e:Int} (hn:Zd cs=true) (h:evC FC PR BY 1 a tm (Zg P l)=some (.panic (Zy e),tm2,[.var cs])):KRun (.seq a b) tm P l (.error e) :=
 ⟨[],tm2,cs,hn,Zit (by simp) h⟩
theorem KRuns.fnT {f:Nat} {fn:ZE} (hp:PR f=none) (hf:FC f=some fn) (hr:fn.res=[]) {P P':List AVal} {l l':Zb} (h:KRun fn.body [(0,.ref 0 0)] P l (.ok (P',l'))):E f [.ref 0 0] (Zg P l)=some (.tup [],Zg P' l'):=by
 obtain ⟨_,h1,h2,h3,h4⟩:=h
 rw [Zh hp hf]
 show Zap 1 fn (evC FC PR BY 1 fn.body [(0,.ref 0 0)] (Zg P l))=_
 rw [h1]
 simp only [Zap,hr,resA,resAll]
 exact ZZ rfl (ZaC h3 (by rfl))
theorem KRuns.fnF {f:Nat} {fn:ZE} (hp:PR f=none) (hf:FC f=some fn) {P:List AVal} {l:Zb} {e:Int} (h:KRun fn.body [(0,.ref 0 0)] P l (.error e)):∃ cs,Zd cs=true/\E f [.ref 0 0] (Zg P l)=some (.pan (Zy e),[.var cs]):=by
 obtain ⟨_,t,cs,h1,h2⟩:=h
 refine ⟨cs,h1,?_⟩
 rw [Zh hp hf]
 show Zap 1 fn (evC FC PR BY 1 fn.body [(0,.ref 0 0)] (Zg P l))=_
 rw [h2]
 simp only [Zap]
 exact ZZ rfl h1
end
section
def cn1:Ze:=(.region [⟨(some 4),(.mov (.t 0)),none,[]⟩,⟨(some 5),(.nilchk (.t 4)),none,[]⟩,⟨(some 6),(.faddr 0 (.t 5)),none,[]⟩,⟨(some 2),(.mov (.t 6)),none,[]⟩] none [2,0])
def cn2:Ze:=(.region [⟨(some 7),(.mov (.t 0)),none,[]⟩,⟨(some 8),(.call 124 0 true [(.t 7)]),none,[]⟩,⟨(some 9),(.bin .eql (.t 8) (.c (.str [77,81,84,84]))),none,[]⟩,⟨(some 10),(.call 113 0 true [(.t 9),(.c (.int .i64 132))]),none,[]⟩] none [2,0])
def cn3:Ze:=(.region [⟨(some 11),(.mov (.t 0)),none,[]⟩,⟨(some 12),(.call 115 0 true [(.t 11),(.c (.int .i64 1))]),none,[]⟩,⟨(some 13),(.bin .eql (.t 12) (.c (.int .i64 5))),none,[]⟩,⟨(some 14),(.call 113 0 true [(.t 13),(.c (.int .i64 132))]),none,[]⟩] none [2,0])
def cn4:Ze:=(.region [⟨(some 15),(.mov (.t 0)),none,[]⟩,⟨(some 16),(.call 115 0 true [(.t 15),(.c (.int .i64 1))]),none,[]⟩,⟨(some 3),(.mov (.t 16)),none,[]⟩] none [3,2,0])
def cn5:Ze:=(.region [⟨(some 17),(.mov (.t 2)),none,[]⟩,⟨(some 18),(.mov (.t 2)),none,[]⟩,⟨(some 19),(.mov (.t 3)),none,[]⟩,⟨(some 20),(.bin .and (.t 19) (.c (.int .i64 2))),none,[]⟩,⟨(some 21),(.bin .neq (.t 20) (.c (.int .i64 0))),none,[]⟩,⟨(some 22),(.mov (.t 3)),none,[]⟩,⟨(some 23),(.bin .and (.t 22) (.c (.int .i64 4))),none,[]⟩,⟨(some 24),(.bin .neq (.t 23) (.c (.int .i64 0))),none,[]⟩,⟨(some 25),(.nilchk (.t 17)),none,[]⟩,⟨(some 26),(.faddr 12 (.t 25)),none,[]⟩,⟨none,(.st 1 (.t 26) (.t 21)),none,[]⟩,⟨(some 27),(.nilchk (.t 18)),none,[]⟩,⟨(some 28),(.faddr 15 (.t 27)),none,[]⟩,⟨none,(.st 1 (.t 28) (.t 24)),none,[]⟩] none [3,2,0])
def cn6:Ze:=(.region [⟨(some 29),(.mov (.t 2)),none,[]⟩,⟨(some 30),(.mov (.t 2)),none,[]⟩,⟨(some 31),(.mov (.t 3)),none,[]⟩,⟨(some 32),(.bin .and (.t 31) (.c (.int .i64 64))),none,[]⟩,⟨(some 33),(.bin .neq (.t 32) (.c (.int .i64 0))),none,[]⟩,⟨(some 34),(.mov (.t 3)),none,[]⟩,⟨(some 35),(.bin .and (.t 34) (.c (.int .i64 128))),none,[]⟩,⟨(some 36),(.bin .neq (.t 35) (.c (.int .i64 0))),none,[]⟩,⟨(some 37),(.nilchk (.t 29)),none,[]⟩,⟨(some 38),(.faddr 23 (.t 37)),none,[]⟩,⟨none,(.st 1 (.t 38) (.t 33)),none,[]⟩,⟨(some 39),(.nilchk (.t 30)),none,[]⟩,⟨(some 40),(.faddr 21 (.t 39)),none,[]⟩,⟨none,(.st 1 (.t 40) (.t 36)),none,[]⟩] none [3,2,0])
def cn7:Ze:=(.region [⟨(some 41),(.mov (.t 2)),none,[]⟩,⟨(some 42),(.mov (.t 2)),none,[]⟩,⟨(some 43),(.mov (.t 3)),none,[]⟩,⟨(some 44),(.bin .quo (.t 43) (.c (.int .i64 8))),none,[]⟩,⟨(some 45),(.bin .and (.t 44) (.c (.int .i64 3))),none,[]⟩,⟨(some 46),(.mov (.t 3)),none,[]⟩,⟨(some 47),(.bin .and (.t 46) (.c (.int .i64 32))),none,[]⟩,⟨(some 48),(.bin .neq (.t 47) (.c (.int .i64 0))),none,[]⟩,⟨(some 49),(.nilchk (.t 41)),none,[]⟩,⟨(some 50),(.faddr 16 (.t 49)),none,[]⟩,⟨(some 51),(.faddr 2 (.t 50)),none,[]⟩,⟨none,(.st 1 (.t 51) (.t 45)),none,[]⟩,⟨(some 52),(.nilchk (.t 42)),none,[]⟩,⟨(some 53),(.faddr 16 (.t 52)),none,[]⟩,⟨(some 54),(.faddr 3 (.t 53)),none,[]⟩,⟨none,(.st 1 (.t 54) (.t 48)),none,[]⟩] none [3,2,0])
def cn8:Ze:=(.region [⟨(some 55),(.mov (.t 3)),none,[]⟩,⟨(some 56),(.bin .and (.t 55) (.c (.int .i64 1))),none,[]⟩,⟨(some 57),(.bin .eql (.t 56) (.c (.int .i64 0))),none,[]⟩,⟨(some 58),(.mov (.t 57)),none,[]⟩,⟨(some 59),(.mov (.t 2)),(some (58,true)),[]⟩,⟨(some 60),(.nilchk (.t 59)),(some (58,true)),[]⟩,⟨(some 61),(.faddr 16 (.t 60)),(some (58,true)),[]⟩,⟨(some 62),(.faddr 2 (.t 61)),(some (58,true)),[]⟩,⟨(some 63),(.ld none (.t 62)),(some (58,true)),[]⟩,⟨(some 64),(.bin .lss (.t 63) (.c (.int .i64 3))),(some (58,true)),[]⟩,⟨(some 65),(.pick (.t 58) (.t 64) (.c (.bool false))),none,[]⟩,⟨(some 66),(.mov (.t 65)),none,[]⟩,⟨(some 67),(.mov (.t 2)),(some (66,true)),[]⟩,⟨(some 68),(.nilchk (.t 67)),(some (66,true)),[]⟩,⟨(some 69),(.faddr 15 (.t 68)),(some (66,true)),[]⟩,⟨(some 70),(.ld none (.t 69)),(some (66,true)),[]⟩,⟨(some 71),(.mov (.t 70)),(some (66,true)),[]⟩,⟨(some 72),(.mov (.t 2)),(some (71,false)),[]⟩,⟨(some 73),(.nilchk (.t 72)),(some (71,false)),[]⟩,⟨(some 74),(.faddr 16 (.t 73)),(some (71,false)),[]⟩,⟨(some 75),(.faddr 2 (.t 74)),(some (71,false)),[]⟩,⟨(some 76),(.ld none (.t 75)),(some (71,false)),[]⟩,⟨(some 77),(.bin .eql (.t 76) (.c (.int .i64 0))),(some (71,false)),[]⟩,⟨(some 78),(.mov (.t 77)),(some (71,false)),[]⟩,⟨(some 79),(.mov (.t 2)),(some (78,true)),[]⟩,⟨(some 80),(.nilchk (.t 79)),(some (78,true)),[]⟩,⟨(some 81),(.faddr 16 (.t 80)),(some (78,true)),[]⟩,⟨(some 82),(.faddr 3 (.t 81)),(some (78,true)),[]⟩,⟨(some 83),(.ld none (.t 82)),(some (78,true)),[]⟩,⟨(some 84),(.un .not (.t 83)),(some (78,true)),[]⟩,⟨(some 85),(.pick (.t 78) (.t 84) (.c (.bool false))),(some (71,false)),[]⟩,⟨(some 86),(.pick (.t 71) (.c (.bool true)) (.t 85)),(some (66,true)),[]⟩,⟨(some 87),(.pick (.t 66) (.t 86) (.c (.bool false))),none,[]⟩,⟨(some 88),(.call 113 0 true [(.t 87),(.c (.int .i64 129))]),none,[]⟩] none [2,0])
def cn9:Ze:=(.region [⟨(some 89),(.mov (.t 2)),none,[]⟩,⟨(some 90),(.mov (.t 0)),none,[]⟩,⟨(some 91),(.call 115 0 true [(.t 90),(.c (.int .i64 2))]),none,[]⟩,⟨(some 92),(.nilchk (.t 89)),none,[]⟩,⟨(some 93),(.faddr 13 (.t 92)),none,[]⟩,⟨none,(.st 1 (.t 93) (.t 91)),none,[]⟩] none [2,0])
def Zhc:Ze:=(.region [⟨(some 94),(.mov (.t 2)),none,[]⟩,⟨(some 95),(.mov (.t 0)),none,[]⟩,⟨(some 96),(.call 117 0 true [(.t 95),(.c (.int .i64 1))]),none,[]⟩,⟨(some 97),(.nilchk (.t 94)),none,[]⟩,⟨(some 98),(.faddr 9 (.t 97)),none,[]⟩,⟨none,(.st 1 (.t 98) (.t 96)),none,[]⟩] none [2,0])
def Zh3:Ze:=(.region [⟨(some 99),(.mov (.t 2)),none,[]⟩,⟨(some 100),(.mov (.t 0)),none,[]⟩,⟨(some 101),(.call 124 0 true [(.t 100)]),none,[]⟩,⟨(some 102),(.nilchk (.t 99)),none,[]⟩,⟨(some 103),(.faddr 14 (.t 102)),none,[]⟩,⟨none,(.st 1 (.t 103) (.t 101)),none,[]⟩] none [2,0])
def Zeq:Ze:=(.seq (.region [⟨(some 104),(.mov (.t 2)),none,[]⟩,⟨(some 105),(.nilchk (.t 104)),none,[]⟩,⟨(some 106),(.faddr 15 (.t 105)),none,[]⟩,⟨(some 107),(.ld none (.t 106)),none,[]⟩] none [107,2,0]) (.cond (.t 107) (.seq (.region [⟨(some 108),(.mov (.t 2)),none,[]⟩,⟨(some 109),(.mov (.t 0)),none,[]⟩,⟨(some 110),(.call 117 0 true [(.t 109),(.c (.int .i64 16))]),none,[]⟩,⟨(some 111),(.nilchk (.t 108)),none,[]⟩,⟨(some 112),(.faddr 16 (.t 111)),none,[]⟩,⟨(some 113),(.faddr 4 (.t 112)),none,[]⟩,⟨none,(.st 1 (.t 113) (.t 110)),none,[]⟩] none [2,0]) (.seq (.region [⟨(some 114),(.mov (.t 2)),none,[]⟩,⟨(some 115),(.mov (.t 0)),none,[]⟩,⟨(some 116),(.call 124 0 true [(.t 115)]),none,[]⟩,⟨(some 117),(.nilchk (.t 114)),none,[]⟩,⟨(some 118),(.faddr 16 (.t 117)),none,[]⟩,⟨(some 119),(.faddr 0 (.t 118)),none,[]⟩,⟨none,(.st 1 (.t 119) (.t 116)),none,[]⟩] none [2,0]) (.region [⟨(some 120),(.mov (.t 2)),none,[]⟩,⟨(some 121),(.mov (.t 0)),none,[]⟩,⟨(some 122),(.call 148 0 true [(.t 121)]),none,[]⟩,⟨(some 123),(.nilchk (.t 120)),none,[]⟩,⟨(some 124),(.faddr 16 (.t 123)),none,[]⟩,⟨(some 125),(.faddr 1 (.t 124)),none,[]⟩,⟨none,(.st 1 (.t 125) (.t 122)),none,[]⟩] none [2,0]))) .skip))
def Ze7:Ze:=(.seq (.region [⟨(some 126),(.mov (.t 2)),none,[]⟩,⟨(some 127),(.nilchk (.t 126)),none,[]⟩,⟨(some 128),(.faddr 21 (.t 127)),none,[]⟩,⟨(some 129),(.ld none (.t 128)),none,[]⟩] none [129,2,0]) (.cond (.t 129) (.region [⟨(some 130),(.mov (.t 2)),none,[]⟩,⟨(some 131),(.mov (.t 0)),none,[]⟩,⟨(some 132),(.call 124 0 true [(.t 131)]),none,[]⟩,⟨(some 133),(.nilchk (.t 130)),none,[]⟩,⟨(some 134),(.faddr 22 (.t 133)),none,[]⟩,⟨none,(.st 1 (.t 134) (.t 132)),none,[]⟩] none [2,0]) .skip))
def Zg0:Ze:=(.region [⟨(some 135),(.mov (.t 2)),none,[]⟩,⟨(some 136),(.nilchk (.t 135)),none,[]⟩,⟨(some 137),(.faddr 23 (.t 136)),none,[]⟩,⟨(some 138),(.ld none (.t 137)),none,[]⟩] none [138,2,0])
def Zec:Ze:=(.cond (.t 138) (.region [⟨(some 139),(.mov (.t 2)),none,[]⟩,⟨(some 140),(.mov (.t 0)),none,[]⟩,⟨(some 141),(.call 148 0 true [(.t 140)]),none,[]⟩,⟨(some 142),(.nilchk (.t 139)),none,[]⟩,⟨(some 143),(.faddr 24 (.t 142)),none,[]⟩,⟨none,(.st 1 (.t 143) (.t 141)),none,[]⟩] none []) .skip)
theorem Zyk:Zqp=(.seq cn1 (.seq cn2 (.seq cn3 (.seq cn4 (.seq cn5 (.seq cn6 (.seq cn7 (.seq cn8 (.seq cn9 (.seq Zhc (.seq Zh3 (.seq Zeq (.seq Ze7 (.seq Zg0 Zec)))))))))))))):=rfl
def t20:Tms:=[(2,.ref 0 0),(0,.ref 0 0)]
def ZcZ (m:Int):Tms:=[(3,.int .i64 m),(2,.ref 0 0),(0,.ref 0 0)]
def Zk (a b:Int):Int:=IntKind.i64.wrap (BitVec.ofInt IntKind.i64.bits a &&& BitVec.ofInt IntKind.i64.bits b).toNat
def ZcN (m:Int):Int:=IntKind.i64.wrap (m.tdiv 8)
section
variable (P:List AVal) (hP:P.length=26) (hN:Zd P=true) (l:Zb) (hl:l.length<=140737488355328)
include hP hN hl
theorem Zz4:evC FC PR BY 1 cn1 [(0,.ref 0 0)] (Zg P l)=some (.normal,t20,Zg P l):=by
 unfold Zg t20
 simp -implicitDefEqProofs only [EQA,Nat.reduceLT,Nat.reduceEqDiff,reduceCtorEq,↓reduceIte,cn1]
theorem ZAC {r:Zb} (h:Zal l=.ok ([77,81,84,84],r)):evC FC PR BY 1 cn2 t20 (Zg P l)=some (.normal,t20,Zg P r):=by
 have hT:=fun σ sq hs=>Zd3 P hP hN l hl σ 0 sq hs h
 have m1:=Zbe
 have e1:(([77,81,84,84]:List UInt8) == [77,81,84,84])=true:=by decide
 unfold Zg t20
 simp -implicitDefEqProofs only [EQA,Nat.reduceLT,Nat.reduceEqDiff,ZdD,reduceCtorEq,↓reduceIte,cn2,hT,m1]
theorem ZyC {a r:Zb} (h:Zal l=.ok (a,r)) (hn:(a == [77,81,84,84])=false):evC FC PR BY 1 cn2 t20 (Zg P l)=some (.panic (Zy 132),[],Zg P r):=by
 have hT:=fun σ sq hs=>Zd3 P hP hN l hl σ 0 sq hs h
 have m1:=ZbD
 unfold Zg t20
 simp -implicitDefEqProofs only [EQA,Nat.reduceLT,ZdD,reduceCtorEq,↓reduceIte,cn2,hT,m1,hn]
theorem ZEY {c:Int} (h:Zal l=.error c):evC FC PR BY 1 cn2 t20 (Zg P l)=some (.panic (Zy c),[],Zg P l):=by
 have hT:=fun σ sq hs=>ZgX P hP hN l hl σ 0 sq hs h
 unfold Zg t20
 simp -implicitDefEqProofs only [EQA,Nat.reduceLT,reduceCtorEq,↓reduceIte,cn2,hT]
theorem ZIg {r:Zb} (h:Zar 1 l=.ok (5,r)):evC FC PR BY 1 cn3 t20 (Zg P l)=some (.normal,t20,Zg P r):=by
 have hT:=fun σ sq hs=>ZcX P hP hN l hl σ 0 sq hs (m:=1) rfl h
 have m1:=Zbe
 have e1:((5:Int) == 5)=true:=by decide
 unfold Zg t20
 simp -implicitDefEqProofs only [EQA,Nat.reduceLT,Nat.reduceEqDiff,reduceCtorEq,↓reduceIte,cn3,hT,m1]
theorem ZC4 {a:Int} {r:Zb} (h:Zar 1 l=.ok (a,r)) (hn:(a == 5)=false):evC FC PR BY 1 cn3 t20 (Zg P l)=some (.panic (Zy 132),[],Zg P r):=by
 have hT:=fun σ sq hs=>ZcX P hP hN l hl σ 0 sq hs (m:=1) rfl h
 have m1:=ZbD
 unfold Zg t20
 simp -implicitDefEqProofs only [EQA,Nat.reduceLT,reduceCtorEq,↓reduceIte,cn3,hT,m1,hn]
theorem ZBi {c:Int} (h:Zar 1 l=.error c):evC FC PR BY 1 cn3 t20 (Zg P l)=some (.panic (Zy c),[],Zg P l):=by
 have hT:=fun σ sq hs=>Zf9 P hP hN l hl σ 0 sq hs (m:=1) rfl (by decide) h
 unfold Zg t20
 simp -implicitDefEqProofs only [EQA,Nat.reduceLT,reduceCtorEq,↓reduceIte,cn3,hT]
theorem ZLB {m:Int} {r:Zb} (h:Zar 1 l=.ok (m,r)):evC FC PR BY 1 cn4 t20 (Zg P l)=some (.normal,ZcZ m,Zg P r):=by
 have hT:=fun σ sq hs=>ZcX P hP hN l hl σ 0 sq hs (m:=1) rfl h
 unfold Zg t20 ZcZ
 simp -implicitDefEqProofs only [EQA,Nat.reduceLT,Nat.reduceEqDiff,reduceCtorEq,↓reduceIte,cn4,hT]
theorem ZAZ {c:Int} (h:Zar 1 l=.error c):evC FC PR BY 1 cn4 t20 (Zg P l)=some (.panic (Zy c),[],Zg P l):=by
 have hT:=fun σ sq hs=>Zf9 P hP hN l hl σ 0 sq hs (m:=1) rfl (by decide) h
 unfold Zg t20
 simp -implicitDefEqProofs only [EQA,Nat.reduceLT,reduceCtorEq,↓reduceIte,cn4,hT]
theorem ZOd (m:Int):evC FC PR BY 1 cn5 (ZcZ m) (Zg P l)=some (.normal,ZcZ m,Zg ((P.set 12 (.bool (Zk m 2 != 0))).set 15 (.bool (Zk m 4 != 0))) l):=by
 have a1:=Z7 P hP
 have a3:=fun L=>Zay P hP 12 13 (by omega) rfl L (.bool (Zk m 2 != 0))
 have hP1:(P.set 12 (.bool (Zk m 2 != 0))).length=26:=by simp [hP]
 have b1:=Z7 _ hP1
 have b3:=fun L=>Zay _ hP1 15 16 (by omega) rfl L (.bool (Zk m 4 != 0))
 unfold Zg ZcZ
 unfold Zk at *
 simp -implicitDefEqProofs only [EQA,ZC,Nat.reduceAdd,Nat.reduceLT,Nat.reduceLeDiff,Nat.reduceEqDiff,reduceCtorEq,↓reduceIte,cn5,a1,a3,b1,b3]
theorem ZON (m:Int):evC FC PR BY 1 cn6 (ZcZ m) (Zg P l)=some (.normal,ZcZ m,Zg ((P.set 23 (.bool (Zk m 64 != 0))).set 21 (.bool (Zk m 128 != 0))) l):=by
 have a1:=Z7 P hP
 have a3:=fun L=>Zay P hP 23 24 (by omega) rfl L (.bool (Zk m 64 != 0))
 have hP1:(P.set 23 (.bool (Zk m 64 != 0))).length=26:=by simp [hP]
 have b1:=Z7 _ hP1
 have b3:=fun L=>Zay _ hP1 21 22 (by omega) rfl L (.bool (Zk m 128 != 0))
 unfold Zg ZcZ
 unfold Zk at *
 simp -implicitDefEqProofs only [EQA,ZC,Nat.reduceAdd,Nat.reduceLT,Nat.reduceLeDiff,Nat.reduceEqDiff,reduceCtorEq,↓reduceIte,cn6,a1,a3,b1,b3]
theorem ZLl (m:Int):evC FC PR BY 1 cn7 (ZcZ m) (Zg P l)=some (.normal,ZcZ m,Zg ((P.set 18 (.int .i64 (Zk (ZcN m) 3))).set 19 (.bool (Zk m 32 != 0))) l):=by
 have a1:=Z7 P hP
 have a3:=fun L=>Zay P hP 18 19 (by omega) rfl L (.int .i64 (Zk (ZcN m) 3))
 have hP1:(P.set 18 (.int .i64 (Zk (ZcN m) 3))).length=26:=by simp [hP]
 have b1:=Z7 _ hP1
 have b3:=fun L=>Zay _ hP1 19 20 (by omega) rfl L (.bool (Zk m 32 != 0))
 have z:¬(8:Int)=0:=by decide
 unfold Zg ZcZ
 unfold Zk ZcN at *
 simp -implicitDefEqProofs only [EQA,ZC,Nat.reduceAdd,Nat.reduceLT,Nat.reduceLeDiff,Nat.reduceEqDiff,reduceCtorEq,↓reduceIte,cn7,a1,a3,b1,b3,z]
theorem ZPd {n:Int} {r:Zb} (h:Zar 2 l=.ok (n,r)):evC FC PR BY 1 cn9 t20 (Zg P l)=some (.normal,t20,Zg (P.set 13 (.int .i64 n)) r):=by
 have hT:=fun σ sq hs=>ZcX P hP hN l hl σ 0 sq hs (m:=2) rfl h
 have a1:=Z7 P hP
 have a3:=Zay P hP 13 14 (by omega) rfl
 unfold Zg t20
 simp -implicitDefEqProofs only [EQA,ZC,Nat.reduceAdd,Nat.reduceLT,Nat.reduceLeDiff,Nat.reduceEqDiff,reduceCtorEq,↓reduceIte,cn9,hT,a1,a3]
theorem ZxX {c:Int} (h:Zar 2 l=.error c):evC FC PR BY 1 cn9 t20 (Zg P l)=some (.panic (Zy c),[],Zg P l):=by
 have hT:=fun σ sq hs=>Zf9 P hP hN l hl σ 0 sq hs (m:=2) rfl (by decide) h
 unfold Zg t20
 simp -implicitDefEqProofs only [EQA,Nat.reduceLT,reduceCtorEq,↓reduceIte,cn9,hT]
theorem ZMe (hu:(Z3 1 l).2.1<=l.length) {a:List Zp} {r:Zb} (h:Zbw 1 l=.ok (a,r)):evC FC PR BY 1 Zhc t20 (Zg P l)=some (.normal,t20,Zg (P.set 9 (.lst false (a.map Zn))) r):=by
 have hT:=fun σ sq hs=>Zef P hP hN l hl σ 0 sq hs hu h
 have a1:=Z7 P hP
 have a3:=Zay P hP 9 10 (by omega) rfl
 unfold Zg t20
 simp -implicitDefEqProofs only [EQA,ZC,Nat.reduceAdd,Nat.reduceLT,Nat.reduceLeDiff,Nat.reduceEqDiff,reduceCtorEq,↓reduceIte,Zhc,hT,a1,a3]
theorem ZyV {c:Int} (h:Zbw 1 l=.error c):evC FC PR BY 1 Zhc t20 (Zg P l)=some (.panic (Zy c),[],Zg P l):=by
 have hT:=fun σ sq hs=>ZfH P hP hN l hl σ 0 sq hs h
 unfold Zg t20
 simp -implicitDefEqProofs only [EQA,Nat.reduceLT,reduceCtorEq,↓reduceIte,Zhc,hT]
theorem ZFE {a r:Zb} (h:Zal l=.ok (a,r)):evC FC PR BY 1 Zh3 t20 (Zg P l)=some (.normal,t20,Zg (P.set 14 (.str a)) r):=by
 have hT:=fun σ sq hs=>Zd3 P hP hN l hl σ 0 sq hs h
 have a1:=Z7 P hP
 have a3:=Zay P hP 14 15 (by omega) rfl
 unfold Zg t20
 simp -implicitDefEqProofs only [EQA,ZC,Nat.reduceAdd,Nat.reduceLT,Nat.reduceLeDiff,Nat.reduceEqDiff,reduceCtorEq,↓reduceIte,Zh3,hT,a1,a3]
theorem ZBw {c:Int} (h:Zal l=.error c):evC FC PR BY 1 Zh3 t20 (Zg P l)=some (.panic (Zy c),[],Zg P l):=by
 have hT:=fun σ sq hs=>ZgX P hP hN l hl σ 0 sq hs h
 unfold Zg t20
 simp -implicitDefEqProofs only [EQA,Nat.reduceLT,reduceCtorEq,↓reduceIte,Zh3,hT]
end
def Zgk (m q:Int) (hw rt:Bool):Bool:=(Zk m 1 == 0) && decide (q < 3) && (hw || ((q == 0) && !rt))
section
variable (P:List AVal) (hP:P.length=26) (hN:Zd P=true) (l:Zb) (hl:l.length<=140737488355328)
variable (m q:Int) (hw rt:Bool) (h15:P[15]?=some (.bool hw)) (h18:P[18]?=some (.int .i64 q)) (h19:P[19]?=some (.bool rt))
include hP hN hl h15 h18 h19
theorem ZO7 (h:Zgk m q hw rt=true):evC FC PR BY 1 cn8 (ZcZ m) (Zg P l)=some (.normal,t20,Zg P l):=by
 have a4:=fun L=>(Zaa P hP 15 (by omega) L).trans h15
 have a5:=fun L=>(Zaa P hP 18 (by omega) L).trans h18
 have a6:=fun L=>(Zaa P hP 19 (by omega) L).trans h19
 have m1:=Zbe
 unfold Zgk Zk at h
 simp only [Bool.and_eq_true,decide_eq_true_eq,Bool.or_eq_true] at h
 obtain ⟨⟨e1,e2⟩,e3⟩:=h
 unfold Zg ZcZ t20
 cases hw
 ·simp only [Bool.false_eq_true,false_or] at e3
  obtain ⟨e3,e4⟩:=e3
  cases rt
  ·simp -implicitDefEqProofs only [EQA,Nat.reduceAdd,Nat.reduceLT,Nat.reduceEqDiff,unA,ZF,unG,reduceCtorEq,↓reduceIte,cn8,a4,a5,a6,m1,e1,e2,e3]
  ·cases e4
 ·simp -implicitDefEqProofs only [EQA,Nat.reduceAdd,Nat.reduceLT,Nat.reduceEqDiff,ZF,Zav,unG,reduceCtorEq,↓reduceIte,cn8,a4,a5,m1,e1,e2]
theorem ZyN (h:Zgk m q hw rt=false):evC FC PR BY 1 cn8 (ZcZ m) (Zg P l)=some (.panic (Zy 129),[],Zg P l):=by
 have a4:=fun L=>(Zaa P hP 15 (by omega) L).trans h15
 have a5:=fun L=>(Zaa P hP 18 (by omega) L).trans h18
 have a6:=fun L=>(Zaa P hP 19 (by omega) L).trans h19
 have m1:=ZbD
 unfold Zgk Zk at h
 unfold Zg ZcZ
 by_cases e1:(IntKind.i64.wrap (BitVec.ofInt IntKind.i64.bits m &&& BitVec.ofInt IntKind.i64.bits 1).toNat == 0)=true
 ·rw [e1] at h
  by_cases e2:q < 3
  ·cases hw
   ·by_cases e3:(q == 0)=true
    ·cases rt
     ·simp [e2,e3] at h
     ·simp -implicitDefEqProofs only [EQA,Nat.reduceAdd,Nat.reduceLT,Nat.reduceEqDiff,unA,ZF,unG,reduceCtorEq,↓reduceIte,cn8,a4,a5,a6,m1,e1,e2,e3]
    ·have e3:=Bool.not_eq_true _ |>.mp e3
     simp -implicitDefEqProofs only [EQA,Nat.reduceAdd,Nat.reduceLT,Nat.reduceEqDiff,ZF,Zav,unG,reduceCtorEq,↓reduceIte,cn8,a4,a5,m1,e1,e2,e3]
   ·simp [e2] at h
  ·simp -implicitDefEqProofs only [EQA,Nat.reduceAdd,Nat.reduceLT,Nat.reduceEqDiff,ZF,Zav,unG,reduceCtorEq,↓reduceIte,cn8,a5,m1,e1,e2]
 ·have e1:=Bool.not_eq_true _ |>.mp e1
  simp -implicitDefEqProofs only [EQA,Nat.reduceLT,Nat.reduceEqDiff,ZF,Zav,reduceCtorEq,↓reduceIte,cn8,m1,e1]
end
def ZdC (n:Nat):Tms:=[(n,.bool false),(2,.ref 0 0),(0,.ref 0 0)]
def Zh1 (P:List AVal) (ps:List Zp) (tp d:Zb):List AVal:=((P.set 20 (.lst false (ps.map Zn))).set 16 (.str tp)).set 17 (.lst false (d.map Zc))
def ZcS (l:Zb):Except Int (List Zp×Zb×Zb×Zb):=match Zbw 16 l with
 | .error c=>.error c
 | .ok (ps,r1)=>match Zal r1 with
  | .error c=>.error c
  | .ok (tp,r2)=>match Zcu r2 with
   | .error c=>.error c
   | .ok (d,r3)=>.ok (ps,tp,d,r3)
section
variable (P:List AVal) (hP:P.length=26) (hN:Zd P=true) (l:Zb) (hl:l.length<=140737488355328)
include hP hN hl
theorem ZM1 (h15:P[15]?=some (.bool false)):evC FC PR BY 1 Zeq t20 (Zg P l)=some (.normal,ZdC 107,Zg P l):=by
 have a4:=fun L=>(Zaa P hP 15 (by omega) L).trans h15
 unfold Zg t20 ZdC
 simp -implicitDefEqProofs only [EQA,Nat.reduceLT,Nat.reduceEqDiff,reduceCtorEq,↓reduceIte,Zeq,a4]
theorem Zz8 (h15:P[15]?=some (.bool true)) (hu:(Z3 16 l).2.1<=l.length) {ps:List Zp} {tp d r:Zb} (h:ZcS l=.ok (ps,tp,d,r)):evC FC PR BY 1 Zeq t20 (Zg P l)=some (.normal,t20,Zg (Zh1 P ps tp d) r):=by
 have a1:=Z7 P hP
 have a4:=fun L=>(Zaa P hP 15 (by omega) L).trans h15
 unfold ZcS at h
 split at h
 ·cases h
 rename_i ps' r1 hp
 split at h
 ·cases h
 rename_i tp' r2 ht
 split at h
 ·cases h
 rename_i d' r3 hd
 have l1:=Zfp hp
 have l2:=Zdr ht
 injection h with h;injection h with e1 h;injection h with e2 h;injection h with e3 e4;subst e1 e2 e3 e4
 have hG:=fun σ sq hs=>Zef P hP hN l hl σ 0 sq hs hu hp
 have a3:=fun L=>Zay P hP 20 21 (by omega) rfl L (.lst false (ps'.map Zn))
 unfold Zh1
 have hP1:(P.set 20 (.lst false (ps'.map Zn))).length=26:=by simp [hP]
 have hN1:Zd (P.set 20 (.lst false (ps'.map Zn)))=true:=ZP (Zcd _ _) 20 hN
 generalize P.set 20 (.lst false (ps'.map Zn))=Q at *
 have hT:=fun σ sq hs=>Zd3 Q hP1 hN1 r1 (by omega) σ 0 sq hs ht
 have b1:=Z7 _ hP1
 have b3:=fun L=>Zay _ hP1 16 17 (by omega) rfl L (.str tp')
 have hP2:(Q.set 16 (.str tp')).length=26:=by simp [hP1]
 have hN2:Zd (Q.set 16 (.str tp'))=true:=ZP rfl 16 hN1
 generalize Q.set 16 (.str tp')=R at *
 have hD:=fun σ sq hs=>Ztk R hP2 hN2 r2 (by omega) σ 0 sq hs hd
 have c1:=Z7 _ hP2
 have c3:=Zay _ hP2 17 18 (by omega) rfl
 unfold Zg t20
 simp -implicitDefEqProofs only [EQA,ZC,Nat.reduceAdd,Nat.reduceLT,Nat.reduceLeDiff,Nat.reduceEqDiff,reduceCtorEq,↓reduceIte,Zeq,a1,a3,a4,b1,b3,c1,c3,hG,hT,hD]
theorem ZFg (h15:P[15]?=some (.bool true)) (hu:(Z3 16 l).2.1<=l.length) {c:Int} (h:ZcS l=.error c):∃ cs,Zd cs=true/\evC FC PR BY 1 Zeq t20 (Zg P l)=some (.panic (Zy c),[],[.var cs]):=by
 have a1:=Z7 P hP
 have a4:=fun L=>(Zaa P hP 15 (by omega) L).trans h15
 unfold ZcS at h
 split at h
 ·rename_i c' hp
  injection h with h;subst h
  have hG:=fun σ sq hs=>ZfH P hP hN l hl σ 0 sq hs hp
  refine ⟨P++[.lst false (l.map Zc)],Zx P hP hN _ _,?_⟩
  unfold Zg t20
  simp -implicitDefEqProofs only [EQA,Nat.reduceLT,Nat.reduceEqDiff,reduceCtorEq,↓reduceIte,Zeq,a4,hG]
 rename_i ps' r1 hp
 have l1:=Zfp hp
 have hG:=fun σ sq hs=>Zef P hP hN l hl σ 0 sq hs hu hp
 have a3:=fun L=>Zay P hP 20 21 (by omega) rfl L (.lst false (ps'.map Zn))
 have hP1:(P.set 20 (.lst false (ps'.map Zn))).length=26:=by simp [hP]
 have hN1:Zd (P.set 20 (.lst false (ps'.map Zn)))=true:=ZP (Zcd _ _) 20 hN
 generalize P.set 20 (.lst false (ps'.map Zn))=Q at *
 have b1:=Z7 _ hP1
 split at h
 ·rename_i c' ht
  injection h with h;subst h
  have hT:=fun σ sq hs=>ZgX Q hP1 hN1 r1 (by omega) σ 0 sq hs ht
  refine ⟨Q++[.lst false (r1.map Zc)],Zx Q hP1 hN1 _ _,?_⟩
  unfold Zg t20
  simp -implicitDefEqProofs only [EQA,ZC,Nat.reduceAdd,Nat.reduceLT,Nat.reduceLeDiff,Nat.reduceEqDiff,reduceCtorEq,↓reduceIte,Zeq,a1,a3,a4,hG,hT]
 rename_i tp' r2 ht
 have l2:=Zdr ht
 have hT:=fun σ sq hs=>Zd3 Q hP1 hN1 r1 (by omega) σ 0 sq hs ht
 have b3:=fun L=>Zay _ hP1 16 17 (by omega) rfl L (.str tp')
 have hP2:(Q.set 16 (.str tp')).length=26:=by simp [hP1]
 have hN2:Zd (Q.set 16 (.str tp'))=true:=ZP rfl 16 hN1
 generalize Q.set 16 (.str tp')=R at *
 split at h
 ·rename_i c' hd
  injection h with h;subst h
  have hD:=fun σ sq hs=>ZvZ R hP2 hN2 r2 (by omega) σ 0 sq hs hd
  refine ⟨R++[.lst false (r2.map Zc)],Zx R hP2 hN2 _ _,?_⟩
  unfold Zg t20
  simp -implicitDefEqProofs only [EQA,ZC,Nat.reduceAdd,Nat.reduceLT,Nat.reduceLeDiff,Nat.reduceEqDiff,reduceCtorEq,↓reduceIte,Zeq,a1,a3,a4,b1,b3,hG,hT,hD]
 ·cases h
theorem ZAl {tm:Tms} (ht:tm=t20\/tm=ZdC 107) (h21:P[21]?=some (.bool false)):evC FC PR BY 1 Ze7 tm (Zg P l)=some (.normal,ZdC 129,Zg P l):=by
 have a4:=fun L=>(Zaa P hP 21 (by omega) L).trans h21
 rcases ht with rfl | rfl <;> unfold Zg ZdC <;> try unfold t20
 all_goals simp -implicitDefEqProofs only [EQA,Nat.reduceLT,Nat.reduceEqDiff,reduceCtorEq,↓reduceIte,Ze7,a4]
theorem Zw5 {tm:Tms} (htm:tm=t20\/tm=ZdC 107) (h21:P[21]?=some (.bool true)) {a r:Zb} (h:Zal l=.ok (a,r)):evC FC PR BY 1 Ze7 tm (Zg P l)=some (.normal,t20,Zg (P.set 22 (.str a)) r):=by
 have a1:=Z7 P hP
 have a4:=fun L=>(Zaa P hP 21 (by omega) L).trans h21
 have hT:=fun σ sq hs=>Zd3 P hP hN l hl σ 0 sq hs h
 have a3:=Zay P hP 22 23 (by omega) rfl
 rcases htm with rfl | rfl <;> unfold Zg t20 <;> try unfold ZdC
 all_goals simp -implicitDefEqProofs only [EQA,ZC,Nat.reduceAdd,Nat.reduceLT,Nat.reduceLeDiff,Nat.reduceEqDiff,reduceCtorEq,↓reduceIte,Ze7,a1,a3,a4,hT]
theorem ZKG {tm:Tms} (htm:tm=t20\/tm=ZdC 107) (h21:P[21]?=some (.bool true)) {c:Int} (h:Zal l=.error c):evC FC PR BY 1 Ze7 tm (Zg P l)=some (.panic (Zy c),[],Zg P l):=by
 have a4:=fun L=>(Zaa P hP 21 (by omega) L).trans h21
 have hT:=fun σ sq hs=>ZgX P hP hN l hl σ 0 sq hs h
 rcases htm with rfl | rfl <;> unfold Zg <;> first | unfold ZdC | unfold t20
 all_goals simp -implicitDefEqProofs only [EQA,Nat.reduceLT,Nat.reduceEqDiff,reduceCtorEq,↓reduceIte,Ze7,a4,hT]
theorem ZB5 {tm:Tms} {b:Bool} (htm:tm=t20\/tm=ZdC 129) (h23:P[23]?=some (.bool b)):evC FC PR BY 1 Zg0 tm (Zg P l)=some (.normal,[(138,.bool b),(2,.ref 0 0),(0,.ref 0 0)],Zg P l):=by
 have a4:=fun L=>(Zaa P hP 23 (by omega) L).trans h23
 rcases htm with rfl | rfl <;> unfold Zg <;> first | unfold ZdC | unfold t20
 all_goals simp -implicitDefEqProofs only [EQA,Nat.reduceLT,Nat.reduceEqDiff,reduceCtorEq,↓reduceIte,Zg0,a4]
theorem ZEL:KRun Zec [(138,.bool false),(2,.ref 0 0),(0,.ref 0 0)] P l (.ok (P,l)):=by
 refine ⟨[(138,.bool false),(2,.ref 0 0),(0,.ref 0 0)],?_,hP,hN,Nat.le_refl _⟩
 unfold Zg
 simp -implicitDefEqProofs only [Zu7,eq_self,Opd.ev,tget,Bool.false_eq_true,↓reduceIte,Zec]
theorem Zyz {a r:Zb} (h:Zcu l=.ok (a,r)):KRun Zec [(138,.bool true),(2,.ref 0 0),(0,.ref 0 0)] P l (.ok (P.set 24 (.lst false (a.map Zc)),r)):=by
 have a1:=Z7 P hP
 have hT:=fun σ sq hs=>Ztk P hP hN l hl σ 0 sq hs h
 have a3:=Zay P hP 24 25 (by omega) rfl
 refine ⟨[],?_,by simp [hP],ZP (Zcd _ _) 24 hN,ZsN h⟩
 unfold Zg
 simp -implicitDefEqProofs only [EQA,ZC,Nat.reduceAdd,Nat.reduceLT,Nat.reduceLeDiff,Nat.reduceEqDiff,reduceCtorEq,↓reduceIte,Zec,a1,a3,hT]
theorem ZHS {c:Int} (h:Zcu l=.error c):KRun Zec [(138,.bool true),(2,.ref 0 0),(0,.ref 0 0)] P l (.error c):=by
 have hT:=fun σ sq hs=>ZvZ P hP hN l hl σ 0 sq hs h
 refine ⟨[],[],P++[.lst false (l.map Zc)],Zx P hP hN _ _,?_⟩
 unfold Zg
 simp -implicitDefEqProofs only [EQA,Nat.reduceLT,Nat.reduceEqDiff,reduceCtorEq,↓reduceIte,Zec,hT]
end
def ZbF (P:List AVal) (m:Int):List AVal:=((((((P.set 12 (.bool (Zk m 2 != 0))).set 15 (.bool (Zk m 4 != 0))).set 23 (.bool (Zk m 64 != 0))).set 21 (.bool (Zk m 128 != 0))).set 18 (.int .i64 (Zk (ZcN m) 3))).set 19 (.bool (Zk m 32 != 0)))
def ZiM (P:List AVal) (k:Int) (ps:List Zp) (cl:Zb):List AVal:=((P.set 13 (.int .i64 k)).set 9 (.lst false (ps.map Zn))).set 14 (.str cl)
def Zhu (b:Bool) (s:KSt):Except Int KSt:=if b=true then (match Zcu s.2 with
 | .error c=>.error c
 | .ok (d,r)=>.ok (s.1.set 24 (.lst false (d.map Zc)),r)) else .ok s
def ZhQ (b:Bool) (s:KSt):Except Int KSt:=if b=true then (match Zal s.2 with
 | .error c=>.error c
 | .ok (d,r)=>.ok (s.1.set 22 (.str d),r)) else .ok s
def ZiV (b:Bool) (s:KSt):Except Int KSt:=if b=true then (match ZcS s.2 with
 | .error c=>.error c
 | .ok (ps,tp,d,r)=>.ok (Zh1 s.1 ps tp d,r)) else .ok s
def Zix (m:Int) (s:KSt):Except Int KSt:=match ZiV (Zk m 4 != 0) s with
 | .error c=>.error c
 | .ok s=>match ZhQ (Zk m 128 != 0) s with
  | .error c=>.error c
  | .ok s=>Zhu (Zk m 64 != 0) s
def ZjC (P:List AVal) (m:Int) (l:Zb):Except Int KSt:=match Zar 2 l with
 | .error c=>.error c
 | .ok (k,r4)=>match Zbw 1 r4 with
  | .error c=>.error c
  | .ok (ps,r5)=>match Zal r5 with
   | .error c=>.error c
   | .ok (cl,r6)=>Zix m (ZiM (ZbF P m) k ps cl,r6)
def Zih (P:List AVal) (l:Zb):Except Int KSt:=match Zal l with
 | .error c=>.error c
 | .ok (s,r1)=>if (s == [77,81,84,84])=true then (match Zar 1 r1 with
  | .error c=>.error c
  | .ok (v,r2)=>if (v == 5)=true then (match Zar 1 r2 with
   | .error c=>.error c
   | .ok (m,r3)=>if Zgk m (Zk (ZcN m) 3) (Zk m 4 != 0) (Zk m 32 != 0)=true then ZjC P m r3 else .error 129)
   else .error 132)
  else .error 132
theorem Zs9 (P:List AVal) (hP:P.length=26) (hN:Zd P=true) (l:Zb) (hl:l.length<=140737488355328) {tm:Tms} {b:Bool} (htm:tm=t20\/tm=ZdC 129) (h23:P[23]?=some (.bool b)):KRun (.seq Zg0 Zec) tm P l (Zhu b (P,l)):=by
 refine KRun.seqT (ZB5 P hP hN l hl htm h23) (Nat.le_refl _) ?_
 unfold Zhu
 cases b
 ·exact ZEL P hP hN l hl
 ·rw [if_pos rfl]
  cases h:Zcu l with
  | error c=>exact ZHS P hP hN l hl h
  | ok a=>exact Zyz P hP hN l hl h
theorem ZtR (P:List AVal) (hP:P.length=26) (hN:Zd P=true) (l:Zb) (hl:l.length<=140737488355328) {tm:Tms} {b bp:Bool} (htm:tm=t20\/tm=ZdC 107) (h21:P[21]?=some (.bool b)) (h23:P[23]?=some (.bool bp)):KRun (.seq Ze7 (.seq Zg0 Zec)) tm P l (match ZhQ b (P,l) with
  | .error c=>.error c
  | .ok s=>Zhu bp s):=by
 unfold ZhQ
 cases b
 ·rw [if_neg (by simp)]
  refine KRun.seqT (ZAl P hP hN l hl htm h21) (Nat.le_refl _) ?_
  exact Zs9 P hP hN l hl (Or.inr rfl) h23
 ·rw [if_pos rfl]
  cases h:Zal l with
  | error c=>exact KRun.seqF (Zx P hP hN _ _) (ZKG P hP hN l hl htm h21 h)
  | ok a =>
   have hr:=Zdr h
   refine KRun.seqT (Zw5 P hP hN l hl htm h21 h) hr ?_
   exact Zs9 _ (by simp [hP]) (ZP rfl 22 hN) a.2 (by omega) (Or.inl rfl) (by rw [List.getElem?_set_ne (by omega)];exact h23)
theorem Zye {l:Zb} {ps:List Zp} {tp d r:Zb} (h:ZcS l=.ok (ps,tp,d,r)):r.length<=l.length:=by
 unfold ZcS at h
 split at h
 ·cases h
 rename_i h1
 split at h
 ·cases h
 rename_i h2
 split at h
 ·cases h
 rename_i h3
 injection h with h;injection h with e1 h;injection h with e2 h;injection h with e3 e4;subst e4
 have:=Zfp h1;have:=Zdr h2;have:=ZsN h3
 omega
theorem ZLK (P:List AVal) (hP:P.length=26) (hN:Zd P=true) (l:Zb) (hl:l.length<=140737488355328) {m:Int} (hu:(Z3 16 l).2.1<=l.length) (h15:P[15]?=some (.bool (Zk m 4 != 0))) (h21:P[21]?=some (.bool (Zk m 128 != 0))) (h23:P[23]?=some (.bool (Zk m 64 != 0))):KRun (.seq Zeq (.seq Ze7 (.seq Zg0 Zec))) t20 P l (Zix m (P,l)):=by
 unfold Zix ZiV
 cases hb:(Zk m 4 != 0)
 ·rw [hb] at h15
  rw [if_neg (by simp)]
  refine KRun.seqT (ZM1 P hP hN l hl h15) (Nat.le_refl _) ?_
  exact ZtR P hP hN l hl (Or.inr rfl) h21 h23
 ·rw [hb] at h15
  rw [if_pos rfl]
  cases h:ZcS l with
  | error c =>
   obtain ⟨cs,h1,h2⟩:=ZFg P hP hN l hl h15 hu h
   exact KRun.seqF h1 h2
  | ok a =>
   obtain ⟨ps,tp,d,r⟩:=a
   have hr:=Zye h
   refine KRun.seqT (Zz8 P hP hN l hl h15 hu h) hr ?_
   refine ZtR _ (by simp [hP]) (ZP (Zcd _ _) 17 (ZP rfl 16 (ZP (Zcd _ _) 20 hN))) r (by omega) (Or.inl rfl) ?_ ?_
   ·rw [List.getElem?_set_ne (by omega),List.getElem?_set_ne (by omega),List.getElem?_set_ne (by omega)];exact h21
   ·rw [List.getElem?_set_ne (by omega),List.getElem?_set_ne (by omega),List.getElem?_set_ne (by omega)];exact h23
theorem ZEp (P:List AVal) (hP:P.length=26) (hN:Zd P=true) (l:Zb) (hl:l.length<=140737488355328) {m:Int} (hu1:∀ r:Zb,r.length<=140737488355328->(Z3 1 r).2.1<=r.length) (hu:∀ r:Zb,r.length<=140737488355328->(Z3 16 r).2.1<=r.length):KRun (.seq cn9 (.seq Zhc (.seq Zh3 (.seq Zeq (.seq Ze7 (.seq Zg0 Zec)))))) t20 (ZbF P m) l (ZjC P m l):=by
 have hM:(ZbF P m).length=26:=by simp [ZbF,hP]
 have hMN:Zd (ZbF P m)=true:=ZP rfl _ (ZP rfl _ (ZP rfl _ (ZP rfl _ (ZP rfl _ (ZP rfl _ hN)))))
 have g15:(ZbF P m)[15]?=some (.bool (Zk m 4 != 0)):=by simp [ZbF,hP]
 have g21:(ZbF P m)[21]?=some (.bool (Zk m 128 != 0)):=by simp [ZbF,hP]
 have g23:(ZbF P m)[23]?=some (.bool (Zk m 64 != 0)):=by simp [ZbF,hP]
 unfold ZjC ZiM
 generalize ZbF P m=M at *
 cases h1:Zar 2 l with
 | error c=>exact KRun.seqF (Zx M hM hMN _ _) (ZxX M hM hMN l hl h1)
 | ok a =>
 obtain ⟨k,r4⟩:=a
 have l1:=ZgD h1
 refine KRun.seqT (ZPd M hM hMN l hl h1) l1 ?_
 have hM1:(M.set 13 (.int .i64 k)).length=26:=by simp [hM]
 have hN1:Zd (M.set 13 (.int .i64 k))=true:=ZP rfl 13 hMN
 simp only
 cases h2:Zbw 1 r4 with
 | error c=>exact KRun.seqF (Zx _ hM1 hN1 _ _) (ZyV _ hM1 hN1 r4 (by omega) h2)
 | ok a =>
 obtain ⟨ps,r5⟩:=a
 have l2:=Zfp h2
 refine KRun.seqT (ZMe _ hM1 hN1 r4 (by omega) (hu1 r4 (by omega)) h2) l2 ?_
 have hM2:((M.set 13 (.int .i64 k)).set 9 (.lst false (ps.map Zn))).length=26:=by simp [hM]
 have hN2:Zd ((M.set 13 (.int .i64 k)).set 9 (.lst false (ps.map Zn)))=true:=ZP (Zcd _ _) 9 hN1
 simp only
 cases h3:Zal r5 with
 | error c=>exact KRun.seqF (Zx _ hM2 hN2 _ _) (ZBw _ hM2 hN2 r5 (by omega) h3)
 | ok a =>
 obtain ⟨cl,r6⟩:=a
 have l3:=Zdr h3
 refine KRun.seqT (ZFE _ hM2 hN2 r5 (by omega) h3) l3 ?_
 refine ZLK _ (by simp [hM]) (ZP rfl 14 hN2) r6 (by omega) (hu r6 (by omega)) ?_ ?_ ?_
 ·rw [List.getElem?_set_ne (by omega),List.getElem?_set_ne (by omega),List.getElem?_set_ne (by omega)];exact g15
 ·rw [List.getElem?_set_ne (by omega),List.getElem?_set_ne (by omega),List.getElem?_set_ne (by omega)];exact g21
 ·rw [List.getElem?_set_ne (by omega),List.getElem?_set_ne (by omega),List.getElem?_set_ne (by omega)];exact g23
theorem ZB6 (P:List AVal) (hP:P.length=26) (hN:Zd P=true) (l:Zb) (hl:l.length<=140737488355328) (hu1:∀ r:Zb,r.length<=140737488355328->(Z3 1 r).2.1<=r.length) (hu:∀ r:Zb,r.length<=140737488355328->(Z3 16 r).2.1<=r.length):KRun Zqp [(0,.ref 0 0)] P l (Zih P l):=by
 rw [Zyk]
 refine KRun.seqT (Zz4 P hP hN l hl) (Nat.le_refl _) ?_
 unfold Zih
 cases h1:Zal l with
 | error c=>exact KRun.seqF (Zx _ hP hN _ _) (ZEY P hP hN l hl h1)
 | ok a =>
 obtain ⟨s,r1⟩:=a
 have l1:=Zdr h1
 simp only
 split
 case isFalse hs=>exact KRun.seqF (Zx _ hP hN _ _) (ZyC P hP hN l hl h1 (Bool.not_eq_true _ |>.mp hs))
 rename_i hs
 have hs:=eq_of_beq hs
 subst hs
 refine KRun.seqT (ZAC P hP hN l hl h1) l1 ?_
 cases h2:Zar 1 r1 with
 | error c=>exact KRun.seqF (Zx _ hP hN _ _) (ZBi P hP hN r1 (by omega) h2)
 | ok a =>
 obtain ⟨v,r2⟩:=a
 have l2:=ZgD h2
 simp only
 split
 case isFalse hs=>exact KRun.seqF (Zx _ hP hN _ _) (ZC4 P hP hN r1 (by omega) h2 (Bool.not_eq_true _ |>.mp hs))
 rename_i hs
 have hs:=eq_of_beq hs
 subst hs
 refine KRun.seqT (ZIg P hP hN r1 (by omega) h2) l2 ?_
 cases h3:Zar 1 r2 with
 | error c=>exact KRun.seqF (Zx _ hP hN _ _) (ZAZ P hP hN r2 (by omega) h3)
 | ok a =>
 obtain ⟨m,r3⟩:=a
 have l3:=ZgD h3
 simp only
 refine KRun.seqT (ZLB P hP hN r2 (by omega) h3) l3 ?_
 have l4:r3.length<=140737488355328:=by omega
 refine KRun.seqT (ZOd P hP hN r3 l4 m) (Nat.le_refl _) ?_
 refine KRun.seqT (ZON _ (by simp [hP]) (ZP rfl _ (ZP rfl _ hN)) r3 l4 m) (Nat.le_refl _) ?_
 refine KRun.seqT (ZLl _ (by simp [hP]) (ZP rfl _ (ZP rfl _ (ZP rfl _ (ZP rfl _ hN)))) r3 l4 m) (Nat.le_refl _) ?_
 have hM:(ZbF P m).length=26:=by simp [ZbF,hP]
 have hMN:Zd (ZbF P m)=true:=ZP rfl _ (ZP rfl _ (ZP rfl _ (ZP rfl _ (ZP rfl _ (ZP rfl _ hN)))))
 have g15:(ZbF P m)[15]?=some (.bool (Zk m 4 != 0)):=by simp [ZbF,hP]
 have g18:(ZbF P m)[18]?=some (.int .i64 (Zk (ZcN m) 3)):=by simp [ZbF,hP]
 have g19:(ZbF P m)[19]?=some (.bool (Zk m 32 != 0)):=by simp [ZbF,hP]
 split
 case isFalse hs=>exact KRun.seqF (Zx _ hM hMN _ _) (ZyN _ hM hMN r3 l4 m _ _ _ g15 g18 g19 (Bool.not_eq_true _ |>.mp hs))
 rename_i hs
 refine KRun.seqT (ZO7 _ hM hMN r3 l4 m _ _ _ g15 g18 g19 hs) (Nat.le_refl _) ?_
 exact ZEp P hP hN r3 l4 hu1 hu
end
section
theorem z0b:((((0:Nat):Int)) == 0)=true:=by decide
theorem Zex {l:Zb} {b:Bool} (h:decide (l.length=0)=b):(((l.length:Nat):Int) == 0)=b:=by
 subst h
 by_cases h:l.length=0
 ·simp [h]
 ·have : ¬((l.length:Nat):Int)=0:=by omega
  simp [h]
section
variable (P:List AVal) (hP:P.length=26) (hN:Zd P=true)
include hP hN
theorem Zyl (qos:Int) (h0:P[0]?=some (.int .i64 3)) (h2:P[2]?=some (.int .i64 qos)) (h4:P[4]?=some (.int .i64 0)) (hu:∀ r:Zb,r.length<=140737488355328->(Z3 3 r).2.1<=r.length) (l:Zb) (hl:l.length<=140737488355328) {tp:Zb} {n:Int} {ps:List Zp} {pay:Zb} (h:Zcv qos l=.ok (tp,n,ps,pay)) :
  E 77 [.ref 0 0] [.var (P++[.lst false (l.map Zc)])]=some (.tup [],[.var ((((P.set 5 (.str tp)).set 4 (.int .i64 n)).set 9 (.lst false (ps.map Zn))).set 6 (.lst false (pay.map Zc))++[.lst true []])]):=by
 have hq:=ZJg P hP hN qos h2 h4 hu l hl h
 have hN':Zd ((((P.set 5 (.str tp)).set 4 (.int .i64 n)).set 9 (.lst false (ps.map Zn))).set 6 (.lst false (pay.map Zc)))=true:=ZP (Zcd _ _) _ (ZP (Zcd _ _) _ (ZP rfl _ (ZP rfl _ hN)))
 have hP':((((P.set 5 (.str tp)).set 4 (.int .i64 n)).set 9 (.lst false (ps.map Zn))).set 6 (.lst false (pay.map Zc))).length=26:=by simp [hP]
 generalize (((P.set 5 (.str tp)).set 4 (.int .i64 n)).set 9 (.lst false (ps.map Zn))).set 6 (.lst false (pay.map Zc))=Q at *
 have hG:=fun σ sq (hs:(σ:Za)[0]?=some (.var (P++[.lst false (l.map Zc)])))=>Zc7 (O:=E) (bf:=BY) (f:=118) (rest:=[]) (by kernel_rfl) rfl (Zx P hP hN _ _) (ZaC hN' (by rfl)) rfl rfl hq hs sq
 have a4:=fun L=>(Zaa P hP 0 (by omega) L).trans h0
 have b2:=Zaq Q hP'
 have m1:=Zbe
 have z:=z0b
 rw [Zh (by rfl) Zbj]
 simp -implicitDefEqProofs only [EQA,ZC,Zu,Nat.reduceAdd,Nat.reduceLT,Nat.reduceLeDiff,Nat.reduceEqDiff,Nat.reduceBEq,↓reduceIte,Zd,Zbi,Zbb,ZeU,oI,oN,a4,b2,hG,m1,Int.reduceBEq,z]
 exact ZZ rfl (ZaC hN' (by rfl))
theorem Zxq (qos:Int) (h0:P[0]?=some (.int .i64 3)) (h2:P[2]?=some (.int .i64 qos)) (l:Zb) (hl:l.length<=140737488355328) {c:Int} (h:Zcv qos l=.error c) :
  ∃ cs,Zd cs=true/\E 77 [.ref 0 0] [.var (P++[.lst false (l.map Zc)])]=some (.pan (Zy c),[.var cs]):=by
 obtain ⟨cs,hn,he⟩:=ZIJ P hP hN qos h2 l hl h
 have hG:=fun σ sq (hs:(σ:Za)[0]?=some (.var (P++[.lst false (l.map Zc)])))=>ZcP (O:=E) (bf:=BY) (f:=118) (view:=true) (rest:=[]) (by kernel_rfl) rfl (Zx P hP hN _ _) hn rfl he hs sq
 have a4:=fun L=>(Zaa P hP 0 (by omega) L).trans h0
 refine ⟨cs,hn,?_⟩
 rw [Zh (by rfl) Zbj]
 simp -implicitDefEqProofs only [EQA,ZC,Nat.reduceAdd,Nat.reduceLT,Nat.reduceLeDiff,Nat.reduceEqDiff,Nat.reduceBEq,↓reduceIte,Zbi,Zbb,oI,oN,a4,hG,Int.reduceBEq]
 exact ZZ rfl hn
theorem ZJW (h0:P[0]?=some (.int .i64 1)) (l:Zb) (hl:l.length<=140737488355328) {Q:List AVal} {r:Zb} (hq:E 114 [.ref 0 0] (Zg P l)=some (.tup [],Zg Q r)) (hQ:Q.length=26) (hQN:Zd Q=true) (hr:r.length=0) :
  E 77 [.ref 0 0] (Zg P l)=some (.tup [],Zg Q r):=by
 unfold Zg at *
 have hG:=fun σ sq (hs:(σ:Za)[0]?=some (.var (P++[.lst false (l.map Zc)])))=>Zc7 (O:=E) (bf:=BY) (f:=114) (rest:=[]) (by kernel_rfl) rfl (Zx P hP hN _ _) (ZaC hQN (by rfl)) rfl rfl hq hs sq
 have a4:=fun L=>(Zaa P hP 0 (by omega) L).trans h0
 have b2:=Zaq Q hQ
 have m1:=Zbe
 have z:=Zex (l:=r) (decide_eq_true hr)
 rw [Zh (by rfl) Zbj]
 simp -implicitDefEqProofs only [EQA,ZC,Zu,Nat.reduceAdd,Nat.reduceLT,Nat.reduceLeDiff,Nat.reduceEqDiff,Nat.reduceBEq,↓reduceIte,Zd,Zbi,Zbb,ZeU,oI,oN,a4,b2,hG,m1,z]
 exact ZZ rfl (ZaC hQN (by rfl))
theorem ZAf (h0:P[0]?=some (.int .i64 1)) (l:Zb) (hl:l.length<=140737488355328) {Q:List AVal} {r:Zb} (hq:E 114 [.ref 0 0] (Zg P l)=some (.tup [],Zg Q r)) (hQ:Q.length=26) (hQN:Zd Q=true) (hr:¬r.length=0) :
  E 77 [.ref 0 0] (Zg P l)=some (.pan (Zy 129),Zg Q r):=by
 unfold Zg at *
 have hG:=fun σ sq (hs:(σ:Za)[0]?=some (.var (P++[.lst false (l.map Zc)])))=>Zc7 (O:=E) (bf:=BY) (f:=114) (rest:=[]) (by kernel_rfl) rfl (Zx P hP hN _ _) (ZaC hQN (by rfl)) rfl rfl hq hs sq
 have a4:=fun L=>(Zaa P hP 0 (by omega) L).trans h0
 have b2:=Zaq Q hQ
 have m1:=ZbD
 have z:=Zex (l:=r) (decide_eq_false hr)
 rw [Zh (by rfl) Zbj]
 simp -implicitDefEqProofs only [EQA,ZC,Nat.reduceAdd,Nat.reduceLT,Nat.reduceLeDiff,Nat.reduceEqDiff,Nat.reduceBEq,↓reduceIte,Zbi,Zbb,oI,oN,a4,b2,hG,m1,z]
 exact ZZ rfl (ZaC hQN (by rfl))
theorem ZzE (h0:P[0]?=some (.int .i64 1)) (l:Zb) (hl:l.length<=140737488355328) {cs:List AVal} {c:Int} (hn:Zd cs=true) (he:E 114 [.ref 0 0] (Zg P l)=some (.pan (Zy c),[.var cs])) :
  E 77 [.ref 0 0] (Zg P l)=some (.pan (Zy c),[.var cs]):=by
 unfold Zg at *
 have hG:=fun σ sq (hs:(σ:Za)[0]?=some (.var (P++[.lst false (l.map Zc)])))=>ZcP (O:=E) (bf:=BY) (f:=114) (view:=true) (rest:=[]) (by kernel_rfl) rfl (Zx P hP hN _ _) hn rfl he hs sq
 have a4:=fun L=>(Zaa P hP 0 (by omega) L).trans h0
 rw [Zh (by rfl) Zbj]
 simp -implicitDefEqProofs only [EQA,ZC,Nat.reduceAdd,Nat.reduceLT,Nat.reduceLeDiff,Nat.reduceEqDiff,Nat.reduceBEq,↓reduceIte,Zbi,Zbb,oI,oN,a4,hG]
 exact ZZ rfl hn
end
end
section
def ZdG (P:List AVal) (c:Int) (ps:Option (List Zp)):List AVal:=(P.set 7 (.int .i64 c)).set 9 (Zfs ps)
theorem Zll {P:List AVal} (hP:P.length=26) (hN:Zd P=true) (c:Int) (ps:Option (List Zp)):(ZdG P c ps).length=26/\Zd (ZdG P c ps)=true :=
 ⟨by simp [ZdG,hP],ZP (by cases ps <;> rfl) 9 (ZP rfl 7 hN)⟩
section
variable (P:List AVal) (hP:P.length=26) (hN:Zd P=true)
include hP hN
theorem ZGu (k:Int) (hk:k=14\/k=15) (h0:P[0]?=some (.int .i64 k)) (h7:P[7]?=some (.int .i64 0)) (h9:P[9]?=some (.lst true [])) (hu:∀ r:Zb,r.length<=140737488355328->(Z3 k r).2.1<=r.length) (l:Zb) (hl:l.length<=140737488355328) {c:Int} {ps:Option (List Zp)} {r:Zb} (h:ZbW k l=.ok ((c,ps),r)) :
  E 77 [.ref 0 0] (Zg P l)=some (if r.length=0 then .tup [] else .pan (Zy 129),Zg (ZdG P c ps) r):=by
 have hG:=fun σ sq hs=>Zte P hP hN l hl σ 0 sq hs k h0 h7 h9 hu h
 obtain ⟨hQ,hQN⟩:=Zll hP hN c ps
 have a4:=fun L=>(Zaa P hP 0 (by omega) L).trans h0
 unfold Zg
 rw [show (P.set 7 (.int .i64 c)).set 9 (Zfs ps)=ZdG P c ps from rfl] at hG
 generalize ZdG P c ps=Q at *
 have b2:=Zaq Q hQ
 by_cases hr:r.length=0
 ·have m1:=Zbe
  have z:=Zex (l:=r) (decide_eq_true hr)
  rw [if_pos hr]
  rcases hk with rfl | rfl
  all_goals
   rw [Zh (by rfl) Zbj]
   simp -implicitDefEqProofs only [EQA,ZC,Zu,Nat.reduceAdd,Nat.reduceLT,Nat.reduceLeDiff,Nat.reduceEqDiff,Nat.reduceBEq,↓reduceIte,Zd,Zbi,Zbb,ZeU,oI,oN,a4,b2,hG,m1,Int.reduceBEq,z]
   exact ZZ rfl (ZaC hQN (by rfl))
 ·have m1:=ZbD
  have z:=Zex (l:=r) (decide_eq_false hr)
  rw [if_neg hr]
  rcases hk with rfl | rfl
  all_goals
   rw [Zh (by rfl) Zbj]
   simp -implicitDefEqProofs only [EQA,ZC,Nat.reduceAdd,Nat.reduceLT,Nat.reduceLeDiff,Nat.reduceEqDiff,Nat.reduceBEq,↓reduceIte,Zbi,Zbb,oI,oN,a4,b2,hG,m1,Int.reduceBEq,z]
   exact ZZ rfl (ZaC hQN (by rfl))
theorem ZN0 (k:Int) (hk:k=14\/k=15) (h0:P[0]?=some (.int .i64 k)) (hu:∀ r:Zb,r.length<=140737488355328->(Z3 k r).2.1<=r.length) (l:Zb) (hl:l.length<=140737488355328) {e:Int} (h:ZbW k l=.error e) :
  ∃ cs,Zd cs=true/\E 77 [.ref 0 0] (Zg P l)=some (.pan (Zy e),[.var cs]):=by
 obtain ⟨cs,hn,he⟩:=Ztb P hP hN k h0 hu l hl h
 have hG:=fun σ sq (hs:(σ:Za)[0]?=some (.var (P++[.lst false (l.map Zc)])))=>ZcP (O:=E) (bf:=BY) (f:=120) (view:=true) (rest:=[]) (by kernel_rfl) rfl (Zx P hP hN _ _) hn rfl he hs sq
 have a4:=fun L=>(Zaa P hP 0 (by omega) L).trans h0
 refine ⟨cs,hn,?_⟩
 unfold Zg
 rcases hk with rfl | rfl
 all_goals
  rw [Zh (by rfl) Zbj]
  simp -implicitDefEqProofs only [EQA,ZC,Nat.reduceAdd,Nat.reduceLT,Nat.reduceLeDiff,Nat.reduceEqDiff,Nat.reduceBEq,↓reduceIte,Zbi,Zbb,oI,oN,a4,hG,Int.reduceBEq]
  exact ZZ rfl hn
theorem ZtH (k:Int) (hk:k=4\/k=5\/k=6\/k=7) (h0:P[0]?=some (.int .i64 k)) (h7:P[7]?=some (.int .i64 0)) (h9:P[9]?=some (.lst true [])) (hu:∀ r:Zb,r.length<=140737488355328->(Z3 k r).2.1<=r.length) (l:Zb) (hl:l.length<=140737488355328) {n:Int} {r1:Zb} (hi:idK l=.ok (n,r1)) {c:Int} {ps:Option (List Zp)} {r:Zb} (h:ZbW k r1=.ok ((c,ps),r)) :
  E 77 [.ref 0 0] (Zg P l)=some (if r.length=0 then .tup [] else .pan (Zy 129),Zg (ZdG (P.set 4 (.int .i64 n)) c ps) r):=by
 have hr1:=ZeE hi
 have hI:=fun σ sq hs=>ZfR P hP hN l hl σ 0 sq hs hi
 have hP4:(P.set 4 (.int .i64 n)).length=26:=by simp [hP]
 have hN4:Zd (P.set 4 (.int .i64 n))=true:=ZP rfl 4 hN
 have g0:(P.set 4 (.int .i64 n))[0]?=some (.int .i64 k):=by rw [List.getElem?_set_ne (by omega)];exact h0
 have g7:(P.set 4 (.int .i64 n))[7]?=some (.int .i64 0):=by rw [List.getElem?_set_ne (by omega)];exact h7
 have g9:(P.set 4 (.int .i64 n))[9]?=some (.lst true []):=by rw [List.getElem?_set_ne (by omega)];exact h9
 generalize P.set 4 (.int .i64 n)=S at *
 have hG:=fun σ sq hs=>Zte S hP4 hN4 r1 (by omega) σ 0 sq hs k g0 g7 g9 hu h
 obtain ⟨hQ,hQN⟩:=Zll hP4 hN4 c ps
 have a4:=fun L=>(Zaa P hP 0 (by omega) L).trans h0
 unfold Zg
 rw [show (S.set 7 (.int .i64 c)).set 9 (Zfs ps)=ZdG S c ps from rfl] at hG
 generalize ZdG S c ps=Q at *
 have b2:=Zaq Q hQ
 by_cases hr:r.length=0
 ·have m1:=Zbe
  have z:=Zex (l:=r) (decide_eq_true hr)
  rw [if_pos hr]
  rcases hk with rfl | rfl | rfl | rfl
  all_goals
   rw [Zh (by rfl) Zbj]
   simp -implicitDefEqProofs only [EQA,ZC,Zu,Nat.reduceAdd,Nat.reduceLT,Nat.reduceLeDiff,Nat.reduceEqDiff,Nat.reduceBEq,↓reduceIte,Zd,Zbi,Zbb,ZeU,oI,oN,a4,b2,hI,hG,m1,Int.reduceBEq,z]
   exact ZZ rfl (ZaC hQN (by rfl))
 ·have m1:=ZbD
  have z:=Zex (l:=r) (decide_eq_false hr)
  rw [if_neg hr]
  rcases hk with rfl | rfl | rfl | rfl
  all_goals
   rw [Zh (by rfl) Zbj]
   simp -implicitDefEqProofs only [EQA,ZC,Nat.reduceAdd,Nat.reduceLT,Nat.reduceLeDiff,Nat.reduceEqDiff,Nat.reduceBEq,↓reduceIte,Zbi,Zbb,oI,oN,a4,b2,hI,hG,m1,Int.reduceBEq,z]
   exact ZZ rfl (ZaC hQN (by rfl))
theorem ZJ4 (k:Int) (hk:k=4\/k=5\/k=6\/k=7) (h0:P[0]?=some (.int .i64 k)) (l:Zb) (hl:l.length<=140737488355328) {e:Int} (h:idK l=.error e) :
  ∃ cs,Zd cs=true/\E 77 [.ref 0 0] (Zg P l)=some (.pan (Zy e),[.var cs]):=by
 obtain ⟨cs,hn,he⟩:=Zj5 P hP hN l hl h
 have hG:=fun σ sq (hs:(σ:Za)[0]?=some (.var (P++[.lst false (l.map Zc)])))=>ZcP (O:=E) (bf:=BY) (f:=119) (view:=true) (rest:=[]) (by kernel_rfl) rfl (Zx P hP hN _ _) hn rfl he hs sq
 have a4:=fun L=>(Zaa P hP 0 (by omega) L).trans h0
 refine ⟨cs,hn,?_⟩
 unfold Zg
 rcases hk with rfl | rfl | rfl | rfl
 all_goals
  rw [Zh (by rfl) Zbj]
  simp -implicitDefEqProofs only [EQA,ZC,Nat.reduceAdd,Nat.reduceLT,Nat.reduceLeDiff,Nat.reduceEqDiff,Nat.reduceBEq,↓reduceIte,Zbi,Zbb,oI,oN,a4,hG,Int.reduceBEq]
  exact ZZ rfl hn
theorem ZJZ (k:Int) (hk:k=4\/k=5\/k=6\/k=7) (h0:P[0]?=some (.int .i64 k)) (hu:∀ r:Zb,r.length<=140737488355328->(Z3 k r).2.1<=r.length) (l:Zb) (hl:l.length<=140737488355328) {n:Int} {r1:Zb} (hi:idK l=.ok (n,r1)) {e:Int} (h:ZbW k r1=.error e) :
  ∃ cs,Zd cs=true/\E 77 [.ref 0 0] (Zg P l)=some (.pan (Zy e),[.var cs]):=by
 have hr1:=ZeE hi
 have hI:=fun σ sq hs=>ZfR P hP hN l hl σ 0 sq hs hi
 have hP4:(P.set 4 (.int .i64 n)).length=26:=by simp [hP]
 have hN4:Zd (P.set 4 (.int .i64 n))=true:=ZP rfl 4 hN
 have g0:(P.set 4 (.int .i64 n))[0]?=some (.int .i64 k):=by rw [List.getElem?_set_ne (by omega)];exact h0
 generalize P.set 4 (.int .i64 n)=S at *
 obtain ⟨cs,hn,he⟩:=Ztb S hP4 hN4 k g0 hu r1 (by omega) h
 have hG:=fun σ sq (hs:(σ:Za)[0]?=some (.var (S++[.lst false (r1.map Zc)])))=>ZcP (O:=E) (bf:=BY) (f:=120) (view:=true) (rest:=[]) (by kernel_rfl) rfl (Zx S hP4 hN4 _ _) hn rfl he hs sq
 have a4:=fun L=>(Zaa P hP 0 (by omega) L).trans h0
 refine ⟨cs,hn,?_⟩
 unfold Zg
 rcases hk with rfl | rfl | rfl | rfl
 all_goals
  rw [Zh (by rfl) Zbj]
  simp -implicitDefEqProofs only [EQA,ZC,Nat.reduceAdd,Nat.reduceLT,Nat.reduceLeDiff,Nat.reduceEqDiff,Nat.reduceBEq,↓reduceIte,Zbi,Zbb,oI,oN,a4,hI,hG,Int.reduceBEq]
  exact ZZ rfl hn
theorem ZBT (k:Int) (hk:k=12\/k=13) (h0:P[0]?=some (.int .i64 k)) (l:Zb):E 77 [.ref 0 0] (Zg P l)=some (if l.length=0 then .tup [] else .pan (Zy 129),Zg P l):=by
 have a4:=fun L=>(Zaa P hP 0 (by omega) L).trans h0
 have b2:=Zaq P hP
 unfold Zg
 by_cases hr:l.length=0
 ·have m1:=Zbe
  have z:=Zex (l:=l) (decide_eq_true hr)
  rw [if_pos hr]
  rcases hk with rfl | rfl
  all_goals
   rw [Zh (by rfl) Zbj]
   simp -implicitDefEqProofs only [EQA,ZC,Zu,Nat.reduceAdd,Nat.reduceLT,Nat.reduceLeDiff,Nat.reduceEqDiff,Nat.reduceBEq,↓reduceIte,Zd,Zbi,Zbb,ZeU,oI,oN,a4,b2,m1,Int.reduceBEq,z]
   exact ZZ rfl (Zx P hP hN _ _)
 ·have m1:=ZbD
  have z:=Zex (l:=l) (decide_eq_false hr)
  rw [if_neg hr]
  rcases hk with rfl | rfl
  all_goals
   rw [Zh (by rfl) Zbj]
   simp -implicitDefEqProofs only [EQA,ZC,Nat.reduceAdd,Nat.reduceLT,Nat.reduceLeDiff,Nat.reduceEqDiff,Nat.reduceBEq,↓reduceIte,Zbi,Zbb,oI,oN,a4,b2,m1,Int.reduceBEq,z]
   exact ZZ rfl (Zx P hP hN _ _)
end
end
section
def Zc2 (k:Int):Int:=if k=6\/k=8\/k=10 then 2 else 0
theorem ZF2 (k:Int):E 79 [.int .i64 k] []=some (.int .u8 (Zc2 k),[]):=by
 unfold Zc2
 by_cases h6:k=6
 ·subst h6;rw [Zh (by rfl) Zl7];simp -implicitDefEqProofs only [EQA,Nat.reduceLT,Nat.reduceEqDiff,reduceCtorEq,↓reduceIte,ZjF,ZhF,ZlE,oI]
 by_cases h8:k=8
 ·subst h8;rw [Zh (by rfl) Zl7];simp -implicitDefEqProofs only [EQA,Nat.reduceLT,Nat.reduceEqDiff,reduceCtorEq,↓reduceIte,ZjF,ZhF,ZlE,oI,Int.reduceBEq]
 by_cases h10:k=10
 ·subst h10;rw [Zh (by rfl) Zl7];simp -implicitDefEqProofs only [EQA,Nat.reduceLT,Nat.reduceEqDiff,reduceCtorEq,↓reduceIte,ZjF,ZhF,ZlE,oI,Int.reduceBEq]
 have b6:(k == 6)=false:=by simpa using h6
 have b8:(k == 8)=false:=by simpa using h8
 have b10:(k == 10)=false:=by simpa using h10
 rw [if_neg (by omega),Zh (by rfl) Zl7]
 simp -implicitDefEqProofs only [EQA,Nat.reduceLT,Nat.reduceEqDiff,reduceCtorEq,↓reduceIte,ZjF,ZhF,ZlE,oI,b6,b8,b10]
theorem ZjM (k:Int) (σ:Za) (sq own:Nat):Zj E BY σ sq 79 own true [.int .i64 k]=some (.int .u8 (Zc2 k),σ,{}) :=
 Zce (ZF2 k) (by kernel_rfl) (by simp -implicitDefEqProofs only [ZcM,Zbn,eq_self,eq_self]) (by simp -implicitDefEqProofs only [ZC,Zbn,eq_self,eq_self]) rfl (fun _=>rfl) _ _ _ _
def tyI (b:Int):Int:=IntKind.i64.wrap (b.fdiv (2 ^ min (Int.toNat 4) IntKind.u8.bits))
def ZaU (a b:Int):Int:=IntKind.u8.wrap (BitVec.ofInt IntKind.u8.bits a &&& BitVec.ofInt IntKind.u8.bits b).toNat
def qoI (b:Int):Int:=IntKind.i64.wrap (ZaU (b.fdiv (2 ^ min (Int.toNat 1) IntKind.u8.bits)) 3)
def Zc0 (P:List AVal) (b:Int):List AVal:=(((P.set 0 (.int .i64 3)).set 1 (.bool (ZaU b 8 != 0))).set 2 (.int .i64 (qoI b))).set 3 (.bool (ZaU b 1 != 0))
section
variable (P:List AVal) (hP:P.length=26) (hN:Zd P=true)
include hP hN
theorem ZkY (L v:AVal):[v]++List.drop 1 (P++[L])=P.set 0 v++[L]:=Zay P hP 0 1 (by omega) rfl L v
theorem ZPk (b:Int) (l:Zb) (h:tyI b=0):E 76 [.ref 0 0,.int .u8 b] (Zg P l)=some (.pan (Zy 129),Zg (P.set 0 (.int .i64 0)) l):=by
 have a1:=Z7 P hP
 have a3:=ZkY P hP hN
 have a4:=ZhK P hP 0 (by omega)
 have m1:=ZbD
 have z:((0:Int) != 0)=false:=by decide
 unfold tyI at h
 unfold Zg
 rw [Zh (by rfl) ZgH]
 simp -implicitDefEqProofs only [EQA,ZC,Nat.reduceLT,Nat.reduceLeDiff,Nat.reduceEqDiff,ZaB,reduceCtorEq,↓reduceIte,Zg5,Zfl,oI,oN,a1,a3,a4,m1,h,z,Int.reduceLT]
 exact ZZ rfl (ZaC (ZP rfl _ hN) (by rfl))
theorem ZHQ (b t:Int) (l:Zb) (h:tyI b=t) (h0:¬t=0) (h3:¬t=3) (hf:¬ZaU b 15=Zc2 t):E 76 [.ref 0 0,.int .u8 b] (Zg P l)=some (.pan (Zy 129),Zg (P.set 0 (.int .i64 t)) l):=by
 have a1:=Z7 P hP
 have a3:=ZkY P hP hN
 have a4:=ZhK P hP 0 (by omega)
 have m0:=Zbe
 have m1:=ZbD
 have e0:(t != 0)=true:=by simpa using h0
 have e3:(t != 3)=true:=by simpa using h3
 have ef:(ZaU b 15 == Zc2 t)=false:=by simpa using hf
 have hC:=ZjM t
 unfold tyI at h
 unfold ZaU at ef
 unfold Zg
 rw [Zh (by rfl) ZgH]
 simp -implicitDefEqProofs only [EQA,ZC,Nat.reduceLT,Nat.reduceLeDiff,Nat.reduceEqDiff,ZaB,reduceCtorEq,↓reduceIte,Zg5,Zfl,oI,oN,a1,a3,a4,m0,m1,h,e0,e3,ef,hC,Int.reduceLT]
 exact ZZ rfl (ZaC (ZP rfl _ hN) (by rfl))
theorem ZvR (b t:Int) (l:Zb) (h:tyI b=t) (h0:¬t=0) (h3:¬t=3) (hf:ZaU b 15=Zc2 t):E 76 [.ref 0 0,.int .u8 b] (Zg P l)=some (.tup [],Zg (P.set 0 (.int .i64 t)) l):=by
 have a1:=Z7 P hP
 have a3:=ZkY P hP hN
 have a4:=ZhK P hP 0 (by omega)
 have m0:=Zbe
 have e0:(t != 0)=true:=by simpa using h0
 have e3:(t != 3)=true:=by simpa using h3
 have ef:(ZaU b 15 == Zc2 t)=true:=by simpa using hf
 have hC:=ZjM t
 unfold tyI at h
 unfold ZaU at ef
 unfold Zg
 rw [Zh (by rfl) ZgH]
 simp -implicitDefEqProofs only [EQA,ZC,Zu,Nat.reduceLT,Nat.reduceLeDiff,Nat.reduceEqDiff,ZaB,reduceCtorEq,↓reduceIte,Zd,Zg5,Zfl,Zqw,oI,oN,a1,a3,a4,m0,h,e0,e3,ef,hC,Int.reduceLT]
 exact ZZ rfl (ZaC (ZP rfl _ hN) (by rfl))
theorem ZLi (b:Int) (l:Zb) (h:tyI b=3):E 76 [.ref 0 0,.int .u8 b] (Zg P l)=some (if qoI b < 3 then (if qoI b > 0\/(ZaU b 8 != 0)=false then .tup [] else .pan (Zy 130)) else .pan (Zy 129),Zg (Zc0 P b) l):=by
 have hQ:(Zc0 P b).length=26:=by simp [Zc0,hP]
 have hQN:Zd (Zc0 P b)=true:=ZP rfl _ (ZP rfl _ (ZP rfl _ (ZP rfl _ hN)))
 have g1:(Zc0 P b)[1]?=some (.bool (ZaU b 8 != 0)):=by simp [Zc0,hP]
 have g2:(Zc0 P b)[2]?=some (.int .i64 (qoI b)):=by simp [Zc0,hP]
 have a1:=Z7 P hP
 have a3:=fun L=>ZkY P hP hN L (.int .i64 3)
 have a4:=ZhK P hP 0 (by omega)
 have hP0:(P.set 0 (.int .i64 3)).length=26:=by simp [hP]
 have b1:=Z7 _ hP0
 have b3:=fun L=>Zay _ hP0 1 2 (by omega) rfl L (.bool (ZaU b 8 != 0))
 have hP1:((P.set 0 (.int .i64 3)).set 1 (.bool (ZaU b 8 != 0))).length=26:=by simp [hP]
 have c1:=Z7 _ hP1
 have c3:=fun L=>Zay _ hP1 2 3 (by omega) rfl L (.int .i64 (qoI b))
 have hP2:(((P.set 0 (.int .i64 3)).set 1 (.bool (ZaU b 8 != 0))).set 2 (.int .i64 (qoI b))).length=26:=by simp [hP]
 have d1:=Z7 _ hP2
 have d3:=fun L=>Zay _ hP2 3 4 (by omega) rfl L (.bool (ZaU b 1 != 0))
 rw [show (((P.set 0 (.int .i64 3)).set 1 (.bool (ZaU b 8 != 0))).set 2 (.int .i64 (qoI b))).set 3 (.bool (ZaU b 1 != 0))=Zc0 P b from rfl] at d3
 generalize Zc0 P b=Q at *
 have k1:=fun L=>(Zaa Q hQ 1 (by omega) L).trans g1
 have k2:=fun L=>(Zaa Q hQ 2 (by omega) L).trans g2
 have m0:=Zbe
 have m1:=ZbD
 have e0:((3:Int) != 0)=true:=by decide
 have e3:((3:Int) != 3)=false:=by decide
 unfold tyI at h
 unfold Zg
 by_cases hq:qoI b < 3
 ·rw [if_pos hq]
  by_cases hq0:qoI b > 0
  ·rw [if_pos (Or.inl hq0)]
   unfold qoI ZaU at *
   rw [Zh (by rfl) ZgH]
   simp -implicitDefEqProofs only [EQA,ZC,Zu,Nat.reduceAdd,Nat.reduceLT,Nat.reduceLeDiff,Nat.reduceEqDiff,ZaB,ZF,Zav,reduceCtorEq,↓reduceIte,Zd,Zg5,Zfl,Zqw,oI,oN,a1,a3,a4,b1,b3,c1,c3,d1,d3,k2,m0,h,e0,e3,hq,hq0,Int.reduceLT]
   exact ZZ rfl (ZaC hQN (by rfl))
  ·cases hd:(ZaU b 8 != 0)
   ·rw [if_pos (Or.inr rfl)]
    rw [hd] at b3 c1 c3 d1 d3 k1
    unfold qoI ZaU at *
    rw [Zh (by rfl) ZgH]
    simp -implicitDefEqProofs only [EQA,ZC,Zu,Nat.reduceAdd,Nat.reduceLT,Nat.reduceLeDiff,Nat.reduceEqDiff,ZaB,unA,ZF,unG,reduceCtorEq,↓reduceIte,Zd,Zg5,Zfl,Zqw,oI,oN,a1,a3,a4,b1,b3,c1,c3,d1,d3,k1,k2,m0,h,e0,e3,hq,hq0,hd,Int.reduceLT]
    exact ZZ rfl (ZaC hQN (by rfl))
   ·rw [if_neg (by simp [hq0])]
    rw [hd] at b3 c1 c3 d1 d3 k1
    unfold qoI ZaU at *
    rw [Zh (by rfl) ZgH]
    simp -implicitDefEqProofs only [EQA,ZC,Nat.reduceAdd,Nat.reduceLT,Nat.reduceLeDiff,Nat.reduceEqDiff,ZaB,unA,ZF,unG,reduceCtorEq,↓reduceIte,Zg5,Zfl,oI,oN,a1,a3,a4,b1,b3,c1,c3,d1,d3,k1,k2,m0,m1,h,e0,e3,hq,hq0,hd,Int.reduceLT]
    exact ZZ rfl (ZaC hQN (by rfl))
 ·rw [if_neg hq]
  unfold qoI ZaU at *
  rw [Zh (by rfl) ZgH]
  simp -implicitDefEqProofs only [EQA,ZC,Nat.reduceAdd,Nat.reduceLT,Nat.reduceLeDiff,Nat.reduceEqDiff,ZaB,reduceCtorEq,↓reduceIte,Zg5,Zfl,oI,oN,a1,a3,a4,b1,b3,c1,c3,d1,d3,k2,m0,m1,h,e0,e3,hq,Int.reduceLT]
  exact ZZ rfl (ZaC hQN (by rfl))
end
end
section
section
variable {σ:Za} {cs xs:List AVal} {g w:Nat}
theorem Zmj {t r:Nat} (hs:σ[t]?=some (.var cs)) (hr:σ[r]?=some (.row g w xs)) (htr:t≠r) (hrf:Zt cs=[r]):Zz σ 1000 [t] []=[t,r]:=by
 have h1:σ.getD t .free=.var cs:=by simp [List.getD_eq_getElem?_getD,hs]
 have h2:σ.getD r .free=.row g w xs:=by simp [List.getD_eq_getElem?_getD,hr]
 have e1:([]:List Nat).contains t=false:=rfl
 have e2:([t]:List Nat).contains r=false:=by simp;exact fun e=>htr e.symm
 rw [show (1000:Nat)=997+1+1+1 from rfl,Zz,e1]
 simp only [Bool.false_eq_true,if_false,h1,ZM,hrf,List.append_nil,List.nil_append]
 rw [Zz,e2]
 simp only [Bool.false_eq_true,if_false,h2,ZM,List.nil_append]
 rfl
theorem Zub {r:AVal} {σ:Za} (hr:ZJ r=true) (hrf:Zt cs=[1]) (hg:g<=1) (hren:∀ ρ:Rho,ρ 1 g=some (1,g)->Zf ρ cs=cs):gcA 2 [r] (.var cs::.row g w xs::σ)=([r],[.var cs,.row g w xs]):=by
 have e1:=(Za5 (Zo (.var cs::.row g w xs::σ) 2 [0,1]) r hr)
 have h1:ZB 2 [r] (.var cs::.row g w xs::σ)=[0,1]:=by
  have : Zt [r]=[]:=by simp only [Zt,e1.2,List.append_nil]
  have hR:List.range 2=[0,1]:=rfl
  simp only [ZB,this,List.nil_append,hR,List.flatMap_cons,List.flatMap_nil,List.append_nil,List.getD_cons_zero,List.getD_cons_succ,ZM,hrf]
  rfl
 have hng:(if g=0 then 0 else 1)=g:=by split <;> omega
 have hρ:Zo (.var cs::.row g w xs::σ) 2 [0,1] 1 g=some (1,g):=by
  simp only [Zo,Z1,Zq,ZU,List.getElem?_cons_succ,List.getElem?_cons_zero]
  simp [hng]
 simp only [gcA,h1,Zf,e1.1,Zw,List.getD_cons_zero,List.getD_cons_succ,ZU,Zq,ZG,hren _ hρ]
 simp [hng]
theorem ZpL {r:AVal} {σ:Za} (hr:ZJ r=true) (hrf:Zt cs=[1]) (hg:g<=1) (hren:∀ ρ:Rho,ρ 1 g=some (1,g)->Zf ρ cs=cs):Zak 2 (.var cs::.row g w xs::σ) r=some (r,[.var cs,.row g w xs]):=by
 simp only [Zak,Zub hr hrf hg hren]
end
theorem ZcI:∀ (a b:List AVal),Zt (a++b)=Zt a++Zt b
 | [],b=>by simp [Zt]
 | x::a,b=>by simp [Zt,ZcI a b,List.append_assoc]
theorem Zb3 (ρ:Rho):∀ (a b:List AVal),Zf ρ (a++b)=Zf ρ a++Zf ρ b
 | [],b=>by simp [Zf]
 | x::a,b=>by simp [Zf,Zb3 ρ a b]
theorem Zin {v:AVal}:∀ {P:List AVal} {k:Nat},Zd P=true->k < P.length->Zt (P.set k v)=Z2 v
 | [],_,_,h=>by simp at h
 | x::P,0,h,_=>by
  simp only [Zd,Bool.and_eq_true] at h
  simp only [List.set_cons_zero,Zt,(ZaP (fun _ _=>none) P h.2).2,List.append_nil]
 | x::P,k+1,h,hk=>by
  simp only [Zd,Bool.and_eq_true] at h
  simp only [List.set_cons_succ,Zt,(Za5 (fun _ _=>none) x h.1).2,List.nil_append]
  exact Zin h.2 (by simpa using hk)
theorem ZiZ (ρ:Rho) {v:AVal}:∀ {P:List AVal} {k:Nat},Zd P=true->Zf ρ (P.set k v)=P.set k (Zm ρ v)
 | [],_,_=>by simp [Zf]
 | x::P,0,h=>by
  simp only [Zd,Bool.and_eq_true] at h
  simp only [List.set_cons_zero,Zf,(ZaP ρ P h.2).1]
 | x::P,k+1,h=>by
  simp only [Zd,Bool.and_eq_true] at h
  simp only [List.set_cons_succ,Zf,(Za5 ρ x h.1).1,ZiZ ρ h.2]
theorem ZC2 {σ:Za} {t r g w w2 g2:Nat} {cs xs cs2 xs2:List AVal} (hs:σ[t]?=some (.var cs)) (hr:σ[r]?=some (.row g w xs)) (hg2:g2<=1):Za1 σ [t,r] [.var cs2,.row g2 w2 xs2] 0=true:=by
 have h1:σ.getD t .free=.var cs:=by simp [List.getD_eq_getElem?_getD,hs]
 have h2:σ.getD r .free=.row g w xs:=by simp [List.getD_eq_getElem?_getD,hr]
 simp [Za1,okB,Zck,Zq,hs,hr,hg2]
theorem ZgJ {O:ZR} {bf:Nat->Bool} {σ:Za} {t r f own g w g2 w2 sq:Nat} {view:Bool} {rest:List AVal} {cs cs1 cs2 cs3 xs xs2:List AVal} {q q':AVal} (hs:σ[t]?=some (.var cs)) (hr:σ[r]?=some (.row g w xs)) (htr:t≠r) (hrf:Zt cs=[r]) (hb:bf f=false) (hp:rest.all Zac=true)
  (hren:∀ ρ:Rho,ρ r g=some (1,0)->Zf ρ cs=cs1) (hg2:g2<=1) (hff:Za4 σ sq own=true) (hn:ZJ q'=true)
  (h:O f (.ref 0 0::rest.map ZH) [.var cs1,.row 0 w xs]=some (q,[.var cs2,.row g2 w2 xs2])) (hv:Zaf view 2 (some (q,[.var cs2,.row g2 w2 xs2]))=some (q',[.var cs2,.row g2 w2 xs2]))
  (hback:∀ ρ:Rho,(∀ j,ρ 1 j=some (r,g+j))->Zf ρ cs2=cs3) :
  Zj O bf σ sq f own view (.ref t 0::rest)=some (q',(σ.set t (.var cs3)).set r (.row (g+g2) w2 xs2),{ any:=true,upd:=[(t,cs3)] }):=by
 have htl:t < σ.length:=by
  rcases Nat.lt_or_ge t σ.length with h | h
  ·exact h
  ·rw [List.getElem?_eq_none h] at hs;cases hs
 have h1:σ.getD t .free=.var cs:=by simp [List.getD_eq_getElem?_getD,hs]
 have h2:σ.getD r .free=.row g w xs:=by simp [List.getD_eq_getElem?_getD,hr]
 have hf0:Zs σ []=σ:=rfl
 have hsh:showAs σ (.ref t 0::rest)=some (.ref t 0::rest.map ZH,[]):=by
  rw [showAs,show showA σ (.ref t 0)=some (.ref t 0,[]) from rfl,Zeb hp]
  rfl
 have href:Zt (.ref t 0::rest.map ZH)=[t]:=by
  rw [Zt,Zdp hp];rfl
 have hup:Zbd ((σ.set t (.var cs3)).set r (.row (g+g2) w2 xs2)) [t,r]=[(t,cs3)]:=by
  have e1:((σ.set t (.var cs3)).set r (.row (g+g2) w2 xs2))[t]?=some (.var cs3):=by
   rw [List.getElem?_set_ne (fun e=>htr e.symm),List.getElem?_set_self htl]
  have e2:((σ.set t (.var cs3)).set r (.row (g+g2) w2 xs2))[r]?=some (.row (g+g2) w2 xs2):=by
   rw [List.getElem?_set_self (by
    rcases Nat.lt_or_ge r σ.length with h | h
    ·simpa using h
    ·rw [List.getElem?_eq_none h] at hr;cases hr)]
  simp only [Zbd,e1,e2]
 unfold Zj Zb2
 rw [hb]
 simp only [Bool.false_eq_true,if_false,hsh,hf0,href,Zmj hs hr htr hrf]
 unfold ZbH
 have hall:([t,r].all fun t=>okB (σ.getD t .free))=true:=by simp only [List.all_cons,List.all_nil,h1,h2,okB,Bool.and_true]
 rw [if_pos hall]
 have hρt:Zo σ 0 [t,r] t 0=some (0,0):=by simp [Zo,Z1,hs,Zq,ZU]
 have hρr:Zo σ 0 [t,r] r g=some (1,0):=by simp [Zo,Z1,hr,Zq,ZU,htr]
 have hargs:Zf (Zo σ 0 [t,r]) (.ref t 0::rest.map ZH)=.ref 0 0::rest.map ZH:=by
  rw [Zf,Zdk hp]
  simp only [Zm,hρt]
 have hheap:Zw σ 0 [t,r] (Zo σ 0 [t,r]) [t,r] 0=[.var cs1,.row 0 w xs]:=by
  simp only [Zw,h1,h2,ZU,Zq,ZG,hren _ hρr]
  simp
 rw [hargs,hheap,h]
 rw [show [t,r].length=2 from rfl,hv]
 have hk:=ZC2 (cs2:=cs2) (w2:=w2) (xs2:=xs2) hs hr hg2
 have hb3:Zf (ZaD σ [t,r] sq) cs2=cs3:=hback _ (fun j=>by simp only [ZaD,List.getElem?_cons_succ,List.getElem?_cons_zero,h2,Zq])
 simp only [ZaE,List.isEmpty_cons,Bool.false_eq_true,if_false,List.length_cons,List.length_nil,Nat.zero_add,Nat.reduceAdd,Nat.le_add_right,Nat.le_refl,decide_true,hk,hff,Bool.and_self,if_true,Za8,ZaJ,List.getD_cons_zero,List.getD_cons_succ,Zcr,List.getElem?_cons_zero,List.getElem?_cons_succ,h2,Zq,ZG,(Za5 _ _ hn).1,hb3,hup]
end
end Go.Proofs.YtmlkhhidifjjfaaDoor
