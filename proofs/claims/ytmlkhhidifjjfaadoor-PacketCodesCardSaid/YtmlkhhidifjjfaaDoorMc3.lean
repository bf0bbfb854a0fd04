/- packed -/
import Derived.Test.YtmlkhhidifjjfaaDoorMc2
set_option linter.defProp false
set_option linter.unusedSectionVars false
set_option linter.unusedSimpArgs false
set_option linter.unusedVariables false
namespace Go.Proofs.YtmlkhhidifjjfaaDoor
set_option maxHeartbeats 8000000
set_option maxRecDepth 10000
theorem ZuK (id:Int):Zb1 id=0∨Zb1 id=1∨Zb1 id=2∨Zb1 id=3∨Zb1 id=4∨Zb1 id=5∨Zb1 id=6∨Zb1 id=7:=by
 unfold Zb1
 by_cases h:Zf5 id
 ·unfold Zf5 at h
  rcases h with rfl | rfl | rfl | rfl | rfl | rfl | rfl | rfl | rfl | rfl | rfl | rfl | rfl | rfl | rfl | rfl | rfl | rfl | rfl | rfl | rfl | rfl | rfl | rfl | rfl | rfl | rfl
  all_goals decide
 ·rw [ZsA h];simp
theorem Zvv (b:Zb) (h:b.length≤4):Zcw b < 4294967296:=by
 unfold Zcw
 match b,h with
 | [],_=>simp [ZeM]
 | [a],_=>rw [ZcD,ZeM];have:=a.toNat_lt;omega
 | [a,c],_=>rw [ZcD,ZcD,ZeM];have:=a.toNat_lt;have:=c.toNat_lt;omega
 | [a,c,d],_=>rw [ZcD,ZcD,ZcD,ZeM];have:=a.toNat_lt;have:=c.toNat_lt;have:=d.toNat_lt;omega
 | [a,c,d,e],_=>rw [ZcD,ZcD,ZcD,ZcD,ZeM];have:=a.toNat_lt;have:=c.toNat_lt;have:=d.toNat_lt;have:=e.toNat_lt;omega
def Zf8 (id:Int) (W:Nat) (b:Zb):Zu×Nat×Bool:=if b.length < W then (⟨id,0,[],[],[]⟩,0,false) else (⟨id,Zcw (b.take W),[],[],[]⟩,W,true)
def Zg0 (id:Int) (b:Zb):Zu×Nat×Bool :=
 if (Zab b).2.2=0 then (⟨id,0,(Zab b).1,(Zab (b.drop (Zab b).2.1)).1,[]⟩,(Zab b).2.1+(Zab (b.drop (Zab b).2.1)).2.1,(Zab (b.drop (Zab b).2.1)).2.2 == 0) else (⟨id,0,[],[],[]⟩,0,false)
def Zfj (k id:Int) (b:Zb):Zu×Nat×Bool :=
 if k=1 then Zf8 id 1 b else if k=2 then Zf8 id 2 b else if k=3 then Zf8 id 4 b
 else if k=4 then (⟨id,(ZT b).1,[],[],[]⟩,(ZT b).2.1,(ZT b).2.2 == 0)
 else if k=5 then (⟨id,0,(Zab b).1,[],[]⟩,(Zab b).2.1,(Zab b).2.2 == 0)
 else if k=6 then (⟨id,0,[],[],(ZaI b).1⟩,(ZaI b).2.1,(ZaI b).2.2 == 0)
 else if k=7 then Zg0 id b else (⟨id,0,[],[],[]⟩,0,true)
def ZcW (id:Int) (b:Zb):Zu×Nat×Bool:=Zfj (Zb1 id) id b
def Zcv (f:Bool) (x:Zu×Nat×Bool):AVal:=.tup [.agg [.int .i64 x.1.id,.int .i64 x.1.num,.str x.1.text,.str x.1.pair,.lst f (x.1.data.map Zc)],.int .i64 (x.2.1:Nat),.bool x.2.2]
theorem Zlr (b:Zb):(ZaI b).2.1≤b.length∧(ZaI b).1.length≤b.length:=by
 unfold ZaI
 by_cases h:b.length < 2∨b.length - 2 < Zcw (b.take 2)
 ·rw [if_pos h];simp
 ·rw [if_neg h]
  simp only [not_or] at h
  simp;omega
theorem ZhU (b:Zb):(Zab b).2.1≤b.length∧((Zab b).2.2≠0→(Zab b).1=[]∧(Zab b).2.1=0):=by
 have hd:=Zlr b
 unfold Zab
 by_cases h:(ZaI b).2.2≠0
 ·rw [if_pos h];simp
 ·rw [if_neg h]
  by_cases ht:ZgG (ZaI b).1=true
  ·rw [if_pos ht];exact ⟨hd.1,fun h'=>absurd h' h⟩
  ·rw [if_neg ht];simp
theorem Zph (id:Int) (b:Zb) (hl:b.length≤140737488355328) (k:Int) (W:Nat) (hk:Zb1 id=k) (hW:(k=1∧W=1)∨(k=2∧W=2)∨(k=3∧W=4)):E 154 [.int .i64 id,ZO b] []=some (Zcv true (Zf8 id W b),[]):=by
 have hC:=fun σ site own=>ZiK σ site own id
 rw [hk] at hC
 have hG:=fun σ site own f=>ZlN σ site own (b.take W) (by simp;omega) f
 have hg:=Zvv (b.take W) (by simp;omega)
 unfold Zf8
 generalize Zcw (b.take W)=g at *
 have hi:IntKind.i64.wrap (g:Int)=(g:Int):=Zb3 (by omega) (by omega)
 have hw:∀ W:Nat,W≤b.length→∀ (σ:Za) (kk:IntKind),ZbX σ 1 (.lst false (b.map Zc)) none (some (.int kk (W:Int))) none=some (.lst false ((b.take W).map Zc),σ,{}):=fun W hW σ kk=>by
  have:=ZjD σ 1 b Zc kk (W:Int) (by omega) (by omega)
  exact this
 have z1:((1:Nat):Int)=1:=rfl
 have z2:((2:Nat):Int)=2:=rfl
 have z4:((4:Nat):Int)=4:=rfl
 rcases hW with ⟨rfl,rfl⟩ | ⟨rfl,rfl⟩ | ⟨rfl,rfl⟩
 ·have w1:IntKind.i64.wrap (1 - 1)=0:=rfl
  have w2:IntKind.i64.wrap (1*2 ^ min (Int.toNat 0) IntKind.i64.bits)=1:=rfl
  have ng:¬((0:Int) < 0):=by decide
  by_cases h:b.length < 1
  ·have h':(b.length:Int) < 1:=by omega
   rw [Zh (by rfl) Zd2,if_pos h]
   simp -implicitDefEqProofs only [EQA,Zs,Nat.reduceAdd,Nat.reduceLT,Nat.reduceLeDiff,Nat.reduceEqDiff,Nat.reduceBEq,ZaA,Option.some.injEq,reduceCtorEq,decide_true,↓reduceIte,Zd,Zdo,ZcV,Zdz,oI,oN,ZO,hC,w1,w2,ng,h',Zcv,AVal.cells]
   rfl
  ·have h':¬(b.length:Int) < 1:=by omega
   have hs:=hw 1 (by omega)
   rw [z1] at hs
   have e0:((0:Int) == 0)=true:=rfl
   rw [Zh (by rfl) Zd2,if_neg h]
   simp -implicitDefEqProofs only [EQA,Zs,Nat.reduceAdd,Nat.reduceLT,Nat.reduceLeDiff,Nat.reduceEqDiff,Nat.reduceBEq,ZaA,Option.some.injEq,reduceCtorEq,decide_false,↓reduceIte,Zd,Zdo,ZcV,Zdz,oI,oN,ZO,hC,w1,w2,ng,h',hs,hG,hi,Zcv,AVal.cells]
   rfl
 ·have w1:IntKind.i64.wrap (2 - 1)=1:=rfl
  have w2:IntKind.i64.wrap (1*2 ^ min (Int.toNat 1) IntKind.i64.bits)=2:=rfl
  have ng:¬((1:Int) < 0):=by decide
  by_cases h:b.length < 2
  ·have h':(b.length:Int) < 2:=by omega
   rw [Zh (by rfl) Zd2,if_pos h]
   simp -implicitDefEqProofs only [EQA,Zs,Nat.reduceAdd,Nat.reduceLT,Nat.reduceLeDiff,Nat.reduceEqDiff,Nat.reduceBEq,ZaA,Option.some.injEq,reduceCtorEq,decide_true,↓reduceIte,Zd,Zdo,ZcV,Zdz,oI,oN,ZO,hC,w1,w2,ng,h',Int.reduceBEq,Zcv,AVal.cells]
   rfl
  ·have h':¬(b.length:Int) < 2:=by omega
   have hs:=hw 2 (by omega)
   rw [z2] at hs
   have e0:((0:Int) == 0)=true:=rfl
   rw [Zh (by rfl) Zd2,if_neg h]
   simp -implicitDefEqProofs only [EQA,Zs,Nat.reduceAdd,Nat.reduceLT,Nat.reduceLeDiff,Nat.reduceEqDiff,Nat.reduceBEq,ZaA,Option.some.injEq,reduceCtorEq,decide_false,↓reduceIte,Zd,Zdo,ZcV,Zdz,oI,oN,ZO,hC,w1,w2,ng,h',hs,hG,hi,Int.reduceBEq,Zcv,AVal.cells]
   rfl
 ·have w1:IntKind.i64.wrap (3 - 1)=2:=rfl
  have w2:IntKind.i64.wrap (1*2 ^ min (Int.toNat 2) IntKind.i64.bits)=4:=rfl
  have ng:¬((2:Int) < 0):=by decide
  by_cases h:b.length < 4
  ·have h':(b.length:Int) < 4:=by omega
   rw [Zh (by rfl) Zd2,if_pos h]
   simp -implicitDefEqProofs only [EQA,Zs,Nat.reduceAdd,Nat.reduceLT,Nat.reduceLeDiff,Nat.reduceEqDiff,Nat.reduceBEq,ZaA,Option.some.injEq,reduceCtorEq,decide_true,↓reduceIte,Zd,Zdo,ZcV,Zdz,oI,oN,ZO,hC,w1,w2,ng,h',Int.reduceBEq,Zcv,AVal.cells]
   rfl
  ·have h':¬(b.length:Int) < 4:=by omega
   have hs:=hw 4 (by omega)
   rw [z4] at hs
   have e0:((0:Int) == 0)=true:=rfl
   rw [Zh (by rfl) Zd2,if_neg h]
   simp -implicitDefEqProofs only [EQA,Zs,Nat.reduceAdd,Nat.reduceLT,Nat.reduceLeDiff,Nat.reduceEqDiff,Nat.reduceBEq,ZaA,Option.some.injEq,reduceCtorEq,decide_false,↓reduceIte,Zd,Zdo,ZcV,Zdz,oI,oN,ZO,hC,w1,w2,ng,h',hs,hG,hi,Int.reduceBEq,Zcv,AVal.cells]
   rfl
theorem ZCe (id:Int) (b:Zb) (hl:b.length≤140737488355328):∃ f,E 154 [.int .i64 id,ZO b] []=some (Zcv f (ZcW id b),[]):=by
 unfold ZcW
 have hC:=fun σ site own=>ZiK σ site own id
 have hGV:=fun σ site own f=>Zns σ site own f b (by omega)
 have hGT:=fun σ site own f=>ZhE σ site own f b hl
 have hGD:=fun σ site own f=>ZlD σ site own f b hl
 have z0:((0:Nat):Int)=0:=rfl
 rcases ZuK id with hk | hk | hk | hk | hk | hk | hk | hk
 ·refine ⟨true,?_⟩
  rw [hk] at hC ⊢
  rw [show Zfj 0 id b=(⟨id,0,[],[],[]⟩,0,true) from rfl,Zh (by rfl) Zd2]
  have e0:((0:Int) == 0)=true:=rfl
  simp -implicitDefEqProofs only [EQA,Zs,Nat.reduceAdd,Nat.reduceLT,Nat.reduceLeDiff,Nat.reduceEqDiff,Nat.reduceBEq,Option.some.injEq,reduceCtorEq,↓reduceIte,Zd,Zdo,ZcV,Zdz,oI,oN,ZO,hC,Int.reduceBEq,Zcv,AVal.cells]
  rfl
 ·rw [hk];exact ⟨true,Zph id b hl 1 1 hk (by simp)⟩
 ·rw [hk];exact ⟨true,Zph id b hl 2 2 hk (by simp)⟩
 ·rw [hk];exact ⟨true,Zph id b hl 3 4 hk (by simp)⟩
 ·refine ⟨true,?_⟩
  rw [hk] at hC ⊢
  rw [show Zfj 4 id b=(⟨id,(ZT b).1,[],[],[]⟩,(ZT b).2.1,(ZT b).2.2 == 0) from rfl,Zh (by rfl) Zd2]
  unfold gvT at hGV
  simp -implicitDefEqProofs only [EQA,Zs,Nat.reduceAdd,Nat.reduceLT,Nat.reduceLeDiff,Nat.reduceEqDiff,Nat.reduceBEq,reduceCtorEq,↓reduceIte,Zd,Zdo,ZcV,Zdz,oI,oN,ZO,hC,hGV,Int.reduceBEq,Zcv,AVal.cells]
 ·refine ⟨true,?_⟩
  rw [hk] at hC ⊢
  rw [show Zfj 5 id b=(⟨id,0,(Zab b).1,[],[]⟩,(Zab b).2.1,(Zab b).2.2 == 0) from rfl,Zh (by rfl) Zd2]
  unfold gtT at hGT
  simp -implicitDefEqProofs only [EQA,Zs,Nat.reduceAdd,Nat.reduceLT,Nat.reduceLeDiff,Nat.reduceEqDiff,Nat.reduceBEq,reduceCtorEq,↓reduceIte,Zd,Zdo,ZcV,Zdz,oI,oN,ZO,hC,hGT,Int.reduceBEq,Zcv,AVal.cells]
 ·refine ⟨false,?_⟩
  rw [hk] at hC ⊢
  rw [show Zfj 6 id b=(⟨id,0,[],[],(ZaI b).1⟩,(ZaI b).2.1,(ZaI b).2.2 == 0) from rfl,Zh (by rfl) Zd2]
  unfold gdT at hGD
  simp -implicitDefEqProofs only [EQA,Zs,Nat.reduceAdd,Nat.reduceLT,Nat.reduceLeDiff,Nat.reduceEqDiff,Nat.reduceBEq,reduceCtorEq,↓reduceIte,Zd,Zdo,ZcV,Zdz,oI,oN,ZO,hC,hGD,Int.reduceBEq,Zcv,AVal.cells]
 ·refine ⟨true,?_⟩
  rw [hk] at hC ⊢
  rw [show Zfj 7 id b=Zg0 id b from rfl,Zh (by rfl) Zd2]
  unfold gtT at hGT
  unfold Zg0
  have hu:=ZhU b
  by_cases h:(Zab b).2.2=0
  ·have h':((Zab b).2.2 == 0)=true:=by simpa using h
   have hs:=fun σ kk=>Zff σ b kk (((Zab b).2.1:Nat):Int) (by omega) (by omega)
   have e:((((Zab b).2.1:Nat):Int)).toNat=(Zab b).2.1:=rfl
   rw [e] at hs
   have hGT2:=fun σ site own f=>ZhE σ site own f (b.drop (Zab b).2.1) (by simp;omega)
   unfold gtT at hGT2
   have hu2:=ZhU (b.drop (Zab b).2.1)
   have hdl:(b.drop (Zab b).2.1).length≤b.length:=by simp
   have hw:IntKind.i64.wrap ((((Zab b).2.1:Nat):Int)+(((Zab (b.drop (Zab b).2.1)).2.1:Nat):Int))=(((Zab b).2.1+(Zab (b.drop (Zab b).2.1)).2.1:Nat):Int):=by
    rw [Zb3 (by omega) (by omega)];rfl
   rw [if_pos h]
   rw [h] at hGT
   have e0:((0:Int) == 0)=true:=rfl
   simp -implicitDefEqProofs only [EQA,Zs,Nat.reduceAdd,Nat.reduceLT,Nat.reduceLeDiff,Nat.reduceEqDiff,Nat.reduceBEq,reduceCtorEq,↓reduceIte,Zd,Zdo,ZcV,Zdz,oI,oN,ZO,hC,hGT,hs,hGT2,hw,Int.reduceBEq,Zcv,AVal.cells]
  ·have h':((Zab b).2.2 == 0)=false:=by simpa using h
   rw [if_neg h]
   obtain ⟨x1,x2⟩:=hu.2 h
   rw [x1,x2] at hGT
   simp -implicitDefEqProofs only [EQA,Zs,Nat.reduceAdd,Nat.reduceLT,Nat.reduceLeDiff,Nat.reduceEqDiff,Nat.reduceBEq,reduceCtorEq,↓reduceIte,Zd,Zdo,ZcV,Zdz,oI,oN,ZO,hC,hGT,h',Int.reduceBEq,Zcv,AVal.cells]
theorem ZLR (σ:Za) (site own:Nat) (f:Bool) (id:Int) (b:Zb) (hl:b.length≤140737488355328):Zj E BY σ site 154 own true [.int .i64 id,.lst f (b.map Zc)]=some (Zcv false (ZcW id b),σ,{}):=by
 obtain ⟨g,h⟩:=ZCe id b hl
 exact Zbr h (by kernel_rfl) rfl rfl rfl (fun _=>rfl) _ _ _
end Go.Proofs.YtmlkhhidifjjfaaDoor
namespace Go.Proofs.YtmlkhhidifjjfaaDoor
set_option maxHeartbeats 8000000
set_option maxRecDepth 10000
end Go.Proofs.YtmlkhhidifjjfaaDoor
namespace Go.Proofs.YtmlkhhidifjjfaaDoor
set_option maxHeartbeats 4000000
set_option maxRecDepth 10000
def ZoO (b:Bool):AVal:=.tup [.agg [.int .i64 0,.int .i64 0,.str [],.str [],.lst b []],.bool false]
theorem ZHw (l:Zb):kOk 1 (l.map Zc)=true:=by cases l <;> rfl
theorem ZCC (l:Zb) (h:l.length≤140737488355328):E 111 [.lst false (l.map Zc)] []=some (.sl 0 0 0 (l.map Zc).length,[.row 0 1 (l.map Zc)]):=by
 refine ZdF.2 ⟨1,?_⟩
 show ZgW 1 1 [.lst false (l.map Zc)] []=_
 have h1:(l.map Zc).length*1≤140737488355328∧kOk 1 (l.map Zc)=true:=⟨by simpa using h,ZHw l⟩
 simp only [ZgW,Z6]
 rw [if_pos h1];rfl
theorem ZoZ (σ:Za) (site own:Nat) (l:Zb) (h:l.length≤140737488355328):Zj E BY σ site 111 own true [.lst false (l.map Zc)]=some (.lst false (l.map Zc),σ,{}) :=
 Zm5 (byref:=BY) (ZCC l h) rfl rfl rfl σ site own
theorem ZLQ (p:Zu) (h:p.data.length≤140737488355328):E 147 [Zo p] []=some (Zo p,[]):=by
 have hC:=fun σ site own=>ZoZ σ site own p.data h
 rw [Zh (by rfl) Zwd]
 simp -implicitDefEqProofs only [EQA,ZG,Zs,Nat.reduceAdd,Nat.reduceLT,Nat.reduceLeDiff,Nat.reduceEqDiff,Nat.reduceBEq,↓reduceIte,Zd,ZIH,ZpW,ZMZ,oI,oN,ZO,Zo,ZbO,hC]
theorem ZLo (σ:Za) (site own:Nat) (p:Zu) (h:p.data.length≤140737488355328):Zj E BY σ site 147 own true [.agg [.int .i64 p.id,.int .i64 p.num,.str p.text,.str p.pair,.lst false (p.data.map Zc)]]=some (.agg [.int .i64 p.id,.int .i64 p.num,.str p.text,.str p.pair,.lst false (p.data.map Zc)],σ,{}) :=
 Zcp (ZLQ p h) (by kernel_rfl) (by simp -implicitDefEqProofs only [ZcZ,Zby,eq_self,ZO,Zo,ZbO]) (by simp -implicitDefEqProofs only [ZcZ,ZG,Zby,eq_self,ZO,Zo,ZbO]) rfl (fun _=>rfl) _ _ _ _
def Zgw (id:Int):List Zu→AVal
 | []=>ZoO true
 | p::r=>if p.id == id then .tup [Zo p,.bool true] else Zgw id r
theorem Zuj (l:List Zu) (hl:l.length≤9223372036854775807) (hd:∀ p ∈ l,p.data.length≤140737488355328) (id:Int):∀ (r:List Zu) (i:Nat),l.drop i=r →
  ZjM 0 [(10,.int .i64 i),(9,.int .i64 l.length),(8,.lst false (l.map Zo)),(4,.ref 0 0),(0,.int .i64 id)] [.var [.int .i64 0,.int .i64 0,.str [],.str [],.lst true []]]=some (Zgw id r,[])
 | [],i,h=>by
  have h1:=Zdm h
  unfold ZjM
  rw [Zad,Zgw]
  simp -implicitDefEqProofs only [EQA,Zs,Nat.reduceAdd,Nat.reduceLT,Nat.reduceLeDiff,Nat.reduceEqDiff,reduceCtorEq,decide_false,↓reduceIte,Zd,ZqU,ZAK,ZnB,Zou,ZiJ,oI,oN,h1,ZoO,ZV,AVal.cells]
 | p::r,i,h=>by
  have ih:=Zuj l hl hd id r (i+1) (Zaf h).2.1
  have h1:(i:Int) < l.length:=by have:=(Zaf h).2.2;omega
  have e1:=iad (Zaf h).1 Zo (k:=5) rfl
  have e3:=Zc7 h1 hl
  have hC:=fun σ site own=>ZLo σ site own p (hd p (List.mem_of_getElem? (Zaf h).1))
  unfold ZjM at ih ⊢
  rw [Zad,Zgw]
  cases hb:(p.id == id)
  ·simp -implicitDefEqProofs only [EQA,ZG,Zac,ZaL,Nat.reduceAdd,Nat.reduceLT,Nat.reduceLeDiff,Nat.reduceEqDiff,Nat.reduceBEq,ne_eq,reduceCtorEq,decide_true,↓reduceIte,gcT,gcA,ZE,ZA,Zl,Zx,Z1,Zp,ZU,ZJ,ZQ,Zou,ZiJ,oI,oN,ZO,Zo,ZbO,h1,e1,e3,hb]
   exact ih
  ·simp -implicitDefEqProofs only [EQA,ZG,Zs,Nat.reduceAdd,Nat.reduceLT,Nat.reduceLeDiff,Nat.reduceEqDiff,Nat.reduceBEq,reduceCtorEq,decide_true,↓reduceIte,Zd,ZqU,Zou,ZiJ,oI,oN,ZO,Zo,ZbO,h1,e1,hb,hC]
theorem ZHV (l:List Zu) (hl:l.length≤9223372036854775807) (hd:∀ p ∈ l,p.data.length≤140737488355328) (id:Int):E 112 [.int .i64 id,Zba l] []=some (Zgw id l,[]):=by
 have:=Zuj l hl hd id l 0 rfl
 have z0:((0:Nat):Int)=0:=rfl
 rw [z0] at this
 unfold ZjM at this
 rw [Zh (by rfl) ZAQ]
 simp -implicitDefEqProofs only [EQA,Zac,ZaL,Nat.reduceLT,Nat.reduceEqDiff,Nat.reduceBEq,ne_eq,reduceCtorEq,↓reduceIte,gcT,gcA,ZE,ZA,Zl,Zx,Z1,Zp,ZU,ZJ,ZQ,ZB2,Zl1,oI,Zba]
 exact this
def ZfL (id:Int) (l:List Zu):Option Zu:=l.find? (fun p=>p.id == id)
def ZmU (b:Bool):Option Zu→AVal
 | none=>ZoO b
 | some p=>.tup [Zo p,.bool true]
theorem ZrR (id:Int):∀ l:List Zu,Zgw id l=ZmU true (ZfL id l)
 | []=>rfl
 | p::r=>by
  have ih:=ZrR id r
  unfold ZfL at ih ⊢
  rw [Zgw,List.find?_cons]
  cases h:(p.id == id)
  ·simpa using ih
  ·rfl
theorem ZB5 (σ:Za) (site own:Nat) (l:List Zu) (hl:l.length≤9223372036854775807) (hd:∀ p ∈ l,p.data.length≤140737488355328) (id:Int):Zj E BY σ site 112 own true [.int .i64 id,.lst false (l.map Zo)]=some (ZmU false (ZfL id l),σ,{}):=by
 have h:=ZHV l hl hd id
 rw [ZrR] at h
 cases hf:ZfL id l with
 | none=>rw [hf] at h;exact Zbr h (by kernel_rfl) rfl rfl rfl (fun _=>rfl) σ site own
 | some p =>
  rw [hf] at h
  exact Zbr h (by kernel_rfl) rfl rfl rfl (fun _=>rfl) σ site own
def ZeN:Zu:=⟨0,0,[],[],[]⟩
theorem ZF6 (o:Option Zu):ZmU false o=.tup [.agg [.int .i64 (o.getD ZeN).id,.int .i64 (o.getD ZeN).num,.str (o.getD ZeN).text,.str (o.getD ZeN).pair,.lst false ((o.getD ZeN).data.map Zc)],.bool o.isSome]:=by
 cases o <;> rfl
end Go.Proofs.YtmlkhhidifjjfaaDoor
namespace Go.Proofs.YtmlkhhidifjjfaaDoor
set_option maxHeartbeats 8000000
set_option maxRecDepth 10000
def Zg9 (id w:Int):Bool:=id == 38 || (id == 11 && w == 3)
def Zgh (id num:Int):Bool:=if id == 11 || id == 33 || id == 35 || id == 39 then num != 0 else Zb1 id != 1 || decide (num≤1)
theorem ZCo (id w:Int):E 155 [.int .i64 id,.int .i64 w] []=some (.bool (Zg9 id w),[]):=by
 rw [Zh (by rfl) ZAA]
 unfold Zg9
 cases h1:(id == 38) <;> cases h2:(id == 11)
 all_goals simp -implicitDefEqProofs only [EQA,Nat.reduceLT,Nat.reduceEqDiff,Zz,Zau,unG,ne_eq,Option.some.injEq,reduceCtorEq,decide_false,↓reduceIte,ZHb,Zob,ZCi,oI,h1,h2]
theorem ZJN (σ:Za) (site own:Nat) (id w:Int):Zj E BY σ site 155 own true [.int .i64 id,.int .i64 w]=some (.bool (Zg9 id w),σ,{}) :=
 Zbr (ZCo id w) (by kernel_rfl) rfl rfl rfl (fun _=>rfl) _ _ _
theorem ZML (p:Zu):E 156 [Zo p] []=some (.bool (Zgh p.id p.num),[]):=by
 have hC:=fun σ site own=>ZiK σ site own p.id
 rw [Zh (by rfl) ZFk]
 unfold Zgh
 cases h1:(p.id == 11) <;> cases h2:(p.id == 33) <;> cases h3:(p.id == 35) <;> cases h4:(p.id == 39)
 all_goals simp -implicitDefEqProofs only [EQA,ZG,Zac,ZHD,Zds,Nat.reduceLT,Nat.reduceEqDiff,Nat.reduceBEq,Zz,Zau,unG,ne_eq,Option.some.injEq,decide_false,ite_self,↓reduceIte,ZJF,Znf,ZBd,oI,ZO,Zo,ZbO,hC,h1,h2,h3,h4]
theorem ZzW (σ:Za) (site own:Nat) (p:Zu):Zj E BY σ site 156 own true [.agg [.int .i64 p.id,.int .i64 p.num,.str p.text,.str p.pair,.lst false (p.data.map Zc)]]=some (.bool (Zgh p.id p.num),σ,{}) :=
 Zbr (ZML p) (by kernel_rfl) rfl rfl rfl (fun _=>rfl) _ _ _
end Go.Proofs.YtmlkhhidifjjfaaDoor
namespace Go.Proofs.YtmlkhhidifjjfaaDoor
set_option maxHeartbeats 8000000
set_option maxRecDepth 10000
theorem Zry:∀ (b:Zb) (i n:Nat),(gvA i n b).2.2=0→i < (gvA i n b).2.1∧(gvA i n b).2.1≤i+b.length
 | [],i,n,h=>by
  unfold gvA at h
  split at h <;> simp at h
 | c::r,i,n,h=>by
  unfold gvA at h ⊢
  split at h
  ·simp at h
  ·rename_i h4
   rw [if_neg h4]
   split at h
   ·rename_i hc
    rw [if_pos hc]
    split at h
    ·simp at h
    ·rename_i h0
     rw [if_neg h0]
     simp
   ·rename_i hc
    rw [if_neg hc]
    have:=Zry r (i+1) _ h
    simp only [List.length_cons]
    omega
theorem Zo2 (b:Zb) (h:(ZT b).2.2=0):0 < (ZT b).2.1∧(ZT b).2.1≤b.length:=by
 have:=Zry b 0 0 h
 simpa [ZT] using this
theorem ZGa (id:Int) (b:Zb):(ZcW id b).1.id=id:=by
 unfold ZcW Zfj Zf8 Zg0
 repeat' split
 all_goals rfl
theorem ZEV (id:Int) (b:Zb):(ZcW id b).1.data.length≤b.length:=by
 unfold ZcW Zfj Zf8 Zg0
 repeat' split
 all_goals first
  | exact (Zlr b).2
  | exact Nat.zero_le _
theorem ZsD:∀ (b:Zb) (i n:Nat),(gvA i n b).2.1≤i+b.length
 | [],i,n=>by unfold gvA;split <;> simp
 | c::r,i,n=>by
  unfold gvA
  repeat' split
  all_goals simp only [List.length_cons]
  all_goals first
   | omega
   | (have:=ZsD r (i+1) (n+c.toNat % 128*128 ^ i);omega)
theorem ZtH (b:Zb):(ZT b).2.1≤b.length:=by simpa [ZT] using ZsD b 0 0
theorem Zrc (id:Int) (b:Zb):(ZcW id b).2.1≤b.length:=by
 have h1:=(ZhU b).1
 have h2:=(ZhU (b.drop (Zab b).2.1)).1
 have h3:=ZtH b
 have h4:=(Zlr b).1
 simp only [List.length_drop] at h2
 unfold ZcW Zfj Zf8 Zg0
 repeat' split
 all_goals simp only
 all_goals omega
def ZmL (w:Int) (l:List Zu) (id:Int) (u:Nat) (v:Zu×Nat×Bool):Zu×Nat×Int :=
 if v.2.2=false then (v.1,0,129) else if ((ZfL id l).isSome && !Zg9 id w)=true then (v.1,0,130) else
 if Zgh v.1.id v.1.num=true then (v.1,u+v.2.1,0) else if (id == 35)=true then (v.1,0,148) else (v.1,0,130)
def ZbT (w:Int) (b:Zb) (l:List Zu):Zu×Nat×Int :=
 if (ZT b).2.2≠0∨ZgU ((ZT b).1:Nat) w=false then (ZeN,0,129)
 else ZmL w l ((ZT b).1:Nat) (ZT b).2.1 (ZcW ((ZT b).1:Nat) (b.drop (ZT b).2.1))
def Zc3 (f:Bool) (x:Zu×Nat×Int):AVal:=.tup [.agg [.int .i64 x.1.id,.int .i64 x.1.num,.str x.1.text,.str x.1.pair,.lst f (x.1.data.map Zc)],.int .i64 (x.2.1:Nat),.int .i64 x.2.2]
theorem ZtB (w:Int) (b:Zb) (l:List Zu) (hl:b.length≤140737488355328) (hl2:l.length≤9223372036854775807) (hd:∀ p ∈ l,p.data.length≤140737488355328):∃ f,E 136 [.int .i64 w,ZO b,Zba l] []=some (Zc3 f (ZbT w b l),[]):=by
 have hGV:=fun σ site own f=>Zns σ site own f b (by omega)
 have hu:=Zo2 b
 unfold ZbT
 rcases hx:ZT b with ⟨n,u,e⟩
 rw [hx] at hGV hu
 unfold gvT at hGV
 simp only at hGV hu ⊢
 have hM:=fun σ site own=>ZAX σ site own (n:Int) w
 by_cases he:e=0
 ·subst he
  have n0:((0:Int) != 0)=false:=rfl
  cases hm:ZgU (n:Int) w
  ·refine ⟨true,?_⟩
   rw [hm] at hM
   have hc:(0:Int)≠0∨false=false:=Or.inr rfl
   rw [if_pos hc,Zh (by rfl) Zfp]
   unfold Zc3 ZeN
   simp -implicitDefEqProofs only [EQA,Zs,Nat.reduceAdd,Nat.reduceLT,Nat.reduceLeDiff,Nat.reduceEqDiff,Nat.reduceBEq,unA,Zz,unG,ne_eq,Option.some.injEq,reduceCtorEq,decide_false,↓reduceIte,Zd,Zfs,Zeg,ZfX,oI,oN,ZO,Zba,hGV,hM,n0,AVal.cells]
   rfl
  ·refine ⟨false,?_⟩
   rw [hm] at hM
   have hc:¬((0:Int)≠0∨true=false):=by simp
   rw [if_neg hc]
   have hul:=(hu rfl).2
   have hs:=fun σ kk=>Zff σ b kk ((u:Nat):Int) (by omega) (by omega)
   have e2:(((u:Nat):Int)).toNat=u:=rfl
   rw [e2] at hs
   have hV:=fun σ site own f=>ZLR σ site own f (n:Int) (b.drop u) (by simp;omega)
   have hF:=fun σ site own=>ZB5 σ site own l hl2 hd (n:Int)
   have hO:=fun σ site own=>ZJN σ site own (n:Int) w
   have hid:=ZGa (n:Int) (b.drop u)
   have hused:(ZcW (n:Int) (b.drop u)).2.1≤b.length:=Nat.le_trans (Zrc _ _) (by simp)
   have hT:=fun σ site own=>ZzW σ site own (ZcW (n:Int) (b.drop u)).1
   unfold Zcv at hV
   simp only [ZF6] at hF
   unfold ZmL
   generalize ZcW (n:Int) (b.drop u)=v at *
   obtain ⟨p,m,ok⟩:=v
   simp only at hV hT hid hused ⊢
   have hw:IntKind.i64.wrap ((u:Int)+(m:Int))=((u+m:Nat):Int):=by
    rw [Zb3 (by omega) (by omega)];rfl
   generalize (ZfL (n:Int) l).getD ZeN=q at *
   cases ok
   ·rw [Zh (by rfl) Zfp]
    unfold Zc3
    simp -implicitDefEqProofs only [EQA,Zs,Nat.reduceAdd,Nat.reduceLT,Nat.reduceLeDiff,Nat.reduceEqDiff,Nat.reduceBEq,unA,Zz,unG,ne_eq,Option.some.injEq,reduceCtorEq,decide_false,↓reduceIte,Zd,Zfs,Zeg,ZfX,oI,oN,ZO,Zba,hGV,hM,hs,hV,hF,n0,AVal.cells]
    rfl
   ·cases h1:(ZfL (n:Int) l).isSome <;> rw [h1] at hF
    ·cases h3:Zgh p.id p.num <;> rw [h3] at hT
     ·cases h4:((n:Int) == 35)
      all_goals rw [Zh (by rfl) Zfp]
      all_goals unfold Zc3
      all_goals simp -implicitDefEqProofs only [EQA,Zs,Nat.reduceAdd,Nat.reduceLT,Nat.reduceLeDiff,Nat.reduceEqDiff,Nat.reduceBEq,unA,Zz,Zau,unG,ne_eq,Option.some.injEq,reduceCtorEq,decide_false,↓reduceIte,Zd,Zfs,Zeg,ZfX,oI,oN,ZO,Zba,hGV,hM,hs,hV,hF,hT,h4,n0,AVal.cells]
      all_goals rfl
     ·rw [Zh (by rfl) Zfp]
      unfold Zc3
      simp -implicitDefEqProofs only [EQA,Zs,Nat.reduceAdd,Nat.reduceLT,Nat.reduceLeDiff,Nat.reduceEqDiff,Nat.reduceBEq,unA,Zz,Zau,unG,ne_eq,Option.some.injEq,reduceCtorEq,decide_false,↓reduceIte,Zd,Zfs,Zeg,ZfX,oI,oN,ZO,Zba,hGV,hM,hs,hV,hF,hT,hw,n0,AVal.cells]
    ·cases h2:Zg9 (n:Int) w <;> rw [h2] at hO
     ·rw [Zh (by rfl) Zfp]
      unfold Zc3
      simp -implicitDefEqProofs only [EQA,Zs,Nat.reduceAdd,Nat.reduceLT,Nat.reduceLeDiff,Nat.reduceEqDiff,Nat.reduceBEq,unA,Zz,unG,ne_eq,Option.some.injEq,reduceCtorEq,decide_false,↓reduceIte,Zd,Zfs,Zeg,ZfX,oI,oN,ZO,Zba,hGV,hM,hs,hV,hF,hO,n0,AVal.cells]
      rfl
     ·cases h3:Zgh p.id p.num <;> rw [h3] at hT
      ·cases h4:((n:Int) == 35)
       all_goals rw [Zh (by rfl) Zfp]
       all_goals unfold Zc3
       all_goals simp -implicitDefEqProofs only [EQA,Zs,Nat.reduceAdd,Nat.reduceLT,Nat.reduceLeDiff,Nat.reduceEqDiff,Nat.reduceBEq,unA,Zz,unG,ne_eq,Option.some.injEq,reduceCtorEq,decide_false,↓reduceIte,Zd,Zfs,Zeg,ZfX,oI,oN,ZO,Zba,hGV,hM,hs,hV,hF,hT,hO,h4,n0,AVal.cells]
       all_goals rfl
      ·rw [Zh (by rfl) Zfp]
       unfold Zc3
       simp -implicitDefEqProofs only [EQA,Zs,Nat.reduceAdd,Nat.reduceLT,Nat.reduceLeDiff,Nat.reduceEqDiff,Nat.reduceBEq,unA,Zz,unG,ne_eq,Option.some.injEq,reduceCtorEq,decide_false,↓reduceIte,Zd,Zfs,Zeg,ZfX,oI,oN,ZO,Zba,hGV,hM,hs,hV,hF,hT,hO,hw,n0,AVal.cells]
 ·refine ⟨true,?_⟩
  have hc:e≠0∨ZgU (n:Int) w=false:=Or.inl he
  have n1:(e != 0)=true:=by simpa using he
  rw [if_pos hc,Zh (by rfl) Zfp]
  unfold Zc3 ZeN
  simp -implicitDefEqProofs only [EQA,Zs,Nat.reduceAdd,Nat.reduceLT,Nat.reduceLeDiff,Nat.reduceEqDiff,Nat.reduceBEq,Zz,Zau,ne_eq,Option.some.injEq,reduceCtorEq,decide_false,↓reduceIte,Zd,Zfs,Zeg,ZfX,oI,oN,ZO,Zba,hGV,n1,AVal.cells]
  rfl
end Go.Proofs.YtmlkhhidifjjfaaDoor
namespace Go.Proofs.YtmlkhhidifjjfaaDoor
set_option maxHeartbeats 8000000
set_option maxRecDepth 10000
def ZdZ (w:Int):Nat→Zb→List Zu→List Zu×Int
 | _,[],l=>(l,0)
 | 0,_::_,_=>([],129)
 | n+1,c::r,l=>if (ZbT w (c::r) l).2.2=0 then ZdZ w n ((c::r).drop (ZbT w (c::r) l).2.1) (l++[(ZbT w (c::r) l).1]) else ([],(ZbT w (c::r) l).2.2)
def Z0 (w:Int) (b:Zb):List Zu×Nat×Int :=
 if (ZT b).2.2≠0∨((ZT b).1:Int) > (b.length:Int) - ((ZT b).2.1:Nat) then ([],0,129)
 else if (ZdZ w (ZT b).1 ((b.take ((ZT b).2.1+(ZT b).1)).drop (ZT b).2.1) []).2=0 then
  ((ZdZ w (ZT b).1 ((b.take ((ZT b).2.1+(ZT b).1)).drop (ZT b).2.1) []).1,(ZT b).2.1+(ZT b).1,0)
 else ([],0,(ZdZ w (ZT b).1 ((b.take ((ZT b).2.1+(ZT b).1)).drop (ZT b).2.1) []).2)
def ZiF (u:Nat) (x:List Zu×Int):AVal×Za:=if x.2=0 then (.tup [Zef (x.1.map Zo),.int .i64 (u:Nat),.int .i64 0],Zev 5 (x.1.map Zo)) else (.tup [.lst true [],.int .i64 0,.int .i64 x.2],[])
theorem ZsF {w:Int} {b:Zb} {l:List Zu} (h:(ZbT w b l).2.2=0):0 < (ZbT w b l).2.1∧(ZbT w b l).2.1≤b.length∧(ZbT w b l).1.data.length≤b.length:=by
 unfold ZbT at h ⊢
 split at h
 ·simp at h
 ·rename_i hc
  rw [if_neg hc]
  have hc0:(ZT b).2.2=0:=Decidable.byContradiction fun h=>hc (Or.inl h)
  have h1:=Zo2 b hc0
  have h2:=Zrc ((ZT b).1:Nat) (b.drop (ZT b).2.1)
  have h3:=ZEV ((ZT b).1:Nat) (b.drop (ZT b).2.1)
  simp only [List.length_drop] at h2 h3
  unfold ZmL at h ⊢
  generalize ZcW ((ZT b).1:Nat) (b.drop (ZT b).2.1)=v at *
  repeat' (split at h)
  all_goals first
   | (simp at h;done)
   | skip
  rename_i a1 a2 a3
  rw [if_neg a1,if_neg a2,if_pos a3]
  simp only
  omega
theorem Zjj {xs:List AVal} (h:0 < xs.length):Zef xs=.sl 0 0 0 xs.length:=by
 cases xs with
 | nil=>simp at h
 | cons x xs=>rfl
theorem ZkR {k:Nat} {xs:List AVal} (h:0 < xs.length):Zev k xs=[.row 0 k xs]:=by
 cases xs with
 | nil=>simp at h
 | cons x xs=>rfl
theorem ZK8 (l:List Zu):Zkc (l.map Zo)=true:=by
 unfold Zkc
 rw [List.all_eq_true]
 intro x hx
 obtain ⟨p,_,rfl⟩:=List.mem_map.1 hx
 rfl
theorem ZyA (b:Zb):(b.map Zc).all Zj0=true:=by
 rw [List.all_eq_true]
 intro x hx
 obtain ⟨p,_,rfl⟩:=List.mem_map.1 hx
 rfl
theorem ZCc (σ:Za) (site own:Nat) (f g:Bool) (w:Int) (b:Zb) (l:List Zu) (hl:b.length≤140737488355328) (hl2:l.length≤9223372036854775807) (hd:∀ p ∈ l,p.data.length≤140737488355328) :
  Zj E BY σ site 136 own true [.int .i64 w,.lst f (b.map Zc),.lst g (l.map Zo)]=some (Zc3 false (ZbT w b l),σ,{}):=by
 obtain ⟨f',h⟩:=ZtB w b l hl hl2 hd
 exact Zbr h (by kernel_rfl) rfl rfl (by cases f' <;> rfl) (fun _=>rfl) _ _ _
theorem Zyb (σ:Za) (site own:Nat) (f:Bool) (w:Int) (b:Zb) (l:List Zu) (hl:b.length≤140737488355328) (hl2:l.length≤9223372036854775807) (hd:∀ p ∈ l,p.data.length≤140737488355328) :
  Zj E BY (.row 0 5 (l.map Zo)::σ) site 136 own true [.int .i64 w,.lst f (b.map Zc),.sl 0 0 0 (l.map Zo).length]=some (Zc3 false (ZbT w b l),.row 0 5 (l.map Zo)::σ,{ rd:=[0] }):=by
 obtain ⟨f',h⟩:=ZtB w b l hl hl2 hd
 refine ZLJ (vs:=[.int .i64 w,ZO b,Zba l]) (by kernel_rfl) ?_ rfl rfl h (r':=Zc3 false (ZbT w b l)) (by cases f' <;> rfl) ?_ _ _
 ·simp [showAs,showA,ZcL,Z6,ZO,Zba]
  exact List.take_of_length_le (by simp)
 ·have h1:=ZK8 l
  have h2:=ZyA (ZbT w b l).1.data
  unfold Zdf
  simp only [List.isEmpty_cons,Bool.not_false,Zc3,Zh0,Zhr,Zhc,List.all_cons,List.all_nil,ZaV,h2,Zfv,List.getElem?_cons_zero,h1,Bool.and_self]
theorem ZqY (w:Int) (n:Nat) (l:List Zu):ZdZ w n [] l=(l,0):=by cases n <;> rfl
theorem ZrP (w:Int) (n:Nat) (c:UInt8) (r:Zb) (l:List Zu):ZdZ w (n+1) (c::r) l=if (ZbT w (c::r) l).2.2=0 then ZdZ w n ((c::r).drop (ZbT w (c::r) l).2.1) (l++[(ZbT w (c::r) l).1]) else ([],(ZbT w (c::r) l).2.2):=rfl
theorem ZvM (w:Int) (N U:Nat) (hU:U+N≤140737488355328) (l:List Zu) :
  ZhK 0 [(10,.lst false []),(8,.int .i64 (U:Nat)),(7,.int .i64 (N:Nat)),(4,Zef (l.map Zo)),(0,.int .i64 w)] (Zev 5 (l.map Zo))=some (ZiF (U+N) (l,0)):=by
 have hw:IntKind.i64.wrap ((U:Int)+(N:Int))=((U+N:Nat):Int):=by rw [Zb3 (by omega) (by omega)];rfl
 have h1:¬(((0:Nat):Int) > 0):=by simp
 unfold ZiF ZhK
 rw [Zad]
 cases l with
 | nil =>
  simp -implicitDefEqProofs only [EQA,Zs,Nat.reduceLT,Nat.reduceEqDiff,reduceCtorEq,decide_false,↓reduceIte,Zd,ZhN,Zr9,ZjN,Zhd,Zf2,oI,oN,Zfq,Zfo,hw,h1]
  try (simp [Zal,gcA,ZE,ZA,Zr,ZZ,Zl,Zx,Z1,Zp,ZU,Ze,Zk,ZJ,ZQ,List.range_succ])
 | cons p l =>
  generalize hX:(p::l).map Zo=X
  have hpos:0 < X.length:=by rw [←hX];simp
  simp only [Zjj hpos,ZkR hpos]
  simp -implicitDefEqProofs only [EQA,Nat.reduceLT,Nat.reduceEqDiff,reduceCtorEq,decide_false,↓reduceIte,ZhN,Zr9,ZjN,Zhd,Zf2,oI,oN,hw,h1]
  simp [Zal,gcA,ZE,ZA,Zr,ZZ,Zl,Zx,Z1,Zp,ZU,Ze,Zk,ZJ,ZQ]
theorem Zui (w:Int) (N U:Nat) (hU:U+N≤140737488355328) (hN9:N≤1000000000):∀ (n:Nat) (b:Zb) (l:List Zu),b.length≤n→l.length+b.length≤N→(∀ p ∈ l,p.data.length≤140737488355328) →
  ZhK 0 [(10,.lst false (b.map Zc)),(8,.int .i64 (U:Nat)),(7,.int .i64 (N:Nat)),(4,Zef (l.map Zo)),(0,.int .i64 w)] (Zev 5 (l.map Zo))=some (ZiF (U+N) (ZdZ w n b l))
 | n,[],l,hb,hN,hd=>by
  rw [ZqY]
  exact ZvM w N U hU l
 | 0,c::r,l,hb,hN,hd=>by simp at hb
 | n+1,c::r,l,hb,hN,hd=>by
  rw [ZrP]
  generalize hB:c::r=b at *
  have hlen:0 < b.length:=by rw [←hB];simp
  have hpos:((b.length:Nat):Int) > 0:=by omega
  have hC:=fun σ site own f g=>ZCc σ site own f g w b l (by omega) (by omega) hd
  have hS:=fun σ site own f=>Zyb σ site own f w b l (by omega) (by omega) hd
  have hu:=ZsF (w:=w) (b:=b) (l:=l)
  unfold Zc3 at hC hS
  rcases hx:ZbT w b l with ⟨p,m,e⟩
  rw [hx] at hC hS hu
  simp only at hC hS hu ⊢
  by_cases he:e=0
  ·subst he
   obtain ⟨u1,u2,u3⟩:=hu rfl
   have n0:((0:Int) != 0)=false:=rfl
   rw [if_pos rfl]
   have ih:=Zui w N U hU hN9 n (b.drop m) (l++[p]) (by simp;omega) (by simp;omega) (by
    intro q hq
    rcases List.mem_append.1 hq with h | h
    ·exact hd q h
    ·simp at h;subst h;omega)
   have hs:=fun σ kk=>Zff σ b kk ((m:Nat):Int) (by omega) (by omega)
   have e2:(((m:Nat):Int)).toNat=m:=rfl
   rw [e2] at hs
   generalize ZdZ w n (b.drop m) (l++[p])=R at *
   unfold ZhK at ih ⊢
   rw [Zad]
   cases l with
   | nil =>
    simp only [List.map_nil] at hC
    simp only [List.nil_append,List.map_cons,List.map_nil,ZhJ,Zhj,Zfq,Zfo,List.length_cons,List.length_nil,Nat.zero_add,Zo,ZbO,ZO] at ih ⊢
    simp -implicitDefEqProofs only [EQA,Zac,ZaL,Nat.reduceAdd,Nat.reduceLT,Nat.reduceLeDiff,Nat.reduceEqDiff,Nat.reduceBEq,ne_eq,reduceCtorEq,decide_true,Z6,↓reduceIte,gcT,gcA,ZE,ZA,Zl,Zx,Z1,Zp,ZU,ZJ,ZQ,Zhd,Zf2,oI,oN,hpos,hC,n0,hs,Zbk,kOk,viewAs,ZN,ZL,ZaM,Zn,List.foldl_cons,List.foldl_nil,Nat.one_mul,AVal.cells]
    exact ih
   | cons a l =>
    have hXl:((a::l).map Zo).length=l.length+1:=by simp
    rw [List.map_append] at ih
    generalize hX:(a::l).map Zo=X at *
    have hXp:0 < X.length:=by omega
    have hXq:0 < (X++[p].map Zo).length:=by rw [List.length_append];omega
    simp only [Zjj hXp,ZkR hXp,Zjj hXq,ZkR hXq] at ih ⊢
    have hk:kOk 5 X=true:=by rw [←hX];rfl
    have hb9:(X.length+1)*72≤140737488355328:=by simp at hN;omega
    try simp only [List.map_cons,List.map_nil,Zo,ZbO,ZO,List.length_append,List.length_cons,List.length_nil,Nat.zero_add] at ih
    simp -implicitDefEqProofs only [EQA,Zac,ZaL,Nat.reduceAdd,Nat.reduceLT,Nat.reduceLeDiff,Nat.reduceEqDiff,Nat.reduceBEq,ne_eq,reduceCtorEq,decide_true,Z6,↓reduceIte,gcT,gcA,ZE,ZA,Zl,Zx,Z1,Zp,ZU,ZJ,ZQ,Zhd,Zf2,oI,oN,hpos,hS,n0,hs,hb9,Zbk,kOk,viewAs,ZN,ZL,ZaM,Zn,List.foldl_cons,List.foldl_nil,AVal.cells]
    exact ih
  ·have n1:(e != 0)=true:=by simpa using he
   rw [if_neg he]
   unfold ZiF ZhK
   simp only
   rw [if_neg he,Zad]
   cases l with
   | nil =>
    simp only [List.map_nil,Zfq,Zfo] at hC ⊢
    simp -implicitDefEqProofs only [EQA,Zs,Nat.reduceAdd,Nat.reduceLT,Nat.reduceLeDiff,Nat.reduceEqDiff,Nat.reduceBEq,reduceCtorEq,decide_true,↓reduceIte,Zd,ZhN,Zhd,Zf2,oI,oN,hpos,hC,n1,AVal.cells]
    try (simp [Zal,gcA,ZE,ZA,Zr,ZZ,Zl,Zx,Z1,Zp,ZU,Ze,Zk,ZJ,ZQ,List.range_succ])
   | cons a l =>
    generalize hX:(a::l).map Zo=X at *
    have hXp:0 < X.length:=by rw [←hX];simp
    simp only [Zjj hXp,ZkR hXp]
    simp -implicitDefEqProofs only [EQA,Zs,Nat.reduceAdd,Nat.reduceLT,Nat.reduceLeDiff,Nat.reduceEqDiff,Nat.reduceBEq,reduceCtorEq,decide_true,↓reduceIte,Zd,ZhN,Zhd,Zf2,oI,oN,hpos,hS,n1,AVal.cells]
    try (simp [Zal,gcA,ZE,ZA,Zr,ZZ,Zl,Zx,Z1,Zp,ZU,Ze,Zk,ZJ,ZQ,List.range_succ])
theorem Zs0:∀ (b:Zb) (i n:Nat),i≤4→n < 128 ^ i→(gvA i n b).1 < 268435456
 | [],i,n,hi,hn=>by unfold gvA;split <;> simp
 | c::r,i,n,hi,hn=>by
  have ha:c.toNat % 128 < 128:=Nat.mod_lt _ (by decide)
  unfold gvA
  split
  ·simp
  ·rename_i h4
   have hb:=ZqK n i _ hn ha
   have hp:128 ^ (i+1)≤128 ^ 4:=Nat.pow_le_pow_right (by decide) (by omega)
   split
   ·split
    ·simp
    ·simp only;omega
   ·exact Zs0 r (i+1) _ (by omega) hb
theorem ZoT (b:Zb):(ZT b).1 < 268435456:=Zs0 b 0 0 (by omega) (by simp)
def ZtZ (x:List Zu×Nat×Int):AVal×Za:=(.tup [Zef (x.1.map Zo),.int .i64 (x.2.1:Nat),.int .i64 x.2.2],Zev 5 (x.1.map Zo))
theorem ZvN (w:Int) (b:Zb) (hl:b.length≤140737488355328):E 90 [.int .i64 w,ZO b] []=some (ZtZ (Z0 w b)):=by
 have hGV:=fun σ site own f=>Zns σ site own f b (by omega)
 have hu:=Zo2 b
 have hlt:=ZoT b
 have hle:=ZtH b
 unfold Z0 ZtZ
 rcases hx:ZT b with ⟨n,u,e⟩
 rw [hx] at hGV hu hlt hle
 unfold gvT at hGV
 simp only at hGV hu hlt hle ⊢
 have hw:IntKind.i64.wrap ((b.length:Int) - (u:Int))=(b.length:Int) - (u:Int):=Zb3 (by omega) (by omega)
 by_cases he:e=0
 ·subst he
  have n0:((0:Int) != 0)=false:=rfl
  by_cases hn:(n:Int) > (b.length:Int) - (u:Int)
  ·rw [if_pos (Or.inr hn),Zh (by rfl) Znx]
   simp -implicitDefEqProofs only [EQA,Zs,Nat.reduceLT,Nat.reduceEqDiff,Zz,unG,ne_eq,Option.some.injEq,reduceCtorEq,decide_true,decide_false,↓reduceIte,Zd,Znr,Zie,ZhN,oI,ZO,hGV,n0,hw,hn]
   simp []
   exact ⟨rfl,rfl⟩
  ·have hc:¬((0:Int)≠0∨(n:Int) > (b.length:Int) - (u:Int)):=by simpa using hn
   rw [if_neg hc,Zh (by rfl) Znx]
   have hw2:IntKind.i64.wrap ((u:Int)+(n:Int))=((u+n:Nat):Int):=by rw [Zb3 (by omega) (by omega)];rfl
   have hs:=fun σ k1 k2=>ZuL σ b k1 k2 ((u:Nat):Int) ((u+n:Nat):Int) (by omega) (by omega) (by omega)
   have e1:(((u:Nat):Int)).toNat=u:=rfl
   have e2:(((u+n:Nat):Int)).toNat=u+n:=rfl
   rw [e1,e2] at hs
   have key:=Zui w n u (by omega) (by omega) n ((b.take (u+n)).drop u) [] (by simp;omega) (by simp;omega) (by simp)
   generalize (b.take (u+n)).drop u=B at *
   unfold ZhK at key
   simp only [List.map_nil,Zfq,Zfo] at key
   simp -implicitDefEqProofs only [EQA,Zac,Nat.reduceLT,Nat.reduceEqDiff,Zz,unG,ne_eq,Option.some.injEq,reduceCtorEq,decide_false,↓reduceIte,gcT,gcA,ZE,ZA,Zx,ZQ,Znr,Zie,oI,ZO,hGV,n0,hw,hn,hw2,hs]
   rw [key]
   unfold ZiF
   split <;> rfl
 ·have n1:(e != 0)=true:=by simpa using he
  rw [if_pos (Or.inl he),Zh (by rfl) Znx]
  simp -implicitDefEqProofs only [EQA,Zs,Nat.reduceLT,Nat.reduceEqDiff,Zz,Zau,ne_eq,Option.some.injEq,reduceCtorEq,decide_false,↓reduceIte,Zd,Znr,Zie,ZhN,oI,ZO,hGV,n1]
  simp []
  exact ⟨rfl,rfl⟩
theorem ZyX {σ:Za} {x:AVal} (h:ZaV x=true):ZN σ x=some (x,[])∧ZZ x=[]∧∀ ρ,Zk ρ x=x:=by
 cases x <;> simp [ZaV] at h <;> simp [ZN,ZL,ZZ,Zk]
theorem ZkO {σ:Za}:∀ {vs:List AVal},vs.all ZaV=true→viewAs σ vs=some (vs,[])∧Zr vs=[]∧∀ ρ,Ze ρ vs=vs
 | [],_=>⟨rfl,rfl,fun _=>rfl⟩
 | x::xs,h=>by
  simp only [List.all_cons,Bool.and_eq_true] at h
  obtain ⟨a1,a2,a3⟩:=ZyX (σ:=σ) h.1
  obtain ⟨b1,b2,b3⟩:=ZkO (σ:=σ) h.2
  refine ⟨by simp only [viewAs,a1,b1,List.append_nil],by simp only [Zr,a2,b2,List.append_nil],fun ρ=>by simp only [Ze,a3,b3]⟩
theorem ZzT {O:ZR} {byref:Nat→Bool} {f k:Nat} {args args':List AVal} {full vs:List AVal} (h:O f args' []=some (.tup (Zef full::vs),Zev k full)) (hv:vs.all ZaV=true) (hb:byref f=false) (hp:args.all Z4=true) (hn:args.map ZH=args') (σ:Za) (site own:Nat):Zj O byref σ site f own true args=some (.tup (.lst false full::vs),σ,{}):=by
 have hr:∀ site,Zk (ZaB [] [] site) (.tup (.lst false full::vs))=.tup (.lst false full::vs):=fun site=>by
  simp only [Zk,Ze,(ZkO (σ:=[]) hv).2.2]
 rw [ZgL hb hp,hn,h]
 have : Zae true 0 (some (.tup (Zef full::vs),Zev k full))=some (.tup (.lst false full::vs),[]):=by
  unfold Zae
  rw [if_pos rfl]
  cases full with
  | nil =>
   obtain ⟨b1,b2,b3⟩:=ZkO (σ:=[]) hv
   simp [Zfq,Zfo,ZbI,viewR,viewAs,ZN,ZL,b1,Zn,gcA,ZE,ZA,Zr,ZZ,b2,Ze,Zk,b3,Zx]
  | cons x xs =>
   obtain ⟨b1,b2,b3⟩:=ZkO (σ:=[ZM.row 0 k (x::xs)]) hv
   simp only [ZhJ,Zhj]
   generalize x::xs=X at *
   simp [ZbI,viewR,viewAs,ZN,ZL,Z6,b1,Zn,gcA,ZE,ZA,Zr,ZZ,b2,Ze,Zk,b3,Zx]
 rw [this,ZiM _ _ _ _ (hr site)]
theorem ZkL (σ:Za) (site own:Nat) (f:Bool) (w:Int) (b:Zb) (hl:b.length≤140737488355328):Zj E BY σ site 90 own true [.int .i64 w,.lst f (b.map Zc)]=some (.tup [.lst false ((Z0 w b).1.map Zo),.int .i64 ((Z0 w b).2.1:Nat),.int .i64 (Z0 w b).2.2],σ,{}) :=
 ZzT (k:=5) (ZvN w b hl) rfl (by kernel_rfl) rfl rfl _ _ _
end Go.Proofs.YtmlkhhidifjjfaaDoor
namespace Go.Proofs.YtmlkhhidifjjfaaDoor
end Go.Proofs.YtmlkhhidifjjfaaDoor
namespace Go.Proofs.YtmlkhhidifjjfaaDoor
set_option maxHeartbeats 8000000
set_option maxRecDepth 10000
structure Zd5 where
 b:Zb
 short:Bool
def ZgF (b:Zb):Int:=IntKind.i64.wrap (Zcw b:Int)
end Go.Proofs.YtmlkhhidifjjfaaDoor
namespace Go.Proofs.YtmlkhhidifjjfaaDoor
def Za8:Zf:=(.seq (.region [oI 1 (.box (.t 0))] none [1]) (.seq (.region [oI 4 (.ld none (.t 1)),oI 5 (.nilchk (.t 4)),oI 6 (.faddr 0 (.t 5)),oI 2 (.alloc [.nilp]),oN (.st 1 (.t 2) (.t 6))] none [2,1]) (.seq (.seq (.region [oI 7 (.ld none (.t 2)),oI 8 (.nilchk (.t 7)),oI 9 (.faddr 0 (.t 8)),oI 10 (.ld none (.t 9))] none [10,2,1]) (.block 0 (.seq (.region [oI 12 (.bin .eql (.t 10) (.c (.int .i64 1))),oI 11 (.mov (.t 12))] none [11,10,2,1]) (.cond (.t 11) (.region [oI 13 (.ld none (.t 1)),oI 14 (.call 114 0 true [(.t 13)])] none [1]) (.seq (.region [oI 16 (.bin .eql (.t 10) (.c (.int .i64 2))),oI 15 (.mov (.t 16))] none [15,10,2,1]) (.cond (.t 15) (.seq (.region [oI 17 (.ld none (.t 1)),oI 18 (.call 115 0 true [(.t 17),(.c (.int .i64 1))]),oI 3 (.mov (.t 18))] none [3,2,1]) (.seq (.region [oI 19 (.mov (.t 3)),oI 20 (.bin .lss (.t 19) (.c (.int .i64 2))),oI 21 (.call 113 0 true [(.t 20),(.c (.int .i64 129))])] none [3,2,1]) (.seq (.region [oI 22 (.ld none (.t 2)),oI 23 (.mov (.t 3)),oI 24 (.bin .eql (.t 23) (.c (.int .i64 1))),oI 25 (.nilchk (.t 22)),oI 26 (.faddr 25 (.t 25)),oN (.st 1 (.t 26) (.t 24))] none [2,1]) (.seq (.region [oI 27 (.ld none (.t 2)),oI 28 (.ld none (.t 1)),oI 29 (.call 116 0 true [(.t 28)]),oI 30 (.nilchk (.t 27)),oI 31 (.faddr 7 (.t 30)),oN (.st 1 (.t 31) (.t 29))] (some [(0,1),(0,2),(2,2)]) [2,1]) (.region [oI 32 (.ld none (.t 2)),oI 33 (.ld none (.t 1)),oI 34 (.call 117 0 true [(.t 33),(.c (.int .i64 2))]),oI 35 (.nilchk (.t 32)),oI 36 (.faddr 9 (.t 35)),oN (.st 1 (.t 36) (.t 34))] (some [(0,1),(0,2),(2,2)]) [1]))))) (.seq (.region [oI 38 (.bin .eql (.t 10) (.c (.int .i64 3))),oI 37 (.mov (.t 38))] none [37,10,2,1]) (.cond (.t 37) (.region [oI 39 (.ld none (.t 1)),oI 40 (.call 118 0 true [(.t 39)])] none [1]) (.seq (.seq (.region [oI 42 (.bin .eql (.t 10) (.c (.int .i64 4))),oI 41 (.mov (.t 42))] none [41,10,2,1]) (.cond (.t 41) .skip (.seq (.region [oI 43 (.bin .eql (.t 10) (.c (.int .i64 5))),oI 41 (.mov (.t 43))] none [41,10,2,1]) (.cond (.t 41) .skip (.seq (.region [oI 44 (.bin .eql (.t 10) (.c (.int .i64 6))),oI 41 (.mov (.t 44))] none [41,10,2,1]) (.cond (.t 41) .skip (.region [oI 45 (.bin .eql (.t 10) (.c (.int .i64 7))),oI 41 (.mov (.t 45))] none [41,10,2,1]))))))) (.cond (.t 41) (.seq (.region [oI 46 (.ld none (.t 1)),oI 47 (.call 119 0 true [(.t 46)])] none [1]) (.region [oI 48 (.ld none (.t 1)),oI 49 (.call 120 0 true [(.t 48)])] none [1])) (.seq (.region [oI 51 (.bin .eql (.t 10) (.c (.int .i64 8))),oI 50 (.mov (.t 51))] none [50,10,2,1]) (.cond (.t 50) (.region [oI 52 (.ld none (.t 1)),oI 53 (.ld none (.t 1)),oI 54 (.mkfn 1000122 [(.t 53)]),oI 55 (.call 121 1 true [(.t 52),(.t 54)])] none [1]) (.seq (.region [oI 57 (.bin .eql (.t 10) (.c (.int .i64 10))),oI 56 (.mov (.t 57))] none [56,10,2,1]) (.cond (.t 56) (.region [oI 58 (.ld none (.t 1)),oI 59 (.mkfn 123 [(.t 2),(.t 1)]),oI 60 (.call 121 1 true [(.t 58),(.t 59)])] none [1]) (.seq (.seq (.region [oI 62 (.bin .eql (.t 10) (.c (.int .i64 9))),oI 61 (.mov (.t 62))] none [61,10,2,1]) (.cond (.t 61) .skip (.region [oI 63 (.bin .eql (.t 10) (.c (.int .i64 11))),oI 61 (.mov (.t 63))] none [61,10,2,1]))) (.cond (.t 61) (.region [oI 64 (.ld none (.t 1)),oI 65 (.mkfn 125 [(.t 2),(.t 1)]),oI 66 (.call 121 1 true [(.t 64),(.t 65)])] none [1]) (.seq (.seq (.region [oI 68 (.bin .eql (.t 10) (.c (.int .i64 14))),oI 67 (.mov (.t 68))] none [67,10,1]) (.cond (.t 67) .skip (.region [oI 69 (.bin .eql (.t 10) (.c (.int .i64 15))),oI 67 (.mov (.t 69))] none [67,1]))) (.cond (.t 67) (.region [oI 70 (.ld none (.t 1)),oI 71 (.call 120 0 true [(.t 70)])] none [1]) .skip)))))))))))))))))) (.region [oI 72 (.ld none (.t 1)),oI 73 (.nilchk (.t 72)),oI 74 (.faddr 26 (.t 73)),oI 75 (.ld none (.t 74)),oI 76 (.len (.t 75)),oI 77 (.bin .eql (.t 76) (.c (.int .i64 0))),oI 78 (.call 113 0 true [(.t 77),(.c (.int .i64 129))])] none []))))
def Zpm:ZI:=⟨[],Za8⟩
theorem Zbb:FC 77=some Zpm:=by kernel_rfl
theorem Zbe:Zpm.body=Za8:=rfl
theorem Zek:Zpm.res=[]:=rfl
def Zdb:Zf:=(.region [oI 2 (.ld none (.t 0)),oI 3 (.ld none (.t 0)),oI 4 (.nilchk (.t 3)),oI 5 (.faddr 11 (.t 4)),oI 6 (.ld none (.t 5)),oI 7 (.ld none (.t 1)),oI 8 (.call 124 0 true [(.t 7)]),oI 9 (.bslice false 1 1 (.str []) [(0,(.t 8))]),oI 10 (.app 1 16 (.str []) (.t 6) (.t 9)),oI 11 (.nilchk (.t 2)),oI 12 (.faddr 11 (.t 11)),oN (.st 1 (.t 12) (.t 10))] (some [(0,1),(0,4),(0,5),(1,5),(4,5),(0,6),(1,6),(4,6),(0,7),(1,7),(4,7),(0,8),(6,6)]) [])
def ZIf:ZI:=⟨[],Zdb⟩
theorem Zk4:FC 123=some ZIf:=by kernel_rfl
def Zdg:Zf:=(.region [oI 2 (.ld none (.t 0)),oI 3 (.ld none (.t 0)),oI 4 (.nilchk (.t 3)),oI 5 (.faddr 8 (.t 4)),oI 6 (.ld none (.t 5)),oI 7 (.ld none (.t 1)),oI 8 (.call 116 0 true [(.t 7)]),oI 9 (.bslice false 1 1 (.int .i64 0) [(0,(.t 8))]),oI 10 (.app 1 8 (.int .i64 0) (.t 6) (.t 9)),oI 11 (.nilchk (.t 2)),oI 12 (.faddr 8 (.t 11)),oN (.st 1 (.t 12) (.t 10))] (some [(0,1),(0,4),(0,5),(1,5),(4,5),(0,6),(1,6),(4,6),(0,7),(1,7),(4,7),(0,8),(6,6)]) [])
def ZxL:ZI:=⟨[],Zdg⟩
theorem Zkj:FC 125=some ZxL:=by kernel_rfl
def ZeK:Zf:=(.seq (.region [oI 2 (.mov (.c (.int .i64 0)))] none [0]) (.seq (.region [oI 4 (.mov (.t 0)),oI 5 (.call 115 0 true [(.t 4),(.c (.int .i64 1))]),oI 3 (.mov (.t 5))] none [3,0]) (.seq (.region [oI 6 (.mov (.t 0)),oI 7 (.nilchk (.t 6)),oI 8 (.faddr 0 (.t 7)),oI 9 (.faddr 0 (.t 8)),oI 10 (.ld none (.t 9)),oI 11 (.mov (.t 3)),oI 12 (.call 41 0 true [(.t 10),(.t 11)]),oI 13 (.call 113 0 true [(.t 12),(.c (.int .i64 130))])] none [3]) (.seq (.region [oI 14 (.mov (.t 3)),oI 2 (.mov (.t 14))] none [2]) .ret))))
def Znz:ZI:=⟨[(.tmp 2)],ZeK⟩
theorem ZfD:FC 116=some Znz:=by kernel_rfl
theorem ZfC:Znz.body=ZeK:=rfl
theorem Ztx:Znz.res=[(.tmp 2)]:=rfl
def Znm:Zf:=(.seq (.region [oI 4 (.mov (.t 0)),oI 5 (.nilchk (.t 4)),oI 6 (.faddr 0 (.t 5)),oI 2 (.mov (.t 6))] none [2,0]) (.seq (.region [oI 7 (.mov (.t 0)),oI 8 (.call 124 0 true [(.t 7)]),oI 9 (.bin .eql (.t 8) (.c (.str [77,81,84,84]))),oI 10 (.call 113 0 true [(.t 9),(.c (.int .i64 132))])] none [2,0]) (.seq (.region [oI 11 (.mov (.t 0)),oI 12 (.call 115 0 true [(.t 11),(.c (.int .i64 1))]),oI 13 (.bin .eql (.t 12) (.c (.int .i64 5))),oI 14 (.call 113 0 true [(.t 13),(.c (.int .i64 132))])] none [2,0]) (.seq (.region [oI 15 (.mov (.t 0)),oI 16 (.call 115 0 true [(.t 15),(.c (.int .i64 1))]),oI 3 (.mov (.t 16))] none [3,2,0]) (.seq (.region [oI 17 (.mov (.t 2)),oI 18 (.mov (.t 2)),oI 19 (.mov (.t 3)),oI 20 (.bin .and (.t 19) (.c (.int .i64 2))),oI 21 (.bin .neq (.t 20) (.c (.int .i64 0))),oI 22 (.mov (.t 3)),oI 23 (.bin .and (.t 22) (.c (.int .i64 4))),oI 24 (.bin .neq (.t 23) (.c (.int .i64 0))),oI 25 (.nilchk (.t 17)),oI 26 (.faddr 12 (.t 25)),oN (.st 1 (.t 26) (.t 21)),oI 27 (.nilchk (.t 18)),oI 28 (.faddr 15 (.t 27)),oN (.st 1 (.t 28) (.t 24))] none [3,2,0]) (.seq (.region [oI 29 (.mov (.t 2)),oI 30 (.mov (.t 2)),oI 31 (.mov (.t 3)),oI 32 (.bin .and (.t 31) (.c (.int .i64 64))),oI 33 (.bin .neq (.t 32) (.c (.int .i64 0))),oI 34 (.mov (.t 3)),oI 35 (.bin .and (.t 34) (.c (.int .i64 128))),oI 36 (.bin .neq (.t 35) (.c (.int .i64 0))),oI 37 (.nilchk (.t 29)),oI 38 (.faddr 23 (.t 37)),oN (.st 1 (.t 38) (.t 33)),oI 39 (.nilchk (.t 30)),oI 40 (.faddr 21 (.t 39)),oN (.st 1 (.t 40) (.t 36))] none [3,2,0]) (.seq (.region [oI 41 (.mov (.t 2)),oI 42 (.mov (.t 2)),oI 43 (.mov (.t 3)),oI 44 (.bin .quo (.t 43) (.c (.int .i64 8))),oI 45 (.bin .and (.t 44) (.c (.int .i64 3))),oI 46 (.mov (.t 3)),oI 47 (.bin .and (.t 46) (.c (.int .i64 32))),oI 48 (.bin .neq (.t 47) (.c (.int .i64 0))),oI 49 (.nilchk (.t 41)),oI 50 (.faddr 16 (.t 49)),oI 51 (.faddr 2 (.t 50)),oN (.st 1 (.t 51) (.t 45)),oI 52 (.nilchk (.t 42)),oI 53 (.faddr 16 (.t 52)),oI 54 (.faddr 3 (.t 53)),oN (.st 1 (.t 54) (.t 48))] none [3,2,0]) (.seq (.region [oI 55 (.mov (.t 3)),oI 56 (.bin .and (.t 55) (.c (.int .i64 1))),oI 57 (.bin .eql (.t 56) (.c (.int .i64 0))),oI 58 (.mov (.t 57)),⟨(some 59),(.mov (.t 2)),(some (58,true)),[]⟩,⟨(some 60),(.nilchk (.t 59)),(some (58,true)),[]⟩,⟨(some 61),(.faddr 16 (.t 60)),(some (58,true)),[]⟩,⟨(some 62),(.faddr 2 (.t 61)),(some (58,true)),[]⟩,⟨(some 63),(.ld none (.t 62)),(some (58,true)),[]⟩,⟨(some 64),(.bin .lss (.t 63) (.c (.int .i64 3))),(some (58,true)),[]⟩,oI 65 (.pick (.t 58) (.t 64) (.c (.bool false))),oI 66 (.mov (.t 65)),⟨(some 67),(.mov (.t 2)),(some (66,true)),[]⟩,⟨(some 68),(.nilchk (.t 67)),(some (66,true)),[]⟩,⟨(some 69),(.faddr 15 (.t 68)),(some (66,true)),[]⟩,⟨(some 70),(.ld none (.t 69)),(some (66,true)),[]⟩,⟨(some 71),(.mov (.t 70)),(some (66,true)),[]⟩,⟨(some 72),(.mov (.t 2)),(some (71,false)),[]⟩,⟨(some 73),(.nilchk (.t 72)),(some (71,false)),[]⟩,⟨(some 74),(.faddr 16 (.t 73)),(some (71,false)),[]⟩,⟨(some 75),(.faddr 2 (.t 74)),(some (71,false)),[]⟩,⟨(some 76),(.ld none (.t 75)),(some (71,false)),[]⟩,⟨(some 77),(.bin .eql (.t 76) (.c (.int .i64 0))),(some (71,false)),[]⟩,⟨(some 78),(.mov (.t 77)),(some (71,false)),[]⟩,⟨(some 79),(.mov (.t 2)),(some (78,true)),[]⟩,⟨(some 80),(.nilchk (.t 79)),(some (78,true)),[]⟩,⟨(some 81),(.faddr 16 (.t 80)),(some (78,true)),[]⟩,⟨(some 82),(.faddr 3 (.t 81)),(some (78,true)),[]⟩,⟨(some 83),(.ld none (.t 82)),(some (78,true)),[]⟩,⟨(some 84),(.un .not (.t 83)),(some (78,true)),[]⟩,⟨(some 85),(.pick (.t 78) (.t 84) (.c (.bool false))),(some (71,false)),[]⟩,⟨(some 86),(.pick (.t 71) (.c (.bool true)) (.t 85)),(some (66,true)),[]⟩,oI 87 (.pick (.t 66) (.t 86) (.c (.bool false))),oI 88 (.call 113 0 true [(.t 87),(.c (.int .i64 129))])] none [2,0]) (.seq (.region [oI 89 (.mov (.t 2)),oI 90 (.mov (.t 0)),oI 91 (.call 115 0 true [(.t 90),(.c (.int .i64 2))]),oI 92 (.nilchk (.t 89)),oI 93 (.faddr 13 (.t 92)),oN (.st 1 (.t 93) (.t 91))] none [2,0]) (.seq (.region [oI 94 (.mov (.t 2)),oI 95 (.mov (.t 0)),oI 96 (.call 117 0 true [(.t 95),(.c (.int .i64 1))]),oI 97 (.nilchk (.t 94)),oI 98 (.faddr 9 (.t 97)),oN (.st 1 (.t 98) (.t 96))] none [2,0]) (.seq (.region [oI 99 (.mov (.t 2)),oI 100 (.mov (.t 0)),oI 101 (.call 124 0 true [(.t 100)]),oI 102 (.nilchk (.t 99)),oI 103 (.faddr 14 (.t 102)),oN (.st 1 (.t 103) (.t 101))] none [2,0]) (.seq (.seq (.region [oI 104 (.mov (.t 2)),oI 105 (.nilchk (.t 104)),oI 106 (.faddr 15 (.t 105)),oI 107 (.ld none (.t 106))] none [107,2,0]) (.cond (.t 107) (.seq (.region [oI 108 (.mov (.t 2)),oI 109 (.mov (.t 0)),oI 110 (.call 117 0 true [(.t 109),(.c (.int .i64 16))]),oI 111 (.nilchk (.t 108)),oI 112 (.faddr 16 (.t 111)),oI 113 (.faddr 4 (.t 112)),oN (.st 1 (.t 113) (.t 110))] none [2,0]) (.seq (.region [oI 114 (.mov (.t 2)),oI 115 (.mov (.t 0)),oI 116 (.call 124 0 true [(.t 115)]),oI 117 (.nilchk (.t 114)),oI 118 (.faddr 16 (.t 117)),oI 119 (.faddr 0 (.t 118)),oN (.st 1 (.t 119) (.t 116))] none [2,0]) (.region [oI 120 (.mov (.t 2)),oI 121 (.mov (.t 0)),oI 122 (.call 148 0 true [(.t 121)]),oI 123 (.nilchk (.t 120)),oI 124 (.faddr 16 (.t 123)),oI 125 (.faddr 1 (.t 124)),oN (.st 1 (.t 125) (.t 122))] none [2,0]))) .skip)) (.seq (.seq (.region [oI 126 (.mov (.t 2)),oI 127 (.nilchk (.t 126)),oI 128 (.faddr 21 (.t 127)),oI 129 (.ld none (.t 128))] none [129,2,0]) (.cond (.t 129) (.region [oI 130 (.mov (.t 2)),oI 131 (.mov (.t 0)),oI 132 (.call 124 0 true [(.t 131)]),oI 133 (.nilchk (.t 130)),oI 134 (.faddr 22 (.t 133)),oN (.st 1 (.t 134) (.t 132))] none [2,0]) .skip)) (.seq (.region [oI 135 (.mov (.t 2)),oI 136 (.nilchk (.t 135)),oI 137 (.faddr 23 (.t 136)),oI 138 (.ld none (.t 137))] none [138,2,0]) (.cond (.t 138) (.region [oI 139 (.mov (.t 2)),oI 140 (.mov (.t 0)),oI 141 (.call 148 0 true [(.t 140)]),oI 142 (.nilchk (.t 139)),oI 143 (.faddr 24 (.t 142)),oN (.st 1 (.t 143) (.t 141))] none []) .skip)))))))))))))))
def Znu:ZI:=⟨[],Znm⟩
theorem ZsK:FC 114=some Znu:=by kernel_rfl
def ZkP:Zf:=(.seq (.region [oI 2 (.mov (.c (.lst true [])))] none [0]) (.seq (.region [oI 7 (.mov (.t 0)),oI 8 (.nilchk (.t 7)),oI 9 (.faddr 26 (.t 8)),oI 10 (.ld none (.t 9)),oI 11 (.call 106 0 true [(.t 10)]),oI 6 (.mov (.t 11)),oI 12 (.ext (.t 6) 0),oI 13 (.ext (.t 6) 1),oI 14 (.ext (.t 6) 2),oI 3 (.mov (.t 12)),oI 4 (.mov (.t 13)),oI 5 (.mov (.t 14))] none [5,4,3,0]) (.seq (.region [oI 15 (.mov (.t 5)),oI 16 (.bin .eql (.t 15) (.c (.int .i64 0))),oI 17 (.call 113 0 true [(.t 16),(.c (.int .i64 129))])] none [4,3,0]) (.seq (.region [oI 18 (.mov (.t 0)),oI 19 (.mov (.t 0)),oI 20 (.nilchk (.t 19)),oI 21 (.faddr 26 (.t 20)),oI 22 (.ld none (.t 21)),oI 23 (.mov (.t 4)),oI 24 (.slice 1 (.t 22) (some (.t 23)) none none),oI 25 (.nilchk (.t 18)),oI 26 (.faddr 26 (.t 25)),oN (.st 1 (.t 26) (.t 24))] none [3]) (.seq (.region [oI 27 (.mov (.t 3)),oI 2 (.mov (.t 27))] none [2]) .ret)))))
def ZmD:ZI:=⟨[(.tmp 2)],ZkP⟩
theorem Zro:FC 148=some ZmD:=by kernel_rfl
theorem Zrx:ZmD.body=ZkP:=rfl
theorem ZFV:ZmD.res=[(.tmp 2)]:=rfl
def ZeR:Zf:=(.seq (.region [oI 5 (.mov (.t 0)),oI 6 (.nilchk (.t 5)),oI 7 (.faddr 0 (.t 6)),oI 4 (.mov (.t 7))] none [4,1]) (.seq (.region [oI 8 (.mov (.t 4)),oI 9 (.mov (.t 1)),oI 10 (.bin .shr (.t 9) (.c (.int .u64 4))),oI 11 (.i2i .i64 (.t 10)),oI 12 (.nilchk (.t 8)),oI 13 (.faddr 0 (.t 12)),oN (.st 1 (.t 13) (.t 11))] none [4,1]) (.seq (.region [oI 14 (.mov (.t 4)),oI 15 (.nilchk (.t 14)),oI 16 (.faddr 0 (.t 15)),oI 17 (.ld none (.t 16)),oI 18 (.bin .neq (.t 17) (.c (.int .i64 0))),oI 19 (.call 113 0 true [(.t 18),(.c (.int .i64 129))])] none [4,1]) (.seq (.seq (.region [oI 20 (.mov (.t 4)),oI 21 (.nilchk (.t 20)),oI 22 (.faddr 0 (.t 21)),oI 23 (.ld none (.t 22)),oI 24 (.bin .neq (.t 23) (.c (.int .i64 3)))] none [24,4,1]) (.cond (.t 24) (.seq (.region [oI 25 (.mov (.t 1)),oI 26 (.bin .and (.t 25) (.c (.int .u8 15))),oI 27 (.mov (.t 4)),oI 28 (.nilchk (.t 27)),oI 29 (.faddr 0 (.t 28)),oI 30 (.ld none (.t 29)),oI 31 (.call 79 0 true [(.t 30)]),oI 32 (.bin .eql (.t 26) (.t 31)),oI 33 (.call 113 0 true [(.t 32),(.c (.int .i64 129))])] none []) .ret) .skip)) (.seq (.region [oI 34 (.mov (.t 4)),oI 35 (.mov (.t 4)),oI 36 (.mov (.t 4)),oI 37 (.mov (.t 1)),oI 38 (.bin .and (.t 37) (.c (.int .u8 8))),oI 39 (.bin .neq (.t 38) (.c (.int .u8 0))),oI 40 (.mov (.t 1)),oI 41 (.bin .shr (.t 40) (.c (.int .u64 1))),oI 42 (.bin .and (.t 41) (.c (.int .u8 3))),oI 43 (.i2i .i64 (.t 42)),oI 44 (.mov (.t 1)),oI 45 (.bin .and (.t 44) (.c (.int .u8 1))),oI 46 (.bin .neq (.t 45) (.c (.int .u8 0))),oI 47 (.nilchk (.t 34)),oI 48 (.faddr 1 (.t 47)),oN (.st 1 (.t 48) (.t 39)),oI 49 (.nilchk (.t 35)),oI 50 (.faddr 2 (.t 49)),oN (.st 1 (.t 50) (.t 43)),oI 51 (.nilchk (.t 36)),oI 52 (.faddr 3 (.t 51)),oN (.st 1 (.t 52) (.t 46))] none [4]) (.seq (.region [oI 53 (.mov (.t 4)),oI 54 (.nilchk (.t 53)),oI 55 (.faddr 2 (.t 54)),oI 56 (.ld none (.t 55)),oI 57 (.bin .lss (.t 56) (.c (.int .i64 3))),oI 58 (.call 113 0 true [(.t 57),(.c (.int .i64 129))])] none [4]) (.region [oI 59 (.mov (.t 4)),oI 60 (.nilchk (.t 59)),oI 61 (.faddr 2 (.t 60)),oI 62 (.ld none (.t 61)),oI 63 (.bin .gtr (.t 62) (.c (.int .i64 0))),oI 64 (.mov (.t 63)),⟨(some 65),(.mov (.t 4)),(some (64,false)),[]⟩,⟨(some 66),(.nilchk (.t 65)),(some (64,false)),[]⟩,⟨(some 67),(.faddr 1 (.t 66)),(some (64,false)),[]⟩,⟨(some 68),(.ld none (.t 67)),(some (64,false)),[]⟩,⟨(some 69),(.un .not (.t 68)),(some (64,false)),[]⟩,oI 70 (.pick (.t 64) (.c (.bool true)) (.t 69)),oI 71 (.call 113 0 true [(.t 70),(.c (.int .i64 130))])] none [])))))))
def ZoN:ZI:=⟨[],ZeR⟩
theorem Zgl:FC 76=some ZoN:=by kernel_rfl
theorem ZgM:ZoN.body=ZeR:=rfl
theorem Zpp:ZoN.res=[]:=rfl
def ZiT:Zf:=(.seq (.region [oI 2 (.mov (.t 0)),oI 3 (.mov (.t 0)),oI 4 (.call 115 0 true [(.t 3),(.c (.int .i64 2))]),oI 5 (.nilchk (.t 2)),oI 6 (.faddr 0 (.t 5)),oI 7 (.faddr 4 (.t 6)),oN (.st 1 (.t 7) (.t 4))] none [0]) (.region [oI 8 (.mov (.t 0)),oI 9 (.nilchk (.t 8)),oI 10 (.faddr 0 (.t 9)),oI 11 (.faddr 4 (.t 10)),oI 12 (.ld none (.t 11)),oI 13 (.bin .neq (.t 12) (.c (.int .i64 0))),oI 14 (.call 113 0 true [(.t 13),(.c (.int .i64 130))])] none []))
def ZpP:ZI:=⟨[],ZiT⟩
theorem ZpD:FC 119=some ZpP:=by kernel_rfl
theorem Zmk:ZpP.body=ZiT:=rfl
theorem ZwA:ZpP.res=[]:=rfl
def ZcT:Zf:=(.seq (.seq (.region [oI 24 (.mov (.t 0)),oI 25 (.nilchk (.t 24)),oI 26 (.faddr 26 (.t 25)),oI 27 (.ld none (.t 26)),oI 28 (.len (.t 27)),oI 29 (.bin .gtr (.t 28) (.c (.int .i64 0)))] none [29,1,0]) (.cond (.t 29) .skip (.exit 0))) (.block 1 (.region [oI 30 (.mov (.t 1)),oI 31 (.callv (.t 30) [])] none [1,0])))
def Zmr:Zf:=ZcT
def Zdr:=xw Zmr ZcT rfl
def Zen:Zf:=(.seq (.region [oI 4 (.mov (.t 0)),oI 5 (.call 119 0 true [(.t 4)])] none [1,0]) (.seq (.region [oI 6 (.mov (.t 0)),oI 7 (.mov (.t 0)),oI 8 (.mov (.t 0)),oI 9 (.nilchk (.t 8)),oI 10 (.faddr 0 (.t 9)),oI 11 (.faddr 0 (.t 10)),oI 12 (.ld none (.t 11)),oI 13 (.call 117 0 true [(.t 7),(.t 12)]),oI 14 (.nilchk (.t 6)),oI 15 (.faddr 0 (.t 14)),oI 16 (.faddr 9 (.t 15)),oN (.st 1 (.t 16) (.t 13))] none [1,0]) (.seq (.region [oI 17 (.mov (.t 0)),oI 18 (.nilchk (.t 17)),oI 19 (.faddr 26 (.t 18)),oI 20 (.ld none (.t 19)),oI 21 (.len (.t 20)),oI 22 (.bin .gtr (.t 21) (.c (.int .i64 0))),oI 23 (.call 113 0 true [(.t 22),(.c (.int .i64 130))])] none [1,0]) (.block 0 (.loop [1,0] Zmr)))))
def Zjp:ZI:=⟨[],Zen⟩
theorem ZfW:FC 121=some Zjp:=by kernel_rfl
theorem ZfS:Zjp.body=Zen:=rfl
theorem Zku:Zjp.res=[]:=rfl
noncomputable def ZaY (m:Nat) (tm:Tms) (σ:Za):Option (AVal×Za):=(Zap m Zjp (Option.map (ZaX 0) (evL FC PR BY m [1,0] Zmr tm σ)))
def Zht:Zf:=(.seq (.region [oI 4 (.mov (.c (.int .i64 0)))] none [1,0]) (.seq (.region [oI 6 (.mov (.t 0)),oI 7 (.nilchk (.t 6)),oI 8 (.faddr 26 (.t 7)),oI 9 (.ld none (.t 8)),oI 10 (.len (.t 9)),oI 11 (.mov (.t 1)),oI 12 (.bin .geq (.t 10) (.t 11)),oI 13 (.call 113 0 true [(.t 12),(.c (.int .i64 129))])] none [1,0]) (.seq (.region [oI 14 (.mov (.t 0)),oI 15 (.nilchk (.t 14)),oI 16 (.faddr 26 (.t 15)),oI 17 (.ld none (.t 16)),oI 18 (.mov (.t 1)),oI 19 (.slice 1 (.t 17) none (some (.t 18)) none),oI 20 (.call 108 0 true [(.t 19)]),oI 21 (.i2i .i64 (.t 20)),oI 5 (.mov (.t 21))] none [5,1,0]) (.seq (.region [oI 22 (.mov (.t 0)),oI 23 (.mov (.t 0)),oI 24 (.nilchk (.t 23)),oI 25 (.faddr 26 (.t 24)),oI 26 (.ld none (.t 25)),oI 27 (.mov (.t 1)),oI 28 (.slice 1 (.t 26) (some (.t 27)) none none),oI 29 (.nilchk (.t 22)),oI 30 (.faddr 26 (.t 29)),oN (.st 1 (.t 30) (.t 28))] none [5]) (.seq (.region [oI 31 (.mov (.t 5)),oI 4 (.mov (.t 31))] none [4]) .ret)))))
def ZmV:ZI:=⟨[(.tmp 4)],Zht⟩
theorem Zjr:FC 115=some ZmV:=by kernel_rfl
theorem ZjY:ZmV.body=Zht:=rfl
theorem Ztc:ZmV.res=[(.tmp 4)]:=rfl
def ZlT:Zf:=(.seq (.region [oI 4 (.mov (.c (.lst true [])))] none [1,0]) (.seq (.region [oI 9 (.mov (.t 1)),oI 10 (.mov (.t 0)),oI 11 (.nilchk (.t 10)),oI 12 (.faddr 26 (.t 11)),oI 13 (.ld none (.t 12)),oI 14 (.call 90 0 true [(.t 9),(.t 13)]),oI 8 (.mov (.t 14)),oI 15 (.ext (.t 8) 0),oI 16 (.ext (.t 8) 1),oI 17 (.ext (.t 8) 2),oI 5 (.mov (.t 15)),oI 6 (.mov (.t 16)),oI 7 (.mov (.t 17))] none [7,6,5,0]) (.seq (.region [oI 18 (.mov (.t 7)),oI 19 (.bin .eql (.t 18) (.c (.int .i64 0))),oI 20 (.mov (.t 7)),oI 21 (.call 113 0 true [(.t 19),(.t 20)])] none [6,5,0]) (.seq (.region [oI 22 (.mov (.t 0)),oI 23 (.mov (.t 0)),oI 24 (.nilchk (.t 23)),oI 25 (.faddr 26 (.t 24)),oI 26 (.ld none (.t 25)),oI 27 (.mov (.t 6)),oI 28 (.slice 1 (.t 26) (some (.t 27)) none none),oI 29 (.nilchk (.t 22)),oI 30 (.faddr 26 (.t 29)),oN (.st 1 (.t 30) (.t 28))] none [5]) (.seq (.region [oI 31 (.mov (.t 5)),oI 4 (.mov (.t 31))] none [4]) .ret)))))
def Zo7:ZI:=⟨[(.tmp 4)],ZlT⟩
theorem ZtV:FC 117=some Zo7:=by kernel_rfl
theorem ZsB:Zo7.body=ZlT:=rfl
theorem ZGY:Zo7.res=[(.tmp 4)]:=rfl
def ZfO:Zf:=(.seq (.region [oI 2 (.mov (.t 0)),oI 3 (.mov (.t 0)),oI 4 (.call 124 0 true [(.t 3)]),oI 5 (.nilchk (.t 2)),oI 6 (.faddr 0 (.t 5)),oI 7 (.faddr 5 (.t 6)),oN (.st 1 (.t 7) (.t 4))] none [0]) (.seq (.seq (.region [oI 8 (.mov (.t 0)),oI 9 (.nilchk (.t 8)),oI 10 (.faddr 0 (.t 9)),oI 11 (.faddr 2 (.t 10)),oI 12 (.ld none (.t 11)),oI 13 (.bin .gtr (.t 12) (.c (.int .i64 0)))] none [13,0]) (.cond (.t 13) (.region [oI 14 (.mov (.t 0)),oI 15 (.call 119 0 true [(.t 14)])] none [0]) .skip)) (.seq (.region [oI 16 (.mov (.t 0)),oI 17 (.mov (.t 0)),oI 18 (.call 117 0 true [(.t 17),(.c (.int .i64 3))]),oI 19 (.nilchk (.t 16)),oI 20 (.faddr 0 (.t 19)),oI 21 (.faddr 9 (.t 20)),oN (.st 1 (.t 21) (.t 18))] none [0]) (.region [oI 22 (.mov (.t 0)),oI 23 (.mov (.t 0)),oI 24 (.mov (.t 0)),oI 25 (.nilchk (.t 24)),oI 26 (.faddr 26 (.t 25)),oI 27 (.ld none (.t 26)),oI 28 (.call 111 0 true [(.t 27)]),oI 29 (.nilchk (.t 22)),oI 30 (.faddr 0 (.t 29)),oI 31 (.faddr 6 (.t 30)),oN (.st 1 (.t 31) (.t 28)),oI 32 (.nilchk (.t 23)),oI 33 (.faddr 26 (.t 32)),oN (.st 1 (.t 33) (.c (.lst true [])))] none []))))
def ZpJ:ZI:=⟨[],ZfO⟩
theorem ZhF:FC 118=some ZpJ:=by kernel_rfl
theorem ZhR:ZpJ.body=ZfO:=rfl
theorem Zqk:ZpJ.res=[]:=rfl
def Zgn:Zf:=(.seq (.seq (.region [oI 2 (.mov (.t 0)),oI 3 (.nilchk (.t 2)),oI 4 (.faddr 26 (.t 3)),oI 5 (.ld none (.t 4)),oI 6 (.len (.t 5)),oI 7 (.bin .gtr (.t 6) (.c (.int .i64 0)))] none [7,0]) (.cond (.t 7) (.region [oI 8 (.mov (.t 0)),oI 9 (.mov (.t 0)),oI 10 (.call 116 0 true [(.t 9)]),oI 11 (.nilchk (.t 8)),oI 12 (.faddr 0 (.t 11)),oI 13 (.faddr 7 (.t 12)),oN (.st 1 (.t 13) (.t 10))] none [0]) .skip)) (.seq (.region [oI 14 (.mov (.t 0)),oI 15 (.nilchk (.t 14)),oI 16 (.faddr 26 (.t 15)),oI 17 (.ld none (.t 16)),oI 18 (.len (.t 17)),oI 19 (.bin .gtr (.t 18) (.c (.int .i64 0)))] none [19,0]) (.cond (.t 19) (.region [oI 20 (.mov (.t 0)),oI 21 (.mov (.t 0)),oI 22 (.mov (.t 0)),oI 23 (.nilchk (.t 22)),oI 24 (.faddr 0 (.t 23)),oI 25 (.faddr 0 (.t 24)),oI 26 (.ld none (.t 25)),oI 27 (.call 117 0 true [(.t 21),(.t 26)]),oI 28 (.nilchk (.t 20)),oI 29 (.faddr 0 (.t 28)),oI 30 (.faddr 9 (.t 29)),oN (.st 1 (.t 30) (.t 27))] none []) .skip)))
def Zpf:ZI:=⟨[],Zgn⟩
theorem Zig:FC 120=some Zpf:=by kernel_rfl
theorem Zi8:Zpf.body=Zgn:=rfl
theorem ZnH:Zpf.res=[]:=rfl
def ZcU:Zf:=(.seq (.region [oI 4 (.mov (.t 0)),oI 5 (.call 124 0 true [(.t 4)]),oI 6 (.build [(.str []),(.int .i64 0),(.bool false),(.bool false),(.int .i64 0),(.int .i64 0)] [(0,1,(.t 5))]),oI 2 (.alloc [(.str []),(.int .i64 0),(.bool false),(.bool false),(.int .i64 0),(.int .i64 0)]),oN (.st 6 (.t 2) (.t 6))] none [2,0]) (.seq (.region [oI 7 (.mov (.t 0)),oI 8 (.call 115 0 true [(.t 7),(.c (.int .i64 1))]),oI 3 (.mov (.t 8))] none [3,2,0]) (.seq (.region [oI 9 (.mov (.t 3)),oI 10 (.bin .lss (.t 9) (.c (.int .i64 64))),oI 11 (.call 113 0 true [(.t 10),(.c (.int .i64 129))])] none [3,2,0]) (.seq (.region [oI 12 (.mov (.t 3)),oI 13 (.bin .and (.t 12) (.c (.int .i64 3))),oI 14 (.mov (.t 3)),oI 15 (.bin .quo (.t 14) (.c (.int .i64 16))),oI 16 (.faddr 1 (.t 2)),oN (.st 1 (.t 16) (.t 13)),oI 17 (.faddr 4 (.t 2)),oN (.st 1 (.t 17) (.t 15))] none [3,2,0]) (.seq (.region [oI 18 (.mov (.t 3)),oI 19 (.bin .and (.t 18) (.c (.int .i64 4))),oI 20 (.bin .neq (.t 19) (.c (.int .i64 0))),oI 21 (.mov (.t 3)),oI 22 (.bin .and (.t 21) (.c (.int .i64 8))),oI 23 (.bin .neq (.t 22) (.c (.int .i64 0))),oI 24 (.faddr 2 (.t 2)),oN (.st 1 (.t 24) (.t 20)),oI 25 (.faddr 3 (.t 2)),oN (.st 1 (.t 25) (.t 23))] none [2,0]) (.seq (.region [oI 26 (.faddr 1 (.t 2)),oI 27 (.ld none (.t 26)),oI 28 (.bin .lss (.t 27) (.c (.int .i64 3))),oI 29 (.mov (.t 28)),⟨(some 30),(.faddr 4 (.t 2)),(some (29,true)),[]⟩,⟨(some 31),(.ld none (.t 30)),(some (29,true)),[]⟩,⟨(some 32),(.bin .lss (.t 31) (.c (.int .i64 3))),(some (29,true)),[]⟩,oI 33 (.pick (.t 29) (.t 32) (.c (.bool false))),oI 34 (.call 113 0 true [(.t 33),(.c (.int .i64 130))])] none [2,0]) (.region [oI 35 (.mov (.t 0)),oI 36 (.mov (.t 0)),oI 37 (.nilchk (.t 36)),oI 38 (.faddr 0 (.t 37)),oI 39 (.faddr 10 (.t 38)),oI 40 (.ld none (.t 39)),oI 41 (.ld (some 6) (.t 2)),oI 42 (.bslice false 6 1 (.agg [(.str []),(.int .i64 0),(.bool false),(.bool false),(.int .i64 0),(.int .i64 0)]) [(0,(.t 41))]),oI 43 (.app 6 48 (.agg [(.str []),(.int .i64 0),(.bool false),(.bool false),(.int .i64 0),(.int .i64 0)]) (.t 40) (.t 42)),oI 44 (.nilchk (.t 35)),oI 45 (.faddr 0 (.t 44)),oI 46 (.faddr 10 (.t 45)),oN (.st 1 (.t 46) (.t 43))] (some [(5,6),(5,7)]) [])))))))
def Zmb:ZI:=⟨[],ZcU⟩
theorem Zdy:FC 122=some Zmb:=by kernel_rfl
theorem Zdw:Zmb.body=ZcU:=rfl
theorem Zqp:Zmb.res=[]:=rfl
def Zhw:Zf:=(.seq (.region [oI 2 (.mov (.c (.str [])))] none [0]) (.seq (.region [oI 7 (.mov (.t 0)),oI 8 (.nilchk (.t 7)),oI 9 (.faddr 26 (.t 8)),oI 10 (.ld none (.t 9)),oI 11 (.call 109 0 true [(.t 10)]),oI 6 (.mov (.t 11)),oI 12 (.ext (.t 6) 0),oI 13 (.ext (.t 6) 1),oI 14 (.ext (.t 6) 2),oI 3 (.mov (.t 12)),oI 4 (.mov (.t 13)),oI 5 (.mov (.t 14))] none [5,4,3,0]) (.seq (.region [oI 15 (.mov (.t 5)),oI 16 (.bin .eql (.t 15) (.c (.int .i64 0))),oI 17 (.call 113 0 true [(.t 16),(.c (.int .i64 129))])] none [4,3,0]) (.seq (.region [oI 18 (.mov (.t 0)),oI 19 (.mov (.t 0)),oI 20 (.nilchk (.t 19)),oI 21 (.faddr 26 (.t 20)),oI 22 (.ld none (.t 21)),oI 23 (.mov (.t 4)),oI 24 (.slice 1 (.t 22) (some (.t 23)) none none),oI 25 (.nilchk (.t 18)),oI 26 (.faddr 26 (.t 25)),oN (.st 1 (.t 26) (.t 24))] none [3]) (.seq (.region [oI 27 (.mov (.t 3)),oI 2 (.mov (.t 27))] none [2]) .ret)))))
def ZoV:ZI:=⟨[(.tmp 2)],Zhw⟩
theorem Zln:FC 124=some ZoV:=by kernel_rfl
theorem Zlp:ZoV.body=Zhw:=rfl
theorem ZsP:ZoV.res=[(.tmp 2)]:=rfl
def ZjL:Zf:=(.seq (.region [oI 76 (.bin .lss (.t 75) (.t 74))] none [76,75,74,73,0]) (.seq (.cond (.t 76) .skip (.exit 1)) (.seq (.block 2 (.seq (.region [oI 77 (.iaddr 6 (.t 73) (.t 75)),oI 78 (.ld (some 6) (.t 77)),oI 5 (.alloc [(.str []),(.int .i64 0),(.bool false),(.bool false),(.int .i64 0),(.int .i64 0)]),oN (.st 6 (.t 5) (.t 78))] none [75,74,73,5,0]) (.seq (.region [oI 79 (.mov (.t 0)),oI 80 (.faddr 0 (.t 5)),oI 81 (.ld none (.t 80)),oI 82 (.call 129 1 true [(.t 79),(.t 81)])] none [75,74,73,5,0]) (.region [oI 83 (.mov (.t 0)),oI 84 (.faddr 1 (.t 5)),oI 85 (.ld none (.t 84)),oI 86 (.bin .and (.t 85) (.c (.int .i64 3))),oI 87 (.faddr 2 (.t 5)),oI 88 (.ld none (.t 87)),oI 89 (.call 81 0 true [(.t 88),(.c (.int .i64 4))]),oI 90 (.bin .add (.t 86) (.t 89)),oI 91 (.faddr 3 (.t 5)),oI 92 (.ld none (.t 91)),oI 93 (.call 81 0 true [(.t 92),(.c (.int .i64 8))]),oI 94 (.bin .add (.t 90) (.t 93)),oI 95 (.faddr 4 (.t 5)),oI 96 (.ld none (.t 95)),oI 97 (.bin .and (.t 96) (.c (.int .i64 3))),oI 98 (.bin .mul (.t 97) (.c (.int .i64 16))),oI 99 (.bin .add (.t 94) (.t 98)),oI 100 (.call 127 1 true [(.t 83),(.t 99),(.c (.int .i64 1))])] (some [(2,5),(2,6),(2,9),(5,9),(6,9),(2,10),(2,13),(5,13),(6,13),(9,13),(10,13),(17,17)]) [75,74,73,0])))) (.region [oI 101 (.bin .add (.t 75) (.c (.int .i64 1))),oI 75 (.mov (.t 101))] none [75,74,73,0]))))
def Zmx:Zf:=ZjL
def Zjq:Zf:=(.seq (.region [oI 111 (.bin .lss (.t 110) (.t 109))] none [111,110,109,108,0]) (.seq (.cond (.t 111) .skip (.exit 3)) (.seq (.block 4 (.seq (.region [oI 112 (.iaddr 1 (.t 108) (.t 110)),oI 113 (.ld none (.t 112)),oI 7 (.mov (.t 113))] none [110,109,108,7,0]) (.region [oI 114 (.mov (.t 0)),oI 115 (.mov (.t 7)),oI 116 (.call 129 1 true [(.t 114),(.t 115)])] none [110,109,108,0]))) (.region [oI 117 (.bin .add (.t 110) (.c (.int .i64 1))),oI 110 (.mov (.t 117))] none [110,109,108,0]))))
def Zms:Zf:=Zjq
def Zj6:Zf:=(.seq (.region [oI 128 (.bin .lss (.t 127) (.t 126))] none [128,127,126,125,0]) (.seq (.cond (.t 128) .skip (.exit 5)) (.seq (.block 6 (.seq (.region [oI 129 (.iaddr 1 (.t 125) (.t 127)),oI 130 (.ld none (.t 129)),oI 9 (.mov (.t 130))] none [127,126,125,9,0]) (.region [oI 131 (.mov (.t 0)),oI 132 (.mov (.t 9)),oI 133 (.call 127 1 true [(.t 131),(.t 132),(.c (.int .i64 1))])] none [127,126,125,0]))) (.region [oI 134 (.bin .add (.t 127) (.c (.int .i64 1))),oI 127 (.mov (.t 134))] none [127,126,125,0]))))
def ZmE:Zf:=Zj6
def Zdk:Zf:=(.seq (.region [oI 3 (.box (.t 1))] none [3,0]) (.seq (.region [oI 10 (.faddr 0 (.t 3)),oI 11 (.ld none (.t 10))] none [11,3,0]) (.block 0 (.seq (.region [oI 13 (.bin .eql (.t 11) (.c (.int .i64 1))),oI 12 (.mov (.t 13))] none [12,11,3,0]) (.cond (.t 12) (.region [oI 14 (.mov (.t 0)),oI 15 (.ld (some 26) (.t 3)),oI 16 (.call 126 1 true [(.t 14),(.t 15)])] none []) (.seq (.region [oI 18 (.bin .eql (.t 11) (.c (.int .i64 2))),oI 17 (.mov (.t 18))] none [17,11,3,0]) (.cond (.t 17) (.seq (.region [oI 19 (.mov (.t 0)),oI 20 (.faddr 25 (.t 3)),oI 21 (.ld none (.t 20)),oI 22 (.call 81 0 true [(.t 21),(.c (.int .i64 1))]),oI 23 (.call 127 1 true [(.t 19),(.t 22),(.c (.int .i64 1))])] none [3,0]) (.seq (.region [oI 24 (.mov (.t 0)),oI 25 (.faddr 7 (.t 3)),oI 26 (.ld none (.t 25)),oI 27 (.call 127 1 true [(.t 24),(.t 26),(.c (.int .i64 1))])] none [3,0]) (.region [oI 28 (.mov (.t 0)),oI 29 (.faddr 9 (.t 3)),oI 30 (.ld none (.t 29)),oI 31 (.call 128 1 true [(.t 28),(.c (.int .i64 2)),(.t 30)])] none []))) (.seq (.region [oI 33 (.bin .eql (.t 11) (.c (.int .i64 3))),oI 32 (.mov (.t 33))] none [32,11,3,0]) (.cond (.t 32) (.seq (.region [oI 34 (.mov (.t 0)),oI 35 (.faddr 5 (.t 3)),oI 36 (.ld none (.t 35)),oI 37 (.call 129 1 true [(.t 34),(.t 36)])] none [3,0]) (.seq (.seq (.region [oI 38 (.faddr 2 (.t 3)),oI 39 (.ld none (.t 38)),oI 40 (.bin .gtr (.t 39) (.c (.int .i64 0)))] none [40,3,0]) (.cond (.t 40) (.region [oI 41 (.mov (.t 0)),oI 42 (.faddr 4 (.t 3)),oI 43 (.ld none (.t 42)),oI 44 (.call 127 1 true [(.t 41),(.t 43),(.c (.int .i64 2))])] none [3,0]) .skip)) (.seq (.region [oI 45 (.mov (.t 0)),oI 46 (.faddr 9 (.t 3)),oI 47 (.ld none (.t 46)),oI 48 (.call 128 1 true [(.t 45),(.c (.int .i64 3)),(.t 47)])] none [3,0]) (.region [oI 49 (.mov (.t 0)),oI 50 (.nilchk (.t 49)),oI 51 (.faddr 0 (.t 50)),oI 52 (.faddr 6 (.t 3)),oI 53 (.ld none (.t 52)),oI 54 (.call 130 1 true [(.t 51),(.t 53)])] (some [(5,5)]) [])))) (.seq (.seq (.region [oI 56 (.bin .eql (.t 11) (.c (.int .i64 4))),oI 55 (.mov (.t 56))] none [55,11,3,0]) (.cond (.t 55) .skip (.seq (.region [oI 57 (.bin .eql (.t 11) (.c (.int .i64 5))),oI 55 (.mov (.t 57))] none [55,11,3,0]) (.cond (.t 55) .skip (.seq (.region [oI 58 (.bin .eql (.t 11) (.c (.int .i64 6))),oI 55 (.mov (.t 58))] none [55,11,3,0]) (.cond (.t 55) .skip (.region [oI 59 (.bin .eql (.t 11) (.c (.int .i64 7))),oI 55 (.mov (.t 59))] none [55,11,3,0]))))))) (.cond (.t 55) (.seq (.region [oI 60 (.mov (.t 0)),oI 61 (.faddr 4 (.t 3)),oI 62 (.ld none (.t 61)),oI 63 (.call 127 1 true [(.t 60),(.t 62),(.c (.int .i64 2))])] none [3,0]) (.region [oI 64 (.mov (.t 0)),oI 65 (.ld (some 26) (.t 3)),oI 66 (.call 131 1 true [(.t 64),(.t 65)])] none [])) (.seq (.region [oI 68 (.bin .eql (.t 11) (.c (.int .i64 8))),oI 67 (.mov (.t 68))] none [67,11,3,0]) (.cond (.t 67) (.seq (.region [oI 69 (.mov (.t 0)),oI 70 (.ld (some 26) (.t 3)),oI 71 (.call 132 1 true [(.t 69),(.t 70)])] none [3,0]) (.seq (.region [oI 72 (.faddr 10 (.t 3)),oI 73 (.ld none (.t 72)),oI 74 (.len (.t 73)),oI 75 (.mov (.c (.int .i64 0)))] none [75,74,73,0]) (.block 1 (.loop [75,74,73,0] Zmx)))) (.seq (.region [oI 103 (.bin .eql (.t 11) (.c (.int .i64 10))),oI 102 (.mov (.t 103))] none [102,11,3,0]) (.cond (.t 102) (.seq (.region [oI 104 (.mov (.t 0)),oI 105 (.ld (some 26) (.t 3)),oI 106 (.call 132 1 true [(.t 104),(.t 105)])] none [3,0]) (.seq (.region [oI 107 (.faddr 11 (.t 3)),oI 108 (.ld none (.t 107)),oI 109 (.len (.t 108)),oI 110 (.mov (.c (.int .i64 0)))] none [110,109,108,0]) (.block 3 (.loop [110,109,108,0] Zms)))) (.seq (.seq (.region [oI 119 (.bin .eql (.t 11) (.c (.int .i64 9))),oI 118 (.mov (.t 119))] none [118,11,3,0]) (.cond (.t 118) .skip (.region [oI 120 (.bin .eql (.t 11) (.c (.int .i64 11))),oI 118 (.mov (.t 120))] none [118,11,3,0]))) (.cond (.t 118) (.seq (.region [oI 121 (.mov (.t 0)),oI 122 (.ld (some 26) (.t 3)),oI 123 (.call 132 1 true [(.t 121),(.t 122)])] none [3,0]) (.seq (.region [oI 124 (.faddr 8 (.t 3)),oI 125 (.ld none (.t 124)),oI 126 (.len (.t 125)),oI 127 (.mov (.c (.int .i64 0)))] none [127,126,125,0]) (.block 5 (.loop [127,126,125,0] ZmE)))) (.seq (.seq (.region [oI 136 (.bin .eql (.t 11) (.c (.int .i64 14))),oI 135 (.mov (.t 136))] none [135,11,3,0]) (.cond (.t 135) .skip (.region [oI 137 (.bin .eql (.t 11) (.c (.int .i64 15))),oI 135 (.mov (.t 137))] none [135,3,0]))) (.cond (.t 135) (.region [oI 138 (.mov (.t 0)),oI 139 (.ld (some 26) (.t 3)),oI 140 (.call 131 1 true [(.t 138),(.t 139)])] none []) .skip)))))))))))))))))))
def ZhG:ZI:=⟨[],Zdk⟩
theorem Zeb:FC 78=some ZhG:=by kernel_rfl
theorem ZdM:ZhG.body=Zdk:=rfl
theorem ZdV:ZhG.res=[]:=rfl
def ZeG:Zf:=(.seq (.region [oI 3 (.box (.t 1))] none [3,0]) (.seq (.region [oI 4 (.mov (.t 0)),oI 5 (.call 129 1 true [(.t 4),(.c (.str [77,81,84,84]))])] none [3,0]) (.seq (.region [oI 6 (.mov (.t 0)),oI 7 (.call 127 1 true [(.t 6),(.c (.int .i64 5)),(.c (.int .i64 1))])] none [3,0]) (.seq (.region [oI 8 (.mov (.t 0)),oI 9 (.faddr 12 (.t 3)),oI 10 (.ld none (.t 9)),oI 11 (.call 81 0 true [(.t 10),(.c (.int .i64 2))]),oI 12 (.faddr 15 (.t 3)),oI 13 (.ld none (.t 12)),oI 14 (.call 81 0 true [(.t 13),(.c (.int .i64 4))]),oI 15 (.bin .add (.t 11) (.t 14)),oI 16 (.faddr 16 (.t 3)),oI 17 (.faddr 2 (.t 16)),oI 18 (.ld none (.t 17)),oI 19 (.bin .and (.t 18) (.c (.int .i64 3))),oI 20 (.bin .mul (.t 19) (.c (.int .i64 8))),oI 21 (.bin .add (.t 15) (.t 20)),oI 22 (.faddr 16 (.t 3)),oI 23 (.faddr 3 (.t 22)),oI 24 (.ld none (.t 23)),oI 25 (.call 81 0 true [(.t 24),(.c (.int .i64 32))]),oI 26 (.bin .add (.t 21) (.t 25)),oI 27 (.faddr 23 (.t 3)),oI 28 (.ld none (.t 27)),oI 29 (.call 81 0 true [(.t 28),(.c (.int .i64 64))]),oI 30 (.bin .add (.t 26) (.t 29)),oI 31 (.faddr 21 (.t 3)),oI 32 (.ld none (.t 31)),oI 33 (.call 81 0 true [(.t 32),(.c (.int .i64 128))]),oI 34 (.bin .add (.t 30) (.t 33)),oI 35 (.call 127 1 true [(.t 8),(.t 34),(.c (.int .i64 1))])] (some [(2,5),(3,5),(2,10),(3,10),(5,10),(6,10),(2,16),(3,16),(5,16),(6,16),(10,16),(10,17),(2,20),(3,20),(5,20),(6,20),(10,20),(16,20),(17,20),(10,21),(2,24),(3,24),(5,24),(6,24),(10,24),(16,24),(17,24),(20,24),(21,24),(10,25),(25,25),(27,27)]) [3,0]) (.seq (.region [oI 36 (.mov (.t 0)),oI 37 (.faddr 13 (.t 3)),oI 38 (.ld none (.t 37)),oI 39 (.call 127 1 true [(.t 36),(.t 38),(.c (.int .i64 2))])] none [3,0]) (.seq (.region [oI 40 (.mov (.t 0)),oI 41 (.faddr 9 (.t 3)),oI 42 (.ld none (.t 41)),oI 43 (.call 128 1 true [(.t 40),(.c (.int .i64 1)),(.t 42)])] none [3,0]) (.seq (.region [oI 44 (.mov (.t 0)),oI 45 (.faddr 14 (.t 3)),oI 46 (.ld none (.t 45)),oI 47 (.call 129 1 true [(.t 44),(.t 46)])] none [3,0]) (.seq (.seq (.region [oI 48 (.faddr 15 (.t 3)),oI 49 (.ld none (.t 48))] none [49,3,0]) (.cond (.t 49) (.seq (.region [oI 50 (.mov (.t 0)),oI 51 (.faddr 16 (.t 3)),oI 52 (.faddr 4 (.t 51)),oI 53 (.ld none (.t 52)),oI 54 (.call 128 1 true [(.t 50),(.c (.int .i64 16)),(.t 53)])] none [3,0]) (.seq (.region [oI 55 (.mov (.t 0)),oI 56 (.faddr 16 (.t 3)),oI 57 (.faddr 0 (.t 56)),oI 58 (.ld none (.t 57)),oI 59 (.call 129 1 true [(.t 55),(.t 58)])] none [3,0]) (.region [oI 60 (.mov (.t 0)),oI 61 (.faddr 16 (.t 3)),oI 62 (.faddr 1 (.t 61)),oI 63 (.ld none (.t 62)),oI 64 (.call 149 1 true [(.t 60),(.t 63)])] none [3,0]))) .skip)) (.seq (.seq (.region [oI 65 (.faddr 21 (.t 3)),oI 66 (.ld none (.t 65))] none [66,3,0]) (.cond (.t 66) (.region [oI 67 (.mov (.t 0)),oI 68 (.faddr 22 (.t 3)),oI 69 (.ld none (.t 68)),oI 70 (.call 129 1 true [(.t 67),(.t 69)])] none [3,0]) .skip)) (.seq (.region [oI 71 (.faddr 23 (.t 3)),oI 72 (.ld none (.t 71))] none [72,3,0]) (.cond (.t 72) (.region [oI 73 (.mov (.t 0)),oI 74 (.faddr 24 (.t 3)),oI 75 (.ld none (.t 74)),oI 76 (.call 149 1 true [(.t 73),(.t 75)])] none []) .skip)))))))))))
def ZpE:ZI:=⟨[],ZeG⟩
theorem ZyZ:FC 126=some ZpE:=by kernel_rfl
theorem Zf7:ZpE.body=ZeG:=rfl
theorem ZfK:ZpE.res=[]:=rfl
def Zp2:Zf:=(.seq (.region [oI 7 (.mov (.t 1)),oI 8 (.call 55 0 true [(.t 7)]),oI 6 (.mov (.t 8)),oI 9 (.ext (.t 6) 0),oI 10 (.ext (.t 6) 1),oI 4 (.mov (.t 9)),oI 5 (.mov (.t 10))] none [4,0]) (.region [oI 11 (.mov (.t 0)),oI 12 (.nilchk (.t 11)),oI 13 (.faddr 0 (.t 12)),oI 14 (.mov (.t 4)),oI 15 (.call 130 1 true [(.t 13),(.t 14)])] none []))
def ZoC:ZI:=⟨[],Zp2⟩
theorem ZBt:FC 149=some ZoC:=by kernel_rfl
theorem ZyR:ZoC.body=Zp2:=rfl
theorem ZGZ:ZoC.res=[]:=rfl
def Zmw:Zf:=(.seq (.region [oI 3 (.box (.t 1))] none [3,0]) (.seq (.region [oI 4 (.mov (.t 0)),oI 5 (.faddr 4 (.t 3)),oI 6 (.ld none (.t 5)),oI 7 (.call 127 1 true [(.t 4),(.t 6),(.c (.int .i64 2))])] none [3,0]) (.region [oI 8 (.mov (.t 0)),oI 9 (.faddr 0 (.t 3)),oI 10 (.ld none (.t 9)),oI 11 (.faddr 9 (.t 3)),oI 12 (.ld none (.t 11)),oI 13 (.call 128 1 true [(.t 8),(.t 10),(.t 12)])] none [])))
def ZoF:ZI:=⟨[],Zmw⟩
theorem ZGU:FC 132=some ZoF:=by kernel_rfl
theorem Zyt:ZoF.body=Zmw:=rfl
theorem Zzb:ZoF.res=[]:=rfl
def Zkk:Zf:=(.region [oI 6 (.mov (.t 0)),oI 7 (.nilchk (.t 6)),oI 8 (.faddr 0 (.t 7)),oI 9 (.mov (.t 1)),oI 10 (.i2i .u64 (.t 9)),oI 11 (.mov (.t 2)),oI 12 (.call 59 0 true [(.t 10),(.t 11)]),oI 13 (.call 130 1 true [(.t 8),(.t 12)])] (some [(6,6),(7,7)]) [])
def Zop:ZI:=⟨[],Zkk⟩
theorem Zr7:FC 127=some Zop:=by kernel_rfl
theorem Zrj:Zop.body=Zkk:=rfl
theorem Zsx:Zop.res=[]:=rfl
def Znk:Zf:=(.seq (.region [oI 9 (.mov (.t 1)),oI 10 (.mov (.t 2)),oI 11 (.call 42 0 true [(.t 9),(.t 10)]),oI 8 (.mov (.t 11)),oI 12 (.ext (.t 8) 0),oI 13 (.ext (.t 8) 1),oI 6 (.mov (.t 12)),oI 7 (.mov (.t 13))] none [6,0]) (.region [oI 14 (.mov (.t 0)),oI 15 (.nilchk (.t 14)),oI 16 (.faddr 0 (.t 15)),oI 17 (.mov (.t 6)),oI 18 (.call 130 1 true [(.t 16),(.t 17)])] none []))
def Zpt:ZI:=⟨[],Znk⟩
theorem Zv8:FC 128=some Zpt:=by kernel_rfl
theorem ZG5:Zpt.body=Znk:=rfl
theorem ZwW:Zpt.res=[]:=rfl
def Zeo:Zf:=(.seq (.region [oI 3 (.box (.t 1))] none [3,0]) (.seq (.seq (.region [oI 4 (.faddr 7 (.t 3)),oI 5 (.ld none (.t 4)),oI 6 (.bin .neq (.t 5) (.c (.int .i64 0))),oI 7 (.mov (.t 6)),⟨(some 8),(.faddr 9 (.t 3)),(some (7,false)),[]⟩,⟨(some 9),(.ld none (.t 8)),(some (7,false)),[]⟩,⟨(some 10),(.len (.t 9)),(some (7,false)),[]⟩,⟨(some 11),(.bin .gtr (.t 10) (.c (.int .i64 0))),(some (7,false)),[]⟩,oI 12 (.pick (.t 7) (.c (.bool true)) (.t 11))] none [12,3,0]) (.cond (.t 12) (.region [oI 13 (.mov (.t 0)),oI 14 (.faddr 7 (.t 3)),oI 15 (.ld none (.t 14)),oI 16 (.call 127 1 true [(.t 13),(.t 15),(.c (.int .i64 1))])] none [3,0]) .skip)) (.seq (.region [oI 17 (.faddr 9 (.t 3)),oI 18 (.ld none (.t 17)),oI 19 (.len (.t 18)),oI 20 (.bin .gtr (.t 19) (.c (.int .i64 0)))] none [20,3,0]) (.cond (.t 20) (.region [oI 21 (.mov (.t 0)),oI 22 (.faddr 0 (.t 3)),oI 23 (.ld none (.t 22)),oI 24 (.faddr 9 (.t 3)),oI 25 (.ld none (.t 24)),oI 26 (.call 128 1 true [(.t 21),(.t 23),(.t 25)])] none []) .skip))))
def Zoj:ZI:=⟨[],Zeo⟩
theorem ZuB:FC 131=some Zoj:=by kernel_rfl
theorem Zf9:Zoj.body=Zeo:=rfl
theorem ZfU:Zoj.res=[]:=rfl
def ZlM:Zf:=(.seq (.region [oI 7 (.mov (.t 1)),oI 8 (.call 54 0 true [(.t 7)]),oI 6 (.mov (.t 8)),oI 9 (.ext (.t 6) 0),oI 10 (.ext (.t 6) 1),oI 4 (.mov (.t 9)),oI 5 (.mov (.t 10))] none [4,0]) (.region [oI 11 (.mov (.t 0)),oI 12 (.nilchk (.t 11)),oI 13 (.faddr 0 (.t 12)),oI 14 (.mov (.t 4)),oI 15 (.call 130 1 true [(.t 13),(.t 14)])] none []))
def ZoA:ZI:=⟨[],ZlM⟩
theorem ZtL:FC 129=some ZoA:=by kernel_rfl
theorem Zrt:ZoA.body=ZlM:=rfl
theorem Zqc:ZoA.res=[]:=rfl
def Zm6:Zf:=(.seq (.region [oI 3 (.box (.t 1)),oI 4 (.mov (.c (.bool false)))] none [3,0]) (.seq (.region [oI 5 (.mov (.t 0)),oI 6 (.call 87 0 true [(.t 5)]),oI 7 (.mkfn 88 [(.t 3)]),oI 8 (.call 86 0 true [(.t 6),(.t 7)]),oI 4 (.mov (.t 8))] none [4]) .ret))
def Znd:ZI:=⟨[(.tmp 4)],Zm6⟩
theorem ZxH:FC 41=some Znd:=by kernel_rfl
theorem ZEh:Znd.body=Zm6:=rfl
theorem ZMK:Znd.res=[(.tmp 4)]:=rfl
def Zjt:Zf:=(.seq (.region [oI 2 (.box (.t 0)),oI 3 (.mov (.c (.bool false)))] none [2,1]) (.seq (.region [oI 4 (.ld none (.t 1)),oI 5 (.faddr 0 (.t 2)),oI 6 (.ld none (.t 5)),oI 7 (.bin .geq (.t 4) (.t 6)),oI 8 (.mov (.t 7)),⟨(some 9),(.ld none (.t 1)),(some (8,true)),[]⟩,⟨(some 10),(.faddr 1 (.t 2)),(some (8,true)),[]⟩,⟨(some 11),(.ld none (.t 10)),(some (8,true)),[]⟩,⟨(some 12),(.bin .leq (.t 9) (.t 11)),(some (8,true)),[]⟩,oI 13 (.pick (.t 8) (.t 12) (.c (.bool false))),oI 3 (.mov (.t 13))] none [3]) .ret))
def Zo3:ZI:=⟨[(.tmp 3)],Zjt⟩
theorem ZI2:FC 88=some Zo3:=by kernel_rfl
theorem Zq1:Zo3.body=Zjt:=rfl
theorem Zre:Zo3.res=[(.tmp 3)]:=rfl
def Zcj:Zf:=(.seq (.region [oI 1 (.box (.t 0)),oI 2 (.alloc [(.int .u8 0),(.lst true [])]),oI 3 (.mov (.c (.int .i64 0)))] none [2,1]) (.seq (.region [oI 10 (.build [(.lst true []),(.int .i64 0),(.int .i8 0)] []),oI 11 (.box (.t 10)),oI 4 (.mov (.t 11))] none [4,2,1]) (.seq (.region [oI 12 (.mov (.t 4)),oI 13 (.ld (some 26) (.t 1)),oI 14 (.call 78 1 true [(.t 12),(.t 13)])] none [4,2,1]) (.seq (.region [oI 15 (.faddr 0 (.t 1)),oI 16 (.ld none (.t 15)),oI 17 (.bin .shl (.t 16) (.c (.int .u64 4))),oI 18 (.i2i .u8 (.t 17)),oI 19 (.faddr 0 (.t 1)),oI 20 (.ld none (.t 19)),oI 21 (.call 79 0 true [(.t 20)]),oI 22 (.bin .or (.t 18) (.t 21)),oI 23 (.mov (.t 4)),oI 24 (.nilchk (.t 23)),oI 25 (.faddr 0 (.t 24)),oI 26 (.call 80 0 true [(.t 25)]),oI 27 (.bslice false 1 1 (.lst true []) [(0,(.t 26))]),oI 28 (.call 56 0 true [(.t 27)]),oI 29 (.build [(.int .u8 0),(.lst true [])] [(0,1,(.t 22)),(1,1,(.t 28))]),oI 5 (.alloc [(.int .u8 0),(.lst true [])]),oN (.st 2 (.t 5) (.t 29))] (some [(1,5),(1,6),(1,11),(1,12),(1,13),(1,15),(5,15),(6,15),(11,15),(12,15),(13,15)]) [5,2,1]) (.seq (.seq (.region [oI 30 (.faddr 0 (.t 1)),oI 31 (.ld none (.t 30)),oI 32 (.bin .eql (.t 31) (.c (.int .i64 3)))] none [32,5,2,1]) (.cond (.t 32) (.region [oI 33 (.faddr 0 (.t 5)),oI 34 (.ld none (.t 33)),oI 35 (.faddr 1 (.t 1)),oI 36 (.ld none (.t 35)),oI 37 (.call 81 0 true [(.t 36),(.c (.int .i64 8))]),oI 38 (.faddr 2 (.t 1)),oI 39 (.ld none (.t 38)),oI 40 (.bin .and (.t 39) (.c (.int .i64 3))),oI 41 (.bin .mul (.t 40) (.c (.int .i64 2))),oI 42 (.bin .add (.t 37) (.t 41)),oI 43 (.faddr 3 (.t 1)),oI 44 (.ld none (.t 43)),oI 45 (.call 81 0 true [(.t 44),(.c (.int .i64 1))]),oI 46 (.bin .add (.t 42) (.t 45)),oI 47 (.i2i .u8 (.t 46)),oI 48 (.bin .or (.t 34) (.t 47)),oI 49 (.faddr 0 (.t 5)),oN (.st 1 (.t 49) (.t 48))] (some [(1,3),(1,4),(1,6),(3,6),(4,6),(1,11),(3,11),(4,11),(6,11),(1,12),(6,12),(12,12)]) [5,2,1]) .skip)) (.seq (.region [oI 51 (.ld (some 2) (.t 5)),oI 52 (.call 32 0 true [(.t 51)]),oI 50 (.mov (.t 52)),oI 53 (.ext (.t 50) 0),oI 54 (.ext (.t 50) 1),oI 6 (.alloc [(.int .i64 0),(.bool false),(.int .i64 0),(.bool false),(.int .i64 0),(.str []),(.lst true []),(.int .i64 0),(.lst true []),(.lst true []),(.lst true []),(.lst true []),(.bool false),(.int .i64 0),(.str []),(.bool false),(.str []),(.lst true []),(.int .i64 0),(.bool false),(.lst true []),(.bool false),(.str []),(.bool false),(.lst true []),(.bool false)]),oN (.st 26 (.t 6) (.t 53)),oI 7 (.mov (.t 54))] none [7,6,5,2,1]) (.seq (.seq (.region [oI 56 (.faddr 1 (.t 5)),oI 57 (.ld none (.t 56)),oI 58 (.len (.t 57)),oI 59 (.call 82 0 true [(.t 58)]),oI 55 (.mov (.t 59)),oI 60 (.ext (.t 55) 0),oI 61 (.ext (.t 55) 1),oI 8 (.mov (.t 60)),oI 9 (.mov (.t 61))] none [9,7,6,5,2,1]) (.seq (.region [oI 62 (.mov (.t 9)),oI 63 (.bin .neq (.t 62) (.c (.int .i64 0))),oI 64 (.mov (.t 63)),⟨(some 65),(.mov (.t 7)),(some (64,false)),[]⟩,⟨(some 66),(.bin .neq (.t 65) (.c (.int .i64 0))),(some (64,false)),[]⟩,oI 67 (.pick (.t 64) (.c (.bool true)) (.t 66)),oI 68 (.mov (.t 67)),⟨(some 69),(.ld (some 26) (.t 6)),(some (68,false)),[]⟩,⟨(some 70),(.ld (some 26) (.t 1)),(some (68,false)),[]⟩,⟨(some 71),(.call 35 0 true [(.t 69),(.t 70)]),(some (68,false)),[]⟩,⟨(some 72),(.un .not (.t 71)),(some (68,false)),[]⟩,oI 73 (.pick (.t 68) (.c (.bool true)) (.t 72))] none [73,5,2]) (.cond (.t 73) (.seq (.region [oI 74 (.build [(.int .u8 0),(.lst true [])] []),oN (.st 2 (.t 2) (.t 74)),oI 3 (.mov (.c (.int .i64 129)))] none [3,2]) .ret) .skip))) (.seq (.region [oI 75 (.ld (some 2) (.t 5)),oN (.st 2 (.t 2) (.t 75)),oI 3 (.mov (.c (.int .i64 0)))] none [3,2]) .ret))))))))
def Zoh:ZI:=⟨[(.cell 2 (some 2)),(.tmp 3)],Zcj⟩
theorem ZkX:FC 34=some Zoh:=by kernel_rfl
theorem Zcz:Zoh.body=Zcj:=rfl
theorem ZcB:Zoh.res=[(.cell 2 (some 2)),(.tmp 3)]:=rfl
def Zk2:Zf:=(.seq (.region [oI 1 (.box (.t 0)),oI 2 (.mov (.c (.lst true []))),oI 3 (.mov (.c (.int .i64 0)))] none [1]) (.seq (.region [oI 9 (.ld (some 26) (.t 1)),oI 10 (.call 34 0 true [(.t 9)]),oI 8 (.mov (.t 10)),oI 11 (.ext (.t 8) 0),oI 12 (.ext (.t 8) 1),oI 4 (.alloc [(.int .u8 0),(.lst true [])]),oN (.st 2 (.t 4) (.t 11)),oI 5 (.mov (.t 12))] none [5,4]) (.seq (.seq (.region [oI 13 (.mov (.t 5)),oI 14 (.bin .neq (.t 13) (.c (.int .i64 0)))] none [14,5,4]) (.cond (.t 14) (.seq (.region [oI 15 (.mov (.t 5)),oI 2 (.mov (.c (.lst true []))),oI 3 (.mov (.t 15))] none [3,2]) .ret) .skip)) (.seq (.region [oI 17 (.faddr 1 (.t 4)),oI 18 (.ld none (.t 17)),oI 19 (.len (.t 18)),oI 20 (.call 82 0 true [(.t 19)]),oI 16 (.mov (.t 20)),oI 21 (.ext (.t 16) 0),oI 22 (.ext (.t 16) 1),oI 6 (.mov (.t 21)),oI 7 (.mov (.t 22))] none [6,4]) (.seq (.region [oI 23 (.faddr 0 (.t 4)),oI 24 (.ld none (.t 23)),oI 25 (.bslice false 1 1 (.int .u8 0) [(0,(.t 24))]),oI 26 (.mov (.t 6)),oI 27 (.faddr 1 (.t 4)),oI 28 (.ld none (.t 27)),oI 29 (.bslice false 1 3 (.lst true []) [(0,(.t 25)),(1,(.t 26)),(2,(.t 28))]),oI 30 (.call 56 0 true [(.t 29)]),oI 2 (.mov (.t 30)),oI 3 (.mov (.c (.int .i64 0)))] none [3,2]) .ret)))))
def Zn8:ZI:=⟨[(.tmp 2),(.tmp 3)],Zk2⟩
theorem Zsl:FC 40=some Zn8:=by kernel_rfl
theorem ZsC:Zn8.body=Zk2:=rfl
theorem Zs7:Zn8.res=[(.tmp 2),(.tmp 3)]:=rfl
def Zpa:Zf:=(.seq (.region [oI 2 (.box (.t 0)),oI 3 (.box (.t 1)),oI 4 (.mov (.c (.bool false)))] none [3,2]) (.seq (.region [oI 9 (.faddr 8 (.t 2)),oI 10 (.ld none (.t 9)),oI 11 (.faddr 8 (.t 3)),oI 12 (.ld none (.t 11)),oI 13 (.call 83 0 true [(.t 10),(.t 12)]),oI 14 (.mov (.t 13)),⟨(some 15),(.faddr 10 (.t 2)),(some (14,true)),[]⟩,⟨(some 16),(.ld none (.t 15)),(some (14,true)),[]⟩,⟨(some 17),(.faddr 10 (.t 3)),(some (14,true)),[]⟩,⟨(some 18),(.ld none (.t 17)),(some (14,true)),[]⟩,⟨(some 19),(.call 84 0 true [(.t 16),(.t 18)]),(some (14,true)),[]⟩,oI 20 (.pick (.t 14) (.t 19) (.c (.bool false))),oI 21 (.mov (.t 20)),⟨(some 22),(.faddr 11 (.t 2)),(some (21,true)),[]⟩,⟨(some 23),(.ld none (.t 22)),(some (21,true)),[]⟩,⟨(some 24),(.faddr 11 (.t 3)),(some (21,true)),[]⟩,⟨(some 25),(.ld none (.t 24)),(some (21,true)),[]⟩,⟨(some 26),(.call 85 0 true [(.t 23),(.t 25)]),(some (21,true)),[]⟩,oI 27 (.pick (.t 21) (.t 26) (.c (.bool false))),oI 28 (.mov (.t 27)),⟨(some 29),(.faddr 9 (.t 2)),(some (28,true)),[]⟩,⟨(some 30),(.ld none (.t 29)),(some (28,true)),[]⟩,⟨(some 31),(.faddr 9 (.t 3)),(some (28,true)),[]⟩,⟨(some 32),(.ld none (.t 31)),(some (28,true)),[]⟩,⟨(some 33),(.call 43 0 true [(.t 30),(.t 32)]),(some (28,true)),[]⟩,oI 34 (.pick (.t 28) (.t 33) (.c (.bool false))),oI 35 (.mov (.t 34)),⟨(some 36),(.faddr 16 (.t 2)),(some (35,true)),[]⟩,⟨(some 37),(.faddr 4 (.t 36)),(some (35,true)),[]⟩,⟨(some 38),(.ld none (.t 37)),(some (35,true)),[]⟩,⟨(some 39),(.faddr 16 (.t 3)),(some (35,true)),[]⟩,⟨(some 40),(.faddr 4 (.t 39)),(some (35,true)),[]⟩,⟨(some 41),(.ld none (.t 40)),(some (35,true)),[]⟩,⟨(some 42),(.call 43 0 true [(.t 38),(.t 41)]),(some (35,true)),[]⟩,oI 43 (.pick (.t 35) (.t 42) (.c (.bool false))),oI 5 (.mov (.t 43))] none [5,3,2]) (.seq (.region [oI 44 (.faddr 6 (.t 2)),oI 45 (.ld none (.t 44)),oI 46 (.b2s (.t 45)),oI 47 (.faddr 6 (.t 3)),oI 48 (.ld none (.t 47)),oI 49 (.b2s (.t 48)),oI 50 (.bin .eql (.t 46) (.t 49)),oI 51 (.mov (.t 50)),⟨(some 52),(.faddr 24 (.t 2)),(some (51,true)),[]⟩,⟨(some 53),(.ld none (.t 52)),(some (51,true)),[]⟩,⟨(some 54),(.b2s (.t 53)),(some (51,true)),[]⟩,⟨(some 55),(.faddr 24 (.t 3)),(some (51,true)),[]⟩,⟨(some 56),(.ld none (.t 55)),(some (51,true)),[]⟩,⟨(some 57),(.b2s (.t 56)),(some (51,true)),[]⟩,⟨(some 58),(.bin .eql (.t 54) (.t 57)),(some (51,true)),[]⟩,oI 59 (.pick (.t 51) (.t 58) (.c (.bool false))),oI 60 (.mov (.t 59)),⟨(some 61),(.faddr 16 (.t 2)),(some (60,true)),[]⟩,⟨(some 62),(.faddr 1 (.t 61)),(some (60,true)),[]⟩,⟨(some 63),(.ld none (.t 62)),(some (60,true)),[]⟩,⟨(some 64),(.b2s (.t 63)),(some (60,true)),[]⟩,⟨(some 65),(.faddr 16 (.t 3)),(some (60,true)),[]⟩,⟨(some 66),(.faddr 1 (.t 65)),(some (60,true)),[]⟩,⟨(some 67),(.ld none (.t 66)),(some (60,true)),[]⟩,⟨(some 68),(.b2s (.t 67)),(some (60,true)),[]⟩,⟨(some 69),(.bin .eql (.t 64) (.t 68)),(some (60,true)),[]⟩,oI 70 (.pick (.t 60) (.t 69) (.c (.bool false))),oI 6 (.mov (.t 70))] none [6,5,3,2]) (.seq (.region [oI 71 (.faddr 16 (.t 2)),oI 72 (.faddr 0 (.t 71)),oI 73 (.ld none (.t 72)),oI 74 (.faddr 16 (.t 3)),oI 75 (.faddr 0 (.t 74)),oI 76 (.ld none (.t 75)),oI 77 (.bin .eql (.t 73) (.t 76)),oI 78 (.mov (.t 77)),⟨(some 79),(.faddr 16 (.t 2)),(some (78,true)),[]⟩,⟨(some 80),(.faddr 2 (.t 79)),(some (78,true)),[]⟩,⟨(some 81),(.ld none (.t 80)),(some (78,true)),[]⟩,⟨(some 82),(.faddr 16 (.t 3)),(some (78,true)),[]⟩,⟨(some 83),(.faddr 2 (.t 82)),(some (78,true)),[]⟩,⟨(some 84),(.ld none (.t 83)),(some (78,true)),[]⟩,⟨(some 85),(.bin .eql (.t 81) (.t 84)),(some (78,true)),[]⟩,oI 86 (.pick (.t 78) (.t 85) (.c (.bool false))),oI 87 (.mov (.t 86)),⟨(some 88),(.faddr 16 (.t 2)),(some (87,true)),[]⟩,⟨(some 89),(.faddr 3 (.t 88)),(some (87,true)),[]⟩,⟨(some 90),(.ld none (.t 89)),(some (87,true)),[]⟩,⟨(some 91),(.faddr 16 (.t 3)),(some (87,true)),[]⟩,⟨(some 92),(.faddr 3 (.t 91)),(some (87,true)),[]⟩,⟨(some 93),(.ld none (.t 92)),(some (87,true)),[]⟩,⟨(some 94),(.beq false (.t 90) (.t 93)),(some (87,true)),[]⟩,oI 95 (.pick (.t 87) (.t 94) (.c (.bool false))),oI 7 (.mov (.t 95))] none [7,6,5,3,2]) (.seq (.region [oI 96 (.faddr 1 (.t 2)),oI 97 (.ld none (.t 96)),oI 98 (.faddr 1 (.t 3)),oI 99 (.ld none (.t 98)),oI 100 (.beq false (.t 97) (.t 99)),oI 101 (.mov (.t 100)),⟨(some 102),(.faddr 3 (.t 2)),(some (101,true)),[]⟩,⟨(some 103),(.ld none (.t 102)),(some (101,true)),[]⟩,⟨(some 104),(.faddr 3 (.t 3)),(some (101,true)),[]⟩,⟨(some 105),(.ld none (.t 104)),(some (101,true)),[]⟩,⟨(some 106),(.beq false (.t 103) (.t 105)),(some (101,true)),[]⟩,oI 107 (.pick (.t 101) (.t 106) (.c (.bool false))),oI 108 (.mov (.t 107)),⟨(some 109),(.faddr 12 (.t 2)),(some (108,true)),[]⟩,⟨(some 110),(.ld none (.t 109)),(some (108,true)),[]⟩,⟨(some 111),(.faddr 12 (.t 3)),(some (108,true)),[]⟩,⟨(some 112),(.ld none (.t 111)),(some (108,true)),[]⟩,⟨(some 113),(.beq false (.t 110) (.t 112)),(some (108,true)),[]⟩,oI 114 (.pick (.t 108) (.t 113) (.c (.bool false))),oI 115 (.mov (.t 114)),⟨(some 116),(.faddr 15 (.t 2)),(some (115,true)),[]⟩,⟨(some 117),(.ld none (.t 116)),(some (115,true)),[]⟩,⟨(some 118),(.faddr 15 (.t 3)),(some (115,true)),[]⟩,⟨(some 119),(.ld none (.t 118)),(some (115,true)),[]⟩,⟨(some 120),(.beq false (.t 117) (.t 119)),(some (115,true)),[]⟩,oI 121 (.pick (.t 115) (.t 120) (.c (.bool false))),oI 122 (.mov (.t 121)),⟨(some 123),(.faddr 21 (.t 2)),(some (122,true)),[]⟩,⟨(some 124),(.ld none (.t 123)),(some (122,true)),[]⟩,⟨(some 125),(.faddr 21 (.t 3)),(some (122,true)),[]⟩,⟨(some 126),(.ld none (.t 125)),(some (122,true)),[]⟩,⟨(some 127),(.beq false (.t 124) (.t 126)),(some (122,true)),[]⟩,oI 128 (.pick (.t 122) (.t 127) (.c (.bool false))),oI 129 (.mov (.t 128)),⟨(some 130),(.faddr 23 (.t 2)),(some (129,true)),[]⟩,⟨(some 131),(.ld none (.t 130)),(some (129,true)),[]⟩,⟨(some 132),(.faddr 23 (.t 3)),(some (129,true)),[]⟩,⟨(some 133),(.ld none (.t 132)),(some (129,true)),[]⟩,⟨(some 134),(.beq false (.t 131) (.t 133)),(some (129,true)),[]⟩,oI 135 (.pick (.t 129) (.t 134) (.c (.bool false))),oI 136 (.mov (.t 135)),⟨(some 137),(.faddr 25 (.t 2)),(some (136,true)),[]⟩,⟨(some 138),(.ld none (.t 137)),(some (136,true)),[]⟩,⟨(some 139),(.faddr 25 (.t 3)),(some (136,true)),[]⟩,⟨(some 140),(.ld none (.t 139)),(some (136,true)),[]⟩,⟨(some 141),(.beq false (.t 138) (.t 140)),(some (136,true)),[]⟩,oI 142 (.pick (.t 136) (.t 141) (.c (.bool false))),oI 8 (.mov (.t 142))] none [8,7,6,5,3,2]) (.seq (.region [oI 143 (.mov (.t 5)),oI 144 (.mov (.t 143)),⟨(some 145),(.mov (.t 6)),(some (144,true)),[]⟩,oI 146 (.pick (.t 144) (.t 145) (.c (.bool false))),oI 147 (.mov (.t 146)),⟨(some 148),(.mov (.t 7)),(some (147,true)),[]⟩,oI 149 (.pick (.t 147) (.t 148) (.c (.bool false))),oI 150 (.mov (.t 149)),⟨(some 151),(.mov (.t 8)),(some (150,true)),[]⟩,oI 152 (.pick (.t 150) (.t 151) (.c (.bool false))),oI 153 (.mov (.t 152)),⟨(some 154),(.faddr 0 (.t 2)),(some (153,true)),[]⟩,⟨(some 155),(.ld none (.t 154)),(some (153,true)),[]⟩,⟨(some 156),(.faddr 0 (.t 3)),(some (153,true)),[]⟩,⟨(some 157),(.ld none (.t 156)),(some (153,true)),[]⟩,⟨(some 158),(.bin .eql (.t 155) (.t 157)),(some (153,true)),[]⟩,oI 159 (.pick (.t 153) (.t 158) (.c (.bool false))),oI 160 (.mov (.t 159)),⟨(some 161),(.faddr 2 (.t 2)),(some (160,true)),[]⟩,⟨(some 162),(.ld none (.t 161)),(some (160,true)),[]⟩,⟨(some 163),(.faddr 2 (.t 3)),(some (160,true)),[]⟩,⟨(some 164),(.ld none (.t 163)),(some (160,true)),[]⟩,⟨(some 165),(.bin .eql (.t 162) (.t 164)),(some (160,true)),[]⟩,oI 166 (.pick (.t 160) (.t 165) (.c (.bool false))),oI 167 (.mov (.t 166)),⟨(some 168),(.faddr 4 (.t 2)),(some (167,true)),[]⟩,⟨(some 169),(.ld none (.t 168)),(some (167,true)),[]⟩,⟨(some 170),(.faddr 4 (.t 3)),(some (167,true)),[]⟩,⟨(some 171),(.ld none (.t 170)),(some (167,true)),[]⟩,⟨(some 172),(.bin .eql (.t 169) (.t 171)),(some (167,true)),[]⟩,oI 173 (.pick (.t 167) (.t 172) (.c (.bool false))),oI 174 (.mov (.t 173)),⟨(some 175),(.faddr 5 (.t 2)),(some (174,true)),[]⟩,⟨(some 176),(.ld none (.t 175)),(some (174,true)),[]⟩,⟨(some 177),(.faddr 5 (.t 3)),(some (174,true)),[]⟩,⟨(some 178),(.ld none (.t 177)),(some (174,true)),[]⟩,⟨(some 179),(.bin .eql (.t 176) (.t 178)),(some (174,true)),[]⟩,oI 180 (.pick (.t 174) (.t 179) (.c (.bool false))),oI 181 (.mov (.t 180)),⟨(some 182),(.faddr 7 (.t 2)),(some (181,true)),[]⟩,⟨(some 183),(.ld none (.t 182)),(some (181,true)),[]⟩,⟨(some 184),(.faddr 7 (.t 3)),(some (181,true)),[]⟩,⟨(some 185),(.ld none (.t 184)),(some (181,true)),[]⟩,⟨(some 186),(.bin .eql (.t 183) (.t 185)),(some (181,true)),[]⟩,oI 187 (.pick (.t 181) (.t 186) (.c (.bool false))),oI 188 (.mov (.t 187)),⟨(some 189),(.faddr 13 (.t 2)),(some (188,true)),[]⟩,⟨(some 190),(.ld none (.t 189)),(some (188,true)),[]⟩,⟨(some 191),(.faddr 13 (.t 3)),(some (188,true)),[]⟩,⟨(some 192),(.ld none (.t 191)),(some (188,true)),[]⟩,⟨(some 193),(.bin .eql (.t 190) (.t 192)),(some (188,true)),[]⟩,oI 194 (.pick (.t 188) (.t 193) (.c (.bool false))),oI 195 (.mov (.t 194)),⟨(some 196),(.faddr 14 (.t 2)),(some (195,true)),[]⟩,⟨(some 197),(.ld none (.t 196)),(some (195,true)),[]⟩,⟨(some 198),(.faddr 14 (.t 3)),(some (195,true)),[]⟩,⟨(some 199),(.ld none (.t 198)),(some (195,true)),[]⟩,⟨(some 200),(.bin .eql (.t 197) (.t 199)),(some (195,true)),[]⟩,oI 201 (.pick (.t 195) (.t 200) (.c (.bool false))),oI 202 (.mov (.t 201)),⟨(some 203),(.faddr 22 (.t 2)),(some (202,true)),[]⟩,⟨(some 204),(.ld none (.t 203)),(some (202,true)),[]⟩,⟨(some 205),(.faddr 22 (.t 3)),(some (202,true)),[]⟩,⟨(some 206),(.ld none (.t 205)),(some (202,true)),[]⟩,⟨(some 207),(.bin .eql (.t 204) (.t 206)),(some (202,true)),[]⟩,oI 208 (.pick (.t 202) (.t 207) (.c (.bool false))),oI 4 (.mov (.t 208))] none [4]) .ret))))))
def ZpH:ZI:=⟨[(.tmp 4)],Zpa⟩
theorem ZJR:FC 35=some ZpH:=by kernel_rfl
theorem ZxP:ZpH.body=Zpa:=rfl
theorem ZBT:ZpH.res=[(.tmp 4)]:=rfl
def ZdD:Zf:=(.seq (.region [oI 2 (.mov (.c (.lst true [])))] none [0]) (.seq (.seq (.region [oI 3 (.mov (.t 0))] none [3]) (.block 0 (.seq (.region [oI 5 (.bin .eql (.t 3) (.c (.int .i64 2))),oI 4 (.mov (.t 5))] none [4,3]) (.cond (.t 4) (.seq (.region [oI 6 (.build [(.int .i64 0),(.int .i64 0)] [(0,1,(.c (.int .i64 0))),(1,1,(.c (.int .i64 0)))]),oI 7 (.build [(.int .i64 0),(.int .i64 0)] [(0,1,(.c (.int .i64 128))),(1,1,(.c (.int .i64 138)))]),oI 8 (.build [(.int .i64 0),(.int .i64 0)] [(0,1,(.c (.int .i64 140))),(1,1,(.c (.int .i64 140)))]),oI 9 (.build [(.int .i64 0),(.int .i64 0)] [(0,1,(.c (.int .i64 144))),(1,1,(.c (.int .i64 144)))]),oI 10 (.build [(.int .i64 0),(.int .i64 0)] [(0,1,(.c (.int .i64 149))),(1,1,(.c (.int .i64 149)))]),oI 11 (.build [(.int .i64 0),(.int .i64 0)] [(0,1,(.c (.int .i64 151))),(1,1,(.c (.int .i64 151)))]),oI 12 (.build [(.int .i64 0),(.int .i64 0)] [(0,1,(.c (.int .i64 153))),(1,1,(.c (.int .i64 157)))]),oI 13 (.build [(.int .i64 0),(.int .i64 0)] [(0,1,(.c (.int .i64 159))),(1,1,(.c (.int .i64 159)))]),oI 14 (.bslice false 2 8 (.agg [(.int .i64 0),(.int .i64 0)]) [(0,(.t 6)),(1,(.t 7)),(2,(.t 8)),(3,(.t 9)),(4,(.t 10)),(5,(.t 11)),(6,(.t 12)),(7,(.t 13))]),oI 2 (.mov (.t 14))] none [2]) .ret) (.seq (.seq (.region [oI 16 (.bin .eql (.t 3) (.c (.int .i64 4))),oI 15 (.mov (.t 16))] none [15,3]) (.cond (.t 15) .skip (.region [oI 17 (.bin .eql (.t 3) (.c (.int .i64 5))),oI 15 (.mov (.t 17))] none [15,3]))) (.cond (.t 15) (.seq (.region [oI 18 (.build [(.int .i64 0),(.int .i64 0)] [(0,1,(.c (.int .i64 0))),(1,1,(.c (.int .i64 0)))]),oI 19 (.build [(.int .i64 0),(.int .i64 0)] [(0,1,(.c (.int .i64 16))),(1,1,(.c (.int .i64 16)))]),oI 20 (.build [(.int .i64 0),(.int .i64 0)] [(0,1,(.c (.int .i64 128))),(1,1,(.c (.int .i64 128)))]),oI 21 (.build [(.int .i64 0),(.int .i64 0)] [(0,1,(.c (.int .i64 131))),(1,1,(.c (.int .i64 131)))]),oI 22 (.build [(.int .i64 0),(.int .i64 0)] [(0,1,(.c (.int .i64 135))),(1,1,(.c (.int .i64 135)))]),oI 23 (.build [(.int .i64 0),(.int .i64 0)] [(0,1,(.c (.int .i64 144))),(1,1,(.c (.int .i64 145)))]),oI 24 (.build [(.int .i64 0),(.int .i64 0)] [(0,1,(.c (.int .i64 151))),(1,1,(.c (.int .i64 151)))]),oI 25 (.build [(.int .i64 0),(.int .i64 0)] [(0,1,(.c (.int .i64 153))),(1,1,(.c (.int .i64 153)))]),oI 26 (.bslice false 2 8 (.agg [(.int .i64 0),(.int .i64 0)]) [(0,(.t 18)),(1,(.t 19)),(2,(.t 20)),(3,(.t 21)),(4,(.t 22)),(5,(.t 23)),(6,(.t 24)),(7,(.t 25))]),oI 2 (.mov (.t 26))] none [2]) .ret) (.seq (.seq (.region [oI 28 (.bin .eql (.t 3) (.c (.int .i64 6))),oI 27 (.mov (.t 28))] none [27,3]) (.cond (.t 27) .skip (.region [oI 29 (.bin .eql (.t 3) (.c (.int .i64 7))),oI 27 (.mov (.t 29))] none [27,3]))) (.cond (.t 27) (.seq (.region [oI 30 (.build [(.int .i64 0),(.int .i64 0)] [(0,1,(.c (.int .i64 0))),(1,1,(.c (.int .i64 0)))]),oI 31 (.build [(.int .i64 0),(.int .i64 0)] [(0,1,(.c (.int .i64 146))),(1,1,(.c (.int .i64 146)))]),oI 32 (.bslice false 2 2 (.agg [(.int .i64 0),(.int .i64 0)]) [(0,(.t 30)),(1,(.t 31))]),oI 2 (.mov (.t 32))] none [2]) .ret) (.seq (.region [oI 34 (.bin .eql (.t 3) (.c (.int .i64 9))),oI 33 (.mov (.t 34))] none [33,3]) (.cond (.t 33) (.seq (.region [oI 35 (.build [(.int .i64 0),(.int .i64 0)] [(0,1,(.c (.int .i64 0))),(1,1,(.c (.int .i64 2)))]),oI 36 (.build [(.int .i64 0),(.int .i64 0)] [(0,1,(.c (.int .i64 128))),(1,1,(.c (.int .i64 128)))]),oI 37 (.build [(.int .i64 0),(.int .i64 0)] [(0,1,(.c (.int .i64 131))),(1,1,(.c (.int .i64 131)))]),oI 38 (.build [(.int .i64 0),(.int .i64 0)] [(0,1,(.c (.int .i64 135))),(1,1,(.c (.int .i64 135)))]),oI 39 (.build [(.int .i64 0),(.int .i64 0)] [(0,1,(.c (.int .i64 143))),(1,1,(.c (.int .i64 143)))]),oI 40 (.build [(.int .i64 0),(.int .i64 0)] [(0,1,(.c (.int .i64 145))),(1,1,(.c (.int .i64 145)))]),oI 41 (.build [(.int .i64 0),(.int .i64 0)] [(0,1,(.c (.int .i64 151))),(1,1,(.c (.int .i64 151)))]),oI 42 (.build [(.int .i64 0),(.int .i64 0)] [(0,1,(.c (.int .i64 158))),(1,1,(.c (.int .i64 158)))]),oI 43 (.build [(.int .i64 0),(.int .i64 0)] [(0,1,(.c (.int .i64 161))),(1,1,(.c (.int .i64 162)))]),oI 44 (.bslice false 2 9 (.agg [(.int .i64 0),(.int .i64 0)]) [(0,(.t 35)),(1,(.t 36)),(2,(.t 37)),(3,(.t 38)),(4,(.t 39)),(5,(.t 40)),(6,(.t 41)),(7,(.t 42)),(8,(.t 43))]),oI 2 (.mov (.t 44))] none [2]) .ret) (.seq (.region [oI 46 (.bin .eql (.t 3) (.c (.int .i64 11))),oI 45 (.mov (.t 46))] none [45,3]) (.cond (.t 45) (.seq (.region [oI 47 (.build [(.int .i64 0),(.int .i64 0)] [(0,1,(.c (.int .i64 0))),(1,1,(.c (.int .i64 0)))]),oI 48 (.build [(.int .i64 0),(.int .i64 0)] [(0,1,(.c (.int .i64 17))),(1,1,(.c (.int .i64 17)))]),oI 49 (.build [(.int .i64 0),(.int .i64 0)] [(0,1,(.c (.int .i64 128))),(1,1,(.c (.int .i64 128)))]),oI 50 (.build [(.int .i64 0),(.int .i64 0)] [(0,1,(.c (.int .i64 131))),(1,1,(.c (.int .i64 131)))]),oI 51 (.build [(.int .i64 0),(.int .i64 0)] [(0,1,(.c (.int .i64 135))),(1,1,(.c (.int .i64 135)))]),oI 52 (.build [(.int .i64 0),(.int .i64 0)] [(0,1,(.c (.int .i64 143))),(1,1,(.c (.int .i64 143)))]),oI 53 (.build [(.int .i64 0),(.int .i64 0)] [(0,1,(.c (.int .i64 145))),(1,1,(.c (.int .i64 145)))]),oI 54 (.bslice false 2 7 (.agg [(.int .i64 0),(.int .i64 0)]) [(0,(.t 47)),(1,(.t 48)),(2,(.t 49)),(3,(.t 50)),(4,(.t 51)),(5,(.t 52)),(6,(.t 53))]),oI 2 (.mov (.t 54))] none [2]) .ret) (.seq (.region [oI 56 (.bin .eql (.t 3) (.c (.int .i64 14))),oI 55 (.mov (.t 56))] none [55,3]) (.cond (.t 55) (.seq (.region [oI 57 (.build [(.int .i64 0),(.int .i64 0)] [(0,1,(.c (.int .i64 0))),(1,1,(.c (.int .i64 0)))]),oI 58 (.build [(.int .i64 0),(.int .i64 0)] [(0,1,(.c (.int .i64 4))),(1,1,(.c (.int .i64 4)))]),oI 59 (.build [(.int .i64 0),(.int .i64 0)] [(0,1,(.c (.int .i64 128))),(1,1,(.c (.int .i64 131)))]),oI 60 (.build [(.int .i64 0),(.int .i64 0)] [(0,1,(.c (.int .i64 135))),(1,1,(.c (.int .i64 135)))]),oI 61 (.build [(.int .i64 0),(.int .i64 0)] [(0,1,(.c (.int .i64 137))),(1,1,(.c (.int .i64 137)))]),oI 62 (.build [(.int .i64 0),(.int .i64 0)] [(0,1,(.c (.int .i64 139))),(1,1,(.c (.int .i64 139)))]),oI 63 (.build [(.int .i64 0),(.int .i64 0)] [(0,1,(.c (.int .i64 141))),(1,1,(.c (.int .i64 144)))]),oI 64 (.build [(.int .i64 0),(.int .i64 0)] [(0,1,(.c (.int .i64 147))),(1,1,(.c (.int .i64 162)))]),oI 65 (.bslice false 2 8 (.agg [(.int .i64 0),(.int .i64 0)]) [(0,(.t 57)),(1,(.t 58)),(2,(.t 59)),(3,(.t 60)),(4,(.t 61)),(5,(.t 62)),(6,(.t 63)),(7,(.t 64))]),oI 2 (.mov (.t 65))] none [2]) .ret) (.seq (.region [oI 67 (.bin .eql (.t 3) (.c (.int .i64 15))),oI 66 (.mov (.t 67))] none [66]) (.cond (.t 66) (.seq (.region [oI 68 (.build [(.int .i64 0),(.int .i64 0)] [(0,1,(.c (.int .i64 0))),(1,1,(.c (.int .i64 0)))]),oI 69 (.build [(.int .i64 0),(.int .i64 0)] [(0,1,(.c (.int .i64 24))),(1,1,(.c (.int .i64 25)))]),oI 70 (.bslice false 2 2 (.agg [(.int .i64 0),(.int .i64 0)]) [(0,(.t 68)),(1,(.t 69))]),oI 2 (.mov (.t 70))] none [2]) .ret) .skip)))))))))))))))) (.seq (.region [oI 2 (.mov (.c (.lst true [])))] none [2]) .ret)))
def Znb:ZI:=⟨[(.tmp 2)],ZdD⟩
theorem Zee:FC 87=some Znb:=by kernel_rfl
theorem Zex:Znb.body=ZdD:=rfl
theorem Zec:Znb.res=[(.tmp 2)]:=rfl
def Zhz:Zf:=(.seq (.region [oI 2 (.mov (.c (.int .u8 0)))] none [0]) (.seq (.seq (.region [oI 3 (.mov (.t 0))] none [3]) (.block 0 (.seq (.seq (.region [oI 5 (.bin .eql (.t 3) (.c (.int .i64 6))),oI 4 (.mov (.t 5))] none [4,3]) (.cond (.t 4) .skip (.seq (.region [oI 6 (.bin .eql (.t 3) (.c (.int .i64 8))),oI 4 (.mov (.t 6))] none [4,3]) (.cond (.t 4) .skip (.region [oI 7 (.bin .eql (.t 3) (.c (.int .i64 10))),oI 4 (.mov (.t 7))] none [4]))))) (.cond (.t 4) (.seq (.region [oI 2 (.mov (.c (.int .u8 2)))] none [2]) .ret) .skip)))) (.seq (.region [oI 2 (.mov (.c (.int .u8 0)))] none [2]) .ret)))
def Zl0:ZI:=⟨[(.tmp 2)],Zhz⟩
theorem ZjF:FC 79=some Zl0:=by kernel_rfl
theorem ZlE:Zl0.body=Zhz:=rfl
theorem ZkK:Zl0.res=[(.tmp 2)]:=rfl
def Zpb:Zf:=(.seq (.region [oI 4 (.mov (.c (.int .i64 0)))] none [1,0]) (.seq (.seq (.region [oI 5 (.mov (.t 0))] none [5,1]) (.cond (.t 5) (.seq (.region [oI 6 (.mov (.t 1)),oI 4 (.mov (.t 6))] none [4]) .ret) .skip)) (.seq (.region [oI 4 (.mov (.c (.int .i64 0)))] none [4]) .ret)))
def Zp4:ZI:=⟨[(.tmp 4)],Zpb⟩
theorem ZxN:FC 81=some Zp4:=by kernel_rfl
theorem ZCF:Zp4.body=Zpb:=rfl
theorem ZLy:Zp4.res=[(.tmp 4)]:=rfl
def Zj4:Zf:=(.seq (.region [oI 4 (.mov (.t 0)),oI 5 (.un .not (.t 4))] none [5,1]) (.cond (.t 5) (.region [oI 6 (.mov (.t 1)),oI 7 (.mki 61 (.t 6)),oN (.panic (.t 7))] none []) .skip))
def ZoI:ZI:=⟨[],Zj4⟩
theorem ZsV:FC 113=some ZoI:=by kernel_rfl
theorem Zsk:ZoI.body=Zj4:=rfl
theorem ZEc:ZoI.res=[]:=rfl
end Go.Proofs.YtmlkhhidifjjfaaDoor
namespace Go.Proofs.YtmlkhhidifjjfaaDoor
set_option maxHeartbeats 8000000
set_option maxRecDepth 10000
def Zy (c:Int):AVal:=.iface 61 (.int .i64 c)
theorem Za9 (c:Int) (σ:Za) (site own:Nat):Zj E BY σ site 113 own true [.bool true,.int .i64 c]=some (.tup [],σ,{}):=by
 have h:E 113 [.bool true,.int .i64 c] []=some (.tup [],[]):=by
  rw [Zh (by rfl) ZsV]
  simp -implicitDefEqProofs only [EQA,Zs,Nat.reduceLT,Nat.reduceEqDiff,unA,reduceCtorEq,↓reduceIte,Zd,Zsk,Zj4,ZEc,oI,oN]
 exact Zcp (h) (by kernel_rfl) (by simp -implicitDefEqProofs only [ZcZ,Zby,eq_self,eq_self]) (by simp -implicitDefEqProofs only [ZG,Zby,eq_self,eq_self]) rfl (fun _=>rfl) _ _ _ _
theorem ZbA (c:Int) (σ:Za) (site own:Nat):Zj E BY σ site 113 own true [.bool false,.int .i64 c]=some (.pan (Zy c),σ,{}):=by
 have h:E 113 [.bool false,.int .i64 c] []=some (.pan (Zy c),[]):=by
  rw [Zh (by rfl) ZsV]
  simp -implicitDefEqProofs only [EQA,Zs,Nat.reduceLT,Nat.reduceEqDiff,unA,reduceCtorEq,↓reduceIte,Zsk,Zj4,oI,oN,Zy]
 exact Zcp (h) (by kernel_rfl) (by simp -implicitDefEqProofs only [ZcZ,Zby,eq_self]) (by simp -implicitDefEqProofs only [ZG,Zby,eq_self]) rfl (fun _=>rfl) _ _ _ _
theorem ZaC {xs ys:List AVal} (h:Zd xs=true) (h':Zd ys=true):Zd (xs++ys)=true:=by
 induction xs with
 | nil=>exact h'
 | cons x xs ih =>
  simp only [Zd,Bool.and_eq_true,List.cons_append] at h ⊢
  exact ⟨h.1,ih h.2⟩
section
variable (P:List AVal) (hP:P.length=26) (hN:Zd P=true)
include hP
theorem Z2 (L:AVal):(P++[L]).length=27:=by simp [hP]
theorem Zao (L:AVal):(P++[L])[26]?=some L:=by
 rw [List.getElem?_append_right (by omega)];simp [hP]
theorem Zep (L:AVal):(P++[L]).take 26=P:=by
 rw [List.take_append_of_le_length (by omega),List.take_of_length_le (by omega)]
theorem ZfG (L:AVal):(P++[L]).drop 27=[]:=List.drop_eq_nil_of_le (by simp [hP])
include hN
theorem Zw (f:Bool) (xs:List AVal):Zd (P++[.lst f xs])=true:=ZaC hN rfl
theorem ZMX (l:Zb) (n:Nat) (hn:n≤l.length) (hl:l.length≤140737488355328):E 115 [.ref 0 0,.int .i64 (n:Nat)] [.var (P++[.lst false (l.map Zc)])]=some (.int .i64 (ZgF (l.take n)),[.var (P++[.lst false ((l.drop n).map Zc)])]):=by
 have h1:(l.length:Int)≥((n:Nat):Int):=by omega
 have s1:=fun σ kk=>ZjD σ 1 l Zc kk (n:Int) (by omega) (by omega)
 have s2:=fun σ kk=>Zff σ l kk (n:Int) (by omega) (by omega)
 have e2:((n:Int)).toNat=n:=rfl
 rw [e2] at s1 s2
 have ht:(l.take n).length≤9223372036854775807:=by simp;omega
 have hG:=fun σ site own f=>ZlN σ site own (l.take n) ht f
 have a1:=Z2 P hP
 have a2:=Zao P hP
 have a3:=Zep P hP
 have a4:=ZfG P hP
 have m1:=Za9
 rw [Zh (by rfl) Zjr]
 simp -implicitDefEqProofs only [EQA,ZG,Nat.reduceAdd,Nat.reduceLT,Nat.reduceLeDiff,Nat.reduceEqDiff,reduceCtorEq,decide_true,↓reduceIte,ZjY,Zht,Ztc,oI,oN,h1,s1,s2,hG,a1,a2,a3,a4,m1,ZgF]
 exact ZX rfl (Zw P hP hN _ _)
theorem ZF5 (l:Zb) (n:Nat) (hn:l.length < n) (hn':n≤9223372036854775807):E 115 [.ref 0 0,.int .i64 (n:Nat)] [.var (P++[.lst false (l.map Zc)])]=some (.pan (Zy 129),[.var (P++[.lst false (l.map Zc)])]):=by
 have h1:¬(l.length:Int)≥((n:Nat):Int):=by omega
 have a2:=Zao P hP
 have m1:=ZbA
 rw [Zh (by rfl) Zjr]
 simp -implicitDefEqProofs only [EQA,Nat.reduceLT,Nat.reduceEqDiff,reduceCtorEq,decide_false,↓reduceIte,ZjY,Zht,oI,oN,h1,a2,m1]
 exact ZX rfl (Zw P hP hN _ _)
theorem ZAb (l:Zb) (hl:l.length≤140737488355328) (h:(Zab l).2.2=0):E 124 [.ref 0 0] [.var (P++[.lst false (l.map Zc)])]=some (.str (Zab l).1,[.var (P++[.lst false ((l.drop (Zab l).2.1).map Zc)])]):=by
 have hG:=fun σ site own f=>ZhE σ site own f l hl
 have hu:=(ZhU l).1
 unfold gtT at hG
 have s2:=fun σ kk=>Zff σ l kk ((Zab l).2.1:Int) (by omega) (by omega)
 have e2:(((Zab l).2.1:Nat):Int).toNat=(Zab l).2.1:=rfl
 rw [e2] at s2
 rw [h] at hG
 have a1:=Z2 P hP
 have a2:=Zao P hP
 have a3:=Zep P hP
 have a4:=ZfG P hP
 have m1:=Za9
 rw [Zh (by rfl) Zln]
 simp -implicitDefEqProofs only [EQA,ZG,Zs,Nat.reduceAdd,Nat.reduceLT,Nat.reduceLeDiff,Nat.reduceEqDiff,reduceCtorEq,↓reduceIte,Zlp,Zhw,ZsP,oI,oN,s2,hG,a1,a2,a3,a4,m1]
 exact ZX rfl (Zw P hP hN _ _)
theorem ZFu (l:Zb) (hl:l.length≤140737488355328) (h:(Zab l).2.2≠0):E 124 [.ref 0 0] [.var (P++[.lst false (l.map Zc)])]=some (.pan (Zy 129),[.var (P++[.lst false (l.map Zc)])]):=by
 have hG:=fun σ site own f=>ZhE σ site own f l hl
 unfold gtT at hG
 have h0:((Zab l).2.2 == 0)=false:=by simpa using h
 have h1:=h
 have a2:=Zao P hP
 have m1:=ZbA
 rw [Zh (by rfl) Zln]
 simp -implicitDefEqProofs only [EQA,Nat.reduceLT,Nat.reduceEqDiff,reduceCtorEq,↓reduceIte,Zlp,Zhw,oI,oN,hG,a2,h0,m1]
 exact ZX rfl (Zw P hP hN _ _)
theorem ZzS (l:Zb) (hl:l.length≤140737488355328) (h:(ZaI l).2.2=0):E 148 [.ref 0 0] [.var (P++[.lst false (l.map Zc)])]=some (.lst false ((ZaI l).1.map Zc),[.var (P++[.lst false ((l.drop (ZaI l).2.1).map Zc)])]):=by
 have hG:=fun σ site own f=>ZlD σ site own f l hl
 have hu:=(Zlr l).1
 unfold gdT at hG
 have s2:=fun σ kk=>Zff σ l kk ((ZaI l).2.1:Int) (by omega) (by omega)
 have e2:(((ZaI l).2.1:Nat):Int).toNat=(ZaI l).2.1:=rfl
 rw [e2] at s2
 rw [h] at hG
 have a1:=Z2 P hP
 have a2:=Zao P hP
 have a3:=Zep P hP
 have a4:=ZfG P hP
 have m1:=Za9
 rw [Zh (by rfl) Zro]
 simp -implicitDefEqProofs only [EQA,ZG,Zs,Nat.reduceAdd,Nat.reduceLT,Nat.reduceLeDiff,Nat.reduceEqDiff,reduceCtorEq,↓reduceIte,Zrx,ZkP,ZFV,oI,oN,s2,hG,a1,a2,a3,a4,m1]
 exact ZX rfl (Zw P hP hN _ _)
theorem ZL1 (l:Zb) (hl:l.length≤140737488355328) (h:(ZaI l).2.2≠0):E 148 [.ref 0 0] [.var (P++[.lst false (l.map Zc)])]=some (.pan (Zy 129),[.var (P++[.lst false (l.map Zc)])]):=by
 have hG:=fun σ site own f=>ZlD σ site own f l hl
 unfold gdT at hG
 have h0:((ZaI l).2.2 == 0)=false:=by simpa using h
 have h1:=h
 have a2:=Zao P hP
 have m1:=ZbA
 rw [Zh (by rfl) Zro]
 simp -implicitDefEqProofs only [EQA,Nat.reduceLT,Nat.reduceEqDiff,reduceCtorEq,↓reduceIte,Zrx,ZkP,oI,oN,hG,a2,h0,m1]
 exact ZX rfl (Zw P hP hN _ _)
theorem Zyy (w:Int) (l:Zb) (hl:l.length≤140737488355328) (h:(Z0 w l).2.2=0) (hu:(Z0 w l).2.1≤l.length):E 117 [.ref 0 0,.int .i64 w] [.var (P++[.lst false (l.map Zc)])]=some (.lst false ((Z0 w l).1.map Zo),[.var (P++[.lst false ((l.drop (Z0 w l).2.1).map Zc)])]):=by
 have hG:=fun σ site own f=>ZkL σ site own f w l hl
 have s2:=fun σ kk=>Zff σ l kk ((Z0 w l).2.1:Int) (by omega) (by omega)
 have e2:(((Z0 w l).2.1:Nat):Int).toNat=(Z0 w l).2.1:=rfl
 rw [e2] at s2
 rw [h] at hG
 have a1:=Z2 P hP
 have a2:=Zao P hP
 have a3:=Zep P hP
 have a4:=ZfG P hP
 have m1:=Za9
 generalize Z0 w l=R at *
 rw [Zh (by rfl) ZtV]
 simp -implicitDefEqProofs only [EQA,ZG,Zs,Nat.reduceAdd,Nat.reduceLT,Nat.reduceLeDiff,Nat.reduceEqDiff,reduceCtorEq,↓reduceIte,ZsB,ZlT,ZGY,oI,oN,s2,hG,a1,a2,a3,a4,m1]
 exact ZX rfl (Zw P hP hN _ _)
theorem Zvt (w:Int) (l:Zb) (hl:l.length≤140737488355328) (h:(Z0 w l).2.2≠0):E 117 [.ref 0 0,.int .i64 w] [.var (P++[.lst false (l.map Zc)])]=some (.pan (Zy (Z0 w l).2.2),[.var (P++[.lst false (l.map Zc)])]):=by
 have hG:=fun σ site own f=>ZkL σ site own f w l hl
 have h0:((Z0 w l).2.2 == 0)=false:=by simpa using h
 have h1:=h
 have a2:=Zao P hP
 have m1:=ZbA
 generalize Z0 w l=R at *
 rw [Zh (by rfl) ZtV]
 simp -implicitDefEqProofs only [EQA,Nat.reduceLT,Nat.reduceEqDiff,reduceCtorEq,↓reduceIte,ZsB,ZlT,oI,oN,hG,a2,h0,m1]
 exact ZX rfl (Zw P hP hN _ _)
end
end Go.Proofs.YtmlkhhidifjjfaaDoor
namespace Go.Proofs.YtmlkhhidifjjfaaDoor
def Zm7:Zf:=(.seq (.region [oI 4 (.mov (.c (.bool false)))] none [1,0]) (.seq (.region [oI 5 (.mov (.t 0)),oI 6 (.mov (.t 1)),oI 7 (.call 133 0 true [(.t 5),(.t 6)]),oI 8 (.bin .geq (.t 7) (.c (.int .i64 0))),oI 4 (.mov (.t 8))] none [4]) .ret))
def Zmt:ZI:=⟨[(.tmp 4)],Zm7⟩
theorem Zx2:FC 86=some Zmt:=by kernel_rfl
theorem ZAy:Zmt.body=Zm7:=rfl
theorem ZGg:Zmt.res=[(.tmp 4)]:=rfl
def ZlW:Zf:=(.seq (.region [oI 6 (.mov (.c (.bool true)))] none [6]) .ret)
def Zoi:Zf:=ZlW
def ZH3:=xw Zoi ZlW rfl
def Zkg:Zf:=(.seq (.region [oI 18 (.bin .lss (.t 17) (.t 16))] none [18,17,16,15,2,1]) (.seq (.cond (.t 18) .skip (.exit 0)) (.seq (.block 1 (.seq (.region [oI 19 (.mov (.t 17)),oI 20 (.iaddr 5 (.t 15) (.t 17)),oI 21 (.ld (some 5) (.t 20)),oI 8 (.alloc [(.int .i64 0),(.int .i64 0),(.str []),(.str []),(.lst true [])]),oI 7 (.mov (.t 19)),oN (.st 5 (.t 8) (.t 21))] none [17,16,15,8,7,2,1]) (.seq (.region [oI 22 (.mov (.t 1)),oI 23 (.mov (.t 7)),oI 24 (.iaddr 5 (.t 22) (.t 23)),oI 25 (.ld (some 5) (.t 24)),oI 9 (.alloc [(.int .i64 0),(.int .i64 0),(.str []),(.str []),(.lst true [])]),oN (.st 5 (.t 9) (.t 25))] none [17,16,15,9,8,2,1]) (.seq (.region [oI 26 (.mov (.t 2)),oI 27 (.ld (some 5) (.t 8)),oI 28 (.ld (some 5) (.t 9)),oI 29 (.callv (.t 26) [(.t 27),(.t 28)]),oI 30 (.un .not (.t 29))] none [30,17,16,15,2,1]) (.cond (.t 30) (.seq (.region [oI 6 (.mov (.c (.bool false)))] none [6]) .ret) .skip))))) (.region [oI 31 (.bin .add (.t 17) (.c (.int .i64 1))),oI 17 (.mov (.t 31))] none [17,16,15,2,1]))))
def ZnY:Zf:=Zkg
def Zrz:=xw ZnY Zkg rfl
def Zlt:Zf:=(.seq (.region [oI 6 (.mov (.c (.bool false)))] none [2,1,0]) (.seq (.seq (.region [oI 10 (.mov (.t 0)),oI 11 (.len (.t 10)),oI 12 (.mov (.t 1)),oI 13 (.len (.t 12)),oI 14 (.bin .neq (.t 11) (.t 13))] none [14,2,1,0]) (.cond (.t 14) (.seq (.region [oI 6 (.mov (.c (.bool false)))] none [6]) .ret) .skip)) (.seq (.seq (.region [oI 15 (.mov (.t 0)),oI 16 (.len (.t 15)),oI 17 (.mov (.c (.int .i64 0)))] none [17,16,15,2,1]) (.block 0 (.loop [17,16,15,2,1] ZnY))) Zoi)))
def ZjE:ZI:=⟨[(.tmp 6)],Zlt⟩
theorem ZCL:FC 91=some ZjE:=by kernel_rfl
theorem Zqm:ZjE.body=Zlt:=rfl
theorem ZnW:ZjE.res=[(.tmp 6)]:=rfl
noncomputable def ZkB (m:Nat) (tm:Tms) (σ:Za):Option (AVal×Za):=(Zap m ZjE (ZbQ FC PR BY m Zoi (Option.map (ZaX 0) (evL FC PR BY m [17,16,15,2,1] ZnY tm σ))))
def ZoD:Zf:=(.seq (.region [oI 4 (.mov (.c (.bool true)))] none [4]) .ret)
def ZoM:Zf:=ZoD
def ZJX:=xw ZoM ZoD rfl
def ZkH:Zf:=(.seq (.region [oI 14 (.bin .lss (.t 13) (.t 12))] none [14,13,12,1,0]) (.seq (.cond (.t 14) .skip (.exit 0)) (.seq (.block 1 (.seq (.region [oI 15 (.mov (.t 13)),oI 5 (.mov (.t 15))] none [13,12,5,1,0]) (.seq (.region [oI 16 (.mov (.t 0)),oI 17 (.mov (.t 5)),oI 18 (.iaddr 1 (.t 16) (.t 17)),oI 19 (.ld none (.t 18)),oI 20 (.mov (.t 1)),oI 21 (.mov (.t 5)),oI 22 (.iaddr 1 (.t 20) (.t 21)),oI 23 (.ld none (.t 22)),oI 24 (.bin .neq (.t 19) (.t 23))] (some [(2,6),(3,6),(2,7),(3,7)]) [24,13,12,1,0]) (.cond (.t 24) (.seq (.region [oI 4 (.mov (.c (.bool false)))] none [4]) .ret) .skip)))) (.region [oI 25 (.bin .add (.t 13) (.c (.int .i64 1))),oI 13 (.mov (.t 25))] none [13,12,1,0]))))
def Znt:Zf:=ZkH
def Zu7:=xw Znt ZkH rfl
def Zk9:Zf:=(.seq (.region [oI 4 (.mov (.c (.bool false)))] none [1,0]) (.seq (.seq (.region [oI 6 (.mov (.t 0)),oI 7 (.len (.t 6)),oI 8 (.mov (.t 1)),oI 9 (.len (.t 8)),oI 10 (.bin .neq (.t 7) (.t 9))] none [10,1,0]) (.cond (.t 10) (.seq (.region [oI 4 (.mov (.c (.bool false)))] none [4]) .ret) .skip)) (.seq (.seq (.region [oI 11 (.mov (.t 0)),oI 12 (.len (.t 11)),oI 13 (.mov (.c (.int .i64 0)))] none [13,12,1,0]) (.block 0 (.loop [13,12,1,0] Znt))) ZoM)))
def ZjV:ZI:=⟨[(.tmp 4)],Zk9⟩
theorem ZMz:FC 83=some ZjV:=by kernel_rfl
theorem Zs4:ZjV.body=Zk9:=rfl
theorem Zm2:ZjV.res=[(.tmp 4)]:=rfl
noncomputable def ZkG (m:Nat) (tm:Tms) (σ:Za):Option (AVal×Za):=(Zap m ZjV (ZbQ FC PR BY m ZoM (Option.map (ZaX 0) (evL FC PR BY m [13,12,1,0] Znt tm σ))))
def Zn7:Zf:=(.seq (.region [oI 4 (.mov (.c (.bool true)))] none [4]) .ret)
def Zp5:Zf:=Zn7
def ZLO:=xw Zp5 Zn7 rfl
def ZjZ:Zf:=(.seq (.region [oI 14 (.bin .lss (.t 13) (.t 12))] none [14,13,12,1,0]) (.seq (.cond (.t 14) .skip (.exit 0)) (.seq (.block 1 (.seq (.region [oI 15 (.mov (.t 13)),oI 5 (.mov (.t 15))] none [13,12,5,1,0]) (.seq (.region [oI 16 (.mov (.t 0)),oI 17 (.mov (.t 5)),oI 18 (.iaddr 6 (.t 16) (.t 17)),oI 19 (.ld (some 6) (.t 18)),oI 20 (.mov (.t 1)),oI 21 (.mov (.t 5)),oI 22 (.iaddr 6 (.t 20) (.t 21)),oI 23 (.ld (some 6) (.t 22)),oI 24 (.eqv true [2,0,1,1,0,0] (.t 19) (.t 23))] (some [(2,6),(3,6),(2,7),(3,7)]) [24,13,12,1,0]) (.cond (.t 24) (.seq (.region [oI 4 (.mov (.c (.bool false)))] none [4]) .ret) .skip)))) (.region [oI 25 (.bin .add (.t 13) (.c (.int .i64 1))),oI 13 (.mov (.t 25))] none [13,12,1,0]))))
def Zmp:Zf:=ZjZ
def Zub:=xw Zmp ZjZ rfl
def Zla:Zf:=(.seq (.region [oI 4 (.mov (.c (.bool false)))] none [1,0]) (.seq (.seq (.region [oI 6 (.mov (.t 0)),oI 7 (.len (.t 6)),oI 8 (.mov (.t 1)),oI 9 (.len (.t 8)),oI 10 (.bin .neq (.t 7) (.t 9))] none [10,1,0]) (.cond (.t 10) (.seq (.region [oI 4 (.mov (.c (.bool false)))] none [4]) .ret) .skip)) (.seq (.seq (.region [oI 11 (.mov (.t 0)),oI 12 (.len (.t 11)),oI 13 (.mov (.c (.int .i64 0)))] none [13,12,1,0]) (.block 0 (.loop [13,12,1,0] Zmp))) Zp5)))
def Zle:ZI:=⟨[(.tmp 4)],Zla⟩
theorem ZxV:FC 84=some Zle:=by kernel_rfl
theorem Zqv:Zle.body=Zla:=rfl
theorem Zne:Zle.res=[(.tmp 4)]:=rfl
noncomputable def Zkz (m:Nat) (tm:Tms) (σ:Za):Option (AVal×Za):=(Zap m Zle (ZbQ FC PR BY m Zp5 (Option.map (ZaX 0) (evL FC PR BY m [13,12,1,0] Zmp tm σ))))
def ZnT:Zf:=(.seq (.region [oI 4 (.mov (.c (.bool true)))] none [4]) .ret)
def Znp:Zf:=ZnT
def ZNk:=xw Znp ZnT rfl
def ZlK:Zf:=(.seq (.region [oI 14 (.bin .lss (.t 13) (.t 12))] none [14,13,12,1,0]) (.seq (.cond (.t 14) .skip (.exit 0)) (.seq (.block 1 (.seq (.region [oI 15 (.mov (.t 13)),oI 5 (.mov (.t 15))] none [13,12,5,1,0]) (.seq (.region [oI 16 (.mov (.t 0)),oI 17 (.mov (.t 5)),oI 18 (.iaddr 1 (.t 16) (.t 17)),oI 19 (.ld none (.t 18)),oI 20 (.mov (.t 1)),oI 21 (.mov (.t 5)),oI 22 (.iaddr 1 (.t 20) (.t 21)),oI 23 (.ld none (.t 22)),oI 24 (.bin .neq (.t 19) (.t 23))] (some [(2,6),(3,6),(2,7),(3,7)]) [24,13,12,1,0]) (.cond (.t 24) (.seq (.region [oI 4 (.mov (.c (.bool false)))] none [4]) .ret) .skip)))) (.region [oI 25 (.bin .add (.t 13) (.c (.int .i64 1))),oI 13 (.mov (.t 25))] none [13,12,1,0]))))
def Znv:Zf:=ZlK
def Zs9:=xw Znv ZlK rfl
def Zlc:Zf:=(.seq (.region [oI 4 (.mov (.c (.bool false)))] none [1,0]) (.seq (.seq (.region [oI 6 (.mov (.t 0)),oI 7 (.len (.t 6)),oI 8 (.mov (.t 1)),oI 9 (.len (.t 8)),oI 10 (.bin .neq (.t 7) (.t 9))] none [10,1,0]) (.cond (.t 10) (.seq (.region [oI 4 (.mov (.c (.bool false)))] none [4]) .ret) .skip)) (.seq (.seq (.region [oI 11 (.mov (.t 0)),oI 12 (.len (.t 11)),oI 13 (.mov (.c (.int .i64 0)))] none [13,12,1,0]) (.block 0 (.loop [13,12,1,0] Znv))) Znp)))
def Zjl:ZI:=⟨[(.tmp 4)],Zlc⟩
theorem ZFv:FC 85=some Zjl:=by kernel_rfl
theorem Zul:Zjl.body=Zlc:=rfl
theorem ZoQ:Zjl.res=[(.tmp 4)]:=rfl
noncomputable def Zj9 (m:Nat) (tm:Tms) (σ:Za):Option (AVal×Za):=(Zap m Zjl (ZbQ FC PR BY m Znp (Option.map (ZaX 0) (evL FC PR BY m [13,12,1,0] Znv tm σ))))
def Zmc:Zf:=(.seq (.region [oI 4 (.mov (.c (.int .i64 (-1))))] none [4]) .ret)
def Zmv:Zf:=Zmc
def ZzO:=xw Zmv Zmc rfl
def Zh6:Zf:=(.seq (.region [oI 9 (.bin .lss (.t 8) (.t 7))] none [9,8,7,1,0]) (.seq (.cond (.t 9) .skip (.exit 0)) (.seq (.block 1 (.seq (.region [oI 10 (.mov (.t 8)),oI 5 (.mov (.t 10))] none [8,7,5,1,0]) (.seq (.region [oI 11 (.mov (.t 1)),oI 12 (.mov (.t 0)),oI 13 (.mov (.t 5)),oI 14 (.iaddr 2 (.t 12) (.t 13)),oI 15 (.ld (some 2) (.t 14)),oI 16 (.callv (.t 11) [(.t 15)])] none [16,8,7,5,1,0]) (.cond (.t 16) (.seq (.region [oI 17 (.mov (.t 5)),oI 4 (.mov (.t 17))] none [4]) .ret) .skip)))) (.region [oI 18 (.bin .add (.t 8) (.c (.int .i64 1))),oI 8 (.mov (.t 18))] none [8,7,1,0]))))
def ZoG:Zf:=Zh6
def ZpM:=xw ZoG Zh6 rfl
def Zmn:Zf:=(.seq (.region [oI 4 (.mov (.c (.int .i64 0)))] none [1,0]) (.seq (.seq (.region [oI 6 (.mov (.t 0)),oI 7 (.len (.t 6)),oI 8 (.mov (.c (.int .i64 0)))] none [8,7,1,0]) (.block 0 (.loop [8,7,1,0] ZoG))) Zmv))
def ZjC:ZI:=⟨[(.tmp 4)],Zmn⟩
theorem ZMe:FC 133=some ZjC:=by kernel_rfl
theorem ZIk:ZjC.body=Zmn:=rfl
theorem Zum:ZjC.res=[(.tmp 4)]:=rfl
noncomputable def Zkp (m:Nat) (tm:Tms) (σ:Za):Option (AVal×Za):=(Zap m ZjC (ZbQ FC PR BY m Zmv (Option.map (ZaX 0) (evL FC PR BY m [8,7,1,0] ZoG tm σ))))
end Go.Proofs.YtmlkhhidifjjfaaDoor
namespace Go.Proofs.YtmlkhhidifjjfaaDoor
set_option maxHeartbeats 8000000
set_option maxRecDepth 10000
theorem Zoq {O:ZR} {byref:Nat→Bool} {σ:Za} {t site f own:Nat} {view:Bool} {args vs vs':List AVal} {cs cs':List AVal} {r:AVal} (hs:σ[t]?=some (.var cs)) (hc:Zd cs=true) (hc':Zd cs'=true) (hb:byref f=false) (hff:Za1 σ site own=true)
  (hsh:showAs σ args=some (vs,[])) (href:Zr vs=[t]) (hren:∀ ρ:Rho,ρ t 0=some (0,0)→Ze ρ vs=vs') (hn:ZK r=true) (hv:viewR [.var cs'] r=some (r,[]))
  (h:O f vs' [.var cs]=some (r,[.var cs'])):Zj O byref σ site f own view args=some (r,σ.set t (.var cs'),{ any:=true,upd:=[(t,cs')] }):=by
 have htl:t < σ.length:=by
  rcases Nat.lt_or_ge t σ.length with h | h
  ·exact h
  ·rw [List.getElem?_eq_none h] at hs;cases hs
 have hup:Za7 (σ.set t (.var cs')) [t]=[(t,cs')]:=by
  simp only [Za7,List.getElem?_set,if_pos htl,if_true]
 have hd:σ.getD t .free=.var cs:=by simp [List.getD_eq_getElem?_getD,hs]
 have hf0:Zn σ []=σ:=rfl
 unfold Zj ZbU
 rw [hb]
 simp only [Bool.false_eq_true,if_false,hsh,hf0,href,Zfa hs hc]
 unfold ZbC
 have hall:([t].all fun t=>okB (σ.getD t .free))=true:=by simp [List.all_cons,List.all_nil,hs,okB]
 rw [if_pos hall]
 have hρ:Zl σ 0 [t] t 0=some (0,0):=by simp [Zl,Z1,hs,Zp,ZU]
 have hheap:Zx σ 0 [t] (Zl σ 0 [t]) [t] 0=[.var cs]:=by
  simp only [Zx,hd,ZJ,(ZaT _ cs hc).1]
 rw [hren _ hρ,hheap,h]
 have hask:Zae view [t].length (some (r,[.var cs']))=some (r,[.var cs']):=by
  unfold Zae
  split
  ·have hnp:∀ x,r≠.pan x:=by rintro x rfl;simp [viewR,ZN,ZL] at hv
   rw [show ZbI [t].length (some (r,[.var cs']))=(match viewR [.var cs'] r with
    | some (r',ts)=>match gcA [t].length [r'] (Zn [.var cs'] ts) with
     | ([r''],σ')=>some (r'',σ')
     | _=>none
    | none=>none) from by cases r <;> first | rfl | exact absurd rfl (hnp _)]
   rw [hv]
   simp only [List.length_cons,List.length_nil,Nat.zero_add,show Zn [ZM.var cs'] []=[.var cs'] from rfl,Zkx hn hc']
  ·rfl
 rw [hask]
 have hk:ZaZ σ [t] [.var cs'] 0=true:=by
  simp [ZaZ,okB,hs,Zce,Zp]
 simp only [ZaG,List.isEmpty_cons,Bool.false_eq_true,if_false,List.length_cons,List.length_nil,Nat.zero_add,Nat.le_add_right,Nat.le_refl,decide_true,hk,hff,Bool.and_self,if_true,Za5,ZaK,List.getD_cons_zero,ZJ,(Za4 _ r hn).1,(ZaT _ cs' hc').1,hup]
def Zfy (k:Int):List (Int×Int) :=
 if k=2 then [(0,0),(128,138),(140,140),(144,144),(149,149),(151,151),(153,157),(159,159)] else
 if k=4 then [(0,0),(16,16),(128,128),(131,131),(135,135),(144,145),(151,151),(153,153)] else
 if k=5 then [(0,0),(16,16),(128,128),(131,131),(135,135),(144,145),(151,151),(153,153)] else
 if k=6 then [(0,0),(146,146)] else
 if k=7 then [(0,0),(146,146)] else
 if k=9 then [(0,2),(128,128),(131,131),(135,135),(143,143),(145,145),(151,151),(158,158),(161,162)] else
 if k=11 then [(0,0),(17,17),(128,128),(131,131),(135,135),(143,143),(145,145)] else
 if k=14 then [(0,0),(4,4),(128,131),(135,135),(137,137),(139,139),(141,144),(147,162)] else
 if k=15 then [(0,0),(24,25)] else
 []
def ZdC (s:Int×Int):AVal:=.agg [.int .i64 s.1,.int .i64 s.2]
def Zgb (c:Int) (s:Int×Int):Bool:=decide (c≥s.1) && decide (c≤s.2)
def Za0 (k c:Int):Bool:=(Zfy k).any (Zgb c)
theorem ZBY (k:Int):(Zfy k).length≤9:=by
 unfold Zfy
 repeat' split
 all_goals simp
theorem ZGf (k:Int):∃ f,E 87 [.int .i64 k] []=some (.lst f ((Zfy k).map ZdC),[]):=by
 refine ⟨true,?_⟩
 unfold Zfy
 by_cases h2:k=2
 ·subst h2
  rw [Zh (by rfl) Zee]
  simp -implicitDefEqProofs only [EQA,Zs,Nat.reduceAdd,Nat.reduceLT,Nat.reduceLeDiff,Nat.reduceEqDiff,Option.some.injEq,reduceCtorEq,decide_true,↓reduceIte,Zex,ZdD,Zec,oI,ZV,AVal.cells,Zbi,viewAs,ZN,ZL,ZaM,Zn,List.foldl_cons,List.foldl_nil]
  rfl
 by_cases h4:k=4
 ·subst h4
  rw [Zh (by rfl) Zee]
  simp -implicitDefEqProofs only [EQA,Zs,Zds,Nat.reduceAdd,Nat.reduceLT,Nat.reduceLeDiff,Nat.reduceEqDiff,Option.some.injEq,reduceCtorEq,decide_true,ite_self,↓reduceIte,Zex,ZdD,Zec,oI,Int.reduceBEq,ZV,AVal.cells,Zbi,viewAs,ZN,ZL,ZaM,Zn,List.foldl_cons,List.foldl_nil]
  rfl
 by_cases h5:k=5
 ·subst h5
  rw [Zh (by rfl) Zee]
  simp -implicitDefEqProofs only [EQA,Zs,Zds,Nat.reduceAdd,Nat.reduceLT,Nat.reduceLeDiff,Nat.reduceEqDiff,Option.some.injEq,reduceCtorEq,decide_true,ite_self,↓reduceIte,Zex,ZdD,Zec,oI,Int.reduceBEq,ZV,AVal.cells,Zbi,viewAs,ZN,ZL,ZaM,Zn,List.foldl_cons,List.foldl_nil]
  rfl
 by_cases h6:k=6
 ·subst h6
  rw [Zh (by rfl) Zee]
  simp -implicitDefEqProofs only [EQA,Zs,Zds,Nat.reduceAdd,Nat.reduceLT,Nat.reduceLeDiff,Nat.reduceEqDiff,Option.some.injEq,reduceCtorEq,decide_true,ite_self,↓reduceIte,Zex,ZdD,Zec,oI,Int.reduceBEq,ZV,AVal.cells,Zbi,viewAs,ZN,ZL,ZaM,Zn,List.foldl_cons,List.foldl_nil]
  rfl
 by_cases h7:k=7
 ·subst h7
  rw [Zh (by rfl) Zee]
  simp -implicitDefEqProofs only [EQA,Zs,Zds,Nat.reduceAdd,Nat.reduceLT,Nat.reduceLeDiff,Nat.reduceEqDiff,Option.some.injEq,reduceCtorEq,decide_true,ite_self,↓reduceIte,Zex,ZdD,Zec,oI,Int.reduceBEq,ZV,AVal.cells,Zbi,viewAs,ZN,ZL,ZaM,Zn,List.foldl_cons,List.foldl_nil]
  rfl
 by_cases h9:k=9
 ·subst h9
  rw [Zh (by rfl) Zee]
  simp -implicitDefEqProofs only [EQA,Zs,Zds,Nat.reduceAdd,Nat.reduceLT,Nat.reduceLeDiff,Nat.reduceEqDiff,Option.some.injEq,reduceCtorEq,decide_true,↓reduceIte,Zex,ZdD,Zec,oI,Int.reduceBEq,ZV,AVal.cells,Zbi,viewAs,ZN,ZL,ZaM,Zn,List.foldl_cons,List.foldl_nil]
  rfl
 by_cases h11:k=11
 ·subst h11
  rw [Zh (by rfl) Zee]
  simp -implicitDefEqProofs only [EQA,Zs,Zds,Nat.reduceAdd,Nat.reduceLT,Nat.reduceLeDiff,Nat.reduceEqDiff,Option.some.injEq,reduceCtorEq,decide_true,↓reduceIte,Zex,ZdD,Zec,oI,Int.reduceBEq,ZV,AVal.cells,Zbi,viewAs,ZN,ZL,ZaM,Zn,List.foldl_cons,List.foldl_nil]
  rfl
 by_cases h14:k=14
 ·subst h14
  rw [Zh (by rfl) Zee]
  simp -implicitDefEqProofs only [EQA,Zs,Zds,Nat.reduceAdd,Nat.reduceLT,Nat.reduceLeDiff,Nat.reduceEqDiff,Option.some.injEq,reduceCtorEq,decide_true,ite_self,↓reduceIte,Zex,ZdD,Zec,oI,Int.reduceBEq,ZV,AVal.cells,Zbi,viewAs,ZN,ZL,ZaM,Zn,List.foldl_cons,List.foldl_nil]
  rfl
 by_cases h15:k=15
 ·subst h15
  rw [Zh (by rfl) Zee]
  simp -implicitDefEqProofs only [EQA,Zs,Zds,Nat.reduceAdd,Nat.reduceLT,Nat.reduceLeDiff,Nat.reduceEqDiff,Option.some.injEq,reduceCtorEq,decide_true,ite_self,↓reduceIte,Zex,ZdD,Zec,oI,Int.reduceBEq,ZV,AVal.cells,Zbi,viewAs,ZN,ZL,ZaM,Zn,List.foldl_cons,List.foldl_nil]
  rfl
 have b2:(k == 2)=false:=by simpa using h2
 have b4:(k == 4)=false:=by simpa using h4
 have b5:(k == 5)=false:=by simpa using h5
 have b6:(k == 6)=false:=by simpa using h6
 have b7:(k == 7)=false:=by simpa using h7
 have b9:(k == 9)=false:=by simpa using h9
 have b11:(k == 11)=false:=by simpa using h11
 have b14:(k == 14)=false:=by simpa using h14
 have b15:(k == 15)=false:=by simpa using h15
 rw [if_neg h2,if_neg h4,if_neg h5,if_neg h6,if_neg h7,if_neg h9,if_neg h11,if_neg h14,if_neg h15]
 rw [Zh (by rfl) Zee]
 simp -implicitDefEqProofs only [EQA,Zs,Nat.reduceLT,Nat.reduceEqDiff,reduceCtorEq,↓reduceIte,Zex,ZdD,Zec,oI,b2,b4,b5,b6,b7,b9,b11,b14,b15]
theorem ZDZ (c:Int) (s:Int×Int):E 88 [.agg [.int .i64 s.1,.int .i64 s.2],.ref 0 0] [.var [.int .i64 c]]=some (.bool (Zgb c s),[.var [.int .i64 c]]):=by
 unfold Zgb
 rw [Zh (by rfl) ZI2]
 by_cases h:c≥s.1
 ·simp -implicitDefEqProofs only [EQA,ZG,Zac,Nat.reduceAdd,Nat.reduceLT,Nat.reduceEqDiff,Nat.reduceBEq,Zz,unG,ne_eq,Option.some.injEq,reduceCtorEq,decide_true,decide_false,↓reduceIte,Zd,Zq1,Zjt,Zre,oI,h]
  try (simp [Zal,gcA,ZE,ZA,Zr,ZZ,Zl,Zx,Z1,Zp,ZU,Ze,Zk,ZJ,ZQ,List.range_succ])
 ·simp -implicitDefEqProofs only [EQA,ZG,Zac,Nat.reduceAdd,Nat.reduceLT,Nat.reduceEqDiff,Nat.reduceBEq,Zz,Zau,ne_eq,Option.some.injEq,reduceCtorEq,decide_false,↓reduceIte,Zd,Zq1,Zjt,Zre,oI,h]
  try (simp [Zal,gcA,ZE,ZA,Zr,ZZ,Zl,Zx,Z1,Zp,ZU,Ze,Zk,ZJ,ZQ,List.range_succ])
theorem ZEW (k:Int) (σ:Za) (site own:Nat):Zj E BY σ site 87 own true [.int .i64 k]=some (.lst false ((Zfy k).map ZdC),σ,{}):=by
 obtain ⟨f,h⟩:=ZGf k
 exact Zbr h (by kernel_rfl) rfl rfl rfl (fun _=>rfl) _ _ _
theorem ZIh (σ:Za) (site t own:Nat) (view:Bool) (c:Int) (s:Int×Int) (hs:σ[t]?=some (.var [.int .i64 c])) (hff:Za1 σ site own=true):Zj E BY σ site 88 own view [.agg [.int .i64 s.1,.int .i64 s.2],.ref t 0]=some (.bool (Zgb c s),σ.set t (.var [.int .i64 c]),{ any:=true,upd:=[(t,[.int .i64 c])] }) :=
 Zoq hs rfl rfl (by kernel_rfl) hff rfl rfl (fun ρ h=>by simp only [Ze,Zk,h]) rfl rfl (ZDZ c s)
theorem Zq4 (L:List (Int×Int)) (c:Int) (hL:L.length≤9223372036854775807):∀ (r:List (Int×Int)) (i:Nat),L.drop i=r →
  ∃ z,Zkp 1 [(8,.int .i64 i),(7,.int .i64 L.length),(1,.fn 88 [.ref 0 0]),(0,.lst false (L.map ZdC))] [.var [.int .i64 c]]=some (.int .i64 z,[.var [.int .i64 c]])∧decide (z≥0)=r.any (Zgb c)
 | [],i,h=>by
  have h1:=Zdm h
  refine ⟨-1,?_,by simp⟩
  unfold Zkp
  rw [Zad]
  simp -implicitDefEqProofs only [EQA,Zac,Nat.reduceLT,Nat.reduceEqDiff,reduceCtorEq,decide_false,↓reduceIte,Zd,Zum,ZzO,Zmc,ZpM,Zh6,oI,h1]
 | x::r,i,h=>by
  obtain ⟨z,ih,hz⟩:=Zq4 L c hL r (i+1) (Zaf h).2.1
  have h1:(i:Int) < L.length:=by have:=(Zaf h).2.2;omega
  have e1:=iad (Zaf h).1 ZdC (k:=2) rfl
  have e3:=Zc7 h1 hL
  have hm:x ∈ L:=List.mem_of_getElem? (Zaf h).1
  have hc:=fun σ site t own view hs hff=>ZIh σ site t own view c x hs hff
  unfold Zkp at ih ⊢
  cases hb:Zgb c x
  ·refine ⟨z,?_,by rw [hz];simp [hb]⟩
   rw [Zad]
   simp -implicitDefEqProofs only [EQA,ZG,Zac,Nat.reduceAdd,Nat.reduceLT,Nat.reduceLeDiff,Nat.reduceEqDiff,Nat.reduceBEq,ne_eq,reduceCtorEq,decide_true,↓reduceIte,gcT,gcA,ZE,ZA,Zl,Zx,Z1,Zp,ZU,ZJ,ZQ,List.contains_cons,List.range_succ,ZpM,Zh6,oI,h1,e1,e3,hc,hb,Za1,ZdC]
   exact ih
  ·refine ⟨i,?_,by simp [hb]⟩
   rw [Zad]
   simp -implicitDefEqProofs only [EQA,ZG,Zac,Nat.reduceAdd,Nat.reduceLT,Nat.reduceLeDiff,Nat.reduceEqDiff,Nat.reduceBEq,reduceCtorEq,decide_true,↓reduceIte,Zd,Zum,ZpM,Zh6,oI,h1,e1,hc,hb,Za1,ZdC]
theorem ZJk (L:List (Int×Int)) (c:Int) (hL:L.length≤9223372036854775807) :
  ∃ z,E 133 [.lst false (L.map ZdC),.fn 88 [.ref 0 0]] [.var [.int .i64 c]]=some (.int .i64 z,[.var [.int .i64 c]])∧decide (z≥0)=L.any (Zgb c):=by
 obtain ⟨z,h,hz⟩:=Zq4 L c hL L 0 rfl
 refine ⟨z,?_,hz⟩
 rw [Zh (by rfl) ZMe]
 have z0:((0:Nat):Int)=0:=rfl
 rw [z0] at h
 unfold Zkp at h
 simp -implicitDefEqProofs only [EQA,Zac,Nat.reduceLT,Nat.reduceEqDiff,ne_eq,reduceCtorEq,↓reduceIte,gcT,gcA,ZE,ZA,Zl,Zx,Z1,Zp,ZU,ZJ,ZQ,List.contains_cons,List.range_succ,ZIk,Zmn,oI,h]
theorem ZDS (L:List (Int×Int)) (c:Int) (hL:L.length≤9223372036854775807) :
  E 86 [.lst false (L.map ZdC),.fn 88 [.ref 0 0]] [.var [.int .i64 c]]=some (.bool (L.any (Zgb c)),[.var [.int .i64 c]]):=by
 obtain ⟨z,h,hz⟩:=ZJk L c hL
 rw [Zh (by rfl) Zx2]
 have hc:=fun (σ:Za) site t view hs=>Zoq (O:=E) (byref:=BY) (σ:=σ) (t:=t) (site:=site) (own:=0) (view:=view) (f:=133) (args:=[.lst false (L.map ZdC),.fn 88 [.ref t 0]]) (vs:=[.lst false (L.map ZdC),.fn 88 [.ref t 0]]) hs rfl rfl (by kernel_rfl) rfl rfl rfl (fun ρ h=>by simp only [Ze,Zk,h]) rfl rfl h
 simp -implicitDefEqProofs only [EQA,Zac,Nat.reduceLT,Nat.reduceEqDiff,reduceCtorEq,↓reduceIte,Zd,ZAy,Zm7,ZGg,oI,hc,hz]
theorem ZHl (k c:Int):E 41 [.int .i64 k,.int .i64 c] []=some (.bool (Za0 k c),[]):=by
 have h:=ZDS (Zfy k) c (by have:=ZBY k;omega)
 have hC:=fun σ site own=>ZEW k σ site own
 unfold Za0
 generalize Zfy k=L at *
 rw [Zh (by rfl) ZxH]
 have hc:=fun (σ:Za) site t view hs=>Zoq (O:=E) (byref:=BY) (σ:=σ) (t:=t) (site:=site) (own:=0) (view:=view) (f:=86) (args:=[.lst false (L.map ZdC),.fn 88 [.ref t 0]]) (vs:=[.lst false (L.map ZdC),.fn 88 [.ref t 0]]) hs rfl rfl (by kernel_rfl) rfl rfl rfl (fun ρ h=>by simp only [Ze,Zk,h]) rfl rfl h
 simp -implicitDefEqProofs only [EQA,ZG,Nat.reduceLT,Nat.reduceEqDiff,Nat.reduceBEq,reduceCtorEq,↓reduceIte,ZEh,Zm6,ZMK,oI,hC,hc]
theorem Zhb (k c:Int) (σ:Za) (site own:Nat):Zj E BY σ site 41 own true [.int .i64 k,.int .i64 c]=some (.bool (Za0 k c),σ,{}) :=
 Zcp (ZHl k c) (by kernel_rfl) (by simp -implicitDefEqProofs only [ZcZ,Zby,eq_self,eq_self]) (by simp -implicitDefEqProofs only [ZG,Zby,eq_self,eq_self]) rfl (fun _=>rfl) _ _ _ _
end Go.Proofs.YtmlkhhidifjjfaaDoor
namespace Go.Proofs.YtmlkhhidifjjfaaDoor
set_option maxHeartbeats 8000000
set_option maxRecDepth 10000
abbrev RK (α:Type):=Except Int (α×Zb)
def Zaz (n:Nat) (l:Zb):RK Int:=if l.length < n then .error 129 else .ok (ZgF (l.take n),l.drop n)
def Zan (l:Zb):RK Zb:=if (Zab l).2.2=0 then .ok ((Zab l).1,l.drop (Zab l).2.1) else .error 129
def ZcC (l:Zb):RK Zb:=if (ZaI l).2.2=0 then .ok ((ZaI l).1,l.drop (ZaI l).2.1) else .error 129
def Zbs (w:Int) (l:Zb):RK (List Zu):=if (Z0 w l).2.2=0 then .ok ((Z0 w l).1,l.drop (Z0 w l).2.1) else .error (Z0 w l).2.2
def idK (l:Zb):RK Int:=match Zaz 2 l with
 | .ok (n,r)=>if n=0 then .error 130 else .ok (n,r)
 | .error c=>.error c
def Zas (k:Int) (l:Zb):RK Int:=match Zaz 1 l with
 | .ok (n,r)=>if Za0 k n=true then .ok (n,r) else .error 130
 | .error c=>.error c
theorem ZP {v:AVal} (hv:ZK v=true):∀ {P:List AVal} (k:Nat),Zd P=true→Zd (P.set k v)=true
 | [],_,_=>rfl
 | x::P,0,h=>by
  simp only [Zd,Bool.and_eq_true,List.set_cons_zero] at h ⊢
  exact ⟨hv,h.2⟩
 | x::P,k+1,h=>by
  simp only [Zd,Bool.and_eq_true,List.set_cons_succ] at h ⊢
  exact ⟨h.1,ZP hv k h.2⟩
theorem Zb9 (f:Bool) (xs:List AVal):ZK (.lst f xs)=true:=rfl
section
variable (P:List AVal) (hP:P.length=26) (hN:Zd P=true)
include hP
theorem Zat (k k':Nat) (hk:k < 26) (hk':k'=k+1) (L v:AVal):List.take k (P++[L])++[v]++List.drop k' (P++[L])=P.set k v++[L]:=by
 subst hk'
 rw [List.take_append_of_le_length (by omega),List.drop_append_of_le_length (by omega),←List.append_assoc]
 congr 1
 rw [List.set_eq_take_append_cons_drop,if_pos (by omega)]
 simp
theorem Z5 (k:Nat) (hk:k < 26) (L:AVal):(P++[L])[k]?=P[k]?:=List.getElem?_append_left (by omega)
theorem ZhS (k:Nat) (hk:k < 26) (L v:AVal):(P.set k v++[L])[k]?=some v:=by
 rw [List.getElem?_append_left (by simp;omega),List.getElem?_set_self (by omega)]
include hN
section
variable (l:Zb) (hl:l.length≤140737488355328) (σ:Za) (t site:Nat) (hs:σ[t]?=some (.var (P++[.lst false (l.map Zc)])))
include hl hs
theorem ZcO {n:Nat} {m:Int} {a:Int} {r:Zb} (hm:((n:Nat):Int)=m) (h:Zaz n l=.ok (a,r)):Zj E BY σ site 115 0 true [.ref t 0,.int .i64 m]=some (.int .i64 a,σ.set t (.var (P++[.lst false (r.map Zc)])),{ any:=true,upd:=[(t,P++[.lst false (r.map Zc)])] }):=by
 subst hm
 unfold Zaz at h
 split at h
 ·cases h
 ·injection h with h;injection h with h1 h2;subst h1 h2
  exact Zc4 (rest:=[.int .i64 (n:Nat)]) (by kernel_rfl) rfl (Zw P hP hN _ _) (Zw P hP hN _ _) rfl rfl (ZMX P hP hN l n (by omega) hl) hs site
theorem Zfk {n:Nat} {m:Int} {c:Int} (hm:((n:Nat):Int)=m) (hn:n≤9223372036854775807) (h:Zaz n l=.error c):Zj E BY σ site 115 0 true [.ref t 0,.int .i64 m]=some (.pan (Zy c),σ.set t (.var (P++[.lst false (l.map Zc)])),{ any:=true,upd:=[(t,P++[.lst false (l.map Zc)])] }):=by
 subst hm
 unfold Zaz at h
 split at h
 ·injection h with h;subst h
  exact Zct (rest:=[.int .i64 (n:Nat)]) (by kernel_rfl) rfl (Zw P hP hN _ _) (Zw P hP hN _ _) rfl (ZF5 P hP hN l n (by omega) hn) hs site
 ·cases h
theorem Zd1 {a r:Zb} (h:Zan l=.ok (a,r)):Zj E BY σ site 124 0 true [.ref t 0]=some (.str a,σ.set t (.var (P++[.lst false (r.map Zc)])),{ any:=true,upd:=[(t,P++[.lst false (r.map Zc)])] }):=by
 unfold Zan at h
 split at h
 ·rename_i h0
  injection h with h;injection h with h1 h2;subst h1 h2
  exact Zc4 (rest:=[]) (by kernel_rfl) rfl (Zw P hP hN _ _) (Zw P hP hN _ _) rfl rfl (ZAb P hP hN l hl h0) hs site
 ·cases h
theorem Zgy {c:Int} (h:Zan l=.error c):Zj E BY σ site 124 0 true [.ref t 0]=some (.pan (Zy c),σ.set t (.var (P++[.lst false (l.map Zc)])),{ any:=true,upd:=[(t,P++[.lst false (l.map Zc)])] }):=by
 unfold Zan at h
 split at h
 ·cases h
 ·rename_i h0
  injection h with h;subst h
  exact Zct (rest:=[]) (by kernel_rfl) rfl (Zw P hP hN _ _) (Zw P hP hN _ _) rfl (ZFu P hP hN l hl h0) hs site
theorem Zu3 {a r:Zb} (h:ZcC l=.ok (a,r)):Zj E BY σ site 148 0 true [.ref t 0]=some (.lst false (a.map Zc),σ.set t (.var (P++[.lst false (r.map Zc)])),{ any:=true,upd:=[(t,P++[.lst false (r.map Zc)])] }):=by
 unfold ZcC at h
 split at h
 ·rename_i h0
  injection h with h;injection h with h1 h2;subst h1 h2
  exact Zc4 (rest:=[]) (by kernel_rfl) rfl (Zw P hP hN _ _) (Zw P hP hN _ _) rfl rfl (ZzS P hP hN l hl h0) hs site
 ·cases h
theorem Zqf {c:Int} (h:ZcC l=.error c):Zj E BY σ site 148 0 true [.ref t 0]=some (.pan (Zy c),σ.set t (.var (P++[.lst false (l.map Zc)])),{ any:=true,upd:=[(t,P++[.lst false (l.map Zc)])] }):=by
 unfold ZcC at h
 split at h
 ·cases h
 ·rename_i h0
  injection h with h;subst h
  exact Zct (rest:=[]) (by kernel_rfl) rfl (Zw P hP hN _ _) (Zw P hP hN _ _) rfl (ZL1 P hP hN l hl h0) hs site
theorem ZdY {w:Int} {a:List Zu} {r:Zb} (hu:(Z0 w l).2.1≤l.length) (h:Zbs w l=.ok (a,r)):Zj E BY σ site 117 0 true [.ref t 0,.int .i64 w]=some (.lst false (a.map Zo),σ.set t (.var (P++[.lst false (r.map Zc)])),{ any:=true,upd:=[(t,P++[.lst false (r.map Zc)])] }):=by
 unfold Zbs at h
 split at h
 ·rename_i h0
  injection h with h;injection h with h1 h2;subst h1 h2
  exact Zc4 (rest:=[.int .i64 w]) (by kernel_rfl) rfl (Zw P hP hN _ _) (Zw P hP hN _ _) rfl rfl (Zyy P hP hN w l hl h0 hu) hs site
 ·cases h
theorem Zfl {w c:Int} (h:Zbs w l=.error c):Zj E BY σ site 117 0 true [.ref t 0,.int .i64 w]=some (.pan (Zy c),σ.set t (.var (P++[.lst false (l.map Zc)])),{ any:=true,upd:=[(t,P++[.lst false (l.map Zc)])] }):=by
 unfold Zbs at h
 split at h
 ·cases h
 ·rename_i h0
  injection h with h;subst h
  exact Zct (rest:=[.int .i64 w]) (by kernel_rfl) rfl (Zw P hP hN _ _) (Zw P hP hN _ _) rfl (Zvt P hP hN w l hl h0) hs site
end
theorem ZHq (l:Zb) (hl:l.length≤140737488355328) {n:Int} {r:Zb} (h:idK l=.ok (n,r)):E 119 [.ref 0 0] [.var (P++[.lst false (l.map Zc)])]=some (.tup [],[.var (P.set 4 (.int .i64 n)++[.lst false (r.map Zc)])]):=by
 unfold idK at h
 split at h
 case h_2=>cases h
 rename_i n' r' h2
 split at h
 ·cases h
 rename_i hn
 injection h with h;injection h with h3 h4;subst h3 h4
 have hG:=fun σ site hs=>ZcO P hP hN l hl σ 0 site hs (m:=2) rfl h2
 have a1:=Z2 P hP
 have a3:=Zat P hP 4 5 (by omega) rfl
 have a4:=ZhS P hP 4 (by omega)
 have m1:=Za9
 have h0:(n' != 0)=true:=by simpa using hn
 rw [Zh (by rfl) ZpD]
 simp -implicitDefEqProofs only [EQA,ZG,Zs,Nat.reduceAdd,Nat.reduceLT,Nat.reduceLeDiff,Nat.reduceEqDiff,reduceCtorEq,↓reduceIte,Zd,Zmk,ZiT,ZwA,oI,oN,hG,a1,a3,a4,m1,h0]
 exact ZX rfl (ZaC (ZP rfl 4 hN) (by rfl))
theorem Zjm (l:Zb) (hl:l.length≤140737488355328) {c:Int} (h:idK l=.error c):∃ cs,Zd cs=true∧E 119 [.ref 0 0] [.var (P++[.lst false (l.map Zc)])]=some (.pan (Zy c),[.var cs]):=by
 unfold idK at h
 split at h
 ·rename_i n' r' h2
  split at h
  case isFalse=>cases h
  rename_i hn
  injection h with h;subst h hn
  have hG:=fun σ site hs=>ZcO P hP hN l hl σ 0 site hs (m:=2) rfl h2
  have a1:=Z2 P hP
  have a3:=Zat P hP 4 5 (by omega) rfl
  have a4:=ZhS P hP 4 (by omega)
  have m1:=ZbA
  refine ⟨P.set 4 (.int .i64 0)++[.lst false (r'.map Zc)],ZaC (ZP rfl 4 hN) (by rfl),?_⟩
  rw [Zh (by rfl) ZpD]
  simp -implicitDefEqProofs only [EQA,ZG,Nat.reduceAdd,Nat.reduceLT,Nat.reduceLeDiff,Nat.reduceEqDiff,reduceCtorEq,↓reduceIte,Zmk,ZiT,oI,oN,hG,a1,a3,a4,m1,bne_self_eq_false]
  exact ZX rfl (ZaC (ZP rfl 4 hN) (by rfl))
 ·rename_i c' h2
  injection h with h;subst h
  have hG:=fun σ site hs=>Zfk P hP hN l hl σ 0 site hs (m:=2) rfl (by decide) h2
  refine ⟨P++[.lst false (l.map Zc)],ZaC hN (by rfl),?_⟩
  rw [Zh (by rfl) ZpD]
  simp -implicitDefEqProofs only [EQA,Nat.reduceLT,reduceCtorEq,↓reduceIte,Zmk,ZiT,oI,oN,hG]
  exact ZX rfl (ZaC hN (by rfl))
theorem ZCB (k:Int) (hk:P[0]?=some (.int .i64 k)) (l:Zb) (hl:l.length≤140737488355328) {n:Int} {r:Zb} (h:Zas k l=.ok (n,r)):E 116 [.ref 0 0] [.var (P++[.lst false (l.map Zc)])]=some (.int .i64 n,[.var (P++[.lst false (r.map Zc)])]):=by
 unfold Zas at h
 split at h
 case h_2=>cases h
 rename_i n' r' h2
 split at h
 case isFalse=>cases h
 rename_i hn
 injection h with h;injection h with h3 h4;subst h3 h4
 have hG:=fun σ site hs=>ZcO P hP hN l hl σ 0 site hs (m:=1) rfl h2
 have a4:=fun L=>(Z5 P hP 0 (by omega) L).trans hk
 have m1:=Za9
 have hC:=fun σ site own=>Zhb k n' σ site own
 rw [hn] at hC
 rw [Zh (by rfl) ZfD]
 simp -implicitDefEqProofs only [EQA,Nat.reduceLT,Nat.reduceEqDiff,reduceCtorEq,↓reduceIte,ZfC,ZeK,Ztx,oI,hG,hC,a4,m1]
 exact ZX rfl (ZaC hN (by rfl))
theorem Zua (k:Int) (hk:P[0]?=some (.int .i64 k)) (l:Zb) (hl:l.length≤140737488355328) {c:Int} (h:Zas k l=.error c):∃ cs,Zd cs=true∧E 116 [.ref 0 0] [.var (P++[.lst false (l.map Zc)])]=some (.pan (Zy c),[.var cs]):=by
 unfold Zas at h
 split at h
 ·rename_i n' r' h2
  split at h
  case isTrue=>cases h
  rename_i hn
  injection h with h;subst h
  have hG:=fun σ site hs=>ZcO P hP hN l hl σ 0 site hs (m:=1) rfl h2
  have a4:=fun L=>(Z5 P hP 0 (by omega) L).trans hk
  have m1:=ZbA
  have hC:=fun σ site own=>Zhb k n' σ site own
  rw [Bool.not_eq_true _ |>.mp hn] at hC
  refine ⟨P++[.lst false (r'.map Zc)],ZaC hN (by rfl),?_⟩
  rw [Zh (by rfl) ZfD]
  simp -implicitDefEqProofs only [EQA,Nat.reduceLT,Nat.reduceEqDiff,reduceCtorEq,↓reduceIte,ZfC,ZeK,oI,hG,hC,a4,m1]
  exact ZX rfl (ZaC hN (by rfl))
 ·rename_i c' h2
  injection h with h;subst h
  have hG:=fun σ site hs=>Zfk P hP hN l hl σ 0 site hs (m:=1) rfl (by decide) h2
  refine ⟨P++[.lst false (l.map Zc)],ZaC hN (by rfl),?_⟩
  rw [Zh (by rfl) ZfD]
  simp -implicitDefEqProofs only [EQA,Nat.reduceLT,reduceCtorEq,↓reduceIte,ZfC,ZeK,oI,hG]
  exact ZX rfl (ZaC hN (by rfl))
section
variable (l:Zb) (hl:l.length≤140737488355328) (σ:Za) (t site:Nat) (hs:σ[t]?=some (.var (P++[.lst false (l.map Zc)])))
include hl hs
theorem Zfn {n:Int} {r:Zb} (h:idK l=.ok (n,r)):Zj E BY σ site 119 0 true [.ref t 0]=some (.tup [],σ.set t (.var (P.set 4 (.int .i64 n)++[.lst false (r.map Zc)])),{ any:=true,upd:=[(t,P.set 4 (.int .i64 n)++[.lst false (r.map Zc)])] }) :=
 Zc4 (rest:=[]) (by kernel_rfl) rfl (Zw P hP hN _ _) (ZaC (ZP rfl 4 hN) (by rfl)) rfl rfl (ZHq P hP hN l hl h) hs site
theorem Zi9 (k:Int) (hk:P[0]?=some (.int .i64 k)) {n:Int} {r:Zb} (h:Zas k l=.ok (n,r)):Zj E BY σ site 116 0 true [.ref t 0]=some (.int .i64 n,σ.set t (.var (P++[.lst false (r.map Zc)])),{ any:=true,upd:=[(t,P++[.lst false (r.map Zc)])] }) :=
 Zc4 (rest:=[]) (by kernel_rfl) rfl (Zw P hP hN _ _) (Zw P hP hN _ _) rfl rfl (ZCB P hP hN k hk l hl h) hs site
end
end
end Go.Proofs.YtmlkhhidifjjfaaDoor
namespace Go.Proofs.YtmlkhhidifjjfaaDoor
set_option maxHeartbeats 8000000
set_option maxRecDepth 10000
def ZeO:Option (List Zu)→AVal
 | none=>.lst true []
 | some l=>.lst false (l.map Zo)
def Zcf (k:Int) (l:Zb):RK (Int×Option (List Zu)) :=
 if l.length=0 then .ok ((0,none),l) else match Zas k l with
 | .error c=>.error c
 | .ok (c,r)=>if r.length=0 then .ok ((c,none),r) else match Zbs k r with
  | .error c=>.error c
  | .ok (ps,r')=>.ok ((c,some ps),r')
theorem ZjK {k n:Int} {l r:Zb} (h:Zas k l=.ok (n,r)):r.length≤l.length:=by
 unfold Zas Zaz at h
 split at h
 ·rename_i h1
  split at h1
  ·cases h1
  ·injection h1 with h1;injection h1 with _ h1
   split at h
   ·injection h with h;injection h with _ h;subst h h1;simp
   ·cases h
 ·cases h
theorem Zlf {P:List AVal} {k:Nat} {v:AVal} (h:P[k]?=some v):P.set k v=P:=by
 apply List.ext_getElem?
 intro j
 rw [List.getElem?_set]
 split
 ·rename_i e;subst e
  have hk:k < P.length:=by
   rcases Nat.lt_or_ge k P.length with h' | h'
   ·exact h'
   ·rw [List.getElem?_eq_none h'] at h;cases h
  rw [if_pos hk,h]
 ·rfl
section
variable (P:List AVal) (hP:P.length=26) (hN:Zd P=true)
include hP hN
theorem ZE7 (k:Int) (hk:P[0]?=some (.int .i64 k)) (h7:P[7]?=some (.int .i64 0)) (h9:P[9]?=some (.lst true [])) (hu:∀ r:Zb,r.length≤140737488355328→(Z0 k r).2.1≤r.length) (l:Zb) (hl:l.length≤140737488355328) {c:Int} {ps:Option (List Zu)} {r:Zb} (h:Zcf k l=.ok ((c,ps),r)) :
  E 120 [.ref 0 0] [.var (P++[.lst false (l.map Zc)])]=some (.tup [],[.var ((P.set 7 (.int .i64 c)).set 9 (ZeO ps)++[.lst false (r.map Zc)])]):=by
 have a1:=Z2 P hP
 have a2:=Zao P hP
 unfold Zcf at h
 split at h
 ·rename_i h0
  injection h with h;injection h with h1 h2;injection h1 with h1 h3;subst h1 h2 h3
  have hg:¬(l.length:Int) > 0:=by omega
  rw [show ZeO none=.lst true [] from rfl,Zlf h7,Zlf h9]
  rw [Zh (by rfl) Zig]
  simp -implicitDefEqProofs only [EQA,Zs,Nat.reduceLT,reduceCtorEq,decide_false,↓reduceIte,Zd,Zi8,Zgn,ZnH,oI,oN,a2,hg]
  exact ZX rfl (Zw P hP hN _ _)
 ·rename_i h0
  have hg:(l.length:Int) > 0:=by omega
  split at h
  ·cases h
  rename_i c' r' hc
  have hr':=ZjK hc
  have hC:=fun σ site hs=>Zi9 P hP hN l hl σ 0 site hs k hk hc
  have a3:=Zat P hP 7 8 (by omega) rfl
  have hP7:(P.set 7 (.int .i64 c')).length=26:=by simp [hP]
  have hN7:Zd (P.set 7 (.int .i64 c'))=true:=ZP rfl 7 hN
  have hk7:(P.set 7 (.int .i64 c'))[0]?=some (.int .i64 k):=by rw [List.getElem?_set_ne (by omega)];exact hk
  have h97:(P.set 7 (.int .i64 c'))[9]?=some (.lst true []):=by rw [List.getElem?_set_ne (by omega)];exact h9
  have b1:=Z2 _ hP7
  have b2:=Zao _ hP7
  have b3:=Zat _ hP7 9 10 (by omega) rfl
  have b4:=fun L=>(Z5 _ hP7 0 (by omega) L).trans hk7
  split at h
  ·rename_i h1
   injection h with h;injection h with h1 h2;injection h1 with h1 h3;subst h1 h2 h3
   have hg':¬(r'.length:Int) > 0:=by omega
   rw [show ZeO none=.lst true [] from rfl,Zlf h97]
   rw [Zh (by rfl) Zig]
   simp -implicitDefEqProofs only [EQA,ZG,Zs,Nat.reduceAdd,Nat.reduceLT,Nat.reduceLeDiff,Nat.reduceEqDiff,reduceCtorEq,decide_true,decide_false,↓reduceIte,Zd,Zi8,Zgn,ZnH,oI,oN,a1,a2,a3,b2,hg,hg',hC]
   exact ZX rfl (Zw _ hP7 hN7 _ _)
  ·rename_i h1
   have hg':(r'.length:Int) > 0:=by omega
   split at h
   ·cases h
   rename_i ps' r2 hp
   injection h with h;injection h with h1 h2;injection h1 with h1 h3;subst h1 h2 h3
   have hG:=fun σ site hs=>ZdY _ hP7 hN7 r' (by omega) σ 0 site hs (hu r' (by omega)) hp
   rw [Zh (by rfl) Zig]
   simp -implicitDefEqProofs only [EQA,ZG,Zs,Nat.reduceAdd,Nat.reduceLT,Nat.reduceLeDiff,Nat.reduceEqDiff,reduceCtorEq,decide_true,↓reduceIte,Zd,Zi8,Zgn,ZnH,oI,oN,a1,a2,a3,b1,b2,b3,b4,hg,hg',hC,hG,ZeO]
   exact ZX rfl (ZaC (ZP (Zb9 _ _) 9 hN7) (by rfl))
theorem ZsM (k:Int) (hk:P[0]?=some (.int .i64 k)) (hu:∀ r:Zb,r.length≤140737488355328→(Z0 k r).2.1≤r.length) (l:Zb) (hl:l.length≤140737488355328) {e:Int} (h:Zcf k l=.error e) :
  ∃ cs,Zd cs=true∧E 120 [.ref 0 0] [.var (P++[.lst false (l.map Zc)])]=some (.pan (Zy e),[.var cs]):=by
 have a1:=Z2 P hP
 have a2:=Zao P hP
 unfold Zcf at h
 split at h
 ·cases h
 ·rename_i h0
  have hg:(l.length:Int) > 0:=by omega
  split at h
  ·rename_i c hc
   injection h with h;subst h
   obtain ⟨cs,hn,he⟩:=Zua P hP hN k hk l hl hc
   have hC:=fun (σ:Za) site (hs:σ[0]?=some (.var (P++[.lst false (l.map Zc)])))=>Zct (O:=E) (byref:=BY) (f:=116) (view:=true) (rest:=[]) (by kernel_rfl) rfl (Zw P hP hN _ _) hn rfl he hs site
   refine ⟨cs,hn,?_⟩
   rw [Zh (by rfl) Zig]
   simp -implicitDefEqProofs only [EQA,Nat.reduceLT,reduceCtorEq,decide_true,↓reduceIte,Zi8,Zgn,oI,oN,a2,hg,hC]
   exact ZX rfl hn
  ·rename_i c' r' hc
   have hr':=ZjK hc
   have hC:=fun σ site hs=>Zi9 P hP hN l hl σ 0 site hs k hk hc
   have a3:=Zat P hP 7 8 (by omega) rfl
   have hP7:(P.set 7 (.int .i64 c')).length=26:=by simp [hP]
   have hN7:Zd (P.set 7 (.int .i64 c'))=true:=ZP rfl 7 hN
   have hk7:(P.set 7 (.int .i64 c'))[0]?=some (.int .i64 k):=by rw [List.getElem?_set_ne (by omega)];exact hk
   have b1:=Z2 _ hP7
   have b2:=Zao _ hP7
   have b4:=fun L=>(Z5 _ hP7 0 (by omega) L).trans hk7
   split at h
   ·cases h
   ·rename_i h1
    have hg':(r'.length:Int) > 0:=by omega
    split at h
    ·rename_i c hp
     injection h with h;subst h
     have hG:=fun σ site hs=>Zfl _ hP7 hN7 r' (by omega) σ 0 site hs hp
     refine ⟨P.set 7 (.int .i64 c')++[.lst false (r'.map Zc)],Zw _ hP7 hN7 _ _,?_⟩
     rw [Zh (by rfl) Zig]
     simp -implicitDefEqProofs only [EQA,ZG,Nat.reduceAdd,Nat.reduceLT,Nat.reduceLeDiff,Nat.reduceEqDiff,reduceCtorEq,decide_true,↓reduceIte,Zi8,Zgn,oI,oN,a1,a2,a3,b2,b4,hg,hg',hC,hG]
     exact ZX rfl (Zw _ hP7 hN7 _ _)
    ·cases h
section
variable (l:Zb) (hl:l.length≤140737488355328) (σ:Za) (t site:Nat) (hs:σ[t]?=some (.var (P++[.lst false (l.map Zc)])))
include hl hs
theorem Zra (k:Int) (hk:P[0]?=some (.int .i64 k)) (h7:P[7]?=some (.int .i64 0)) (h9:P[9]?=some (.lst true [])) (hu:∀ r:Zb,r.length≤140737488355328→(Z0 k r).2.1≤r.length) {c:Int} {ps:Option (List Zu)} {r:Zb} (h:Zcf k l=.ok ((c,ps),r)):Zj E BY σ site 120 0 true [.ref t 0]=some (.tup [],σ.set t (.var ((P.set 7 (.int .i64 c)).set 9 (ZeO ps)++[.lst false (r.map Zc)])),{ any:=true,upd:=[(t,(P.set 7 (.int .i64 c)).set 9 (ZeO ps)++[.lst false (r.map Zc)])] }) :=
 Zc4 (rest:=[]) (by kernel_rfl) rfl (Zw P hP hN _ _) (ZaC (ZP (by cases ps <;> rfl) 9 (ZP rfl 7 hN)) (by rfl)) rfl rfl (ZE7 P hP hN k hk h7 h9 hu l hl h) hs site
end
end
theorem Zgr {n:Nat} {l r:Zb} {a:Int} (h:Zaz n l=.ok (a,r)):r.length≤l.length:=by
 unfold Zaz at h
 split at h
 ·cases h
 ·injection h with h;injection h with _ h;subst h;simp
theorem Ze7 {l r:Zb} {a:Int} (h:idK l=.ok (a,r)):r.length≤l.length:=by
 unfold idK at h
 split at h
 ·rename_i h1
  split at h
  ·cases h
  ·injection h with h;injection h with _ h;subst h;exact Zgr h1
 ·cases h
theorem ZdH {l r a:Zb} (h:Zan l=.ok (a,r)):r.length≤l.length:=by
 unfold Zan at h
 split at h
 ·injection h with h;injection h with _ h;subst h;simp
 ·cases h
theorem ZqF {l r a:Zb} (h:ZcC l=.ok (a,r)):r.length≤l.length:=by
 unfold ZcC at h
 split at h
 ·injection h with h;injection h with _ h;subst h;simp
 ·cases h
theorem ZgN {w:Int} {l r:Zb} {a:List Zu} (h:Zbs w l=.ok (a,r)):r.length≤l.length:=by
 unfold Zbs at h
 split at h
 ·injection h with h;injection h with _ h;subst h;simp
 ·cases h
def Zej (qos:Int) (l:Zb):Except Int (Zb×Int×List Zu×Zb):=match Zan l with
 | .error c=>.error c
 | .ok (tp,r1)=>if qos > 0 then (match idK r1 with
  | .error c=>.error c
  | .ok (n,r2)=>match Zbs 3 r2 with
   | .error c=>.error c
   | .ok (ps,r3)=>.ok (tp,n,ps,r3))
  else match Zbs 3 r1 with
   | .error c=>.error c
   | .ok (ps,r3)=>.ok (tp,0,ps,r3)
section
variable (P:List AVal) (hP:P.length=26) (hN:Zd P=true)
include hP hN
theorem Zyw (qos:Int) (h2:P[2]?=some (.int .i64 qos)) (h4:P[4]?=some (.int .i64 0)) (hu:∀ r:Zb,r.length≤140737488355328→(Z0 3 r).2.1≤r.length) (l:Zb) (hl:l.length≤140737488355328) {tp:Zb} {n:Int} {ps:List Zu} {pay:Zb} (h:Zej qos l=.ok (tp,n,ps,pay)) :
  E 118 [.ref 0 0] [.var (P++[.lst false (l.map Zc)])]=some (.tup [],[.var ((((P.set 5 (.str tp)).set 4 (.int .i64 n)).set 9 (.lst false (ps.map Zo))).set 6 (.lst false (pay.map Zc))++[.lst true []])]):=by
 have a1:=Z2 P hP
 have a2:=Zao P hP
 unfold Zej at h
 split at h
 ·cases h
 rename_i tp' r1 ht
 have l1:=ZdH ht
 have hT:=fun σ site hs=>Zd1 P hP hN l hl σ 0 site hs ht
 have a3:=fun L=>Zat P hP 5 6 (by omega) rfl L (.str tp')
 have hP5:(P.set 5 (.str tp')).length=26:=by simp [hP]
 have hN5:Zd (P.set 5 (.str tp'))=true:=ZP rfl 5 hN
 have h25:(P.set 5 (.str tp'))[2]?=some (.int .i64 qos):=by rw [List.getElem?_set_ne (by omega)];exact h2
 have h45:(P.set 5 (.str tp'))[4]?=some (.int .i64 0):=by rw [List.getElem?_set_ne (by omega)];exact h4
 generalize hQ:P.set 5 (.str tp')=Q at *
 have b1:=Z2 _ hP5
 have b2:=Zao _ hP5
 have b4:=fun L=>(Z5 _ hP5 2 (by omega) L).trans h25
 split at h
 ·rename_i hq
  split at h
  ·cases h
  rename_i n' r2 hi
  have l2:=Ze7 hi
  split at h
  ·cases h
  rename_i ps' r3 hp
  have l3:=ZgN hp
  injection h with h;injection h with e1 h;injection h with e2 h;injection h with e3 e4;subst e1 e2 e3 e4
  rw [hQ]
  have hI:=fun σ site hs=>Zfn Q hP5 hN5 r1 (by omega) σ 0 site hs hi
  have hP4:(Q.set 4 (.int .i64 n')).length=26:=by simp [hP5]
  have hN4:Zd (Q.set 4 (.int .i64 n'))=true:=ZP rfl 4 hN5
  generalize Q.set 4 (.int .i64 n')=R at *
  have hG:=fun σ site hs=>ZdY _ hP4 hN4 r2 (by omega) σ 0 site hs (hu r2 (by omega)) hp
  have c1:=Z2 _ hP4
  have c2:=Zao _ hP4
  have c3:=fun L=>Zat _ hP4 9 10 (by omega) rfl L (.lst false (ps'.map Zo))
  have hP9:(R.set 9 (.lst false (ps'.map Zo))).length=26:=by simp [hP4]
  have hN9:Zd (R.set 9 (.lst false (ps'.map Zo)))=true:=ZP (Zb9 _ _) 9 hN4
  generalize R.set 9 (.lst false (ps'.map Zo))=S at *
  have d1:=Z2 _ hP9
  have d2:=Zao _ hP9
  have d3:=fun L=>Zat _ hP9 6 7 (by omega) rfl L (.lst false (r3.map Zc))
  have hP6:(S.set 6 (.lst false (r3.map Zc))).length=26:=by simp [hP9]
  have hN6:Zd (S.set 6 (.lst false (r3.map Zc)))=true:=ZP (Zb9 _ _) 6 hN9
  generalize S.set 6 (.lst false (r3.map Zc))=U at *
  have f1:=Z2 _ hP6
  have f3:=Zep _ hP6
  have f4:=ZfG _ hP6
  have hC:=fun σ site own=>ZoZ σ site own r3 (by omega)
  rw [Zh (by rfl) ZhF]
  simp -implicitDefEqProofs only [EQA,ZG,Zs,Nat.reduceAdd,Nat.reduceLT,Nat.reduceLeDiff,Nat.reduceEqDiff,reduceCtorEq,decide_true,↓reduceIte,Zd,ZhR,ZfO,Zqk,oI,oN,a1,a3,b4,c1,c3,d1,d2,d3,f1,f3,f4,hq,hT,hI,hG,hC]
  exact ZX rfl (ZaC hN6 (by rfl))
 ·rename_i hq
  split at h
  ·cases h
  rename_i ps' r3 hp
  have l3:=ZgN hp
  injection h with h;injection h with e1 h;injection h with e2 h;injection h with e3 e4;subst e1 e2 e3 e4
  rw [hQ,Zlf h45]
  have hG:=fun σ site hs=>ZdY _ hP5 hN5 r1 (by omega) σ 0 site hs (hu r1 (by omega)) hp
  have c3:=fun L=>Zat _ hP5 9 10 (by omega) rfl L (.lst false (ps'.map Zo))
  have hP9:(Q.set 9 (.lst false (ps'.map Zo))).length=26:=by simp [hP5]
  have hN9:Zd (Q.set 9 (.lst false (ps'.map Zo)))=true:=ZP (Zb9 _ _) 9 hN5
  generalize Q.set 9 (.lst false (ps'.map Zo))=S at *
  have d1:=Z2 _ hP9
  have d2:=Zao _ hP9
  have d3:=fun L=>Zat _ hP9 6 7 (by omega) rfl L (.lst false (r3.map Zc))
  have hP6:(S.set 6 (.lst false (r3.map Zc))).length=26:=by simp [hP9]
  have hN6:Zd (S.set 6 (.lst false (r3.map Zc)))=true:=ZP (Zb9 _ _) 6 hN9
  generalize S.set 6 (.lst false (r3.map Zc))=U at *
  have f1:=Z2 _ hP6
  have f3:=Zep _ hP6
  have f4:=ZfG _ hP6
  have hC:=fun σ site own=>ZoZ σ site own r3 (by omega)
  rw [Zh (by rfl) ZhF]
  simp -implicitDefEqProofs only [EQA,ZG,Zs,Nat.reduceAdd,Nat.reduceLT,Nat.reduceLeDiff,Nat.reduceEqDiff,reduceCtorEq,decide_false,↓reduceIte,Zd,ZhR,ZfO,Zqk,oI,oN,a1,a3,b1,b4,c3,d1,d2,d3,f1,f3,f4,hq,hT,hG,hC]
  exact ZX rfl (ZaC hN6 (by rfl))
theorem ZKJ (qos:Int) (h2:P[2]?=some (.int .i64 qos)) (l:Zb) (hl:l.length≤140737488355328) {c:Int} (h:Zej qos l=.error c) :
  ∃ cs,Zd cs=true∧E 118 [.ref 0 0] [.var (P++[.lst false (l.map Zc)])]=some (.pan (Zy c),[.var cs]):=by
 have a1:=Z2 P hP
 have a2:=Zao P hP
 unfold Zej at h
 split at h
 ·rename_i c' ht
  injection h with h;subst h
  have hT:=fun σ site hs=>Zgy P hP hN l hl σ 0 site hs ht
  refine ⟨P++[.lst false (l.map Zc)],Zw P hP hN _ _,?_⟩
  rw [Zh (by rfl) ZhF]
  simp -implicitDefEqProofs only [EQA,Nat.reduceLT,reduceCtorEq,↓reduceIte,ZhR,ZfO,oI,oN,hT]
  exact ZX rfl (Zw P hP hN _ _)
 rename_i tp' r1 ht
 have l1:=ZdH ht
 have hT:=fun σ site hs=>Zd1 P hP hN l hl σ 0 site hs ht
 have a3:=fun L=>Zat P hP 5 6 (by omega) rfl L (.str tp')
 have hP5:(P.set 5 (.str tp')).length=26:=by simp [hP]
 have hN5:Zd (P.set 5 (.str tp'))=true:=ZP rfl 5 hN
 have h25:(P.set 5 (.str tp'))[2]?=some (.int .i64 qos):=by rw [List.getElem?_set_ne (by omega)];exact h2
 generalize hQ:P.set 5 (.str tp')=Q at *
 have b1:=Z2 _ hP5
 have b2:=Zao _ hP5
 have b4:=fun L=>(Z5 _ hP5 2 (by omega) L).trans h25
 split at h
 ·rename_i hq
  split at h
  ·rename_i c' hi
   injection h with h;subst h
   obtain ⟨cs,hn,he⟩:=Zjm Q hP5 hN5 r1 (by omega) hi
   have hI:=fun (σ:Za) site (hs:σ[0]?=some (.var (Q++[.lst false (r1.map Zc)])))=>Zct (O:=E) (byref:=BY) (f:=119) (view:=true) (rest:=[]) (by kernel_rfl) rfl (Zw Q hP5 hN5 _ _) hn rfl he hs site
   refine ⟨cs,hn,?_⟩
   rw [Zh (by rfl) ZhF]
   simp -implicitDefEqProofs only [EQA,ZG,Nat.reduceAdd,Nat.reduceLT,Nat.reduceLeDiff,Nat.reduceEqDiff,reduceCtorEq,decide_true,↓reduceIte,ZhR,ZfO,oI,oN,a1,a3,b4,hq,hT,hI]
   exact ZX rfl hn
  rename_i n' r2 hi
  have l2:=Ze7 hi
  split at h
  ·rename_i c' hp
   injection h with h;subst h
   have hI:=fun σ site hs=>Zfn Q hP5 hN5 r1 (by omega) σ 0 site hs hi
   have hP4:(Q.set 4 (.int .i64 n')).length=26:=by simp [hP5]
   have hN4:Zd (Q.set 4 (.int .i64 n'))=true:=ZP rfl 4 hN5
   generalize Q.set 4 (.int .i64 n')=R at *
   have hG:=fun σ site hs=>Zfl _ hP4 hN4 r2 (by omega) σ 0 site hs hp
   refine ⟨R++[.lst false (r2.map Zc)],Zw R hP4 hN4 _ _,?_⟩
   rw [Zh (by rfl) ZhF]
   simp -implicitDefEqProofs only [EQA,ZG,Nat.reduceAdd,Nat.reduceLT,Nat.reduceLeDiff,Nat.reduceEqDiff,reduceCtorEq,decide_true,↓reduceIte,ZhR,ZfO,oI,oN,a1,a3,b4,hq,hT,hI,hG]
   exact ZX rfl (Zw R hP4 hN4 _ _)
  ·cases h
 ·rename_i hq
  split at h
  ·rename_i c' hp
   injection h with h;subst h
   have hG:=fun σ site hs=>Zfl _ hP5 hN5 r1 (by omega) σ 0 site hs hp
   refine ⟨Q++[.lst false (r1.map Zc)],Zw Q hP5 hN5 _ _,?_⟩
   rw [Zh (by rfl) ZhF]
   simp -implicitDefEqProofs only [EQA,ZG,Nat.reduceAdd,Nat.reduceLT,Nat.reduceLeDiff,Nat.reduceEqDiff,reduceCtorEq,decide_false,↓reduceIte,ZhR,ZfO,oI,oN,a1,a3,b4,hq,hT,hG]
   exact ZX rfl (Zw Q hP5 hN5 _ _)
  ·cases h
end
end Go.Proofs.YtmlkhhidifjjfaaDoor
namespace Go.Proofs.YtmlkhhidifjjfaaDoor
set_option maxHeartbeats 8000000
set_option maxRecDepth 10000
abbrev KSt:=List AVal×Zb
def Zg (P:List AVal) (l:Zb):Za:=[.var (P++[.lst false (l.map Zc)])]
def KRuns (c:Zf) (tm tm':Tms) (P:List AVal) (l:Zb):Except Int KSt→Prop
 | .ok (P',l')=>evC FC PR BY 1 c tm (Zg P l)=some (.normal,tm',Zg P' l')∧P'.length=26∧Zd P'=true∧l'.length≤l.length
 | .error e=>∃ tm2 cs,Zd cs=true∧evC FC PR BY 1 c tm (Zg P l)=some (.panic (Zy e),tm2,[.var cs])
theorem KRuns.seq {a b:Zf} {tm tm1 tm2:Tms} {P:List AVal} {l:Zb} {x:Except Int KSt} {f:KSt→Except Int KSt} (h:KRuns a tm tm1 P l x) (hb:∀ P' l',x=.ok (P',l')→P'.length=26→Zd P'=true→l'.length≤l.length→KRuns b tm1 tm2 P' l' (f (P',l'))):KRuns (.seq a b) tm tm2 P l (x.bind f):=by
 cases x with
 | error e =>
  obtain ⟨t,cs,h1,h2⟩:=h
  exact ⟨t,cs,h1,ZiU (by simp) h2⟩
 | ok s =>
  obtain ⟨P',l'⟩:=s
  obtain ⟨h1,h2,h3,h4⟩:=h
  have hb:=hb P' l' rfl h2 h3 h4
  show KRuns (.seq a b) tm tm2 P l (f (P',l'))
  generalize f (P',l')=y at *
  cases y with
  | error e =>
   obtain ⟨t,cs,g1,g2⟩:=hb
   exact ⟨t,cs,g1,by rw [Zii h1];exact g2⟩
  | ok s =>
   obtain ⟨P2,l2⟩:=s
   obtain ⟨g1,g2,g3,g4⟩:=hb
   exact ⟨by rw [Zii h1];exact g1,g2,g3,by omega⟩
def KRun (c:Zf) (tm:Tms) (P:List AVal) (l:Zb) (x:Except Int KSt):Prop:=∃ tm',KRuns c tm tm' P l x
theorem KRun.seqT {a b:Zf} {tm tm1:Tms} {P P1:List AVal} {l l1:Zb} {x:Except Int KSt} (h:evC FC PR BY 1 a tm (Zg P l)=some (.normal,tm1,Zg P1 l1)) (hl:l1.length≤l.length) (hb:KRun b tm1 P1 l1 x):KRun (.seq a b) tm P l x:=by
 obtain ⟨tm',hb⟩:=hb
 refine ⟨tm',?_⟩
 cases x with
 | error e =>
  obtain ⟨t,cs,g1,g2⟩:=hb
  exact ⟨t,cs,g1,by rw [Zii h];exact g2⟩
 | ok s =>
  obtain ⟨P2,l2⟩:=s
  obtain ⟨g1,g2,g3,g4⟩:=hb
  exact ⟨by rw [Zii h];exact g1,g2,g3,by omega⟩
theorem KRun.seqF {a b:Zf} {tm tm2:Tms} {P cs:List AVal} {l:Zb} {e:Int} (hn:Zd cs=true) (h:evC FC PR BY 1 a tm (Zg P l)=some (.panic (Zy e),tm2,[.var cs])):KRun (.seq a b) tm P l (.error e) :=
 ⟨[],tm2,cs,hn,ZiU (by simp) h⟩
theorem KRuns.fnT {f:Nat} {fn:ZI} (hp:PR f=none) (hf:FC f=some fn) (hr:fn.res=[]) {P P':List AVal} {l l':Zb} (h:KRun fn.body [(0,.ref 0 0)] P l (.ok (P',l'))):E f [.ref 0 0] (Zg P l)=some (.tup [],Zg P' l'):=by
 obtain ⟨_,h1,h2,h3,h4⟩:=h
 rw [Zh hp hf]
 show Zap 1 fn (evC FC PR BY 1 fn.body [(0,.ref 0 0)] (Zg P l))=_
 rw [h1]
 simp only [Zap,hr,resA,resAll]
 exact ZX rfl (ZaC h3 (by rfl))
theorem KRuns.fnF {f:Nat} {fn:ZI} (hp:PR f=none) (hf:FC f=some fn) {P:List AVal} {l:Zb} {e:Int} (h:KRun fn.body [(0,.ref 0 0)] P l (.error e)):∃ cs,Zd cs=true∧E f [.ref 0 0] (Zg P l)=some (.pan (Zy e),[.var cs]):=by
 obtain ⟨_,t,cs,h1,h2⟩:=h
 refine ⟨cs,h1,?_⟩
 rw [Zh hp hf]
 show Zap 1 fn (evC FC PR BY 1 fn.body [(0,.ref 0 0)] (Zg P l))=_
 rw [h2]
 simp only [Zap]
 exact ZX rfl h1
end Go.Proofs.YtmlkhhidifjjfaaDoor
namespace Go.Proofs.YtmlkhhidifjjfaaDoor
set_option maxHeartbeats 8000000
set_option maxRecDepth 10000
def cn1:Zf:=(.region [⟨(some 4),(.mov (.t 0)),none,[]⟩,⟨(some 5),(.nilchk (.t 4)),none,[]⟩,⟨(some 6),(.faddr 0 (.t 5)),none,[]⟩,⟨(some 2),(.mov (.t 6)),none,[]⟩] none [2,0])
def cn2:Zf:=(.region [⟨(some 7),(.mov (.t 0)),none,[]⟩,⟨(some 8),(.call 124 0 true [(.t 7)]),none,[]⟩,⟨(some 9),(.bin .eql (.t 8) (.c (.str [77,81,84,84]))),none,[]⟩,⟨(some 10),(.call 113 0 true [(.t 9),(.c (.int .i64 132))]),none,[]⟩] none [2,0])
def cn3:Zf:=(.region [⟨(some 11),(.mov (.t 0)),none,[]⟩,⟨(some 12),(.call 115 0 true [(.t 11),(.c (.int .i64 1))]),none,[]⟩,⟨(some 13),(.bin .eql (.t 12) (.c (.int .i64 5))),none,[]⟩,⟨(some 14),(.call 113 0 true [(.t 13),(.c (.int .i64 132))]),none,[]⟩] none [2,0])
def cn4:Zf:=(.region [⟨(some 15),(.mov (.t 0)),none,[]⟩,⟨(some 16),(.call 115 0 true [(.t 15),(.c (.int .i64 1))]),none,[]⟩,⟨(some 3),(.mov (.t 16)),none,[]⟩] none [3,2,0])
def cn5:Zf:=(.region [⟨(some 17),(.mov (.t 2)),none,[]⟩,⟨(some 18),(.mov (.t 2)),none,[]⟩,⟨(some 19),(.mov (.t 3)),none,[]⟩,⟨(some 20),(.bin .and (.t 19) (.c (.int .i64 2))),none,[]⟩,⟨(some 21),(.bin .neq (.t 20) (.c (.int .i64 0))),none,[]⟩,⟨(some 22),(.mov (.t 3)),none,[]⟩,⟨(some 23),(.bin .and (.t 22) (.c (.int .i64 4))),none,[]⟩,⟨(some 24),(.bin .neq (.t 23) (.c (.int .i64 0))),none,[]⟩,⟨(some 25),(.nilchk (.t 17)),none,[]⟩,⟨(some 26),(.faddr 12 (.t 25)),none,[]⟩,⟨none,(.st 1 (.t 26) (.t 21)),none,[]⟩,⟨(some 27),(.nilchk (.t 18)),none,[]⟩,⟨(some 28),(.faddr 15 (.t 27)),none,[]⟩,⟨none,(.st 1 (.t 28) (.t 24)),none,[]⟩] none [3,2,0])
def cn6:Zf:=(.region [⟨(some 29),(.mov (.t 2)),none,[]⟩,⟨(some 30),(.mov (.t 2)),none,[]⟩,⟨(some 31),(.mov (.t 3)),none,[]⟩,⟨(some 32),(.bin .and (.t 31) (.c (.int .i64 64))),none,[]⟩,⟨(some 33),(.bin .neq (.t 32) (.c (.int .i64 0))),none,[]⟩,⟨(some 34),(.mov (.t 3)),none,[]⟩,⟨(some 35),(.bin .and (.t 34) (.c (.int .i64 128))),none,[]⟩,⟨(some 36),(.bin .neq (.t 35) (.c (.int .i64 0))),none,[]⟩,⟨(some 37),(.nilchk (.t 29)),none,[]⟩,⟨(some 38),(.faddr 23 (.t 37)),none,[]⟩,⟨none,(.st 1 (.t 38) (.t 33)),none,[]⟩,⟨(some 39),(.nilchk (.t 30)),none,[]⟩,⟨(some 40),(.faddr 21 (.t 39)),none,[]⟩,⟨none,(.st 1 (.t 40) (.t 36)),none,[]⟩] none [3,2,0])
def cn7:Zf:=(.region [⟨(some 41),(.mov (.t 2)),none,[]⟩,⟨(some 42),(.mov (.t 2)),none,[]⟩,⟨(some 43),(.mov (.t 3)),none,[]⟩,⟨(some 44),(.bin .quo (.t 43) (.c (.int .i64 8))),none,[]⟩,⟨(some 45),(.bin .and (.t 44) (.c (.int .i64 3))),none,[]⟩,⟨(some 46),(.mov (.t 3)),none,[]⟩,⟨(some 47),(.bin .and (.t 46) (.c (.int .i64 32))),none,[]⟩,⟨(some 48),(.bin .neq (.t 47) (.c (.int .i64 0))),none,[]⟩,⟨(some 49),(.nilchk (.t 41)),none,[]⟩,⟨(some 50),(.faddr 16 (.t 49)),none,[]⟩,⟨(some 51),(.faddr 2 (.t 50)),none,[]⟩,⟨none,(.st 1 (.t 51) (.t 45)),none,[]⟩,⟨(some 52),(.nilchk (.t 42)),none,[]⟩,⟨(some 53),(.faddr 16 (.t 52)),none,[]⟩,⟨(some 54),(.faddr 3 (.t 53)),none,[]⟩,⟨none,(.st 1 (.t 54) (.t 48)),none,[]⟩] none [3,2,0])
def cn8:Zf:=(.region [⟨(some 55),(.mov (.t 3)),none,[]⟩,⟨(some 56),(.bin .and (.t 55) (.c (.int .i64 1))),none,[]⟩,⟨(some 57),(.bin .eql (.t 56) (.c (.int .i64 0))),none,[]⟩,⟨(some 58),(.mov (.t 57)),none,[]⟩,⟨(some 59),(.mov (.t 2)),(some (58,true)),[]⟩,⟨(some 60),(.nilchk (.t 59)),(some (58,true)),[]⟩,⟨(some 61),(.faddr 16 (.t 60)),(some (58,true)),[]⟩,⟨(some 62),(.faddr 2 (.t 61)),(some (58,true)),[]⟩,⟨(some 63),(.ld none (.t 62)),(some (58,true)),[]⟩,⟨(some 64),(.bin .lss (.t 63) (.c (.int .i64 3))),(some (58,true)),[]⟩,⟨(some 65),(.pick (.t 58) (.t 64) (.c (.bool false))),none,[]⟩,⟨(some 66),(.mov (.t 65)),none,[]⟩,⟨(some 67),(.mov (.t 2)),(some (66,true)),[]⟩,⟨(some 68),(.nilchk (.t 67)),(some (66,true)),[]⟩,⟨(some 69),(.faddr 15 (.t 68)),(some (66,true)),[]⟩,⟨(some 70),(.ld none (.t 69)),(some (66,true)),[]⟩,⟨(some 71),(.mov (.t 70)),(some (66,true)),[]⟩,⟨(some 72),(.mov (.t 2)),(some (71,false)),[]⟩,⟨(some 73),(.nilchk (.t 72)),(some (71,false)),[]⟩,⟨(some 74),(.faddr 16 (.t 73)),(some (71,false)),[]⟩,⟨(some 75),(.faddr 2 (.t 74)),(some (71,false)),[]⟩,⟨(some 76),(.ld none (.t 75)),(some (71,false)),[]⟩,⟨(some 77),(.bin .eql (.t 76) (.c (.int .i64 0))),(some (71,false)),[]⟩,⟨(some 78),(.mov (.t 77)),(some (71,false)),[]⟩,⟨(some 79),(.mov (.t 2)),(some (78,true)),[]⟩,⟨(some 80),(.nilchk (.t 79)),(some (78,true)),[]⟩,⟨(some 81),(.faddr 16 (.t 80)),(some (78,true)),[]⟩,⟨(some 82),(.faddr 3 (.t 81)),(some (78,true)),[]⟩,⟨(some 83),(.ld none (.t 82)),(some (78,true)),[]⟩,⟨(some 84),(.un .not (.t 83)),(some (78,true)),[]⟩,⟨(some 85),(.pick (.t 78) (.t 84) (.c (.bool false))),(some (71,false)),[]⟩,⟨(some 86),(.pick (.t 71) (.c (.bool true)) (.t 85)),(some (66,true)),[]⟩,⟨(some 87),(.pick (.t 66) (.t 86) (.c (.bool false))),none,[]⟩,⟨(some 88),(.call 113 0 true [(.t 87),(.c (.int .i64 129))]),none,[]⟩] none [2,0])
def cn9:Zf:=(.region [⟨(some 89),(.mov (.t 2)),none,[]⟩,⟨(some 90),(.mov (.t 0)),none,[]⟩,⟨(some 91),(.call 115 0 true [(.t 90),(.c (.int .i64 2))]),none,[]⟩,⟨(some 92),(.nilchk (.t 89)),none,[]⟩,⟨(some 93),(.faddr 13 (.t 92)),none,[]⟩,⟨none,(.st 1 (.t 93) (.t 91)),none,[]⟩] none [2,0])
def Zhi:Zf:=(.region [⟨(some 94),(.mov (.t 2)),none,[]⟩,⟨(some 95),(.mov (.t 0)),none,[]⟩,⟨(some 96),(.call 117 0 true [(.t 95),(.c (.int .i64 1))]),none,[]⟩,⟨(some 97),(.nilchk (.t 94)),none,[]⟩,⟨(some 98),(.faddr 9 (.t 97)),none,[]⟩,⟨none,(.st 1 (.t 98) (.t 96)),none,[]⟩] none [2,0])
def ZhT:Zf:=(.region [⟨(some 99),(.mov (.t 2)),none,[]⟩,⟨(some 100),(.mov (.t 0)),none,[]⟩,⟨(some 101),(.call 124 0 true [(.t 100)]),none,[]⟩,⟨(some 102),(.nilchk (.t 99)),none,[]⟩,⟨(some 103),(.faddr 14 (.t 102)),none,[]⟩,⟨none,(.st 1 (.t 103) (.t 101)),none,[]⟩] none [2,0])
def Zd7:Zf:=(.seq (.region [⟨(some 104),(.mov (.t 2)),none,[]⟩,⟨(some 105),(.nilchk (.t 104)),none,[]⟩,⟨(some 106),(.faddr 15 (.t 105)),none,[]⟩,⟨(some 107),(.ld none (.t 106)),none,[]⟩] none [107,2,0]) (.cond (.t 107) (.seq (.region [⟨(some 108),(.mov (.t 2)),none,[]⟩,⟨(some 109),(.mov (.t 0)),none,[]⟩,⟨(some 110),(.call 117 0 true [(.t 109),(.c (.int .i64 16))]),none,[]⟩,⟨(some 111),(.nilchk (.t 108)),none,[]⟩,⟨(some 112),(.faddr 16 (.t 111)),none,[]⟩,⟨(some 113),(.faddr 4 (.t 112)),none,[]⟩,⟨none,(.st 1 (.t 113) (.t 110)),none,[]⟩] none [2,0]) (.seq (.region [⟨(some 114),(.mov (.t 2)),none,[]⟩,⟨(some 115),(.mov (.t 0)),none,[]⟩,⟨(some 116),(.call 124 0 true [(.t 115)]),none,[]⟩,⟨(some 117),(.nilchk (.t 114)),none,[]⟩,⟨(some 118),(.faddr 16 (.t 117)),none,[]⟩,⟨(some 119),(.faddr 0 (.t 118)),none,[]⟩,⟨none,(.st 1 (.t 119) (.t 116)),none,[]⟩] none [2,0]) (.region [⟨(some 120),(.mov (.t 2)),none,[]⟩,⟨(some 121),(.mov (.t 0)),none,[]⟩,⟨(some 122),(.call 148 0 true [(.t 121)]),none,[]⟩,⟨(some 123),(.nilchk (.t 120)),none,[]⟩,⟨(some 124),(.faddr 16 (.t 123)),none,[]⟩,⟨(some 125),(.faddr 1 (.t 124)),none,[]⟩,⟨none,(.st 1 (.t 125) (.t 122)),none,[]⟩] none [2,0]))) .skip))
def ZeC:Zf:=(.seq (.region [⟨(some 126),(.mov (.t 2)),none,[]⟩,⟨(some 127),(.nilchk (.t 126)),none,[]⟩,⟨(some 128),(.faddr 21 (.t 127)),none,[]⟩,⟨(some 129),(.ld none (.t 128)),none,[]⟩] none [129,2,0]) (.cond (.t 129) (.region [⟨(some 130),(.mov (.t 2)),none,[]⟩,⟨(some 131),(.mov (.t 0)),none,[]⟩,⟨(some 132),(.call 124 0 true [(.t 131)]),none,[]⟩,⟨(some 133),(.nilchk (.t 130)),none,[]⟩,⟨(some 134),(.faddr 22 (.t 133)),none,[]⟩,⟨none,(.st 1 (.t 134) (.t 132)),none,[]⟩] none [2,0]) .skip))
def ZgB:Zf:=(.region [⟨(some 135),(.mov (.t 2)),none,[]⟩,⟨(some 136),(.nilchk (.t 135)),none,[]⟩,⟨(some 137),(.faddr 23 (.t 136)),none,[]⟩,⟨(some 138),(.ld none (.t 137)),none,[]⟩] none [138,2,0])
def ZdQ:Zf:=(.cond (.t 138) (.region [⟨(some 139),(.mov (.t 2)),none,[]⟩,⟨(some 140),(.mov (.t 0)),none,[]⟩,⟨(some 141),(.call 148 0 true [(.t 140)]),none,[]⟩,⟨(some 142),(.nilchk (.t 139)),none,[]⟩,⟨(some 143),(.faddr 24 (.t 142)),none,[]⟩,⟨none,(.st 1 (.t 143) (.t 141)),none,[]⟩] none []) .skip)
theorem ZAN:Znm=(.seq cn1 (.seq cn2 (.seq cn3 (.seq cn4 (.seq cn5 (.seq cn6 (.seq cn7 (.seq cn8 (.seq cn9 (.seq Zhi (.seq ZhT (.seq Zd7 (.seq ZeC (.seq ZgB ZdQ)))))))))))))):=rfl
def t20:Tms:=[(2,.ref 0 0),(0,.ref 0 0)]
def ZcI (m:Int):Tms:=[(3,.int .i64 m),(2,.ref 0 0),(0,.ref 0 0)]
def Zv (a b:Int):Int:=IntKind.i64.wrap (BitVec.ofInt IntKind.i64.bits a &&& BitVec.ofInt IntKind.i64.bits b).toNat
def Zd0 (m:Int):Int:=IntKind.i64.wrap (m.tdiv 8)
section
variable (P:List AVal) (hP:P.length=26) (hN:Zd P=true) (l:Zb) (hl:l.length≤140737488355328)
include hP hN hl
theorem ZJV:evC FC PR BY 1 cn1 [(0,.ref 0 0)] (Zg P l)=some (.normal,t20,Zg P l):=by
 unfold Zg t20
 simp -implicitDefEqProofs only [EQA,Nat.reduceLT,Nat.reduceEqDiff,reduceCtorEq,↓reduceIte,cn1]
theorem ZGC {r:Zb} (h:Zan l=.ok ([77,81,84,84],r)):evC FC PR BY 1 cn2 t20 (Zg P l)=some (.normal,t20,Zg P r):=by
 have hT:=fun σ site hs=>Zd1 P hP hN l hl σ 0 site hs h
 have m1:=Za9
 have e1:(([77,81,84,84]:List UInt8) == [77,81,84,84])=true:=by decide
 unfold Zg t20
 simp -implicitDefEqProofs only [EQA,Nat.reduceLT,Nat.reduceEqDiff,Zfh,reduceCtorEq,↓reduceIte,cn2,hT,m1]
theorem ZyY {a r:Zb} (h:Zan l=.ok (a,r)) (hn:(a == [77,81,84,84])=false):evC FC PR BY 1 cn2 t20 (Zg P l)=some (.panic (Zy 132),[],Zg P r):=by
 have hT:=fun σ site hs=>Zd1 P hP hN l hl σ 0 site hs h
 have m1:=ZbA
 unfold Zg t20
 simp -implicitDefEqProofs only [EQA,Nat.reduceLT,Zfh,reduceCtorEq,↓reduceIte,cn2,hT,m1,hn]
theorem ZJL {c:Int} (h:Zan l=.error c):evC FC PR BY 1 cn2 t20 (Zg P l)=some (.panic (Zy c),[],Zg P l):=by
 have hT:=fun σ site hs=>Zgy P hP hN l hl σ 0 site hs h
 unfold Zg t20
 simp -implicitDefEqProofs only [EQA,Nat.reduceLT,reduceCtorEq,↓reduceIte,cn2,hT]
theorem ZGA {r:Zb} (h:Zaz 1 l=.ok (5,r)):evC FC PR BY 1 cn3 t20 (Zg P l)=some (.normal,t20,Zg P r):=by
 have hT:=fun σ site hs=>ZcO P hP hN l hl σ 0 site hs (m:=1) rfl h
 have m1:=Za9
 have e1:((5:Int) == 5)=true:=by decide
 unfold Zg t20
 simp -implicitDefEqProofs only [EQA,Nat.reduceLT,Nat.reduceEqDiff,reduceCtorEq,↓reduceIte,cn3,hT,m1]
theorem ZDr {a:Int} {r:Zb} (h:Zaz 1 l=.ok (a,r)) (hn:(a == 5)=false):evC FC PR BY 1 cn3 t20 (Zg P l)=some (.panic (Zy 132),[],Zg P r):=by
 have hT:=fun σ site hs=>ZcO P hP hN l hl σ 0 site hs (m:=1) rfl h
 have m1:=ZbA
 unfold Zg t20
 simp -implicitDefEqProofs only [EQA,Nat.reduceLT,reduceCtorEq,↓reduceIte,cn3,hT,m1,hn]
theorem ZCN {c:Int} (h:Zaz 1 l=.error c):evC FC PR BY 1 cn3 t20 (Zg P l)=some (.panic (Zy c),[],Zg P l):=by
 have hT:=fun σ site hs=>Zfk P hP hN l hl σ 0 site hs (m:=1) rfl (by decide) h
 unfold Zg t20
 simp -implicitDefEqProofs only [EQA,Nat.reduceLT,reduceCtorEq,↓reduceIte,cn3,hT]
theorem ZJB {m:Int} {r:Zb} (h:Zaz 1 l=.ok (m,r)):evC FC PR BY 1 cn4 t20 (Zg P l)=some (.normal,ZcI m,Zg P r):=by
 have hT:=fun σ site hs=>ZcO P hP hN l hl σ 0 site hs (m:=1) rfl h
 unfold Zg t20 ZcI
 simp -implicitDefEqProofs only [EQA,Nat.reduceLT,Nat.reduceEqDiff,reduceCtorEq,↓reduceIte,cn4,hT]
theorem ZMT {c:Int} (h:Zaz 1 l=.error c):evC FC PR BY 1 cn4 t20 (Zg P l)=some (.panic (Zy c),[],Zg P l):=by
 have hT:=fun σ site hs=>Zfk P hP hN l hl σ 0 site hs (m:=1) rfl (by decide) h
 unfold Zg t20
 simp -implicitDefEqProofs only [EQA,Nat.reduceLT,reduceCtorEq,↓reduceIte,cn4,hT]
theorem ZCn (m:Int):evC FC PR BY 1 cn5 (ZcI m) (Zg P l)=some (.normal,ZcI m,Zg ((P.set 12 (.bool (Zv m 2 != 0))).set 15 (.bool (Zv m 4 != 0))) l):=by
 have a1:=Z2 P hP
 have a3:=fun L=>Zat P hP 12 13 (by omega) rfl L (.bool (Zv m 2 != 0))
 have hP1:(P.set 12 (.bool (Zv m 2 != 0))).length=26:=by simp [hP]
 have b1:=Z2 _ hP1
 have b3:=fun L=>Zat _ hP1 15 16 (by omega) rfl L (.bool (Zv m 4 != 0))
 unfold Zg ZcI
 unfold Zv at *
 simp -implicitDefEqProofs only [EQA,ZG,Nat.reduceAdd,Nat.reduceLT,Nat.reduceLeDiff,Nat.reduceEqDiff,reduceCtorEq,↓reduceIte,cn5,a1,a3,b1,b3]
theorem ZxQ (m:Int):evC FC PR BY 1 cn6 (ZcI m) (Zg P l)=some (.normal,ZcI m,Zg ((P.set 23 (.bool (Zv m 64 != 0))).set 21 (.bool (Zv m 128 != 0))) l):=by
 have a1:=Z2 P hP
 have a3:=fun L=>Zat P hP 23 24 (by omega) rfl L (.bool (Zv m 64 != 0))
 have hP1:(P.set 23 (.bool (Zv m 64 != 0))).length=26:=by simp [hP]
 have b1:=Z2 _ hP1
 have b3:=fun L=>Zat _ hP1 21 22 (by omega) rfl L (.bool (Zv m 128 != 0))
 unfold Zg ZcI
 unfold Zv at *
 simp -implicitDefEqProofs only [EQA,ZG,Nat.reduceAdd,Nat.reduceLT,Nat.reduceLeDiff,Nat.reduceEqDiff,reduceCtorEq,↓reduceIte,cn6,a1,a3,b1,b3]
theorem ZCW (m:Int):evC FC PR BY 1 cn7 (ZcI m) (Zg P l)=some (.normal,ZcI m,Zg ((P.set 18 (.int .i64 (Zv (Zd0 m) 3))).set 19 (.bool (Zv m 32 != 0))) l):=by
 have a1:=Z2 P hP
 have a3:=fun L=>Zat P hP 18 19 (by omega) rfl L (.int .i64 (Zv (Zd0 m) 3))
 have hP1:(P.set 18 (.int .i64 (Zv (Zd0 m) 3))).length=26:=by simp [hP]
 have b1:=Z2 _ hP1
 have b3:=fun L=>Zat _ hP1 19 20 (by omega) rfl L (.bool (Zv m 32 != 0))
 have z:¬(8:Int)=0:=by decide
 unfold Zg ZcI
 unfold Zv Zd0 at *
 simp -implicitDefEqProofs only [EQA,ZG,Nat.reduceAdd,Nat.reduceLT,Nat.reduceLeDiff,Nat.reduceEqDiff,reduceCtorEq,↓reduceIte,cn7,a1,a3,b1,b3,z]
theorem ZGX {n:Int} {r:Zb} (h:Zaz 2 l=.ok (n,r)):evC FC PR BY 1 cn9 t20 (Zg P l)=some (.normal,t20,Zg (P.set 13 (.int .i64 n)) r):=by
 have hT:=fun σ site hs=>ZcO P hP hN l hl σ 0 site hs (m:=2) rfl h
 have a1:=Z2 P hP
 have a3:=Zat P hP 13 14 (by omega) rfl
 unfold Zg t20
 simp -implicitDefEqProofs only [EQA,ZG,Nat.reduceAdd,Nat.reduceLT,Nat.reduceLeDiff,Nat.reduceEqDiff,reduceCtorEq,↓reduceIte,cn9,hT,a1,a3]
theorem ZGT {c:Int} (h:Zaz 2 l=.error c):evC FC PR BY 1 cn9 t20 (Zg P l)=some (.panic (Zy c),[],Zg P l):=by
 have hT:=fun σ site hs=>Zfk P hP hN l hl σ 0 site hs (m:=2) rfl (by decide) h
 unfold Zg t20
 simp -implicitDefEqProofs only [EQA,Nat.reduceLT,reduceCtorEq,↓reduceIte,cn9,hT]
theorem ZDm (hu:(Z0 1 l).2.1≤l.length) {a:List Zu} {r:Zb} (h:Zbs 1 l=.ok (a,r)):evC FC PR BY 1 Zhi t20 (Zg P l)=some (.normal,t20,Zg (P.set 9 (.lst false (a.map Zo))) r):=by
 have hT:=fun σ site hs=>ZdY P hP hN l hl σ 0 site hs hu h
 have a1:=Z2 P hP
 have a3:=Zat P hP 9 10 (by omega) rfl
 unfold Zg t20
 simp -implicitDefEqProofs only [EQA,ZG,Nat.reduceAdd,Nat.reduceLT,Nat.reduceLeDiff,Nat.reduceEqDiff,reduceCtorEq,↓reduceIte,Zhi,hT,a1,a3]
theorem ZFY {c:Int} (h:Zbs 1 l=.error c):evC FC PR BY 1 Zhi t20 (Zg P l)=some (.panic (Zy c),[],Zg P l):=by
 have hT:=fun σ site hs=>Zfl P hP hN l hl σ 0 site hs h
 unfold Zg t20
 simp -implicitDefEqProofs only [EQA,Nat.reduceLT,reduceCtorEq,↓reduceIte,Zhi,hT]
theorem ZD2 {a r:Zb} (h:Zan l=.ok (a,r)):evC FC PR BY 1 ZhT t20 (Zg P l)=some (.normal,t20,Zg (P.set 14 (.str a)) r):=by
 have hT:=fun σ site hs=>Zd1 P hP hN l hl σ 0 site hs h
 have a1:=Z2 P hP
 have a3:=Zat P hP 14 15 (by omega) rfl
 unfold Zg t20
 simp -implicitDefEqProofs only [EQA,ZG,Nat.reduceAdd,Nat.reduceLT,Nat.reduceLeDiff,Nat.reduceEqDiff,reduceCtorEq,↓reduceIte,ZhT,hT,a1,a3]
theorem ZLK {c:Int} (h:Zan l=.error c):evC FC PR BY 1 ZhT t20 (Zg P l)=some (.panic (Zy c),[],Zg P l):=by
 have hT:=fun σ site hs=>Zgy P hP hN l hl σ 0 site hs h
 unfold Zg t20
 simp -implicitDefEqProofs only [EQA,Nat.reduceLT,reduceCtorEq,↓reduceIte,ZhT,hT]
end
def ZhZ (m q:Int) (hw rt:Bool):Bool:=(Zv m 1 == 0) && decide (q < 3) && (hw || ((q == 0) && !rt))
section
variable (P:List AVal) (hP:P.length=26) (hN:Zd P=true) (l:Zb) (hl:l.length≤140737488355328)
variable (m q:Int) (hw rt:Bool) (h15:P[15]?=some (.bool hw)) (h18:P[18]?=some (.int .i64 q)) (h19:P[19]?=some (.bool rt))
include hP hN hl h15 h18 h19
theorem ZDd (h:ZhZ m q hw rt=true):evC FC PR BY 1 cn8 (ZcI m) (Zg P l)=some (.normal,t20,Zg P l):=by
 have a4:=fun L=>(Z5 P hP 15 (by omega) L).trans h15
 have a5:=fun L=>(Z5 P hP 18 (by omega) L).trans h18
 have a6:=fun L=>(Z5 P hP 19 (by omega) L).trans h19
 have m1:=Za9
 unfold ZhZ Zv at h
 simp only [Bool.and_eq_true,decide_eq_true_eq,Bool.or_eq_true] at h
 obtain ⟨⟨e1,e2⟩,e3⟩:=h
 unfold Zg ZcI t20
 cases hw
 ·simp only [Bool.false_eq_true,false_or] at e3
  obtain ⟨e3,e4⟩:=e3
  cases rt
  ·simp -implicitDefEqProofs only [EQA,Nat.reduceAdd,Nat.reduceLT,Nat.reduceEqDiff,unA,Zz,unG,ne_eq,Option.some.injEq,reduceCtorEq,decide_true,decide_false,↓reduceIte,cn8,a4,a5,a6,m1,e1,e2,e3]
  ·cases e4
 ·simp -implicitDefEqProofs only [EQA,Nat.reduceAdd,Nat.reduceLT,Nat.reduceEqDiff,Zz,Zau,unG,ne_eq,Option.some.injEq,reduceCtorEq,decide_true,decide_false,↓reduceIte,cn8,a4,a5,m1,e1,e2]
theorem ZKA (h:ZhZ m q hw rt=false):evC FC PR BY 1 cn8 (ZcI m) (Zg P l)=some (.panic (Zy 129),[],Zg P l):=by
 have a4:=fun L=>(Z5 P hP 15 (by omega) L).trans h15
 have a5:=fun L=>(Z5 P hP 18 (by omega) L).trans h18
 have a6:=fun L=>(Z5 P hP 19 (by omega) L).trans h19
 have m1:=ZbA
 unfold ZhZ Zv at h
 unfold Zg ZcI
 by_cases e1:(IntKind.i64.wrap (BitVec.ofInt IntKind.i64.bits m &&& BitVec.ofInt IntKind.i64.bits 1).toNat == 0)=true
 ·rw [e1] at h
  by_cases e2:q < 3
  ·cases hw
   ·by_cases e3:(q == 0)=true
    ·cases rt
     ·simp [e2,e3] at h
     ·simp -implicitDefEqProofs only [EQA,Nat.reduceAdd,Nat.reduceLT,Nat.reduceEqDiff,unA,Zz,unG,ne_eq,Option.some.injEq,reduceCtorEq,decide_true,decide_false,↓reduceIte,cn8,a4,a5,a6,m1,e1,e2,e3]
    ·have e3:=Bool.not_eq_true _ |>.mp e3
     simp -implicitDefEqProofs only [EQA,Nat.reduceAdd,Nat.reduceLT,Nat.reduceEqDiff,Zz,Zau,unG,ne_eq,Option.some.injEq,reduceCtorEq,decide_true,decide_false,↓reduceIte,cn8,a4,a5,m1,e1,e2,e3]
   ·simp [e2] at h
  ·simp -implicitDefEqProofs only [EQA,Nat.reduceAdd,Nat.reduceLT,Nat.reduceEqDiff,Zz,Zau,unG,ne_eq,Option.some.injEq,reduceCtorEq,decide_false,↓reduceIte,cn8,a5,m1,e1,e2]
 ·have e1:=Bool.not_eq_true _ |>.mp e1
  simp -implicitDefEqProofs only [EQA,Nat.reduceLT,Nat.reduceEqDiff,Zz,Zau,ne_eq,Option.some.injEq,reduceCtorEq,decide_false,↓reduceIte,cn8,m1,e1]
end
def Zc5 (n:Nat):Tms:=[(n,.bool false),(2,.ref 0 0),(0,.ref 0 0)]
def Zg5 (P:List AVal) (ps:List Zu) (tp d:Zb):List AVal:=((P.set 20 (.lst false (ps.map Zo))).set 16 (.str tp)).set 17 (.lst false (d.map Zc))
def Zc8 (l:Zb):Except Int (List Zu×Zb×Zb×Zb):=match Zbs 16 l with
 | .error c=>.error c
 | .ok (ps,r1)=>match Zan r1 with
  | .error c=>.error c
  | .ok (tp,r2)=>match ZcC r2 with
   | .error c=>.error c
   | .ok (d,r3)=>.ok (ps,tp,d,r3)
section
variable (P:List AVal) (hP:P.length=26) (hN:Zd P=true) (l:Zb) (hl:l.length≤140737488355328)
include hP hN hl
theorem ZIn (h15:P[15]?=some (.bool false)):evC FC PR BY 1 Zd7 t20 (Zg P l)=some (.normal,Zc5 107,Zg P l):=by
 have a4:=fun L=>(Z5 P hP 15 (by omega) L).trans h15
 unfold Zg t20 Zc5
 simp -implicitDefEqProofs only [EQA,Nat.reduceLT,Nat.reduceEqDiff,reduceCtorEq,↓reduceIte,Zd7,a4]
theorem ZIK (h15:P[15]?=some (.bool true)) (hu:(Z0 16 l).2.1≤l.length) {ps:List Zu} {tp d r:Zb} (h:Zc8 l=.ok (ps,tp,d,r)):evC FC PR BY 1 Zd7 t20 (Zg P l)=some (.normal,t20,Zg (Zg5 P ps tp d) r):=by
 have a1:=Z2 P hP
 have a4:=fun L=>(Z5 P hP 15 (by omega) L).trans h15
 unfold Zc8 at h
 split at h
 ·cases h
 rename_i ps' r1 hp
 split at h
 ·cases h
 rename_i tp' r2 ht
 split at h
 ·cases h
 rename_i d' r3 hd
 have l1:=ZgN hp
 have l2:=ZdH ht
 injection h with h;injection h with e1 h;injection h with e2 h;injection h with e3 e4;subst e1 e2 e3 e4
 have hG:=fun σ site hs=>ZdY P hP hN l hl σ 0 site hs hu hp
 have a3:=fun L=>Zat P hP 20 21 (by omega) rfl L (.lst false (ps'.map Zo))
 unfold Zg5
 have hP1:(P.set 20 (.lst false (ps'.map Zo))).length=26:=by simp [hP]
 have hN1:Zd (P.set 20 (.lst false (ps'.map Zo)))=true:=ZP (Zb9 _ _) 20 hN
 generalize P.set 20 (.lst false (ps'.map Zo))=Q at *
 have hT:=fun σ site hs=>Zd1 Q hP1 hN1 r1 (by omega) σ 0 site hs ht
 have b1:=Z2 _ hP1
 have b3:=fun L=>Zat _ hP1 16 17 (by omega) rfl L (.str tp')
 have hP2:(Q.set 16 (.str tp')).length=26:=by simp [hP1]
 have hN2:Zd (Q.set 16 (.str tp'))=true:=ZP rfl 16 hN1
 generalize Q.set 16 (.str tp')=R at *
 have hD:=fun σ site hs=>Zu3 R hP2 hN2 r2 (by omega) σ 0 site hs hd
 have c1:=Z2 _ hP2
 have c3:=Zat _ hP2 17 18 (by omega) rfl
 unfold Zg t20
 simp -implicitDefEqProofs only [EQA,ZG,Nat.reduceAdd,Nat.reduceLT,Nat.reduceLeDiff,Nat.reduceEqDiff,reduceCtorEq,↓reduceIte,Zd7,a1,a3,a4,b1,b3,c1,c3,hG,hT,hD]
theorem ZJ8 (h15:P[15]?=some (.bool true)) (hu:(Z0 16 l).2.1≤l.length) {c:Int} (h:Zc8 l=.error c):∃ cs,Zd cs=true∧evC FC PR BY 1 Zd7 t20 (Zg P l)=some (.panic (Zy c),[],[.var cs]):=by
 have a1:=Z2 P hP
 have a4:=fun L=>(Z5 P hP 15 (by omega) L).trans h15
 unfold Zc8 at h
 split at h
 ·rename_i c' hp
  injection h with h;subst h
  have hG:=fun σ site hs=>Zfl P hP hN l hl σ 0 site hs hp
  refine ⟨P++[.lst false (l.map Zc)],Zw P hP hN _ _,?_⟩
  unfold Zg t20
  simp -implicitDefEqProofs only [EQA,Nat.reduceLT,Nat.reduceEqDiff,reduceCtorEq,↓reduceIte,Zd7,a4,hG]
 rename_i ps' r1 hp
 have l1:=ZgN hp
 have hG:=fun σ site hs=>ZdY P hP hN l hl σ 0 site hs hu hp
 have a3:=fun L=>Zat P hP 20 21 (by omega) rfl L (.lst false (ps'.map Zo))
 have hP1:(P.set 20 (.lst false (ps'.map Zo))).length=26:=by simp [hP]
 have hN1:Zd (P.set 20 (.lst false (ps'.map Zo)))=true:=ZP (Zb9 _ _) 20 hN
 generalize P.set 20 (.lst false (ps'.map Zo))=Q at *
 have b1:=Z2 _ hP1
 split at h
 ·rename_i c' ht
  injection h with h;subst h
  have hT:=fun σ site hs=>Zgy Q hP1 hN1 r1 (by omega) σ 0 site hs ht
  refine ⟨Q++[.lst false (r1.map Zc)],Zw Q hP1 hN1 _ _,?_⟩
  unfold Zg t20
  simp -implicitDefEqProofs only [EQA,ZG,Nat.reduceAdd,Nat.reduceLT,Nat.reduceLeDiff,Nat.reduceEqDiff,reduceCtorEq,↓reduceIte,Zd7,a1,a3,a4,hG,hT]
 rename_i tp' r2 ht
 have l2:=ZdH ht
 have hT:=fun σ site hs=>Zd1 Q hP1 hN1 r1 (by omega) σ 0 site hs ht
 have b3:=fun L=>Zat _ hP1 16 17 (by omega) rfl L (.str tp')
 have hP2:(Q.set 16 (.str tp')).length=26:=by simp [hP1]
 have hN2:Zd (Q.set 16 (.str tp'))=true:=ZP rfl 16 hN1
 generalize Q.set 16 (.str tp')=R at *
 split at h
 ·rename_i c' hd
  injection h with h;subst h
  have hD:=fun σ site hs=>Zqf R hP2 hN2 r2 (by omega) σ 0 site hs hd
  refine ⟨R++[.lst false (r2.map Zc)],Zw R hP2 hN2 _ _,?_⟩
  unfold Zg t20
  simp -implicitDefEqProofs only [EQA,ZG,Nat.reduceAdd,Nat.reduceLT,Nat.reduceLeDiff,Nat.reduceEqDiff,reduceCtorEq,↓reduceIte,Zd7,a1,a3,a4,b1,b3,hG,hT,hD]
 ·cases h
theorem Zwp {tm:Tms} (ht:tm=t20∨tm=Zc5 107) (h21:P[21]?=some (.bool false)):evC FC PR BY 1 ZeC tm (Zg P l)=some (.normal,Zc5 129,Zg P l):=by
 have a4:=fun L=>(Z5 P hP 21 (by omega) L).trans h21
 rcases ht with rfl | rfl <;> unfold Zg Zc5 <;> try unfold t20
 all_goals simp -implicitDefEqProofs only [EQA,Nat.reduceLT,Nat.reduceEqDiff,reduceCtorEq,↓reduceIte,ZeC,a4]
theorem Zv5 {tm:Tms} (htm:tm=t20∨tm=Zc5 107) (h21:P[21]?=some (.bool true)) {a r:Zb} (h:Zan l=.ok (a,r)):evC FC PR BY 1 ZeC tm (Zg P l)=some (.normal,t20,Zg (P.set 22 (.str a)) r):=by
 have a1:=Z2 P hP
 have a4:=fun L=>(Z5 P hP 21 (by omega) L).trans h21
 have hT:=fun σ site hs=>Zd1 P hP hN l hl σ 0 site hs h
 have a3:=Zat P hP 22 23 (by omega) rfl
 rcases htm with rfl | rfl <;> unfold Zg t20 <;> try unfold Zc5
 all_goals simp -implicitDefEqProofs only [EQA,ZG,Nat.reduceAdd,Nat.reduceLT,Nat.reduceLeDiff,Nat.reduceEqDiff,reduceCtorEq,↓reduceIte,ZeC,a1,a3,a4,hT]
theorem ZvR {tm:Tms} (htm:tm=t20∨tm=Zc5 107) (h21:P[21]?=some (.bool true)) {c:Int} (h:Zan l=.error c):evC FC PR BY 1 ZeC tm (Zg P l)=some (.panic (Zy c),[],Zg P l):=by
 have a4:=fun L=>(Z5 P hP 21 (by omega) L).trans h21
 have hT:=fun σ site hs=>Zgy P hP hN l hl σ 0 site hs h
 rcases htm with rfl | rfl <;> unfold Zg <;> first | unfold Zc5 | unfold t20
 all_goals simp -implicitDefEqProofs only [EQA,Nat.reduceLT,Nat.reduceEqDiff,reduceCtorEq,↓reduceIte,ZeC,a4,hT]
theorem Zyr {tm:Tms} {b:Bool} (htm:tm=t20∨tm=Zc5 129) (h23:P[23]?=some (.bool b)):evC FC PR BY 1 ZgB tm (Zg P l)=some (.normal,[(138,.bool b),(2,.ref 0 0),(0,.ref 0 0)],Zg P l):=by
 have a4:=fun L=>(Z5 P hP 23 (by omega) L).trans h23
 rcases htm with rfl | rfl <;> unfold Zg <;> first | unfold Zc5 | unfold t20
 all_goals simp -implicitDefEqProofs only [EQA,Nat.reduceLT,Nat.reduceEqDiff,reduceCtorEq,↓reduceIte,ZgB,a4]
theorem ZxT:KRun ZdQ [(138,.bool false),(2,.ref 0 0),(0,.ref 0 0)] P l (.ok (P,l)):=by
 refine ⟨[(138,.bool false),(2,.ref 0 0),(0,.ref 0 0)],?_,hP,hN,Nat.le_refl _⟩
 unfold Zg
 simp -implicitDefEqProofs only [ZrL,eq_self,Opd.ev,tget,Bool.false_eq_true,↓reduceIte,ZdQ]
theorem ZJ9 {a r:Zb} (h:ZcC l=.ok (a,r)):KRun ZdQ [(138,.bool true),(2,.ref 0 0),(0,.ref 0 0)] P l (.ok (P.set 24 (.lst false (a.map Zc)),r)):=by
 have a1:=Z2 P hP
 have hT:=fun σ site hs=>Zu3 P hP hN l hl σ 0 site hs h
 have a3:=Zat P hP 24 25 (by omega) rfl
 refine ⟨[],?_,by simp [hP],ZP (Zb9 _ _) 24 hN,ZqF h⟩
 unfold Zg
 simp -implicitDefEqProofs only [EQA,ZG,Nat.reduceAdd,Nat.reduceLT,Nat.reduceLeDiff,Nat.reduceEqDiff,reduceCtorEq,↓reduceIte,ZdQ,a1,a3,hT]
theorem ZxZ {c:Int} (h:ZcC l=.error c):KRun ZdQ [(138,.bool true),(2,.ref 0 0),(0,.ref 0 0)] P l (.error c):=by
 have hT:=fun σ site hs=>Zqf P hP hN l hl σ 0 site hs h
 refine ⟨[],[],P++[.lst false (l.map Zc)],Zw P hP hN _ _,?_⟩
 unfold Zg
 simp -implicitDefEqProofs only [EQA,Nat.reduceLT,Nat.reduceEqDiff,reduceCtorEq,↓reduceIte,ZdQ,hT]
end
def ZbG (P:List AVal) (m:Int):List AVal:=((((((P.set 12 (.bool (Zv m 2 != 0))).set 15 (.bool (Zv m 4 != 0))).set 23 (.bool (Zv m 64 != 0))).set 21 (.bool (Zv m 128 != 0))).set 18 (.int .i64 (Zv (Zd0 m) 3))).set 19 (.bool (Zv m 32 != 0)))
def Zjb (P:List AVal) (k:Int) (ps:List Zu) (cl:Zb):List AVal:=((P.set 13 (.int .i64 k)).set 9 (.lst false (ps.map Zo))).set 14 (.str cl)
def ZgV (b:Bool) (s:KSt):Except Int KSt:=if b=true then (match ZcC s.2 with
 | .error c=>.error c
 | .ok (d,r)=>.ok (s.1.set 24 (.lst false (d.map Zc)),r)) else .ok s
def Zhl (b:Bool) (s:KSt):Except Int KSt:=if b=true then (match Zan s.2 with
 | .error c=>.error c
 | .ok (d,r)=>.ok (s.1.set 22 (.str d),r)) else .ok s
def Zjf (b:Bool) (s:KSt):Except Int KSt:=if b=true then (match Zc8 s.2 with
 | .error c=>.error c
 | .ok (ps,tp,d,r)=>.ok (Zg5 s.1 ps tp d,r)) else .ok s
def ZiE (m:Int) (s:KSt):Except Int KSt:=match Zjf (Zv m 4 != 0) s with
 | .error c=>.error c
 | .ok s=>match Zhl (Zv m 128 != 0) s with
  | .error c=>.error c
  | .ok s=>ZgV (Zv m 64 != 0) s
def Zh5 (P:List AVal) (m:Int) (l:Zb):Except Int KSt:=match Zaz 2 l with
 | .error c=>.error c
 | .ok (k,r4)=>match Zbs 1 r4 with
  | .error c=>.error c
  | .ok (ps,r5)=>match Zan r5 with
   | .error c=>.error c
   | .ok (cl,r6)=>ZiE m (Zjb (ZbG P m) k ps cl,r6)
def ZiZ (P:List AVal) (l:Zb):Except Int KSt:=match Zan l with
 | .error c=>.error c
 | .ok (s,r1)=>if (s == [77,81,84,84])=true then (match Zaz 1 r1 with
  | .error c=>.error c
  | .ok (v,r2)=>if (v == 5)=true then (match Zaz 1 r2 with
   | .error c=>.error c
   | .ok (m,r3)=>if ZhZ m (Zv (Zd0 m) 3) (Zv m 4 != 0) (Zv m 32 != 0)=true then Zh5 P m r3 else .error 129)
   else .error 132)
  else .error 132
theorem ZsJ (P:List AVal) (hP:P.length=26) (hN:Zd P=true) (l:Zb) (hl:l.length≤140737488355328) {tm:Tms} {b:Bool} (htm:tm=t20∨tm=Zc5 129) (h23:P[23]?=some (.bool b)):KRun (.seq ZgB ZdQ) tm P l (ZgV b (P,l)):=by
 refine KRun.seqT (Zyr P hP hN l hl htm h23) (Nat.le_refl _) ?_
 unfold ZgV
 cases b
 ·exact ZxT P hP hN l hl
 ·rw [if_pos rfl]
  cases h:ZcC l with
  | error c=>exact ZxZ P hP hN l hl h
  | ok a=>exact ZJ9 P hP hN l hl h
theorem Zso (P:List AVal) (hP:P.length=26) (hN:Zd P=true) (l:Zb) (hl:l.length≤140737488355328) {tm:Tms} {b bp:Bool} (htm:tm=t20∨tm=Zc5 107) (h21:P[21]?=some (.bool b)) (h23:P[23]?=some (.bool bp)):KRun (.seq ZeC (.seq ZgB ZdQ)) tm P l (match Zhl b (P,l) with
  | .error c=>.error c
  | .ok s=>ZgV bp s):=by
 unfold Zhl
 cases b
 ·rw [if_neg (by simp)]
  refine KRun.seqT (Zwp P hP hN l hl htm h21) (Nat.le_refl _) ?_
  exact ZsJ P hP hN l hl (Or.inr rfl) h23
 ·rw [if_pos rfl]
  cases h:Zan l with
  | error c=>exact KRun.seqF (Zw P hP hN _ _) (ZvR P hP hN l hl htm h21 h)
  | ok a =>
   have hr:=ZdH h
   refine KRun.seqT (Zv5 P hP hN l hl htm h21 h) hr ?_
   exact ZsJ _ (by simp [hP]) (ZP rfl 22 hN) a.2 (by omega) (Or.inl rfl) (by rw [List.getElem?_set_ne (by omega)];exact h23)
theorem ZFe {l:Zb} {ps:List Zu} {tp d r:Zb} (h:Zc8 l=.ok (ps,tp,d,r)):r.length≤l.length:=by
 unfold Zc8 at h
 split at h
 ·cases h
 rename_i h1
 split at h
 ·cases h
 rename_i h2
 split at h
 ·cases h
 rename_i h3
 injection h with h;injection h with e1 h;injection h with e2 h;injection h with e3 e4;subst e4
 have:=ZgN h1;have:=ZdH h2;have:=ZqF h3
 omega
theorem ZCI (P:List AVal) (hP:P.length=26) (hN:Zd P=true) (l:Zb) (hl:l.length≤140737488355328) {m:Int} (hu:(Z0 16 l).2.1≤l.length) (h15:P[15]?=some (.bool (Zv m 4 != 0))) (h21:P[21]?=some (.bool (Zv m 128 != 0))) (h23:P[23]?=some (.bool (Zv m 64 != 0))):KRun (.seq Zd7 (.seq ZeC (.seq ZgB ZdQ))) t20 P l (ZiE m (P,l)):=by
 unfold ZiE Zjf
 cases hb:(Zv m 4 != 0)
 ·rw [hb] at h15
  rw [if_neg (by simp)]
  refine KRun.seqT (ZIn P hP hN l hl h15) (Nat.le_refl _) ?_
  exact Zso P hP hN l hl (Or.inr rfl) h21 h23
 ·rw [hb] at h15
  rw [if_pos rfl]
  cases h:Zc8 l with
  | error c =>
   obtain ⟨cs,h1,h2⟩:=ZJ8 P hP hN l hl h15 hu h
   exact KRun.seqF h1 h2
  | ok a =>
   obtain ⟨ps,tp,d,r⟩:=a
   have hr:=ZFe h
   refine KRun.seqT (ZIK P hP hN l hl h15 hu h) hr ?_
   refine Zso _ (by simp [hP]) (ZP (Zb9 _ _) 17 (ZP rfl 16 (ZP (Zb9 _ _) 20 hN))) r (by omega) (Or.inl rfl) ?_ ?_
   ·rw [List.getElem?_set_ne (by omega),List.getElem?_set_ne (by omega),List.getElem?_set_ne (by omega)];exact h21
   ·rw [List.getElem?_set_ne (by omega),List.getElem?_set_ne (by omega),List.getElem?_set_ne (by omega)];exact h23
theorem ZFL (P:List AVal) (hP:P.length=26) (hN:Zd P=true) (l:Zb) (hl:l.length≤140737488355328) {m:Int} (hu1:∀ r:Zb,r.length≤140737488355328→(Z0 1 r).2.1≤r.length) (hu:∀ r:Zb,r.length≤140737488355328→(Z0 16 r).2.1≤r.length):KRun (.seq cn9 (.seq Zhi (.seq ZhT (.seq Zd7 (.seq ZeC (.seq ZgB ZdQ)))))) t20 (ZbG P m) l (Zh5 P m l):=by
 have hM:(ZbG P m).length=26:=by simp [ZbG,hP]
 have hMN:Zd (ZbG P m)=true:=ZP rfl _ (ZP rfl _ (ZP rfl _ (ZP rfl _ (ZP rfl _ (ZP rfl _ hN)))))
 have g15:(ZbG P m)[15]?=some (.bool (Zv m 4 != 0)):=by simp [ZbG,hP]
 have g21:(ZbG P m)[21]?=some (.bool (Zv m 128 != 0)):=by simp [ZbG,hP]
 have g23:(ZbG P m)[23]?=some (.bool (Zv m 64 != 0)):=by simp [ZbG,hP]
 unfold Zh5 Zjb
 generalize ZbG P m=M at *
 cases h1:Zaz 2 l with
 | error c=>exact KRun.seqF (Zw M hM hMN _ _) (ZGT M hM hMN l hl h1)
 | ok a =>
 obtain ⟨k,r4⟩:=a
 have l1:=Zgr h1
 refine KRun.seqT (ZGX M hM hMN l hl h1) l1 ?_
 have hM1:(M.set 13 (.int .i64 k)).length=26:=by simp [hM]
 have hN1:Zd (M.set 13 (.int .i64 k))=true:=ZP rfl 13 hMN
 simp only
 cases h2:Zbs 1 r4 with
 | error c=>exact KRun.seqF (Zw _ hM1 hN1 _ _) (ZFY _ hM1 hN1 r4 (by omega) h2)
 | ok a =>
 obtain ⟨ps,r5⟩:=a
 have l2:=ZgN h2
 refine KRun.seqT (ZDm _ hM1 hN1 r4 (by omega) (hu1 r4 (by omega)) h2) l2 ?_
 have hM2:((M.set 13 (.int .i64 k)).set 9 (.lst false (ps.map Zo))).length=26:=by simp [hM]
 have hN2:Zd ((M.set 13 (.int .i64 k)).set 9 (.lst false (ps.map Zo)))=true:=ZP (Zb9 _ _) 9 hN1
 simp only
 cases h3:Zan r5 with
 | error c=>exact KRun.seqF (Zw _ hM2 hN2 _ _) (ZLK _ hM2 hN2 r5 (by omega) h3)
 | ok a =>
 obtain ⟨cl,r6⟩:=a
 have l3:=ZdH h3
 refine KRun.seqT (ZD2 _ hM2 hN2 r5 (by omega) h3) l3 ?_
 refine ZCI _ (by simp [hM]) (ZP rfl 14 hN2) r6 (by omega) (hu r6 (by omega)) ?_ ?_ ?_
 ·rw [List.getElem?_set_ne (by omega),List.getElem?_set_ne (by omega),List.getElem?_set_ne (by omega)];exact g15
 ·rw [List.getElem?_set_ne (by omega),List.getElem?_set_ne (by omega),List.getElem?_set_ne (by omega)];exact g21
 ·rw [List.getElem?_set_ne (by omega),List.getElem?_set_ne (by omega),List.getElem?_set_ne (by omega)];exact g23
theorem Zw5 (P:List AVal) (hP:P.length=26) (hN:Zd P=true) (l:Zb) (hl:l.length≤140737488355328) (hu1:∀ r:Zb,r.length≤140737488355328→(Z0 1 r).2.1≤r.length) (hu:∀ r:Zb,r.length≤140737488355328→(Z0 16 r).2.1≤r.length):KRun Znm [(0,.ref 0 0)] P l (ZiZ P l):=by
 rw [ZAN]
 refine KRun.seqT (ZJV P hP hN l hl) (Nat.le_refl _) ?_
 unfold ZiZ
 cases h1:Zan l with
 | error c=>exact KRun.seqF (Zw _ hP hN _ _) (ZJL P hP hN l hl h1)
 | ok a =>
 obtain ⟨s,r1⟩:=a
 have l1:=ZdH h1
 simp only
 split
 case isFalse hs=>exact KRun.seqF (Zw _ hP hN _ _) (ZyY P hP hN l hl h1 (Bool.not_eq_true _ |>.mp hs))
 rename_i hs
 have hs:=eq_of_beq hs
 subst hs
 refine KRun.seqT (ZGC P hP hN l hl h1) l1 ?_
 cases h2:Zaz 1 r1 with
 | error c=>exact KRun.seqF (Zw _ hP hN _ _) (ZCN P hP hN r1 (by omega) h2)
 | ok a =>
 obtain ⟨v,r2⟩:=a
 have l2:=Zgr h2
 simp only
 split
 case isFalse hs=>exact KRun.seqF (Zw _ hP hN _ _) (ZDr P hP hN r1 (by omega) h2 (Bool.not_eq_true _ |>.mp hs))
 rename_i hs
 have hs:=eq_of_beq hs
 subst hs
 refine KRun.seqT (ZGA P hP hN r1 (by omega) h2) l2 ?_
 cases h3:Zaz 1 r2 with
 | error c=>exact KRun.seqF (Zw _ hP hN _ _) (ZMT P hP hN r2 (by omega) h3)
 | ok a =>
 obtain ⟨m,r3⟩:=a
 have l3:=Zgr h3
 simp only
 refine KRun.seqT (ZJB P hP hN r2 (by omega) h3) l3 ?_
 have l4:r3.length≤140737488355328:=by omega
 refine KRun.seqT (ZCn P hP hN r3 l4 m) (Nat.le_refl _) ?_
 refine KRun.seqT (ZxQ _ (by simp [hP]) (ZP rfl _ (ZP rfl _ hN)) r3 l4 m) (Nat.le_refl _) ?_
 refine KRun.seqT (ZCW _ (by simp [hP]) (ZP rfl _ (ZP rfl _ (ZP rfl _ (ZP rfl _ hN)))) r3 l4 m) (Nat.le_refl _) ?_
 have hM:(ZbG P m).length=26:=by simp [ZbG,hP]
 have hMN:Zd (ZbG P m)=true:=ZP rfl _ (ZP rfl _ (ZP rfl _ (ZP rfl _ (ZP rfl _ (ZP rfl _ hN)))))
 have g15:(ZbG P m)[15]?=some (.bool (Zv m 4 != 0)):=by simp [ZbG,hP]
 have g18:(ZbG P m)[18]?=some (.int .i64 (Zv (Zd0 m) 3)):=by simp [ZbG,hP]
 have g19:(ZbG P m)[19]?=some (.bool (Zv m 32 != 0)):=by simp [ZbG,hP]
 split
 case isFalse hs=>exact KRun.seqF (Zw _ hM hMN _ _) (ZKA _ hM hMN r3 l4 m _ _ _ g15 g18 g19 (Bool.not_eq_true _ |>.mp hs))
 rename_i hs
 refine KRun.seqT (ZDd _ hM hMN r3 l4 m _ _ _ g15 g18 g19 hs) (Nat.le_refl _) ?_
 exact ZFL P hP hN r3 l4 hu1 hu
end Go.Proofs.YtmlkhhidifjjfaaDoor
namespace Go.Proofs.YtmlkhhidifjjfaaDoor
set_option maxHeartbeats 8000000
set_option maxRecDepth 10000
theorem z0b:((((0:Nat):Int)) == 0)=true:=by decide
theorem ZeE {l:Zb} {b:Bool} (h:decide (l.length=0)=b):(((l.length:Nat):Int) == 0)=b:=by
 subst h
 by_cases h:l.length=0
 ·simp [h]
 ·have : ¬((l.length:Nat):Int)=0:=by omega
  simp [h]
section
variable (P:List AVal) (hP:P.length=26) (hN:Zd P=true)
include hP hN
theorem ZwJ (qos:Int) (h0:P[0]?=some (.int .i64 3)) (h2:P[2]?=some (.int .i64 qos)) (h4:P[4]?=some (.int .i64 0)) (hu:∀ r:Zb,r.length≤140737488355328→(Z0 3 r).2.1≤r.length) (l:Zb) (hl:l.length≤140737488355328) {tp:Zb} {n:Int} {ps:List Zu} {pay:Zb} (h:Zej qos l=.ok (tp,n,ps,pay)) :
  E 77 [.ref 0 0] [.var (P++[.lst false (l.map Zc)])]=some (.tup [],[.var ((((P.set 5 (.str tp)).set 4 (.int .i64 n)).set 9 (.lst false (ps.map Zo))).set 6 (.lst false (pay.map Zc))++[.lst true []])]):=by
 have hq:=Zyw P hP hN qos h2 h4 hu l hl h
 have hN':Zd ((((P.set 5 (.str tp)).set 4 (.int .i64 n)).set 9 (.lst false (ps.map Zo))).set 6 (.lst false (pay.map Zc)))=true:=ZP (Zb9 _ _) _ (ZP (Zb9 _ _) _ (ZP rfl _ (ZP rfl _ hN)))
 have hP':((((P.set 5 (.str tp)).set 4 (.int .i64 n)).set 9 (.lst false (ps.map Zo))).set 6 (.lst false (pay.map Zc))).length=26:=by simp [hP]
 generalize (((P.set 5 (.str tp)).set 4 (.int .i64 n)).set 9 (.lst false (ps.map Zo))).set 6 (.lst false (pay.map Zc))=Q at *
 have hG:=fun σ site (hs:(σ:Za)[0]?=some (.var (P++[.lst false (l.map Zc)])))=>Zc4 (O:=E) (byref:=BY) (f:=118) (rest:=[]) (by kernel_rfl) rfl (Zw P hP hN _ _) (ZaC hN' (by rfl)) rfl rfl hq hs site
 have a4:=fun L=>(Z5 P hP 0 (by omega) L).trans h0
 have b2:=Zao Q hP'
 have m1:=Za9
 have z:=z0b
 rw [Zh (by rfl) Zbb]
 simp -implicitDefEqProofs only [EQA,ZG,Zs,Nat.reduceAdd,Nat.reduceLT,Nat.reduceLeDiff,Nat.reduceEqDiff,Nat.reduceBEq,↓reduceIte,Zd,Zbe,Za8,Zek,oI,oN,a4,b2,hG,m1,Int.reduceBEq,z]
 exact ZX rfl (ZaC hN' (by rfl))
theorem ZAJ (qos:Int) (h0:P[0]?=some (.int .i64 3)) (h2:P[2]?=some (.int .i64 qos)) (l:Zb) (hl:l.length≤140737488355328) {c:Int} (h:Zej qos l=.error c) :
  ∃ cs,Zd cs=true∧E 77 [.ref 0 0] [.var (P++[.lst false (l.map Zc)])]=some (.pan (Zy c),[.var cs]):=by
 obtain ⟨cs,hn,he⟩:=ZKJ P hP hN qos h2 l hl h
 have hG:=fun σ site (hs:(σ:Za)[0]?=some (.var (P++[.lst false (l.map Zc)])))=>Zct (O:=E) (byref:=BY) (f:=118) (view:=true) (rest:=[]) (by kernel_rfl) rfl (Zw P hP hN _ _) hn rfl he hs site
 have a4:=fun L=>(Z5 P hP 0 (by omega) L).trans h0
 refine ⟨cs,hn,?_⟩
 rw [Zh (by rfl) Zbb]
 simp -implicitDefEqProofs only [EQA,ZG,Nat.reduceAdd,Nat.reduceLT,Nat.reduceLeDiff,Nat.reduceEqDiff,Nat.reduceBEq,↓reduceIte,Zbe,Za8,oI,oN,a4,hG,Int.reduceBEq]
 exact ZX rfl hn
theorem ZCt (h0:P[0]?=some (.int .i64 1)) (l:Zb) (hl:l.length≤140737488355328) {Q:List AVal} {r:Zb} (hq:E 114 [.ref 0 0] (Zg P l)=some (.tup [],Zg Q r)) (hQ:Q.length=26) (hQN:Zd Q=true) (hr:r.length=0) :
  E 77 [.ref 0 0] (Zg P l)=some (.tup [],Zg Q r):=by
 unfold Zg at *
 have hG:=fun σ site (hs:(σ:Za)[0]?=some (.var (P++[.lst false (l.map Zc)])))=>Zc4 (O:=E) (byref:=BY) (f:=114) (rest:=[]) (by kernel_rfl) rfl (Zw P hP hN _ _) (ZaC hQN (by rfl)) rfl rfl hq hs site
 have a4:=fun L=>(Z5 P hP 0 (by omega) L).trans h0
 have b2:=Zao Q hQ
 have m1:=Za9
 have z:=ZeE (l:=r) (decide_eq_true hr)
 rw [Zh (by rfl) Zbb]
 simp -implicitDefEqProofs only [EQA,ZG,Zs,Nat.reduceAdd,Nat.reduceLT,Nat.reduceLeDiff,Nat.reduceEqDiff,Nat.reduceBEq,↓reduceIte,Zd,Zbe,Za8,Zek,oI,oN,a4,b2,hG,m1,z]
 exact ZX rfl (ZaC hQN (by rfl))
theorem ZJq (h0:P[0]?=some (.int .i64 1)) (l:Zb) (hl:l.length≤140737488355328) {Q:List AVal} {r:Zb} (hq:E 114 [.ref 0 0] (Zg P l)=some (.tup [],Zg Q r)) (hQ:Q.length=26) (hQN:Zd Q=true) (hr:¬r.length=0) :
  E 77 [.ref 0 0] (Zg P l)=some (.pan (Zy 129),Zg Q r):=by
 unfold Zg at *
 have hG:=fun σ site (hs:(σ:Za)[0]?=some (.var (P++[.lst false (l.map Zc)])))=>Zc4 (O:=E) (byref:=BY) (f:=114) (rest:=[]) (by kernel_rfl) rfl (Zw P hP hN _ _) (ZaC hQN (by rfl)) rfl rfl hq hs site
 have a4:=fun L=>(Z5 P hP 0 (by omega) L).trans h0
 have b2:=Zao Q hQ
 have m1:=ZbA
 have z:=ZeE (l:=r) (decide_eq_false hr)
 rw [Zh (by rfl) Zbb]
 simp -implicitDefEqProofs only [EQA,ZG,Nat.reduceAdd,Nat.reduceLT,Nat.reduceLeDiff,Nat.reduceEqDiff,Nat.reduceBEq,↓reduceIte,Zbe,Za8,oI,oN,a4,b2,hG,m1,z]
 exact ZX rfl (ZaC hQN (by rfl))
theorem ZB9 (h0:P[0]?=some (.int .i64 1)) (l:Zb) (hl:l.length≤140737488355328) {cs:List AVal} {c:Int} (hn:Zd cs=true) (he:E 114 [.ref 0 0] (Zg P l)=some (.pan (Zy c),[.var cs])) :
  E 77 [.ref 0 0] (Zg P l)=some (.pan (Zy c),[.var cs]):=by
 unfold Zg at *
 have hG:=fun σ site (hs:(σ:Za)[0]?=some (.var (P++[.lst false (l.map Zc)])))=>Zct (O:=E) (byref:=BY) (f:=114) (view:=true) (rest:=[]) (by kernel_rfl) rfl (Zw P hP hN _ _) hn rfl he hs site
 have a4:=fun L=>(Z5 P hP 0 (by omega) L).trans h0
 rw [Zh (by rfl) Zbb]
 simp -implicitDefEqProofs only [EQA,ZG,Nat.reduceAdd,Nat.reduceLT,Nat.reduceLeDiff,Nat.reduceEqDiff,Nat.reduceBEq,↓reduceIte,Zbe,Za8,oI,oN,a4,hG]
 exact ZX rfl hn
end
end Go.Proofs.YtmlkhhidifjjfaaDoor
namespace Go.Proofs.YtmlkhhidifjjfaaDoor
set_option maxHeartbeats 8000000
set_option maxRecDepth 10000
def ZdK (P:List AVal) (c:Int) (ps:Option (List Zu)):List AVal:=(P.set 7 (.int .i64 c)).set 9 (ZeO ps)
theorem Zjy {P:List AVal} (hP:P.length=26) (hN:Zd P=true) (c:Int) (ps:Option (List Zu)):(ZdK P c ps).length=26∧Zd (ZdK P c ps)=true :=
 ⟨by simp [ZdK,hP],ZP (by cases ps <;> rfl) 9 (ZP rfl 7 hN)⟩
section
variable (P:List AVal) (hP:P.length=26) (hN:Zd P=true)
include hP hN
theorem ZL6 (k:Int) (hk:k=14∨k=15) (h0:P[0]?=some (.int .i64 k)) (h7:P[7]?=some (.int .i64 0)) (h9:P[9]?=some (.lst true [])) (hu:∀ r:Zb,r.length≤140737488355328→(Z0 k r).2.1≤r.length) (l:Zb) (hl:l.length≤140737488355328) {c:Int} {ps:Option (List Zu)} {r:Zb} (h:Zcf k l=.ok ((c,ps),r)) :
  E 77 [.ref 0 0] (Zg P l)=some (if r.length=0 then .tup [] else .pan (Zy 129),Zg (ZdK P c ps) r):=by
 have hG:=fun σ site hs=>Zra P hP hN l hl σ 0 site hs k h0 h7 h9 hu h
 obtain ⟨hQ,hQN⟩:=Zjy hP hN c ps
 have a4:=fun L=>(Z5 P hP 0 (by omega) L).trans h0
 unfold Zg
 rw [show (P.set 7 (.int .i64 c)).set 9 (ZeO ps)=ZdK P c ps from rfl] at hG
 generalize ZdK P c ps=Q at *
 have b2:=Zao Q hQ
 by_cases hr:r.length=0
 ·have m1:=Za9
  have z:=ZeE (l:=r) (decide_eq_true hr)
  rw [if_pos hr]
  rcases hk with rfl | rfl
  all_goals
   rw [Zh (by rfl) Zbb]
   simp -implicitDefEqProofs only [EQA,ZG,Zs,Nat.reduceAdd,Nat.reduceLT,Nat.reduceLeDiff,Nat.reduceEqDiff,Nat.reduceBEq,↓reduceIte,Zd,Zbe,Za8,Zek,oI,oN,a4,b2,hG,m1,Int.reduceBEq,z]
   exact ZX rfl (ZaC hQN (by rfl))
 ·have m1:=ZbA
  have z:=ZeE (l:=r) (decide_eq_false hr)
  rw [if_neg hr]
  rcases hk with rfl | rfl
  all_goals
   rw [Zh (by rfl) Zbb]
   simp -implicitDefEqProofs only [EQA,ZG,Nat.reduceAdd,Nat.reduceLT,Nat.reduceLeDiff,Nat.reduceEqDiff,Nat.reduceBEq,↓reduceIte,Zbe,Za8,oI,oN,a4,b2,hG,m1,Int.reduceBEq,z]
   exact ZX rfl (ZaC hQN (by rfl))
theorem ZzK (k:Int) (hk:k=14∨k=15) (h0:P[0]?=some (.int .i64 k)) (hu:∀ r:Zb,r.length≤140737488355328→(Z0 k r).2.1≤r.length) (l:Zb) (hl:l.length≤140737488355328) {e:Int} (h:Zcf k l=.error e) :
  ∃ cs,Zd cs=true∧E 77 [.ref 0 0] (Zg P l)=some (.pan (Zy e),[.var cs]):=by
 obtain ⟨cs,hn,he⟩:=ZsM P hP hN k h0 hu l hl h
 have hG:=fun σ site (hs:(σ:Za)[0]?=some (.var (P++[.lst false (l.map Zc)])))=>Zct (O:=E) (byref:=BY) (f:=120) (view:=true) (rest:=[]) (by kernel_rfl) rfl (Zw P hP hN _ _) hn rfl he hs site
 have a4:=fun L=>(Z5 P hP 0 (by omega) L).trans h0
 refine ⟨cs,hn,?_⟩
 unfold Zg
 rcases hk with rfl | rfl
 all_goals
  rw [Zh (by rfl) Zbb]
  simp -implicitDefEqProofs only [EQA,ZG,Nat.reduceAdd,Nat.reduceLT,Nat.reduceLeDiff,Nat.reduceEqDiff,Nat.reduceBEq,↓reduceIte,Zbe,Za8,oI,oN,a4,hG,Int.reduceBEq]
  exact ZX rfl hn
theorem Zue (k:Int) (hk:k=4∨k=5∨k=6∨k=7) (h0:P[0]?=some (.int .i64 k)) (h7:P[7]?=some (.int .i64 0)) (h9:P[9]?=some (.lst true [])) (hu:∀ r:Zb,r.length≤140737488355328→(Z0 k r).2.1≤r.length) (l:Zb) (hl:l.length≤140737488355328) {n:Int} {r1:Zb} (hi:idK l=.ok (n,r1)) {c:Int} {ps:Option (List Zu)} {r:Zb} (h:Zcf k r1=.ok ((c,ps),r)) :
  E 77 [.ref 0 0] (Zg P l)=some (if r.length=0 then .tup [] else .pan (Zy 129),Zg (ZdK (P.set 4 (.int .i64 n)) c ps) r):=by
 have hr1:=Ze7 hi
 have hI:=fun σ site hs=>Zfn P hP hN l hl σ 0 site hs hi
 have hP4:(P.set 4 (.int .i64 n)).length=26:=by simp [hP]
 have hN4:Zd (P.set 4 (.int .i64 n))=true:=ZP rfl 4 hN
 have g0:(P.set 4 (.int .i64 n))[0]?=some (.int .i64 k):=by rw [List.getElem?_set_ne (by omega)];exact h0
 have g7:(P.set 4 (.int .i64 n))[7]?=some (.int .i64 0):=by rw [List.getElem?_set_ne (by omega)];exact h7
 have g9:(P.set 4 (.int .i64 n))[9]?=some (.lst true []):=by rw [List.getElem?_set_ne (by omega)];exact h9
 generalize P.set 4 (.int .i64 n)=S at *
 have hG:=fun σ site hs=>Zra S hP4 hN4 r1 (by omega) σ 0 site hs k g0 g7 g9 hu h
 obtain ⟨hQ,hQN⟩:=Zjy hP4 hN4 c ps
 have a4:=fun L=>(Z5 P hP 0 (by omega) L).trans h0
 unfold Zg
 rw [show (S.set 7 (.int .i64 c)).set 9 (ZeO ps)=ZdK S c ps from rfl] at hG
 generalize ZdK S c ps=Q at *
 have b2:=Zao Q hQ
 by_cases hr:r.length=0
 ·have m1:=Za9
  have z:=ZeE (l:=r) (decide_eq_true hr)
  rw [if_pos hr]
  rcases hk with rfl | rfl | rfl | rfl
  all_goals
   rw [Zh (by rfl) Zbb]
   simp -implicitDefEqProofs only [EQA,ZG,Zs,Nat.reduceAdd,Nat.reduceLT,Nat.reduceLeDiff,Nat.reduceEqDiff,Nat.reduceBEq,↓reduceIte,Zd,Zbe,Za8,Zek,oI,oN,a4,b2,hI,hG,m1,Int.reduceBEq,z]
   exact ZX rfl (ZaC hQN (by rfl))
 ·have m1:=ZbA
  have z:=ZeE (l:=r) (decide_eq_false hr)
  rw [if_neg hr]
  rcases hk with rfl | rfl | rfl | rfl
  all_goals
   rw [Zh (by rfl) Zbb]
   simp -implicitDefEqProofs only [EQA,ZG,Nat.reduceAdd,Nat.reduceLT,Nat.reduceLeDiff,Nat.reduceEqDiff,Nat.reduceBEq,↓reduceIte,Zbe,Za8,oI,oN,a4,b2,hI,hG,m1,Int.reduceBEq,z]
   exact ZX rfl (ZaC hQN (by rfl))
theorem ZyT (k:Int) (hk:k=4∨k=5∨k=6∨k=7) (h0:P[0]?=some (.int .i64 k)) (l:Zb) (hl:l.length≤140737488355328) {e:Int} (h:idK l=.error e) :
  ∃ cs,Zd cs=true∧E 77 [.ref 0 0] (Zg P l)=some (.pan (Zy e),[.var cs]):=by
 obtain ⟨cs,hn,he⟩:=Zjm P hP hN l hl h
 have hG:=fun σ site (hs:(σ:Za)[0]?=some (.var (P++[.lst false (l.map Zc)])))=>Zct (O:=E) (byref:=BY) (f:=119) (view:=true) (rest:=[]) (by kernel_rfl) rfl (Zw P hP hN _ _) hn rfl he hs site
 have a4:=fun L=>(Z5 P hP 0 (by omega) L).trans h0
 refine ⟨cs,hn,?_⟩
 unfold Zg
 rcases hk with rfl | rfl | rfl | rfl
 all_goals
  rw [Zh (by rfl) Zbb]
  simp -implicitDefEqProofs only [EQA,ZG,Nat.reduceAdd,Nat.reduceLT,Nat.reduceLeDiff,Nat.reduceEqDiff,Nat.reduceBEq,↓reduceIte,Zbe,Za8,oI,oN,a4,hG,Int.reduceBEq]
  exact ZX rfl hn
theorem ZEQ (k:Int) (hk:k=4∨k=5∨k=6∨k=7) (h0:P[0]?=some (.int .i64 k)) (hu:∀ r:Zb,r.length≤140737488355328→(Z0 k r).2.1≤r.length) (l:Zb) (hl:l.length≤140737488355328) {n:Int} {r1:Zb} (hi:idK l=.ok (n,r1)) {e:Int} (h:Zcf k r1=.error e) :
  ∃ cs,Zd cs=true∧E 77 [.ref 0 0] (Zg P l)=some (.pan (Zy e),[.var cs]):=by
 have hr1:=Ze7 hi
 have hI:=fun σ site hs=>Zfn P hP hN l hl σ 0 site hs hi
 have hP4:(P.set 4 (.int .i64 n)).length=26:=by simp [hP]
 have hN4:Zd (P.set 4 (.int .i64 n))=true:=ZP rfl 4 hN
 have g0:(P.set 4 (.int .i64 n))[0]?=some (.int .i64 k):=by rw [List.getElem?_set_ne (by omega)];exact h0
 generalize P.set 4 (.int .i64 n)=S at *
 obtain ⟨cs,hn,he⟩:=ZsM S hP4 hN4 k g0 hu r1 (by omega) h
 have hG:=fun σ site (hs:(σ:Za)[0]?=some (.var (S++[.lst false (r1.map Zc)])))=>Zct (O:=E) (byref:=BY) (f:=120) (view:=true) (rest:=[]) (by kernel_rfl) rfl (Zw S hP4 hN4 _ _) hn rfl he hs site
 have a4:=fun L=>(Z5 P hP 0 (by omega) L).trans h0
 refine ⟨cs,hn,?_⟩
 unfold Zg
 rcases hk with rfl | rfl | rfl | rfl
 all_goals
  rw [Zh (by rfl) Zbb]
  simp -implicitDefEqProofs only [EQA,ZG,Nat.reduceAdd,Nat.reduceLT,Nat.reduceLeDiff,Nat.reduceEqDiff,Nat.reduceBEq,↓reduceIte,Zbe,Za8,oI,oN,a4,hI,hG,Int.reduceBEq]
  exact ZX rfl hn
theorem Zvf (k:Int) (hk:k=12∨k=13) (h0:P[0]?=some (.int .i64 k)) (l:Zb):E 77 [.ref 0 0] (Zg P l)=some (if l.length=0 then .tup [] else .pan (Zy 129),Zg P l):=by
 have a4:=fun L=>(Z5 P hP 0 (by omega) L).trans h0
 have b2:=Zao P hP
 unfold Zg
 by_cases hr:l.length=0
 ·have m1:=Za9
  have z:=ZeE (l:=l) (decide_eq_true hr)
  rw [if_pos hr]
  rcases hk with rfl | rfl
  all_goals
   rw [Zh (by rfl) Zbb]
   simp -implicitDefEqProofs only [EQA,ZG,Zs,Nat.reduceAdd,Nat.reduceLT,Nat.reduceLeDiff,Nat.reduceEqDiff,Nat.reduceBEq,↓reduceIte,Zd,Zbe,Za8,Zek,oI,oN,a4,b2,m1,Int.reduceBEq,z]
   exact ZX rfl (Zw P hP hN _ _)
 ·have m1:=ZbA
  have z:=ZeE (l:=l) (decide_eq_false hr)
  rw [if_neg hr]
  rcases hk with rfl | rfl
  all_goals
   rw [Zh (by rfl) Zbb]
   simp -implicitDefEqProofs only [EQA,ZG,Nat.reduceAdd,Nat.reduceLT,Nat.reduceLeDiff,Nat.reduceEqDiff,Nat.reduceBEq,↓reduceIte,Zbe,Za8,oI,oN,a4,b2,m1,Int.reduceBEq,z]
   exact ZX rfl (Zw P hP hN _ _)
end
end Go.Proofs.YtmlkhhidifjjfaaDoor
namespace Go.Proofs.YtmlkhhidifjjfaaDoor
set_option maxHeartbeats 8000000
set_option maxRecDepth 10000
def Zda (k:Int):Int:=if k=6∨k=8∨k=10 then 2 else 0
theorem Zxn (k:Int):E 79 [.int .i64 k] []=some (.int .u8 (Zda k),[]):=by
 unfold Zda
 by_cases h6:k=6
 ·subst h6;rw [Zh (by rfl) ZjF];simp -implicitDefEqProofs only [EQA,Nat.reduceLT,Nat.reduceEqDiff,reduceCtorEq,↓reduceIte,ZlE,Zhz,ZkK,oI]
 by_cases h8:k=8
 ·subst h8;rw [Zh (by rfl) ZjF];simp -implicitDefEqProofs only [EQA,Nat.reduceLT,Nat.reduceEqDiff,reduceCtorEq,↓reduceIte,ZlE,Zhz,ZkK,oI,Int.reduceBEq]
 by_cases h10:k=10
 ·subst h10;rw [Zh (by rfl) ZjF];simp -implicitDefEqProofs only [EQA,Nat.reduceLT,Nat.reduceEqDiff,reduceCtorEq,↓reduceIte,ZlE,Zhz,ZkK,oI,Int.reduceBEq]
 have b6:(k == 6)=false:=by simpa using h6
 have b8:(k == 8)=false:=by simpa using h8
 have b10:(k == 10)=false:=by simpa using h10
 rw [if_neg (by omega),Zh (by rfl) ZjF]
 simp -implicitDefEqProofs only [EQA,Nat.reduceLT,Nat.reduceEqDiff,reduceCtorEq,↓reduceIte,ZlE,Zhz,ZkK,oI,b6,b8,b10]
theorem ZkT (k:Int) (σ:Za) (site own:Nat):Zj E BY σ site 79 own true [.int .i64 k]=some (.int .u8 (Zda k),σ,{}) :=
 Zcp (Zxn k) (by kernel_rfl) (by simp -implicitDefEqProofs only [ZcZ,Zby,eq_self,eq_self]) (by simp -implicitDefEqProofs only [ZG,Zby,eq_self,eq_self]) rfl (fun _=>rfl) _ _ _ _
def tyI (b:Int):Int:=IntKind.i64.wrap (b.fdiv (2 ^ min (Int.toNat 4) IntKind.u8.bits))
def Zbf (a b:Int):Int:=IntKind.u8.wrap (BitVec.ofInt IntKind.u8.bits a &&& BitVec.ofInt IntKind.u8.bits b).toNat
def qoI (b:Int):Int:=IntKind.i64.wrap (Zbf (b.fdiv (2 ^ min (Int.toNat 1) IntKind.u8.bits)) 3)
def ZcQ (P:List AVal) (b:Int):List AVal:=(((P.set 0 (.int .i64 3)).set 1 (.bool (Zbf b 8 != 0))).set 2 (.int .i64 (qoI b))).set 3 (.bool (Zbf b 1 != 0))
section
variable (P:List AVal) (hP:P.length=26) (hN:Zd P=true)
include hP hN
theorem Zlw (L v:AVal):[v]++List.drop 1 (P++[L])=P.set 0 v++[L]:=Zat P hP 0 1 (by omega) rfl L v
theorem ZvX (b:Int) (l:Zb) (h:tyI b=0):E 76 [.ref 0 0,.int .u8 b] (Zg P l)=some (.pan (Zy 129),Zg (P.set 0 (.int .i64 0)) l):=by
 have a1:=Z2 P hP
 have a3:=Zlw P hP hN
 have a4:=ZhS P hP 0 (by omega)
 have m1:=ZbA
 have z:((0:Int) != 0)=false:=by decide
 unfold tyI at h
 unfold Zg
 rw [Zh (by rfl) Zgl]
 simp -implicitDefEqProofs only [EQA,ZG,Nat.reduceLT,Nat.reduceLeDiff,Nat.reduceEqDiff,ZaA,reduceCtorEq,↓reduceIte,ZgM,ZeR,oI,oN,a1,a3,a4,m1,h,z,Int.reduceLT]
 exact ZX rfl (ZaC (ZP rfl _ hN) (by rfl))
theorem ZA3 (b t:Int) (l:Zb) (h:tyI b=t) (h0:¬t=0) (h3:¬t=3) (hf:¬Zbf b 15=Zda t):E 76 [.ref 0 0,.int .u8 b] (Zg P l)=some (.pan (Zy 129),Zg (P.set 0 (.int .i64 t)) l):=by
 have a1:=Z2 P hP
 have a3:=Zlw P hP hN
 have a4:=ZhS P hP 0 (by omega)
 have m0:=Za9
 have m1:=ZbA
 have e0:(t != 0)=true:=by simpa using h0
 have e3:(t != 3)=true:=by simpa using h3
 have ef:(Zbf b 15 == Zda t)=false:=by simpa using hf
 have hC:=ZkT t
 unfold tyI at h
 unfold Zbf at ef
 unfold Zg
 rw [Zh (by rfl) Zgl]
 simp -implicitDefEqProofs only [EQA,ZG,Nat.reduceLT,Nat.reduceLeDiff,Nat.reduceEqDiff,ZaA,reduceCtorEq,↓reduceIte,ZgM,ZeR,oI,oN,a1,a3,a4,m0,m1,h,e0,e3,ef,hC,Int.reduceLT]
 exact ZX rfl (ZaC (ZP rfl _ hN) (by rfl))
theorem ZsS (b t:Int) (l:Zb) (h:tyI b=t) (h0:¬t=0) (h3:¬t=3) (hf:Zbf b 15=Zda t):E 76 [.ref 0 0,.int .u8 b] (Zg P l)=some (.tup [],Zg (P.set 0 (.int .i64 t)) l):=by
 have a1:=Z2 P hP
 have a3:=Zlw P hP hN
 have a4:=ZhS P hP 0 (by omega)
 have m0:=Za9
 have e0:(t != 0)=true:=by simpa using h0
 have e3:(t != 3)=true:=by simpa using h3
 have ef:(Zbf b 15 == Zda t)=true:=by simpa using hf
 have hC:=ZkT t
 unfold tyI at h
 unfold Zbf at ef
 unfold Zg
 rw [Zh (by rfl) Zgl]
 simp -implicitDefEqProofs only [EQA,ZG,Zs,Nat.reduceLT,Nat.reduceLeDiff,Nat.reduceEqDiff,ZaA,reduceCtorEq,↓reduceIte,Zd,ZgM,ZeR,Zpp,oI,oN,a1,a3,a4,m0,h,e0,e3,ef,hC,Int.reduceLT]
 exact ZX rfl (ZaC (ZP rfl _ hN) (by rfl))
theorem ZLC (b:Int) (l:Zb) (h:tyI b=3):E 76 [.ref 0 0,.int .u8 b] (Zg P l)=some (if qoI b < 3 then (if qoI b > 0∨(Zbf b 8 != 0)=false then .tup [] else .pan (Zy 130)) else .pan (Zy 129),Zg (ZcQ P b) l):=by
 have hQ:(ZcQ P b).length=26:=by simp [ZcQ,hP]
 have hQN:Zd (ZcQ P b)=true:=ZP rfl _ (ZP rfl _ (ZP rfl _ (ZP rfl _ hN)))
 have g1:(ZcQ P b)[1]?=some (.bool (Zbf b 8 != 0)):=by simp [ZcQ,hP]
 have g2:(ZcQ P b)[2]?=some (.int .i64 (qoI b)):=by simp [ZcQ,hP]
 have a1:=Z2 P hP
 have a3:=fun L=>Zlw P hP hN L (.int .i64 3)
 have a4:=ZhS P hP 0 (by omega)
 have hP0:(P.set 0 (.int .i64 3)).length=26:=by simp [hP]
 have b1:=Z2 _ hP0
 have b3:=fun L=>Zat _ hP0 1 2 (by omega) rfl L (.bool (Zbf b 8 != 0))
 have hP1:((P.set 0 (.int .i64 3)).set 1 (.bool (Zbf b 8 != 0))).length=26:=by simp [hP]
 have c1:=Z2 _ hP1
 have c3:=fun L=>Zat _ hP1 2 3 (by omega) rfl L (.int .i64 (qoI b))
 have hP2:(((P.set 0 (.int .i64 3)).set 1 (.bool (Zbf b 8 != 0))).set 2 (.int .i64 (qoI b))).length=26:=by simp [hP]
 have d1:=Z2 _ hP2
 have d3:=fun L=>Zat _ hP2 3 4 (by omega) rfl L (.bool (Zbf b 1 != 0))
 rw [show (((P.set 0 (.int .i64 3)).set 1 (.bool (Zbf b 8 != 0))).set 2 (.int .i64 (qoI b))).set 3 (.bool (Zbf b 1 != 0))=ZcQ P b from rfl] at d3
 generalize ZcQ P b=Q at *
 have k1:=fun L=>(Z5 Q hQ 1 (by omega) L).trans g1
 have k2:=fun L=>(Z5 Q hQ 2 (by omega) L).trans g2
 have m0:=Za9
 have m1:=ZbA
 have e0:((3:Int) != 0)=true:=by decide
 have e3:((3:Int) != 3)=false:=by decide
 unfold tyI at h
 unfold Zg
 by_cases hq:qoI b < 3
 ·rw [if_pos hq]
  by_cases hq0:qoI b > 0
  ·rw [if_pos (Or.inl hq0)]
   unfold qoI Zbf at *
   rw [Zh (by rfl) Zgl]
   simp -implicitDefEqProofs only [EQA,ZG,Zs,Nat.reduceAdd,Nat.reduceLT,Nat.reduceLeDiff,Nat.reduceEqDiff,ZaA,Zz,Zau,ne_eq,Option.some.injEq,reduceCtorEq,decide_true,decide_false,↓reduceIte,Zd,ZgM,ZeR,Zpp,oI,oN,a1,a3,a4,b1,b3,c1,c3,d1,d3,k2,m0,h,e0,e3,hq,hq0,Int.reduceLT]
   exact ZX rfl (ZaC hQN (by rfl))
  ·cases hd:(Zbf b 8 != 0)
   ·rw [if_pos (Or.inr rfl)]
    rw [hd] at b3 c1 c3 d1 d3 k1
    unfold qoI Zbf at *
    rw [Zh (by rfl) Zgl]
    simp -implicitDefEqProofs only [EQA,ZG,Zs,Nat.reduceAdd,Nat.reduceLT,Nat.reduceLeDiff,Nat.reduceEqDiff,ZaA,unA,Zz,unG,ne_eq,Option.some.injEq,reduceCtorEq,decide_true,decide_false,↓reduceIte,Zd,ZgM,ZeR,Zpp,oI,oN,a1,a3,a4,b1,b3,c1,c3,d1,d3,k1,k2,m0,h,e0,e3,hq,hq0,hd,Int.reduceLT]
    exact ZX rfl (ZaC hQN (by rfl))
   ·rw [if_neg (by simp [hq0])]
    rw [hd] at b3 c1 c3 d1 d3 k1
    unfold qoI Zbf at *
    rw [Zh (by rfl) Zgl]
    simp -implicitDefEqProofs only [EQA,ZG,Nat.reduceAdd,Nat.reduceLT,Nat.reduceLeDiff,Nat.reduceEqDiff,ZaA,unA,Zz,unG,ne_eq,Option.some.injEq,reduceCtorEq,decide_true,decide_false,↓reduceIte,ZgM,ZeR,oI,oN,a1,a3,a4,b1,b3,c1,c3,d1,d3,k1,k2,m0,m1,h,e0,e3,hq,hq0,hd,Int.reduceLT]
    exact ZX rfl (ZaC hQN (by rfl))
 ·rw [if_neg hq]
  unfold qoI Zbf at *
  rw [Zh (by rfl) Zgl]
  simp -implicitDefEqProofs only [EQA,ZG,Nat.reduceAdd,Nat.reduceLT,Nat.reduceLeDiff,Nat.reduceEqDiff,ZaA,reduceCtorEq,decide_false,↓reduceIte,ZgM,ZeR,oI,oN,a1,a3,a4,b1,b3,c1,c3,d1,d3,k2,m0,m1,h,e0,e3,hq,Int.reduceLT]
  exact ZX rfl (ZaC hQN (by rfl))
end
end Go.Proofs.YtmlkhhidifjjfaaDoor
namespace Go.Proofs.YtmlkhhidifjjfaaDoor
set_option maxHeartbeats 8000000
set_option maxRecDepth 10000
section
variable {σ:Za} {cs xs:List AVal} {g w:Nat}
theorem Zpc {t r:Nat} (hs:σ[t]?=some (.var cs)) (hr:σ[r]?=some (.row g w xs)) (htr:t≠r) (hrf:Zr cs=[r]):ZA σ 1000 [t] []=[t,r]:=by
 have h1:σ.getD t .free=.var cs:=by simp [List.getD_eq_getElem?_getD,hs]
 have h2:σ.getD r .free=.row g w xs:=by simp [List.getD_eq_getElem?_getD,hr]
 have e1:([]:List Nat).contains t=false:=rfl
 have e2:([t]:List Nat).contains r=false:=by simp;exact fun e=>htr e.symm
 rw [show (1000:Nat)=997+1+1+1 from rfl,ZA,e1]
 simp only [Bool.false_eq_true,if_false,h1,ZQ,hrf,List.append_nil,List.nil_append]
 rw [ZA,e2]
 simp only [Bool.false_eq_true,if_false,h2,ZQ,List.nil_append]
 rfl
theorem Zsi {r:AVal} {σ:Za} (hr:ZK r=true) (hrf:Zr cs=[1]) (hg:g≤1) (hren:∀ ρ:Rho,ρ 1 g=some (1,g)→Ze ρ cs=cs):gcA 2 [r] (.var cs::.row g w xs::σ)=([r],[.var cs,.row g w xs]):=by
 have e1:=(Za4 (Zl (.var cs::.row g w xs::σ) 2 [0,1]) r hr)
 have h1:ZE 2 [r] (.var cs::.row g w xs::σ)=[0,1]:=by
  have : Zr [r]=[]:=by simp only [Zr,e1.2,List.append_nil]
  have hR:List.range 2=[0,1]:=rfl
  simp only [ZE,this,List.nil_append,hR,List.flatMap_cons,List.flatMap_nil,List.append_nil,List.getD_cons_zero,List.getD_cons_succ,ZQ,hrf]
  rfl
 have hng:(if g=0 then 0 else 1)=g:=by split <;> omega
 have hρ:Zl (.var cs::.row g w xs::σ) 2 [0,1] 1 g=some (1,g):=by
  simp only [Zl,Z1,Zp,ZU,List.getElem?_cons_succ,List.getElem?_cons_zero]
  simp [hng]
 simp only [gcA,h1,Ze,e1.1,Zx,List.getD_cons_zero,List.getD_cons_succ,ZU,Zp,ZJ,hren _ hρ]
 simp [hng]
theorem Zpv {r:AVal} {σ:Za} (hr:ZK r=true) (hrf:Zr cs=[1]) (hg:g≤1) (hren:∀ ρ:Rho,ρ 1 g=some (1,g)→Ze ρ cs=cs):Zal 2 (.var cs::.row g w xs::σ) r=some (r,[.var cs,.row g w xs]):=by
 simp only [Zal,Zsi hr hrf hg hren]
end
theorem Zcu:∀ (a b:List AVal),Zr (a++b)=Zr a++Zr b
 | [],b=>by simp [Zr]
 | x::a,b=>by simp [Zr,Zcu a b,List.append_assoc]
theorem ZbS (ρ:Rho):∀ (a b:List AVal),Ze ρ (a++b)=Ze ρ a++Ze ρ b
 | [],b=>by simp [Ze]
 | x::a,b=>by simp [Ze,ZbS ρ a b]
theorem Zh4 {v:AVal}:∀ {P:List AVal} {k:Nat},Zd P=true→k < P.length→Zr (P.set k v)=ZZ v
 | [],_,_,h=>by simp at h
 | x::P,0,h,_=>by
  simp only [Zd,Bool.and_eq_true] at h
  simp only [List.set_cons_zero,Zr,(ZaT (fun _ _=>none) P h.2).2,List.append_nil]
 | x::P,k+1,h,hk=>by
  simp only [Zd,Bool.and_eq_true] at h
  simp only [List.set_cons_succ,Zr,(Za4 (fun _ _=>none) x h.1).2,List.nil_append]
  exact Zh4 h.2 (by simpa using hk)
theorem Zic (ρ:Rho) {v:AVal}:∀ {P:List AVal} {k:Nat},Zd P=true→Ze ρ (P.set k v)=P.set k (Zk ρ v)
 | [],_,_=>by simp [Ze]
 | x::P,0,h=>by
  simp only [Zd,Bool.and_eq_true] at h
  simp only [List.set_cons_zero,Ze,(ZaT ρ P h.2).1]
 | x::P,k+1,h=>by
  simp only [Zd,Bool.and_eq_true] at h
  simp only [List.set_cons_succ,Ze,(Za4 ρ x h.1).1,Zic ρ h.2]
theorem ZwO {σ:Za} {t r g w w2 g2:Nat} {cs xs cs2 xs2:List AVal} (hs:σ[t]?=some (.var cs)) (hr:σ[r]?=some (.row g w xs)) (hg2:g2≤1):ZaZ σ [t,r] [.var cs2,.row g2 w2 xs2] 0=true:=by
 have h1:σ.getD t .free=.var cs:=by simp [List.getD_eq_getElem?_getD,hs]
 have h2:σ.getD r .free=.row g w xs:=by simp [List.getD_eq_getElem?_getD,hr]
 simp [ZaZ,okB,Zce,Zp,hs,hr,hg2]
theorem ZgH {O:ZR} {byref:Nat→Bool} {σ:Za} {t r f own g w g2 w2 site:Nat} {view:Bool} {rest:List AVal} {cs cs1 cs2 cs3 xs xs2:List AVal} {q q':AVal} (hs:σ[t]?=some (.var cs)) (hr:σ[r]?=some (.row g w xs)) (htr:t≠r) (hrf:Zr cs=[r]) (hb:byref f=false) (hp:rest.all Z4=true)
  (hren:∀ ρ:Rho,ρ r g=some (1,0)→Ze ρ cs=cs1) (hg2:g2≤1) (hff:Za1 σ site own=true) (hn:ZK q'=true)
  (h:O f (.ref 0 0::rest.map ZH) [.var cs1,.row 0 w xs]=some (q,[.var cs2,.row g2 w2 xs2])) (hv:Zae view 2 (some (q,[.var cs2,.row g2 w2 xs2]))=some (q',[.var cs2,.row g2 w2 xs2]))
  (hback:∀ ρ:Rho,(∀ j,ρ 1 j=some (r,g+j))→Ze ρ cs2=cs3) :
  Zj O byref σ site f own view (.ref t 0::rest)=some (q',(σ.set t (.var cs3)).set r (.row (g+g2) w2 xs2),{ any:=true,upd:=[(t,cs3)] }):=by
 have htl:t < σ.length:=by
  rcases Nat.lt_or_ge t σ.length with h | h
  ·exact h
  ·rw [List.getElem?_eq_none h] at hs;cases hs
 have h1:σ.getD t .free=.var cs:=by simp [List.getD_eq_getElem?_getD,hs]
 have h2:σ.getD r .free=.row g w xs:=by simp [List.getD_eq_getElem?_getD,hr]
 have hf0:Zn σ []=σ:=rfl
 have hsh:showAs σ (.ref t 0::rest)=some (.ref t 0::rest.map ZH,[]):=by
  rw [showAs,show showA σ (.ref t 0)=some (.ref t 0,[]) from rfl,Zd8 hp]
  rfl
 have href:Zr (.ref t 0::rest.map ZH)=[t]:=by
  rw [Zr,Zdn hp];rfl
 have hup:Za7 ((σ.set t (.var cs3)).set r (.row (g+g2) w2 xs2)) [t,r]=[(t,cs3)]:=by
  have e1:((σ.set t (.var cs3)).set r (.row (g+g2) w2 xs2))[t]?=some (.var cs3):=by
   rw [List.getElem?_set_ne (fun e=>htr e.symm),List.getElem?_set_self htl]
  have e2:((σ.set t (.var cs3)).set r (.row (g+g2) w2 xs2))[r]?=some (.row (g+g2) w2 xs2):=by
   rw [List.getElem?_set_self (by
    rcases Nat.lt_or_ge r σ.length with h | h
    ·simpa using h
    ·rw [List.getElem?_eq_none h] at hr;cases hr)]
  simp only [Za7,e1,e2]
 unfold Zj ZbU
 rw [hb]
 simp only [Bool.false_eq_true,if_false,hsh,hf0,href,Zpc hs hr htr hrf]
 unfold ZbC
 have hall:([t,r].all fun t=>okB (σ.getD t .free))=true:=by simp only [List.all_cons,List.all_nil,h1,h2,okB,Bool.and_true]
 rw [if_pos hall]
 have hρt:Zl σ 0 [t,r] t 0=some (0,0):=by simp [Zl,Z1,hs,Zp,ZU]
 have hρr:Zl σ 0 [t,r] r g=some (1,0):=by simp [Zl,Z1,hr,Zp,ZU,htr]
 have hargs:Ze (Zl σ 0 [t,r]) (.ref t 0::rest.map ZH)=.ref 0 0::rest.map ZH:=by
  rw [Ze,Zde hp]
  simp only [Zk,hρt]
 have hheap:Zx σ 0 [t,r] (Zl σ 0 [t,r]) [t,r] 0=[.var cs1,.row 0 w xs]:=by
  simp only [Zx,h1,h2,ZU,Zp,ZJ,hren _ hρr]
  simp
 rw [hargs,hheap,h]
 rw [show [t,r].length=2 from rfl,hv]
 have hk:=ZwO (cs2:=cs2) (w2:=w2) (xs2:=xs2) hs hr hg2
 have hb3:Ze (ZaB σ [t,r] site) cs2=cs3:=hback _ (fun j=>by simp only [ZaB,List.getElem?_cons_succ,List.getElem?_cons_zero,h2,Zp])
 simp only [ZaG,List.isEmpty_cons,Bool.false_eq_true,if_false,List.length_cons,List.length_nil,Nat.zero_add,Nat.reduceAdd,Nat.le_add_right,Nat.le_refl,decide_true,hk,hff,Bool.and_self,if_true,Za5,ZaK,List.getD_cons_zero,List.getD_cons_succ,Zcl,List.getElem?_cons_zero,List.getElem?_cons_succ,h2,Zp,ZJ,(Za4 _ _ hn).1,hb3,hup]
end Go.Proofs.YtmlkhhidifjjfaaDoor
namespace Go.Proofs.YtmlkhhidifjjfaaDoor
set_option maxHeartbeats 8000000
set_option maxRecDepth 10000
section
variable (P:List AVal) (hP:P.length=26) (hF:Zr P=[1]) (hS:∀ ρ:Rho,ρ 1 0=some (1,0)→Ze ρ P=P) (w:Nat) (xs:List AVal)
include hP hF hS
theorem ZgJ {r:AVal} (hr:ZK r=true) (f:Bool) (ys:List AVal):Zal 2 [.var (P++[.lst f ys]),.row 0 w xs] r=some (r,[.var (P++[.lst f ys]),.row 0 w xs]) :=
 Zpv hr (by rw [Zcu,hF];rfl) (by omega) (fun ρ h=>by rw [ZbS,hS ρ h];rfl)
theorem ZLg (l:Zb) (n:Nat) (hn:n≤l.length) (hl:l.length≤140737488355328):E 115 [.ref 0 0,.int .i64 (n:Nat)] [.var (P++[.lst false (l.map Zc)]),.row 0 w xs]=some (.int .i64 (ZgF (l.take n)),[.var (P++[.lst false ((l.drop n).map Zc)]),.row 0 w xs]):=by
 have h1:(l.length:Int)≥((n:Nat):Int):=by omega
 have s1:=fun σ kk=>ZjD σ 1 l Zc kk (n:Int) (by omega) (by omega)
 have s2:=fun σ kk=>Zff σ l kk (n:Int) (by omega) (by omega)
 have e2:((n:Int)).toNat=n:=rfl
 rw [e2] at s1 s2
 have ht:(l.take n).length≤9223372036854775807:=by simp;omega
 have hG:=fun σ site own f=>ZlN σ site own (l.take n) ht f
 have a1:=Z2 P hP
 have a2:=Zao P hP
 have a3:=Zep P hP
 have a4:=ZfG P hP
 have m1:=Za9
 rw [Zh (by rfl) Zjr]
 simp -implicitDefEqProofs only [EQA,ZG,Nat.reduceAdd,Nat.reduceLT,Nat.reduceLeDiff,Nat.reduceEqDiff,reduceCtorEq,decide_true,↓reduceIte,ZjY,Zht,Ztc,oI,oN,h1,s1,s2,hG,a1,a2,a3,a4,m1,ZgF]
 exact ZgJ P hP hF hS w xs rfl _ _
theorem ZEb (l:Zb) (n:Nat) (hn:l.length < n) (hn':n≤9223372036854775807):E 115 [.ref 0 0,.int .i64 (n:Nat)] [.var (P++[.lst false (l.map Zc)]),.row 0 w xs]=some (.pan (Zy 129),[.var (P++[.lst false (l.map Zc)]),.row 0 w xs]):=by
 have h1:¬(l.length:Int)≥((n:Nat):Int):=by omega
 have a2:=Zao P hP
 have m1:=ZbA
 rw [Zh (by rfl) Zjr]
 simp -implicitDefEqProofs only [EQA,Nat.reduceAdd,Nat.reduceLT,Nat.reduceEqDiff,reduceCtorEq,decide_false,↓reduceIte,ZjY,Zht,oI,oN,h1,a2,m1]
 exact ZgJ P hP hF hS w xs rfl _ _
theorem ZzB (l:Zb) (hl:l.length≤140737488355328) (h:(Zab l).2.2=0):E 124 [.ref 0 0] [.var (P++[.lst false (l.map Zc)]),.row 0 w xs]=some (.str (Zab l).1,[.var (P++[.lst false ((l.drop (Zab l).2.1).map Zc)]),.row 0 w xs]):=by
 have hG:=fun σ site own f=>ZhE σ site own f l hl
 have hu:=(ZhU l).1
 unfold gtT at hG
 have s2:=fun σ kk=>Zff σ l kk ((Zab l).2.1:Int) (by omega) (by omega)
 have e2:(((Zab l).2.1:Nat):Int).toNat=(Zab l).2.1:=rfl
 rw [e2] at s2
 rw [h] at hG
 have a1:=Z2 P hP
 have a2:=Zao P hP
 have a3:=Zep P hP
 have a4:=ZfG P hP
 have m1:=Za9
 rw [Zh (by rfl) Zln]
 simp -implicitDefEqProofs only [EQA,ZG,Nat.reduceAdd,Nat.reduceLT,Nat.reduceLeDiff,Nat.reduceEqDiff,reduceCtorEq,↓reduceIte,Zlp,Zhw,ZsP,oI,oN,s2,hG,a1,a2,a3,a4,m1]
 exact ZgJ P hP hF hS w xs rfl _ _
theorem ZHP (l:Zb) (hl:l.length≤140737488355328) (h:(Zab l).2.2≠0):E 124 [.ref 0 0] [.var (P++[.lst false (l.map Zc)]),.row 0 w xs]=some (.pan (Zy 129),[.var (P++[.lst false (l.map Zc)]),.row 0 w xs]):=by
 have hG:=fun σ site own f=>ZhE σ site own f l hl
 unfold gtT at hG
 have h0:((Zab l).2.2 == 0)=false:=by simpa using h
 have h1:=h
 have a2:=Zao P hP
 have m1:=ZbA
 rw [Zh (by rfl) Zln]
 simp -implicitDefEqProofs only [EQA,Nat.reduceAdd,Nat.reduceLT,Nat.reduceEqDiff,reduceCtorEq,↓reduceIte,Zlp,Zhw,oI,oN,hG,a2,h0,m1]
 exact ZgJ P hP hF hS w xs rfl _ _
end
theorem Zlv {q:AVal} {cs xs:List AVal} {g w:Nat} (view:Bool) (hn:ZK q=true) (hv:viewR [.var cs,.row g w xs] q=some (q,[])) (hrf:Zr cs=[1]) (hg:g≤1) (hren:∀ ρ:Rho,ρ 1 g=some (1,g)→Ze ρ cs=cs):Zae view 2 (some (q,[.var cs,.row g w xs]))=some (q,[.var cs,.row g w xs]):=by
 unfold Zae
 split
 ·have hnp:∀ x,q≠.pan x:=by rintro x rfl;simp [viewR,ZN,ZL] at hv
  rw [show ZbI 2 (some (q,[.var cs,.row g w xs]))=(match viewR [.var cs,.row g w xs] q with
   | some (r',ts)=>match gcA 2 [r'] (Zn [.var cs,.row g w xs] ts) with
    | ([r''],σ')=>some (r'',σ')
    | _=>none
   | none=>none) from by cases q <;> first | rfl | exact absurd rfl (hnp _)]
  rw [hv]
  simp only [show Zn [ZM.var cs,.row g w xs] []=[.var cs,.row g w xs] from rfl,Zsi hn hrf hg hren]
 ·rfl
theorem ZoX {x:AVal} {σ:Za} (view:Bool):Zae view 2 (some (.pan x,σ))=some (.pan x,σ):=by
 unfold Zae
 split <;> rfl
def Zi (Q:List AVal) (k r g n:Nat):List AVal:=Q.set k (.sl r g 0 n)
section
variable (Q:List AVal) (hQ:Q.length=26) (hN:Zd Q=true) (k:Nat) (hk:k < 26) (n:Nat)
include hQ hN hk
theorem Zb6 (r g:Nat):(Zi Q k r g n).length=26:=by simp [Zi,hQ]
theorem Zci (r g:Nat):Zr (Zi Q k r g n)=[r]:=by
 unfold Zi
 rw [Zh4 hN (by omega)]
 rfl
theorem ZbJ {r g r' g':Nat} (ρ:Rho) (h:ρ r g=some (r',g')):Ze ρ (Zi Q k r g n)=Zi Q k r' g' n:=by
 unfold Zi
 rw [Zic ρ hN]
 simp only [Zk,h]
variable (w:Nat) (xs:List AVal) (l:Zb) (hl:l.length≤140737488355328) (σ:Za) (t r g site:Nat) (htr:t≠r) (hs:σ[t]?=some (.var (Zi Q k r g n++[.lst false (l.map Zc)]))) (hr:σ[r]?=some (.row g w xs))
include hl htr hs hr
theorem Zj7 {c:Nat} {m a:Int} {l2:Zb} (hm:((c:Nat):Int)=m) (h:Zaz c l=.ok (a,l2)):Zj E BY σ site 115 0 true [.ref t 0,.int .i64 m]=some (.int .i64 a,(σ.set t (.var (Zi Q k r g n++[.lst false (l2.map Zc)]))).set r (.row g w xs),{ any:=true,upd:=[(t,Zi Q k r g n++[.lst false (l2.map Zc)])] }):=by
 subst hm
 unfold Zaz at h
 split at h
 ·cases h
 ·injection h with h;injection h with h1 h2;subst h1 h2
  have e:=ZLg (Zi Q k 1 0 n) (Zb6 Q hQ hN k hk n 1 0) (Zci Q hQ hN k hk n 1 0) (fun ρ h=>ZbJ Q hQ hN k hk n ρ h) w xs l c (by omega) hl
  exact ZgH (g2:=0) (own:=0) (rest:=[.int .i64 (c:Nat)]) hs hr htr (by rw [Zcu,Zci Q hQ hN k hk n];rfl) (by kernel_rfl) rfl (fun ρ h=>by rw [ZbS,ZbJ Q hQ hN k hk n ρ h];rfl) (by omega) rfl rfl e
   (Zlv true rfl rfl (by rw [Zcu,Zci Q hQ hN k hk n];rfl) (by omega) (fun ρ h=>by rw [ZbS,ZbJ Q hQ hN k hk n ρ h];rfl)) (fun ρ h=>by rw [ZbS,ZbJ Q hQ hN k hk n ρ (h 0)];rfl)
theorem Zty {c:Nat} {m e:Int} (hm:((c:Nat):Int)=m) (hc:c≤9223372036854775807) (h:Zaz c l=.error e):Zj E BY σ site 115 0 true [.ref t 0,.int .i64 m]=some (.pan (Zy e),(σ.set t (.var (Zi Q k r g n++[.lst false (l.map Zc)]))).set r (.row g w xs),{ any:=true,upd:=[(t,Zi Q k r g n++[.lst false (l.map Zc)])] }):=by
 subst hm
 unfold Zaz at h
 split at h
 ·injection h with h;subst h
  have e:=ZEb (Zi Q k 1 0 n) (Zb6 Q hQ hN k hk n 1 0) (Zci Q hQ hN k hk n 1 0) (fun ρ h=>ZbJ Q hQ hN k hk n ρ h) w xs l c (by omega) hc
  exact ZgH (g2:=0) (own:=0) (rest:=[.int .i64 (c:Nat)]) hs hr htr (by rw [Zcu,Zci Q hQ hN k hk n];rfl) (by kernel_rfl) rfl (fun ρ h=>by rw [ZbS,ZbJ Q hQ hN k hk n ρ h];rfl) (by omega) rfl rfl e
   (ZoX true) (fun ρ h=>by rw [ZbS,ZbJ Q hQ hN k hk n ρ (h 0)];rfl)
 ·cases h
theorem Znl {a l2:Zb} (h:Zan l=.ok (a,l2)):Zj E BY σ site 124 0 true [.ref t 0]=some (.str a,(σ.set t (.var (Zi Q k r g n++[.lst false (l2.map Zc)]))).set r (.row g w xs),{ any:=true,upd:=[(t,Zi Q k r g n++[.lst false (l2.map Zc)])] }):=by
 unfold Zan at h
 split at h
 ·rename_i h0
  injection h with h;injection h with h1 h2;subst h1 h2
  have e:=ZzB (Zi Q k 1 0 n) (Zb6 Q hQ hN k hk n 1 0) (Zci Q hQ hN k hk n 1 0) (fun ρ h=>ZbJ Q hQ hN k hk n ρ h) w xs l hl h0
  exact ZgH (g2:=0) (own:=0) (rest:=[]) hs hr htr (by rw [Zcu,Zci Q hQ hN k hk n];rfl) (by kernel_rfl) rfl (fun ρ h=>by rw [ZbS,ZbJ Q hQ hN k hk n ρ h];rfl) (by omega) rfl rfl e
   (Zlv true rfl rfl (by rw [Zcu,Zci Q hQ hN k hk n];rfl) (by omega) (fun ρ h=>by rw [ZbS,ZbJ Q hQ hN k hk n ρ h];rfl)) (fun ρ h=>by rw [ZbS,ZbJ Q hQ hN k hk n ρ (h 0)];rfl)
 ·cases h
theorem Zp9 {c:Int} (h:Zan l=.error c):Zj E BY σ site 124 0 true [.ref t 0]=some (.pan (Zy c),(σ.set t (.var (Zi Q k r g n++[.lst false (l.map Zc)]))).set r (.row g w xs),{ any:=true,upd:=[(t,Zi Q k r g n++[.lst false (l.map Zc)])] }):=by
 unfold Zan at h
 split at h
 ·cases h
 ·rename_i h0
  injection h with h;subst h
  have e:=ZHP (Zi Q k 1 0 n) (Zb6 Q hQ hN k hk n 1 0) (Zci Q hQ hN k hk n 1 0) (fun ρ h=>ZbJ Q hQ hN k hk n ρ h) w xs l hl h0
  exact ZgH (g2:=0) (own:=0) (rest:=[]) hs hr htr (by rw [Zcu,Zci Q hQ hN k hk n];rfl) (by kernel_rfl) rfl (fun ρ h=>by rw [ZbS,ZbJ Q hQ hN k hk n ρ h];rfl) (by omega) rfl rfl e
   (ZoX true) (fun ρ h=>by rw [ZbS,ZbJ Q hQ hN k hk n ρ (h 0)];rfl)
end
section
variable (Q:List AVal) (hQ:Q.length=26) (hN:Zd Q=true) (k:Nat) (hk:k < 26) (n:Nat) (w:Nat) (xs:List AVal) (l:Zb) (hl:l.length≤140737488355328) (kd:Int) (h0:(Zi Q k 1 0 n)[0]?=some (.int .i64 kd))
include hQ hN hk hl h0
theorem ZMq {c:Int} {r:Zb} (h:Zas kd l=.ok (c,r)):E 116 [.ref 0 0] [.var (Zi Q k 1 0 n++[.lst false (l.map Zc)]),.row 0 w xs]=some (.int .i64 c,[.var (Zi Q k 1 0 n++[.lst false (r.map Zc)]),.row 0 w xs]):=by
 unfold Zas at h
 split at h
 case h_2=>cases h
 rename_i n' r' h2
 split at h
 case isFalse=>cases h
 rename_i hn
 injection h with h;injection h with h3 h4;subst h3 h4
 have hG:=fun σ site hs hr=>Zj7 Q hQ hN k hk n w xs l hl σ 0 1 0 site (by omega) hs hr (m:=1) rfl h2
 have hL:=Zb6 Q hQ hN k hk n 1 0
 have hR:=Zci Q hQ hN k hk n 1 0
 have hS:∀ ρ:Rho,ρ 1 0=some (1,0)→Ze ρ (Zi Q k 1 0 n)=Zi Q k 1 0 n:=fun ρ h=>ZbJ Q hQ hN k hk n ρ h
 generalize Zi Q k 1 0 n=P at *
 have a4:=fun L=>(Z5 P hL 0 (by omega) L).trans h0
 have m1:=Za9
 have hC:=fun σ site own=>Zhb kd n' σ site own
 rw [hn] at hC
 rw [Zh (by rfl) ZfD]
 simp -implicitDefEqProofs only [EQA,Nat.reduceAdd,Nat.reduceLT,Nat.reduceEqDiff,reduceCtorEq,↓reduceIte,ZfC,ZeK,Ztx,oI,hG,hC,a4,m1]
 exact ZgJ P hL hR hS w xs rfl _ _
theorem ZyK {c:Int} (h:Zas kd l=.error c):∃ r:Zb,E 116 [.ref 0 0] [.var (Zi Q k 1 0 n++[.lst false (l.map Zc)]),.row 0 w xs]=some (.pan (Zy c),[.var (Zi Q k 1 0 n++[.lst false (r.map Zc)]),.row 0 w xs]):=by
 unfold Zas at h
 have hL:=Zb6 Q hQ hN k hk n 1 0
 have hR:=Zci Q hQ hN k hk n 1 0
 have hS:∀ ρ:Rho,ρ 1 0=some (1,0)→Ze ρ (Zi Q k 1 0 n)=Zi Q k 1 0 n:=fun ρ h=>ZbJ Q hQ hN k hk n ρ h
 split at h
 ·rename_i n' r' h2
  split at h
  case isTrue=>cases h
  rename_i hn
  injection h with h;subst h
  have hG:=fun σ site hs hr=>Zj7 Q hQ hN k hk n w xs l hl σ 0 1 0 site (by omega) hs hr (m:=1) rfl h2
  refine ⟨r',?_⟩
  generalize Zi Q k 1 0 n=P at *
  have a4:=fun L=>(Z5 P hL 0 (by omega) L).trans h0
  have m1:=ZbA
  have hC:=fun σ site own=>Zhb kd n' σ site own
  rw [Bool.not_eq_true _ |>.mp hn] at hC
  rw [Zh (by rfl) ZfD]
  simp -implicitDefEqProofs only [EQA,Nat.reduceAdd,Nat.reduceLT,Nat.reduceEqDiff,reduceCtorEq,↓reduceIte,ZfC,ZeK,oI,hG,hC,a4,m1]
  exact ZgJ P hL hR hS w xs rfl _ _
 ·rename_i c' h2
  injection h with h;subst h
  have hG:=fun σ site hs hr=>Zty Q hQ hN k hk n w xs l hl σ 0 1 0 site (by omega) hs hr (m:=1) rfl (by decide) h2
  refine ⟨l,?_⟩
  generalize Zi Q k 1 0 n=P at *
  rw [Zh (by rfl) ZfD]
  simp -implicitDefEqProofs only [EQA,Nat.reduceAdd,Nat.reduceLT,reduceCtorEq,↓reduceIte,ZfC,ZeK,oI,hG]
  exact ZgJ P hL hR hS w xs rfl _ _
variable (σ:Za) (t r g site:Nat) (htr:t≠r) (hs:σ[t]?=some (.var (Zi Q k r g n++[.lst false (l.map Zc)]))) (hr:σ[r]?=some (.row g w xs))
include htr hs hr
theorem Zzs {c:Int} {l2:Zb} (h:Zas kd l=.ok (c,l2)):Zj E BY σ site 116 0 true [.ref t 0]=some (.int .i64 c,(σ.set t (.var (Zi Q k r g n++[.lst false (l2.map Zc)]))).set r (.row g w xs),{ any:=true,upd:=[(t,Zi Q k r g n++[.lst false (l2.map Zc)])] }):=by
 have e:=ZMq Q hQ hN k hk n w xs l hl kd h0 h
 exact ZgH (g2:=0) (own:=0) (rest:=[]) hs hr htr (by rw [Zcu,Zci Q hQ hN k hk n];rfl) (by kernel_rfl) rfl (fun ρ h=>by rw [ZbS,ZbJ Q hQ hN k hk n ρ h];rfl) (by omega) rfl rfl e
  (Zlv true rfl rfl (by rw [Zcu,Zci Q hQ hN k hk n];rfl) (by omega) (fun ρ h=>by rw [ZbS,ZbJ Q hQ hN k hk n ρ h];rfl)) (fun ρ h=>by rw [ZbS,ZbJ Q hQ hN k hk n ρ (h 0)];rfl)
theorem ZJn {c:Int} (h:Zas kd l=.error c):∃ l2:Zb,Zj E BY σ site 116 0 true [.ref t 0]=some (.pan (Zy c),(σ.set t (.var (Zi Q k r g n++[.lst false (l2.map Zc)]))).set r (.row g w xs),{ any:=true,upd:=[(t,Zi Q k r g n++[.lst false (l2.map Zc)])] }):=by
 obtain ⟨l2,e⟩:=ZyK Q hQ hN k hk n w xs l hl kd h0 h
 exact ⟨l2,ZgH (g2:=0) (own:=0) (rest:=[]) hs hr htr (by rw [Zcu,Zci Q hQ hN k hk n];rfl) (by kernel_rfl) rfl (fun ρ h=>by rw [ZbS,ZbJ Q hQ hN k hk n ρ h];rfl) (by omega) rfl rfl e
  (ZoX true) (fun ρ h=>by rw [ZbS,ZbJ Q hQ hN k hk n ρ (h 0)];rfl)⟩
end
end Go.Proofs.YtmlkhhidifjjfaaDoor
namespace Go.Proofs.YtmlkhhidifjjfaaDoor
structure Zbv where
 filter:Zb
 qos:Int
 noLocal:Bool
 asPublished:Bool
 handling:Int
 id:Int
 deriving DecidableEq
def ZY (s:Zbv):AVal:=.agg [.str s.filter,.int .i64 s.qos,.bool s.noLocal,.bool s.asPublished,.int .i64 s.handling,.int .i64 s.id]
structure ZuJ where
 topic:Zb
 data:Zb
 qos:Int
 retain:Bool
 props:List Zu
 deriving DecidableEq
structure Zq where
 type:Int
 dup:Bool
 qos:Int
 retain:Bool
 id:Int
 topic:Zb
 payload:Zb
 code:Int
 codes:List Int
 props:List Zu
 subs:List Zbv
 filters:List Zb
 clean:Bool
 keep:Int
 client:Zb
 hasWill:Bool
 will:ZuJ
 hasUser:Bool
 user:Zb
 hasPassword:Bool
 password:Zb
 present:Bool
 deriving DecidableEq
def Z7 (p:Zq):AVal:=.agg [.int .i64 p.type,.bool p.dup,.int .i64 p.qos,.bool p.retain,.int .i64 p.id,.str p.topic,.lst false (p.payload.map Zc),.int .i64 p.code,.lst false (p.codes.map (AVal.int .i64)),.lst false (p.props.map Zo),.lst false (p.subs.map ZY),.lst false (p.filters.map AVal.str),.bool p.clean,.int .i64 p.keep,.str p.client,.bool p.hasWill,.str p.will.topic,.lst false (p.will.data.map Zc),.int .i64 p.will.qos,.bool p.will.retain,.lst false (p.will.props.map Zo),.bool p.hasUser,.str p.user,.bool p.hasPassword,.lst false (p.password.map Zc),.bool p.present]
end Go.Proofs.YtmlkhhidifjjfaaDoor
