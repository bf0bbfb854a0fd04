/- The statement of IdentAll: for every input the law returns true, and each argument reads afterwards as it read before. No other condition. -/
import Derived.Test.YtcgndmenpdhjcaaMqa2
import Derived.Test.YtcgndmenpdhjcaaRows
import Derived.WalkKit
import Derived.ProofKit
import Derived.OpenShut
import Derived.ShutString
import Derived.ChangeOld
import Derived.Below
set_option linter.defProp false
set_option linter.unusedSimpArgs false
set_option linter.unusedVariables false
namespace Go.Proofs.Ytcgndmenpdhjcaa
set_option maxHeartbeats 16000000
set_option maxRecDepth 10000
section
def Zc6 (xs:List Int):List Int:=xs.foldl (fun a k=>(Zap a k).2) []
theorem Zlb (l:List Int):ZaJ 0 (Zk l) (.ref 0 0)=some (.ref 0 0,Zk l):=by
 have e0:([]:List Nat).contains 0=false:=rfl
 have e1:([0]:List Nat).contains 1=false:=rfl
 have hr0:ZA [AVal.ref 0 0]=[0]:=rfl
 have hb0:ZF (.var [.map 1])=[1]:=rfl
 have g0:(Zk l).getD 0 .free=.var [.map 1]:=rfl
 have g1:(Zk l).getD 1 .free=.map (Zb l):=rfl
 have hi:Zy 0 [.ref 0 0] (Zk l)=[0,1]:=by
  unfold Zy
  rw [show List.range 0=[] from rfl,List.flatMap_nil,List.append_nil,hr0,show (1000:Nat)=997+1+1+1 from rfl]
  simp only [Zm,e0,e1,g0,g1,hb0,List.append_nil,List.nil_append,List.singleton_append,Bool.false_eq_true,if_false,Zfu,List.cons_append]
 have hρ0:Zf (Zk l) 0 [0,1] 0 0=some (0,0):=rfl
 have hρ1:Zf (Zk l) 0 [0,1] 1 0=some (1,0):=rfl
 simp only [ZaJ,gcA,hi,Zj,Zt,g0,g1,Ziw]
 unfold Zk at hρ0 hρ1 ⊢
 simp only [Zp,Zt,Ze,hρ0,hρ1]
theorem ZhD (xs:List Int) (hx:xs.length<=9223372036854775807):∀ (r acc:List Int) (i:Nat),xs.drop i=r ->
  Ze1 0 [(11,.int .i64 (i:Int)),(10,.int .i64 (xs.length:Int)),(9,.lst false (xs.map (.int .i64 ·))),(3,.ref 0 0)] (Zk acc)=some (.ref 0 0,Zk (r.foldl (fun a k=>(Zap a k).2) acc))
 | [],acc,i,hi=>by
  have h0:¬(i:Int) < (xs.length:Int):=by
   have:=List.drop_eq_nil_iff.1 hi;omega
  rw [List.foldl_nil]
  have ho:=Zlb acc
  unfold Zk at ho ⊢
  generalize Zb acc=M at *
  unfold Ze1
  rw [ZbH]
  simp -implicitDefEqProofs only [EQA,Z7,Zaf,Zaa,Zah,Zak,Zaj,Zal,Zab,Z9,Zam,Zad,Z5,Zag,Z8,Zai,implies_true,forall_const,Nat.reduceAdd,Nat.reduceSub,Nat.reduceLT,Nat.reduceLeDiff,Nat.reduceEqDiff,Nat.reduceBEq,Nat.reduceMul,ZU,ZY,unA,ZE,ZI,unG,reduceCtorEq,Zr,decide_eq_true_eq,Bool.not_eq_true,Bool.decide_eq_true,ite_self,↓reduceIte,ZH,ZV,gcT,gcA,Zy,Zm,Zf,Zj,ZD,Zd,Zz,Zp,ZF,List.range_succ,Zhd,ZdU,Zhb,ZgJ,ZdJ,Zg7,Zd2,oI,oN,Zan,Z4,Z6,Z3,Z2,Z0,h0,ho]
 | x::r,acc,i,hi=>by
  have hlt:i < xs.length:=by
   rcases Nat.lt_or_ge i xs.length with h | h
   ·exact h
   ·rw [List.drop_eq_nil_iff.2 h] at hi;cases hi
  have h0:(i:Int) < (xs.length:Int):=by omega
  have hg:xs[i]?=some x:=by
   have:=congrArg List.head? hi
   simpa using this
  have hnx:xs.drop (i+1)=r:=by
   have : (xs.drop i).drop 1=r:=by rw [hi];rfl
   rwa [List.drop_drop] at this
  have ha:=fun σ kk=>iad hg (AVal.int IntKind.i64 ·) (k:=1) rfl σ false kk
  have hw:=Zi9 (i:=i) h0 hx
  have ih:=ZhD xs hx r (Zap acc x).2 (i+1) hnx
  have hh:=fun {σ:Za} {sq:Nat} {view:Bool} hs hm=>Ze4 acc x (σ:=σ) (t:=0) (m:=1) (sq:=sq) (own:=0) (view:=view) (by decide) hs hm rfl
  have ho:=ZbA (Zap acc x).2
  have hn:=fun ρ=>Zbl ρ (Zap acc x).2
  rw [List.foldl_cons]
  unfold Zk at ih ⊢
  generalize (Zap acc x).1=R at *
  generalize r.foldl (fun a k=>(Zap a k).2) (Zap acc x).2=M3 at *
  generalize Zb (Zap acc x).2=M2 at *
  generalize Zb acc=M at *
  generalize hL:xs.map (AVal.int IntKind.i64 ·)=L at *
  unfold Ze1 at ih ⊢
  rw [ZbH]
  simp -implicitDefEqProofs only [EQA,Z7,Zaf,Zaa,Zah,Zak,Zaj,Zal,Zab,Z9,Zam,Zad,Z5,Zag,Z8,Zai,implies_true,forall_const,Nat.reduceAdd,Nat.reduceSub,Nat.reduceLT,Nat.reduceLeDiff,Nat.reduceEqDiff,Nat.reduceBEq,Nat.reduceMul,ZU,ZY,unA,ZE,ZI,unG,reduceCtorEq,Zr,decide_eq_true_eq,Bool.not_eq_true,Bool.decide_eq_true,ite_self,↓reduceIte,ZH,ZV,gcT,gcA,Zy,Zm,Zf,Zj,ZD,Zd,Zz,Zp,ZF,List.range_succ,Zhd,ZdU,Zhb,ZgJ,ZdJ,Zg7,Zd2,oI,oN,Zan,Z4,Z6,Z3,Z2,Z0,h0,ha,hw,hh,ho,hn]
  exact ih
theorem Ztj (xs:List Int) (hx:xs.length<=9223372036854775807):E 6 [.lst false (xs.map (.int .i64 ·))] []=some (.ref 0 0,Zk (Zc6 xs)):=by
 have h:=ZhD xs hx xs [] 0 rfl
 unfold Zc6
 generalize xs.foldl (fun a k=>(Zap a k).2) []=R at *
 have z:((0:Nat):Int)=0:=rfl
 rw [z] at h
 unfold Zk at h ⊢
 rw [show Zb []=[] from rfl] at h
 unfold Ze1 at h
 rw [Zb1 (by rfl) ZvT]
 simp -implicitDefEqProofs only [EQA,Z7,Zaf,Zaa,Zah,Zak,Zaj,Zal,Zab,Z9,Zam,Zad,Z5,Zag,Z8,Zai,implies_true,forall_const,Nat.reduceAdd,Nat.reduceSub,Nat.reduceLT,Nat.reduceLeDiff,Nat.reduceEqDiff,Nat.reduceBEq,Nat.reduceMul,ZU,ZY,unA,ZE,ZI,unG,reduceCtorEq,Zr,decide_eq_true_eq,Bool.not_eq_true,Bool.decide_eq_true,ite_self,↓reduceIte,ZH,ZV,gcT,gcA,Zy,Zm,Zf,Zj,ZD,Zd,Zz,Zp,ZF,List.range_succ,Zhd,ZdU,Zhb,ZgJ,ZdJ,Zg7,Zd2,oI,oN,Zan,Z4,Z6,Z3,Z2,Z0,Zcy,AVal.cells,List.map_nil,List.length_map]
 exact h
end
section
theorem Zic (l:List Int) (n:Nat):∀ p ∈ Zb l,Zfi n p.2=true:=by
 unfold Zb
 intro p hp
 obtain ⟨x,_,rfl⟩:=List.mem_map.1 hp
 rfl
theorem Zve (l:List Int) (k:Int) (tm:Tms) (σ:Za) (h:gcT 2 (keepL [8,3] tm) σ=([(8,.map 1),(3,.lst true [])],[.var [.map 1],.map (Zb l)])) :
  Zcn FC PR BY 2 [8,3] 8 12 1 Zbk c2A (Zb l) (.int .i64 k,.agg []) tm σ=some ([(8,.map 1),(3,.sl 2 0 0 1)],[.var [.map 1],.map (Zb l),.row 0 1 [.int .i64 k]]):=by
 have hk:=eq_true (Zic l 2)
 unfold Zcn
 rw [h]
 generalize Zb l=M at *
 simp -implicitDefEqProofs only [EQA,Z7,Zaf,Zaa,Zah,Zak,Zaj,Zal,Zab,Z9,Zam,Zad,Z5,Zag,Z8,Zai,implies_true,forall_const,Nat.reduceAdd,Nat.reduceSub,Nat.reduceLT,Nat.reduceLeDiff,Nat.reduceEqDiff,Nat.reduceBEq,Nat.reduceMul,ZU,ZY,unA,ZE,ZI,unG,reduceCtorEq,Zr,decide_eq_true_eq,Bool.not_eq_true,Bool.decide_eq_true,ite_self,↓reduceIte,ZH,ZV,gcT,gcA,Zy,Zm,Zf,Zj,ZD,Zd,Zz,Zp,ZF,List.range_succ,Zcj,ZbP,Zb8,oI,oN,Zan,Z4,Z6,Z3,Z2,Z0,hk,ZcB,Zbk,c2A,oI,Zax,kOk,viewAs,ZaV,ZaE,ZaP,Zh,List.length_singleton,Nat.one_mul,Zbn,ZcS]
theorem Zrh (l:List Int) (k:Int) (tm:Tms) (σ:Za) (n:Nat) (xs:List AVal) (hx:xs.length=n) (hb:(n+1)*8<=140737488355328) (h:gcT 2 (keepL [8,3] tm) σ=([(8,.map 1),(3,.sl 2 0 0 n)],[.var [.map 1],.map (Zb l),.row 0 1 xs])) :
  Zcn FC PR BY 2 [8,3] 8 12 1 Zbk c2A (Zb l) (.int .i64 k,.agg []) tm σ=some ([(8,.map 1),(3,.sl 2 1 0 (n+1))],[.var [.map 1],.map (Zb l),.row 1 1 (xs++[.int .i64 k]),.free]):=by
 have hk:=eq_true (Zic l 3)
 unfold Zcn
 rw [h]
 generalize Zb l=M at *
 simp -implicitDefEqProofs only [EQA,Z7,Zaf,Zaa,Zah,Zak,Zaj,Zal,Zab,Z9,Zam,Zad,Z5,Zag,Z8,Zai,implies_true,forall_const,Nat.reduceAdd,Nat.reduceSub,Nat.reduceLT,Nat.reduceLeDiff,Nat.reduceEqDiff,Nat.reduceBEq,Nat.reduceMul,ZU,ZY,unA,ZE,ZI,unG,reduceCtorEq,Zr,decide_eq_true_eq,Bool.not_eq_true,Bool.decide_eq_true,ite_self,↓reduceIte,ZH,ZV,gcT,gcA,Zy,Zm,Zf,Zj,ZD,Zd,Zz,Zp,ZF,List.range_succ,Zcj,ZbP,Zb8,oI,oN,Zan,Z4,Z6,Z3,Z2,Z0,hk,hx,hb,ZcB,Zbk,c2A,oI,Zax,kOk,viewAs,ZaV,ZaE,ZaP,Zh,List.length_singleton,Nat.one_mul,Zbn,ZcS]
theorem ZkX (l:List Int) (g n:Nat) (xs:List AVal):gcT 2 (keepL [8,3] [(8,.map 1),(3,.sl 2 g 0 n)]) [.var [.map 1],.map (Zb l),.row g 1 xs,.free]=([(8,.map 1),(3,.sl 2 0 0 n)],[.var [.map 1],.map (Zb l),.row 0 1 xs]):=by
 have hr:=ZbA l
 have hn:=fun ρ=>Zbl ρ l
 generalize Zb l=M at *
 simp -implicitDefEqProofs only [EQA,Z7,Zaf,Zaa,Zah,Zak,Zaj,Zal,Zab,Z9,Zam,Zad,Z5,Zag,Z8,Zai,implies_true,forall_const,Nat.reduceAdd,Nat.reduceSub,Nat.reduceLT,Nat.reduceLeDiff,Nat.reduceEqDiff,Nat.reduceBEq,Nat.reduceMul,ZU,ZY,unA,ZE,ZI,unG,reduceCtorEq,Zr,decide_eq_true_eq,Bool.not_eq_true,Bool.decide_eq_true,ite_self,↓reduceIte,ZH,ZV,gcT,gcA,Zy,Zm,Zf,Zj,ZD,Zd,Zz,Zp,ZF,List.range_succ,Zcj,ZbP,Zb8,oI,oN,Zan,Z4,Z6,Z3,Z2,Z0,hr,hn]
theorem ZuD (l:List Int) (n:Nat) (xs:List AVal):gcT 2 (keepL [8,3] [(8,.map 1),(3,.sl 2 0 0 n)]) [.var [.map 1],.map (Zb l),.row 0 1 xs]=([(8,.map 1),(3,.sl 2 0 0 n)],[.var [.map 1],.map (Zb l),.row 0 1 xs]):=by
 have hr:=ZbA l
 have hn:=fun ρ=>Zbl ρ l
 generalize Zb l=M at *
 simp -implicitDefEqProofs only [EQA,Z7,Zaf,Zaa,Zah,Zak,Zaj,Zal,Zab,Z9,Zam,Zad,Z5,Zag,Z8,Zai,implies_true,forall_const,Nat.reduceAdd,Nat.reduceSub,Nat.reduceLT,Nat.reduceLeDiff,Nat.reduceEqDiff,Nat.reduceBEq,Nat.reduceMul,ZU,ZY,unA,ZE,ZI,unG,reduceCtorEq,Zr,decide_eq_true_eq,Bool.not_eq_true,Bool.decide_eq_true,ite_self,↓reduceIte,ZH,ZV,gcT,gcA,Zy,Zm,Zf,Zj,ZD,Zd,Zz,Zp,ZF,List.range_succ,Zcj,ZbP,Zb8,oI,oN,Zan,Z4,Z6,Z3,Z2,Z0,hr,hn]
theorem Zjn (l:List Int) (hl:l.length*8<=140737488355328):∀ (r d:List Int) (tm:Tms) (σ:Za),d≠[]->d.length+r.length<=l.length->gcT 2 (keepL [8,3] tm) σ=([(8,.map 1),(3,.sl 2 0 0 d.length)],[.var [.map 1],.map (Zb l),.row 0 1 (d.map (AVal.int .i64))]) ->
  ∃ tm' σ',Zbe FC PR BY 2 [8,3] 8 12 1 Zbk c2A (Zb l) (Zb r) tm σ=some (tm',σ')/\gcT 2 (keepL [8,3] tm') σ'=([(8,.map 1),(3,.sl 2 0 0 (d++r).length)],[.var [.map 1],.map (Zb l),.row 0 1 ((d++r).map (AVal.int .i64))])
 | [],d,tm,σ,hd,hb,h=>⟨tm,σ,rfl,by rw [List.append_nil];exact h⟩
 | k::r,d,tm,σ,hd,hb,h=>by
  have hb1:(d.length+1)*8<=140737488355328:=by simp only [List.length_cons] at hb;omega
  have e:=Zrh l k tm σ d.length (d.map (AVal.int .i64)) (by simp) hb1 h
  show ∃ tm' σ',(match Zcn FC PR BY 2 [8,3] 8 12 1 Zbk c2A (Zb l) (.int .i64 k,.agg []) tm σ with
   | some (tm',σ')=>Zbe FC PR BY 2 [8,3] 8 12 1 Zbk c2A (Zb l) (Zb r) tm' σ'
   | none=>none)=some (tm',σ')/\_
  rw [e]
  have ih:=Zjn l hl r (d++[k]) [(8,.map 1),(3,.sl 2 1 0 (d.length+1))] [.var [.map 1],.map (Zb l),.row 1 1 (d.map (AVal.int .i64)++[.int .i64 k]),.free] (by simp) (by simp only [List.length_append,List.length_cons,List.length_nil] at hb ⊢;omega)
   (by rw [ZkX];simp)
  rw [List.append_assoc,List.singleton_append] at ih
  exact ih
def ZaL (l:List Int):List Int:=l.mergeSort fun x y=>decide (x<=y)
theorem Zh4:∀ d:List Int,Zbp ZcR (d.map (AVal.int .i64))=some d
 | []=>rfl
 | x::d=>by
  show (Zbp ZcR (d.map (AVal.int .i64))).map (x::·)=_
  rw [Zh4 d];rfl
theorem ZtB (d:List Int) (h:d.length < 4611686018427387904):E 22 [.sl 0 0 0 d.length] [.row 0 1 (d.map (AVal.int .i64))]=some (.tup [],[.row 0 1 ((ZaL d).map (AVal.int .i64))]):=by
 refine ZbO.2 ⟨1,?_⟩
 show ZeX [.sl 0 0 0 d.length] [.row 0 1 (d.map (AVal.int .i64))]=_
 simp only [ZeX,Zey,Zh4,List.length_map,h,and_self,if_true]
 rfl
theorem Zrx (d:List Int) (h:d.length < 4611686018427387904) {σ:Za} {t sq:Nat} (hs:σ[t]?=some (.row 0 1 (d.map (AVal.int .i64)))):Zx E BY σ sq 22 0 true [.sl t 0 0 d.length]=some (.tup [],σ.set t (.row 0 1 ((ZaL d).map (AVal.int .i64))),{ any:=true }):=by
 refine Zka (args':=[.sl 0 0 0 d.length]) hs (by kernel_rfl) rfl rfl (fun ρ h=>by simp only [Zt,Ze,h]) (fun ρ=>rfl) (Or.inl rfl) ?_
 rw [ZtB d h]
 rfl
theorem Zmd (σ:Za) (sq:Nat):Zx E BY σ sq 22 0 true [.lst true []]=some (.tup [],σ,{}):=by
 have h:E 22 [.lst true []] []=some (.tup [],[]):=ZbO.2 ⟨1,rfl⟩
 unfold Zx Zbq
 rw [show BY 22=true by kernel_rfl]
 simp only [if_true,show ZA [AVal.lst true []]=[] from rfl,show Zh σ []=σ from rfl]
 rw [show Zm σ 1000 [] []=[] from rfl]
 unfold Zbg
 rw [if_pos (by rfl),show Zt (Zf σ 0 []) [AVal.lst true []]=[.lst true []] from rfl,show Zj σ 0 [] (Zf σ 0 []) [] 0=[] from rfl,h]
 rfl
theorem Zl1 (l d:List Int) (tm:Tms) (σ:Za) (hd:d.length < 4611686018427387904) (h:gcT 2 (keepL [8,3] tm) σ=([(8,.map 1),(3,.sl 2 0 0 d.length)],[.var [.map 1],.map (Zb l),.row 0 1 (d.map (AVal.int .i64))])) :
  Zcq FC PR BY 2 [8,3] c3A [.tmp 2] tm σ=some (.sl 2 0 0 d.length,[.var [.map 1],.map (Zb l),.row 0 1 ((ZaL d).map (AVal.int .i64))]):=by
 have hr:=ZbA l
 have hn:=fun ρ=>Zbl ρ l
 have hs:=fun {σ:Za} {sq:Nat} hs=>Zrx d hd (σ:=σ) (t:=2) (sq:=sq) hs
 unfold Zcq
 rw [h]
 generalize Zb l=M at *
 generalize (ZaL d).map (AVal.int .i64)=S at *
 generalize d.map (AVal.int .i64)=D at *
 simp -implicitDefEqProofs only [EQA,Z7,Zaf,Zaa,Zah,Zak,Zaj,Zal,Zab,Z9,Zam,Zad,Z5,Zag,Z8,Zai,implies_true,forall_const,Nat.reduceAdd,Nat.reduceSub,Nat.reduceLT,Nat.reduceLeDiff,Nat.reduceEqDiff,Nat.reduceBEq,Nat.reduceMul,ZU,ZY,unA,ZE,ZI,unG,reduceCtorEq,Zr,decide_eq_true_eq,Bool.not_eq_true,Bool.decide_eq_true,ite_self,↓reduceIte,ZH,ZV,gcT,gcA,Zy,Zm,Zf,Zj,ZD,Zd,Zz,Zp,ZF,List.range_succ,Zcj,ZbP,Zb8,oI,oN,Zan,Z4,Z6,Z3,Z2,Z0,hs,hr,hn,c3A,oI]
 simp only [ZaJ,gcA,Zy,ZA,ZT,List.range_succ,List.range_zero,List.nil_append,List.append_nil,List.flatMap_cons,List.flatMap_nil,List.cons_append,List.getD_cons_zero,List.getD_cons_succ,ZF,hr]
 rw [show Zm [.var [.map 1],.map M,.row 0 1 S] 1000 [2,1] [0,1]=[0,1,2] from rfl]
 have e0:Zf [.var [.map 1],.map M,.row 0 1 S] 2 [0,1,2] 1 0=some (1,0):=rfl
 have e1:Zf [.var [.map 1],.map M,.row 0 1 S] 2 [0,1,2] 2 0=some (2,0):=rfl
 simp only [Zj,Zt,Ze,Zp,e0,e1,hn,List.getD_cons_zero,List.getD_cons_succ,Zz,Zd,Nat.lt_irrefl,false_and,if_false]
theorem Zo7 (l:List Int) (tm:Tms) (σ:Za) (h:gcT 2 (keepL [8,3] tm) σ=([(8,.map 1),(3,.lst true [])],[.var [.map 1],.map (Zb l)])) :
  Zcq FC PR BY 2 [8,3] c3A [.tmp 2] tm σ=some (.lst true [],[.var [.map 1],.map (Zb l)]):=by
 have hr:=ZbA l
 have hn:=fun ρ=>Zbl ρ l
 have hs:=Zmd
 unfold Zcq
 rw [h]
 generalize Zb l=M at *
 simp -implicitDefEqProofs only [EQA,Z7,Zaf,Zaa,Zah,Zak,Zaj,Zal,Zab,Z9,Zam,Zad,Z5,Zag,Z8,Zai,implies_true,forall_const,Nat.reduceAdd,Nat.reduceSub,Nat.reduceLT,Nat.reduceLeDiff,Nat.reduceEqDiff,Nat.reduceBEq,Nat.reduceMul,ZU,ZY,unA,ZE,ZI,unG,reduceCtorEq,Zr,decide_eq_true_eq,Bool.not_eq_true,Bool.decide_eq_true,ite_self,↓reduceIte,ZH,ZV,gcT,gcA,Zy,Zm,Zf,Zj,ZD,Zd,Zz,Zp,ZF,List.range_succ,Zcj,ZbP,Zb8,oI,oN,Zan,Z4,Z6,Z3,Z2,Z0,hs,hr,hn,c3A,oI]
 simp only [ZaJ,gcA,Zy,ZA,ZT,List.range_succ,List.range_zero,List.nil_append,List.append_nil,List.flatMap_cons,List.flatMap_nil,List.cons_append,List.getD_cons_zero,List.getD_cons_succ,ZF,hr]
 rw [show Zm [.var [.map 1],.map M] 1000 [1] [0,1]=[0,1] from rfl]
 have e0:Zf [.var [.map 1],.map M] 2 [0,1] 1 0=some (1,0):=rfl
 simp only [Zj,Zt,Ze,Zp,e0,hn,List.getD_cons_zero,List.getD_cons_succ]
theorem Znr {α:Type} {p:α->Prop} (h:∃ x,p x) {a:α} (hu:∀ x,p x->x=a):h.choose=a:=hu _ h.choose_spec
theorem ZmN {es:List (AVal×AVal)} {tm:Tms} {σ:Za} {out:AVal×Za} {m ms en b1:Nat} {live:List Nat} {aslE:List AOp} {c2 c3:Zi} {rs:List Zbi} (h:∀ es':List (AVal×AVal),es'.Perm es->Zcw FC PR BY m live ms en b1 aslE c2 c3 rs es es' tm σ=some out):Zd4 FC PR BY m live ms en b1 aslE c2 c3 rs es tm σ=some out:=by
 have h':∃ out,∀ es':List (AVal×AVal),es'.Perm es->Zcw FC PR BY m live ms en b1 aslE c2 c3 rs es es' tm σ=some out:=⟨out,h⟩
 unfold Zd4
 rw [dif_pos h']
 refine congrArg some (Znr h' fun x hx=>?_)
 have:=(hx es (List.Perm.refl _)).symm.trans (h es (List.Perm.refl _))
 injection this
theorem Zlp {l:List Int} {es:List (AVal×AVal)} (h:es.Perm (Zb l)):∃ d:List Int,d.Perm l/\es=Zb d:=by
 refine ⟨es.map fun p=>match p.1 with | .int _ n=>n | _=>0,?_,?_⟩
 ·have:=h.map fun p:AVal×AVal=>match p.1 with | .int _ n=>n | _=>0
  refine this.trans ?_
  rw [Zb,List.map_map]
  rw [show l.map ((fun p:AVal×AVal=>match p.1 with | .int _ n=>n | _=>(0:Int)) ∘ fun k=>(AVal.int .i64 k,AVal.agg []))=l from by rw [show ((fun p:AVal×AVal=>match p.1 with | .int _ n=>n | _=>(0:Int)) ∘ fun k=>(AVal.int .i64 k,AVal.agg []))=id from rfl,List.map_id]]
 ·unfold Zb
  rw [List.map_map]
  conv=>lhs;rw [<-List.map_id es]
  apply List.map_congr_left
  intro p hp
  have hp:=h.mem_iff.1 hp
  obtain ⟨x,_,rfl⟩:=List.mem_map.1 hp
  rfl
theorem Zu7 {d l:List Int} (h:d.Perm l):ZaL d=ZaL l:=by
 unfold ZaL
 have ht:∀ a b c:Int,decide (a<=b)=true->decide (b<=c)=true->decide (a<=c)=true:=by intro a b c;simp only [decide_eq_true_eq];omega
 have hto:∀ a b:Int,(decide (a<=b) || decide (b<=a))=true:=by intro a b;simp only [Bool.or_eq_true,decide_eq_true_eq];omega
 have h1:=List.pairwise_mergeSort ht hto d
 have h2:=List.pairwise_mergeSort ht hto l
 have hp:(d.mergeSort fun x y=>decide (x<=y)).Perm (l.mergeSort fun x y=>decide (x<=y)):=((List.mergeSort_perm d _).trans h).trans (List.mergeSort_perm l _).symm
 exact hp.eq_of_pairwise (fun a b _ _ h1 h2=>by simp only [decide_eq_true_eq] at h1 h2;omega) h1 h2
theorem ZkD (l:List Int) {tm:Tms} (h8:tget tm 8=.map 1) (h3:tget tm 3=.lst true []):gcT 2 (keepL [8,3] tm) [.var [.map 1],.map (Zb l)]=([(8,.map 1),(3,.lst true [])],[.var [.map 1],.map (Zb l)]):=by
 have hr:=ZbA l
 have hn:=fun ρ=>Zbl ρ l
 generalize Zb l=M at *
 simp -implicitDefEqProofs only [EQA,Z7,Zaf,Zaa,Zah,Zak,Zaj,Zal,Zab,Z9,Zam,Zad,Z5,Zag,Z8,Zai,implies_true,forall_const,Nat.reduceAdd,Nat.reduceSub,Nat.reduceLT,Nat.reduceLeDiff,Nat.reduceEqDiff,Nat.reduceBEq,Nat.reduceMul,ZU,ZY,unA,ZE,ZI,unG,reduceCtorEq,Zr,decide_eq_true_eq,Bool.not_eq_true,Bool.decide_eq_true,ite_self,↓reduceIte,ZH,ZV,gcT,gcA,Zy,Zm,Zf,Zj,ZD,Zd,Zz,Zp,ZF,List.range_succ,Zcj,ZbP,Zb8,oI,oN,Zan,Z4,Z6,Z3,Z2,Z0,hr,hn,h8,h3]
theorem ZmF (l:List Int) (hl:l.length*8<=140737488355328) (tm:Tms) (h8:tget tm 8=.map 1) (h3:tget tm 3=.lst true []):∀ es',es'.Perm (Zb l) ->
  Zcw FC PR BY 2 [8,3] 8 12 1 Zbk c2A c3A [.tmp 2] (Zb l) es' tm (Zk l)=some (if l=[] then (.lst true [],Zk l) else (.sl 2 0 0 l.length,[.var [.map 1],.map (Zb l),.row 0 1 ((ZaL l).map (AVal.int .i64))])):=by
 intro es' hp
 obtain ⟨d,hd,rfl⟩:=Zlp hp
 have hg:=ZkD l h8 h3
 unfold Zk at hg ⊢
 have hlen:=hd.length_eq
 cases d with
 | nil =>
  have e:l=[]:=List.nil_perm.1 hd
  rw [if_pos e]
  show (match Zbe FC PR BY 2 [8,3] 8 12 1 Zbk c2A (Zb l) [] tm [.var [.map 1],.map (Zb l)] with
   | some (tm',σ')=>Zcq FC PR BY 2 [8,3] c3A [.tmp 2] tm' σ'
   | none=>none)=_
  exact Zo7 l tm _ hg
 | cons k r =>
  have hne:¬l=[]:=by rintro rfl;cases hlen
  rw [if_neg hne]
  have e:=Zve l k tm _ hg
  obtain ⟨tm',σ',f1,f2⟩:=Zjn l hl r [k] _ _ (by simp) (by simp only [List.length_cons,List.length_nil] at hlen ⊢;omega) (ZuD l 1 [.int .i64 k])
  have e2:Zbe FC PR BY 2 [8,3] 8 12 1 Zbk c2A (Zb l) (Zb (k::r)) tm [.var [.map 1],.map (Zb l)]=some (tm',σ'):=by
   show (match Zcn FC PR BY 2 [8,3] 8 12 1 Zbk c2A (Zb l) (.int .i64 k,.agg []) tm [.var [.map 1],.map (Zb l)] with
    | some (tm',σ')=>Zbe FC PR BY 2 [8,3] 8 12 1 Zbk c2A (Zb l) (Zb r) tm' σ'
    | none=>none)=_
   rw [e]
   exact f1
  unfold Zcw
  rw [e2]
  have hlt:(k::r).length < 4611686018427387904:=by omega
  have e3:=Zl1 l (k::r) tm' σ' hlt f2
  rw [Zu7 hd,hlen] at e3
  exact e3
theorem Ziv (l:List Int) (hl:l.length*8<=140737488355328):E2 17 [.ref 0 0] (Zk l)=some (if l=[] then (.lst true [],Zk l) else (.sl 2 0 0 l.length,[.var [.map 1],.map (Zb l),.row 0 1 ((ZaL l).map (AVal.int .i64))])):=by
 rw [Zuj]
 unfold ZeP ZeH
 have e1:evC FC PR BY 2 c1A (enterA 0 [.ref 0 0] []) [.var [.map 1],.map (Zb l)]=some (.normal,[(3,.lst true []),(0,.ref 0 0)],[.var [.map 1],.map (Zb l)]):=by
  have hr:=ZbA l
  have hn:=fun ρ=>Zbl ρ l
  generalize Zb l=M at *
  simp -implicitDefEqProofs only [EQA,Z7,Zaf,Zaa,Zah,Zak,Zaj,Zal,Zab,Z9,Zam,Zad,Z5,Zag,Z8,Zai,implies_true,forall_const,Nat.reduceAdd,Nat.reduceSub,Nat.reduceLT,Nat.reduceLeDiff,Nat.reduceEqDiff,Nat.reduceBEq,Nat.reduceMul,ZU,ZY,unA,ZE,ZI,unG,reduceCtorEq,Zr,decide_eq_true_eq,Bool.not_eq_true,Bool.decide_eq_true,ite_self,↓reduceIte,ZH,ZV,gcT,gcA,Zy,Zm,Zf,Zj,ZD,Zd,Zz,Zp,ZF,List.range_succ,Zcj,ZbP,Zb8,oI,oN,Zan,Z4,Z6,Z3,Z2,Z0,hr,hn,c1A,oI]
 have e2:∃ tm,ZcB BY ZfC [(3,.lst true []),(0,.ref 0 0)] [.var [.map 1],.map (Zb l)]=some (tm,[.var [.map 1],.map (Zb l)])/\tget tm 8=.map 1/\tget tm 3=.lst true []:=by
  generalize Zb l=M
  exact ⟨_,rfl,rfl,rfl⟩
 obtain ⟨tm,e2,h8,h3⟩:=e2
 show (match evC FC PR BY 2 c1A (enterA 0 [.ref 0 0] []) [.var [.map 1],.map (Zb l)] with
  | some (.normal,tm1,σ1)=>match ZcB BY ZfC tm1 σ1 with
   | some (tm2,σ2)=>match tget tm2 8 with
    | .map t=>match σ2[t]? with
     | some (.map es)=>Zd4 FC PR BY 2 [8,3] 8 12 1 Zbk c2A c3A [.tmp 2] es tm2 σ2
     | _=>none
    | _=>none
   | none=>none
  | _=>none)=_
 rw [e1]
 simp only [e2,h8]
 exact ZmN (ZmF l hl tm h8 h3)
end
section
def ZcY:Zi:=(.seq (.region [oI 16 (.mov (.t 1)),oI 17 (.call 6 2 false [(.t 16)]),oI 3 (.mov (.t 17))] none [3]) (.seq (.seq (.region [oI 18 (.mov (.t 3)),oI 19 (.peq false (.t 18) (.c .nilp)),oI 20 (.mov (.t 19)),⟨(some 21),(.mov (.t 3)),(some (20,false)),[]⟩,⟨(some 22),(.call 20 0 true [(.t 21)]),(some (20,false)),[]⟩,⟨(some 23),(.bin .neq (.t 22) (.c (.int .i64 65535))),(some (20,false)),[]⟩,oI 24 (.pick (.t 20) (.c (.bool true)) (.t 23))] none [24,3]) (.cond (.t 24) (.seq (.region [oI 0 (.mov (.c (.bool false)))] none [0]) .ret) .skip)) (.seq (.region [oI 26 (.mov (.t 3)),oI 27 (.call 10 0 true [(.t 26)]),oI 25 (.mov (.t 27)),oI 28 (.ext (.t 25) 0),oI 29 (.ext (.t 25) 1),oI 4 (.mov (.t 28)),oI 5 (.mov (.t 29))] none [5,3]) (.seq (.seq (.region [oI 30 (.mov (.t 5)),oI 31 (.mov (.t 30)),⟨(some 32),(.mov (.t 3)),(some (31,false)),[]⟩,⟨(some 33),(.call 13 0 true [(.t 32),(.c (.int .i64 40000))]),(some (31,false)),[]⟩,⟨(some 34),(.un .not (.t 33)),(some (31,false)),[]⟩,oI 35 (.pick (.t 31) (.c (.bool true)) (.t 34)),oI 36 (.mov (.t 35)),⟨(some 37),(.mov (.t 3)),(some (36,false)),[]⟩,⟨(some 38),(.call 12 0 true [(.t 37),(.c (.int .i64 0))]),(some (36,false)),[]⟩,oI 39 (.pick (.t 36) (.c (.bool true)) (.t 38)),oI 40 (.mov (.t 39)),⟨(some 41),(.mov (.t 3)),(some (40,false)),[]⟩,⟨(some 42),(.call 12 0 true [(.t 41),(.c (.int .i64 65536))]),(some (40,false)),[]⟩,oI 43 (.pick (.t 40) (.c (.bool true)) (.t 42)),oI 44 (.mov (.t 43)),⟨(some 45),(.mov (.t 3)),(some (44,false)),[]⟩,⟨(some 46),(.call 13 0 true [(.t 45),(.c (.int .i64 0))]),(some (44,false)),[]⟩,oI 47 (.pick (.t 44) (.c (.bool true)) (.t 46)),oI 48 (.mov (.t 47)),⟨(some 49),(.mov (.t 3)),(some (48,false)),[]⟩,⟨(some 50),(.call 15 0 true [(.t 49),(.c (.int .i64 (-1)))]),(some (48,false)),[]⟩,oI 51 (.pick (.t 48) (.c (.bool true)) (.t 50))] none [51,3]) (.cond (.t 51) (.seq (.region [oI 0 (.mov (.c (.bool false)))] none [0]) .ret) .skip)) (.seq (.region [oI 53 (.mov (.t 3)),oI 54 (.call 10 0 true [(.t 53)]),oI 52 (.mov (.t 54)),oI 55 (.ext (.t 52) 0),oI 56 (.ext (.t 52) 1),oI 6 (.mov (.t 55)),oI 7 (.mov (.t 56))] none [7,6]) (.seq (.region [oI 57 (.mov (.t 7)),oI 58 (.mov (.t 57)),⟨(some 59),(.mov (.t 6)),(some (58,true)),[]⟩,⟨(some 60),(.bin .eql (.t 59) (.c (.int .i64 40000))),(some (58,true)),[]⟩,oI 61 (.pick (.t 58) (.t 60) (.c (.bool false))),oI 62 (.mov (.t 61)),⟨(some 63),(.call 7 0 true []),(some (62,true)),[]⟩,oI 64 (.pick (.t 62) (.t 63) (.c (.bool false))),oI 0 (.mov (.t 64))] none [0]) .ret))))))
def ZfW:Zi:=ZcY
def ZfD:=xw ZfW ZcY rfl
def ZcO:Zi:=(.seq (.seq (.region [oI 8 (.mov (.t 2)),oI 9 (.bin .leq (.t 8) (.c (.int .i64 65536)))] none [9,2,1]) (.cond (.t 9) .skip (.exit 0))) (.seq (.block 1 (.region [oI 12 (.mov (.t 1)),oI 13 (.mov (.t 2)),oI 14 (.bslice false 1 1 (.int .i64 0) [(0,(.t 13))]),oI 15 (.app 1 8 (.int .i64 0) (.t 12) (.t 14)),oI 1 (.mov (.t 15))] none [2,1])) (.region [oI 10 (.mov (.t 2)),oI 11 (.bin .add (.t 10) (.c (.int .i64 1))),oI 2 (.mov (.t 11))] none [2,1])))
def Zee:Zi:=ZcO
def Zfd:=xw Zee ZcO rfl
def Zdq:Zi:=(.seq (.region [oI 0 (.mov (.c (.bool false)))] none []) (.seq (.region [oI 1 (.mov (.c (.lst true [])))] none [1]) (.seq (.seq (.region [oI 2 (.mov (.c (.int .i64 0)))] none [2,1]) (.block 0 (.loop [2,1] Zee))) ZfW)))
def Zgl:ZR:=⟨[(.tmp 0)],Zdq⟩
theorem ZnN:FC 5=some Zgl:=by kernel_rfl
theorem ZfH:Zgl.body=Zdq:=rfl
theorem Zfk:Zgl.res=[(.tmp 0)]:=rfl
def Zhj:Zi:=(.seq (.region [oI 0 (.mov (.c (.bool false)))] none []) (.seq (.region [oI 6 (.bslice false 1 3 (.int .i64 0) [(0,(.c (.int .i64 2))),(1,(.c (.int .i64 2))),(2,(.c (.int .i64 0)))]),oI 7 (.call 6 2 false [(.t 6)]),oI 1 (.mov (.t 7))] none [1]) (.seq (.seq (.region [oI 8 (.mov (.t 1)),oI 9 (.peq false (.t 8) (.c .nilp)),oI 10 (.mov (.t 9)),⟨(some 11),(.mov (.t 1)),(some (10,false)),[]⟩,⟨(some 12),(.call 20 0 true [(.t 11)]),(some (10,false)),[]⟩,⟨(some 13),(.bin .neq (.t 12) (.c (.int .i64 1))),(some (10,false)),[]⟩,oI 14 (.pick (.t 10) (.c (.bool true)) (.t 13))] none [14,1]) (.cond (.t 14) (.seq (.region [oI 0 (.mov (.c (.bool false)))] none [0]) .ret) .skip)) (.seq (.region [oI 16 (.mov (.t 1)),oI 17 (.call 10 0 true [(.t 16)]),oI 15 (.mov (.t 17)),oI 18 (.ext (.t 15) 0),oI 19 (.ext (.t 15) 1),oI 2 (.mov (.t 18)),oI 3 (.mov (.t 19))] none [3,2,1]) (.seq (.region [oI 21 (.mov (.t 1)),oI 22 (.call 10 0 true [(.t 21)]),oI 20 (.mov (.t 22)),oI 23 (.ext (.t 20) 0),oI 24 (.ext (.t 20) 1),oI 4 (.mov (.t 23)),oI 5 (.mov (.t 24))] none [5,4,3,2,1]) (.seq (.region [oI 25 (.mov (.t 3)),oI 26 (.mov (.t 25)),⟨(some 27),(.mov (.t 2)),(some (26,true)),[]⟩,⟨(some 28),(.bin .eql (.t 27) (.c (.int .i64 1))),(some (26,true)),[]⟩,oI 29 (.pick (.t 26) (.t 28) (.c (.bool false))),oI 30 (.mov (.t 29)),⟨(some 31),(.mov (.t 5)),(some (30,true)),[]⟩,oI 32 (.pick (.t 30) (.t 31) (.c (.bool false))),oI 33 (.mov (.t 32)),⟨(some 34),(.mov (.t 4)),(some (33,true)),[]⟩,⟨(some 35),(.bin .eql (.t 34) (.c (.int .i64 3))),(some (33,true)),[]⟩,oI 36 (.pick (.t 33) (.t 35) (.c (.bool false))),oI 37 (.mov (.t 36)),⟨(some 38),(.mov (.t 1)),(some (37,true)),[]⟩,⟨(some 39),(.call 13 0 true [(.t 38),(.c (.int .i64 2))]),(some (37,true)),[]⟩,oI 40 (.pick (.t 37) (.t 39) (.c (.bool false))),oI 41 (.mov (.t 40)),⟨(some 42),(.mov (.t 1)),(some (41,true)),[]⟩,⟨(some 43),(.call 13 0 true [(.t 42),(.c (.int .i64 2))]),(some (41,true)),[]⟩,⟨(some 44),(.un .not (.t 43)),(some (41,true)),[]⟩,oI 45 (.pick (.t 41) (.t 44) (.c (.bool false))),oI 46 (.mov (.t 45)),⟨(some 47),(.mov (.t 1)),(some (46,true)),[]⟩,⟨(some 48),(.call 17 0 true [(.t 47)]),(some (46,true)),[]⟩,⟨(some 49),(.bslice false 1 2 (.int .i64 0) [(0,(.c (.int .i64 1))),(1,(.c (.int .i64 3)))]),(some (46,true)),[]⟩,⟨(some 50),(.call 19 0 true [(.t 48),(.t 49)]),(some (46,true)),[]⟩,oI 51 (.pick (.t 46) (.t 50) (.c (.bool false))),oI 0 (.mov (.t 51))] none [0]) .ret))))))
def ZfX:ZR:=⟨[(.tmp 0)],Zhj⟩
theorem ZuT:FC 7=some ZfX:=by kernel_rfl
theorem Zr7:ZfX.body=Zhj:=rfl
theorem Zpr:ZfX.res=[(.tmp 0)]:=rfl
end
section
def ZcV:Zi:=(.seq (.region [oI 4 (.mov (.c (.bool true)))] none [4]) .ret)
def Zho:Zi:=ZcV
def ZdW:=xw Zho ZcV rfl
def Zda:Zi:=(.seq (.seq (.region [oI 11 (.mov (.t 5)),oI 12 (.mov (.t 0)),oI 13 (.len (.t 12)),oI 14 (.bin .lss (.t 11) (.t 13))] none [14,5,1,0]) (.cond (.t 14) .skip (.exit 0))) (.seq (.block 1 (.seq (.region [oI 17 (.mov (.t 0)),oI 18 (.mov (.t 5)),oI 19 (.iaddr 1 (.t 17) (.t 18)),oI 20 (.ld none (.t 19)),oI 21 (.mov (.t 1)),oI 22 (.mov (.t 5)),oI 23 (.iaddr 1 (.t 21) (.t 22)),oI 24 (.ld none (.t 23)),oI 25 (.bin .neq (.t 20) (.t 24))] (some [(2,6),(3,6),(2,7),(3,7)]) [25,5,1,0]) (.cond (.t 25) (.seq (.region [oI 4 (.mov (.c (.bool false)))] none [4]) .ret) .skip))) (.region [oI 15 (.mov (.t 5)),oI 16 (.bin .add (.t 15) (.c (.int .i64 1))),oI 5 (.mov (.t 16))] none [5,1,0])))
def Zhc:Zi:=Zda
def Zex:=xw Zhc Zda rfl
def Zc8:Zi:=(.seq (.region [oI 4 (.mov (.c (.bool false)))] none [1,0]) (.seq (.seq (.region [oI 6 (.mov (.t 0)),oI 7 (.len (.t 6)),oI 8 (.mov (.t 1)),oI 9 (.len (.t 8)),oI 10 (.bin .neq (.t 7) (.t 9))] none [10,1,0]) (.cond (.t 10) (.seq (.region [oI 4 (.mov (.c (.bool false)))] none [4]) .ret) .skip)) (.seq (.seq (.region [oI 5 (.mov (.c (.int .i64 0)))] none [5,1,0]) (.block 0 (.loop [5,1,0] Zhc))) Zho)))
def Zfm:ZR:=⟨[(.tmp 4)],Zc8⟩
theorem Zln:FC 19=some Zfm:=by kernel_rfl
theorem Zep:Zfm.body=Zc8:=rfl
theorem Zeg:Zfm.res=[(.tmp 4)]:=rfl
noncomputable def ZeG (m:Nat) (tm:Tms) (σ:Za):Option (AVal×Za):=(Zat m Zfm (ZbC FC PR BY m Zho (Option.map (ZaR 0) (evL FC PR BY m [5,1,0] Zhc tm σ))))
end
section
theorem Zi6 (a b:List Int) (ha:a.length<=9223372036854775807):∀ (r s:List Int) (i:Nat),a.drop i=r->b.drop i=s->r.length=s.length ->
  ZeG 0 [(5,.int .i64 (i:Int)),(1,.lst false (b.map (.int .i64 ·))),(0,.lst false (a.map (.int .i64 ·)))] []=some (.bool (r == s),[])
 | [],s,i,h1,h2,hl=>by
  have e:s=[]:=List.length_eq_zero_iff.1 hl.symm
  subst e
  have h0:=Zu0 h1
  unfold ZeG
  rw [ZbH]
  simp -implicitDefEqProofs only [EQA,Z7,Zaf,Zaa,Zah,Zak,Zaj,Zal,Zab,Z9,Zam,Zad,Z5,Zag,Z8,Zai,implies_true,forall_const,Nat.reduceAdd,Nat.reduceSub,Nat.reduceLT,Nat.reduceLeDiff,Nat.reduceEqDiff,Nat.reduceBEq,Nat.reduceMul,ZU,ZY,unA,ZE,ZI,unG,reduceCtorEq,Zr,decide_eq_true_eq,Bool.not_eq_true,Bool.decide_eq_true,ite_self,↓reduceIte,ZH,ZV,gcT,gcA,Zy,Zm,Zf,Zj,ZD,Zd,Zz,Zp,ZF,List.range_succ,Zep,Zc8,Zeg,ZdW,ZcV,Zex,Zda,oI,oN,Zan,Z4,Z6,Z3,Z2,Z0,h0,List.length_map]
 | x::r,y::s,i,h1,h2,hl=>by
  obtain ⟨g1,d1,l1⟩:=ZhR h1
  obtain ⟨g2,d2,l2⟩:=ZhR h2
  have h0:(i:Int) < (a.length:Int):=by omega
  have e1:=fun σ kk=>iad g1 (AVal.int IntKind.i64 ·) (k:=1) rfl σ false kk
  have e2:=fun σ kk=>iad g2 (AVal.int IntKind.i64 ·) (k:=1) rfl σ false kk
  have hw:=Zi9 (i:=i) h0 ha
  have ih:=Zi6 a b ha r s (i+1) d1 d2 (by simpa using hl)
  unfold ZeG at ih ⊢
  by_cases hxy:x=y
  ·subst hxy
   have hb:(x != x)=false:=by simp
   rw [show ((x::r) == (x::s))=(r == s) from by simp]
   rw [ZbH]
   simp -implicitDefEqProofs only [EQA,Z7,Zaf,Zaa,Zah,Zak,Zaj,Zal,Zab,Z9,Zam,Zad,Z5,Zag,Z8,Zai,implies_true,forall_const,Nat.reduceAdd,Nat.reduceSub,Nat.reduceLT,Nat.reduceLeDiff,Nat.reduceEqDiff,Nat.reduceBEq,Nat.reduceMul,ZU,ZY,unA,ZE,ZI,unG,reduceCtorEq,Zr,decide_eq_true_eq,Bool.not_eq_true,Bool.decide_eq_true,ite_self,↓reduceIte,ZH,ZV,gcT,gcA,Zy,Zm,Zf,Zj,ZD,Zd,Zz,Zp,ZF,List.range_succ,Zep,Zc8,Zeg,ZdW,ZcV,Zex,Zda,oI,oN,Zan,Z4,Z6,Z3,Z2,Z0,h0,e1,e2,hw,hb,List.length_map]
   exact ih
  ·have hb:(x != y)=true:=by simpa using hxy
   rw [show ((x::r) == (y::s))=false from by simp [hxy]]
   rw [ZbH]
   simp -implicitDefEqProofs only [EQA,Z7,Zaf,Zaa,Zah,Zak,Zaj,Zal,Zab,Z9,Zam,Zad,Z5,Zag,Z8,Zai,implies_true,forall_const,Nat.reduceAdd,Nat.reduceSub,Nat.reduceLT,Nat.reduceLeDiff,Nat.reduceEqDiff,Nat.reduceBEq,Nat.reduceMul,ZU,ZY,unA,ZE,ZI,unG,reduceCtorEq,Zr,decide_eq_true_eq,Bool.not_eq_true,Bool.decide_eq_true,ite_self,↓reduceIte,ZH,ZV,gcT,gcA,Zy,Zm,Zf,Zj,ZD,Zd,Zz,Zp,ZF,List.range_succ,Zep,Zc8,Zeg,ZdW,ZcV,Zex,Zda,oI,oN,Zan,Z4,Z6,Z3,Z2,Z0,h0,e1,e2,hw,hb,List.length_map]
theorem ZuE (a b:List Int) (ha:a.length<=9223372036854775807):E 19 [.lst false (a.map (.int .i64 ·)),.lst false (b.map (.int .i64 ·))] []=some (.bool (a == b),[]):=by
 rw [Zb1 (by rfl) Zln]
 by_cases h:a.length=b.length
 ·have hn:=ZuB h
  have hl:=Zi6 a b ha a b 0 rfl rfl h
  have z:((0:Nat):Int)=0:=rfl
  rw [z] at hl
  unfold ZeG at hl
  simp -implicitDefEqProofs only [EQA,Z7,Zaf,Zaa,Zah,Zak,Zaj,Zal,Zab,Z9,Zam,Zad,Z5,Zag,Z8,Zai,implies_true,forall_const,Nat.reduceAdd,Nat.reduceSub,Nat.reduceLT,Nat.reduceLeDiff,Nat.reduceEqDiff,Nat.reduceBEq,Nat.reduceMul,ZU,ZY,unA,ZE,ZI,unG,reduceCtorEq,Zr,decide_eq_true_eq,Bool.not_eq_true,Bool.decide_eq_true,ite_self,↓reduceIte,ZH,ZV,gcT,gcA,Zy,Zm,Zf,Zj,ZD,Zd,Zz,Zp,ZF,List.range_succ,Zep,Zc8,Zeg,ZdW,ZcV,Zex,Zda,oI,oN,Zan,Z4,Z6,Z3,Z2,Z0,hn,List.length_map]
  exact hl
 ·have hn:=Zlf h
  have e:=ZtY h
  rw [e]
  simp -implicitDefEqProofs only [EQA,Z7,Zaf,Zaa,Zah,Zak,Zaj,Zal,Zab,Z9,Zam,Zad,Z5,Zag,Z8,Zai,implies_true,forall_const,Nat.reduceAdd,Nat.reduceSub,Nat.reduceLT,Nat.reduceLeDiff,Nat.reduceEqDiff,Nat.reduceBEq,Nat.reduceMul,ZU,ZY,unA,ZE,ZI,unG,reduceCtorEq,Zr,decide_eq_true_eq,Bool.not_eq_true,Bool.decide_eq_true,ite_self,↓reduceIte,ZH,ZV,gcT,gcA,Zy,Zm,Zf,Zj,ZD,Zd,Zz,Zp,ZF,List.range_succ,Zep,Zc8,Zeg,ZdW,ZcV,Zex,Zda,oI,oN,Zan,Z4,Z6,Z3,Z2,Z0,hn,List.length_map]
theorem Zv6 (σ:Za) (sq own:Nat) (x y:Bool) (a b:List Int) (ha:a.length<=9223372036854775807):Zx E BY σ sq 19 own true [.lst x (a.map (.int .i64 ·)),.lst y (b.map (.int .i64 ·))]=some (.bool (a == b),σ,{}) :=
 ZiU (ZuE a b ha) (by kernel_rfl) rfl rfl rfl (fun _=>rfl) _ _ _
end
section
theorem Zbb {σ:Za} {sq f own:Nat} {view:Bool} {args:List AVal} {r:AVal×Za×Cls} (h:Zx E BY σ sq f own view args=some r):Zx E2 BY σ sq f own view args=some r:=ZfY ZpH h
theorem ZhF (xs:List Int) (hx:xs.length<=9223372036854775807) {σ:Za} {args:List AVal} {ts:List Nat} {sq:Nat} (hsh:showAs σ args=some ([.lst false (xs.map (.int .i64 ·))],ts)) (hff:ZaH (Zh σ ts) sq 2=true) :
  Zx E BY σ sq 6 2 false args=some (.ref sq 0,((Zh σ ts).set sq (.var [.map (sq+1)])).set (sq+1) (.map (Zb (Zc6 xs))),{ any:=true }) :=
 Znu (by kernel_rfl) hsh rfl rfl (Ztj xs hx) hff
theorem ZtM (l:List Int) (hl:l.length*8<=140737488355328):ZaF true 2 (E2 17 [.ref 0 0] (Zk l))=some (.lst false ((ZaL l).map (AVal.int .i64)),Zk l):=by
 rw [Ziv l hl]
 have hln:l.length=(ZaL l).length:=(List.length_mergeSort l).symm
 by_cases h:l=[]
 ·rw [if_pos h]
  subst h
  have hs:ZaL []=[]:=by simp [ZaL]
  rw [hs]
  rfl
 ·rw [if_neg h]
  have he:Zr [.var [.map 1],.map (Zb l),.row 0 1 ((ZaL l).map (AVal.int .i64))] (.sl 2 0 0 l.length)=some ((ZaL l).map (AVal.int .i64),[2]):=by
   simp [Zr,hln,List.take_of_length_le]
  show ZbZ 2 (some (.sl 2 0 0 l.length,[.var [.map 1],.map (Zb l),.row 0 1 ((ZaL l).map (AVal.int .i64))]))=_
  simp only [ZbZ,viewR,ZaV,ZaE,he]
  exact ZbL (r:=.lst false ((ZaL l).map (AVal.int .i64))) rfl l [.frow 0 1 ((ZaL l).map (AVal.int .i64))]
theorem ZrM (l:List Int) (hl:l.length*8<=140737488355328) {σ:Za} {t m sq:Nat} (htm:t≠m) (hs:σ[t]?=some (.var [.map m])) (hm:σ[m]?=some (.map (Zb l))) :
  Zx E2 BY σ sq 17 0 true [.ref t 0]=some (.lst false ((ZaL l).map (AVal.int .i64)),(σ.set t (.var [.map m])).set m (.map (Zb l)),{ any:=true,upd:=[(t,[.map m])] }):=by
 have ha:=ZtM l hl
 obtain ⟨p,hp⟩:∃ p,E2 17 [.ref 0 0] (Zk l)=some p:=⟨_,Ziv l hl⟩
 rw [hp] at ha
 exact Ziz (args:=[]) (r0:=p.1) (h0:=p.2) rfl hp ha (by kernel_rfl) rfl rfl htm hs hm rfl
theorem ZqP:E2 7 [] []=some (.bool true,[]):=by
 have hN:=fun {σ:Za} {sq:Nat} hff=>Zbb (ZhF [2,2,0] (by decide) (σ:=σ) (sq:=sq) (args:=[.lst true [.int .i64 2,.int .i64 2,.int .i64 0]]) (ts:=[]) rfl hff)
 rw [show Zc6 [2,2,0]=[2] from by decide] at hN
 have hL:=fun {σ:Za} {sq:Nat} {view:Bool} hs hm=>Zbb (ZjD [2] (σ:=σ) (t:=0) (m:=1) (sq:=sq) (own:=0) (view:=view) (by decide) hs hm rfl)
 have hT:=fun {σ:Za} {sq:Nat} {view:Bool} hs hm=>Zbb (ZeE [2] (σ:=σ) (t:=0) (m:=1) (sq:=sq) (own:=0) (view:=view) (by decide) hs hm rfl)
 have hT2:=fun {σ:Za} {sq:Nat} {view:Bool} hs hm=>Zbb (ZeE [2,1] (σ:=σ) (t:=0) (m:=1) (sq:=sq) (own:=0) (view:=view) (by decide) hs hm rfl)
 have hF:=fun {σ:Za} {sq:Nat} {view:Bool} hs hm=>Zbb (Ze6 [2,1,3] 2 (σ:=σ) (t:=0) (m:=1) (sq:=sq) (own:=0) (view:=view) (by decide) hs hm rfl)
 have hF2:=fun {σ:Za} {sq:Nat} {view:Bool} hs hm=>Zbb (Ze6 [1,3] 2 (σ:=σ) (t:=0) (m:=1) (sq:=sq) (own:=0) (view:=view) (by decide) hs hm rfl)
 have hA:=fun {σ:Za} {sq:Nat} hs hm=>ZrM [1,3] (by decide) (σ:=σ) (t:=0) (m:=1) (sq:=sq) (by decide) hs hm
 have t1:ZbF [2]=((1,true),[2,1]):=by rfl
 have t2:ZbF [2,1]=((3,true),[2,1,3]):=by rfl
 have f1:([2,1,3]:List Int).contains 2=true:=by decide
 have f2:([2,1,3]:List Int).erase 2=[1,3]:=by decide
 have f3:([1,3]:List Int).contains 2=false:=by decide
 have f4:([1,3]:List Int).erase 2=[1,3]:=by decide
 have s1:ZaL [1,3]=[1,3]:=by simp [ZaL,List.mergeSort]
 rw [t1] at hT
 rw [t2] at hT2
 rw [f1,f2] at hF
 rw [f3,f4] at hF2
 rw [s1] at hA
 have hI:=fun σ sq own=>Zbb (Zv6 σ sq own false true [1,3] [1,3] (by decide))
 have hI:∀ σ sq own,Zx E2 BY σ sq 19 own true [.lst false [.int .i64 1,.int .i64 3],.lst true [.int .i64 1,.int .i64 3]]=some (.bool true,σ,{}):=hI
 have z1:((1:Nat):Int)=1:=rfl
 rw [Zi4 (by rfl) ZuT]
 simp -implicitDefEqProofs only [EQA,Z7,Zaf,Zaa,Zah,Zak,Zaj,Zal,Zab,Z9,Zam,Zad,Z5,Zag,Z8,Zai,implies_true,forall_const,Nat.reduceAdd,Nat.reduceSub,Nat.reduceLT,Nat.reduceLeDiff,Nat.reduceEqDiff,Nat.reduceBEq,Nat.reduceMul,ZU,ZY,unA,ZE,ZI,unG,reduceCtorEq,Zr,decide_eq_true_eq,Bool.not_eq_true,Bool.decide_eq_true,ite_self,↓reduceIte,ZH,ZV,gcT,gcA,Zy,Zm,Zf,Zj,ZD,Zd,Zz,Zp,ZF,List.range_succ,Zr7,Zhj,Zpr,oI,oN,Zan,Z4,Z6,Z3,Z2,Z0,ZbA,Zbl,hN,hL,hT,hT2,hF,hF2,hA,hI,ZaH,Zh,Zax,kOk,viewAs,ZaV,ZaE,ZaP,Zh,List.length_singleton,Nat.one_mul,Zbn,ZcS,List.zip_cons_cons,List.zip_nil_left,List.map_cons,List.map_nil,List.length_cons,List.length_nil,z1,bne_self_eq_false]
end
section
theorem ZiA:∀ (n:Nat) (l:List Int),(∀ j:Int,1<=j->j<=n->j ∈ l)->n<=l.length
 | 0,_,_=>Nat.zero_le _
 | n+1,l,h=>by
  have hm:((n+1:Nat):Int) ∈ l:=h _ (by omega) (by omega)
  have ih:=ZiA n (l.erase ((n+1:Nat):Int)) fun j h1 h2=>(List.mem_erase_of_ne (by omega)).2 (h j h1 (by omega))
  have:=List.length_erase_of_mem hm
  have hp:0 < l.length:=List.length_pos_of_mem hm
  omega
theorem Zix (l:List Int) (hl:l.length < 65535):∀ (n:Nat) (k:Int),k=65536 - (n:Int)->1<=k->(∀ j:Int,1<=j->j < k->l.contains j=true) ->
  ∃ id,ZbB l n k=((id,true),l++[id])/\1<=id/\id<=65535/\l.contains id=false/\∀ j:Int,1<=j->j < id->l.contains j=true
 | 0,k,hk,h1,h=>by
  have:=ZiA 65535 l fun j h1 h2=>by simpa using h j h1 (by omega)
  omega
 | n+1,k,hk,h1,h=>by
  unfold ZbB
  cases hc:l.contains k with
  | true =>
   rw [if_pos rfl]
   refine Zix l hl n (k+1) (by omega) (by omega) fun j j1 j2=>?_
   by_cases e:j=k
   ·subst e;exact hc
   ·exact h j j1 (by omega)
  | false =>
   rw [if_neg (by simp)]
   exact ⟨k,rfl,h1,by omega,hc,h⟩
theorem ZmM (l:List Int) (hl:l.length < 65535):∃ id,ZbF l=((id,true),l++[id])/\1<=id/\id<=65535/\l.contains id=false/\∀ j:Int,1<=j->j < id->l.contains j=true :=
 Zix l hl 65535 1 (by decide) (by decide) fun j _ _=>by omega
theorem Zse (σ:Za) (sq own:Nat):Zx E2 BY σ sq 7 own true []=some (.bool true,σ,{}) :=
 ZiU ZqP (by kernel_rfl) rfl rfl rfl (fun _=>rfl) _ _ _
theorem xw2 (c d:Zi) (h:c=d) (m:Nat) (tm:Tms) (σ:Za):evC FC PR2 BY m c tm σ=evC FC PR2 BY m d tm σ:=by rw [h]
end
section
def upA (n:Nat):List Int:=(List.range n).map fun i=>((i+1:Nat):Int)
theorem Ztz (n:Nat):upA (n+1)=upA n++[((n+1:Nat):Int)]:=by
 unfold upA
 rw [List.range_succ,List.map_append];rfl
theorem ZfU (n:Nat) (k:Int):k ∈ upA n↔1<=k/\k<=n:=by
 unfold upA
 rw [List.mem_map]
 constructor
 ·rintro ⟨i,hi,rfl⟩
  rw [List.mem_range] at hi
  omega
 ·rintro ⟨h1,h2⟩
  refine ⟨(k - 1).toNat,?_,?_⟩
  ·rw [List.mem_range];omega
  ·omega
theorem ZhG (n:Nat):(upA n).length=n:=by simp [upA]
theorem ZrR (n:Nat):(upA n).Nodup:=by
 unfold upA
 refine List.Pairwise.map _ (fun a b h=>?_) List.nodup_range
 omega
theorem Zf1 (n:Nat) (k:Int):(upA n).contains k=decide (1<=k/\k<=n):=by
 rw [Bool.eq_iff_iff]
 simp only [List.contains_iff_mem,ZfU,decide_eq_true_eq]
theorem Zun (n:Nat) (h:n < 65535):Zap (upA n) ((n+1:Nat):Int)=(true,upA (n+1)):=by
 unfold Zap
 rw [if_neg,Ztz]
 rintro (h1 | h1 | h1)
 ·omega
 ·omega
 ·rw [Zf1] at h1
  simp only [decide_eq_true_eq] at h1
  omega
theorem Zii:∀ n:Nat,n<=65535->((List.range (n+1)).map fun (i:Nat)=>(i:Int)).foldl (fun a k=>(Zap a k).2) []=upA n
 | 0,_=>by
  show (Zap [] 0).2=_
  unfold Zap
  rw [if_pos (Or.inl (by decide))]
  rfl
 | n+1,h=>by
  rw [List.range_succ,List.map_append,List.foldl_append,Zii n (by omega)]
  show (Zap (upA n) ((n+1:Nat):Int)).2=_
  rw [Zun n (by omega)]
theorem Zkt:Zc6 ((List.range 65537).map fun (i:Nat)=>(i:Int))=upA 65535:=by
 unfold Zc6
 rw [show 65537=65535+1+1 from rfl,List.range_succ,List.map_append,List.foldl_append,Zii 65535 (Nat.le_refl _)]
 show (Zap (upA 65535) ((65535+1:Nat):Int)).2=_
 unfold Zap
 rw [if_pos (Or.inr (Or.inl (by decide)))]
theorem ZhK (l:List Int):∀ (n:Nat) (k:Int),(∀ j:Int,k<=j->j < k+n->l.contains j=true)->ZbB l n k=((0,false),l)
 | 0,_,_=>rfl
 | n+1,k,h=>by
  unfold ZbB
  rw [if_pos (h k (by omega) (by omega))]
  exact ZhK l n (k+1) fun j h1 h2=>h j (by omega) (by omega)
theorem ZtI:ZbF (upA 65535)=((0,false),upA 65535) :=
 ZhK _ _ _ fun j h1 h2=>by rw [Zf1];simp only [decide_eq_true_eq];omega
def ZaK:List Int:=(upA 65535).erase 40000
theorem Zf0 (k:Int):ZaK.contains k=decide (1<=k/\k<=65535/\k≠40000):=by
 rw [Bool.eq_iff_iff]
 simp only [List.contains_iff_mem,decide_eq_true_eq,ZaK]
 rw [(ZrR 65535).mem_erase_iff,ZfU]
 omega
theorem Zm5:ZbF ZaK=((40000,true),ZaK++[40000]):=by
 have hl:ZaK.length < 65535:=by
  have h:(40000:Int) ∈ upA 65535:=by rw [ZfU];omega
  have:=List.length_erase_of_mem h
  have h2:=ZhG 65535
  unfold ZaK
  omega
 obtain ⟨id,e,h1,h2,h3,h4⟩:=ZmM ZaK hl
 have : id=40000:=by
  rw [Zf0] at h3
  simp only [decide_eq_false_iff_not] at h3
  omega
 subst this
 exact e
def Ze8:=xw2 ZfW ZcY rfl
def ZeZ:=xw2 Zee ZcO rfl
def ZaQ (n:Nat):List Int:=(List.range n).map fun (i:Nat)=>(i:Int)
theorem Zi1 (n:Nat):(ZaQ n).length=n:=by simp [ZaQ]
theorem Zvb (n:Nat):ZaQ (n+1)=ZaQ n++[(n:Int)]:=by
 unfold ZaQ
 rw [List.range_succ,List.map_append];rfl
theorem ZjP:∀ (r n:Nat),n+r=65536 ->
  evL FC PR2 BY 0 [2,1] Zee [(2,.int .i64 ((n+1:Nat):Int)),(1,.sl 0 0 0 (n+1))] [.row 0 1 ((ZaQ (n+1)).map (AVal.int .i64))] =
   some (.exit 0,[(9,.bool false),(2,.int .i64 65537),(1,.sl 0 0 0 65537)],[.row 0 1 ((ZaQ 65537).map (AVal.int .i64))])
 | 0,n,h=>by
  obtain rfl:n=65536:=by omega
  have h0:¬((65536+1:Nat):Int)<=65536:=by decide
  have z:((65536+1:Nat):Int)=65537:=rfl
  rw [ZbH]
  generalize (ZaQ (65536+1)).map (AVal.int .i64)=X
  simp -implicitDefEqProofs only [EQA,Z7,Zaf,Zaa,Zah,Zak,Zaj,Zal,Zab,Z9,Zam,Zad,Z5,Zag,Z8,Zai,implies_true,forall_const,Nat.reduceAdd,Nat.reduceSub,Nat.reduceLT,Nat.reduceLeDiff,Nat.reduceEqDiff,Nat.reduceBEq,Nat.reduceMul,ZU,ZY,unA,ZE,ZI,unG,reduceCtorEq,Zr,decide_eq_true_eq,Bool.not_eq_true,Bool.decide_eq_true,ite_self,↓reduceIte,ZH,ZV,gcT,gcA,Zy,Zm,Zf,Zj,ZD,Zd,Zz,Zp,ZF,List.range_succ,ZfH,Zdq,Zfk,ZfD,ZcY,Zfd,ZcO,oI,oN,Zan,Z4,Z6,Z3,Z2,Z0,Ze8,ZeZ,h0]
  rfl
 | r+1,n,h=>by
  have h0:((n+1:Nat):Int)<=65536:=by omega
  have hw:IntKind.i64.wrap (((n+1:Nat):Int)+1)=((n+1+1:Nat):Int):=by rw [ZgO (by omega) (by omega)];rfl
  have ih:=ZjP r (n+1) (by omega)
  have hb2:(n+1+1)*8<=140737488355328:=by omega
  have hX:((ZaQ (n+1)).map (AVal.int .i64)).length=n+1:=by rw [List.length_map,Zi1]
  rw [Zvb (n+1),List.map_append,List.map_cons,List.map_nil] at ih
  generalize (ZaQ (n+1)).map (AVal.int .i64)=X at *
  generalize (ZaQ 65537).map (AVal.int .i64)=Y at *
  generalize ((n+1+1:Nat):Int)=N2 at *
  generalize ((n+1:Nat):Int)=N1 at *
  rw [ZbH]
  simp -implicitDefEqProofs only [EQA,Z7,Zaf,Zaa,Zah,Zak,Zaj,Zal,Zab,Z9,Zam,Zad,Z5,Zag,Z8,Zai,implies_true,forall_const,Nat.reduceAdd,Nat.reduceSub,Nat.reduceLT,Nat.reduceLeDiff,Nat.reduceEqDiff,Nat.reduceBEq,Nat.reduceMul,ZU,ZY,unA,ZE,ZI,unG,reduceCtorEq,Zr,decide_eq_true_eq,Bool.not_eq_true,Bool.decide_eq_true,ite_self,↓reduceIte,ZH,ZV,gcT,gcA,Zy,Zm,Zf,Zj,ZD,Zd,Zz,Zp,ZF,List.range_succ,ZfH,Zdq,Zfk,ZfD,ZcY,Zfd,ZcO,oI,oN,Zan,Z4,Z6,Z3,Z2,Z0,Ze8,ZeZ,h0,hw,hb2,hX,Zax,kOk,viewAs,ZaV,ZaE,ZaP,Zh,List.length_singleton,Nat.one_mul]
  exact ih
theorem Zmk:evL FC PR2 BY 0 [2,1] Zee [(2,.int .i64 0),(1,.lst true [])] []=some (.exit 0,[(9,.bool false),(2,.int .i64 65537),(1,.sl 0 0 0 65537)],[.row 0 1 ((ZaQ 65537).map (AVal.int .i64))]):=by
 have ih:=ZjP 65536 0 rfl
 have h0:(0:Int)<=65536:=by decide
 have hw:IntKind.i64.wrap (0+1)=((0+1:Nat):Int):=by decide
 rw [show (ZaQ (0+1)).map (AVal.int .i64)=[.int .i64 0] from rfl] at ih
 generalize (ZaQ 65537).map (AVal.int .i64)=Y at *
 generalize ((0+1:Nat):Int)=N1 at *
 rw [ZbH]
 simp -implicitDefEqProofs only [EQA,Z7,Zaf,Zaa,Zah,Zak,Zaj,Zal,Zab,Z9,Zam,Zad,Z5,Zag,Z8,Zai,implies_true,forall_const,Nat.reduceAdd,Nat.reduceSub,Nat.reduceLT,Nat.reduceLeDiff,Nat.reduceEqDiff,Nat.reduceBEq,Nat.reduceMul,ZU,ZY,unA,ZE,ZI,unG,reduceCtorEq,Zr,decide_eq_true_eq,Bool.not_eq_true,Bool.decide_eq_true,ite_self,↓reduceIte,ZH,ZV,gcT,gcA,Zy,Zm,Zf,Zj,ZD,Zd,Zz,Zp,ZF,List.range_succ,ZfH,Zdq,Zfk,ZfD,ZcY,Zfd,ZcO,oI,oN,Zan,Z4,Z6,Z3,Z2,Z0,Ze8,ZeZ,h0,hw,Zax,kOk,viewAs,ZaV,ZaE,ZaP,Zh,List.length_singleton,Nat.one_mul]
 exact ih
theorem ZkT : E2 5 [] [] = some (.bool true, []) := by
  have h3 := Zmk
  have hlen : (ZaQ 65537).length = 65537 := Zi1 _
  have hN := fun {σ : Za} {sq : Nat} (h0 : σ[0]? = some (.row 0 1 ((ZaQ 65537).map (AVal.int .i64)))) hff => Zbb (ZhF (ZaQ 65537) (by rw [hlen]; decide) (σ := σ) (sq := sq) (args := [.sl 0 0 0 65537]) (ts := [0]) (by
      have he : Zr σ (.sl 0 0 0 65537) = some ((ZaQ 65537).map (AVal.int .i64), [0]) := by simp [Zr, h0, List.take_of_length_le, hlen]
      simp only [showAs, showA, Zbh, he]
      rfl) hff)
  rw [show Zc6 (ZaQ 65537) = upA 65535 from Zkt] at hN
  have hL := fun {σ : Za} {sq : Nat} {view : Bool} hs hm => Zbb (ZjD (upA 65535) (σ := σ) (t := 1) (m := 2) (sq := sq) (own := 0) (view := view) (by decide) hs hm rfl)
  rw [ZhG] at hL
  have hT := fun {σ : Za} {sq : Nat} {view : Bool} hs hm => Zbb (ZeE (upA 65535) (σ := σ) (t := 1) (m := 2) (sq := sq) (own := 0) (view := view) (by decide) hs hm rfl)
  rw [ZtI] at hT
  have hF := fun {σ : Za} {sq : Nat} {view : Bool} hs hm => Zbb (Ze6 (upA 65535) 40000 (σ := σ) (t := 1) (m := 2) (sq := sq) (own := 0) (view := view) (by decide) hs hm rfl)
  rw [Zf1, show (upA 65535).erase 40000 = ZaK from rfl] at hF
  have hH0 := fun {σ : Za} {sq : Nat} {view : Bool} hs hm => Zbb (Ze4 ZaK 0 (σ := σ) (t := 1) (m := 2) (sq := sq) (own := 0) (view := view) (by decide) hs hm rfl)
  rw [show Zap ZaK 0 = (false, ZaK) from by unfold Zap; rw [if_pos (Or.inl (by decide))]] at hH0
  have hH1 := fun {σ : Za} {sq : Nat} {view : Bool} hs hm => Zbb (Ze4 ZaK 65536 (σ := σ) (t := 1) (m := 2) (sq := sq) (own := 0) (view := view) (by decide) hs hm rfl)
  rw [show Zap ZaK 65536 = (false, ZaK) from by unfold Zap; rw [if_pos (Or.inr (Or.inl (by decide)))]] at hH1
  have hF0 := fun {σ : Za} {sq : Nat} {view : Bool} hs hm => Zbb (Ze6 ZaK 0 (σ := σ) (t := 1) (m := 2) (sq := sq) (own := 0) (view := view) (by decide) hs hm rfl)
  have c0 : ZaK.contains 0 = false := by rw [Zf0]; decide
  have c1 : ZaK.contains (-1) = false := by rw [Zf0]; decide
  rw [c0, List.erase_of_not_mem (by simpa using c0)] at hF0
  have hX := fun {σ : Za} {sq : Nat} {view : Bool} hs hm => Zbb (ZfS ZaK (-1) (σ := σ) (t := 1) (m := 2) (sq := sq) (own := 0) (view := view) (by decide) hs hm rfl)
  rw [c1] at hX
  have hT2 := fun {σ : Za} {sq : Nat} {view : Bool} hs hm => Zbb (ZeE ZaK (σ := σ) (t := 1) (m := 2) (sq := sq) (own := 0) (view := view) (by decide) hs hm rfl)
  rw [Zm5] at hT2
  have hW := Zse
  have d1 : decide ((1 : Int) <= 40000 /\ (40000 : Int) <= ((65535 : Nat) : Int)) = true := by decide
  rw [d1] at hF
  have z : ((65535 : Nat) : Int) = 65535 := rfl
  rw [z] at hL
  generalize ZaK ++ [40000] = G2 at *
  generalize ZaK = G at *
  generalize upA 65535 = U at *
  generalize (ZaQ 65537).map (AVal.int .i64) = Y at *
  rw [Zi4 (by rfl) ZnN]
  simp -implicitDefEqProofs only [EQA,Z7,Zaf,Zaa,Zah,Zak,Zaj,Zal,Zab,Z9,Zam,Zad,Z5,Zag,Z8,Zai,implies_true,forall_const,Nat.reduceAdd,Nat.reduceSub,Nat.reduceLT,Nat.reduceLeDiff,Nat.reduceEqDiff,Nat.reduceBEq,Nat.reduceMul,ZU,ZY,unA,ZE,ZI,unG,reduceCtorEq,Zr,decide_eq_true_eq,Bool.not_eq_true,Bool.decide_eq_true,ite_self,↓reduceIte,ZH,ZV,gcT,gcA,Zy,Zm,Zf,Zj,ZD,Zd,Zz,Zp,ZF,List.range_succ,ZfH,Zdq,Zfk,ZfD,ZcY,Zfd,ZcO,oI,oN,Zan,Z4,Z6,Z3,Z2,Z0,Ze8,ZeZ,h3,hN,hL,hT,hF,hH0,hH1,hF0,hX,hT2,hW,ZaH,Zh,ZbA,Zbl,bne_self_eq_false]
end
section
open Go.RowKit
theorem Zk2 (w:World):Gl.le (Imm.of w):=by
 intro b o u h
 unfold Gl at h
 cases h
end
section
open Go.ChangeShapes Go.WideShapes Go.ChangeAt Go.RowKit Go.Deep
open Go.ChangeMaps (open_string shut_string)
theorem Zs4:ownKnob Try.prog.godebug=none:=by kernel_rfl
set_option maxRecDepth 100000 in
theorem ZlN (os:Os) (started:os.Started) (H:Type) (enc:TypeId×Value->H) :
  ReturnsInHanded {} Try.checked os 5 .any (Rows.identAllSpec.pre6 enc Try.prog Try.f5 Rows.identAllRow.domain false) (Rows.identAllSpec.post enc Try.prog Try.f5 false true false false):=by
 refine returnsInHanded_of_change (C:=Try.checked) Zs4 started (by kernel_rfl) Try.func5
  (ChangeSpec.witness6 (enc:=enc) (C:=Try.checked) false ⟨#[],#[],[]⟩ 8 (by kernel_rfl) (by kernel_rfl) (by kernel_rfl) (by kernel_rfl)) ?_
 intro W base args ds gs before hval0 hW hcnd _
 have hval:∀ (j:Nat) t v,Try.f5.params[j]?=some t->args[j]?=some v->Value.okWide Try.prog W .any base t v:=hval0
 have hW':=hW
 obtain ⟨p,q,hA0,hV,rfl,hfz,hnd⟩:=hW
 have hA:DataW.TrodAll enc Try.prog W 0 (fun _=>true) true Try.f5.params.toList args.toList ds p:=hA0
 rw [Try.params5] at hA hval
 obtain ⟨rfl,rfl,rfl⟩:=trodAll_none hA
 obtain ⟨rfl,rfl⟩:=trodVars_none hV
 clear hA0 hval0
 refine (Zny Zj9 (Zk2 _) (args:=[]) rfl ZkT).mono fun e W' ⟨he,bel⟩=>?_
 subst he
 exact ⟨_,rfl,_,_,_,[],_,[],hW',trodAll_mk1 (shut_bool Try.underlying4 _),trodAll_mk0,rfl,bel.frame _,fun h=>by cases h⟩
theorem identAll_holds:Rows.IdentAllSaid :=
 OpenClaim.holds_of_wide 5 Try.f5 rfl rfl rfl rfl rfl rfl rfl ⟨rfl,rfl,rfl,rfl,rfl⟩ rfl rfl rfl rfl rfl (by kernel_rfl) Try.func5 (by kernel_rfl)
  (of_decide_eq_true (by kernel_rfl)) (by unfold Func.isWrapper;first | (rw [if_pos (by decide +kernel)];kernel_rfl) | (rw [if_neg (by decide +kernel)];exact ⟨rfl,rfl⟩))
  (fun os started H enc _=>ZlN os started H enc)
#print axioms identAll_holds
end
end Go.Proofs.Ytcgndmenpdhjcaa
