/- The statement of IdentLeast: for every input the law returns true, and each argument reads afterwards as it read before. No other condition. -/
import Derived.Test.YtcgndmenpdhjcaaMq2
import Derived.Test.YtcgndmenpdhjcaaRows
import Derived.WalkKit
import Derived.ProofKit
import Derived.OpenShut
import Derived.ShutString
import Derived.ChangeOld
import Derived.Below
set_option linter.defProp false
set_option linter.unusedSimpArgs false
set_option linter.unusedVariables false
namespace Go.Proofs.Ytcgndmenpdhjcaa
set_option maxHeartbeats 16000000
set_option maxRecDepth 10000
section
theorem Zvk (l:List Int) (k:Int):E 15 [.ref 0 0,.int .i64 k] (Zh l)=some (.bool (l.contains k),Zh l):=by
 have hl:=fun σ t (hs:σ[t]?=some (.map (Zb l)))=>ZpQ (σ:=σ) (t:=t) hs k
 have ho:=Zcf (r:=.bool (l.contains k)) rfl l
 unfold Zh at ho ⊢
 generalize Zb l=M at *
 rw [Zcj (by rfl) Zu0]
 simp -implicitDefEqProofs only [EQA,ZZ,Z4,ZS,ZQ,ZT,ZU,Z5,Z0,Z1,ZR,ZX,ZV,ZY,Z3,Z2,implies_true,forall_const,Nat.reduceAdd,Nat.reduceSub,Nat.reduceLT,Nat.reduceLeDiff,Nat.reduceEqDiff,Nat.reduceBEq,Nat.reduceMul,ZJ,ZL,unA,Zw,ZD,unG,reduceCtorEq,Zn,decide_eq_true_eq,Bool.not_eq_true,Bool.decide_eq_true,ite_self,↓reduceIte,ZA,ZI,gcT,gcA,Zs,Zk,Zf,Zj,Zv,Zc,Zt,Zm,Zz,List.range_succ,ZcN,Zca,ZcI,oI,oN,Z7,ZO,ZW,ZN,ZM,ZP,hl,ho,AVal.cells,List.all_nil]
theorem Zep (l:List Int) (k:Int) {σ:Za} {t m sq own:Nat} {view:Bool} (htm:t≠m) (hs:σ[t]?=some (.var [.map m])) (hm:σ[m]?=some (.map (Zb l))) (hff:ZaD σ sq own=true) :
  ZF E BY σ sq 15 own view [.ref t 0,.int .i64 k]=some (.bool (l.contains k),(σ.set t (.var [.map m])).set m (.map (Zb l)),{ any:=true,upd:=[(t,[.map m])] }) :=
 Zeq (O:=E) rfl rfl (Zvk l k) (by kernel_rfl) rfl rfl htm hs hm hff
theorem ZaK (l:List Int):ZG ((Zb l).map fun x=>x.2)=[]:=Zf7 l
def Zax (l:List Int) (k:Int):Bool×List Int:=if k < 1\/k > 65535\/l.contains k=true then (false,l) else (true,l++[k])
theorem Zuu (l:List Int) (k:Int):E 12 [.ref 0 0,.int .i64 k] (Zh l)=some (.bool (Zax l k).1,Zh (Zax l k).2):=by
 have hh:=fun {σ:Za} {sq:Nat} {view:Bool} hs hm=>Zep l k (σ:=σ) (t:=0) (m:=1) (sq:=sq) (own:=0) (view:=view) (by decide) hs hm rfl
 unfold Zax
 by_cases h1:k < 1
 ·rw [if_pos (Or.inl h1)]
  have ho:=Zcf (r:=.bool false) rfl l
  unfold Zh at ho ⊢
  clear hh
  generalize Zb l=M at *
  rw [Zcj (by rfl) Ze8]
  simp -implicitDefEqProofs only [EQA,ZZ,Z4,ZS,ZQ,ZT,ZU,Z5,Z0,Z1,ZR,ZX,ZV,ZY,Z3,Z2,implies_true,forall_const,Nat.reduceAdd,Nat.reduceSub,Nat.reduceLT,Nat.reduceLeDiff,Nat.reduceEqDiff,Nat.reduceBEq,Nat.reduceMul,ZJ,ZL,unA,Zw,ZD,unG,reduceCtorEq,Zn,decide_eq_true_eq,Bool.not_eq_true,Bool.decide_eq_true,ite_self,↓reduceIte,ZA,ZI,gcT,gcA,Zs,Zk,Zf,Zj,Zv,Zc,Zt,Zm,Zz,List.range_succ,Zfv,ZdP,Zfd,oI,oN,Z7,ZO,ZW,ZN,ZM,ZP,h1,ho]
 by_cases h2:k > 65535
 ·rw [if_pos (Or.inr (Or.inl h2))]
  have ho:=Zcf (r:=.bool false) rfl l
  unfold Zh at ho ⊢
  clear hh
  generalize Zb l=M at *
  rw [Zcj (by rfl) Ze8]
  simp -implicitDefEqProofs only [EQA,ZZ,Z4,ZS,ZQ,ZT,ZU,Z5,Z0,Z1,ZR,ZX,ZV,ZY,Z3,Z2,implies_true,forall_const,Nat.reduceAdd,Nat.reduceSub,Nat.reduceLT,Nat.reduceLeDiff,Nat.reduceEqDiff,Nat.reduceBEq,Nat.reduceMul,ZJ,ZL,unA,Zw,ZD,unG,reduceCtorEq,Zn,decide_eq_true_eq,Bool.not_eq_true,Bool.decide_eq_true,ite_self,↓reduceIte,ZA,ZI,gcT,gcA,Zs,Zk,Zf,Zj,Zv,Zc,Zt,Zm,Zz,List.range_succ,Zfv,ZdP,Zfd,oI,oN,Z7,ZO,ZW,ZN,ZM,ZP,h1,h2,ho]
 cases h3:l.contains k with
 | true =>
  rw [if_pos (Or.inr (Or.inr rfl))]
  have ho:=Zcf (r:=.bool false) rfl l
  rw [h3] at hh
  unfold Zh at ho ⊢
  generalize Zb l=M at *
  rw [Zcj (by rfl) Ze8]
  simp -implicitDefEqProofs only [EQA,ZZ,Z4,ZS,ZQ,ZT,ZU,Z5,Z0,Z1,ZR,ZX,ZV,ZY,Z3,Z2,implies_true,forall_const,Nat.reduceAdd,Nat.reduceSub,Nat.reduceLT,Nat.reduceLeDiff,Nat.reduceEqDiff,Nat.reduceBEq,Nat.reduceMul,ZJ,ZL,unA,Zw,ZD,unG,reduceCtorEq,Zn,decide_eq_true_eq,Bool.not_eq_true,Bool.decide_eq_true,ite_self,↓reduceIte,ZA,ZI,gcT,gcA,Zs,Zk,Zf,Zj,Zv,Zc,Zt,Zm,Zz,List.range_succ,Zfv,ZdP,Zfd,oI,oN,Z7,ZO,ZW,ZN,ZM,ZP,h1,h2,hh,ho]
 | false =>
  rw [if_neg (by simp [h1,h2,h3])]
  have hs:=fun σ t (hs:σ[t]?=some (.map (Zb l)))=>ZqZ (σ:=σ) (t:=t) hs h3
  have ho:=Zcf (r:=.bool true) rfl (l++[k])
  rw [h3] at hh
  unfold Zh at ho ⊢
  generalize Zb (l++[k])=M2 at *
  generalize Zb l=M at *
  rw [Zcj (by rfl) Ze8]
  simp -implicitDefEqProofs only [EQA,ZZ,Z4,ZS,ZQ,ZT,ZU,Z5,Z0,Z1,ZR,ZX,ZV,ZY,Z3,Z2,implies_true,forall_const,Nat.reduceAdd,Nat.reduceSub,Nat.reduceLT,Nat.reduceLeDiff,Nat.reduceEqDiff,Nat.reduceBEq,Nat.reduceMul,ZJ,ZL,unA,Zw,ZD,unG,reduceCtorEq,Zn,decide_eq_true_eq,Bool.not_eq_true,Bool.decide_eq_true,ite_self,↓reduceIte,ZA,ZI,gcT,gcA,Zs,Zk,Zf,Zj,Zv,Zc,Zt,Zm,Zz,List.range_succ,Zfv,ZdP,Zfd,oI,oN,Z7,ZO,ZW,ZN,ZM,ZP,h1,h2,hh,hs,ho,Zc1,AVal.cells]
theorem ZhF (l:List Int) (k:Int) {σ:Za} {t m sq own:Nat} {view:Bool} (htm:t≠m) (hs:σ[t]?=some (.var [.map m])) (hm:σ[m]?=some (.map (Zb l))) (hff:ZaD σ sq own=true) :
  ZF E BY σ sq 12 own view [.ref t 0,.int .i64 k]=some (.bool (Zax l k).1,(σ.set t (.var [.map m])).set m (.map (Zb (Zax l k).2)),{ any:=true,upd:=[(t,[.map m])] }) :=
 Zeq (O:=E) rfl rfl (Zuu l k) (by kernel_rfl) rfl rfl htm hs hm hff
theorem Zts (l:List Int) (k:Int):E 13 [.ref 0 0,.int .i64 k] (Zh l)=some (.bool (l.contains k),Zh (l.erase k)):=by
 have hh:=fun {σ:Za} {sq:Nat} {view:Bool} hs hm=>Zep l k (σ:=σ) (t:=0) (m:=1) (sq:=sq) (own:=0) (view:=view) (by decide) hs hm rfl
 have hs:=fun σ t (hs:σ[t]?=some (.map (Zb l)))=>Zng (σ:=σ) (t:=t) hs k
 have ho:=Zcf (r:=.bool (l.contains k)) rfl (l.erase k)
 unfold Zh at ho ⊢
 generalize Zb (l.erase k)=M2 at *
 generalize Zb l=M at *
 rw [Zcj (by rfl) Zr3]
 simp -implicitDefEqProofs only [EQA,ZZ,Z4,ZS,ZQ,ZT,ZU,Z5,Z0,Z1,ZR,ZX,ZV,ZY,Z3,Z2,implies_true,forall_const,Nat.reduceAdd,Nat.reduceSub,Nat.reduceLT,Nat.reduceLeDiff,Nat.reduceEqDiff,Nat.reduceBEq,Nat.reduceMul,ZJ,ZL,unA,Zw,ZD,unG,reduceCtorEq,Zn,decide_eq_true_eq,Bool.not_eq_true,Bool.decide_eq_true,ite_self,↓reduceIte,ZA,ZI,gcT,gcA,Zs,Zk,Zf,Zj,Zv,Zc,Zt,Zm,Zz,List.range_succ,ZsX,Zha,Zmk,oI,oN,Z7,ZO,ZW,ZN,ZM,ZP,hh,hs,ho]
theorem Zhw (l:List Int) (k:Int) {σ:Za} {t m sq own:Nat} {view:Bool} (htm:t≠m) (hs:σ[t]?=some (.var [.map m])) (hm:σ[m]?=some (.map (Zb l))) (hff:ZaD σ sq own=true) :
  ZF E BY σ sq 13 own view [.ref t 0,.int .i64 k]=some (.bool (l.contains k),(σ.set t (.var [.map m])).set m (.map (Zb (l.erase k))),{ any:=true,upd:=[(t,[.map m])] }) :=
 Zeq (O:=E) rfl rfl (Zts l k) (by kernel_rfl) rfl rfl htm hs hm hff
theorem ZmN (l:List Int):E 20 [.ref 0 0] (Zh l)=some (.int .i64 l.length,Zh l):=by
 have hs:=fun σ t (hs:σ[t]?=some (.map (Zb l)))=>Zvd (σ:=σ) (t:=t) hs
 have ho:=Zcf (r:=.int .i64 l.length) rfl l
 unfold Zh at ho ⊢
 generalize Zb l=M at *
 rw [Zcj (by rfl) ZnK]
 simp -implicitDefEqProofs only [EQA,ZZ,Z4,ZS,ZQ,ZT,ZU,Z5,Z0,Z1,ZR,ZX,ZV,ZY,Z3,Z2,implies_true,forall_const,Nat.reduceAdd,Nat.reduceSub,Nat.reduceLT,Nat.reduceLeDiff,Nat.reduceEqDiff,Nat.reduceBEq,Nat.reduceMul,ZJ,ZL,unA,Zw,ZD,unG,reduceCtorEq,Zn,decide_eq_true_eq,Bool.not_eq_true,Bool.decide_eq_true,ite_self,↓reduceIte,ZA,ZI,gcT,gcA,Zs,Zk,Zf,Zj,Zv,Zc,Zt,Zm,Zz,List.range_succ,Zpv,Zg6,Zvv,oI,oN,Z7,ZO,ZW,ZN,ZM,ZP,hs,ho]
theorem ZpF (l:List Int) {σ:Za} {t m sq own:Nat} {view:Bool} (htm:t≠m) (hs:σ[t]?=some (.var [.map m])) (hm:σ[m]?=some (.map (Zb l))) (hff:ZaD σ sq own=true) :
  ZF E BY σ sq 20 own view [.ref t 0]=some (.int .i64 l.length,(σ.set t (.var [.map m])).set m (.map (Zb l)),{ any:=true,upd:=[(t,[.map m])] }) :=
 Zeq (O:=E) (args:=[]) rfl rfl (ZmN l) (by kernel_rfl) rfl rfl htm hs hm hff
def Zcn (l:List Int):Nat->Int->(Int×Bool)×List Int
 | 0,_=>((0,false),l)
 | n+1,k=>if l.contains k=true then Zcn l n (k+1) else ((k,true),l++[k])
def Zcs (l:List Int):(Int×Bool)×List Int:=Zcn l 65535 1
theorem ZiT (l:List Int):∀ (n:Nat) (k:Int),k=65536 - (n:Int)->1<=k ->
  Zee 2 [(4,.int .i64 k),(0,.ref 0 0)] (Zh l)=some (.tup [.int .i64 (Zcn l n k).1.1,.bool (Zcn l n k).1.2],Zh (Zcn l n k).2)
 | 0,k,hk,h1=>by
  have h2:¬k<=65535:=by omega
  unfold Zcn
  have ho:=Zcf (r:=.tup [.int .i64 0,.bool false]) rfl l
  unfold Zh at ho ⊢
  generalize Zb l=M at *
  unfold Zee
  rw [Za6]
  simp -implicitDefEqProofs only [EQA,ZZ,Z4,ZS,ZQ,ZT,ZU,Z5,Z0,Z1,ZR,ZX,ZV,ZY,Z3,Z2,implies_true,forall_const,Nat.reduceAdd,Nat.reduceSub,Nat.reduceLT,Nat.reduceLeDiff,Nat.reduceEqDiff,Nat.reduceBEq,Nat.reduceMul,ZJ,ZL,unA,Zw,ZD,unG,reduceCtorEq,Zn,decide_eq_true_eq,Bool.not_eq_true,Bool.decide_eq_true,ite_self,↓reduceIte,ZA,ZI,gcT,gcA,Zs,Zk,Zf,Zj,Zv,Zc,Zt,Zm,Zz,List.range_succ,ZfQ,Zd7,Zfo,ZfC,ZdN,Zfu,Zd6,oI,oN,Z7,ZO,ZW,ZN,ZM,ZP,h2,ho]
 | n+1,k,hk,h1=>by
  have h2:k<=65535:=by omega
  have ih:=ZiT l n (k+1) (by omega) (by omega)
  have hh:=fun {σ:Za} {sq:Nat} {view:Bool} hs hm=>ZhF l k (σ:=σ) (t:=0) (m:=1) (sq:=sq) (own:=0) (view:=view) (by decide) hs hm rfl
  have hw:IntKind.i64.wrap (k+1)=k+1:=Zgb (by omega) (by omega)
  have gm:∀ (σ:Za) (ρ:Rho),Zy ρ []=[]:=fun _ _=>rfl
  unfold Zcn
  cases hc:l.contains k with
  | true =>
   rw [if_pos rfl]
   have e:Zax l k=(false,l):=by unfold Zax;rw [if_pos (Or.inr (Or.inr hc))]
   rw [e] at hh
   unfold Zh at ih ⊢
   have hr:=ZaK l
   have hn:=fun ρ=>ZaB ρ l
   generalize Zb l=M at *
   unfold Zee at ih ⊢
   rw [Za6]
   simp -implicitDefEqProofs only [EQA,ZZ,Z4,ZS,ZQ,ZT,ZU,Z5,Z0,Z1,ZR,ZX,ZV,ZY,Z3,Z2,implies_true,forall_const,Nat.reduceAdd,Nat.reduceSub,Nat.reduceLT,Nat.reduceLeDiff,Nat.reduceEqDiff,Nat.reduceBEq,Nat.reduceMul,ZJ,ZL,unA,Zw,ZD,unG,reduceCtorEq,Zn,decide_eq_true_eq,Bool.not_eq_true,Bool.decide_eq_true,ite_self,↓reduceIte,ZA,ZI,gcT,gcA,Zs,Zk,Zf,Zj,Zv,Zc,Zt,Zm,Zz,List.range_succ,ZfQ,Zd7,Zfo,ZfC,ZdN,Zfu,Zd6,oI,oN,Z7,ZO,ZW,ZN,ZM,ZP,h2,hh,hw,hr,hn]
   exact ih
  | false =>
   rw [if_neg (by simp)]
   have e:Zax l k=(true,l++[k]):=by unfold Zax;rw [if_neg (by rintro (h | h | h);omega;omega;rw [hc] at h;cases h)]
   rw [e] at hh
   have ho:=Zcf (r:=.tup [.int .i64 k,.bool true]) rfl (l++[k])
   unfold Zh at ho ⊢
   have hr:=ZaK l
   have hn:=fun ρ=>ZaB ρ l
   generalize Zb (l++[k])=M2 at *
   generalize Zb l=M at *
   unfold Zee
   rw [Za6]
   simp -implicitDefEqProofs only [EQA,ZZ,Z4,ZS,ZQ,ZT,ZU,Z5,Z0,Z1,ZR,ZX,ZV,ZY,Z3,Z2,implies_true,forall_const,Nat.reduceAdd,Nat.reduceSub,Nat.reduceLT,Nat.reduceLeDiff,Nat.reduceEqDiff,Nat.reduceBEq,Nat.reduceMul,ZJ,ZL,unA,Zw,ZD,unG,reduceCtorEq,Zn,decide_eq_true_eq,Bool.not_eq_true,Bool.decide_eq_true,ite_self,↓reduceIte,ZA,ZI,gcT,gcA,Zs,Zk,Zf,Zj,Zv,Zc,Zt,Zm,Zz,List.range_succ,ZfQ,Zd7,Zfo,ZfC,ZdN,Zfu,Zd6,oI,oN,Z7,ZO,ZW,ZN,ZM,ZP,h2,hh,hw,hr,hn,ho]
theorem Zpe (l:List Int):E 10 [.ref 0 0] (Zh l)=some (.tup [.int .i64 (Zcs l).1.1,.bool (Zcs l).1.2],Zh (Zcs l).2):=by
 have h:=ZiT l 65535 1 (by decide) (by decide)
 unfold Zcs
 generalize Zcn l 65535 1=R at *
 have hr:=ZaK l
 have hn:=fun ρ=>ZaB ρ l
 unfold Zh at h ⊢
 generalize Zb l=M at *
 unfold Zee at h
 rw [Zcj (by rfl) ZnZ]
 simp -implicitDefEqProofs only [EQA,ZZ,Z4,ZS,ZQ,ZT,ZU,Z5,Z0,Z1,ZR,ZX,ZV,ZY,Z3,Z2,implies_true,forall_const,Nat.reduceAdd,Nat.reduceSub,Nat.reduceLT,Nat.reduceLeDiff,Nat.reduceEqDiff,Nat.reduceBEq,Nat.reduceMul,ZJ,ZL,unA,Zw,ZD,unG,reduceCtorEq,Zn,decide_eq_true_eq,Bool.not_eq_true,Bool.decide_eq_true,ite_self,↓reduceIte,ZA,ZI,gcT,gcA,Zs,Zk,Zf,Zj,Zv,Zc,Zt,Zm,Zz,List.range_succ,ZfQ,Zd7,Zfo,ZfC,ZdN,Zfu,Zd6,oI,oN,Z7,ZO,ZW,ZN,ZM,ZP,hr,hn]
 exact h
theorem ZgI (l:List Int) {σ:Za} {t m sq own:Nat} {view:Bool} (htm:t≠m) (hs:σ[t]?=some (.var [.map m])) (hm:σ[m]?=some (.map (Zb l))) (hff:ZaD σ sq own=true) :
  ZF E BY σ sq 10 own view [.ref t 0]=some (.tup [.int .i64 (Zcs l).1.1,.bool (Zcs l).1.2],(σ.set t (.var [.map m])).set m (.map (Zb (Zcs l).2)),{ any:=true,upd:=[(t,[.map m])] }) :=
 Zeq (O:=E) (args:=[]) rfl rfl (Zpe l) (by kernel_rfl) rfl rfl htm hs hm hff
end
section
def Zdh (xs:List Int):List Int:=xs.foldl (fun a k=>(Zax a k).2) []
theorem ZqR (l:List Int):ZaM 0 (Zh l) (.ref 0 0)=some (.ref 0 0,Zh l):=by
 have e0:([]:List Nat).contains 0=false:=rfl
 have e1:([0]:List Nat).contains 1=false:=rfl
 have hr0:ZG [AVal.ref 0 0]=[0]:=rfl
 have hb0:Zz (.var [.map 1])=[1]:=rfl
 have g0:(Zh l).getD 0 .free=.var [.map 1]:=rfl
 have g1:(Zh l).getD 1 .free=.map (Zb l):=rfl
 have hi:Zs 0 [.ref 0 0] (Zh l)=[0,1]:=by
  unfold Zs
  rw [show List.range 0=[] from rfl,List.flatMap_nil,List.append_nil,hr0,show (1000:Nat)=997+1+1+1 from rfl]
  simp only [Zk,e0,e1,g0,g1,hb0,List.append_nil,List.nil_append,List.singleton_append,Bool.false_eq_true,if_false,Zf7,List.cons_append]
 have hρ0:Zf (Zh l) 0 [0,1] 0 0=some (0,0):=rfl
 have hρ1:Zf (Zh l) 0 [0,1] 1 0=some (1,0):=rfl
 simp only [ZaM,gcA,hi,Zj,Zy,g0,g1,Zje]
 unfold Zh at hρ0 hρ1 ⊢
 simp only [Zm,Zy,Ze,hρ0,hρ1]
theorem Ziu (xs:List Int) (hx:xs.length<=9223372036854775807):∀ (r acc:List Int) (i:Nat),xs.drop i=r ->
  ZfR 0 [(11,.int .i64 (i:Int)),(10,.int .i64 (xs.length:Int)),(9,.lst false (xs.map (.int .i64 ·))),(3,.ref 0 0)] (Zh acc)=some (.ref 0 0,Zh (r.foldl (fun a k=>(Zax a k).2) acc))
 | [],acc,i,hi=>by
  have h0:¬(i:Int) < (xs.length:Int):=by
   have:=List.drop_eq_nil_iff.1 hi;omega
  rw [List.foldl_nil]
  have ho:=ZqR acc
  unfold Zh at ho ⊢
  generalize Zb acc=M at *
  unfold ZfR
  rw [Za6]
  simp -implicitDefEqProofs only [EQA,ZZ,Z4,ZS,ZQ,ZT,ZU,Z5,Z0,Z1,ZR,ZX,ZV,ZY,Z3,Z2,implies_true,forall_const,Nat.reduceAdd,Nat.reduceSub,Nat.reduceLT,Nat.reduceLeDiff,Nat.reduceEqDiff,Nat.reduceBEq,Nat.reduceMul,ZJ,ZL,unA,Zw,ZD,unG,reduceCtorEq,Zn,decide_eq_true_eq,Bool.not_eq_true,Bool.decide_eq_true,ite_self,↓reduceIte,ZA,ZI,gcT,gcA,Zs,Zk,Zf,Zj,Zv,Zc,Zt,Zm,Zz,List.range_succ,Zg7,ZeB,Zgi,Zg5,ZeH,ZhH,Zeh,oI,oN,Z7,ZO,ZW,ZN,ZM,ZP,h0,ho]
 | x::r,acc,i,hi=>by
  have hlt:i < xs.length:=by
   rcases Nat.lt_or_ge i xs.length with h | h
   ·exact h
   ·rw [List.drop_eq_nil_iff.2 h] at hi;cases hi
  have h0:(i:Int) < (xs.length:Int):=by omega
  have hg:xs[i]?=some x:=by
   have:=congrArg List.head? hi
   simpa using this
  have hnx:xs.drop (i+1)=r:=by
   have : (xs.drop i).drop 1=r:=by rw [hi];rfl
   rwa [List.drop_drop] at this
  have ha:=fun σ kk=>iad hg (AVal.int IntKind.i64 ·) (k:=1) rfl σ false kk
  have hw:=Ze5 (i:=i) h0 hx
  have ih:=Ziu xs hx r (Zax acc x).2 (i+1) hnx
  have hh:=fun {σ:Za} {sq:Nat} {view:Bool} hs hm=>ZhF acc x (σ:=σ) (t:=0) (m:=1) (sq:=sq) (own:=0) (view:=view) (by decide) hs hm rfl
  have ho:=ZaK (Zax acc x).2
  have hn:=fun ρ=>ZaB ρ (Zax acc x).2
  rw [List.foldl_cons]
  unfold Zh at ih ⊢
  generalize (Zax acc x).1=R at *
  generalize r.foldl (fun a k=>(Zax a k).2) (Zax acc x).2=M3 at *
  generalize Zb (Zax acc x).2=M2 at *
  generalize Zb acc=M at *
  generalize hL:xs.map (AVal.int IntKind.i64 ·)=L at *
  unfold ZfR at ih ⊢
  rw [Za6]
  simp -implicitDefEqProofs only [EQA,ZZ,Z4,ZS,ZQ,ZT,ZU,Z5,Z0,Z1,ZR,ZX,ZV,ZY,Z3,Z2,implies_true,forall_const,Nat.reduceAdd,Nat.reduceSub,Nat.reduceLT,Nat.reduceLeDiff,Nat.reduceEqDiff,Nat.reduceBEq,Nat.reduceMul,ZJ,ZL,unA,Zw,ZD,unG,reduceCtorEq,Zn,decide_eq_true_eq,Bool.not_eq_true,Bool.decide_eq_true,ite_self,↓reduceIte,ZA,ZI,gcT,gcA,Zs,Zk,Zf,Zj,Zv,Zc,Zt,Zm,Zz,List.range_succ,Zg7,ZeB,Zgi,Zg5,ZeH,ZhH,Zeh,oI,oN,Z7,ZO,ZW,ZN,ZM,ZP,h0,ha,hw,hh,ho,hn]
  exact ih
theorem Zni (xs:List Int) (hx:xs.length<=9223372036854775807):E 6 [.lst false (xs.map (.int .i64 ·))] []=some (.ref 0 0,Zh (Zdh xs)):=by
 have h:=Ziu xs hx xs [] 0 rfl
 unfold Zdh
 generalize xs.foldl (fun a k=>(Zax a k).2) []=R at *
 have z:((0:Nat):Int)=0:=rfl
 rw [z] at h
 unfold Zh at h ⊢
 rw [show Zb []=[] from rfl] at h
 unfold ZfR at h
 rw [Zcj (by rfl) ZpZ]
 simp -implicitDefEqProofs only [EQA,ZZ,Z4,ZS,ZQ,ZT,ZU,Z5,Z0,Z1,ZR,ZX,ZV,ZY,Z3,Z2,implies_true,forall_const,Nat.reduceAdd,Nat.reduceSub,Nat.reduceLT,Nat.reduceLeDiff,Nat.reduceEqDiff,Nat.reduceBEq,Nat.reduceMul,ZJ,ZL,unA,Zw,ZD,unG,reduceCtorEq,Zn,decide_eq_true_eq,Bool.not_eq_true,Bool.decide_eq_true,ite_self,↓reduceIte,ZA,ZI,gcT,gcA,Zs,Zk,Zf,Zj,Zv,Zc,Zt,Zm,Zz,List.range_succ,Zg7,ZeB,Zgi,Zg5,ZeH,ZhH,Zeh,oI,oN,Z7,ZO,ZW,ZN,ZM,ZP,Zc1,AVal.cells,List.map_nil,List.length_map]
 exact h
end
section
theorem Zit (l:List Int) (n:Nat):∀ p ∈ Zb l,Ze7 n p.2=true:=by
 unfold Zb
 intro p hp
 obtain ⟨x,_,rfl⟩:=List.mem_map.1 hp
 rfl
theorem ZvU (l:List Int) (k:Int) (tm:Tms) (σ:Za) (h:gcT 2 (keepL [8,3] tm) σ=([(8,.map 1),(3,.lst true [])],[.var [.map 1],.map (Zb l)])) :
  ZcG FC PR BY 2 [8,3] 8 12 1 ZbD c2A (Zb l) (.int .i64 k,.agg []) tm σ=some ([(8,.map 1),(3,.sl 2 0 0 1)],[.var [.map 1],.map (Zb l),.row 0 1 [.int .i64 k]]):=by
 have hk:=eq_true (Zit l 2)
 unfold ZcG
 rw [h]
 generalize Zb l=M at *
 simp -implicitDefEqProofs only [EQA,ZZ,Z4,ZS,ZQ,ZT,ZU,Z5,Z0,Z1,ZR,ZX,ZV,ZY,Z3,Z2,implies_true,forall_const,Nat.reduceAdd,Nat.reduceSub,Nat.reduceLT,Nat.reduceLeDiff,Nat.reduceEqDiff,Nat.reduceBEq,Nat.reduceMul,ZJ,ZL,unA,Zw,ZD,unG,reduceCtorEq,Zn,decide_eq_true_eq,Bool.not_eq_true,Bool.decide_eq_true,ite_self,↓reduceIte,ZA,ZI,gcT,gcA,Zs,Zk,Zf,Zj,Zv,Zc,Zt,Zm,Zz,List.range_succ,ZcN,Zca,ZcI,oI,oN,Z7,ZO,ZW,ZN,ZM,ZP,hk,Zc3,ZbD,c2A,oI,Zav,kOk,viewAs,Za0,ZaG,ZaR,Zl,List.length_singleton,Nat.one_mul,ZbG,Zdt]
theorem ZpV (l:List Int) (k:Int) (tm:Tms) (σ:Za) (n:Nat) (xs:List AVal) (hx:xs.length=n) (hb:(n+1)*8<=140737488355328) (h:gcT 2 (keepL [8,3] tm) σ=([(8,.map 1),(3,.sl 2 0 0 n)],[.var [.map 1],.map (Zb l),.row 0 1 xs])) :
  ZcG FC PR BY 2 [8,3] 8 12 1 ZbD c2A (Zb l) (.int .i64 k,.agg []) tm σ=some ([(8,.map 1),(3,.sl 2 1 0 (n+1))],[.var [.map 1],.map (Zb l),.row 1 1 (xs++[.int .i64 k]),.free]):=by
 have hk:=eq_true (Zit l 3)
 unfold ZcG
 rw [h]
 generalize Zb l=M at *
 simp -implicitDefEqProofs only [EQA,ZZ,Z4,ZS,ZQ,ZT,ZU,Z5,Z0,Z1,ZR,ZX,ZV,ZY,Z3,Z2,implies_true,forall_const,Nat.reduceAdd,Nat.reduceSub,Nat.reduceLT,Nat.reduceLeDiff,Nat.reduceEqDiff,Nat.reduceBEq,Nat.reduceMul,ZJ,ZL,unA,Zw,ZD,unG,reduceCtorEq,Zn,decide_eq_true_eq,Bool.not_eq_true,Bool.decide_eq_true,ite_self,↓reduceIte,ZA,ZI,gcT,gcA,Zs,Zk,Zf,Zj,Zv,Zc,Zt,Zm,Zz,List.range_succ,ZcN,Zca,ZcI,oI,oN,Z7,ZO,ZW,ZN,ZM,ZP,hk,hx,hb,Zc3,ZbD,c2A,oI,Zav,kOk,viewAs,Za0,ZaG,ZaR,Zl,List.length_singleton,Nat.one_mul,ZbG,Zdt]
theorem ZwJ (l:List Int) (g n:Nat) (xs:List AVal):gcT 2 (keepL [8,3] [(8,.map 1),(3,.sl 2 g 0 n)]) [.var [.map 1],.map (Zb l),.row g 1 xs,.free]=([(8,.map 1),(3,.sl 2 0 0 n)],[.var [.map 1],.map (Zb l),.row 0 1 xs]):=by
 have hr:=ZaK l
 have hn:=fun ρ=>ZaB ρ l
 generalize Zb l=M at *
 simp -implicitDefEqProofs only [EQA,ZZ,Z4,ZS,ZQ,ZT,ZU,Z5,Z0,Z1,ZR,ZX,ZV,ZY,Z3,Z2,implies_true,forall_const,Nat.reduceAdd,Nat.reduceSub,Nat.reduceLT,Nat.reduceLeDiff,Nat.reduceEqDiff,Nat.reduceBEq,Nat.reduceMul,ZJ,ZL,unA,Zw,ZD,unG,reduceCtorEq,Zn,decide_eq_true_eq,Bool.not_eq_true,Bool.decide_eq_true,ite_self,↓reduceIte,ZA,ZI,gcT,gcA,Zs,Zk,Zf,Zj,Zv,Zc,Zt,Zm,Zz,List.range_succ,ZcN,Zca,ZcI,oI,oN,Z7,ZO,ZW,ZN,ZM,ZP,hr,hn]
theorem ZnR (l:List Int) (n:Nat) (xs:List AVal):gcT 2 (keepL [8,3] [(8,.map 1),(3,.sl 2 0 0 n)]) [.var [.map 1],.map (Zb l),.row 0 1 xs]=([(8,.map 1),(3,.sl 2 0 0 n)],[.var [.map 1],.map (Zb l),.row 0 1 xs]):=by
 have hr:=ZaK l
 have hn:=fun ρ=>ZaB ρ l
 generalize Zb l=M at *
 simp -implicitDefEqProofs only [EQA,ZZ,Z4,ZS,ZQ,ZT,ZU,Z5,Z0,Z1,ZR,ZX,ZV,ZY,Z3,Z2,implies_true,forall_const,Nat.reduceAdd,Nat.reduceSub,Nat.reduceLT,Nat.reduceLeDiff,Nat.reduceEqDiff,Nat.reduceBEq,Nat.reduceMul,ZJ,ZL,unA,Zw,ZD,unG,reduceCtorEq,Zn,decide_eq_true_eq,Bool.not_eq_true,Bool.decide_eq_true,ite_self,↓reduceIte,ZA,ZI,gcT,gcA,Zs,Zk,Zf,Zj,Zv,Zc,Zt,Zm,Zz,List.range_succ,ZcN,Zca,ZcI,oI,oN,Z7,ZO,ZW,ZN,ZM,ZP,hr,hn]
theorem Zjr (l:List Int) (hl:l.length*8<=140737488355328):∀ (r d:List Int) (tm:Tms) (σ:Za),d≠[]->d.length+r.length<=l.length->gcT 2 (keepL [8,3] tm) σ=([(8,.map 1),(3,.sl 2 0 0 d.length)],[.var [.map 1],.map (Zb l),.row 0 1 (d.map (AVal.int .i64))]) ->
  ∃ tm' σ',Zbv FC PR BY 2 [8,3] 8 12 1 ZbD c2A (Zb l) (Zb r) tm σ=some (tm',σ')/\gcT 2 (keepL [8,3] tm') σ'=([(8,.map 1),(3,.sl 2 0 0 (d++r).length)],[.var [.map 1],.map (Zb l),.row 0 1 ((d++r).map (AVal.int .i64))])
 | [],d,tm,σ,hd,hb,h=>⟨tm,σ,rfl,by rw [List.append_nil];exact h⟩
 | k::r,d,tm,σ,hd,hb,h=>by
  have hb1:(d.length+1)*8<=140737488355328:=by simp only [List.length_cons] at hb;omega
  have e:=ZpV l k tm σ d.length (d.map (AVal.int .i64)) (by simp) hb1 h
  show ∃ tm' σ',(match ZcG FC PR BY 2 [8,3] 8 12 1 ZbD c2A (Zb l) (.int .i64 k,.agg []) tm σ with
   | some (tm',σ')=>Zbv FC PR BY 2 [8,3] 8 12 1 ZbD c2A (Zb l) (Zb r) tm' σ'
   | none=>none)=some (tm',σ')/\_
  rw [e]
  have ih:=Zjr l hl r (d++[k]) [(8,.map 1),(3,.sl 2 1 0 (d.length+1))] [.var [.map 1],.map (Zb l),.row 1 1 (d.map (AVal.int .i64)++[.int .i64 k]),.free] (by simp) (by simp only [List.length_append,List.length_cons,List.length_nil] at hb ⊢;omega)
   (by rw [ZwJ];simp)
  rw [List.append_assoc,List.singleton_append] at ih
  exact ih
def ZaL (l:List Int):List Int:=l.mergeSort fun x y=>decide (x<=y)
theorem ZhY:∀ d:List Int,ZbN ZdA (d.map (AVal.int .i64))=some d
 | []=>rfl
 | x::d=>by
  show (ZbN ZdA (d.map (AVal.int .i64))).map (x::·)=_
  rw [ZhY d];rfl
theorem ZlZ (d:List Int) (h:d.length < 4611686018427387904):E 22 [.sl 0 0 0 d.length] [.row 0 1 (d.map (AVal.int .i64))]=some (.tup [],[.row 0 1 ((ZaL d).map (AVal.int .i64))]):=by
 refine Zcd.2 ⟨1,?_⟩
 show Zfe [.sl 0 0 0 d.length] [.row 0 1 (d.map (AVal.int .i64))]=_
 simp only [Zfe,Ze9,ZhY,List.length_map,h,and_self,if_true]
 rfl
theorem ZkJ (d:List Int) (h:d.length < 4611686018427387904) {σ:Za} {t sq:Nat} (hs:σ[t]?=some (.row 0 1 (d.map (AVal.int .i64)))):ZF E BY σ sq 22 0 true [.sl t 0 0 d.length]=some (.tup [],σ.set t (.row 0 1 ((ZaL d).map (AVal.int .i64))),{ any:=true }):=by
 refine Zvy (args':=[.sl 0 0 0 d.length]) hs (by kernel_rfl) rfl rfl (fun ρ h=>by simp only [Zy,Ze,h]) (fun ρ=>rfl) (Or.inl rfl) ?_
 rw [ZlZ d h]
 rfl
theorem ZsO (σ:Za) (sq:Nat):ZF E BY σ sq 22 0 true [.lst true []]=some (.tup [],σ,{}):=by
 have h:E 22 [.lst true []] []=some (.tup [],[]):=Zcd.2 ⟨1,rfl⟩
 unfold ZF ZbV
 rw [show BY 22=true by kernel_rfl]
 simp only [if_true,show ZG [AVal.lst true []]=[] from rfl,show Zl σ []=σ from rfl]
 rw [show Zk σ 1000 [] []=[] from rfl]
 unfold Zbz
 rw [if_pos (by rfl),show Zy (Zf σ 0 []) [AVal.lst true []]=[.lst true []] from rfl,show Zj σ 0 [] (Zf σ 0 []) [] 0=[] from rfl,h]
 rfl
theorem ZmG (l d:List Int) (tm:Tms) (σ:Za) (hd:d.length < 4611686018427387904) (h:gcT 2 (keepL [8,3] tm) σ=([(8,.map 1),(3,.sl 2 0 0 d.length)],[.var [.map 1],.map (Zb l),.row 0 1 (d.map (AVal.int .i64))])) :
  Zc6 FC PR BY 2 [8,3] c3A [.tmp 2] tm σ=some (.sl 2 0 0 d.length,[.var [.map 1],.map (Zb l),.row 0 1 ((ZaL d).map (AVal.int .i64))]):=by
 have hr:=ZaK l
 have hn:=fun ρ=>ZaB ρ l
 have hs:=fun {σ:Za} {sq:Nat} hs=>ZkJ d hd (σ:=σ) (t:=2) (sq:=sq) hs
 unfold Zc6
 rw [h]
 generalize Zb l=M at *
 generalize (ZaL d).map (AVal.int .i64)=S at *
 generalize d.map (AVal.int .i64)=D at *
 simp -implicitDefEqProofs only [EQA,ZZ,Z4,ZS,ZQ,ZT,ZU,Z5,Z0,Z1,ZR,ZX,ZV,ZY,Z3,Z2,implies_true,forall_const,Nat.reduceAdd,Nat.reduceSub,Nat.reduceLT,Nat.reduceLeDiff,Nat.reduceEqDiff,Nat.reduceBEq,Nat.reduceMul,ZJ,ZL,unA,Zw,ZD,unG,reduceCtorEq,Zn,decide_eq_true_eq,Bool.not_eq_true,Bool.decide_eq_true,ite_self,↓reduceIte,ZA,ZI,gcT,gcA,Zs,Zk,Zf,Zj,Zv,Zc,Zt,Zm,Zz,List.range_succ,ZcN,Zca,ZcI,oI,oN,Z7,ZO,ZW,ZN,ZM,ZP,hs,hr,hn,c3A,oI]
 simp only [ZaM,gcA,Zs,ZG,Zai,List.range_succ,List.range_zero,List.nil_append,List.append_nil,List.flatMap_cons,List.flatMap_nil,List.cons_append,List.getD_cons_zero,List.getD_cons_succ,Zz,hr]
 rw [show Zk [.var [.map 1],.map M,.row 0 1 S] 1000 [2,1] [0,1]=[0,1,2] from rfl]
 have e0:Zf [.var [.map 1],.map M,.row 0 1 S] 2 [0,1,2] 1 0=some (1,0):=rfl
 have e1:Zf [.var [.map 1],.map M,.row 0 1 S] 2 [0,1,2] 2 0=some (2,0):=rfl
 simp only [Zj,Zy,Ze,Zm,e0,e1,hn,List.getD_cons_zero,List.getD_cons_succ,Zt,Zc,Nat.lt_irrefl,false_and,if_false]
theorem ZqO (l:List Int) (tm:Tms) (σ:Za) (h:gcT 2 (keepL [8,3] tm) σ=([(8,.map 1),(3,.lst true [])],[.var [.map 1],.map (Zb l)])) :
  Zc6 FC PR BY 2 [8,3] c3A [.tmp 2] tm σ=some (.lst true [],[.var [.map 1],.map (Zb l)]):=by
 have hr:=ZaK l
 have hn:=fun ρ=>ZaB ρ l
 have hs:=ZsO
 unfold Zc6
 rw [h]
 generalize Zb l=M at *
 simp -implicitDefEqProofs only [EQA,ZZ,Z4,ZS,ZQ,ZT,ZU,Z5,Z0,Z1,ZR,ZX,ZV,ZY,Z3,Z2,implies_true,forall_const,Nat.reduceAdd,Nat.reduceSub,Nat.reduceLT,Nat.reduceLeDiff,Nat.reduceEqDiff,Nat.reduceBEq,Nat.reduceMul,ZJ,ZL,unA,Zw,ZD,unG,reduceCtorEq,Zn,decide_eq_true_eq,Bool.not_eq_true,Bool.decide_eq_true,ite_self,↓reduceIte,ZA,ZI,gcT,gcA,Zs,Zk,Zf,Zj,Zv,Zc,Zt,Zm,Zz,List.range_succ,ZcN,Zca,ZcI,oI,oN,Z7,ZO,ZW,ZN,ZM,ZP,hs,hr,hn,c3A,oI]
 simp only [ZaM,gcA,Zs,ZG,Zai,List.range_succ,List.range_zero,List.nil_append,List.append_nil,List.flatMap_cons,List.flatMap_nil,List.cons_append,List.getD_cons_zero,List.getD_cons_succ,Zz,hr]
 rw [show Zk [.var [.map 1],.map M] 1000 [1] [0,1]=[0,1] from rfl]
 have e0:Zf [.var [.map 1],.map M] 2 [0,1] 1 0=some (1,0):=rfl
 simp only [Zj,Zy,Ze,Zm,e0,hn,List.getD_cons_zero,List.getD_cons_succ]
theorem Zn2 {α:Type} {p:α->Prop} (h:∃ x,p x) {a:α} (hu:∀ x,p x->x=a):h.choose=a:=hu _ h.choose_spec
theorem Zs4 {es:List (AVal×AVal)} {tm:Tms} {σ:Za} {out:AVal×Za} {m ms en b1:Nat} {live:List Nat} {aslE:List AOp} {c2 c3:Zg} {rs:List ZbA} (h:∀ es':List (AVal×AVal),es'.Perm es->Zdc FC PR BY m live ms en b1 aslE c2 c3 rs es es' tm σ=some out):Zem FC PR BY m live ms en b1 aslE c2 c3 rs es tm σ=some out:=by
 have h':∃ out,∀ es':List (AVal×AVal),es'.Perm es->Zdc FC PR BY m live ms en b1 aslE c2 c3 rs es es' tm σ=some out:=⟨out,h⟩
 unfold Zem
 rw [dif_pos h']
 refine congrArg some (Zn2 h' fun x hx=>?_)
 have:=(hx es (List.Perm.refl _)).symm.trans (h es (List.Perm.refl _))
 injection this
theorem Zu5 {l:List Int} {es:List (AVal×AVal)} (h:es.Perm (Zb l)):∃ d:List Int,d.Perm l/\es=Zb d:=by
 refine ⟨es.map fun p=>match p.1 with | .int _ n=>n | _=>0,?_,?_⟩
 ·have:=h.map fun p:AVal×AVal=>match p.1 with | .int _ n=>n | _=>0
  refine this.trans ?_
  rw [Zb,List.map_map]
  rw [show l.map ((fun p:AVal×AVal=>match p.1 with | .int _ n=>n | _=>(0:Int)) ∘ fun k=>(AVal.int .i64 k,AVal.agg []))=l from by rw [show ((fun p:AVal×AVal=>match p.1 with | .int _ n=>n | _=>(0:Int)) ∘ fun k=>(AVal.int .i64 k,AVal.agg []))=id from rfl,List.map_id]]
 ·unfold Zb
  rw [List.map_map]
  conv=>lhs;rw [<-List.map_id es]
  apply List.map_congr_left
  intro p hp
  have hp:=h.mem_iff.1 hp
  obtain ⟨x,_,rfl⟩:=List.mem_map.1 hp
  rfl
theorem Zvw {d l:List Int} (h:d.Perm l):ZaL d=ZaL l:=by
 unfold ZaL
 have ht:∀ a b c:Int,decide (a<=b)=true->decide (b<=c)=true->decide (a<=c)=true:=by intro a b c;simp only [decide_eq_true_eq];omega
 have hto:∀ a b:Int,(decide (a<=b) || decide (b<=a))=true:=by intro a b;simp only [Bool.or_eq_true,decide_eq_true_eq];omega
 have h1:=List.pairwise_mergeSort ht hto d
 have h2:=List.pairwise_mergeSort ht hto l
 have hp:(d.mergeSort fun x y=>decide (x<=y)).Perm (l.mergeSort fun x y=>decide (x<=y)):=((List.mergeSort_perm d _).trans h).trans (List.mergeSort_perm l _).symm
 exact hp.eq_of_pairwise (fun a b _ _ h1 h2=>by simp only [decide_eq_true_eq] at h1 h2;omega) h1 h2
theorem Zwp (l:List Int) {tm:Tms} (h8:tget tm 8=.map 1) (h3:tget tm 3=.lst true []):gcT 2 (keepL [8,3] tm) [.var [.map 1],.map (Zb l)]=([(8,.map 1),(3,.lst true [])],[.var [.map 1],.map (Zb l)]):=by
 have hr:=ZaK l
 have hn:=fun ρ=>ZaB ρ l
 generalize Zb l=M at *
 simp -implicitDefEqProofs only [EQA,ZZ,Z4,ZS,ZQ,ZT,ZU,Z5,Z0,Z1,ZR,ZX,ZV,ZY,Z3,Z2,implies_true,forall_const,Nat.reduceAdd,Nat.reduceSub,Nat.reduceLT,Nat.reduceLeDiff,Nat.reduceEqDiff,Nat.reduceBEq,Nat.reduceMul,ZJ,ZL,unA,Zw,ZD,unG,reduceCtorEq,Zn,decide_eq_true_eq,Bool.not_eq_true,Bool.decide_eq_true,ite_self,↓reduceIte,ZA,ZI,gcT,gcA,Zs,Zk,Zf,Zj,Zv,Zc,Zt,Zm,Zz,List.range_succ,ZcN,Zca,ZcI,oI,oN,Z7,ZO,ZW,ZN,ZM,ZP,hr,hn,h8,h3]
theorem ZrM (l:List Int) (hl:l.length*8<=140737488355328) (tm:Tms) (h8:tget tm 8=.map 1) (h3:tget tm 3=.lst true []):∀ es',es'.Perm (Zb l) ->
  Zdc FC PR BY 2 [8,3] 8 12 1 ZbD c2A c3A [.tmp 2] (Zb l) es' tm (Zh l)=some (if l=[] then (.lst true [],Zh l) else (.sl 2 0 0 l.length,[.var [.map 1],.map (Zb l),.row 0 1 ((ZaL l).map (AVal.int .i64))])):=by
 intro es' hp
 obtain ⟨d,hd,rfl⟩:=Zu5 hp
 have hg:=Zwp l h8 h3
 unfold Zh at hg ⊢
 have hlen:=hd.length_eq
 cases d with
 | nil =>
  have e:l=[]:=List.nil_perm.1 hd
  rw [if_pos e]
  show (match Zbv FC PR BY 2 [8,3] 8 12 1 ZbD c2A (Zb l) [] tm [.var [.map 1],.map (Zb l)] with
   | some (tm',σ')=>Zc6 FC PR BY 2 [8,3] c3A [.tmp 2] tm' σ'
   | none=>none)=_
  exact ZqO l tm _ hg
 | cons k r =>
  have hne:¬l=[]:=by rintro rfl;cases hlen
  rw [if_neg hne]
  have e:=ZvU l k tm _ hg
  obtain ⟨tm',σ',f1,f2⟩:=Zjr l hl r [k] _ _ (by simp) (by simp only [List.length_cons,List.length_nil] at hlen ⊢;omega) (ZnR l 1 [.int .i64 k])
  have e2:Zbv FC PR BY 2 [8,3] 8 12 1 ZbD c2A (Zb l) (Zb (k::r)) tm [.var [.map 1],.map (Zb l)]=some (tm',σ'):=by
   show (match ZcG FC PR BY 2 [8,3] 8 12 1 ZbD c2A (Zb l) (.int .i64 k,.agg []) tm [.var [.map 1],.map (Zb l)] with
    | some (tm',σ')=>Zbv FC PR BY 2 [8,3] 8 12 1 ZbD c2A (Zb l) (Zb r) tm' σ'
    | none=>none)=_
   rw [e]
   exact f1
  unfold Zdc
  rw [e2]
  have hlt:(k::r).length < 4611686018427387904:=by omega
  have e3:=ZmG l (k::r) tm' σ' hlt f2
  rw [Zvw hd,hlen] at e3
  exact e3
theorem Zin (l:List Int) (hl:l.length*8<=140737488355328):E2 17 [.ref 0 0] (Zh l)=some (if l=[] then (.lst true [],Zh l) else (.sl 2 0 0 l.length,[.var [.map 1],.map (Zb l),.row 0 1 ((ZaL l).map (AVal.int .i64))])):=by
 rw [Zo2]
 unfold Zf3 Zf5
 have e1:evC FC PR BY 2 c1A (enterA 0 [.ref 0 0] []) [.var [.map 1],.map (Zb l)]=some (.normal,[(3,.lst true []),(0,.ref 0 0)],[.var [.map 1],.map (Zb l)]):=by
  have hr:=ZaK l
  have hn:=fun ρ=>ZaB ρ l
  generalize Zb l=M at *
  simp -implicitDefEqProofs only [EQA,ZZ,Z4,ZS,ZQ,ZT,ZU,Z5,Z0,Z1,ZR,ZX,ZV,ZY,Z3,Z2,implies_true,forall_const,Nat.reduceAdd,Nat.reduceSub,Nat.reduceLT,Nat.reduceLeDiff,Nat.reduceEqDiff,Nat.reduceBEq,Nat.reduceMul,ZJ,ZL,unA,Zw,ZD,unG,reduceCtorEq,Zn,decide_eq_true_eq,Bool.not_eq_true,Bool.decide_eq_true,ite_self,↓reduceIte,ZA,ZI,gcT,gcA,Zs,Zk,Zf,Zj,Zv,Zc,Zt,Zm,Zz,List.range_succ,ZcN,Zca,ZcI,oI,oN,Z7,ZO,ZW,ZN,ZM,ZP,hr,hn,c1A,oI]
 have e2:∃ tm,Zc3 BY Zfl [(3,.lst true []),(0,.ref 0 0)] [.var [.map 1],.map (Zb l)]=some (tm,[.var [.map 1],.map (Zb l)])/\tget tm 8=.map 1/\tget tm 3=.lst true []:=by
  generalize Zb l=M
  exact ⟨_,rfl,rfl,rfl⟩
 obtain ⟨tm,e2,h8,h3⟩:=e2
 show (match evC FC PR BY 2 c1A (enterA 0 [.ref 0 0] []) [.var [.map 1],.map (Zb l)] with
  | some (.normal,tm1,σ1)=>match Zc3 BY Zfl tm1 σ1 with
   | some (tm2,σ2)=>match tget tm2 8 with
    | .map t=>match σ2[t]? with
     | some (.map es)=>Zem FC PR BY 2 [8,3] 8 12 1 ZbD c2A c3A [.tmp 2] es tm2 σ2
     | _=>none
    | _=>none
   | none=>none
  | _=>none)=_
 rw [e1]
 simp only [e2,h8]
 exact Zs4 (ZrM l hl tm h8 h3)
end
section
def Za3:Zg:=(.seq (.region [oI 4 (.mov (.c (.bool true)))] none [4]) .ret)
def ZgK:Zg:=Za3
def Zbo:=xw ZgK Za3 rfl
def ZaY:Zg:=(.region [oI 47 (.mov (.t 8)),oI 48 (.bin .add (.t 47) (.c (.int .i64 1))),oI 8 (.mov (.t 48))] none [8,7,1])
def ZhQ:Zg:=ZaY
def Zbn:=xw ZhQ ZaY rfl
def Za2:Zg:=(.seq (.region [oI 79 (.mov (.t 7)),oI 80 (.mov (.t 9)),oI 81 (.call 12 0 true [(.t 79),(.t 80)]),oI 82 (.mov (.t 81)),⟨(some 83),(.mov (.t 1)),(some (82,false)),[]⟩,⟨(some 84),(.mov (.t 8)),(some (82,false)),[]⟩,⟨(some 85),(.iaddr 1 (.t 83) (.t 84)),(some (82,false)),[]⟩,⟨(some 86),(.ld none (.t 85)),(some (82,false)),[]⟩,⟨(some 87),(.bin .and (.t 86) (.c (.int .i64 1))),(some (82,false)),[]⟩,⟨(some 88),(.bin .eql (.t 87) (.c (.int .i64 1))),(some (82,false)),[]⟩,⟨(some 89),(.mov (.t 88)),(some (82,false)),[]⟩,⟨(some 90),(.mov (.t 7)),(some (89,true)),[]⟩,⟨(some 91),(.mov (.t 1)),(some (89,true)),[]⟩,⟨(some 92),(.mov (.t 8)),(some (89,true)),[]⟩,⟨(some 93),(.iaddr 1 (.t 91) (.t 92)),(some (89,true)),[]⟩,⟨(some 94),(.ld none (.t 93)),(some (89,true)),[]⟩,⟨(some 95),(.bin .shr (.t 94) (.c (.int .u64 1))),(some (89,true)),[]⟩,⟨(some 96),(.bin .and (.t 95) (.c (.int .i64 63))),(some (89,true)),[]⟩,⟨(some 97),(.bin .add (.c (.int .i64 1)) (.t 96)),(some (89,true)),[]⟩,⟨(some 98),(.call 13 0 true [(.t 90),(.t 97)]),(some (89,true)),[]⟩,⟨(some 99),(.un .not (.t 98)),(some (89,true)),[]⟩,⟨(some 100),(.pick (.t 89) (.t 99) (.c (.bool false))),(some (82,false)),[]⟩,⟨(some 101),(.mov (.t 100)),(some (82,false)),[]⟩,⟨(some 102),(.mov (.t 7)),(some (101,true)),[]⟩,⟨(some 103),(.mov (.t 1)),(some (101,true)),[]⟩,⟨(some 104),(.mov (.t 8)),(some (101,true)),[]⟩,⟨(some 105),(.iaddr 1 (.t 103) (.t 104)),(some (101,true)),[]⟩,⟨(some 106),(.ld none (.t 105)),(some (101,true)),[]⟩,⟨(some 107),(.bin .shr (.t 106) (.c (.int .u64 1))),(some (101,true)),[]⟩,⟨(some 108),(.bin .and (.t 107) (.c (.int .i64 63))),(some (101,true)),[]⟩,⟨(some 109),(.bin .add (.c (.int .i64 1)) (.t 108)),(some (101,true)),[]⟩,⟨(some 110),(.call 15 0 true [(.t 102),(.t 109)]),(some (101,true)),[]⟩,⟨(some 111),(.pick (.t 101) (.t 110) (.c (.bool false))),(some (82,false)),[]⟩,oI 112 (.pick (.t 82) (.c (.bool true)) (.t 111))] none [112,8,7,1]) (.cond (.t 112) (.seq (.region [oI 4 (.mov (.c (.bool false)))] none [4]) .ret) .skip))
def ZhG:Zg:=Za2
def Zbm:=xw ZhG Za2 rfl
def ZaV:Zg:=(.seq (.seq (.region [oI 70 (.mov (.t 11)),oI 71 (.mov (.t 9)),oI 72 (.bin .lss (.t 70) (.t 71))] none [72,11,9,8,7,1]) (.cond (.t 72) .skip (.exit 4))) (.seq (.block 5 (.seq (.region [oI 75 (.mov (.t 7)),oI 76 (.mov (.t 11)),oI 77 (.call 15 0 true [(.t 75),(.t 76)]),oI 78 (.un .not (.t 77))] none [78,11,9,8,7,1]) (.cond (.t 78) (.seq (.region [oI 4 (.mov (.c (.bool false)))] none [4]) .ret) .skip))) (.region [oI 73 (.mov (.t 11)),oI 74 (.bin .add (.t 73) (.c (.int .i64 1))),oI 11 (.mov (.t 74))] none [11,9,8,7,1])))
def Zf1:Zg:=ZaV
def Zbl:=xw Zf1 ZaV rfl
def ZaW:Zg:=(.seq (.seq (.region [oI 39 (.mov (.t 8)),oI 40 (.mov (.t 1)),oI 41 (.len (.t 40)),oI 42 (.bin .lss (.t 39) (.t 41)),oI 43 (.mov (.t 42)),⟨(some 44),(.mov (.t 8)),(some (43,true)),[]⟩,⟨(some 45),(.bin .lss (.t 44) (.c (.int .i64 60))),(some (43,true)),[]⟩,oI 46 (.pick (.t 43) (.t 45) (.c (.bool false)))] none [46,8,7,1]) (.cond (.t 46) .skip (.exit 2))) (.seq (.block 3 (.seq (.region [oI 50 (.mov (.t 7)),oI 51 (.call 10 0 true [(.t 50)]),oI 49 (.mov (.t 51)),oI 52 (.ext (.t 49) 0),oI 53 (.ext (.t 49) 1),oI 9 (.mov (.t 52)),oI 10 (.mov (.t 53))] none [10,9,8,7,1]) (.seq (.seq (.region [oI 54 (.mov (.t 10)),oI 55 (.un .not (.t 54)),oI 56 (.mov (.t 55)),⟨(some 57),(.mov (.t 9)),(some (56,false)),[]⟩,⟨(some 58),(.bin .lss (.t 57) (.c (.int .i64 1))),(some (56,false)),[]⟩,oI 59 (.pick (.t 56) (.c (.bool true)) (.t 58)),oI 60 (.mov (.t 59)),⟨(some 61),(.mov (.t 9)),(some (60,false)),[]⟩,⟨(some 62),(.bin .gtr (.t 61) (.c (.int .i64 65535))),(some (60,false)),[]⟩,oI 63 (.pick (.t 60) (.c (.bool true)) (.t 62)),oI 64 (.mov (.t 63)),⟨(some 65),(.mov (.t 7)),(some (64,false)),[]⟩,⟨(some 66),(.mov (.t 9)),(some (64,false)),[]⟩,⟨(some 67),(.call 15 0 true [(.t 65),(.t 66)]),(some (64,false)),[]⟩,⟨(some 68),(.un .not (.t 67)),(some (64,false)),[]⟩,oI 69 (.pick (.t 64) (.c (.bool true)) (.t 68))] none [69,9,8,7,1]) (.cond (.t 69) (.seq (.region [oI 4 (.mov (.c (.bool false)))] none [4]) .ret) .skip)) (.seq (.seq (.region [oI 11 (.mov (.c (.int .i64 1)))] none [11,9,8,7,1]) (.block 4 (.loop [11,9,8,7,1] Zf1))) ZhG)))) ZhQ))
def ZdJ:Zg:=ZaW
def Zbt:=xw ZdJ ZaW rfl
def Za1:Zg:=(.seq (.region [oI 31 (.mov (.t 5)),oI 32 (.call 6 2 false [(.t 31)]),oI 7 (.mov (.t 32))] none [7,1]) (.seq (.seq (.region [oI 33 (.mov (.t 7)),oI 34 (.peq false (.t 33) (.c .nilp)),oI 35 (.mov (.t 34)),⟨(some 36),(.call 7 0 true []),(some (35,false)),[]⟩,⟨(some 37),(.un .not (.t 36)),(some (35,false)),[]⟩,oI 38 (.pick (.t 35) (.c (.bool true)) (.t 37))] none [38,7,1]) (.cond (.t 38) (.seq (.region [oI 4 (.mov (.c (.bool false)))] none [4]) .ret) .skip)) (.seq (.seq (.region [oI 8 (.mov (.c (.int .i64 0)))] none [8,7,1]) (.block 2 (.loop [8,7,1] ZdJ))) ZgK)))
def Ze3:Zg:=Za1
def Zbs:=xw Ze3 Za1 rfl
def ZaS:Zg:=(.seq (.seq (.region [oI 17 (.mov (.t 6)),oI 18 (.mov (.t 0)),oI 19 (.len (.t 18)),oI 20 (.bin .lss (.t 17) (.t 19))] none [20,6,5,1,0]) (.cond (.t 20) .skip (.exit 0))) (.seq (.block 1 (.region [oI 23 (.mov (.t 5)),oI 24 (.mov (.t 0)),oI 25 (.mov (.t 6)),oI 26 (.iaddr 1 (.t 24) (.t 25)),oI 27 (.ld none (.t 26)),oI 28 (.bin .and (.t 27) (.c (.int .i64 63))),oI 29 (.bslice false 1 1 (.int .i64 0) [(0,(.t 28))]),oI 30 (.app 1 8 (.int .i64 0) (.t 23) (.t 29)),oI 5 (.mov (.t 30))] none [6,5,1,0])) (.region [oI 21 (.mov (.t 6)),oI 22 (.bin .add (.t 21) (.c (.int .i64 1))),oI 6 (.mov (.t 22))] none [6,5,1,0])))
def ZeW:Zg:=ZaS
def Zbu:=xw ZeW ZaS rfl
def Za9:Zg:=(.seq (.region [oI 4 (.mov (.c (.bool false)))] none [1,0]) (.seq (.seq (.region [oI 12 (.mov (.t 0)),oI 13 (.len (.t 12)),oI 14 (.bin .gtr (.t 13) (.c (.int .i64 60)))] none [14,1,0]) (.cond (.t 14) (.region [oI 15 (.mov (.t 0)),oI 16 (.slice 1 (.t 15) none (some (.c (.int .i64 60))) none),oI 0 (.mov (.t 16))] none [1,0]) .skip)) (.seq (.region [oI 5 (.mov (.c (.lst true [])))] none [5,1,0]) (.seq (.seq (.region [oI 6 (.mov (.c (.int .i64 0)))] none [6,5,1,0]) (.block 0 (.loop [6,5,1,0] ZeW))) Ze3))))
def ZfD:Zag:=⟨[(.tmp 4)],Za9⟩
theorem Zo8:FC 4=some ZfD:=by kernel_rfl
theorem Zbr:ZfD.body=Za9:=rfl
theorem Zbq:ZfD.res=[(.tmp 4)]:=rfl
def Zgv:Zg:=(.seq (.region [oI 0 (.mov (.c (.bool false)))] none []) (.seq (.region [oI 6 (.bslice false 1 3 (.int .i64 0) [(0,(.c (.int .i64 2))),(1,(.c (.int .i64 2))),(2,(.c (.int .i64 0)))]),oI 7 (.call 6 2 false [(.t 6)]),oI 1 (.mov (.t 7))] none [1]) (.seq (.seq (.region [oI 8 (.mov (.t 1)),oI 9 (.peq false (.t 8) (.c .nilp)),oI 10 (.mov (.t 9)),⟨(some 11),(.mov (.t 1)),(some (10,false)),[]⟩,⟨(some 12),(.call 20 0 true [(.t 11)]),(some (10,false)),[]⟩,⟨(some 13),(.bin .neq (.t 12) (.c (.int .i64 1))),(some (10,false)),[]⟩,oI 14 (.pick (.t 10) (.c (.bool true)) (.t 13))] none [14,1]) (.cond (.t 14) (.seq (.region [oI 0 (.mov (.c (.bool false)))] none [0]) .ret) .skip)) (.seq (.region [oI 16 (.mov (.t 1)),oI 17 (.call 10 0 true [(.t 16)]),oI 15 (.mov (.t 17)),oI 18 (.ext (.t 15) 0),oI 19 (.ext (.t 15) 1),oI 2 (.mov (.t 18)),oI 3 (.mov (.t 19))] none [3,2,1]) (.seq (.region [oI 21 (.mov (.t 1)),oI 22 (.call 10 0 true [(.t 21)]),oI 20 (.mov (.t 22)),oI 23 (.ext (.t 20) 0),oI 24 (.ext (.t 20) 1),oI 4 (.mov (.t 23)),oI 5 (.mov (.t 24))] none [5,4,3,2,1]) (.seq (.region [oI 25 (.mov (.t 3)),oI 26 (.mov (.t 25)),⟨(some 27),(.mov (.t 2)),(some (26,true)),[]⟩,⟨(some 28),(.bin .eql (.t 27) (.c (.int .i64 1))),(some (26,true)),[]⟩,oI 29 (.pick (.t 26) (.t 28) (.c (.bool false))),oI 30 (.mov (.t 29)),⟨(some 31),(.mov (.t 5)),(some (30,true)),[]⟩,oI 32 (.pick (.t 30) (.t 31) (.c (.bool false))),oI 33 (.mov (.t 32)),⟨(some 34),(.mov (.t 4)),(some (33,true)),[]⟩,⟨(some 35),(.bin .eql (.t 34) (.c (.int .i64 3))),(some (33,true)),[]⟩,oI 36 (.pick (.t 33) (.t 35) (.c (.bool false))),oI 37 (.mov (.t 36)),⟨(some 38),(.mov (.t 1)),(some (37,true)),[]⟩,⟨(some 39),(.call 13 0 true [(.t 38),(.c (.int .i64 2))]),(some (37,true)),[]⟩,oI 40 (.pick (.t 37) (.t 39) (.c (.bool false))),oI 41 (.mov (.t 40)),⟨(some 42),(.mov (.t 1)),(some (41,true)),[]⟩,⟨(some 43),(.call 13 0 true [(.t 42),(.c (.int .i64 2))]),(some (41,true)),[]⟩,⟨(some 44),(.un .not (.t 43)),(some (41,true)),[]⟩,oI 45 (.pick (.t 41) (.t 44) (.c (.bool false))),oI 46 (.mov (.t 45)),⟨(some 47),(.mov (.t 1)),(some (46,true)),[]⟩,⟨(some 48),(.call 17 0 true [(.t 47)]),(some (46,true)),[]⟩,⟨(some 49),(.bslice false 1 2 (.int .i64 0) [(0,(.c (.int .i64 1))),(1,(.c (.int .i64 3)))]),(some (46,true)),[]⟩,⟨(some 50),(.call 19 0 true [(.t 48),(.t 49)]),(some (46,true)),[]⟩,oI 51 (.pick (.t 46) (.t 50) (.c (.bool false))),oI 0 (.mov (.t 51))] none [0]) .ret))))))
def ZgF:Zag:=⟨[(.tmp 0)],Zgv⟩
theorem ZnE:FC 7=some ZgF:=by kernel_rfl
theorem Zwm:ZgF.body=Zgv:=rfl
theorem ZmR:ZgF.res=[(.tmp 0)]:=rfl
end
section
def Zdu:Zg:=(.seq (.region [oI 4 (.mov (.c (.bool true)))] none [4]) .ret)
def Zhh:Zg:=Zdu
def ZeK:=xw Zhh Zdu rfl
def Zdv:Zg:=(.seq (.seq (.region [oI 11 (.mov (.t 5)),oI 12 (.mov (.t 0)),oI 13 (.len (.t 12)),oI 14 (.bin .lss (.t 11) (.t 13))] none [14,5,1,0]) (.cond (.t 14) .skip (.exit 0))) (.seq (.block 1 (.seq (.region [oI 17 (.mov (.t 0)),oI 18 (.mov (.t 5)),oI 19 (.iaddr 1 (.t 17) (.t 18)),oI 20 (.ld none (.t 19)),oI 21 (.mov (.t 1)),oI 22 (.mov (.t 5)),oI 23 (.iaddr 1 (.t 21) (.t 22)),oI 24 (.ld none (.t 23)),oI 25 (.bin .neq (.t 20) (.t 24))] (some [(2,6),(3,6),(2,7),(3,7)]) [25,5,1,0]) (.cond (.t 25) (.seq (.region [oI 4 (.mov (.c (.bool false)))] none [4]) .ret) .skip))) (.region [oI 15 (.mov (.t 5)),oI 16 (.bin .add (.t 15) (.c (.int .i64 1))),oI 5 (.mov (.t 16))] none [5,1,0])))
def Zgh:Zg:=Zdv
def ZeS:=xw Zgh Zdv rfl
def ZdB:Zg:=(.seq (.region [oI 4 (.mov (.c (.bool false)))] none [1,0]) (.seq (.seq (.region [oI 6 (.mov (.t 0)),oI 7 (.len (.t 6)),oI 8 (.mov (.t 1)),oI 9 (.len (.t 8)),oI 10 (.bin .neq (.t 7) (.t 9))] none [10,1,0]) (.cond (.t 10) (.seq (.region [oI 4 (.mov (.c (.bool false)))] none [4]) .ret) .skip)) (.seq (.seq (.region [oI 5 (.mov (.c (.int .i64 0)))] none [5,1,0]) (.block 0 (.loop [5,1,0] Zgh))) Zhh)))
def ZfP:Zag:=⟨[(.tmp 4)],ZdB⟩
theorem Znt:FC 19=some ZfP:=by kernel_rfl
theorem ZeF:ZfP.body=ZdB:=rfl
theorem Zef:ZfP.res=[(.tmp 4)]:=rfl
noncomputable def ZfG (m:Nat) (tm:Tms) (σ:Za):Option (AVal×Za):=(Zas m ZfP (ZbX FC PR BY m Zhh (Option.map (ZaN 0) (evL FC PR BY m [5,1,0] Zgh tm σ))))
end
section
theorem Zib (a b:List Int) (ha:a.length<=9223372036854775807):∀ (r s:List Int) (i:Nat),a.drop i=r->b.drop i=s->r.length=s.length ->
  ZfG 0 [(5,.int .i64 (i:Int)),(1,.lst false (b.map (.int .i64 ·))),(0,.lst false (a.map (.int .i64 ·)))] []=some (.bool (r == s),[])
 | [],s,i,h1,h2,hl=>by
  have e:s=[]:=List.length_eq_zero_iff.1 hl.symm
  subst e
  have h0:=Zge h1
  unfold ZfG
  rw [Za6]
  simp -implicitDefEqProofs only [EQA,ZZ,Z4,ZS,ZQ,ZT,ZU,Z5,Z0,Z1,ZR,ZX,ZV,ZY,Z3,Z2,implies_true,forall_const,Nat.reduceAdd,Nat.reduceSub,Nat.reduceLT,Nat.reduceLeDiff,Nat.reduceEqDiff,Nat.reduceBEq,Nat.reduceMul,ZJ,ZL,unA,Zw,ZD,unG,reduceCtorEq,Zn,decide_eq_true_eq,Bool.not_eq_true,Bool.decide_eq_true,ite_self,↓reduceIte,ZA,ZI,gcT,gcA,Zs,Zk,Zf,Zj,Zv,Zc,Zt,Zm,Zz,List.range_succ,ZeF,ZdB,Zef,ZeK,Zdu,ZeS,Zdv,oI,oN,Z7,ZO,ZW,ZN,ZM,ZP,h0,List.length_map]
 | x::r,y::s,i,h1,h2,hl=>by
  obtain ⟨g1,d1,l1⟩:=ZfZ h1
  obtain ⟨g2,d2,l2⟩:=ZfZ h2
  have h0:(i:Int) < (a.length:Int):=by omega
  have e1:=fun σ kk=>iad g1 (AVal.int IntKind.i64 ·) (k:=1) rfl σ false kk
  have e2:=fun σ kk=>iad g2 (AVal.int IntKind.i64 ·) (k:=1) rfl σ false kk
  have hw:=Ze5 (i:=i) h0 ha
  have ih:=Zib a b ha r s (i+1) d1 d2 (by simpa using hl)
  unfold ZfG at ih ⊢
  by_cases hxy:x=y
  ·subst hxy
   have hb:(x != x)=false:=by simp
   rw [show ((x::r) == (x::s))=(r == s) from by simp]
   rw [Za6]
   simp -implicitDefEqProofs only [EQA,ZZ,Z4,ZS,ZQ,ZT,ZU,Z5,Z0,Z1,ZR,ZX,ZV,ZY,Z3,Z2,implies_true,forall_const,Nat.reduceAdd,Nat.reduceSub,Nat.reduceLT,Nat.reduceLeDiff,Nat.reduceEqDiff,Nat.reduceBEq,Nat.reduceMul,ZJ,ZL,unA,Zw,ZD,unG,reduceCtorEq,Zn,decide_eq_true_eq,Bool.not_eq_true,Bool.decide_eq_true,ite_self,↓reduceIte,ZA,ZI,gcT,gcA,Zs,Zk,Zf,Zj,Zv,Zc,Zt,Zm,Zz,List.range_succ,ZeF,ZdB,Zef,ZeK,Zdu,ZeS,Zdv,oI,oN,Z7,ZO,ZW,ZN,ZM,ZP,h0,e1,e2,hw,hb,List.length_map]
   exact ih
  ·have hb:(x != y)=true:=by simpa using hxy
   rw [show ((x::r) == (y::s))=false from by simp [hxy]]
   rw [Za6]
   simp -implicitDefEqProofs only [EQA,ZZ,Z4,ZS,ZQ,ZT,ZU,Z5,Z0,Z1,ZR,ZX,ZV,ZY,Z3,Z2,implies_true,forall_const,Nat.reduceAdd,Nat.reduceSub,Nat.reduceLT,Nat.reduceLeDiff,Nat.reduceEqDiff,Nat.reduceBEq,Nat.reduceMul,ZJ,ZL,unA,Zw,ZD,unG,reduceCtorEq,Zn,decide_eq_true_eq,Bool.not_eq_true,Bool.decide_eq_true,ite_self,↓reduceIte,ZA,ZI,gcT,gcA,Zs,Zk,Zf,Zj,Zv,Zc,Zt,Zm,Zz,List.range_succ,ZeF,ZdB,Zef,ZeK,Zdu,ZeS,Zdv,oI,oN,Z7,ZO,ZW,ZN,ZM,ZP,h0,e1,e2,hw,hb,List.length_map]
theorem ZwE (a b:List Int) (ha:a.length<=9223372036854775807):E 19 [.lst false (a.map (.int .i64 ·)),.lst false (b.map (.int .i64 ·))] []=some (.bool (a == b),[]):=by
 rw [Zcj (by rfl) Znt]
 by_cases h:a.length=b.length
 ·have hn:=ZkA h
  have hl:=Zib a b ha a b 0 rfl rfl h
  have z:((0:Nat):Int)=0:=rfl
  rw [z] at hl
  unfold ZfG at hl
  simp -implicitDefEqProofs only [EQA,ZZ,Z4,ZS,ZQ,ZT,ZU,Z5,Z0,Z1,ZR,ZX,ZV,ZY,Z3,Z2,implies_true,forall_const,Nat.reduceAdd,Nat.reduceSub,Nat.reduceLT,Nat.reduceLeDiff,Nat.reduceEqDiff,Nat.reduceBEq,Nat.reduceMul,ZJ,ZL,unA,Zw,ZD,unG,reduceCtorEq,Zn,decide_eq_true_eq,Bool.not_eq_true,Bool.decide_eq_true,ite_self,↓reduceIte,ZA,ZI,gcT,gcA,Zs,Zk,Zf,Zj,Zv,Zc,Zt,Zm,Zz,List.range_succ,ZeF,ZdB,Zef,ZeK,Zdu,ZeS,Zdv,oI,oN,Z7,ZO,ZW,ZN,ZM,ZP,hn,List.length_map]
  exact hl
 ·have hn:=ZuU h
  have e:=Zmm h
  rw [e]
  simp -implicitDefEqProofs only [EQA,ZZ,Z4,ZS,ZQ,ZT,ZU,Z5,Z0,Z1,ZR,ZX,ZV,ZY,Z3,Z2,implies_true,forall_const,Nat.reduceAdd,Nat.reduceSub,Nat.reduceLT,Nat.reduceLeDiff,Nat.reduceEqDiff,Nat.reduceBEq,Nat.reduceMul,ZJ,ZL,unA,Zw,ZD,unG,reduceCtorEq,Zn,decide_eq_true_eq,Bool.not_eq_true,Bool.decide_eq_true,ite_self,↓reduceIte,ZA,ZI,gcT,gcA,Zs,Zk,Zf,Zj,Zv,Zc,Zt,Zm,Zz,List.range_succ,ZeF,ZdB,Zef,ZeK,Zdu,ZeS,Zdv,oI,oN,Z7,ZO,ZW,ZN,ZM,ZP,hn,List.length_map]
theorem Zk7 (σ:Za) (sq own:Nat) (x y:Bool) (a b:List Int) (ha:a.length<=9223372036854775807):ZF E BY σ sq 19 own true [.lst x (a.map (.int .i64 ·)),.lst y (b.map (.int .i64 ·))]=some (.bool (a == b),σ,{}) :=
 Zip (ZwE a b ha) (by kernel_rfl) rfl rfl rfl (fun _=>rfl) _ _ _
end
section
theorem ZbC {σ:Za} {sq f own:Nat} {view:Bool} {args:List AVal} {r:AVal×Za×Cls} (h:ZF E BY σ sq f own view args=some r):ZF E2 BY σ sq f own view args=some r:=ZgR Zl5 h
theorem ZgM (xs:List Int) (hx:xs.length<=9223372036854775807) {σ:Za} {args:List AVal} {ts:List Nat} {sq:Nat} (hsh:showAs σ args=some ([.lst false (xs.map (.int .i64 ·))],ts)) (hff:ZaD (Zl σ ts) sq 2=true) :
  ZF E BY σ sq 6 2 false args=some (.ref sq 0,((Zl σ ts).set sq (.var [.map (sq+1)])).set (sq+1) (.map (Zb (Zdh xs))),{ any:=true }) :=
 Ztb (by kernel_rfl) hsh rfl rfl (Zni xs hx) hff
theorem ZqH (l:List Int) (hl:l.length*8<=140737488355328):ZaF true 2 (E2 17 [.ref 0 0] (Zh l))=some (.lst false ((ZaL l).map (AVal.int .i64)),Zh l):=by
 rw [Zin l hl]
 have hln:l.length=(ZaL l).length:=(List.length_mergeSort l).symm
 by_cases h:l=[]
 ·rw [if_pos h]
  subst h
  have hs:ZaL []=[]:=by simp [ZaL]
  rw [hs]
  rfl
 ·rw [if_neg h]
  have he:Zn [.var [.map 1],.map (Zb l),.row 0 1 ((ZaL l).map (AVal.int .i64))] (.sl 2 0 0 l.length)=some ((ZaL l).map (AVal.int .i64),[2]):=by
   simp [Zn,hln,List.take_of_length_le]
  show Zcq 2 (some (.sl 2 0 0 l.length,[.var [.map 1],.map (Zb l),.row 0 1 ((ZaL l).map (AVal.int .i64))]))=_
  simp only [Zcq,viewR,Za0,ZaG,he]
  exact Zcf (r:=.lst false ((ZaL l).map (AVal.int .i64))) rfl l [.frow 0 1 ((ZaL l).map (AVal.int .i64))]
theorem Zmf (l:List Int) (hl:l.length*8<=140737488355328) {σ:Za} {t m sq:Nat} (htm:t≠m) (hs:σ[t]?=some (.var [.map m])) (hm:σ[m]?=some (.map (Zb l))) :
  ZF E2 BY σ sq 17 0 true [.ref t 0]=some (.lst false ((ZaL l).map (AVal.int .i64)),(σ.set t (.var [.map m])).set m (.map (Zb l)),{ any:=true,upd:=[(t,[.map m])] }):=by
 have ha:=ZqH l hl
 obtain ⟨p,hp⟩:∃ p,E2 17 [.ref 0 0] (Zh l)=some p:=⟨_,Zin l hl⟩
 rw [hp] at ha
 exact ZiP (args:=[]) (r0:=p.1) (h0:=p.2) rfl hp ha (by kernel_rfl) rfl rfl htm hs hm rfl
theorem ZtR:E2 7 [] []=some (.bool true,[]):=by
 have hN:=fun {σ:Za} {sq:Nat} hff=>ZbC (ZgM [2,2,0] (by decide) (σ:=σ) (sq:=sq) (args:=[.lst true [.int .i64 2,.int .i64 2,.int .i64 0]]) (ts:=[]) rfl hff)
 rw [show Zdh [2,2,0]=[2] from by decide] at hN
 have hL:=fun {σ:Za} {sq:Nat} {view:Bool} hs hm=>ZbC (ZpF [2] (σ:=σ) (t:=0) (m:=1) (sq:=sq) (own:=0) (view:=view) (by decide) hs hm rfl)
 have hT:=fun {σ:Za} {sq:Nat} {view:Bool} hs hm=>ZbC (ZgI [2] (σ:=σ) (t:=0) (m:=1) (sq:=sq) (own:=0) (view:=view) (by decide) hs hm rfl)
 have hT2:=fun {σ:Za} {sq:Nat} {view:Bool} hs hm=>ZbC (ZgI [2,1] (σ:=σ) (t:=0) (m:=1) (sq:=sq) (own:=0) (view:=view) (by decide) hs hm rfl)
 have hF:=fun {σ:Za} {sq:Nat} {view:Bool} hs hm=>ZbC (Zhw [2,1,3] 2 (σ:=σ) (t:=0) (m:=1) (sq:=sq) (own:=0) (view:=view) (by decide) hs hm rfl)
 have hF2:=fun {σ:Za} {sq:Nat} {view:Bool} hs hm=>ZbC (Zhw [1,3] 2 (σ:=σ) (t:=0) (m:=1) (sq:=sq) (own:=0) (view:=view) (by decide) hs hm rfl)
 have hA:=fun {σ:Za} {sq:Nat} hs hm=>Zmf [1,3] (by decide) (σ:=σ) (t:=0) (m:=1) (sq:=sq) (by decide) hs hm
 have t1:Zcs [2]=((1,true),[2,1]):=by rfl
 have t2:Zcs [2,1]=((3,true),[2,1,3]):=by rfl
 have f1:([2,1,3]:List Int).contains 2=true:=by decide
 have f2:([2,1,3]:List Int).erase 2=[1,3]:=by decide
 have f3:([1,3]:List Int).contains 2=false:=by decide
 have f4:([1,3]:List Int).erase 2=[1,3]:=by decide
 have s1:ZaL [1,3]=[1,3]:=by simp [ZaL,List.mergeSort]
 rw [t1] at hT
 rw [t2] at hT2
 rw [f1,f2] at hF
 rw [f3,f4] at hF2
 rw [s1] at hA
 have hI:=fun σ sq own=>ZbC (Zk7 σ sq own false true [1,3] [1,3] (by decide))
 have hI:∀ σ sq own,ZF E2 BY σ sq 19 own true [.lst false [.int .i64 1,.int .i64 3],.lst true [.int .i64 1,.int .i64 3]]=some (.bool true,σ,{}):=hI
 have z1:((1:Nat):Int)=1:=rfl
 rw [ZjR (by rfl) ZnE]
 simp -implicitDefEqProofs only [EQA,ZZ,Z4,ZS,ZQ,ZT,ZU,Z5,Z0,Z1,ZR,ZX,ZV,ZY,Z3,Z2,implies_true,forall_const,Nat.reduceAdd,Nat.reduceSub,Nat.reduceLT,Nat.reduceLeDiff,Nat.reduceEqDiff,Nat.reduceBEq,Nat.reduceMul,ZJ,ZL,unA,Zw,ZD,unG,reduceCtorEq,Zn,decide_eq_true_eq,Bool.not_eq_true,Bool.decide_eq_true,ite_self,↓reduceIte,ZA,ZI,gcT,gcA,Zs,Zk,Zf,Zj,Zv,Zc,Zt,Zm,Zz,List.range_succ,Zwm,Zgv,ZmR,oI,oN,Z7,ZO,ZW,ZN,ZM,ZP,ZaK,ZaB,hN,hL,hT,hT2,hF,hF2,hA,hI,ZaD,Zl,Zav,kOk,viewAs,Za0,ZaG,ZaR,Zl,List.length_singleton,Nat.one_mul,ZbG,Zdt,List.zip_cons_cons,List.zip_nil_left,List.map_cons,List.map_nil,List.length_cons,List.length_nil,z1,bne_self_eq_false]
end
section
theorem ZhV:∀ (n:Nat) (l:List Int),(∀ j:Int,1<=j->j<=n->j ∈ l)->n<=l.length
 | 0,_,_=>Nat.zero_le _
 | n+1,l,h=>by
  have hm:((n+1:Nat):Int) ∈ l:=h _ (by omega) (by omega)
  have ih:=ZhV n (l.erase ((n+1:Nat):Int)) fun j h1 h2=>(List.mem_erase_of_ne (by omega)).2 (h j h1 (by omega))
  have:=List.length_erase_of_mem hm
  have hp:0 < l.length:=List.length_pos_of_mem hm
  omega
theorem Zjl (l:List Int) (hl:l.length < 65535):∀ (n:Nat) (k:Int),k=65536 - (n:Int)->1<=k->(∀ j:Int,1<=j->j < k->l.contains j=true) ->
  ∃ id,Zcn l n k=((id,true),l++[id])/\1<=id/\id<=65535/\l.contains id=false/\∀ j:Int,1<=j->j < id->l.contains j=true
 | 0,k,hk,h1,h=>by
  have:=ZhV 65535 l fun j h1 h2=>by simpa using h j h1 (by omega)
  omega
 | n+1,k,hk,h1,h=>by
  unfold Zcn
  cases hc:l.contains k with
  | true =>
   rw [if_pos rfl]
   refine Zjl l hl n (k+1) (by omega) (by omega) fun j j1 j2=>?_
   by_cases e:j=k
   ·subst e;exact hc
   ·exact h j j1 (by omega)
  | false =>
   rw [if_neg (by simp)]
   exact ⟨k,rfl,h1,by omega,hc,h⟩
theorem Zrg (l:List Int) (hl:l.length < 65535):∃ id,Zcs l=((id,true),l++[id])/\1<=id/\id<=65535/\l.contains id=false/\∀ j:Int,1<=j->j < id->l.contains j=true :=
 Zjl l hl 65535 1 (by decide) (by decide) fun j _ _=>by omega
theorem ZqU (l:List Int) (k:Int):(Zax l k).2.length<=l.length+1:=by
 unfold Zax
 split <;> simp
theorem ZjM:∀ (xs l:List Int),(xs.foldl (fun a k=>(Zax a k).2) l).length<=l.length+xs.length
 | [],l=>by simp
 | x::xs,l=>by
  have h1:=ZjM xs (Zax l x).2
  have h2:=ZqU l x
  simp only [List.foldl_cons,List.length_cons]
  omega
theorem Zwn (xs:List Int):(Zdh xs).length<=xs.length:=by
 have:=ZjM xs []
 unfold Zdh
 simpa using this
theorem ZpD (σ:Za) (sq own:Nat):ZF E2 BY σ sq 7 own true []=some (.bool true,σ,{}) :=
 Zip ZtR (by kernel_rfl) rfl rfl rfl (fun _=>rfl) _ _ _
theorem xw2 (c d:Zg) (h:c=d) (m:Nat) (tm:Tms) (σ:Za):evC FC PR2 BY m c tm σ=evC FC PR2 BY m d tm σ:=by rw [h]
def ZbI:=xw2 ZgK Za3 rfl
def ZbM:=xw2 ZhQ ZaY rfl
def ZbP:=xw2 ZhG Za2 rfl
def ZbQ:=xw2 Ze3 Za1 rfl
def ZbJ:=xw2 ZeW ZaS rfl
def ZbK:=xw2 ZdJ ZaW rfl
def ZbH:=xw2 Zf1 ZaV rfl
theorem ZjJ (l:List Int) (id:Int) (h2:id<=65535) (hall:∀ j:Int,1<=j->j < id->l.contains j=true) (X I:AVal) (hX:Z6 X=true) (hI:Z6 I=true):∀ (n:Nat) (k:Int),k=id - (n:Int)->1<=k ->
  evL FC PR2 BY 0 [11,9,8,7,1] Zf1 [(11,.int .i64 k),(9,.int .i64 id),(8,I),(7,.ref 0 0),(1,X)] (Zh l)=some (.exit 4,[(72,.bool false),(11,.int .i64 id),(9,.int .i64 id),(8,I),(7,.ref 0 0),(1,X)],Zh l)
 | 0,k,hk,h1=>by
  have e:k=id:=by omega
  subst e
  have h0:¬k < k:=by omega
  have hx:=(Zbp (fun _ _=>none) X hX).2
  have hi:=(Zbp (fun _ _=>none) I hI).2
  have rx:=fun ρ=>(Zbp ρ X hX).1
  have ri:=fun ρ=>(Zbp ρ I hI).1
  unfold Zh
  rw [Za6]
  simp -implicitDefEqProofs only [EQA,ZZ,Z4,ZS,ZQ,ZT,ZU,Z5,Z0,Z1,ZR,ZX,ZV,ZY,Z3,Z2,implies_true,forall_const,Nat.reduceAdd,Nat.reduceSub,Nat.reduceLT,Nat.reduceLeDiff,Nat.reduceEqDiff,Nat.reduceBEq,Nat.reduceMul,ZJ,ZL,unA,Zw,ZD,unG,reduceCtorEq,Zn,decide_eq_true_eq,Bool.not_eq_true,Bool.decide_eq_true,ite_self,↓reduceIte,ZA,ZI,gcT,gcA,Zs,Zk,Zf,Zj,Zv,Zc,Zt,Zm,Zz,List.range_succ,Zbr,Za9,Zbq,Zbo,Za3,Zbn,ZaY,Zbm,Za2,Zbl,ZaV,Zbt,ZaW,Zbs,Za1,Zbu,ZaS,oI,oN,Z7,ZO,ZW,ZN,ZM,ZP,ZbI,ZbM,ZbP,ZbQ,ZbJ,ZbK,ZbH,h0,hx,hi,rx,ri,ZaK,ZaB]
 | n+1,k,hk,h1=>by
  have h0:k < id:=by omega
  have hx:=(Zbp (fun _ _=>none) X hX).2
  have hi:=(Zbp (fun _ _=>none) I hI).2
  have rx:=fun ρ=>(Zbp ρ X hX).1
  have ri:=fun ρ=>(Zbp ρ I hI).1
  have hw:IntKind.i64.wrap (k+1)=k+1:=Zgb (by omega) (by omega)
  have hh:=fun {σ:Za} {sq:Nat} {view:Bool} hs hm=>ZbC (Zep l k (σ:=σ) (t:=0) (m:=1) (sq:=sq) (own:=0) (view:=view) (by decide) hs hm rfl)
  rw [hall k h1 h0] at hh
  have ih:=ZjJ l id h2 hall X I hX hI n (k+1) (by omega) (by omega)
  unfold Zh at ih ⊢
  rw [Za6]
  simp -implicitDefEqProofs only [EQA,ZZ,Z4,ZS,ZQ,ZT,ZU,Z5,Z0,Z1,ZR,ZX,ZV,ZY,Z3,Z2,implies_true,forall_const,Nat.reduceAdd,Nat.reduceSub,Nat.reduceLT,Nat.reduceLeDiff,Nat.reduceEqDiff,Nat.reduceBEq,Nat.reduceMul,ZJ,ZL,unA,Zw,ZD,unG,reduceCtorEq,Zn,decide_eq_true_eq,Bool.not_eq_true,Bool.decide_eq_true,ite_self,↓reduceIte,ZA,ZI,gcT,gcA,Zs,Zk,Zf,Zj,Zv,Zc,Zt,Zm,Zz,List.range_succ,Zbr,Za9,Zbq,Zbo,Za3,Zbn,ZaY,Zbm,Za2,Zbl,ZaV,Zbt,ZaW,Zbs,Za1,Zbu,ZaS,oI,oN,Z7,ZO,ZW,ZN,ZM,ZP,ZbI,ZbM,ZbP,ZbQ,ZbJ,ZbK,ZbH,h0,hh,hw,hx,hi,rx,ri,ZaK,ZaB]
  exact ih
theorem Zwg (l:List Int) (id:Int):(l++[id]).contains id=true:=by simp
theorem ZjS (fr:List Int):∀ (n i:Nat) (l:List Int),i+n=60->l.length+n<=1000->i<=fr.length ->
  ∃ (i':Nat) (l':List Int),evL FC PR2 BY 0 [8,7,1] ZdJ [(8,.int .i64 (i:Int)),(7,.ref 0 0),(1,.lst false (fr.map (AVal.int .i64 ·)))] (Zh l)=some (.exit 2,[(46,.bool false),(8,.int .i64 (i':Int)),(7,.ref 0 0),(1,.lst false (fr.map (AVal.int .i64 ·)))],Zh l')
 | 0,i,l,hi,hl,hf=>by
  obtain rfl:i=60:=by omega
  refine ⟨60,l,?_⟩
  have h60:¬((60:Nat):Int) < 60:=by decide
  unfold Zh
  by_cases h:((60:Nat):Int) < (fr.length:Int)
  ·rw [Za6]
   simp -implicitDefEqProofs only [EQA,ZZ,Z4,ZS,ZQ,ZT,ZU,Z5,Z0,Z1,ZR,ZX,ZV,ZY,Z3,Z2,implies_true,forall_const,Nat.reduceAdd,Nat.reduceSub,Nat.reduceLT,Nat.reduceLeDiff,Nat.reduceEqDiff,Nat.reduceBEq,Nat.reduceMul,ZJ,ZL,unA,Zw,ZD,unG,reduceCtorEq,Zn,decide_eq_true_eq,Bool.not_eq_true,Bool.decide_eq_true,ite_self,↓reduceIte,ZA,ZI,gcT,gcA,Zs,Zk,Zf,Zj,Zv,Zc,Zt,Zm,Zz,List.range_succ,Zbr,Za9,Zbq,Zbo,Za3,Zbn,ZaY,Zbm,Za2,Zbl,ZaV,Zbt,ZaW,Zbs,Za1,Zbu,ZaS,oI,oN,Z7,ZO,ZW,ZN,ZM,ZP,ZbI,ZbM,ZbP,ZbQ,ZbJ,ZbK,ZbH,h,h60,List.length_map,ZaK,ZaB]
  ·rw [Za6]
   simp -implicitDefEqProofs only [EQA,ZZ,Z4,ZS,ZQ,ZT,ZU,Z5,Z0,Z1,ZR,ZX,ZV,ZY,Z3,Z2,implies_true,forall_const,Nat.reduceAdd,Nat.reduceSub,Nat.reduceLT,Nat.reduceLeDiff,Nat.reduceEqDiff,Nat.reduceBEq,Nat.reduceMul,ZJ,ZL,unA,Zw,ZD,unG,reduceCtorEq,Zn,decide_eq_true_eq,Bool.not_eq_true,Bool.decide_eq_true,ite_self,↓reduceIte,ZA,ZI,gcT,gcA,Zs,Zk,Zf,Zj,Zv,Zc,Zt,Zm,Zz,List.range_succ,Zbr,Za9,Zbq,Zbo,Za3,Zbn,ZaY,Zbm,Za2,Zbl,ZaV,Zbt,ZaW,Zbs,Za1,Zbu,ZaS,oI,oN,Z7,ZO,ZW,ZN,ZM,ZP,ZbI,ZbM,ZbP,ZbQ,ZbJ,ZbK,ZbH,h,List.length_map,ZaK,ZaB]
 | n+1,i,l,hi,hl,hf=>by
  by_cases h:(i:Int) < (fr.length:Int)
  ·have h60:(i:Int) < 60:=by omega
   obtain ⟨id,ht,b1,b2,hc,hall⟩:=Zrg l (by omega)
   obtain ⟨f,hf'⟩:∃ f,fr[i]?=some f:=⟨fr[i]'(by omega),List.getElem?_eq_getElem _⟩
   have e1:=fun σ kk=>iad hf' (AVal.int IntKind.i64 ·) (k:=1) rfl σ false kk
   have hw:IntKind.i64.wrap ((i:Int)+1)=((i+1:Nat):Int):=by rw [Zgb (by omega) (by omega)];rfl
   have hT:=fun {σ:Za} {sq:Nat} {view:Bool} hs hm=>ZbC (ZgI l (σ:=σ) (t:=0) (m:=1) (sq:=sq) (own:=0) (view:=view) (by decide) hs hm rfl)
   rw [ht] at hT
   have hx:=Zwg l id
   have hH:=fun {σ:Za} {sq:Nat} {view:Bool} hs hm=>ZbC (Zep (l++[id]) id (σ:=σ) (t:=0) (m:=1) (sq:=sq) (own:=0) (view:=view) (by decide) hs hm rfl)
   rw [hx] at hH
   have hD:=fun {σ:Za} {sq:Nat} {view:Bool} hs hm=>ZbC (ZhF (l++[id]) id (σ:=σ) (t:=0) (m:=1) (sq:=sq) (own:=0) (view:=view) (by decide) hs hm rfl)
   rw [show Zax (l++[id]) id=(false,l++[id]) from by unfold Zax;rw [if_pos (Or.inr (Or.inr hx))]] at hD
   have hI:=ZjJ (l++[id]) id b2 (fun j h1 h2=>by have:=hall j h1 h2;simp at this ⊢;exact Or.inl this) (.lst false (fr.map (AVal.int .i64 ·))) (.int .i64 (i:Int)) rfl rfl (id - 1).toNat 1 (by omega) (by omega)
   have n1:¬id < 1:=by omega
   have n2:¬id > 65535:=by omega
   unfold Zh at hI
   have step:∃ l',l'.length<=l.length+1/\evL FC PR2 BY 0 [8,7,1] ZdJ [(8,.int .i64 (i:Int)),(7,.ref 0 0),(1,.lst false (fr.map (AVal.int .i64 ·)))] (Zh l)=evL FC PR2 BY 0 [8,7,1] ZdJ [(8,.int .i64 ((i+1:Nat):Int)),(7,.ref 0 0),(1,.lst false (fr.map (AVal.int .i64 ·)))] (Zh l'):=by
    have h10:¬(1:Int) < 0:=by decide
    obtain ⟨x,hxe⟩:∃ x,x=IntKind.i64.wrap (1+IntKind.i64.wrap (BitVec.ofInt IntKind.i64.bits (f.fdiv (2 ^ min (Int.toNat 1) IntKind.i64.bits)) &&& BitVec.ofInt IntKind.i64.bits 63).toNat):=⟨_,rfl⟩
    have hxe:=hxe.symm
    have hF:=fun {σ:Za} {sq:Nat} {view:Bool} hs hm=>ZbC (Zhw (l++[id]) x (σ:=σ) (t:=0) (m:=1) (sq:=sq) (own:=0) (view:=view) (by decide) hs hm rfl)
    have hX:=fun {σ:Za} {sq:Nat} {view:Bool} hs hm=>ZbC (Zep (l++[id]) x (σ:=σ) (t:=0) (m:=1) (sq:=sq) (own:=0) (view:=view) (by decide) hs hm rfl)
    unfold Zh
    rw [Za6]
    cases hA:(IntKind.i64.wrap (BitVec.ofInt IntKind.i64.bits f &&& BitVec.ofInt IntKind.i64.bits 1).toNat == 1) with
    | false =>
     refine ⟨l++[id],by simp,?_⟩
     simp -implicitDefEqProofs only [EQA,ZZ,Z4,ZS,ZQ,ZT,ZU,Z5,Z0,Z1,ZR,ZX,ZV,ZY,Z3,Z2,implies_true,forall_const,Nat.reduceAdd,Nat.reduceSub,Nat.reduceLT,Nat.reduceLeDiff,Nat.reduceEqDiff,Nat.reduceBEq,Nat.reduceMul,ZJ,ZL,unA,Zw,ZD,unG,reduceCtorEq,Zn,decide_eq_true_eq,Bool.not_eq_true,Bool.decide_eq_true,ite_self,↓reduceIte,ZA,ZI,gcT,gcA,Zs,Zk,Zf,Zj,Zv,Zc,Zt,Zm,Zz,List.range_succ,Zbr,Za9,Zbq,Zbo,Za3,Zbn,ZaY,Zbm,Za2,Zbl,ZaV,Zbt,ZaW,Zbs,Za1,Zbu,ZaS,oI,oN,Z7,ZO,ZW,ZN,ZM,ZP,ZbI,ZbM,ZbP,ZbQ,ZbJ,ZbK,ZbH,h,h60,hw,hT,hH,hD,hI,e1,n1,n2,hA,List.length_map,ZaK,ZaB]
    | true =>
     cases hC:(l++[id]).contains x with
     | true =>
      rw [hC] at hF
      refine ⟨(l++[id]).erase x,by have:=List.length_erase_le (a:=x) (l:=l++[id]);simp at this;omega,?_⟩
      simp -implicitDefEqProofs only [EQA,ZZ,Z4,ZS,ZQ,ZT,ZU,Z5,Z0,Z1,ZR,ZX,ZV,ZY,Z3,Z2,implies_true,forall_const,Nat.reduceAdd,Nat.reduceSub,Nat.reduceLT,Nat.reduceLeDiff,Nat.reduceEqDiff,Nat.reduceBEq,Nat.reduceMul,ZJ,ZL,unA,Zw,ZD,unG,reduceCtorEq,Zn,decide_eq_true_eq,Bool.not_eq_true,Bool.decide_eq_true,ite_self,↓reduceIte,ZA,ZI,gcT,gcA,Zs,Zk,Zf,Zj,Zv,Zc,Zt,Zm,Zz,List.range_succ,Zbr,Za9,Zbq,Zbo,Za3,Zbn,ZaY,Zbm,Za2,Zbl,ZaV,Zbt,ZaW,Zbs,Za1,Zbu,ZaS,oI,oN,Z7,ZO,ZW,ZN,ZM,ZP,ZbI,ZbM,ZbP,ZbQ,ZbJ,ZbK,ZbH,h,h60,hw,hT,hH,hD,hI,e1,n1,n2,hA,h10,hxe,hF,List.length_map,ZaK,ZaB]
     | false =>
      rw [hC,List.erase_of_not_mem (by simpa using hC)] at hF
      rw [hC] at hX
      refine ⟨l++[id],by simp,?_⟩
      simp -implicitDefEqProofs only [EQA,ZZ,Z4,ZS,ZQ,ZT,ZU,Z5,Z0,Z1,ZR,ZX,ZV,ZY,Z3,Z2,implies_true,forall_const,Nat.reduceAdd,Nat.reduceSub,Nat.reduceLT,Nat.reduceLeDiff,Nat.reduceEqDiff,Nat.reduceBEq,Nat.reduceMul,ZJ,ZL,unA,Zw,ZD,unG,reduceCtorEq,Zn,decide_eq_true_eq,Bool.not_eq_true,Bool.decide_eq_true,ite_self,↓reduceIte,ZA,ZI,gcT,gcA,Zs,Zk,Zf,Zj,Zv,Zc,Zt,Zm,Zz,List.range_succ,Zbr,Za9,Zbq,Zbo,Za3,Zbn,ZaY,Zbm,Za2,Zbl,ZaV,Zbt,ZaW,Zbs,Za1,Zbu,ZaS,oI,oN,Z7,ZO,ZW,ZN,ZM,ZP,ZbI,ZbM,ZbP,ZbQ,ZbJ,ZbK,ZbH,h,h60,hw,hT,hH,hD,hI,e1,n1,n2,hA,h10,hxe,hF,hX,List.length_map,ZaK,ZaB]
   obtain ⟨l',hl',step⟩:=step
   rw [step]
   exact ZjS fr n (i+1) l' (by omega) (by omega) (by omega)
  ·refine ⟨i,l,?_⟩
   unfold Zh
   rw [Za6]
   simp -implicitDefEqProofs only [EQA,ZZ,Z4,ZS,ZQ,ZT,ZU,Z5,Z0,Z1,ZR,ZX,ZV,ZY,Z3,Z2,implies_true,forall_const,Nat.reduceAdd,Nat.reduceSub,Nat.reduceLT,Nat.reduceLeDiff,Nat.reduceEqDiff,Nat.reduceBEq,Nat.reduceMul,ZJ,ZL,unA,Zw,ZD,unG,reduceCtorEq,Zn,decide_eq_true_eq,Bool.not_eq_true,Bool.decide_eq_true,ite_self,↓reduceIte,ZA,ZI,gcT,gcA,Zs,Zk,Zf,Zj,Zv,Zc,Zt,Zm,Zz,List.range_succ,Zbr,Za9,Zbq,Zbo,Za3,Zbn,ZaY,Zbm,Za2,Zbl,ZaV,Zbt,ZaW,Zbs,Za1,Zbu,ZaS,oI,oN,Z7,ZO,ZW,ZN,ZM,ZP,ZbI,ZbM,ZbP,ZbQ,ZbJ,ZbK,ZbH,h,List.length_map,ZaK,ZaB]
def Zdy (x:Int):Int:=IntKind.i64.wrap (BitVec.ofInt IntKind.i64.bits x &&& BitVec.ofInt IntKind.i64.bits 63).toNat
def Zc9:List Int->AVal
 | []=>.lst true []
 | x::d=>.sl 0 0 0 (d.length+1)
def Zda:List Int->Za
 | []=>[]
 | x::d=>[.row 0 1 ((x::d).map (AVal.int .i64))]
theorem Zgk (bg fr:List Int) (hb:bg.length<=60):∀ (r d:List Int) (i:Nat),bg.drop i=r->i<=bg.length->d.length+r.length<=60 ->
  evL FC PR2 BY 0 [6,5,1,0] ZeW [(6,.int .i64 (i:Int)),(5,Zc9 d),(1,.lst false (fr.map (AVal.int .i64 ·))),(0,.lst false (bg.map (AVal.int .i64 ·)))] (Zda d) =
   some (.exit 0,[(20,.bool false),(6,.int .i64 (bg.length:Int)),(5,Zc9 (d++r.map Zdy)),(1,.lst false (fr.map (AVal.int .i64 ·))),(0,.lst false (bg.map (AVal.int .i64 ·)))],Zda (d++r.map Zdy))
 | [],[],i,hi,hl2,hl=>by
  have h0:=Zge hi
  obtain rfl:i=bg.length:=by omega
  unfold Zc9 Zda
  rw [List.map_nil,List.append_nil,Za6]
  simp -implicitDefEqProofs only [EQA,ZZ,Z4,ZS,ZQ,ZT,ZU,Z5,Z0,Z1,ZR,ZX,ZV,ZY,Z3,Z2,implies_true,forall_const,Nat.reduceAdd,Nat.reduceSub,Nat.reduceLT,Nat.reduceLeDiff,Nat.reduceEqDiff,Nat.reduceBEq,Nat.reduceMul,ZJ,ZL,unA,Zw,ZD,unG,reduceCtorEq,Zn,decide_eq_true_eq,Bool.not_eq_true,Bool.decide_eq_true,ite_self,↓reduceIte,ZA,ZI,gcT,gcA,Zs,Zk,Zf,Zj,Zv,Zc,Zt,Zm,Zz,List.range_succ,Zbr,Za9,Zbq,Zbo,Za3,Zbn,ZaY,Zbm,Za2,Zbl,ZaV,Zbt,ZaW,Zbs,Za1,Zbu,ZaS,oI,oN,Z7,ZO,ZW,ZN,ZM,ZP,ZbI,ZbM,ZbP,ZbQ,ZbJ,ZbK,ZbH,h0,List.length_map]
 | [],y::d,i,hi,hl2,hl=>by
  have h0:=Zge hi
  obtain rfl:i=bg.length:=by omega
  rw [List.map_nil,List.append_nil]
  unfold Zc9 Zda
  rw [Za6]
  simp -implicitDefEqProofs only [EQA,ZZ,Z4,ZS,ZQ,ZT,ZU,Z5,Z0,Z1,ZR,ZX,ZV,ZY,Z3,Z2,implies_true,forall_const,Nat.reduceAdd,Nat.reduceSub,Nat.reduceLT,Nat.reduceLeDiff,Nat.reduceEqDiff,Nat.reduceBEq,Nat.reduceMul,ZJ,ZL,unA,Zw,ZD,unG,reduceCtorEq,Zn,decide_eq_true_eq,Bool.not_eq_true,Bool.decide_eq_true,ite_self,↓reduceIte,ZA,ZI,gcT,gcA,Zs,Zk,Zf,Zj,Zv,Zc,Zt,Zm,Zz,List.range_succ,Zbr,Za9,Zbq,Zbo,Za3,Zbn,ZaY,Zbm,Za2,Zbl,ZaV,Zbt,ZaW,Zbs,Za1,Zbu,ZaS,oI,oN,Z7,ZO,ZW,ZN,ZM,ZP,ZbI,ZbM,ZbP,ZbQ,ZbJ,ZbK,ZbH,h0,List.length_map]
 | x::r,[],i,hi,hl2,hl=>by
  obtain ⟨g1,d1,l1⟩:=ZfZ hi
  have h0:(i:Int) < (bg.length:Int):=by omega
  have e1:=fun σ kk=>iad g1 (AVal.int IntKind.i64 ·) (k:=1) rfl σ false kk
  have hw:=Ze5 (i:=i) h0 (by omega)
  have ih:=Zgk bg fr hb r [Zdy x] (i+1) d1 (by omega) (by simp at hl ⊢;omega)
  have hL:IntKind.i64.wrap (BitVec.ofInt IntKind.i64.bits x &&& BitVec.ofInt IntKind.i64.bits 63).toNat=Zdy x:=rfl
  simp only [List.map_cons,List.nil_append,List.singleton_append] at ih ⊢
  unfold Zc9 Zda at ih ⊢
  rw [Za6]
  simp -implicitDefEqProofs only [EQA,ZZ,Z4,ZS,ZQ,ZT,ZU,Z5,Z0,Z1,ZR,ZX,ZV,ZY,Z3,Z2,implies_true,forall_const,Nat.reduceAdd,Nat.reduceSub,Nat.reduceLT,Nat.reduceLeDiff,Nat.reduceEqDiff,Nat.reduceBEq,Nat.reduceMul,ZJ,ZL,unA,Zw,ZD,unG,reduceCtorEq,Zn,decide_eq_true_eq,Bool.not_eq_true,Bool.decide_eq_true,ite_self,↓reduceIte,ZA,ZI,gcT,gcA,Zs,Zk,Zf,Zj,Zv,Zc,Zt,Zm,Zz,List.range_succ,Zbr,Za9,Zbq,Zbo,Za3,Zbn,ZaY,Zbm,Za2,Zbl,ZaV,Zbt,ZaW,Zbs,Za1,Zbu,ZaS,oI,oN,Z7,ZO,ZW,ZN,ZM,ZP,ZbI,ZbM,ZbP,ZbQ,ZbJ,ZbK,ZbH,h0,e1,hw,hL,Zav,kOk,viewAs,Za0,ZaG,ZaR,Zl,List.length_singleton,Nat.one_mul,List.length_map]
  simp only [List.length_map,List.length_nil,Nat.zero_add,List.map_cons,List.map_nil] at ih ⊢
  exact ih
 | x::r,y::d,i,hi,hl2,hl=>by
  obtain ⟨g1,d1,l1⟩:=ZfZ hi
  have h0:(i:Int) < (bg.length:Int):=by omega
  have e1:=fun σ kk=>iad g1 (AVal.int IntKind.i64 ·) (k:=1) rfl σ false kk
  have hw:=Ze5 (i:=i) h0 (by omega)
  have hb2:(d.length+1+1)*8<=140737488355328:=by simp only [List.length_cons] at hl;omega
  have ih:=Zgk bg fr hb r (y::(d++[Zdy x])) (i+1) d1 (by omega) (by simp at hl ⊢;omega)
  have hL:IntKind.i64.wrap (BitVec.ofInt IntKind.i64.bits x &&& BitVec.ofInt IntKind.i64.bits 63).toNat=Zdy x:=rfl
  simp only [List.map_cons,List.cons_append,List.append_assoc,List.singleton_append] at ih ⊢
  unfold Zc9 Zda at ih ⊢
  rw [Za6]
  simp -implicitDefEqProofs only [EQA,ZZ,Z4,ZS,ZQ,ZT,ZU,Z5,Z0,Z1,ZR,ZX,ZV,ZY,Z3,Z2,implies_true,forall_const,Nat.reduceAdd,Nat.reduceSub,Nat.reduceLT,Nat.reduceLeDiff,Nat.reduceEqDiff,Nat.reduceBEq,Nat.reduceMul,ZJ,ZL,unA,Zw,ZD,unG,reduceCtorEq,Zn,decide_eq_true_eq,Bool.not_eq_true,Bool.decide_eq_true,ite_self,↓reduceIte,ZA,ZI,gcT,gcA,Zs,Zk,Zf,Zj,Zv,Zc,Zt,Zm,Zz,List.range_succ,Zbr,Za9,Zbq,Zbo,Za3,Zbn,ZaY,Zbm,Za2,Zbl,ZaV,Zbt,ZaW,Zbs,Za1,Zbu,ZaS,oI,oN,Z7,ZO,ZW,ZN,ZM,ZP,ZbI,ZbM,ZbP,ZbQ,ZbJ,ZbK,ZbH,h0,e1,hw,hL,hb2,Zav,kOk,viewAs,Za0,ZaG,ZaR,Zl,List.length_singleton,Nat.one_mul,List.length_map,List.length_cons]
  simp only [List.length_append,List.length_cons,List.length_nil,List.length_map,List.map_append,List.map_cons,List.map_nil,List.cons_append,Nat.zero_add] at ih ⊢
  exact ih
theorem ZhX (fr b2:List Int) (h2:b2.length<=60):Zas 0 ZfD (ZbX FC PR2 BY 0 Ze3 (Option.map (ZaN 0) (evL FC PR2 BY 0 [6,5,1,0] ZeW [(6,.int .i64 0),(5,.lst true []),(1,.lst false (fr.map (.int .i64 ·))),(0,.lst false (b2.map (.int .i64 ·)))] [])))=some (.bool true,[]):=by
 have h5:=Zgk b2 fr h2 b2 [] 0 rfl (by omega) (by simpa using h2)
 rw [List.nil_append] at h5
 have z:((0:Nat):Int)=0:=rfl
 rw [z] at h5
 generalize hD:b2.map Zdy=D at *
 have hDl:D.length<=60:=by rw [<-hD];simpa using h2
 obtain ⟨i',l',h12⟩:=ZjS fr 60 0 (Zdh D) rfl (by have:=Zwn D;omega) (by omega)
 rw [z] at h12
 have hw:=ZpD
 unfold Zh at h12
 cases D with
 | nil =>
  have hN:=fun {σ:Za} {sq:Nat} hff=>ZbC (ZgM [] (by decide) (σ:=σ) (sq:=sq) (args:=[.lst true []]) (ts:=[]) rfl hff)
  unfold Zc9 Zda at h5
  simp -implicitDefEqProofs only [EQA,ZZ,Z4,ZS,ZQ,ZT,ZU,Z5,Z0,Z1,ZR,ZX,ZV,ZY,Z3,Z2,implies_true,forall_const,Nat.reduceAdd,Nat.reduceSub,Nat.reduceLT,Nat.reduceLeDiff,Nat.reduceEqDiff,Nat.reduceBEq,Nat.reduceMul,ZJ,ZL,unA,Zw,ZD,unG,reduceCtorEq,Zn,decide_eq_true_eq,Bool.not_eq_true,Bool.decide_eq_true,ite_self,↓reduceIte,ZA,ZI,gcT,gcA,Zs,Zk,Zf,Zj,Zv,Zc,Zt,Zm,Zz,List.range_succ,Zbr,Za9,Zbq,Zbo,Za3,Zbn,ZaY,Zbm,Za2,Zbl,ZaV,Zbt,ZaW,Zbs,Za1,Zbu,ZaS,oI,oN,Z7,ZO,ZW,ZN,ZM,ZP,ZbI,ZbM,ZbP,ZbQ,ZbJ,ZbK,ZbH,h5,h12,hw,hN,ZaD,Zl,ZaK,ZaB]
 | cons y d =>
  have hN:=fun {σ:Za} {sq:Nat} (h0:σ[0]?=some (.row 0 1 ((y::d).map (AVal.int .i64)))) hff=>ZbC (ZgM (y::d) (by omega) (σ:=σ) (sq:=sq) (args:=[.sl 0 0 0 (d.length+1)]) (ts:=[0]) (by
   have he:Zn σ (.sl 0 0 0 (d.length+1))=some ((y::d).map (AVal.int .i64),[0]):=by simp [Zn,h0,List.take_of_length_le]
   simp only [showAs,showA,ZbF,he]
   rfl) hff)
  unfold Zc9 Zda at h5
  simp -implicitDefEqProofs only [EQA,ZZ,Z4,ZS,ZQ,ZT,ZU,Z5,Z0,Z1,ZR,ZX,ZV,ZY,Z3,Z2,implies_true,forall_const,Nat.reduceAdd,Nat.reduceSub,Nat.reduceLT,Nat.reduceLeDiff,Nat.reduceEqDiff,Nat.reduceBEq,Nat.reduceMul,ZJ,ZL,unA,Zw,ZD,unG,reduceCtorEq,Zn,decide_eq_true_eq,Bool.not_eq_true,Bool.decide_eq_true,ite_self,↓reduceIte,ZA,ZI,gcT,gcA,Zs,Zk,Zf,Zj,Zv,Zc,Zt,Zm,Zz,List.range_succ,Zbr,Za9,Zbq,Zbo,Za3,Zbn,ZaY,Zbm,Za2,Zbl,ZaV,Zbt,ZaW,Zbs,Za1,Zbu,ZaS,oI,oN,Z7,ZO,ZW,ZN,ZM,ZP,ZbI,ZbM,ZbP,ZbQ,ZbJ,ZbK,ZbH,h5,h12,hw,hN,ZaD,Zl,ZaK,ZaB]
theorem Zq5 (bg fr:List Int):E2 4 [.lst false (bg.map (.int .i64 ·)),.lst false (fr.map (.int .i64 ·))] []=some (.bool true,[]):=by
 rw [ZjR (by rfl) Zo8]
 by_cases h:(bg.length:Int) > 60
 ·have k:=ZhX fr (bg.take 60) (by simp;omega)
  have hs:ZbL [] 1 (.lst false (bg.map (AVal.int IntKind.i64 ·))) none (some (.int .i64 60)) none=some (.lst false ((bg.take 60).map (AVal.int IntKind.i64 ·)),[],{}):=Zn0 [] 1 bg (AVal.int IntKind.i64 ·) .i64 60 (by decide) (by omega)
  simp -implicitDefEqProofs only [EQA,ZZ,Z4,ZS,ZQ,ZT,ZU,Z5,Z0,Z1,ZR,ZX,ZV,ZY,Z3,Z2,implies_true,forall_const,Nat.reduceAdd,Nat.reduceSub,Nat.reduceLT,Nat.reduceLeDiff,Nat.reduceEqDiff,Nat.reduceBEq,Nat.reduceMul,ZJ,ZL,unA,Zw,ZD,unG,reduceCtorEq,Zn,decide_eq_true_eq,Bool.not_eq_true,Bool.decide_eq_true,ite_self,↓reduceIte,ZA,ZI,gcT,gcA,Zs,Zk,Zf,Zj,Zv,Zc,Zt,Zm,Zz,List.range_succ,Zbr,Za9,Zbq,Zbo,Za3,Zbn,ZaY,Zbm,Za2,Zbl,ZaV,Zbt,ZaW,Zbs,Za1,Zbu,ZaS,oI,oN,Z7,ZO,ZW,ZN,ZM,ZP,h,hs,List.length_map]
  exact k
 ·have k:=ZhX fr bg (by omega)
  simp -implicitDefEqProofs only [EQA,ZZ,Z4,ZS,ZQ,ZT,ZU,Z5,Z0,Z1,ZR,ZX,ZV,ZY,Z3,Z2,implies_true,forall_const,Nat.reduceAdd,Nat.reduceSub,Nat.reduceLT,Nat.reduceLeDiff,Nat.reduceEqDiff,Nat.reduceBEq,Nat.reduceMul,ZJ,ZL,unA,Zw,ZD,unG,reduceCtorEq,Zn,decide_eq_true_eq,Bool.not_eq_true,Bool.decide_eq_true,ite_self,↓reduceIte,ZA,ZI,gcT,gcA,Zs,Zk,Zf,Zj,Zv,Zc,Zt,Zm,Zz,List.range_succ,Zbr,Za9,Zbq,Zbo,Za3,Zbn,ZaY,Zbm,Za2,Zbl,ZaV,Zbt,ZaW,Zbs,Za1,Zbu,ZaS,oI,oN,Z7,ZO,ZW,ZN,ZM,ZP,h,List.length_map]
  exact k
end
section
open Go.RowKit
def Zf9:Ty:=.slice false (.int .i64)
theorem Zh8 {x:AVal} (h:ZiZ false Zf9 x):∃ l:List Int,x=.lst false (l.map (AVal.int .i64 ·)):=by
 obtain ⟨y,h,rfl⟩:=h
 simp only [Zf9,TyC] at h
 obtain ⟨ys,rfl,h1,h2⟩:=h
 have : ∀ ys:List (List AVal),(∀ y ∈ ys,TyC (.int .i64) y)->∃ l:List Int,ys.map (Zbe false)=l.map (AVal.int .i64 ·):=by
  intro ys
  induction ys with
  | nil=>intro _;exact ⟨[],rfl⟩
  | cons y ys ih =>
   intro hy
   have hy0:=hy y (by simp)
   simp only [TyC] at hy0
   obtain ⟨a,_,ha⟩:=hy0
   obtain ⟨l,hl⟩:=ih fun y' h'=>hy y' (by simp [h'])
   exact ⟨a::l,by simp [ha,hl,Zbe]⟩
 obtain ⟨l,hl⟩:=this ys h2
 exact ⟨l,by simp [Zbe,hl]⟩
theorem ZoF (w:World):Gl.le (Imm.of w):=by
 intro b o u h
 unfold Gl at h
 cases h
end
section
open Go.ChangeShapes Go.WideShapes Go.ChangeAt Go.RowKit Go.Deep
open Go.ChangeMaps (open_string shut_string)
theorem ZqX:ownKnob Try.prog.godebug=none:=by kernel_rfl
theorem Zh9:laidOutB Try.prog=true:=by kernel_rfl
set_option maxRecDepth 100000 in
theorem ZlU (os:Os) (started:os.Started) (H:Type) (enc:TypeId×Value->H) :
  ReturnsInHanded {} Try.checked os 4 .any (Rows.identLeastSpec.pre6 enc Try.prog Try.f4 Rows.identLeastRow.domain false) (Rows.identLeastSpec.post enc Try.prog Try.f4 false true false false):=by
 refine returnsInHanded_of_change (C:=Try.checked) ZqX started (by kernel_rfl) Try.func4
  (ChangeSpec.witness6 (enc:=enc) (C:=Try.checked) false ⟨#[],#[.slice none 0 0,.slice none 0 0],[]⟩ 8 (by kernel_rfl) (by kernel_rfl) (by kernel_rfl) (by kernel_rfl)) ?_
 intro W base args ds gs before hval0 hW hcnd _
 have hval:∀ (j:Nat) t v,Try.f4.params[j]?=some t->args[j]?=some v->Value.okWide Try.prog W .any base t v:=hval0
 have hW':=hW
 obtain ⟨p,q,hA0,hV,rfl,hfz,hnd⟩:=hW
 have hA:DataW.TrodAll enc Try.prog W 0 (fun _=>true) true Try.f4.params.toList args.toList ds p:=hA0
 rw [Try.params4] at hA hval
 obtain ⟨v0,vs0,d0,ds0,p0,q0,hargs,rfl,rfl,h0,r0⟩:=trodAll_cons hA
 obtain ⟨v1,vs1,d1,ds1,p1,q1,rfl,rfl,rfl,h1,r1⟩:=trodAll_cons r0
 obtain ⟨rfl,rfl,rfl⟩:=trodAll_nil r1
 obtain rfl:args=#[v0,v1]:=by cases args;simp_all
 obtain ⟨rfl,rfl⟩:=trodVars_none hV
 have k0:=h0
 have lt0:∀ x ∈ p0,x.block < W.heap.size:=by obtain ⟨m,hm⟩:=k0;exact DataW.trod_lt m _ _ _ hm
 have k1:=h1
 have lt1:∀ x ∈ p1,x.block < W.heap.size:=by obtain ⟨m,hm⟩:=k1;exact DataW.trod_lt m _ _ _ hm
 obtain ⟨x0,y0,z0,_⟩:=ZjG (n:=12) (T:=Zf9) (by kernel_rfl) (hval 0 22 v0 rfl rfl) h0
 obtain ⟨a0,rfl⟩:=Zh8 y0
 obtain ⟨x1,y1,z1,_⟩:=ZjG (n:=12) (T:=Zf9) (by kernel_rfl) (hval 1 22 v1 rfl rfl) h1
 obtain ⟨a1,rfl⟩:=Zh8 y1
 clear hA0 hval0
 refine (Zpf Znl (ZoF _) (args:=[.lst false (a0.map (AVal.int .i64 ·)),.lst false (a1.map (AVal.int .i64 ·))]) (by simp only [VRs];exact ⟨_,_,rfl,z0,_,_,rfl,z1,rfl⟩) (Zq5 a0 a1)).mono fun e W' ⟨he,bel⟩=>?_
 subst he
 exact ⟨_,rfl,_,_,_,[],_,[],hW',trodAll_mk1 (shut_bool Try.underlying4 _),(trodAll_cons_mk (Below.trod Zh9 (by kernel_rfl) (of_decide_eq_true (by kernel_rfl)) k0 bel lt0) (trodAll_cons_mk (Below.trod Zh9 (by kernel_rfl) (of_decide_eq_true (by kernel_rfl)) k1 bel lt1) trodAll_mk0)),rfl,bel.frame _,fun h=>by cases h⟩
theorem identLeast_holds:Rows.IdentLeastSaid :=
 OpenClaim.holds_of_wide 4 Try.f4 rfl rfl rfl rfl rfl rfl rfl ⟨rfl,rfl,rfl,rfl,rfl⟩ rfl rfl rfl rfl rfl (by kernel_rfl) Try.func4 (by kernel_rfl)
  (of_decide_eq_true (by kernel_rfl)) (by unfold Func.isWrapper;first | (rw [if_pos (by decide +kernel)];kernel_rfl) | (rw [if_neg (by decide +kernel)];exact ⟨rfl,rfl⟩))
  (fun os started H enc _=>ZlU os started H enc)
#print axioms identLeast_holds
end
end Go.Proofs.Ytcgndmenpdhjcaa
