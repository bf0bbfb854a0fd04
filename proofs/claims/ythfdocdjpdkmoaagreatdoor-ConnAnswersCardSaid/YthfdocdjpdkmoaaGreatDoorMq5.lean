/- packed -/
import Derived.Test.YthfdocdjpdkmoaaGreatDoorMq4
import Derived.Test.YthfdocdjpdkmoaaGreatDoorMq3
import Derived.Test.YthfdocdjpdkmoaaGreatDoorMq2
import Derived.Shelf.LaysM
import Derived.Shelf.Bytes.TryGrowAt
import Derived.Shelf.Bytes.GrowSliceCatch
import Derived.Lib.ByteType
import Derived.Lib.BufferAt
import Derived.Lib.BufferOwn
import Derived.Lib.AppendZeros
import Derived.Lib.Walk
import Derived.Lib.Hide
import Derived.Laws.CopyRow
import Derived.Laws.IdiomCopy
import Derived.Laws.MakeOwn
import Derived.WalkKit
import Derived.OwnWalk
import Derived.Defers
import Derived.Recover
import Derived.RegionTactic
import Derived.Shelf.RegionOpenPlain
import Derived.Deep.RegionWith
import Derived.Deep.Draws
import Derived.BigCall
import Derived.BigGuard
set_option linter.defProp false
set_option linter.unusedSectionVars false
set_option linter.unusedSimpArgs false
set_option linter.unusedVariables false
namespace Go.Proofs.YthfdocdjpdkmoaaGreatDoor
set_option maxHeartbeats 16000000
set_option maxRecDepth 10000
section
def Zc0 (k:Int) (l:Zb):Except Int (Int×List Zm×Zb):=match idK l with
 | .error c=>.error c
 | .ok (n,r1)=>match Zbt k r1 with
  | .error c=>.error c
  | .ok (ps,r2)=>if r2.length=0 then .error 130 else .ok (n,ps,r2)
def ZbY (P:List AVal) (n:Int) (ps:List Zm):List AVal:=(P.set 4 (.int .i64 n)).set 9 (.lst false (ps.map Zj))
structure QOk (k:Int) (Q:List AVal):Prop where
 len:Q.length=26
 nor:Zd Q=true
 ty:Q[0]?=some (.int .i64 k)
 c8:Q[8]?=some (.lst true [])
 c10:Q[10]?=some (.lst true [])
 c11:Q[11]?=some (.lst true [])
theorem ZdH {k:Int} {P:List AVal} (h:QOk k P) (n:Int) (ps:List Zm):QOk k (ZbY P n ps):=by
 unfold ZbY
 refine ⟨by simp [h.len],ZQ (Zb2 _ _) _ (ZQ rfl _ h.nor),?_,?_,?_,?_⟩
 ·rw [List.getElem?_set_ne (by omega),List.getElem?_set_ne (by omega)];exact h.ty
 ·rw [List.getElem?_set_ne (by omega),List.getElem?_set_ne (by omega)];exact h.c8
 ·rw [List.getElem?_set_ne (by omega),List.getElem?_set_ne (by omega)];exact h.c10
 ·rw [List.getElem?_set_ne (by omega),List.getElem?_set_ne (by omega)];exact h.c11
theorem ZJC {f:Nat} {cs:List AVal} (hc:Zd cs=true) (τ:Za) :
  gcT 3 [(1,.fn f [.ref 1 0,.ref 2 0]),(0,.ref 0 0)] (.var cs::.var [.ref 0 0]::.var [.ref 0 0]::τ)=([(1,.fn f [.ref 1 0,.ref 2 0]),(0,.ref 0 0)],[.var cs,.var [.ref 0 0],.var [.ref 0 0]]):=by
 have e2:=fun ρ=>ZaV ρ cs hc
 have hi:ZA 3 [.fn f [.ref 1 0,.ref 2 0],.ref 0 0] (.var cs::.var [.ref 0 0]::.var [.ref 0 0]::τ)=[0,1,2]:=by
  have hR:List.range 3=[0,1,2]:=rfl
  simp only [ZA,hR,List.flatMap_cons,List.flatMap_nil,List.append_nil,List.getD_cons_zero,List.getD_cons_succ,ZP,Zr,ZZ,(e2 (fun _ _=>none)).2]
  rfl
 have hρ0:Zn (.var cs::.var [.ref 0 0]::.var [.ref 0 0]::τ) 3 [0,1,2] 0 0=some (0,0):=rfl
 have hρ1:Zn (.var cs::.var [.ref 0 0]::.var [.ref 0 0]::τ) 3 [0,1,2] 1 0=some (1,0):=rfl
 have hρ2:Zn (.var cs::.var [.ref 0 0]::.var [.ref 0 0]::τ) 3 [0,1,2] 2 0=some (2,0):=rfl
 simp only [gcT,gcA,List.map_cons,List.map_nil,hi,Zu,List.getD_cons_zero,List.getD_cons_succ,ZH,Zf,Zl,hρ0,hρ1,hρ2,(e2 _).1]
 rfl
theorem ZLP {f:Nat} {cs:List AVal} (hc:Zd cs=true) (τ:Za) :
  gcT 1 [(1,.fn f [.ref 0 0]),(0,.ref 0 0)] (.var cs::τ)=([(1,.fn f [.ref 0 0]),(0,.ref 0 0)],[.var cs]):=by
 have e2:=fun ρ=>ZaV ρ cs hc
 have hi:ZA 1 [.fn f [.ref 0 0],.ref 0 0] (.var cs::τ)=[0]:=by
  have hR:List.range 1=[0]:=rfl
  simp only [ZA,hR,List.flatMap_cons,List.flatMap_nil,List.append_nil,List.getD_cons_zero,ZP,Zr,ZZ,(e2 (fun _ _=>none)).2]
  rfl
 have hρ0:Zn (.var cs::τ) 1 [0] 0 0=some (0,0):=rfl
 simp only [gcT,gcA,List.map_cons,List.map_nil,hi,Zu,List.getD_cons_zero,ZH,Zf,Zl,hρ0,(e2 _).1]
 rfl
section
variable (k:Int) (f:Nat) (P:List AVal) (h:QOk k P) (l:Zb) (hl:l.length<=140737488355328)
include h hl
theorem ZsO {n:Int} {ps:List Zm} {r:Zb} (hk:Zc0 k l=.ok (n,ps,r)):E 74 [.ref 0 0,.fn f [.ref 1 0,.ref 2 0]] [.var (P++[.lst false (l.map Zc)]),.var [.ref 0 0],.var [.ref 0 0]]=ZaZ 3 [(1,.fn f [.ref 1 0,.ref 2 0]),(0,.ref 0 0)] [.var (ZbY P n ps++[.lst false (r.map Zc)]),.var [.ref 0 0],.var [.ref 0 0]]:=by
 obtain ⟨hP,hN,h0,-,-,-⟩:=h
 unfold Zc0 at hk
 split at hk
 ·cases hk
 rename_i n' r1 hi
 have l1:=Zfa hi
 split at hk
 ·cases hk
 rename_i ps' r2 hp
 split at hk
 ·cases hk
 rename_i hne
 injection hk with hk;injection hk with e1 hk;injection hk with e2 e3;subst e1 e2 e3
 have hI:=fun σ sq hs=>ZfQ P hP hN l hl σ 0 sq hs hi
 have hP4:(P.set 4 (.int .i64 n')).length=26:=by simp [hP]
 have hN4:Zd (P.set 4 (.int .i64 n'))=true:=ZQ rfl 4 hN
 have h04:(P.set 4 (.int .i64 n'))[0]?=some (.int .i64 k):=by rw [List.getElem?_set_ne (by omega)];exact h0
 unfold ZbY
 generalize P.set 4 (.int .i64 n')=R at *
 have hG:=fun σ sq hs=>Zeg R hP4 hN4 r1 (by omega) σ 0 sq hs (ZdL k r1) hp
 have c1:=Z6 R hP4
 have c2:=Zas R hP4
 have c4:=fun L=>(Z8 R hP4 0 (by omega) L).trans h04
 have c3:=fun L=>Zax R hP4 9 10 (by omega) rfl L (.lst false (ps'.map Zj))
 have hP9:(R.set 9 (.lst false (ps'.map Zj))).length=26:=by simp [hP4]
 have hN9:Zd (R.set 9 (.lst false (ps'.map Zj)))=true:=ZQ (Zb2 _ _) 9 hN4
 generalize R.set 9 (.lst false (ps'.map Zj))=S at *
 have d2:=Zas S hP9
 have m1:=Zbd
 have z:((r2.length:Nat):Int) > 0:=by omega
 have z2:(0:Int) < ((r2.length:Nat):Int):=by omega
 have gC:=fun τ=>ZJC (f:=f) (Zw S hP9 hN9 false (r2.map Zc)) τ
 unfold ZaZ
 rw [Zg (by rfl) Zf7]
 simp -implicitDefEqProofs only [EQA,ZE,Z4,Nat.reduceAdd,Nat.reduceLT,Nat.reduceLeDiff,Nat.reduceEqDiff,reduceCtorEq,↓reduceIte,ZfK,Zew,oI,oN,c1,c3,c4,hI,hG,d2,m1,z,gC]
theorem ZK6 {e:Int} (hk:Zc0 k l=.error e):∃ cs,Zd cs=true/\E 74 [.ref 0 0,.fn f [.ref 1 0,.ref 2 0]] [.var (P++[.lst false (l.map Zc)]),.var [.ref 0 0],.var [.ref 0 0]]=some (.pan (Zx e),[.var (cs),.var [.ref 0 0],.var [.ref 0 0]]):=by
 obtain ⟨hP,hN,h0,-,-,-⟩:=h
 unfold Zc0 at hk
 split at hk
 ·rename_i c hi
  injection hk with hk;subst hk
  obtain ⟨cs,hn,he⟩:=Zkt P hP hN l hl hi
  have hI:=fun (σ:Za) sq (hs:σ[0]?=some (.var (P++[.lst false (l.map Zc)])))=>ZcB (O:=E) (bf:=BY) (f:=72) (view:=true) (rest:=[]) (by kernel_rfl) rfl (Zw P hP hN _ _) hn rfl he hs sq
  refine ⟨cs,hn,?_⟩
  rw [Zg (by rfl) Zf7]
  simp -implicitDefEqProofs only [EQA,Nat.reduceAdd,Nat.reduceLT,reduceCtorEq,↓reduceIte,ZfK,Zew,oI,oN,hI]
  exact Zlp rfl hn _
 rename_i n' r1 hi
 have l1:=Zfa hi
 have hI:=fun σ sq hs=>ZfQ P hP hN l hl σ 0 sq hs hi
 have hP4:(P.set 4 (.int .i64 n')).length=26:=by simp [hP]
 have hN4:Zd (P.set 4 (.int .i64 n'))=true:=ZQ rfl 4 hN
 have h04:(P.set 4 (.int .i64 n'))[0]?=some (.int .i64 k):=by rw [List.getElem?_set_ne (by omega)];exact h0
 generalize P.set 4 (.int .i64 n')=R at *
 have c1:=Z6 R hP4
 have c2:=Zas R hP4
 have c4:=fun L=>(Z8 R hP4 0 (by omega) L).trans h04
 split at hk
 ·rename_i c hp
  injection hk with hk;subst hk
  have hG:=fun σ sq hs=>ZfM R hP4 hN4 r1 (by omega) σ 0 sq hs hp
  refine ⟨_,Zw R hP4 hN4 false (r1.map Zc),?_⟩
  rw [Zg (by rfl) Zf7]
  simp -implicitDefEqProofs only [EQA,Nat.reduceAdd,Nat.reduceLT,Nat.reduceEqDiff,reduceCtorEq,↓reduceIte,ZfK,Zew,oI,oN,c4,hI,hG]
  exact Zlp rfl (Zw R hP4 hN4 _ _) _
 rename_i ps' r2 hp
 split at hk
 case isFalse=>cases hk
 rename_i hne
 injection hk with hk;subst hk
 have hG:=fun σ sq hs=>Zeg R hP4 hN4 r1 (by omega) σ 0 sq hs (ZdL k r1) hp
 have c3:=fun L=>Zax R hP4 9 10 (by omega) rfl L (.lst false (ps'.map Zj))
 have hP9:(R.set 9 (.lst false (ps'.map Zj))).length=26:=by simp [hP4]
 have hN9:Zd (R.set 9 (.lst false (ps'.map Zj)))=true:=ZQ (Zb2 _ _) 9 hN4
 generalize R.set 9 (.lst false (ps'.map Zj))=S at *
 have d2:=Zas S hP9
 have m1:=Zbz
 have z:¬((r2.length:Nat):Int) > 0:=by omega
 have z2:¬(0:Int) < ((r2.length:Nat):Int):=by omega
 refine ⟨_,Zw S hP9 hN9 false (r2.map Zc),?_⟩
 rw [Zg (by rfl) Zf7]
 simp -implicitDefEqProofs only [EQA,ZE,Nat.reduceAdd,Nat.reduceLT,Nat.reduceLeDiff,Nat.reduceEqDiff,reduceCtorEq,↓reduceIte,ZfK,Zew,oI,oN,c1,c3,c4,hI,hG,d2,m1,z]
 exact Zlp rfl (Zw S hP9 hN9 _ _) _
theorem Zv1 {n:Int} {ps:List Zm} {r:Zb} (hk:Zc0 k l=.ok (n,ps,r)):E 74 [.ref 0 0,.fn f [.ref 0 0]] [.var (P++[.lst false (l.map Zc)])]=ZaZ 1 [(1,.fn f [.ref 0 0]),(0,.ref 0 0)] [.var (ZbY P n ps++[.lst false (r.map Zc)])]:=by
 obtain ⟨hP,hN,h0,-,-,-⟩:=h
 unfold Zc0 at hk
 split at hk
 ·cases hk
 rename_i n' r1 hi
 have l1:=Zfa hi
 split at hk
 ·cases hk
 rename_i ps' r2 hp
 split at hk
 ·cases hk
 rename_i hne
 injection hk with hk;injection hk with e1 hk;injection hk with e2 e3;subst e1 e2 e3
 have hI:=fun σ sq hs=>ZfQ P hP hN l hl σ 0 sq hs hi
 have hP4:(P.set 4 (.int .i64 n')).length=26:=by simp [hP]
 have hN4:Zd (P.set 4 (.int .i64 n'))=true:=ZQ rfl 4 hN
 have h04:(P.set 4 (.int .i64 n'))[0]?=some (.int .i64 k):=by rw [List.getElem?_set_ne (by omega)];exact h0
 unfold ZbY
 generalize P.set 4 (.int .i64 n')=R at *
 have hG:=fun σ sq hs=>Zeg R hP4 hN4 r1 (by omega) σ 0 sq hs (ZdL k r1) hp
 have c1:=Z6 R hP4
 have c2:=Zas R hP4
 have c4:=fun L=>(Z8 R hP4 0 (by omega) L).trans h04
 have c3:=fun L=>Zax R hP4 9 10 (by omega) rfl L (.lst false (ps'.map Zj))
 have hP9:(R.set 9 (.lst false (ps'.map Zj))).length=26:=by simp [hP4]
 have hN9:Zd (R.set 9 (.lst false (ps'.map Zj)))=true:=ZQ (Zb2 _ _) 9 hN4
 generalize R.set 9 (.lst false (ps'.map Zj))=S at *
 have d2:=Zas S hP9
 have m1:=Zbd
 have z:((r2.length:Nat):Int) > 0:=by omega
 have z2:(0:Int) < ((r2.length:Nat):Int):=by omega
 have gC:=fun τ=>ZLP (f:=f) (Zw S hP9 hN9 false (r2.map Zc)) τ
 unfold ZaZ
 rw [Zg (by rfl) Zf7]
 simp -implicitDefEqProofs only [EQA,ZE,Z4,Nat.reduceAdd,Nat.reduceLT,Nat.reduceLeDiff,Nat.reduceEqDiff,reduceCtorEq,↓reduceIte,ZfK,Zew,oI,oN,c1,c3,c4,hI,hG,d2,m1,z,gC]
theorem ZJe {e:Int} (hk:Zc0 k l=.error e):∃ cs,Zd cs=true/\E 74 [.ref 0 0,.fn f [.ref 0 0]] [.var (P++[.lst false (l.map Zc)])]=some (.pan (Zx e),[.var (cs)]):=by
 obtain ⟨hP,hN,h0,-,-,-⟩:=h
 unfold Zc0 at hk
 split at hk
 ·rename_i c hi
  injection hk with hk;subst hk
  obtain ⟨cs,hn,he⟩:=Zkt P hP hN l hl hi
  have hI:=fun (σ:Za) sq (hs:σ[0]?=some (.var (P++[.lst false (l.map Zc)])))=>ZcB (O:=E) (bf:=BY) (f:=72) (view:=true) (rest:=[]) (by kernel_rfl) rfl (Zw P hP hN _ _) hn rfl he hs sq
  refine ⟨cs,hn,?_⟩
  rw [Zg (by rfl) Zf7]
  simp -implicitDefEqProofs only [EQA,Nat.reduceLT,reduceCtorEq,↓reduceIte,ZfK,Zew,oI,oN,hI]
  exact ZW rfl hn
 rename_i n' r1 hi
 have l1:=Zfa hi
 have hI:=fun σ sq hs=>ZfQ P hP hN l hl σ 0 sq hs hi
 have hP4:(P.set 4 (.int .i64 n')).length=26:=by simp [hP]
 have hN4:Zd (P.set 4 (.int .i64 n'))=true:=ZQ rfl 4 hN
 have h04:(P.set 4 (.int .i64 n'))[0]?=some (.int .i64 k):=by rw [List.getElem?_set_ne (by omega)];exact h0
 generalize P.set 4 (.int .i64 n')=R at *
 have c1:=Z6 R hP4
 have c2:=Zas R hP4
 have c4:=fun L=>(Z8 R hP4 0 (by omega) L).trans h04
 split at hk
 ·rename_i c hp
  injection hk with hk;subst hk
  have hG:=fun σ sq hs=>ZfM R hP4 hN4 r1 (by omega) σ 0 sq hs hp
  refine ⟨_,Zw R hP4 hN4 false (r1.map Zc),?_⟩
  rw [Zg (by rfl) Zf7]
  simp -implicitDefEqProofs only [EQA,Nat.reduceLT,Nat.reduceEqDiff,reduceCtorEq,↓reduceIte,ZfK,Zew,oI,oN,c4,hI,hG]
  exact ZW rfl (Zw R hP4 hN4 _ _)
 rename_i ps' r2 hp
 split at hk
 case isFalse=>cases hk
 rename_i hne
 injection hk with hk;subst hk
 have hG:=fun σ sq hs=>Zeg R hP4 hN4 r1 (by omega) σ 0 sq hs (ZdL k r1) hp
 have c3:=fun L=>Zax R hP4 9 10 (by omega) rfl L (.lst false (ps'.map Zj))
 have hP9:(R.set 9 (.lst false (ps'.map Zj))).length=26:=by simp [hP4]
 have hN9:Zd (R.set 9 (.lst false (ps'.map Zj)))=true:=ZQ (Zb2 _ _) 9 hN4
 generalize R.set 9 (.lst false (ps'.map Zj))=S at *
 have d2:=Zas S hP9
 have m1:=Zbz
 have z:¬((r2.length:Nat):Int) > 0:=by omega
 have z2:¬(0:Int) < ((r2.length:Nat):Int):=by omega
 refine ⟨_,Zw S hP9 hN9 false (r2.map Zc),?_⟩
 rw [Zg (by rfl) Zf7]
 simp -implicitDefEqProofs only [EQA,ZE,Nat.reduceAdd,Nat.reduceLT,Nat.reduceLeDiff,Nat.reduceEqDiff,reduceCtorEq,↓reduceIte,ZfK,Zew,oI,oN,c1,c3,c4,hI,hG,d2,m1,z]
 exact ZW rfl (Zw S hP9 hN9 _ _)
end
end
section
theorem ZsE {n:Nat} {l r:Zb} {a:Int} (hn:0 < n) (h:ZaC n l=.ok (a,r)):r.length < l.length:=by
 unfold ZaC at h
 split at h
 ·cases h
 ·injection h with h;injection h with _ h;subst h;rw [List.length_drop];omega
theorem Zkd {l r a:Zb} (h:Zaq l=.ok (a,r)):r.length < l.length:=by
 unfold Zaq at h
 split at h
 ·rename_i h0
  injection h with h;injection h with _ h;subst h
  rw [List.length_drop]
  unfold Zac at h0 ⊢
  split at h0
  ·rename_i h1;exact absurd h0 h1
  ·rename_i h1
   rw [if_neg h1]
   split at h0
   ·rename_i h2
    rw [if_pos h2]
    unfold ZaH at h0 ⊢
    split at h0
    ·cases h0
    ·rename_i h3
     rw [if_neg h3]
     simp only
     omega
   ·cases h0
 ·cases h
theorem ZiU {k:Int} {l r:Zb} {a:Int} (h:ZaB k l=.ok (a,r)):r.length < l.length:=by
 unfold ZaB at h
 split at h
 ·rename_i h1
  split at h
  ·injection h with h;injection h with _ h;subst h;exact ZsE (by omega) h1
  ·cases h
 ·cases h
theorem ZhD {l r:Zb} {a:Zbx} (h:Zbp l=.ok (a,r)):r.length < l.length:=by
 unfold Zbp at h
 split at h
 ·cases h
 rename_i f r1 ht
 have l1:=Zkd ht
 split at h
 ·cases h
 rename_i o r2 hn
 have l2:=ZsE (by omega) hn
 split at h
 case isFalse=>cases h
 split at h
 case isFalse=>cases h
 injection h with h;injection h with _ h;subst h
 omega
section
variable {O:ZO} {bf:Nat->Bool} {f:Nat} {cs cs1 cs2 cs3 xs xs2:List AVal} {w w2:Nat} {q:AVal}
theorem ZBY (hb:bf f=false) (hc:Zd cs=true) (hq:ZK q=true) (hback:∀ ρ:Rho,ρ 1 0=some (1,0)->Zf ρ cs2=cs2) (hO:O f [.ref 0 0] [.var cs]=some (q,[.var cs2,.row 0 w xs])) :
  Zk O bf [.var cs,.free,.free,.free,.free] 1 f 4 false [.ref 0 0]=some (q,[.var cs2,.row 0 w xs,.free,.free,.free],{ any:=true,upd:=[(0,cs2)] }):=by
 have ec:=fun ρ=>ZaV ρ cs hc
 refine Zdd (ids:=[0]) (vs:=[.ref 0 0]) hb rfl (Ze1 rfl hc) rfl rfl rfl ?_ hO rfl (by simp) (by simp) rfl rfl (Za8 _ q hq).1 ?_ rfl
 ·show [ZM.var (Zf _ cs)]=_
  rw [(ec _).1]
 ·have hb3:=hback (ZaA [.var cs,.free,.free,.free,.free] [0] 1) rfl
  show [ZM.var (Zf _ cs2),.row 0 w xs,.free,.free,.free]=_
  rw [hb3]
theorem ZNp (hb:bf f=false) (hc:Zd cs=true) (hq:ZK q=true) (hc2:Zd cs2=true) (hO:O f [.ref 0 0] [.var cs]=some (q,[.var cs2])) :
  Zk O bf [.var cs,.free,.free,.free,.free] 1 f 4 false [.ref 0 0]=some (q,[.var cs2,.free,.free,.free,.free],{ any:=true,upd:=[(0,cs2)] }):=by
 have ec:=fun ρ=>ZaV ρ cs hc
 refine Zdd (ids:=[0]) (vs:=[.ref 0 0]) hb rfl (Ze1 rfl hc) rfl rfl rfl ?_ hO rfl (by simp) (by simp) rfl rfl (Za8 _ q hq).1 ?_ rfl
 ·show [ZM.var (Zf _ cs)]=_
  rw [(ec _).1]
 ·show [ZM.var (Zf _ cs2),.free,.free,.free,.free]=_
  rw [(ZaV _ cs2 hc2).1]
theorem Zr6 {g2:Nat} (hb:bf f=false) (hc:Zr cs=[1]) (hren:∀ ρ:Rho,ρ 1 0=some (1,0)->Zf ρ cs=cs) (hq:ZK q=true) (hg2:g2<=1) (hback:∀ ρ:Rho,ρ 1 g2=some (1,g2)->Zf ρ cs2=cs2) (hO:O f [.ref 0 0] [.var cs,.row 0 w xs]=some (q,[.var cs2,.row g2 w2 xs2])) :
  Zk O bf [.var cs,.row 0 w xs,.free,.free,.free,.free] 2 f 4 false [.ref 0 0]=some (q,[.var cs2,.row g2 w2 xs2,.free,.free,.free,.free],{ any:=true,upd:=[(0,cs2)] }):=by
 refine Zdd (ids:=[0,1]) (vs:=[.ref 0 0]) hb rfl (ZnW (g:=0) (w:=w) (xs:=xs) rfl rfl (by omega) hc) rfl rfl rfl ?_ hO rfl (by simp) (by simp) ?_ rfl (Za8 _ q hq).1 ?_ rfl
 ·have h1:=hren (Zn [.var cs,.row 0 w xs,.free,.free,.free,.free] 0 [0,1]) rfl
  show [ZM.var (Zf _ cs),.row 0 w xs]=_
  rw [h1]
 ·simp [Za3,okB,Zcc,Zp,hg2]
 ·have hb3:=hback (ZaA [.var cs,.row 0 w xs,.free,.free,.free,.free] [0,1] 2) (by simp [ZaA,Zp])
  show [ZM.var (Zf _ cs2),.row (0+g2) w2 xs2,.free,.free,.free,.free]=_
  rw [hb3,Nat.zero_add]
theorem Zvq {f g:Nat} (hc:Zr cs=[1]) (hg:g<=1) (hren:∀ ρ:Rho,ρ 1 g=some (1,0)->Zf ρ cs=cs1) (τ:Za) :
  gcT 1 [(1,.fn f [.ref 0 0]),(0,.ref 0 0)] (.var cs::.row g w xs::τ)=([(1,.fn f [.ref 0 0]),(0,.ref 0 0)],[.var cs1,.row 0 w xs]):=by
 have hi:ZA 1 [.fn f [.ref 0 0],.ref 0 0] (.var cs::.row g w xs::τ)=[0,1]:=by
  have hR:List.range 1=[0]:=rfl
  simp only [ZA,hR,List.flatMap_cons,List.flatMap_nil,List.append_nil,List.getD_cons_zero,ZP,Zr,ZZ,hc]
  rfl
 have hρ:Zn (.var cs::.row g w xs::τ) 1 [0,1] 1 g=some (1,0):=by
  simp [Zn,Z0,Zp,ZT]
 have hρ0:Zn (.var cs::.row g w xs::τ) 1 [0,1] 0 0=some (0,0):=rfl
 simp only [gcT,gcA,List.map_cons,List.map_nil,hi,Zu,List.getD_cons_zero,List.getD_cons_succ,ZT,Zp,ZH,Zf,Zl,hρ0,hren _ hρ]
 simp
end
section
variable (Q:List AVal) (hQ:Q.length=26) (hN:Zd Q=true) (h10:Q[10]?=some (.lst true []))
include hQ hN
def H1 (Q:List AVal) (n:Nat) (l:Zb) (ys:List AVal):Za:=[.var (Zi Q 10 1 0 n++[.lst false (l.map Zc)]),.row 0 6 ys]
def tmS:Tms:=[(1,.fn 1000075 [.ref 0 0]),(0,.ref 0 0)]
theorem ZtP:∀ (n:Nat) (l:Zb) (xs:List Zbx),l.length<=n->n+xs.length<=1099511627776 ->
  (∀ ts,ZaL Zbp n l=.ok ts->ZaZ 1 tmS (H1 Q xs.length l (xs.map ZY))=some (.tup [],H1 Q (xs++ts).length [] ((xs++ts).map ZY))) /\
  (∀ e,ZaL Zbp n l=.error e->∃ (xs':List Zbx) (r:Zb),ZaZ 1 tmS (H1 Q xs.length l (xs.map ZY))=some (.pan (Zx e),H1 Q xs'.length r (xs'.map ZY))):=by
 have hk:(10:Nat) < 26:=by omega
 intro n
 induction n with
 | zero =>
  intro l xs hl hx
  have l0:l=[]:=List.eq_nil_of_length_eq_zero (by omega)
  subst l0
  refine ⟨fun ts h=>?_,fun e h=>by simp [ZaL] at h⟩
  have : ts=[]:=by simpa [ZaL] using h.symm
  subst this
  rw [List.append_nil]
  have hL:=ZbW Q hQ hN 10 hk xs.length 1 0
  have b2:=Zas _ hL
  have hO:=fun τ=>ZcZ (j:=1) (w:=6) (xs:=xs.map ZY) (r:=.tup []) (σ:=.var (Zi Q 10 1 0 xs.length++[.lst false []])::.row 0 6 (xs.map ZY)::τ) rfl (by omega) rfl rfl (Zby Q hQ hN hk 1 0 xs.length []) (fun ρ h=>ZaQ Q hQ hN hk 1 0 xs.length 1 0 [] ρ h)
  unfold H1 tmS ZaZ
  rw [Zaa]
  generalize Zi Q 10 1 0 xs.length=R at *
  generalize xs.map ZY=ys at *
  simp -implicitDefEqProofs only [EQA,Zq,Nat.reduceAdd,Nat.reduceSub,Nat.reduceLT,Nat.reduceEqDiff,Nat.reduceBEq,reduceCtorEq,decide_eq_true_eq,↓reduceIte,Zd,ZkI,ZdS,Zc6,oI,b2]
  exact hO _
 | succ n ih =>
  intro l xs hl hx
  have hL:=ZbW Q hQ hN 10 hk xs.length 1 0
  have b2:=Zas _ hL
  by_cases l0:l.length=0
  ·have l0:l=[]:=List.eq_nil_of_length_eq_zero l0
   subst l0
   refine ⟨fun ts h=>?_,fun e h=>by simp [ZaL] at h⟩
   have : ts=[]:=by simpa [ZaL] using h.symm
   subst this
   rw [List.append_nil]
   have hO:=fun τ=>ZcZ (j:=1) (w:=6) (xs:=xs.map ZY) (r:=.tup []) (σ:=.var (Zi Q 10 1 0 xs.length++[.lst false []])::.row 0 6 (xs.map ZY)::τ) rfl (by omega) rfl rfl (Zby Q hQ hN hk 1 0 xs.length []) (fun ρ h=>ZaQ Q hQ hN hk 1 0 xs.length 1 0 [] ρ h)
   unfold H1 tmS ZaZ
   rw [Zaa]
   generalize Zi Q 10 1 0 xs.length=R at *
   generalize xs.map ZY=ys at *
   simp -implicitDefEqProofs only [EQA,Zq,Nat.reduceAdd,Nat.reduceSub,Nat.reduceLT,Nat.reduceEqDiff,Nat.reduceBEq,reduceCtorEq,decide_eq_true_eq,↓reduceIte,Zd,ZkI,ZdS,Zc6,oI,b2]
   exact hO _
  ·have z1:((l.length:Nat):Int) > 0:=by omega
   have z2:(0:Int) < ((l.length:Nat):Int):=by omega
   cases ho:Zbp l with
   | error e =>
    refine ⟨fun ts h=>by simp [ZaL,l0,ho] at h,fun e' h=>?_⟩
    have : e'=e:=by simpa [ZaL,l0,ho] using h.symm
    subst this
    obtain ⟨r,hE⟩:=Zzn Q hQ hN l (by omega) xs ho
    have hC:=Zr6 (O:=E) (bf:=BY) (f:=75) (g2:=0) (by kernel_rfl) (Zby Q hQ hN hk 1 0 xs.length l) (fun ρ h=>ZaQ Q hQ hN hk 1 0 xs.length 1 0 l ρ h) (q:=.pan (Zx e')) rfl (by omega) (fun ρ h=>ZaQ Q hQ hN hk 1 0 xs.length 1 0 r ρ h) hE
    have hO:=fun τ=>ZcZ (j:=1) (w:=6) (xs:=xs.map ZY) (r:=.pan (Zx e')) (σ:=.var (Zi Q 10 1 0 xs.length++[.lst false (r.map Zc)])::.row 0 6 (xs.map ZY)::τ) rfl (by omega) rfl rfl (Zby Q hQ hN hk 1 0 xs.length r) (fun ρ h=>ZaQ Q hQ hN hk 1 0 xs.length 1 0 r ρ h)
    refine ⟨xs,r,?_⟩
    unfold H1 tmS ZaZ
    rw [Zaa]
    clear hE ih
    generalize Zi Q 10 1 0 xs.length=R at *
    generalize xs.map ZY=ys at *
    generalize Zx e'=ce at *
    simp -implicitDefEqProofs only [EQA,Nat.reduceAdd,Nat.reduceSub,Nat.reduceLT,Nat.reduceEqDiff,Nat.reduceBEq,reduceCtorEq,↓reduceIte,ZdS,Zc6,oI,b2,hC,z1]
    exact hO _
   | ok s =>
    obtain ⟨s,r⟩:=s
    have hr:=ZhD ho
    have hE:=ZIu Q hQ hN xs (by omega) l (by omega) ho
    have hC:=Zr6 (O:=E) (bf:=BY) (f:=75) (g2:=1) (by kernel_rfl) (Zby Q hQ hN hk 1 0 xs.length l) (fun ρ h=>ZaQ Q hQ hN hk 1 0 xs.length 1 0 l ρ h) (q:=.tup []) rfl (by omega) (fun ρ h=>ZaQ Q hQ hN hk 1 1 (xs.length+1) 1 1 r ρ h) hE
    have hG:=Zvq (f:=1000075) (w:=6) (xs:=(xs++[s]).map ZY) (g:=1) (Zby Q hQ hN hk 1 1 (xs.length+1) r) (by omega) (fun ρ h=>ZaQ Q hQ hN hk 1 1 (xs.length+1) 1 0 r ρ h)
    have step:ZaZ 1 tmS (H1 Q xs.length l (xs.map ZY))=ZaZ 1 tmS (H1 Q (xs++[s]).length r ((xs++[s]).map ZY)):=by
     rw [show (xs++[s]).length=xs.length+1 from by simp]
     unfold H1 tmS
     conv=>lhs;unfold ZaZ
     conv=>rhs;unfold ZaZ
     conv=>lhs;rw [Zaa]
     clear hE ih
     generalize Zi Q 10 1 0 xs.length=R at *
     generalize Zi Q 10 1 1 (xs.length+1)=R2 at *
     generalize Zi Q 10 1 0 (xs.length+1)=R3 at *
     generalize xs.map ZY=ys at *
     generalize (xs++[s]).map ZY=zs at *
     simp -implicitDefEqProofs only [EQA,Z4,Nat.reduceAdd,Nat.reduceSub,Nat.reduceLT,Nat.reduceEqDiff,Nat.reduceBEq,reduceCtorEq,↓reduceIte,ZdS,Zc6,oI,b2,hC,hG,z1]
    obtain ⟨i1,i2⟩:=ih r (xs++[s]) (by omega) (by simp;omega)
    refine ⟨fun ts h=>?_,fun e h=>?_⟩
    ·rw [step]
     simp only [ZaL,l0,ho,if_false] at h
     cases hl2:ZaL Zbp n r with
     | error e=>rw [hl2] at h;cases h
     | ok us =>
      rw [hl2] at h
      injection h with h;subst h
      have:=i1 us hl2
      rw [List.append_assoc,List.singleton_append] at this
      exact this
    ·rw [step]
     simp only [ZaL,l0,ho,if_false] at h
     cases hl2:ZaL Zbp n r with
     | error e2 =>
      rw [hl2] at h
      injection h with h;subst h
      exact i2 e2 hl2
     | ok us=>rw [hl2] at h;cases h
end
def Zbw {α:Type} (one:Zb->RK α) (k:Int) (l:Zb):Except Int (Int×List Zm×List α):=match Zc0 k l with
 | .error e=>.error e
 | .ok (n,ps,r)=>match ZaL one r.length r with
  | .error e=>.error e
  | .ok ts=>.ok (n,ps,ts)
theorem ZiV {k:Int} {l:Zb} {n:Int} {ps:List Zm} {r:Zb} (h:Zc0 k l=.ok (n,ps,r)):r.length<=l.length/\r.length≠0:=by
 unfold Zc0 at h
 split at h
 ·cases h
 rename_i n' r1 hi
 have l1:=Zfa hi
 split at h
 ·cases h
 rename_i ps' r2 hp
 have l2:=ZgS hp
 split at h
 ·cases h
 rename_i hne
 injection h with h;injection h with e1 h;injection h with e2 e3;subst e1 e2 e3
 exact ⟨by omega,hne⟩
theorem ZlW {α:Type} {one:Zb->RK α} {n:Nat} {l:Zb} (h:l.length=n+1) {s:α} {r:Zb} (ho:one l=.ok (s,r)) (hlen:∀ {l s r},one l=.ok (s,r)->r.length < l.length):ZaL one l.length l=match ZaL one n r with
  | .error e=>.error e
  | .ok t=>.ok (s::t):=by
 rw [h]
 simp only [ZaL,h,Nat.add_eq_zero_iff,Nat.succ_ne_self,and_false,if_false,ho]
 all_goals rfl
section
variable {α:Type} {one:Zb->RK α} {g:α->AVal} {f kk:Nat} {k:Int} (hk:kk < 26) (hf:f < 1000000) (hby:BY f=false)
  (hlen:∀ {l s r},one l=.ok (s,r)->r.length < l.length)
  (hT0:∀ Q,QOk k Q->∀ (l:Zb) (s:α) (r:Zb),l.length<=1099511627776->one l=.ok (s,r)->E f [.ref 0 0,.ref 2 0] [.var [.ref 1 0],.var (Q++[.lst false (l.map Zc)]),.var [.ref 1 0]]=some (.tup [],[.var [.ref 1 0],.var (Zi Q kk 3 0 1++[.lst false (r.map Zc)]),.var [.ref 1 0],.row 0 1 [g s]]))
  (hF0:∀ Q,QOk k Q->∀ (l:Zb) (e:Int),l.length<=1099511627776->one l=.error e->∃ r:Zb,E f [.ref 0 0,.ref 2 0] [.var [.ref 1 0],.var (Q++[.lst false (l.map Zc)]),.var [.ref 1 0]]=some (.pan (Zx e),[.var [.ref 1 0],.var (Q++[.lst false (r.map Zc)]),.var [.ref 1 0]]))
  (hT1:∀ Q,QOk k Q->∀ (xs:List α) (l:Zb) (s:α) (r:Zb),l.length<=1099511627776->xs.length<=1099511627776->one l=.ok (s,r)->E f [.ref 0 0,.ref 3 0] [.var [.ref 1 0],.var (Zi Q kk 2 0 xs.length++[.lst false (l.map Zc)]),.row 0 1 (xs.map g),.var [.ref 1 0]]=some (.tup [],[.var [.ref 1 0],.var (Zi Q kk 2 1 (xs.length+1)++[.lst false (r.map Zc)]),.row 1 1 ((xs++[s]).map g),.var [.ref 1 0]]))
  (hF1:∀ Q,QOk k Q->∀ (xs:List α) (l:Zb) (e:Int),l.length<=1099511627776->one l=.error e->∃ r:Zb,E f [.ref 0 0,.ref 3 0] [.var [.ref 1 0],.var (Zi Q kk 2 0 xs.length++[.lst false (l.map Zc)]),.row 0 1 (xs.map g),.var [.ref 1 0]]=some (.pan (Zx e),[.var [.ref 1 0],.var (Zi Q kk 2 0 xs.length++[.lst false (r.map Zc)]),.row 0 1 (xs.map g),.var [.ref 1 0]]))
include hk hf hby hT0
theorem Zrl {Q:List AVal} (hQ:QOk k Q) {l r:Zb} {s:α} (hl:l.length<=1099511627776) (hl0:l.length≠0) (ho:one l=.ok (s,r)) :
  ZaZ 3 [(1,.fn f [.ref 1 0,.ref 2 0]),(0,.ref 0 0)] [.var (Q++[.lst false (l.map Zc)]),.var [.ref 0 0],.var [.ref 0 0]]=ZaZ 3 [(1,.fn f [.ref 1 0,.ref 2 0]),(0,.ref 0 0)] (H3 Q kk 1 r [g s]):=by
 have hE:=hT0 Q hQ l s r hl ho
 obtain ⟨hL,hN,-,-,-,-⟩:=hQ
 have z1:((l.length:Nat):Int) > 0:=by omega
 have z2:(0:Int) < ((l.length:Nat):Int):=by omega
 have b2:=Zas _ hL
 have hC:=ZDt (O:=E) (bf:=BY) (cs:=Q++[.lst false (l.map Zc)]) (cs3:=Zi Q kk 3 0 1++[.lst false (r.map Zc)]) hby (Zw Q hL hN false (l.map Zc)) (q:=.tup []) rfl (fun ρ h=>ZaQ Q hL hN hk 3 0 1 3 0 r ρ h) hE
 have hG:=ZtW (f:=f) (w:=1) (xs:=[g s]) (g:=0) (Zby Q hL hN hk 3 0 1 r) (by omega) (fun ρ h=>ZaQ Q hL hN hk 3 0 1 3 0 r ρ h)
 unfold H3
 conv=>lhs;unfold ZaZ
 conv=>rhs;unfold ZaZ
 conv=>lhs;rw [Zaa]
 clear hE hT0
 generalize Zi Q kk 3 0 1=Q2 at *
 simp -implicitDefEqProofs only [EQA,Z4,Nat.reduceAdd,Nat.reduceLT,Nat.reduceEqDiff,Nat.reduceBEq,reduceCtorEq,↓reduceIte,ZdS,Zc6,oI,b2,hC,hG,hf,z1]
omit hT0
include hF0
theorem ZE0 {Q:List AVal} (hQ:QOk k Q) {l:Zb} {e:Int} (hl:l.length<=1099511627776) (hl0:l.length≠0) (ho:one l=.error e) :
  ∃ r:Zb,ZaZ 3 [(1,.fn f [.ref 1 0,.ref 2 0]),(0,.ref 0 0)] [.var (Q++[.lst false (l.map Zc)]),.var [.ref 0 0],.var [.ref 0 0]]=some (.pan (Zx e),[.var (Q++[.lst false (r.map Zc)]),.var [.ref 0 0],.var [.ref 0 0]]):=by
 obtain ⟨r,hE⟩:=hF0 Q hQ l e hl ho
 obtain ⟨hL,hN,-,-,-,-⟩:=hQ
 have z1:((l.length:Nat):Int) > 0:=by omega
 have z2:(0:Int) < ((l.length:Nat):Int):=by omega
 have b2:=Zas _ hL
 have hC:=ZBD (O:=E) (bf:=BY) (cs:=Q++[.lst false (l.map Zc)]) (cs2:=Q++[.lst false (r.map Zc)]) hby (Zw Q hL hN false (l.map Zc)) (q:=.pan (Zx e)) rfl (Zw Q hL hN false (r.map Zc)) hE
 have hO:=fun τ=>Zlp (r:=.pan (Zx e)) rfl (Zw Q hL hN false (r.map Zc)) τ
 refine ⟨r,?_⟩
 unfold ZaZ
 rw [Zaa]
 clear hE hF0
 generalize Zx e=ce at *
 simp -implicitDefEqProofs only [EQA,Nat.reduceAdd,Nat.reduceLT,Nat.reduceEqDiff,Nat.reduceBEq,reduceCtorEq,↓reduceIte,ZdS,Zc6,oI,b2,hC,hf,z1]
 exact hO _
include hT0 hT1 hF1 hlen
theorem Zpt {P:List AVal} (hP:QOk k P) {l:Zb} (hl:l.length<=1099511627775) {n:Int} {ps:List Zm} {ts:List α} (h:Zbw one k l=.ok (n,ps,ts)) :
  E 74 [.ref 0 0,.fn f [.ref 1 0,.ref 2 0]] [.var (P++[.lst false (l.map Zc)]),.var [.ref 0 0],.var [.ref 0 0]]=some (.tup [],H3 (ZbY P n ps) kk ts.length [] (ts.map g)):=by
 unfold Zbw at h
 split at h
 ·cases h
 rename_i n' ps' r hm
 obtain ⟨l1,l2⟩:=ZiV hm
 split at h
 ·cases h
 rename_i us hu
 injection h with h;injection h with e1 h;injection h with e2 e3;subst e1 e2 e3
 rw [ZsO k f P hP l (by omega) hm]
 have hQ:=ZdH hP n' ps'
 generalize ZbY P n' ps'=Q at *
 obtain ⟨j,hj⟩:∃ j,r.length=j+1:=⟨r.length - 1,by omega⟩
 cases ho:one r with
 | error e =>
  rw [hj] at hu
  simp only [ZaL,hj,Nat.add_eq_zero_iff,Nat.succ_ne_self,and_false,if_false,ho] at hu
  cases hu
 | ok sr =>
  obtain ⟨s,r'⟩:=sr
  have hr:=hlen ho
  rw [ZlW hj ho hlen] at hu
  cases hl2:ZaL one j r' with
  | error e=>rw [hl2] at hu;cases hu
  | ok vs =>
   rw [hl2] at hu
   injection hu with hu;subst hu
   rw [Zrl hk hf hby hT0 hQ (by omega) l2 ho]
   exact (ZuS (g:=g) Q hQ.len hQ.nor hk hf hby hlen (hT1 Q hQ) (hF1 Q hQ) j r' [s] (by omega) (by simp;omega)).1 vs hl2
theorem ZmU {P:List AVal} (hP:QOk k P) {l:Zb} (hl:l.length<=1099511627775) {e:Int} (h:Zbw one k l=.error e) :
  (∃ cs,Zd cs=true/\E 74 [.ref 0 0,.fn f [.ref 1 0,.ref 2 0]] [.var (P++[.lst false (l.map Zc)]),.var [.ref 0 0],.var [.ref 0 0]]=some (.pan (Zx e),[.var cs,.var [.ref 0 0],.var [.ref 0 0]])) \/
  (∃ (Q:List AVal) (xs:List α) (r:Zb),Q.length=26/\Zd Q=true/\E 74 [.ref 0 0,.fn f [.ref 1 0,.ref 2 0]] [.var (P++[.lst false (l.map Zc)]),.var [.ref 0 0],.var [.ref 0 0]]=some (.pan (Zx e),H3 Q kk xs.length r (xs.map g))):=by
 unfold Zbw at h
 split at h
 ·rename_i c hm
  injection h with h;subst h
  exact Or.inl (ZK6 k f P hP l (by omega) hm)
 rename_i n' ps' r hm
 obtain ⟨l1,l2⟩:=ZiV hm
 rw [ZsO k f P hP l (by omega) hm]
 have hQ:=ZdH hP n' ps'
 generalize ZbY P n' ps'=Q at *
 obtain ⟨j,hj⟩:∃ j,r.length=j+1:=⟨r.length - 1,by omega⟩
 split at h
 case h_2=>cases h
 rename_i c hu
 injection h with h;subst h
 cases ho:one r with
 | error e =>
  have : e=c:=by
   rw [hj] at hu
   simp only [ZaL,hj,Nat.add_eq_zero_iff,Nat.succ_ne_self,and_false,if_false,ho] at hu
   injection hu
  subst this
  obtain ⟨r',hr'⟩:=ZE0 hk hf hby hF0 hQ (by omega) l2 ho
  exact Or.inl ⟨_,Zw Q hQ.len hQ.nor false (r'.map Zc),hr'⟩
 | ok sr =>
  obtain ⟨s,r'⟩:=sr
  have hr:=hlen ho
  rw [ZlW hj ho hlen] at hu
  cases hl2:ZaL one j r' with
  | ok vs=>rw [hl2] at hu;cases hu
  | error e2 =>
   rw [hl2] at hu
   injection hu with hu;subst hu
   rw [Zrl hk hf hby hT0 hQ (by omega) l2 ho]
   obtain ⟨xs',r2,hx⟩:=(ZuS (g:=g) Q hQ.len hQ.nor hk hf hby hlen (hT1 Q hQ) (hF1 Q hQ) j r' [s] (by omega) (by simp;omega)).2 e2 hl2
   exact Or.inr ⟨Q,xs',r2,hQ.len,hQ.nor,hx⟩
end
section
theorem ZtF {Q:List AVal} (hQ:QOk 8 Q) {l r:Zb} {s:Zbx} (hl:l.length<=1099511627776) (hl0:l.length≠0) (ho:Zbp l=.ok (s,r)) :
  ZaZ 1 tmS [.var (Q++[.lst false (l.map Zc)])]=ZaZ 1 tmS (H1 Q 1 r [ZY s]):=by
 obtain ⟨hL,hN,-,-,h10,-⟩:=hQ
 have hk:(10:Nat) < 26:=by omega
 have hE:=ZNr Q hL hN h10 l (by omega) ho
 unfold Zh at hE
 have z1:((l.length:Nat):Int) > 0:=by omega
 have z2:(0:Int) < ((l.length:Nat):Int):=by omega
 have b2:=Zas _ hL
 have hC:=ZBY (O:=E) (bf:=BY) (f:=75) (cs:=Q++[.lst false (l.map Zc)]) (by kernel_rfl) (Zw Q hL hN false (l.map Zc)) (q:=.tup []) rfl (fun ρ h=>ZaQ Q hL hN hk 1 0 1 1 0 r ρ h) hE
 have hG:=Zvq (f:=1000075) (w:=6) (xs:=[ZY s]) (g:=0) (Zby Q hL hN hk 1 0 1 r) (by omega) (fun ρ h=>ZaQ Q hL hN hk 1 0 1 1 0 r ρ h)
 unfold H1 tmS
 conv=>lhs;unfold ZaZ
 conv=>rhs;unfold ZaZ
 conv=>lhs;rw [Zaa]
 clear hE
 generalize Zi Q 10 1 0 1=Q2 at *
 generalize ZY s=sv at *
 simp -implicitDefEqProofs only [EQA,Z4,Nat.reduceAdd,Nat.reduceSub,Nat.reduceLT,Nat.reduceEqDiff,Nat.reduceBEq,reduceCtorEq,↓reduceIte,ZdS,Zc6,oI,b2,hC,hG,z1]
theorem ZAs {Q:List AVal} (hQ:QOk 8 Q) {l:Zb} {e:Int} (hl:l.length<=1099511627776) (hl0:l.length≠0) (ho:Zbp l=.error e) :
  ∃ cs,Zd cs=true/\ZaZ 1 tmS [.var (Q++[.lst false (l.map Zc)])]=some (.pan (Zx e),[.var cs]):=by
 obtain ⟨hL,hN,-,-,h10,-⟩:=hQ
 obtain ⟨cs,hc,hE⟩:=ZNa Q hL hN l (by omega) ho
 unfold Zh at hE
 have z1:((l.length:Nat):Int) > 0:=by omega
 have z2:(0:Int) < ((l.length:Nat):Int):=by omega
 have b2:=Zas _ hL
 have hC:=ZNp (O:=E) (bf:=BY) (f:=75) (cs:=Q++[.lst false (l.map Zc)]) (by kernel_rfl) (Zw Q hL hN false (l.map Zc)) (q:=.pan (Zx e)) rfl hc hE
 have hO:=fun τ=>ZW (r:=.pan (Zx e)) (σ:=τ) rfl hc
 refine ⟨cs,hc,?_⟩
 unfold ZaZ tmS
 rw [Zaa]
 clear hE
 generalize Zx e=ce at *
 simp -implicitDefEqProofs only [EQA,Nat.reduceAdd,Nat.reduceSub,Nat.reduceLT,Nat.reduceEqDiff,Nat.reduceBEq,reduceCtorEq,↓reduceIte,ZdS,Zc6,oI,b2,hC,z1]
 exact hO _
theorem ZLz {P:List AVal} (hP:QOk 8 P) {l:Zb} (hl:l.length<=1099511627775) {n:Int} {ps:List Zm} {ts:List Zbx} (h:Zbw Zbp 8 l=.ok (n,ps,ts)) :
  E 74 [.ref 0 0,.fn 1000075 [.ref 0 0]] [.var (P++[.lst false (l.map Zc)])]=some (.tup [],H1 (ZbY P n ps) ts.length [] (ts.map ZY)):=by
 unfold Zbw at h
 split at h
 ·cases h
 rename_i n' ps' r hm
 obtain ⟨l1,l2⟩:=ZiV hm
 split at h
 ·cases h
 rename_i us hu
 injection h with h;injection h with e1 h;injection h with e2 e3;subst e1 e2 e3
 rw [Zv1 8 1000075 P hP l (by omega) hm]
 have hQ:=ZdH hP n' ps'
 generalize ZbY P n' ps'=Q at *
 obtain ⟨j,hj⟩:∃ j,r.length=j+1:=⟨r.length - 1,by omega⟩
 cases ho:Zbp r with
 | error e =>
  rw [hj] at hu
  simp only [ZaL,hj,Nat.add_eq_zero_iff,Nat.succ_ne_self,and_false,if_false,ho] at hu
  cases hu
 | ok sr =>
  obtain ⟨s,r'⟩:=sr
  have hr:=ZhD ho
  rw [ZlW hj ho ZhD] at hu
  cases hl2:ZaL Zbp j r' with
  | error e=>rw [hl2] at hu;cases hu
  | ok vs =>
   rw [hl2] at hu
   injection hu with hu;subst hu
   show ZaZ 1 tmS _=_
   rw [ZtF hQ (by omega) l2 ho]
   exact (ZtP Q hQ.len hQ.nor j r' [s] (by omega) (by simp;omega)).1 vs hl2
theorem ZAS {P:List AVal} (hP:QOk 8 P) {l:Zb} (hl:l.length<=1099511627775) {e:Int} (h:Zbw Zbp 8 l=.error e) :
  (∃ cs,Zd cs=true/\E 74 [.ref 0 0,.fn 1000075 [.ref 0 0]] [.var (P++[.lst false (l.map Zc)])]=some (.pan (Zx e),[.var cs])) \/
  (∃ (Q:List AVal) (xs:List Zbx) (r:Zb),Q.length=26/\Zd Q=true/\E 74 [.ref 0 0,.fn 1000075 [.ref 0 0]] [.var (P++[.lst false (l.map Zc)])]=some (.pan (Zx e),H1 Q xs.length r (xs.map ZY))):=by
 unfold Zbw at h
 split at h
 ·rename_i c hm
  injection h with h;subst h
  exact Or.inl (ZJe 8 1000075 P hP l (by omega) hm)
 rename_i n' ps' r hm
 obtain ⟨l1,l2⟩:=ZiV hm
 rw [Zv1 8 1000075 P hP l (by omega) hm]
 have hQ:=ZdH hP n' ps'
 generalize ZbY P n' ps'=Q at *
 obtain ⟨j,hj⟩:∃ j,r.length=j+1:=⟨r.length - 1,by omega⟩
 split at h
 case h_2=>cases h
 rename_i c hu
 injection h with h;subst h
 show (∃ cs,Zd cs=true/\ZaZ 1 tmS _=_)\/(∃ (Q:List AVal) (xs:List Zbx) (r:Zb),Q.length=26/\Zd Q=true/\ZaZ 1 tmS _=_)
 cases ho:Zbp r with
 | error e =>
  have : e=c:=by
   rw [hj] at hu
   simp only [ZaL,hj,Nat.add_eq_zero_iff,Nat.succ_ne_self,and_false,if_false,ho] at hu
   injection hu
  subst this
  exact Or.inl (ZAs hQ (by omega) l2 ho)
 | ok sr =>
  obtain ⟨s,r'⟩:=sr
  have hr:=ZhD ho
  rw [ZlW hj ho ZhD] at hu
  cases hl2:ZaL Zbp j r' with
  | ok vs=>rw [hl2] at hu;cases hu
  | error e2 =>
   rw [hl2] at hu
   injection hu with hu;subst hu
   rw [ZtF hQ (by omega) l2 ho]
   obtain ⟨xs',r2,hx⟩:=(ZtP Q hQ.len hQ.nor j r' [s] (by omega) (by simp;omega)).2 e2 hl2
   exact Or.inr ⟨Q,xs',r2,hQ.len,hQ.nor,hx⟩
end
end
section
section
variable {O:ZO} {bf:Nat->Bool} {fm f w:Nat} {cs cs2 cs3 ys:List AVal} {x:AVal} {σ:Za}
theorem ZoH (h0:σ[0]?=some (.var cs)) (h1:σ[1]?=some (.var [.ref 0 0])) (h2:σ[2]?=some (.var [.ref 0 0])) (hc:Zr cs=[]):Zy σ 1000 [0,2,1] []=[0,2,1]:=by
 have d0:σ.getD 0 .free=.var cs:=by simp [List.getD_eq_getElem?_getD,h0]
 have d1:σ.getD 1 .free=.var [.ref 0 0]:=by simp [List.getD_eq_getElem?_getD,h1]
 have d2:σ.getD 2 .free=.var [.ref 0 0]:=by simp [List.getD_eq_getElem?_getD,h2]
 rw [show (1000:Nat)=994+1+1+1+1+1+1 from rfl]
 simp only [Zy,d0,d1,d2,ZP,Zr,ZZ,hc,List.contains_cons,List.contains_nil,List.append_nil,List.nil_append,List.cons_append,Bool.or_false,Bool.false_eq_true,if_false]
 simp
theorem ZpE (h0:σ[0]?=some (.var cs)) (hc:Zr cs=[]):Zy σ 1000 [0,0] []=[0]:=by
 have d0:σ.getD 0 .free=.var cs:=by simp [List.getD_eq_getElem?_getD,h0]
 rw [show (1000:Nat)=996+1+1+1+1 from rfl]
 simp only [Zy,d0,ZP,hc,List.contains_cons,List.contains_nil,List.append_nil,List.nil_append,List.cons_append,Bool.or_false,Bool.false_eq_true,if_false]
 simp
def hB (cs:List AVal) (b:ZM):Za:=[.var cs,.var [.ref 0 0],.var [.ref 0 0],b]
theorem Zod (hb:bf fm=false) (hc:Zd cs=true) (hrf:Zr cs2=[3]) (hren:∀ ρ:Rho,ρ 3 0=some (3,0)->Zf ρ cs2=cs2)
  (hO:O fm [.ref 0 0,.fn f [.ref 1 0,.ref 2 0]] [.var cs,.var [.ref 0 0],.var [.ref 0 0]]=some (.tup [],[.var cs2,.var [.ref 0 0],.var [.ref 0 0],.row 0 w ys])) :
  Zk O bf (hB cs .free) 3 fm 1 true [.ref 0 0,.fn f [.ref 2 0,.ref 1 0]]=some (.tup [],hB cs2 (.row 0 w ys),{ any:=true,upd:=[(0,cs2),(2,[.ref 0 0]),(1,[.ref 0 0])] }):=by
 have hv:Zad true 3 (some (.tup [],[.var cs2,.var [.ref 0 0],.var [.ref 0 0],.row 0 w ys]))=some (.tup [],[.var cs2,.var [.ref 0 0],.var [.ref 0 0],.row 0 w ys]):=ZkA (r:=.tup []) rfl hrf hren []
 have ec:=fun ρ=>ZaV ρ cs hc
 unfold hB
 refine Zdd (ids:=[0,2,1]) (vs:=[.ref 0 0,.fn f [.ref 2 0,.ref 1 0]]) hb rfl (ZoH rfl rfl rfl (ec (fun _ _=>none)).2) rfl rfl rfl ?_ hO hv (by simp) (by simp) rfl rfl rfl ?_ rfl
 ·show [ZM.var (Zf _ cs),.var (Zf _ [.ref 0 0]),.var (Zf _ [.ref 0 0])]=_
  rw [(ec _).1];rfl
 ·have hb3:=hren (ZaA [.var cs,.var [.ref 0 0],.var [.ref 0 0],.free] [0,2,1] 3) rfl
  show [ZM.var (Zf _ cs2),.var (Zf _ [.ref 0 0]),.var (Zf _ [.ref 0 0]),.row 0 w ys]=_
  rw [hb3];rfl
theorem Zrh (hb:bf fm=false) (hc:Zd cs=true) (hc2:Zd cs2=true) (hx:ZK x=true)
  (hO:O fm [.ref 0 0,.fn f [.ref 1 0,.ref 2 0]] [.var cs,.var [.ref 0 0],.var [.ref 0 0]]=some (.pan x,[.var cs2,.var [.ref 0 0],.var [.ref 0 0]])) :
  Zk O bf (hB cs .free) 3 fm 1 true [.ref 0 0,.fn f [.ref 2 0,.ref 1 0]]=some (.pan x,hB cs2 .free,{ any:=true,upd:=[(0,cs2),(2,[.ref 0 0]),(1,[.ref 0 0])] }):=by
 have ec:=fun ρ=>ZaV ρ cs hc
 have hnp:ZK (.pan x)=true:=by simpa only [ZK] using hx
 unfold hB
 refine Zdd (ids:=[0,2,1]) (vs:=[.ref 0 0,.fn f [.ref 2 0,.ref 1 0]]) hb rfl (ZoH rfl rfl rfl (ec (fun _ _=>none)).2) rfl rfl rfl ?_ hO rfl (by simp) (by simp) rfl rfl (Za8 _ _ hnp).1 ?_ rfl
 ·show [ZM.var (Zf _ cs),.var (Zf _ [.ref 0 0]),.var (Zf _ [.ref 0 0])]=_
  rw [(ec _).1];rfl
 ·show [ZM.var (Zf _ cs2),.var (Zf _ [.ref 0 0]),.var (Zf _ [.ref 0 0]),.free]=_
  rw [(ZaV _ cs2 hc2).1];rfl
theorem Zqf (hb:bf fm=false) (hc:Zd cs=true) (hren:∀ ρ:Rho,ρ 3 0=some (3,0)->Zf ρ cs2=cs2) (hx:ZK x=true)
  (hO:O fm [.ref 0 0,.fn f [.ref 1 0,.ref 2 0]] [.var cs,.var [.ref 0 0],.var [.ref 0 0]]=some (.pan x,[.var cs2,.var [.ref 0 0],.var [.ref 0 0],.row 0 w ys])) :
  Zk O bf (hB cs .free) 3 fm 1 true [.ref 0 0,.fn f [.ref 2 0,.ref 1 0]]=some (.pan x,hB cs2 (.row 0 w ys),{ any:=true,upd:=[(0,cs2),(2,[.ref 0 0]),(1,[.ref 0 0])] }):=by
 have ec:=fun ρ=>ZaV ρ cs hc
 have hnp:ZK (.pan x)=true:=by simpa only [ZK] using hx
 unfold hB
 refine Zdd (ids:=[0,2,1]) (vs:=[.ref 0 0,.fn f [.ref 2 0,.ref 1 0]]) hb rfl (ZoH rfl rfl rfl (ec (fun _ _=>none)).2) rfl rfl rfl ?_ hO rfl (by simp) (by simp) rfl rfl (Za8 _ _ hnp).1 ?_ rfl
 ·show [ZM.var (Zf _ cs),.var (Zf _ [.ref 0 0]),.var (Zf _ [.ref 0 0])]=_
  rw [(ec _).1];rfl
 ·have hb3:=hren (ZaA [.var cs,.var [.ref 0 0],.var [.ref 0 0],.free] [0,2,1] 3) rfl
  show [ZM.var (Zf _ cs2),.var (Zf _ [.ref 0 0]),.var (Zf _ [.ref 0 0]),.row 0 w ys]=_
  rw [hb3];rfl
theorem ZB1 (hb:bf fm=false) (hc:Zd cs=true) (hrf:Zr cs2=[1]) (hren:∀ ρ:Rho,ρ 1 0=some (1,0)->Zf ρ cs2=cs2) (hback:∀ ρ:Rho,ρ 1 0=some (3,0)->Zf ρ cs2=cs3)
  (hO:O fm [.ref 0 0,.fn f [.ref 0 0]] [.var cs]=some (.tup [],[.var cs2,.row 0 w ys])) :
  Zk O bf (hB cs .free) 3 fm 1 true [.ref 0 0,.fn f [.ref 0 0]]=some (.tup [],hB cs3 (.row 0 w ys),{ any:=true,upd:=[(0,cs3)] }):=by
 have hv:Zad true 1 (some (.tup [],[.var cs2,.row 0 w ys]))=some (.tup [],[.var cs2,.row 0 w ys]):=ZcZ (j:=1) (σ:=[.var cs2,.row 0 w ys]) (r:=.tup []) rfl (by omega) rfl rfl hrf hren
 have ec:=fun ρ=>ZaV ρ cs hc
 unfold hB
 refine Zdd (ids:=[0]) (vs:=[.ref 0 0,.fn f [.ref 0 0]]) hb rfl (ZpE rfl (ec (fun _ _=>none)).2) rfl rfl rfl ?_ hO hv (by simp) (by simp) rfl rfl rfl ?_ rfl
 ·show [ZM.var (Zf _ cs)]=_
  rw [(ec _).1]
 ·have hb3:=hback (ZaA [.var cs,.var [.ref 0 0],.var [.ref 0 0],.free] [0] 3) rfl
  show [ZM.var (Zf _ cs2),.var [.ref 0 0],.var [.ref 0 0],.row 0 w ys]=_
  rw [hb3]
theorem ZGJ (hb:bf fm=false) (hc:Zd cs=true) (hc2:Zd cs2=true) (hx:ZK x=true)
  (hO:O fm [.ref 0 0,.fn f [.ref 0 0]] [.var cs]=some (.pan x,[.var cs2])) :
  Zk O bf (hB cs .free) 3 fm 1 true [.ref 0 0,.fn f [.ref 0 0]]=some (.pan x,hB cs2 .free,{ any:=true,upd:=[(0,cs2)] }):=by
 have ec:=fun ρ=>ZaV ρ cs hc
 have hnp:ZK (.pan x)=true:=by simpa only [ZK] using hx
 unfold hB
 refine Zdd (ids:=[0]) (vs:=[.ref 0 0,.fn f [.ref 0 0]]) hb rfl (ZpE rfl (ec (fun _ _=>none)).2) rfl rfl rfl ?_ hO rfl (by simp) (by simp) rfl rfl (Za8 _ _ hnp).1 ?_ rfl
 ·show [ZM.var (Zf _ cs)]=_
  rw [(ec _).1]
 ·show [ZM.var (Zf _ cs2),.var [.ref 0 0],.var [.ref 0 0],.free]=_
  rw [(ZaV _ cs2 hc2).1]
theorem ZDP (hb:bf fm=false) (hc:Zd cs=true) (hback:∀ ρ:Rho,ρ 1 0=some (3,0)->Zf ρ cs2=cs3) (hx:ZK x=true)
  (hO:O fm [.ref 0 0,.fn f [.ref 0 0]] [.var cs]=some (.pan x,[.var cs2,.row 0 w ys])) :
  Zk O bf (hB cs .free) 3 fm 1 true [.ref 0 0,.fn f [.ref 0 0]]=some (.pan x,hB cs3 (.row 0 w ys),{ any:=true,upd:=[(0,cs3)] }):=by
 have ec:=fun ρ=>ZaV ρ cs hc
 have hnp:ZK (.pan x)=true:=by simpa only [ZK] using hx
 unfold hB
 refine Zdd (ids:=[0]) (vs:=[.ref 0 0,.fn f [.ref 0 0]]) hb rfl (ZpE rfl (ec (fun _ _=>none)).2) rfl rfl rfl ?_ hO rfl (by simp) (by simp) rfl rfl (Za8 _ _ hnp).1 ?_ rfl
 ·show [ZM.var (Zf _ cs)]=_
  rw [(ec _).1]
 ·have hb3:=hback (ZaA [.var cs,.var [.ref 0 0],.var [.ref 0 0],.free] [0] 3) rfl
  show [ZM.var (Zf _ cs2),.var [.ref 0 0],.var [.ref 0 0],.row 0 w ys]=_
  rw [hb3]
end
def Zcf (Q:List AVal) (kk n:Nat) (l:Zb) (w:Nat) (ys:List AVal):Za:=[.var (Zi Q kk 1 0 n++[.lst false (l.map Zc)]),.row 0 w ys]
def ZjD (kk w:Nat) (l:Zb) (P:List AVal) (e:Int):Prop :=
 (∃ cs,Zd cs=true/\E 48 [.ref 0 0] (Zh P l)=some (.pan (Zx e),[.var cs])) \/
 (∃ (Q:List AVal) (n:Nat) (r:Zb) (ys:List AVal),Q.length=26/\Zd Q=true/\E 48 [.ref 0 0] (Zh P l)=some (.pan (Zx e),Zcf Q kk n r w ys))
theorem ZGK (xs:List Zb):kOk 1 (xs.map AVal.str)=true:=by cases xs <;> rfl
theorem ZLR (xs:List Int):kOk 1 (xs.map (AVal.int .i64))=true:=by cases xs <;> rfl
theorem fT0 {k:Int} (Q:List AVal) (h:QOk k Q) (l s r:Zb) (hl:l.length<=1099511627776) (ho:Zaq l=.ok (s,r)):E 76 [.ref 0 0,.ref 2 0] [.var [.ref 1 0],.var (Q++[.lst false (l.map Zc)]),.var [.ref 1 0]]=some (.tup [],[.var [.ref 1 0],.var (Zi Q 11 3 0 1++[.lst false (r.map Zc)]),.var [.ref 1 0],.row 0 1 [AVal.str s]]) :=
 ZJI Q h.len h.nor l (by omega) h.c11 ho
theorem fF0 {k:Int} (Q:List AVal) (h:QOk k Q) (l:Zb) (e:Int) (hl:l.length<=1099511627776) (ho:Zaq l=.error e):∃ r:Zb,E 76 [.ref 0 0,.ref 2 0] [.var [.ref 1 0],.var (Q++[.lst false (l.map Zc)]),.var [.ref 1 0]]=some (.pan (Zx e),[.var [.ref 1 0],.var (Q++[.lst false (r.map Zc)]),.var [.ref 1 0]]) :=
 ⟨l,ZCE Q h.len h.nor l (by omega) ho h.c11⟩
theorem fT1 {k:Int} (Q:List AVal) (h:QOk k Q) (xs:List Zb) (l s r:Zb) (hl:l.length<=1099511627776) (hx:xs.length<=1099511627776) (ho:Zaq l=.ok (s,r)):E 76 [.ref 0 0,.ref 3 0] [.var [.ref 1 0],.var (Zi Q 11 2 0 xs.length++[.lst false (l.map Zc)]),.row 0 1 (xs.map AVal.str),.var [.ref 1 0]]=some (.tup [],[.var [.ref 1 0],.var (Zi Q 11 2 1 (xs.length+1)++[.lst false (r.map Zc)]),.row 1 1 ((xs++[s]).map AVal.str),.var [.ref 1 0]]):=by
 have:=ZyH Q h.len h.nor l (by omega) (xs.map AVal.str) (by simp;omega) (ZGK xs) ho
 rw [List.length_map] at this
 rw [List.map_append]
 exact this
theorem fF1 {k:Int} (Q:List AVal) (h:QOk k Q) (xs:List Zb) (l:Zb) (e:Int) (hl:l.length<=1099511627776) (ho:Zaq l=.error e):∃ r:Zb,E 76 [.ref 0 0,.ref 3 0] [.var [.ref 1 0],.var (Zi Q 11 2 0 xs.length++[.lst false (l.map Zc)]),.row 0 1 (xs.map AVal.str),.var [.ref 1 0]]=some (.pan (Zx e),[.var [.ref 1 0],.var (Zi Q 11 2 0 xs.length++[.lst false (r.map Zc)]),.row 0 1 (xs.map AVal.str),.var [.ref 1 0]]):=by
 have:=ZHl Q h.len h.nor l (by omega) (xs.map AVal.str) ho
 rw [List.length_map] at this
 exact ⟨l,this⟩
theorem cT0 {k:Int} (Q:List AVal) (h:QOk k Q) (l:Zb) (s:Int) (r:Zb) (hl:l.length<=1099511627776) (ho:ZaB k l=.ok (s,r)):E 78 [.ref 0 0,.ref 2 0] [.var [.ref 1 0],.var (Q++[.lst false (l.map Zc)]),.var [.ref 1 0]]=some (.tup [],[.var [.ref 1 0],.var (Zi Q 8 3 0 1++[.lst false (r.map Zc)]),.var [.ref 1 0],.row 0 1 [AVal.int .i64 s]]) :=
 ZE2 Q h.len h.nor l (by omega) h.c8 k h.ty ho
theorem cF0 {k:Int} (Q:List AVal) (h:QOk k Q) (l:Zb) (e:Int) (hl:l.length<=1099511627776) (ho:ZaB k l=.error e):∃ r:Zb,E 78 [.ref 0 0,.ref 2 0] [.var [.ref 1 0],.var (Q++[.lst false (l.map Zc)]),.var [.ref 1 0]]=some (.pan (Zx e),[.var [.ref 1 0],.var (Q++[.lst false (r.map Zc)]),.var [.ref 1 0]]) :=
 Zza Q h.len h.nor l (by omega) h.c8 k h.ty ho
theorem cT1 {k:Int} (Q:List AVal) (h:QOk k Q) (xs:List Int) (l:Zb) (s:Int) (r:Zb) (hl:l.length<=1099511627776) (hx:xs.length<=1099511627776) (ho:ZaB k l=.ok (s,r)):E 78 [.ref 0 0,.ref 3 0] [.var [.ref 1 0],.var (Zi Q 8 2 0 xs.length++[.lst false (l.map Zc)]),.row 0 1 (xs.map (AVal.int .i64)),.var [.ref 1 0]]=some (.tup [],[.var [.ref 1 0],.var (Zi Q 8 2 1 (xs.length+1)++[.lst false (r.map Zc)]),.row 1 1 ((xs++[s]).map (AVal.int .i64)),.var [.ref 1 0]]):=by
 have:=ZDy Q h.len h.nor l (by omega) (xs.map (AVal.int .i64)) (by simp;omega) (ZLR xs) k h.ty ho
 rw [List.length_map] at this
 rw [List.map_append]
 exact this
theorem cF1 {k:Int} (Q:List AVal) (h:QOk k Q) (xs:List Int) (l:Zb) (e:Int) (hl:l.length<=1099511627776) (ho:ZaB k l=.error e):∃ r:Zb,E 78 [.ref 0 0,.ref 3 0] [.var [.ref 1 0],.var (Zi Q 8 2 0 xs.length++[.lst false (l.map Zc)]),.row 0 1 (xs.map (AVal.int .i64)),.var [.ref 1 0]]=some (.pan (Zx e),[.var [.ref 1 0],.var (Zi Q 8 2 0 xs.length++[.lst false (r.map Zc)]),.row 0 1 (xs.map (AVal.int .i64)),.var [.ref 1 0]]):=by
 have:=ZCl Q h.len h.nor l (by omega) (xs.map (AVal.int .i64)) k h.ty ho
 rw [List.length_map] at this
 exact this
section
variable (P:List AVal) (l:Zb) (hl:l.length<=1099511627775)
include hl
theorem ZC5 (hP:QOk 10 P) {n:Int} {ps:List Zm} {ts:List Zb} (h:Zbw Zaq 10 l=.ok (n,ps,ts)) :
  E 48 [.ref 0 0] (Zh P l)=some (.tup [],Zcf (ZbY P n ps) 11 ts.length [] 1 (ts.map AVal.str)):=by
 have hk:(11:Nat) < 26:=by omega
 have hE:=Zpt (g:=AVal.str) (kk:=11) (f:=76) (by omega) (by decide) (by kernel_rfl) Zkd fT0 fF0 fT1 fF1 hP hl h
 have hQ:=ZdH hP n ps
 obtain ⟨hL,hN,h0,-,-,-⟩:=hP
 unfold H3 at hE
 generalize ZbY P n ps=Q at *
 have hC:=Zod (O:=E) (bf:=BY) (fm:=74) (by kernel_rfl) (Zw P hL hN false (l.map Zc)) (Zby Q hQ.len hQ.nor hk 3 0 ts.length []) (fun ρ h=>ZaQ Q hQ.len hQ.nor hk 3 0 ts.length 3 0 [] ρ h) hE
 have a4:=fun L=>(Z8 P hL 0 (by omega) L).trans h0
 have hR:=ZbW Q hQ.len hQ.nor 11 hk ts.length 3 0
 have b2:=Zas _ hR
 have m1:=Zbd
 have z:=z0b
 have hO:=fun τ=>ZcZ (j:=3) (w:=1) (xs:=ts.map AVal.str) (r:=.tup []) (σ:=.var (Zi Q 11 3 0 ts.length++[.lst false []])::.var [.ref 0 0]::.var [.ref 0 0]::.row 0 1 (ts.map AVal.str)::τ) rfl (by omega) rfl rfl (Zby Q hQ.len hQ.nor hk 3 0 ts.length []) (fun ρ h=>ZaQ Q hQ.len hQ.nor hk 3 0 ts.length 1 0 [] ρ h)
 unfold hB at hC
 simp only [List.map_nil] at hC
 unfold Zh Zcf
 clear hE h
 generalize Zi Q 11 3 0 ts.length=R at *
 generalize Zi Q 11 1 0 ts.length=R1 at *
 generalize ts.map AVal.str=ys at *
 rw [Zg (by rfl) Zbg]
 simp -implicitDefEqProofs only [EQA,ZE,Zq,Nat.reduceAdd,Nat.reduceLT,Nat.reduceLeDiff,Nat.reduceEqDiff,Nat.reduceBEq,↓reduceIte,Zd,Zbh,Za9,Zes,oI,oN,a4,b2,hC,m1,Int.reduceBEq,z]
 exact hO _
theorem ZJp (hP:QOk 10 P) {e:Int} (h:Zbw Zaq 10 l=.error e):ZjD 11 1 l P e:=by
 have hk:(11:Nat) < 26:=by omega
 have hF:=ZmU (g:=AVal.str) (kk:=11) (f:=76) (by omega) (by decide) (by kernel_rfl) Zkd fT0 fF0 fT1 fF1 hP hl h
 obtain ⟨hL,hN,h0,-,-,-⟩:=hP
 have a4:=fun L=>(Z8 P hL 0 (by omega) L).trans h0
 rcases hF with ⟨cs,hc,hE⟩ | ⟨Q,xs,r,hQ,hQN,hE⟩
 ·have hC:=Zrh (O:=E) (bf:=BY) (fm:=74) (by kernel_rfl) (Zw P hL hN false (l.map Zc)) hc rfl hE
  refine Or.inl ⟨cs,hc,?_⟩
  unfold hB at hC
  unfold Zh
  clear hE h
  rw [Zg (by rfl) Zbg]
  simp -implicitDefEqProofs only [EQA,ZE,Nat.reduceAdd,Nat.reduceLT,Nat.reduceLeDiff,Nat.reduceEqDiff,Nat.reduceBEq,↓reduceIte,Zbh,Za9,oI,oN,a4,hC,Int.reduceBEq]
  exact ZW rfl hc
 ·unfold H3 at hE
  have hC:=Zqf (O:=E) (bf:=BY) (fm:=74) (by kernel_rfl) (Zw P hL hN false (l.map Zc)) (fun ρ h=>ZaQ Q hQ hQN hk 3 0 xs.length 3 0 r ρ h) rfl hE
  have hO:=fun τ=>ZcZ (j:=3) (w:=1) (xs:=xs.map AVal.str) (r:=.pan (Zx e)) (σ:=.var (Zi Q 11 3 0 xs.length++[.lst false (r.map Zc)])::.var [.ref 0 0]::.var [.ref 0 0]::.row 0 1 (xs.map AVal.str)::τ) rfl (by omega) rfl rfl (Zby Q hQ hQN hk 3 0 xs.length r) (fun ρ h=>ZaQ Q hQ hQN hk 3 0 xs.length 1 0 r ρ h)
  refine Or.inr ⟨Q,xs.length,r,xs.map AVal.str,hQ,hQN,?_⟩
  unfold hB at hC
  unfold Zh Zcf
  clear hE h
  generalize Zi Q 11 3 0 xs.length=R at *
  generalize Zi Q 11 1 0 xs.length=R1 at *
  generalize xs.map AVal.str=ys at *
  generalize Zx e=ce at *
  rw [Zg (by rfl) Zbg]
  simp -implicitDefEqProofs only [EQA,ZE,Nat.reduceAdd,Nat.reduceLT,Nat.reduceLeDiff,Nat.reduceEqDiff,Nat.reduceBEq,↓reduceIte,Zbh,Za9,oI,oN,a4,hC,Int.reduceBEq]
  exact hO _
theorem ZHb (hP:QOk 9 P) {n:Int} {ps:List Zm} {ts:List Int} (h:Zbw (ZaB 9) 9 l=.ok (n,ps,ts)) :
  E 48 [.ref 0 0] (Zh P l)=some (.tup [],Zcf (ZbY P n ps) 8 ts.length [] 1 (ts.map (AVal.int .i64))):=by
 have hk:(8:Nat) < 26:=by omega
 have hE:=Zpt (g:=(AVal.int .i64)) (kk:=8) (f:=78) (by omega) (by decide) (by kernel_rfl) ZiU cT0 cF0 cT1 cF1 hP hl h
 have hQ:=ZdH hP n ps
 obtain ⟨hL,hN,h0,-,-,-⟩:=hP
 unfold H3 at hE
 generalize ZbY P n ps=Q at *
 have hC:=Zod (O:=E) (bf:=BY) (fm:=74) (by kernel_rfl) (Zw P hL hN false (l.map Zc)) (Zby Q hQ.len hQ.nor hk 3 0 ts.length []) (fun ρ h=>ZaQ Q hQ.len hQ.nor hk 3 0 ts.length 3 0 [] ρ h) hE
 have a4:=fun L=>(Z8 P hL 0 (by omega) L).trans h0
 have hR:=ZbW Q hQ.len hQ.nor 8 hk ts.length 3 0
 have b2:=Zas _ hR
 have m1:=Zbd
 have z:=z0b
 have hO:=fun τ=>ZcZ (j:=3) (w:=1) (xs:=ts.map (AVal.int .i64)) (r:=.tup []) (σ:=.var (Zi Q 8 3 0 ts.length++[.lst false []])::.var [.ref 0 0]::.var [.ref 0 0]::.row 0 1 (ts.map (AVal.int .i64))::τ) rfl (by omega) rfl rfl (Zby Q hQ.len hQ.nor hk 3 0 ts.length []) (fun ρ h=>ZaQ Q hQ.len hQ.nor hk 3 0 ts.length 1 0 [] ρ h)
 unfold hB at hC
 simp only [List.map_nil] at hC
 unfold Zh Zcf
 clear hE h
 generalize Zi Q 8 3 0 ts.length=R at *
 generalize Zi Q 8 1 0 ts.length=R1 at *
 generalize ts.map (AVal.int .i64)=ys at *
 rw [Zg (by rfl) Zbg]
 simp -implicitDefEqProofs only [EQA,ZE,Zq,Nat.reduceAdd,Nat.reduceLT,Nat.reduceLeDiff,Nat.reduceEqDiff,Nat.reduceBEq,↓reduceIte,Zd,Zbh,Za9,Zes,oI,oN,a4,b2,hC,m1,Int.reduceBEq,z]
 exact hO _
theorem ZGa (hP:QOk 9 P) {e:Int} (h:Zbw (ZaB 9) 9 l=.error e):ZjD 8 1 l P e:=by
 have hk:(8:Nat) < 26:=by omega
 have hF:=ZmU (g:=(AVal.int .i64)) (kk:=8) (f:=78) (by omega) (by decide) (by kernel_rfl) ZiU cT0 cF0 cT1 cF1 hP hl h
 obtain ⟨hL,hN,h0,-,-,-⟩:=hP
 have a4:=fun L=>(Z8 P hL 0 (by omega) L).trans h0
 rcases hF with ⟨cs,hc,hE⟩ | ⟨Q,xs,r,hQ,hQN,hE⟩
 ·have hC:=Zrh (O:=E) (bf:=BY) (fm:=74) (by kernel_rfl) (Zw P hL hN false (l.map Zc)) hc rfl hE
  refine Or.inl ⟨cs,hc,?_⟩
  unfold hB at hC
  unfold Zh
  clear hE h
  rw [Zg (by rfl) Zbg]
  simp -implicitDefEqProofs only [EQA,ZE,Nat.reduceAdd,Nat.reduceLT,Nat.reduceLeDiff,Nat.reduceEqDiff,Nat.reduceBEq,↓reduceIte,Zbh,Za9,oI,oN,a4,hC,Int.reduceBEq]
  exact ZW rfl hc
 ·unfold H3 at hE
  have hC:=Zqf (O:=E) (bf:=BY) (fm:=74) (by kernel_rfl) (Zw P hL hN false (l.map Zc)) (fun ρ h=>ZaQ Q hQ hQN hk 3 0 xs.length 3 0 r ρ h) rfl hE
  have hO:=fun τ=>ZcZ (j:=3) (w:=1) (xs:=xs.map (AVal.int .i64)) (r:=.pan (Zx e)) (σ:=.var (Zi Q 8 3 0 xs.length++[.lst false (r.map Zc)])::.var [.ref 0 0]::.var [.ref 0 0]::.row 0 1 (xs.map (AVal.int .i64))::τ) rfl (by omega) rfl rfl (Zby Q hQ hQN hk 3 0 xs.length r) (fun ρ h=>ZaQ Q hQ hQN hk 3 0 xs.length 1 0 r ρ h)
  refine Or.inr ⟨Q,xs.length,r,xs.map (AVal.int .i64),hQ,hQN,?_⟩
  unfold hB at hC
  unfold Zh Zcf
  clear hE h
  generalize Zi Q 8 3 0 xs.length=R at *
  generalize Zi Q 8 1 0 xs.length=R1 at *
  generalize xs.map (AVal.int .i64)=ys at *
  generalize Zx e=ce at *
  rw [Zg (by rfl) Zbg]
  simp -implicitDefEqProofs only [EQA,ZE,Nat.reduceAdd,Nat.reduceLT,Nat.reduceLeDiff,Nat.reduceEqDiff,Nat.reduceBEq,↓reduceIte,Zbh,Za9,oI,oN,a4,hC,Int.reduceBEq]
  exact hO _
theorem ZPV (hP:QOk 11 P) {n:Int} {ps:List Zm} {ts:List Int} (h:Zbw (ZaB 11) 11 l=.ok (n,ps,ts)) :
  E 48 [.ref 0 0] (Zh P l)=some (.tup [],Zcf (ZbY P n ps) 8 ts.length [] 1 (ts.map (AVal.int .i64))):=by
 have hk:(8:Nat) < 26:=by omega
 have hE:=Zpt (g:=(AVal.int .i64)) (kk:=8) (f:=78) (by omega) (by decide) (by kernel_rfl) ZiU cT0 cF0 cT1 cF1 hP hl h
 have hQ:=ZdH hP n ps
 obtain ⟨hL,hN,h0,-,-,-⟩:=hP
 unfold H3 at hE
 generalize ZbY P n ps=Q at *
 have hC:=Zod (O:=E) (bf:=BY) (fm:=74) (by kernel_rfl) (Zw P hL hN false (l.map Zc)) (Zby Q hQ.len hQ.nor hk 3 0 ts.length []) (fun ρ h=>ZaQ Q hQ.len hQ.nor hk 3 0 ts.length 3 0 [] ρ h) hE
 have a4:=fun L=>(Z8 P hL 0 (by omega) L).trans h0
 have hR:=ZbW Q hQ.len hQ.nor 8 hk ts.length 3 0
 have b2:=Zas _ hR
 have m1:=Zbd
 have z:=z0b
 have hO:=fun τ=>ZcZ (j:=3) (w:=1) (xs:=ts.map (AVal.int .i64)) (r:=.tup []) (σ:=.var (Zi Q 8 3 0 ts.length++[.lst false []])::.var [.ref 0 0]::.var [.ref 0 0]::.row 0 1 (ts.map (AVal.int .i64))::τ) rfl (by omega) rfl rfl (Zby Q hQ.len hQ.nor hk 3 0 ts.length []) (fun ρ h=>ZaQ Q hQ.len hQ.nor hk 3 0 ts.length 1 0 [] ρ h)
 unfold hB at hC
 simp only [List.map_nil] at hC
 unfold Zh Zcf
 clear hE h
 generalize Zi Q 8 3 0 ts.length=R at *
 generalize Zi Q 8 1 0 ts.length=R1 at *
 generalize ts.map (AVal.int .i64)=ys at *
 rw [Zg (by rfl) Zbg]
 simp -implicitDefEqProofs only [EQA,ZE,Zq,Nat.reduceAdd,Nat.reduceLT,Nat.reduceLeDiff,Nat.reduceEqDiff,Nat.reduceBEq,↓reduceIte,Zd,Zbh,Za9,Zes,oI,oN,a4,b2,hC,m1,Int.reduceBEq,z]
 exact hO _
theorem ZNT (hP:QOk 11 P) {e:Int} (h:Zbw (ZaB 11) 11 l=.error e):ZjD 8 1 l P e:=by
 have hk:(8:Nat) < 26:=by omega
 have hF:=ZmU (g:=(AVal.int .i64)) (kk:=8) (f:=78) (by omega) (by decide) (by kernel_rfl) ZiU cT0 cF0 cT1 cF1 hP hl h
 obtain ⟨hL,hN,h0,-,-,-⟩:=hP
 have a4:=fun L=>(Z8 P hL 0 (by omega) L).trans h0
 rcases hF with ⟨cs,hc,hE⟩ | ⟨Q,xs,r,hQ,hQN,hE⟩
 ·have hC:=Zrh (O:=E) (bf:=BY) (fm:=74) (by kernel_rfl) (Zw P hL hN false (l.map Zc)) hc rfl hE
  refine Or.inl ⟨cs,hc,?_⟩
  unfold hB at hC
  unfold Zh
  clear hE h
  rw [Zg (by rfl) Zbg]
  simp -implicitDefEqProofs only [EQA,ZE,Nat.reduceAdd,Nat.reduceLT,Nat.reduceLeDiff,Nat.reduceEqDiff,Nat.reduceBEq,↓reduceIte,Zbh,Za9,oI,oN,a4,hC,Int.reduceBEq]
  exact ZW rfl hc
 ·unfold H3 at hE
  have hC:=Zqf (O:=E) (bf:=BY) (fm:=74) (by kernel_rfl) (Zw P hL hN false (l.map Zc)) (fun ρ h=>ZaQ Q hQ hQN hk 3 0 xs.length 3 0 r ρ h) rfl hE
  have hO:=fun τ=>ZcZ (j:=3) (w:=1) (xs:=xs.map (AVal.int .i64)) (r:=.pan (Zx e)) (σ:=.var (Zi Q 8 3 0 xs.length++[.lst false (r.map Zc)])::.var [.ref 0 0]::.var [.ref 0 0]::.row 0 1 (xs.map (AVal.int .i64))::τ) rfl (by omega) rfl rfl (Zby Q hQ hQN hk 3 0 xs.length r) (fun ρ h=>ZaQ Q hQ hQN hk 3 0 xs.length 1 0 r ρ h)
  refine Or.inr ⟨Q,xs.length,r,xs.map (AVal.int .i64),hQ,hQN,?_⟩
  unfold hB at hC
  unfold Zh Zcf
  clear hE h
  generalize Zi Q 8 3 0 xs.length=R at *
  generalize Zi Q 8 1 0 xs.length=R1 at *
  generalize xs.map (AVal.int .i64)=ys at *
  generalize Zx e=ce at *
  rw [Zg (by rfl) Zbg]
  simp -implicitDefEqProofs only [EQA,ZE,Nat.reduceAdd,Nat.reduceLT,Nat.reduceLeDiff,Nat.reduceEqDiff,Nat.reduceBEq,↓reduceIte,Zbh,Za9,oI,oN,a4,hC,Int.reduceBEq]
  exact hO _
theorem ZBp (hP:QOk 8 P) {n:Int} {ps:List Zm} {ts:List Zbx} (h:Zbw Zbp 8 l=.ok (n,ps,ts)) :
  E 48 [.ref 0 0] (Zh P l)=some (.tup [],Zcf (ZbY P n ps) 10 ts.length [] 6 (ts.map ZY)):=by
 have hk:(10:Nat) < 26:=by omega
 have hE:=ZLz hP hl h
 have hQ:=ZdH hP n ps
 obtain ⟨hL,hN,h0,-,-,-⟩:=hP
 unfold H1 at hE
 generalize ZbY P n ps=Q at *
 have hC:=ZB1 (O:=E) (bf:=BY) (fm:=74) (by kernel_rfl) (Zw P hL hN false (l.map Zc)) (Zby Q hQ.len hQ.nor hk 1 0 ts.length []) (fun ρ h=>ZaQ Q hQ.len hQ.nor hk 1 0 ts.length 1 0 [] ρ h) (fun ρ h=>ZaQ Q hQ.len hQ.nor hk 1 0 ts.length 3 0 [] ρ h) hE
 have a4:=fun L=>(Z8 P hL 0 (by omega) L).trans h0
 have hR:=ZbW Q hQ.len hQ.nor 10 hk ts.length 3 0
 have b2:=Zas _ hR
 have m1:=Zbd
 have z:=z0b
 have hO:=fun τ=>ZcZ (j:=3) (w:=6) (xs:=ts.map ZY) (r:=.tup []) (σ:=.var (Zi Q 10 3 0 ts.length++[.lst false []])::.var [.ref 0 0]::.var [.ref 0 0]::.row 0 6 (ts.map ZY)::τ) rfl (by omega) rfl rfl (Zby Q hQ.len hQ.nor hk 3 0 ts.length []) (fun ρ h=>ZaQ Q hQ.len hQ.nor hk 3 0 ts.length 1 0 [] ρ h)
 unfold hB at hC
 simp only [List.map_nil] at hC
 unfold Zh Zcf
 clear hE h
 generalize Zi Q 10 3 0 ts.length=R at *
 generalize Zi Q 10 1 0 ts.length=R1 at *
 generalize ts.map ZY=ys at *
 rw [Zg (by rfl) Zbg]
 simp -implicitDefEqProofs only [EQA,ZE,Zq,Nat.reduceAdd,Nat.reduceLT,Nat.reduceLeDiff,Nat.reduceEqDiff,Nat.reduceBEq,↓reduceIte,Zd,Zbh,Za9,Zes,oI,oN,a4,b2,hC,m1,Int.reduceBEq,z]
 exact hO _
theorem ZFL (hP:QOk 8 P) {e:Int} (h:Zbw Zbp 8 l=.error e):ZjD 10 6 l P e:=by
 have hk:(10:Nat) < 26:=by omega
 have hF:=ZAS hP hl h
 obtain ⟨hL,hN,h0,-,-,-⟩:=hP
 have a4:=fun L=>(Z8 P hL 0 (by omega) L).trans h0
 rcases hF with ⟨cs,hc,hE⟩ | ⟨Q,xs,r,hQ,hQN,hE⟩
 ·have hC:=ZGJ (O:=E) (bf:=BY) (fm:=74) (by kernel_rfl) (Zw P hL hN false (l.map Zc)) hc rfl hE
  refine Or.inl ⟨cs,hc,?_⟩
  unfold hB at hC
  unfold Zh
  clear hE h
  rw [Zg (by rfl) Zbg]
  simp -implicitDefEqProofs only [EQA,ZE,Nat.reduceAdd,Nat.reduceLT,Nat.reduceLeDiff,Nat.reduceEqDiff,Nat.reduceBEq,↓reduceIte,Zbh,Za9,oI,oN,a4,hC,Int.reduceBEq]
  exact ZW rfl hc
 ·unfold H1 at hE
  have hC:=ZDP (O:=E) (bf:=BY) (fm:=74) (by kernel_rfl) (Zw P hL hN false (l.map Zc)) (fun ρ h=>ZaQ Q hQ hQN hk 1 0 xs.length 3 0 r ρ h) rfl hE
  have hO:=fun τ=>ZcZ (j:=3) (w:=6) (xs:=xs.map ZY) (r:=.pan (Zx e)) (σ:=.var (Zi Q 10 3 0 xs.length++[.lst false (r.map Zc)])::.var [.ref 0 0]::.var [.ref 0 0]::.row 0 6 (xs.map ZY)::τ) rfl (by omega) rfl rfl (Zby Q hQ hQN hk 3 0 xs.length r) (fun ρ h=>ZaQ Q hQ hQN hk 3 0 xs.length 1 0 r ρ h)
  refine Or.inr ⟨Q,xs.length,r,xs.map ZY,hQ,hQN,?_⟩
  unfold hB at hC
  unfold Zh Zcf
  clear hE h
  generalize Zi Q 10 3 0 xs.length=R at *
  generalize Zi Q 10 1 0 xs.length=R1 at *
  generalize xs.map ZY=ys at *
  generalize Zx e=ce at *
  rw [Zg (by rfl) Zbg]
  simp -implicitDefEqProofs only [EQA,ZE,Nat.reduceAdd,Nat.reduceLT,Nat.reduceLeDiff,Nat.reduceEqDiff,Nat.reduceBEq,↓reduceIte,Zbh,Za9,oI,oN,a4,hC,Int.reduceBEq]
  exact hO _
end
end
section
section
variable {O:ZO} {bf:Nat->Bool} {σ:Za} {t f sq w:Nat} {rest:List AVal} {cs cs2 cs3 ys:List AVal}
theorem ZCg (hb:bf f=false) (hp:rest.all Z7=true) (hc:Zd cs=true) (hrf:Zr cs2=[1]) (hren:∀ ρ:Rho,ρ 1 0=some (1,0)->Zf ρ cs2=cs2) (hback:∀ ρ:Rho,ρ 1 0=some (sq,0)->Zf ρ cs2=cs3)
  (h:O f (.ref 0 0::rest.map ZG) [.var cs]=some (.tup [],[.var cs2,.row 0 w ys])) (hs:σ[t]?=some (.var cs)) (hff:Za0 σ sq 1=true):Zk O bf σ sq f 1 true (.ref t 0::rest)=some (.tup [],(σ.set t (.var cs3)).set sq (.row 0 w ys),{ any:=true,upd:=[(t,cs3)] }):=by
 have hfs:σ[sq]?=some .free:=ZgP (i:=0) hff (by omega)
 have hts:t≠sq:=by rintro rfl;rw [hs] at hfs;cases hfs
 have htl:t < σ.length:=(List.getElem?_eq_some_iff.1 hs).1
 have hd:σ.getD t .free=.var cs:=by simp [List.getD_eq_getElem?_getD,hs]
 have hsh:showAs σ (.ref t 0::rest)=some (.ref t 0::rest.map ZG,[]):=by
  rw [showAs,show showA σ (.ref t 0)=some (.ref t 0,[]) from rfl,ZdT hp]
  rfl
 have href:Zr (.ref t 0::rest.map ZG)=[t]:=by
  rw [Zr,Zdu hp];rfl
 have hρ:Zn σ 0 [t] t 0=some (0,0):=by simp [Zn,Z0,hs,Zp,ZT]
 have hask:Zad true [t].length (some (.tup [],[.var cs2,.row 0 w ys]))=some (.tup [],[.var cs2,.row 0 w ys]):=ZcZ (j:=1) (σ:=[.var cs2,.row 0 w ys]) (r:=.tup []) rfl (by omega) rfl rfl hrf hren
 refine Zdd (ids:=[t]) hb hsh (by rw [href];exact Ze1 hs hc) rfl (by simp [hs,okB]) ?_ ?_ h hask (by simp) (by simp) ?_ hff rfl ?_ ?_
 ·rw [Zf,Zdf hp]
  simp only [Zl,hρ]
 ·simp only [Zu,hd,ZH,(ZaV _ cs hc).1]
 ·simp [Za3,okB,hs,Zcc,Zp]
 ·have hb3:Zf (ZaA σ [t] sq) cs2=cs3:=hback _ (by simp [ZaA])
  simp only [Za4,ZaM,List.getD_cons_zero,Zch,Zp,ZH,hb3]
  simp []
 ·have e1:((σ.set t (.var cs3)).set sq (.row 0 w ys))[t]?=some (.var cs3):=by
   rw [List.getElem?_set_ne (fun e=>hts e.symm),List.getElem?_set_self htl]
  simp only [Zbb,e1]
theorem ZJl {x:AVal} {view:Bool} (hb:bf f=false) (hp:rest.all Z7=true) (hc:Zd cs=true) (hback:∀ ρ:Rho,ρ 1 0=some (sq,0)->Zf ρ cs2=cs3) (hx:ZK x=true)
  (h:O f (.ref 0 0::rest.map ZG) [.var cs]=some (.pan x,[.var cs2,.row 0 w ys])) (hs:σ[t]?=some (.var cs)) (hff:Za0 σ sq 1=true):Zk O bf σ sq f 1 view (.ref t 0::rest)=some (.pan x,(σ.set t (.var cs3)).set sq (.row 0 w ys),{ any:=true,upd:=[(t,cs3)] }):=by
 have hfs:σ[sq]?=some .free:=ZgP (i:=0) hff (by omega)
 have hts:t≠sq:=by rintro rfl;rw [hs] at hfs;cases hfs
 have htl:t < σ.length:=(List.getElem?_eq_some_iff.1 hs).1
 have hd:σ.getD t .free=.var cs:=by simp [List.getD_eq_getElem?_getD,hs]
 have hnp:ZK (.pan x)=true:=by simpa only [ZK] using hx
 have hsh:showAs σ (.ref t 0::rest)=some (.ref t 0::rest.map ZG,[]):=by
  rw [showAs,show showA σ (.ref t 0)=some (.ref t 0,[]) from rfl,ZdT hp]
  rfl
 have href:Zr (.ref t 0::rest.map ZG)=[t]:=by
  rw [Zr,Zdu hp];rfl
 have hρ:Zn σ 0 [t] t 0=some (0,0):=by simp [Zn,Z0,hs,Zp,ZT]
 have hask:Zad view [t].length (some (.pan x,[.var cs2,.row 0 w ys]))=some (.pan x,[.var cs2,.row 0 w ys]):=by
  unfold Zad
  split <;> rfl
 refine Zdd (ids:=[t]) hb hsh (by rw [href];exact Ze1 hs hc) rfl (by simp [hs,okB]) ?_ ?_ h hask (by simp) (by simp) ?_ hff (Za8 _ _ hnp).1 ?_ ?_
 ·rw [Zf,Zdf hp]
  simp only [Zl,hρ]
 ·simp only [Zu,hd,ZH,(ZaV _ cs hc).1]
 ·simp [Za3,okB,hs,Zcc,Zp]
 ·have hb3:Zf (ZaA σ [t] sq) cs2=cs3:=hback _ (by simp [ZaA])
  simp only [Za4,ZaM,List.getD_cons_zero,Zch,Zp,ZH,hb3]
  simp []
 ·have e1:((σ.set t (.var cs3)).set sq (.row 0 w ys))[t]?=some (.var cs3):=by
   rw [List.getElem?_set_ne (fun e=>hts e.symm),List.getElem?_set_self htl]
  simp only [Zbb,e1]
end
section
variable (b:Int) (l:Zb) {P1 Q:List AVal} {kk n w:Nat} {ys:List AVal} (h1:P1.length=26) (n1:Zd P1=true) (hQ:Q.length=26) (nQ:Zd Q=true) (hk:kk < 26)
include h1 n1 hQ nQ hk
theorem ZDD (oQ:∀ r g m,(Zi Q kk r g m).all ZR=true)
  (hf:E 47 [.ref 0 0,.int .u8 b] (Zh P0 l)=some (.tup [],Zh P1 l)) (hb:E 48 [.ref 0 0] (Zh P1 l)=some (.tup [],Zcf Q kk n [] w ys)) :
  evC FC PR BY 3 c2R (tput tmR (some 5) .top) (σR b l)=some (.ret,[(3,.ref 2 0),(2,.ref 1 0)],[.var [.int .u8 b,.lst false (l.map Zc)],.var (Zi Q kk 4 0 n),.var [.int .i64 0],.var (Zi Q kk 4 0 n++[.lst false []]),.row 0 w ys]):=by
 have hF:=fun (σ:Za) sq (hs:σ[3]?=some (.var (P0++[.lst false (l.map Zc)])))=>Zda (O:=E) (bf:=BY) (f:=47) (rest:=[.int .u8 b]) (by kernel_rfl) rfl (by rfl) (ZaD n1 (by rfl)) rfl rfl hf hs sq
 have hB:=fun (σ:Za) (hs:σ[3]?=some (.var (P1++[.lst false (l.map Zc)]))) (hfr:σ[4]?=some .free)=>ZCg (O:=E) (bf:=BY) (f:=48) (sq:=4) (rest:=[]) (by kernel_rfl) rfl (ZaD n1 (by rfl)) (Zby Q hQ nQ hk 1 0 n []) (fun ρ h=>ZaQ Q hQ nQ hk 1 0 n 1 0 [] ρ h) (fun ρ h=>ZaQ Q hQ nQ hk 1 0 n 4 0 [] ρ h) hb hs (by simp [Za0,freeAt,hfr])
 have hR:=ZbW Q hQ nQ kk hk n 4 0
 have b1:=Z6 _ hR
 have b2:=ZeJ _ hR
 have o2:=oQ 4 0 n
 simp only [List.map_nil] at hB
 unfold P0 at hF
 simp only [List.cons_append,List.nil_append] at hF
 unfold tmR σR P0
 clear hf hb
 generalize Zi Q kk 4 0 n=R at *
 simp -implicitDefEqProofs only [EQA,Za6,Nat.reduceAdd,Nat.reduceLT,Nat.reduceLeDiff,Nat.reduceEqDiff,Nat.reduceBEq,↓reduceIte,c2R,AVal.cells,Zae,hF,hB,b1,b2,hR,o2]
theorem ZEp {c:Int} (hf:E 47 [.ref 0 0,.int .u8 b] (Zh P0 l)=some (.tup [],Zh P1 l)) {r:Zb} (hb:E 48 [.ref 0 0] (Zh P1 l)=some (.pan (Zx c),Zcf Q kk n r w ys)) :
  evC FC PR BY 3 c2R (tput tmR (some 5) .top) (σR b l)=some (.panic (Zx c),[],[.var [.int .u8 b,.lst false (l.map Zc)],.var P0,.var [.int .i64 0],.var (Zi Q kk 4 0 n++[.lst false (r.map Zc)]),.row 0 w ys]):=by
 have hF:=fun (σ:Za) sq (hs:σ[3]?=some (.var (P0++[.lst false (l.map Zc)])))=>Zda (O:=E) (bf:=BY) (f:=47) (rest:=[.int .u8 b]) (by kernel_rfl) rfl (by rfl) (ZaD n1 (by rfl)) rfl rfl hf hs sq
 have hB:=fun (σ:Za) (hs:σ[3]?=some (.var (P1++[.lst false (l.map Zc)]))) (hff:Za0 σ 4 1=true)=>ZJl (O:=E) (bf:=BY) (f:=48) (view:=true) (sq:=4) (rest:=[]) (by kernel_rfl) rfl (ZaD n1 (by rfl)) (fun ρ h=>ZaQ Q hQ nQ hk 1 0 n 4 0 r ρ h) rfl hb hs hff
 unfold P0 at hF
 simp only [List.cons_append,List.nil_append] at hF
 unfold tmR σR P0
 clear hf hb
 generalize Zi Q kk 4 0 n=R at *
 simp -implicitDefEqProofs only [EQA,Za6,Nat.reduceAdd,Nat.reduceLT,Nat.reduceLeDiff,Nat.reduceEqDiff,Nat.reduceBEq,↓reduceIte,c2R,AVal.cells,Zae,hF,hB,Za0]
omit h1 n1
theorem ZIp (c:Int):Zfx 0 1 2 rsR (.var [.int .u8 b,.lst false (l.map Zc)]::.var (Zi Q kk 4 0 n)::.var [.int .i64 c]::.var (Zi Q kk 4 0 n++[.lst false []])::.row 0 w ys::[])=some (.tup [.agg (Zi Q kk 0 0 n),.int .i64 c],[.row 0 w ys]):=by
 have hR:=ZbW Q hQ nQ kk hk n 4 0
 have hRf:=Zce Q hQ nQ kk hk n 4 0
 have hre:=fun ρ h=>ZbH Q hQ nQ kk hk n (r:=4) (g:=0) (r':=0) (g':=0) ρ h
 generalize Zi Q kk 4 0 n=R at *
 have h1:resA [(3,.ref 2 0),(2,.ref 1 0)] (.var [.int .u8 b,.lst false (l.map Zc)]::.var R::.var [.int .i64 c]::.var (R++[.lst false []])::.row 0 w ys::[]) rsR=some (.tup [.agg R,.int .i64 c]):=by
  have h2:R.take 26=R:=List.take_of_length_le (by omega)
  simp [resA,resAll,resOne,rsR,tget,ldA,partA,hR,h2]
 unfold Zfx
 rw [h1]
 have hr:Zr [AVal.tup [.agg R,.int .i64 c]]=[4]:=by simp [Zr,ZZ,hRf]
 have hi:ZA 0 [AVal.tup [.agg R,.int .i64 c]] (.var [.int .u8 b,.lst false (l.map Zc)]::.var R::.var [.int .i64 c]::.var (R++[.lst false []])::.row 0 w ys::[])=[4]:=by
  simp only [ZA,hr,List.range_zero,List.flatMap_nil,List.append_nil]
  rfl
 have hρ:Zn (.var [.int .u8 b,.lst false (l.map Zc)]::.var R::.var [.int .i64 c]::.var (R++[.lst false []])::.row 0 w ys::[]) 0 [4] 4 0=some (0,0):=rfl
 simp only [Zam,gcA,hi,Zf,Zl,hre _ hρ,Zu,List.getD_cons_zero,List.getD_cons_succ,ZT,Zp,ZH]
 simp
end
theorem Zw2 (b:Int) (l:Zb) {P1 Q:List AVal} {kk n w:Nat} {ys:List AVal} (h1:P1.length=26) (n1:Zd P1=true) (hQ:Q.length=26) (nQ:Zd Q=true) (hk:kk < 26) (oQ:∀ r g m,(Zi Q kk r g m).all ZR=true)
  (hf:E 47 [.ref 0 0,.int .u8 b] (Zh P0 l)=some (.tup [],Zh P1 l)) (hb:E 48 [.ref 0 0] (Zh P1 l)=some (.tup [],Zcf Q kk n [] w ys)) :
  ZeM [.agg [.int .u8 b,.lst false (l.map Zc)]] []=some (.tup [.agg (Zi Q kk 0 0 n),.int .i64 0],[.row 0 w ys]):=by
 unfold ZeM ZhJ
 show (match evC FC PR BY 0 c1R (enterA 0 [.agg [.int .u8 b,.lst false (l.map Zc)]] []) [] with | some (.normal,tm1,σ1)=>_ | _=>none)=_
 rw [Zni]
 show (if (0:Nat)<=(σR b l).length/\1 < (σR b l).length/\2 < (σR b l).length then ZfT FC PR BY 29 c2R c3R rsR 0 (tput tmR (some 5) .top) (σR b l) 1 2 else none)=_
 rw [if_pos (by simp [σR])]
 unfold ZfT
 rw [show (σR b l).length=3 from rfl,ZDD b l h1 n1 hQ nQ hk oQ hf hb]
 exact ZIp b l hQ nQ hk 0
theorem ZxD {b c:Int} {l:Zb} {Q:List AVal} {q:Zs} {w:Nat} {ys:List AVal} (h:E1 29 [.agg [.int .u8 b,.lst false (l.map Zc)]] []=some (.tup [.agg Q,.int .i64 c],[.row 0 w ys])) (hv:∀ σ:Za,σ[0]?=some (.row 0 w ys)->Zar σ Q=some (Zt q,[0])) :
  Zad true 0 (E1 29 [.agg [.int .u8 b,.lst false (l.map Zc)]] [])=some (.tup [Zaj q,.int .i64 c],[]):=by
 rw [h]
 show Zbn 0 (some (.tup [.agg Q,.int .i64 c],[.row 0 w ys]))=some (.tup [Zaj q,.int .i64 c],[])
 have h1:viewR [.row 0 w ys] (.tup [.agg Q,.int .i64 c])=some (.tup [Zaj q,.int .i64 c],[0]):=by
  rw [viewR,viewAs,ZL,hv _ rfl]
  rfl
 unfold Zbn
 simp only [h1]
 have e1:=ZuX q
 have e2:=ZqT q
 have hi:ZA 0 [AVal.tup [Zaj q,.int .i64 c]] (Zo [.row 0 w ys] [0])=[]:=by
  have : Zr [AVal.tup [Zaj q,.int .i64 c]]=[]:=by simp [Zr,ZZ,ZbD,e1]
  simp only [ZA,this,List.nil_append,List.range_zero,List.flatMap_nil]
  rfl
 simp only [gcA,hi,Zf,Zl,Zu]
 rw [ZbD,Zl,e2]
end
section
def ZpS (q:Zs) (m:Int):Zs:={ q with clean:=Zv m 2 != 0,hasWill:=Zv m 4 != 0,hasPassword:=Zv m 64 != 0,hasUser:=Zv m 128 != 0,will:={ q.will with qos:=Zv (Zea m) 3,retain:=Zv m 32 != 0 } }
def headD (q:Zs) (k:Int) (ps:List Zm) (cl:Zb):Zs:={ q with keep:=k,props:=ps,client:=cl }
def ZgF (b:Bool) (q:Zs) (l:Zb):Except Int (Zs×Zb):=if b=true then (match ZcJ l with
 | .error c=>.error c
 | .ok (d,r)=>.ok ({ q with password:=d },r)) else .ok (q,l)
def ZfH (b:Bool) (q:Zs) (l:Zb):Except Int (Zs×Zb):=if b=true then (match Zaq l with
 | .error c=>.error c
 | .ok (d,r)=>.ok ({ q with user:=d },r)) else .ok (q,l)
def ZfZ (b:Bool) (q:Zs) (l:Zb):Except Int (Zs×Zb):=if b=true then (match Zdw l with
 | .error c=>.error c
 | .ok (ps,tp,d,r)=>.ok ({ q with will:={ q.will with props:=ps,topic:=tp,data:=d } },r)) else .ok (q,l)
def Zia (m:Int) (q:Zs) (l:Zb):Except Int (Zs×Zb):=match ZfZ (Zv m 4 != 0) q l with
 | .error c=>.error c
 | .ok (q,l)=>match ZfH (Zv m 128 != 0) q l with
  | .error c=>.error c
  | .ok (q,l)=>ZgF (Zv m 64 != 0) q l
def Zh9 (q:Zs) (m:Int) (l:Zb):Except Int (Zs×Zb):=match ZaC 2 l with
 | .error c=>.error c
 | .ok (k,r4)=>match Zbt 1 r4 with
  | .error c=>.error c
  | .ok (ps,r5)=>match Zaq r5 with
   | .error c=>.error c
   | .ok (cl,r6)=>Zia m (headD (ZpS q m) k ps cl) r6
def Ze9 (q:Zs) (l:Zb):Except Int (Zs×Zb):=match Zaq l with
 | .error c=>.error c
 | .ok (s,r1)=>if (s == [77,81,84,84])=true then (match ZaC 1 r1 with
  | .error c=>.error c
  | .ok (v,r2)=>if (v == 5)=true then (match ZaC 1 r2 with
   | .error c=>.error c
   | .ok (m,r3)=>if ZhE m (Zv (Zea m) 3) (Zv m 4 != 0) (Zv m 32 != 0)=true then Zh9 q m r3 else .error 129)
   else .error 132)
  else .error 132
structure Is (P:List AVal) (q:Zs):Prop where
 view:∀ σ,Zar σ P=some (Zt q,[])
 ok:P.all ZR=true
theorem Zq5 {σ:Za} {v y:AVal} {ts:List Nat} (hv:ZI σ v=some (y,ts)):∀ {P ys:List AVal} {k:Nat},Zar σ P=some (ys,[])->k < P.length->Zar σ (P.set k v)=some (ys.set k y,ts)
 | [],_,_,_,h=>by simp at h
 | x::P,ys,k,h,hk=>by
  rw [Zar] at h
  split at h
  ·rename_i y0 t0 h0
   split at h
   ·rename_i ys0 us0 h1
    injection h with h;injection h with h2 h3
    obtain ⟨rfl,rfl⟩:=List.append_eq_nil_iff.1 h3
    subst h2
    cases k with
    | zero =>
     rw [List.set_cons_zero,Zar,hv]
     simp only [h1,List.append_nil]
     rfl
    | succ k =>
     rw [List.set_cons_succ,Zar,h0]
     simp only [Zq5 hv h1 (by simpa using hk)]
     rfl
   ·cases h
  ·cases h
theorem Zn0 {v:AVal} (hv:ZR v=true):∀ {P:List AVal} {k:Nat},P.all ZR=true->(P.set k v).all ZR=true
 | [],_,_=>rfl
 | x::P,0,h=>by
  simp only [List.set_cons_zero,List.all_cons,Bool.and_eq_true] at h ⊢
  exact ⟨hv,h.2⟩
 | x::P,k+1,h=>by
  simp only [List.set_cons_succ,List.all_cons,Bool.and_eq_true] at h ⊢
  exact ⟨h.1,Zn0 hv h.2⟩
theorem Is.set {P:List AVal} {q q':Zs} (h:Is P q) {k:Nat} {v y:AVal} (hk:k < P.length) (hv:∀ σ,ZI σ v=some (y,[])) (ho:ZR v=true) (hc:(Zt q).set k y=Zt q'):Is (P.set k v) q' :=
 ⟨fun σ=>by rw [Zq5 (hv σ) (h.view σ) hk,hc],Zn0 ho h.ok⟩
section
variable {P:List AVal} {q:Zs} (hP:P.length=26) (h:Is P q)
include hP h
theorem ZPp (m:Int):Is (ZbA P m) (ZpS q m):=by
 unfold ZbA
 have h1:=h.set (k:=12) (q':={ q with clean:=Zv m 2 != 0 }) (v:=.bool (Zv m 2 != 0)) (by omega) (fun _=>rfl) rfl rfl
 have h2:=h1.set (k:=15) (q':={ q with clean:=Zv m 2 != 0,hasWill:=Zv m 4 != 0 }) (v:=.bool (Zv m 4 != 0)) (by simp [hP]) (fun _=>rfl) rfl rfl
 have h3:=h2.set (k:=23) (q':={ q with clean:=Zv m 2 != 0,hasWill:=Zv m 4 != 0,hasPassword:=Zv m 64 != 0 }) (v:=.bool (Zv m 64 != 0)) (by simp [hP]) (fun _=>rfl) rfl rfl
 have h4:=h3.set (k:=21) (q':={ q with clean:=Zv m 2 != 0,hasWill:=Zv m 4 != 0,hasPassword:=Zv m 64 != 0,hasUser:=Zv m 128 != 0 }) (v:=.bool (Zv m 128 != 0)) (by simp [hP]) (fun _=>rfl) rfl rfl
 have h5:=h4.set (k:=18) (q':={ q with clean:=Zv m 2 != 0,hasWill:=Zv m 4 != 0,hasPassword:=Zv m 64 != 0,hasUser:=Zv m 128 != 0,will:={ q.will with qos:=Zv (Zea m) 3 } }) (v:=.int .i64 (Zv (Zea m) 3)) (by simp [hP]) (fun _=>rfl) rfl rfl
 exact h5.set (k:=19) (v:=.bool (Zv m 32 != 0)) (by simp [hP]) (fun _=>rfl) rfl rfl
theorem ZDv (k:Int) (ps:List Zm) (cl:Zb):Is (ZiX P k ps cl) (headD q k ps cl):=by
 unfold ZiX
 have h1:=h.set (k:=13) (q':={ q with keep:=k }) (v:=.int .i64 k) (by omega) (fun _=>rfl) rfl rfl
 have h2:=h1.set (k:=9) (q':={ q with keep:=k,props:=ps }) (v:=.lst false (ps.map Zj)) (by simp [hP]) (fun _=>rfl) rfl rfl
 exact h2.set (k:=14) (v:=.str cl) (by simp [hP]) (fun _=>rfl) rfl rfl
theorem ZPL (ps:List Zm) (tp d:Zb):Is (Zhy P ps tp d) { q with will:={ q.will with props:=ps,topic:=tp,data:=d } }:=by
 unfold Zhy
 have h1:=h.set (k:=20) (q':={ q with will:={ q.will with props:=ps } }) (v:=.lst false (ps.map Zj)) (by omega) (fun _=>rfl) rfl rfl
 have h2:=h1.set (k:=16) (q':={ q with will:={ q.will with props:=ps,topic:=tp } }) (v:=.str tp) (by simp [hP]) (fun _=>rfl) rfl rfl
 exact h2.set (k:=17) (v:=.lst false (d.map Zc)) (by simp [hP]) (fun _=>rfl) rfl rfl
end
def Zh1 (x:Except Int KSt) (y:Except Int (Zs×Zb)):Prop:=match x with
 | .error e=>y=.error e
 | .ok (P,l)=>∃ q,y=.ok (q,l)/\P.length=26/\Is P q
section
variable {P:List AVal} {q:Zs} (hP:P.length=26) (h:Is P q) (l:Zb)
include hP h
theorem ZAh (b:Bool):Zh1 (ZhR b (P,l)) (ZgF b q l):=by
 unfold ZhR ZgF
 cases b
 ·exact ⟨q,rfl,hP,h⟩
 ·rw [if_pos rfl,if_pos rfl]
  cases hd:ZcJ l with
  | error c=>exact rfl
  | ok a=>exact ⟨_,rfl,by simp [hP],h.set (by omega) (fun _=>rfl) rfl rfl⟩
theorem ZJv (b:Bool):Zh1 (Zib b (P,l)) (ZfH b q l):=by
 unfold Zib ZfH
 cases b
 ·exact ⟨q,rfl,hP,h⟩
 ·rw [if_pos rfl,if_pos rfl]
  cases hd:Zaq l with
  | error c=>exact rfl
  | ok a=>exact ⟨_,rfl,by simp [hP],h.set (by omega) (fun _=>rfl) rfl rfl⟩
theorem ZFi (b:Bool):Zh1 (Zi3 b (P,l)) (ZfZ b q l):=by
 unfold Zi3 ZfZ
 cases b
 ·exact ⟨q,rfl,hP,h⟩
 ·rw [if_pos rfl,if_pos rfl]
  cases hd:Zdw l with
  | error c=>exact rfl
  | ok a =>
   obtain ⟨ps,tp,d,r⟩:=a
   exact ⟨_,rfl,by simp [Zhy,hP],ZPL hP h ps tp d⟩
theorem ZF9 (m:Int):Zh1 (ZiM m (P,l)) (Zia m q l):=by
 unfold ZiM Zia
 have h1:=ZFi hP h l (Zv m 4 != 0)
 cases hw:Zi3 (Zv m 4 != 0) (P,l) with
 | error e =>
  rw [hw] at h1
  rw [show ZfZ (Zv m 4 != 0) q l=.error e from h1]
  exact rfl
 | ok s =>
  obtain ⟨P1,l1⟩:=s
  rw [hw] at h1
  obtain ⟨q1,e1,hP1,i1⟩:=h1
  rw [e1]
  simp only
  have h2:=ZJv hP1 i1 l1 (Zv m 128 != 0)
  cases hu:Zib (Zv m 128 != 0) (P1,l1) with
  | error e =>
   rw [hu] at h2
   rw [show ZfH (Zv m 128 != 0) q1 l1=.error e from h2]
   exact rfl
  | ok s =>
   obtain ⟨P2,l2⟩:=s
   rw [hu] at h2
   obtain ⟨q2,e2,hP2,i2⟩:=h2
   rw [e2]
   exact ZAh hP2 i2 l2 _
theorem ZKB (m:Int):Zh1 (Zjx P m l) (Zh9 q m l):=by
 unfold Zjx Zh9
 cases h1:ZaC 2 l with
 | error c=>exact rfl
 | ok a =>
 obtain ⟨k,r4⟩:=a
 simp only
 cases h2:Zbt 1 r4 with
 | error c=>exact rfl
 | ok a =>
 obtain ⟨ps,r5⟩:=a
 simp only
 cases h3:Zaq r5 with
 | error c=>exact rfl
 | ok a =>
 obtain ⟨cl,r6⟩:=a
 exact ZF9 (by simp [ZiX,ZbA,hP]) (ZDv (by simp [ZbA,hP]) (ZPp hP h m) k ps cl) r6 m
theorem ZBO:Zh1 (ZjA P l) (Ze9 q l):=by
 unfold ZjA Ze9
 cases h1:Zaq l with
 | error c=>exact rfl
 | ok a =>
 obtain ⟨s,r1⟩:=a
 simp only
 split
 case isFalse=>exact rfl
 cases h2:ZaC 1 r1 with
 | error c=>exact rfl
 | ok a =>
 obtain ⟨v,r2⟩:=a
 simp only
 split
 case isFalse=>exact rfl
 cases h3:ZaC 1 r2 with
 | error c=>exact rfl
 | ok a =>
 obtain ⟨m,r3⟩:=a
 simp only
 split
 case isFalse=>exact rfl
 exact ZKB hP h r3 m
end
def ZbZ (x:Except Int (Zs×Zb)):Except Int Zs:=match x with
 | .error e=>.error e
 | .ok (q,r)=>if r.length=0 then .ok q else .error 129
def Zee (q:Zs) (l:Zb):Except Int (Zs×Zb):=match Zcs q.type l with
 | .error e=>.error e
 | .ok ((c,ps),r)=>.ok ({ q with code:=c,props:=ps.getD [] },r)
def idQ (q:Zs) (l:Zb):Except Int (Zs×Zb):=match idK l with
 | .error e=>.error e
 | .ok (n,r)=>Zee { q with id:=n } r
def Zd2 (q:Zs) (l:Zb):Except Int (Zs×Zb):=match ZaC 1 l with
 | .error e=>.error e
 | .ok (f,r)=>if f < 2 then (match ZaB 2 r with
  | .error e=>.error e
  | .ok (c,r2)=>match Zbt 2 r2 with
   | .error e=>.error e
   | .ok (ps,r3)=>.ok ({ q with present:=f == 1,code:=c,props:=ps },r3)) else .error 129
def Zjn (q:Zs) (l:Zb):Except Int Zs:=match Zbw Zbp 8 l with
 | .error e=>.error e
 | .ok (n,ps,ts)=>.ok { q with id:=n,props:=ps,subs:=ts }
def Zjb (q:Zs) (l:Zb):Except Int Zs:=match Zbw Zaq 10 l with
 | .error e=>.error e
 | .ok (n,ps,ts)=>.ok { q with id:=n,props:=ps,filters:=ts }
def Zgw (q:Zs) (l:Zb):Except Int Zs:=match Zbw (ZaB q.type) q.type l with
 | .error e=>.error e
 | .ok (n,ps,ts)=>.ok { q with id:=n,props:=ps,codes:=ts }
def Zcl (t:Int) (l:Zb):Except Int Zs :=
 if t=1 then ZbZ (Ze9 { Zan with type:=1 } l)
 else if t=2 then ZbZ (Zd2 { Zan with type:=2 } l)
 else if t=4\/t=5\/t=6\/t=7 then ZbZ (idQ { Zan with type:=t } l)
 else if t=8 then Zjn { Zan with type:=8 } l
 else if t=10 then Zjb { Zan with type:=10 } l
 else if t=9\/t=11 then Zgw { Zan with type:=t } l
 else if t=14\/t=15 then ZbZ (Zee { Zan with type:=t } l)
 else ZbZ (.ok ({ Zan with type:=t },l))
def Zc9 (b:Int) (l:Zb):Zs×Int :=
 if tyI b=0 then (Zan,129) else if tyI b=3 then ZiC b l
 else if Zbf b 15=Zc3 (tyI b) then (match Zcl (tyI b) l with
  | .error e=>(Zan,e)
  | .ok q=>(q,0)) else (Zan,129)
def ZdN (t : Int) (l : Zb) (x : Except Int Zs) : Prop := match x with
  | .ok q => (∃ Q L, Q.length = 26 /\ Zd Q = true /\ ZK L = true /\ Is Q q /\ E 48 [.ref 0 0] (Zh (P0.set 0 (.int .i64 t)) l) = some (.tup [], [.var (Q ++ [L])])) \/
      (∃ Q q0 kk w ys, Q.length = 26 /\ Zd Q = true /\ kk < 26 /\ Is Q q0 /\ (Zt q0).set kk (.lst false ys) = Zt q /\ E 48 [.ref 0 0] (Zh (P0.set 0 (.int .i64 t)) l) = some (.tup [], Zcf Q kk ys.length [] w ys))
  | .error e => (∃ cs, Zd cs = true /\ E 48 [.ref 0 0] (Zh (P0.set 0 (.int .i64 t)) l) = some (.pan (Zx e), [.var cs])) \/
      (∃ Q kk n r w ys, Q.length = 26 /\ Zd Q = true /\ kk < 26 /\ E 48 [.ref 0 0] (Zh (P0.set 0 (.int .i64 t)) l) = some (.pan (Zx e), Zcf Q kk n r w ys))
theorem Zjz {t:Int} {l:Zb} {q:Zs} {Q:List AVal} {r:Zb} (hQ:Q.length=26) (hN:Zd Q=true) (hi:Is Q q) (h:E 48 [.ref 0 0] (Zh (P0.set 0 (.int .i64 t)) l)=some (if r.length=0 then .tup [] else .pan (Zx 129),Zh Q r)):ZdN t l (ZbZ (.ok (q,r))):=by
 unfold ZbZ
 simp only
 split at h
 ·rename_i h0
  rw [if_pos h0]
  exact Or.inl ⟨Q,_,hQ,hN,rfl,hi,h⟩
 ·rename_i h0
  rw [if_neg h0]
  exact Or.inl ⟨_,Zw Q hQ hN _ _,h⟩
theorem Zmu {t:Int} {l:Zb} {kk w:Nat} {e:Int} (hk:kk < 26) (h:ZjD kk w l (P0.set 0 (.int .i64 t)) e):ZdN t l (.error e):=by
 rcases h with ⟨cs,h1,h2⟩ | ⟨Q,n,r,ys,h1,h2,h3⟩
 ·exact Or.inl ⟨cs,h1,h2⟩
 ·exact Or.inr ⟨Q,kk,n,r,w,ys,h1,h2,hk,h3⟩
section
variable (l:Zb) (hl:l.length<=1099511627775)
include hl
theorem hlP:l.length<=140737488355328:=by omega
theorem ZxV:ZdN 1 l (ZbZ (Ze9 { Zan with type:=1 } l)):=by
 have hs:=ZBO (P:=P0.set 0 (.int .i64 1)) (q:={ Zan with type:=1 }) rfl ⟨fun σ=>rfl,rfl⟩ l
 have hr:=ZLo (P0.set 0 (.int .i64 1)) rfl (by rfl) l (hlP l hl) (fun r _=>ZdL 1 r) (fun r _=>ZdL 16 r)
 cases hc:ZjA (P0.set 0 (.int .i64 1)) l with
 | error e =>
  rw [hc] at hs hr
  rw [show Ze9 { Zan with type:=1 } l=.error e from hs]
  obtain ⟨cs,hn,he⟩:=KRuns.fnF (f:=67) (fn:=Zpe) (by rfl) ZuR hr
  exact Or.inl ⟨cs,hn,ZDO (P0.set 0 (.int .i64 1)) rfl (by rfl) rfl l (hlP l hl) hn he⟩
 | ok s =>
  obtain ⟨Q,r⟩:=s
  rw [hc] at hs hr
  obtain ⟨q,e1,hQ,hi⟩:=hs
  rw [e1]
  have hQN:Zd Q=true:=by obtain ⟨_,_,_,h3,_⟩:=hr;exact h3
  have he:=KRuns.fnT (f:=67) (fn:=Zpe) (by rfl) ZuR rfl hr
  refine Zjz hQ hQN hi ?_
  by_cases h0:r.length=0
  ·rw [if_pos h0];exact ZxS (P0.set 0 (.int .i64 1)) rfl (by rfl) rfl l (hlP l hl) he hQ hQN h0
  ·rw [if_neg h0];exact ZH4 (P0.set 0 (.int .i64 1)) rfl (by rfl) rfl l (hlP l hl) he hQ hQN h0
theorem ZC7:ZdN 2 l (ZbZ (Zd2 { Zan with type:=2 } l)):=by
 have hP:(P0.set 0 (.int .i64 2)).length=26:=rfl
 have hN:Zd (P0.set 0 (.int .i64 2))=true:=by rfl
 unfold Zd2
 cases h1:ZaC 1 l with
 | error e=>exact Or.inl (ZDa _ hP hN rfl l (hlP l hl) h1)
 | ok a =>
 obtain ⟨f,r⟩:=a
 simp only
 split
 case isFalse hf=>exact Or.inl (ZMf _ hP hN rfl l (hlP l hl) h1 hf)
 rename_i hf
 cases h2:ZaB 2 r with
 | error e=>exact Or.inl (ZNo _ hP hN rfl l (hlP l hl) h1 hf h2)
 | ok a =>
 obtain ⟨c,r2⟩:=a
 simp only
 cases h3:Zbt 2 r2 with
 | error e=>exact Or.inl (ZBa _ hP hN rfl l (hlP l hl) h1 hf h2 h3)
 | ok a =>
 obtain ⟨ps,r3⟩:=a
 exact Zjz (by simp [hP]) (ZQ (Zb2 _ _) _ (ZQ rfl _ (ZQ rfl _ hN))) ⟨fun σ=>rfl,rfl⟩ (Zyg _ hP hN rfl l (hlP l hl) h1 hf h2 h3 (ZdL 2 r2))
theorem ZrW {P:List AVal} {q:Zs} (hP:P.length=26) (h:Is P q) (c:Int) (ps:Option (List Zm)):Is (Zd3 P c ps) { q with code:=c,props:=ps.getD [] }:=by
 unfold Zd3
 have h1:=h.set (k:=7) (q':={ q with code:=c }) (v:=.int .i64 c) (by omega) (fun _=>rfl) rfl rfl
 cases ps with
 | none=>exact h1.set (k:=9) (v:=.lst true []) (by simp [hP]) (fun _=>rfl) rfl rfl
 | some ps=>exact h1.set (k:=9) (v:=.lst false (ps.map Zj)) (by simp [hP]) (fun _=>rfl) rfl rfl
theorem Zt4 (k:Int) (hk:k=14\/k=15):ZdN k l (ZbZ (Zee { Zan with type:=k } l)):=by
 have hP:(P0.set 0 (.int .i64 k)).length=26:=rfl
 have hN:Zd (P0.set 0 (.int .i64 k))=true:=by rfl
 unfold Zee
 simp only
 cases h1:Zcs k l with
 | error e=>exact Or.inl (ZKm _ hP hN k hk rfl (fun r _=>ZdL k r) l (hlP l hl) h1)
 | ok a =>
 obtain ⟨⟨c,ps⟩,r⟩:=a
 obtain ⟨i1,i2⟩:=ZjO hP hN c ps
 exact Zjz i1 i2 (ZrW l hl (q:={ Zan with type:=k }) hP ⟨fun σ=>rfl,rfl⟩ c ps) (ZH6 _ hP hN k hk rfl rfl rfl (fun r _=>ZdL k r) l (hlP l hl) h1)
theorem Zj5 (k:Int) (hk:k=4\/k=5\/k=6\/k=7):ZdN k l (ZbZ (idQ { Zan with type:=k } l)):=by
 have hP:(P0.set 0 (.int .i64 k)).length=26:=rfl
 have hN:Zd (P0.set 0 (.int .i64 k))=true:=by rfl
 unfold idQ Zee
 simp only
 cases h0:idK l with
 | error e=>exact Or.inl (ZIX _ hP hN k hk rfl l (hlP l hl) h0)
 | ok a =>
 obtain ⟨n,r1⟩:=a
 simp only
 cases h1:Zcs k r1 with
 | error e=>exact Or.inl (ZEc _ hP hN k hk rfl (fun r _=>ZdL k r) l (hlP l hl) h0 h1)
 | ok a =>
 obtain ⟨⟨c,ps⟩,r⟩:=a
 obtain ⟨i1,i2⟩:=ZjO (P:=(P0.set 0 (.int .i64 k)).set 4 (.int .i64 n)) rfl (by rfl) c ps
 exact Zjz i1 i2 (ZrW l hl (q:={ Zan with type:=k,id:=n }) rfl ⟨fun σ=>rfl,rfl⟩ c ps) (ZxP _ hP hN k hk rfl rfl rfl (fun r _=>ZdL k r) l (hlP l hl) h0 h1)
theorem ZuA (k:Int) (hk:k=12\/k=13):ZdN k l (ZbZ (.ok ({ Zan with type:=k },l))) :=
 Zjz (Q:=P0.set 0 (.int .i64 k)) rfl (by rfl) ⟨fun σ=>rfl,rfl⟩ (ZHV _ rfl (by rfl) k hk rfl l)
theorem ZdP (k:Int):QOk k (P0.set 0 (.int .i64 k)):=⟨rfl,by rfl,rfl,rfl,rfl,rfl⟩
theorem Zkb (k:Int) (n:Int) (ps:List Zm):Is (ZbY (P0.set 0 (.int .i64 k)) n ps) { Zan with type:=k,id:=n,props:=ps }:=⟨fun σ=>rfl,rfl⟩
theorem ZOv:ZdN 8 l (Zjn { Zan with type:=8 } l):=by
 unfold Zjn
 cases h:Zbw Zbp 8 l with
 | error e=>exact Zmu (by omega) (ZFL _ l hl (ZdP l hl 8) h)
 | ok a =>
 obtain ⟨n,ps,ts⟩:=a
 have hQ:=ZdH (ZdP l hl 8) n ps
 have:=ZBp _ l hl (ZdP l hl 8) h
 rw [<-List.length_map (f:=ZY)] at this
 exact Or.inr ⟨_,_,10,6,ts.map ZY,hQ.len,hQ.nor,by omega,Zkb l hl 8 n ps,rfl,this⟩
theorem ZBM:ZdN 10 l (Zjb { Zan with type:=10 } l):=by
 unfold Zjb
 cases h:Zbw Zaq 10 l with
 | error e=>exact Zmu (by omega) (ZJp _ l hl (ZdP l hl 10) h)
 | ok a =>
 obtain ⟨n,ps,ts⟩:=a
 have hQ:=ZdH (ZdP l hl 10) n ps
 have:=ZC5 _ l hl (ZdP l hl 10) h
 rw [<-List.length_map (f:=AVal.str)] at this
 exact Or.inr ⟨_,_,11,1,ts.map AVal.str,hQ.len,hQ.nor,by omega,Zkb l hl 10 n ps,rfl,this⟩
theorem ZyZ:ZdN 9 l (Zgw { Zan with type:=9 } l):=by
 unfold Zgw
 simp only
 cases h:Zbw (ZaB 9) 9 l with
 | error e=>exact Zmu (by omega) (ZGa _ l hl (ZdP l hl 9) h)
 | ok a =>
 obtain ⟨n,ps,ts⟩:=a
 have hQ:=ZdH (ZdP l hl 9) n ps
 have:=ZHb _ l hl (ZdP l hl 9) h
 rw [<-List.length_map (f:=AVal.int .i64)] at this
 exact Or.inr ⟨_,_,8,1,ts.map (AVal.int .i64),hQ.len,hQ.nor,by omega,Zkb l hl 9 n ps,rfl,this⟩
theorem ZE1:ZdN 11 l (Zgw { Zan with type:=11 } l):=by
 unfold Zgw
 simp only
 cases h:Zbw (ZaB 11) 11 l with
 | error e=>exact Zmu (by omega) (ZNT _ l hl (ZdP l hl 11) h)
 | ok a =>
 obtain ⟨n,ps,ts⟩:=a
 have hQ:=ZdH (ZdP l hl 11) n ps
 have:=ZPV _ l hl (ZdP l hl 11) h
 rw [<-List.length_map (f:=AVal.int .i64)] at this
 exact Or.inr ⟨_,_,8,1,ts.map (AVal.int .i64),hQ.len,hQ.nor,by omega,Zkb l hl 11 n ps,rfl,this⟩
theorem ZFt (t:Int) (h1:1<=t/\t<=15) (h3:t≠3):ZdN t l (Zcl t l):=by
 have : t=1\/t=2\/t=4\/t=5\/t=6\/t=7\/t=8\/t=9\/t=10\/t=11\/t=12\/t=13\/t=14\/t=15:=by omega
 unfold Zcl
 rcases this with rfl | rfl | rfl | rfl | rfl | rfl | rfl | rfl | rfl | rfl | rfl | rfl | rfl | rfl
 ·exact ZxV l hl
 ·exact ZC7 l hl
 ·exact Zj5 l hl 4 (by decide)
 ·exact Zj5 l hl 5 (by decide)
 ·exact Zj5 l hl 6 (by decide)
 ·exact Zj5 l hl 7 (by decide)
 ·exact ZOv l hl
 ·exact ZyZ l hl
 ·exact ZBM l hl
 ·exact ZE1 l hl
 ·exact ZuA l hl 12 (by decide)
 ·exact ZuA l hl 13 (by decide)
 ·exact Zt4 l hl 14 (by decide)
 ·exact Zt4 l hl 15 (by decide)
end
theorem ZNZ (b:Int) (hb:0<=b/\b < 256):0<=tyI b/\tyI b<=15:=by
 have h:∀ n:Nat,n < 256->0<=tyI (n:Int)/\tyI (n:Int)<=15:=by decide +kernel
 have:=h b.toNat (by omega)
 rwa [Int.toNat_of_nonneg hb.1] at this
theorem Zn6 {b c:Int} {l:Zb} {Q:List AVal} {q:Zs} (h:E1 29 [.agg [.int .u8 b,.lst false (l.map Zc)]] []=some (.tup [.agg Q,.int .i64 c],[])) (hv:∀ σ,Zar σ Q=some (Zt q,[])):Zad true 0 (E1 29 [.agg [.int .u8 b,.lst false (l.map Zc)]] [])=some (.tup [Zaj q,.int .i64 c],[]):=by
 rw [h];exact ZJt c hv
theorem ZFG (b:Int) (hb:0<=b/\b < 256) (l:Zb) (hl:l.length<=1099511627775):Zad true 0 (E1 29 [.agg [.int .u8 b,.lst false (l.map Zc)]] [])=some (.tup [Zaj (Zc9 b l).1,.int .i64 (Zc9 b l).2],[]):=by
 have hr:=ZNZ b hb
 have hF:∀ c,ZeM [.agg [.int .u8 b,.lst false (l.map Zc)]] []=some (.tup [.agg P0,.int .i64 c],[])->Zad true 0 (E1 29 [.agg [.int .u8 b,.lst false (l.map Zc)]] [])=some (.tup [Zaj Zan,.int .i64 c],[]):=fun c h =>
  Zn6 (by rw [ZgB];exact h) ZlM
 unfold Zc9
 by_cases h0:tyI b=0
 ·rw [if_pos h0]
  exact hF 129 (ZgX b 129 l (ZjU b l (Zw _ rfl (by rfl) _ _) (ZHL P0 rfl (by rfl) b l h0)))
 rw [if_neg h0]
 by_cases h3:tyI b=3
 ·rw [if_pos h3]
  obtain ⟨Q,h,hv⟩:=ZPS b h3 l (by omega)
  exact Zn6 h hv
 rw [if_neg h3]
 by_cases hf:Zbf b 15=Zc3 (tyI b)
 case neg =>
  rw [if_neg hf]
  exact hF 129 (ZgX b 129 l (ZjU b l (Zw _ rfl (by rfl) _ _) (ZG6 P0 rfl (by rfl) b (tyI b) l rfl h0 h3 hf)))
 rw [if_pos hf]
 have hfi:=ZBC P0 rfl (by rfl) b (tyI b) l rfl h0 h3 hf
 have hB:=ZFt l hl (tyI b) (by omega) h3
 generalize tyI b=t at *
 have p1:(P0.set 0 (.int .i64 t)).length=26:=rfl
 have p2:Zd (P0.set 0 (.int .i64 t))=true:=by rfl
 cases hx:Zcl t l with
 | error e =>
  rw [hx] at hB
  rcases hB with ⟨cs,hn,hb⟩ | ⟨Q,kk,n,r,w,ys,hQ,hN,hk,hb⟩
  ·exact hF e (ZgX b e l (ZuJ b l p1 p2 hn hfi hb))
  ·exact hF e (ZgX b e l (ZEp b l p1 p2 hQ hN hk hfi hb))
 | ok q =>
  rw [hx] at hB
  rcases hB with ⟨Q,L,hQ,hN,nL,hi,hb⟩ | ⟨Q,q0,kk,w,ys,hQ,hN,hk,hi,hc,hb⟩
  ·exact Zn6 (by rw [ZgB];exact Zsg b l p1 p2 hQ hN hi.ok nL hfi hb) hi.view
  ·refine ZxD (by rw [ZgB];exact Zw2 b l p1 p2 hQ hN hk (fun r g m=>Zn0 rfl hi.ok) hfi hb) (fun σ hs=>?_)
   have hv:ZI σ (.sl 0 0 0 ys.length)=some (.lst false ys,[0]):=by
    simp [ZI,ZU,hs]
   unfold Zi
   rw [Zq5 hv (hi.view σ) (by omega),hc]
theorem ZrM (b:Int) (hb:0<=b/\b < 256) (l:Zb) (hl:l.length<=1099511627775) (f:Bool) (σ:Za) (sq own:Nat) :
  Zk E1 BY σ sq 29 own true [.agg [.int .u8 b,.lst f (l.map Zc)]]=some (.tup [Zaj (Zc9 b l).1,.int .i64 (Zc9 b l).2],σ,{}):=by
 rw [Zfo (by kernel_rfl) rfl]
 show ZaI σ σ [] [] sq own (Zad true 0 (E1 29 [.agg [.int .u8 b,.lst false (l.map Zc)]] []))=_
 rw [ZFG b hb l hl,Zg2 _ _ _ _ (by simp only [Zl,Zf,ZbD,ZqT])]
end
section
def ZhW:Zb:=[77,81,84,84]
theorem Zjg (q:Int):0<=Zv q 3/\Zv q 3<=3:=by
 have h:∀ x:BitVec 64,(x &&& BitVec.ofInt 64 3).toNat<=3:=by
  intro x
  rw [BitVec.toNat_and]
  exact Nat.and_le_right
 have h2:=h (BitVec.ofInt 64 q)
 unfold Zv
 have h3:IntKind.i64.bits=64:=rfl
 rw [h3,Zb1 (by omega) (by omega)]
 omega
def Zq6 (p:Zs):Int:=Zab p.clean 2+Zab p.hasWill 4+Zv p.will.qos 3*8+Zab p.will.retain 32+Zab p.hasPassword 64+Zab p.hasUser 128
theorem Zd4 (b:Bool) (n:Int) (h:0<=n):0<=Zab b n/\Zab b n<=n:=by unfold Zab;split <;> omega
theorem ZcG (n:Int) (h0:0<=n) (h1:n < 9223372036854775808):IntKind.i64.wrap n=n:=by
 obtain ⟨m,rfl⟩:∃ m:Nat,n=m:=⟨n.toNat,by omega⟩
 exact Zb1 (by omega) (by omega)
def Zmh (p:Zs):Zb:=((((Z3 ZhW).1++beB (ZC 5) 1)++beB (ZC (Zq6 p)) 1)++beB (ZC p.keep) 2)++(Zap 1 p.props).1++(Z3 p.client).1
def ZjM (p:Zs):Zb:=if p.hasWill then ((Zmh p++(Zap 16 p.will.props).1)++(Z3 p.will.topic).1)++(Za2 p.will.data).1 else Zmh p
def Zmd (p:Zs):Zb:=if p.hasUser then ZjM p++(Z3 p.user).1 else ZjM p
def Zen (p:Zs):Zb:=if p.hasPassword then Zmd p++(Za2 p.password).1 else Zmd p
section
variable (p:Zs) (h:OkW p)
include h
theorem ZHP:E1 39 [.ref 0 0,Zaj p] [.var wn]=some (.tup [],wH 0 (Zen p)):=by
 have hq:=Zjg p.will.qos
 have m1:=Zd4 p.clean 2 (by omega)
 have m2:=Zd4 p.hasWill 4 (by omega)
 have m3:=Zd4 p.will.retain 32 (by omega)
 have m4:=Zd4 p.hasPassword 64 (by omega)
 have m5:=Zd4 p.hasUser 128 (by omega)
 have hm:=fun b n σ sq own=>Zjt b n σ sq own
 have w1:=ZcG (Zab p.clean 2+Zab p.hasWill 4) (by omega) (by omega)
 have w2:=ZcG (Zv p.will.qos 3*8) (by omega) (by omega)
 have w3:=ZcG (Zab p.clean 2+Zab p.hasWill 4+Zv p.will.qos 3*8) (by omega) (by omega)
 have w4:=ZcG (Zab p.clean 2+Zab p.hasWill 4+Zv p.will.qos 3*8+Zab p.will.retain 32) (by omega) (by omega)
 have w5:=ZcG (Zab p.clean 2+Zab p.hasWill 4+Zv p.will.qos 3*8+Zab p.will.retain 32+Zab p.hasPassword 64) (by omega) (by omega)
 have w6:=ZcG (Zab p.clean 2+Zab p.hasWill 4+Zv p.will.qos 3*8+Zab p.will.retain 32+Zab p.hasPassword 64+Zab p.hasUser 128) (by omega) (by omega)
 have lim:=Zey
 have t0:=ZcT ZhW
 have t1:=ZcT p.client
 have t2:=ZcT p.will.topic
 have t3:=ZcT p.user
 have d1:=ZiQ p.will.data
 have d2:=ZiQ p.password
 have y1:=Zdy 1 p.props
 have y2:=Zdy 16 p.will.props
 have f0:=fun {σ:Za} {t sq:Nat}=>ZvE ZhW (by decide) (σ:=σ) (t:=t) (sq:=sq)
 unfold Zen Zmd ZjM Zmh Zq6
 have n1:=ZaN 1 (ZC 5)
 generalize (Z3 ZhW).1=l0 at *
 have f1:=fun {σ:Za} {sq:Nat}=>ZfW l0 5 1 (by omega) (by omega) (m:=1) rfl (by omega) (σ:=σ) 0 2 0 (sq:=sq) (by omega)
 generalize beB (ZC 5) 1=D1 at *
 obtain ⟨l1,e1⟩:∃ l1,l0++D1=l1:=⟨_,rfl⟩
 have k1:l1.length=l0.length+D1.length:=by rw [<-e1,List.length_append]
 simp only [e1] at f1 ⊢
 have n2:=ZaN 1 (ZC (Zab p.clean 2+Zab p.hasWill 4+Zv p.will.qos 3*8+Zab p.will.retain 32+Zab p.hasPassword 64+Zab p.hasUser 128))
 have f2:=fun {σ:Za} {sq:Nat}=>ZfW l1 (Zab p.clean 2+Zab p.hasWill 4+Zv p.will.qos 3*8+Zab p.will.retain 32+Zab p.hasPassword 64+Zab p.hasUser 128) 1 (by omega) (by omega) (m:=1) rfl (by omega) (σ:=σ) 0 2 1 (sq:=sq) (by omega)
 generalize beB (ZC (Zab p.clean 2+Zab p.hasWill 4+Zv p.will.qos 3*8+Zab p.will.retain 32+Zab p.hasPassword 64+Zab p.hasUser 128)) 1=D2 at *
 obtain ⟨l2,e2⟩:∃ l2,l1++D2=l2:=⟨_,rfl⟩
 have k2:l2.length=l1.length+D2.length:=by rw [<-e2,List.length_append]
 simp only [e2] at f2 ⊢
 have n3:=ZaN 2 (ZC p.keep)
 have f3:=fun {σ:Za} {sq:Nat}=>ZfW l2 p.keep 2 (by omega) (by omega) (m:=2) rfl (by omega) (σ:=σ) 0 2 2 (sq:=sq) (by omega)
 generalize beB (ZC p.keep) 2=D3 at *
 obtain ⟨l3,e3⟩:∃ l3,l2++D3=l3:=⟨_,rfl⟩
 have k3:l3.length=l2.length+D3.length:=by rw [<-e3,List.length_append]
 simp only [e3] at f3 ⊢
 have f4:=fun {σ:Za} {sq:Nat}=>Zgz l3 1 p.props h.props.1 h.props.2 (by omega) (σ:=σ) 0 2 3 (sq:=sq) (by omega)
 generalize (Zap 1 p.props).1=D4 at *
 obtain ⟨l4,e4⟩:∃ l4,l3++D4=l4:=⟨_,rfl⟩
 have k4:l4.length=l3.length+D4.length:=by rw [<-e4,List.length_append]
 simp only [e4] at f4 ⊢
 have f5:=fun {σ:Za} {sq:Nat}=>Zim l4 p.client h.client (by omega) (σ:=σ) 0 2 4 (sq:=sq) (by omega)
 generalize (Z3 p.client).1=D5 at *
 obtain ⟨l5,e5⟩:∃ l5,l4++D5=l5:=⟨_,rfl⟩
 have k5:l5.length=l4.length+D5.length:=by rw [<-e5,List.length_append]
 simp only [e5] at f5 ⊢
 have f6:=fun {σ:Za} {sq:Nat}=>Zgz l5 16 p.will.props h.wprops.1 h.wprops.2 (by omega) (σ:=σ) 0 2 5 (sq:=sq) (by omega)
 generalize (Zap 16 p.will.props).1=D6 at *
 obtain ⟨l6,e6⟩:∃ l6,l5++D6=l6:=⟨_,rfl⟩
 have k6:l6.length=l5.length+D6.length:=by rw [<-e6,List.length_append]
 simp only [e6] at f6 ⊢
 have f7:=fun {σ:Za} {sq:Nat}=>Zim l6 p.will.topic h.wtopic (by omega) (σ:=σ) 0 2 6 (sq:=sq) (by omega)
 generalize (Z3 p.will.topic).1=D7 at *
 obtain ⟨l7,e7⟩:∃ l7,l6++D7=l7:=⟨_,rfl⟩
 have k7:l7.length=l6.length+D7.length:=by rw [<-e7,List.length_append]
 simp only [e7] at f7 ⊢
 have f8:=fun {σ:Za} {sq:Nat}=>ZuV l7 p.will.data h.wdata (by omega) (σ:=σ) 0 2 7 (sq:=sq) (by omega)
 generalize (Za2 p.will.data).1=D8 at *
 obtain ⟨l8,e8⟩:∃ l8,l7++D8=l8:=⟨_,rfl⟩
 have k8:l8.length=l7.length+D8.length:=by rw [<-e8,List.length_append]
 simp only [e8] at f8 ⊢
 have hO:=fun {j g:Nat} {l:Zb} {σ:Za}=>Zd7 (j:=j) (g:=g) (l:=l) (σ:=σ)
 rw [ZbD]
 have e0:=ZbR p
 have a9:(Zt p)[9]?=some (.lst false (p.props.map Zj)):=rfl
 have a12:(Zt p)[12]?=some (.bool p.clean):=rfl
 have a13:(Zt p)[13]?=some (.int .i64 p.keep):=rfl
 have a14:(Zt p)[14]?=some (.str p.client):=rfl
 have a15:(Zt p)[15]?=some (.bool p.hasWill):=rfl
 have a16:(Zt p)[16]?=some (.str p.will.topic):=rfl
 have a17:(Zt p)[17]?=some (.lst false (p.will.data.map Zc)):=rfl
 have a18:(Zt p)[18]?=some (.int .i64 p.will.qos):=rfl
 have a19:(Zt p)[19]?=some (.bool p.will.retain):=rfl
 have a20:(Zt p)[20]?=some (.lst false (p.will.props.map Zj)):=rfl
 have a21:(Zt p)[21]?=some (.bool p.hasUser):=rfl
 have a22:(Zt p)[22]?=some (.str p.user):=rfl
 have a23:(Zt p)[23]?=some (.bool p.hasPassword):=rfl
 have a24:(Zt p)[24]?=some (.lst false (p.password.map Zc)):=rfl
 have b5:=h.user
 have b6:=h.password
 clear h
 generalize Zt p=P at *
 generalize p.will.qos=wq at *
 generalize p.will.retain=wr at *
 generalize p.will.topic=wt at *
 generalize p.will.data=wd at *
 generalize p.will.props=wp at *
 generalize p.clean=cl at *
 generalize p.keep=kp at *
 generalize p.client=ci at *
 generalize p.props=ps at *
 generalize p.hasWill=hw at *
 generalize p.hasUser=hu at *
 generalize p.hasPassword=hp at *
 generalize p.user=us at *
 generalize p.password=pw at *
 unfold Zv ZhW at *
 rw [Zbv (by rfl) ZF7]
 have fu:=fun (l:Zb) (g:Nat) (hl:l.length<=1000000000) {σ:Za} {sq:Nat}=>Zim l us b5 (by omega) (σ:=σ) 0 2 g (sq:=sq) (by omega)
 have fp:=fun (l:Zb) (g:Nat) (hl:l.length<=1000000000) {σ:Za} {sq:Nat}=>ZuV l pw b6 (by omega) (σ:=σ) 0 2 g (sq:=sq) (by omega)
 generalize (Z3 us).1=Du at *
 generalize (Za2 pw).1=Dp at *
 cases hw <;> cases hu <;> cases hp
 ·simp only [Bool.false_eq_true,if_false]
  unfold wn at *
  simp -implicitDefEqProofs only [EQA,Zq,Nat.reduceAdd,Nat.reduceLT,Nat.reduceEqDiff,Nat.reduceBEq,reduceCtorEq,↓reduceIte,Zd,Zf0,ZeU,Zge,oI,AVal.cells,a9,a12,a13,a14,a15,a18,a19,a21,a23,hm,w1,w2,w3,w4,w5,w6,f0,f1,f2,f3,f4,f5,Zag,Zai,Zak,Zav,Zay,Zao,List.lookup_nil]
  exact hO (j:=2) (by decide) rfl rfl
 ·have g1:=fun {σ:Za} {sq:Nat}=>fp l5 5 (by omega) (σ:=σ) (sq:=sq)
  simp only [Bool.false_eq_true,if_false,if_true]
  unfold wn at *
  simp -implicitDefEqProofs only [EQA,Zq,Nat.reduceAdd,Nat.reduceLT,Nat.reduceEqDiff,Nat.reduceBEq,reduceCtorEq,↓reduceIte,Zd,Zf0,ZeU,Zge,oI,AVal.cells,a9,a12,a13,a14,a15,a18,a19,a21,a23,a24,hm,w1,w2,w3,w4,w5,w6,f0,f1,f2,f3,f4,f5,g1,Zag,Zai,Zak,Zav,Zay,Zao,List.lookup_nil]
  exact hO (j:=2) (by decide) rfl rfl
 ·have g1:=fun {σ:Za} {sq:Nat}=>fu l5 5 (by omega) (σ:=σ) (sq:=sq)
  simp only [Bool.false_eq_true,if_false,if_true]
  unfold wn at *
  simp -implicitDefEqProofs only [EQA,Zq,Nat.reduceAdd,Nat.reduceLT,Nat.reduceEqDiff,Nat.reduceBEq,reduceCtorEq,↓reduceIte,Zd,Zf0,ZeU,Zge,oI,AVal.cells,a9,a12,a13,a14,a15,a18,a19,a21,a22,a23,hm,w1,w2,w3,w4,w5,w6,f0,f1,f2,f3,f4,f5,g1,Zag,Zai,Zak,Zav,Zay,Zao,List.lookup_nil]
  exact hO (j:=2) (by decide) rfl rfl
 ·have g1:=fun {σ:Za} {sq:Nat}=>fu l5 5 (by omega) (σ:=σ) (sq:=sq)
  have g2:=fun {σ:Za} {sq:Nat}=>fp (l5++Du) 6 (by rw [List.length_append];omega) (σ:=σ) (sq:=sq)
  simp only [Bool.false_eq_true,if_false,if_true]
  unfold wn at *
  simp -implicitDefEqProofs only [EQA,Zq,Nat.reduceAdd,Nat.reduceLT,Nat.reduceEqDiff,Nat.reduceBEq,reduceCtorEq,↓reduceIte,Zd,Zf0,ZeU,Zge,oI,AVal.cells,a9,a12,a13,a14,a15,a18,a19,a21,a22,a23,a24,hm,w1,w2,w3,w4,w5,w6,f0,f1,f2,f3,f4,f5,g1,g2,Zag,Zai,Zak,Zav,Zay,Zao,List.lookup_nil]
  exact hO (j:=2) (by decide) rfl rfl
 ·simp only [Bool.false_eq_true,if_false,if_true]
  unfold wn at *
  simp -implicitDefEqProofs only [EQA,Zq,Nat.reduceAdd,Nat.reduceLT,Nat.reduceEqDiff,Nat.reduceBEq,reduceCtorEq,↓reduceIte,Zd,Zf0,ZeU,Zge,oI,AVal.cells,a9,a12,a13,a14,a15,a16,a17,a18,a19,a20,a21,a23,hm,w1,w2,w3,w4,w5,w6,f0,f1,f2,f3,f4,f5,f6,f7,f8,Zag,Zai,Zak,Zav,Zay,Zao,List.lookup_nil]
  exact hO (j:=2) (by decide) rfl rfl
 ·have g1:=fun {σ:Za} {sq:Nat}=>fp l8 8 (by omega) (σ:=σ) (sq:=sq)
  simp only [Bool.false_eq_true,if_false,if_true]
  unfold wn at *
  simp -implicitDefEqProofs only [EQA,Zq,Nat.reduceAdd,Nat.reduceLT,Nat.reduceEqDiff,Nat.reduceBEq,reduceCtorEq,↓reduceIte,Zd,Zf0,ZeU,Zge,oI,AVal.cells,a9,a12,a13,a14,a15,a16,a17,a18,a19,a20,a21,a23,a24,hm,w1,w2,w3,w4,w5,w6,f0,f1,f2,f3,f4,f5,f6,f7,f8,g1,Zag,Zai,Zak,Zav,Zay,Zao,List.lookup_nil]
  exact hO (j:=2) (by decide) rfl rfl
 ·have g1:=fun {σ:Za} {sq:Nat}=>fu l8 8 (by omega) (σ:=σ) (sq:=sq)
  simp only [Bool.false_eq_true,if_false,if_true]
  unfold wn at *
  simp -implicitDefEqProofs only [EQA,Zq,Nat.reduceAdd,Nat.reduceLT,Nat.reduceEqDiff,Nat.reduceBEq,reduceCtorEq,↓reduceIte,Zd,Zf0,ZeU,Zge,oI,AVal.cells,a9,a12,a13,a14,a15,a16,a17,a18,a19,a20,a21,a22,a23,hm,w1,w2,w3,w4,w5,w6,f0,f1,f2,f3,f4,f5,f6,f7,f8,g1,Zag,Zai,Zak,Zav,Zay,Zao,List.lookup_nil]
  exact hO (j:=2) (by decide) rfl rfl
 ·have g1:=fun {σ:Za} {sq:Nat}=>fu l8 8 (by omega) (σ:=σ) (sq:=sq)
  have g2:=fun {σ:Za} {sq:Nat}=>fp (l8++Du) 9 (by rw [List.length_append];omega) (σ:=σ) (sq:=sq)
  simp only [if_true]
  unfold wn at *
  simp -implicitDefEqProofs only [EQA,Zq,Nat.reduceAdd,Nat.reduceLT,Nat.reduceEqDiff,Nat.reduceBEq,reduceCtorEq,↓reduceIte,Zd,Zf0,ZeU,Zge,oI,AVal.cells,a9,a12,a13,a14,a15,a16,a17,a18,a19,a20,a21,a22,a23,a24,hm,w1,w2,w3,w4,w5,w6,f0,f1,f2,f3,f4,f5,f6,f7,f8,g1,g2,Zag,Zai,Zak,Zav,Zay,Zao,List.lookup_nil]
  exact hO (j:=2) (by decide) rfl rfl
theorem ZyC:(Zen p).length<=1000000000:=by
 have t0:=ZcT ZhW
 have t1:=ZcT p.client
 have t2:=ZcT p.will.topic
 have t3:=ZcT p.user
 have d1:=ZiQ p.will.data
 have d2:=ZiQ p.password
 have y1:=Zdy 1 p.props
 have y2:=Zdy 16 p.will.props
 have n1:=ZaN 1 (ZC 5)
 have n2:=ZaN 1 (ZC (Zq6 p))
 have n3:=ZaN 2 (ZC p.keep)
 unfold Zen Zmd ZjM Zmh
 cases p.hasWill <;> cases p.hasUser <;> cases p.hasPassword <;> simp only [Bool.false_eq_true,if_false,if_true,List.length_append] <;> omega
theorem ZG5 {σ:Za} {t sq:Nat} (hf:σ[sq]?=some .free) (hs0:σ[t]?=some (.var wn)) :
  Zk E1 BY σ sq 39 1 true [.ref t 0,.agg (Zt p)]=some (.tup [],(σ.set t (.var (wv sq 0 (Zen p).length))).set sq (.row 0 1 ((Zen p).map Zc)),{ any:=true,upd:=[(t,wv sq 0 (Zen p).length)] }) :=
 Zgr (args:=[.agg (Zt p)]) rfl rfl (ZHP p h) (by kernel_rfl) (by rw [List.all_cons,ZdX];rfl) (by rw [List.map_cons,Zd6];rfl) hf hs0
end
end
section
def Zmq (p:Zs):Zb:=if p.qos > 0 then (Z3 p.topic).1++beB (ZC p.id) 2 else (Z3 p.topic).1
def ZkY (p:Zs):Zb:=(Zmq p++(Zap 3 p.props).1)++p.payload
def ZhI (p:Zs):Zb:=(beB (ZC (Zab p.present 1)) 1++beB (ZC p.code) 1)++(Zap 2 p.props).1
def Zga (s:Zbx):Int:=Zv s.qos 3+Zab s.noLocal 4+Zab s.asPublished 8+Zv s.handling 3*16
def Zos (s:Zbx):Zb:=(Z3 s.filter).1++beB (ZC (Zga s)) 1
def Zd1 (l:List Zbx):Zb:=(l.map Zos).flatten
def Zei (l:List Zb):Zb:=(l.map fun f=>(Z3 f).1).flatten
def Zek (l:List Int):Zb:=(l.map fun c=>beB (ZC c) 1).flatten
theorem ZFM (p:Zs) (h:OkW p) (hk:p.type=3):E1 25 [.ref 0 0,Zaj p] [.var wn]=some (.tup [],wH 0 (ZkY p)):=by
 have lim:=Zey
 have t1:=ZcT p.topic
 have y1:=Zdy 3 p.props
 have n1:=ZaN 2 (ZC p.id)
 have f0:=fun {σ:Za} {t sq:Nat}=>ZvE p.topic h.topic (σ:=σ) (t:=t) (sq:=sq)
 have pl:=h.payload
 unfold ZkY Zmq
 generalize (Z3 p.topic).1=l0 at *
 have f1:=fun {σ:Za} {sq:Nat}=>ZfW l0 p.id 2 (by omega) (by omega) (m:=2) rfl (by omega) (σ:=σ) 0 2 0 (sq:=sq) (by omega)
 generalize beB (ZC p.id) 2=D1 at *
 have f2:=fun (l:Zb) (g:Nat) (hl:l.length<=1000000000) {σ:Za} {sq:Nat}=>Zgz l 3 p.props h.props.1 h.props.2 (by omega) (σ:=σ) 0 2 g (sq:=sq) (by omega)
 generalize (Zap 3 p.props).1=D2 at *
 have f3:=fun (l:Zb) (g:Nat) (hl:l.length<=2000000000) {σ:Za} {sq:Nat}=>Ziy l p.payload (by omega) (σ:=σ) 0 2 g (sq:=sq) (by omega)
 have hO:=fun {j g:Nat} {l:Zb} {σ:Za}=>Zd7 (j:=j) (g:=g) (l:=l) (σ:=σ)
 rw [ZbD]
 have e0:=ZbR p
 have a0:(Zt p)[0]?=some (.int .i64 p.type):=rfl
 have a2:(Zt p)[2]?=some (.int .i64 p.qos):=rfl
 have a4:(Zt p)[4]?=some (.int .i64 p.id):=rfl
 have a5:(Zt p)[5]?=some (.str p.topic):=rfl
 have a6:(Zt p)[6]?=some (.lst false (p.payload.map Zc)):=rfl
 have a9:(Zt p)[9]?=some (.lst false (p.props.map Zj)):=rfl
 rw [hk] at a0
 clear h hk
 generalize Zt p=P at *
 generalize p.qos=q at *
 generalize p.id=c at *
 generalize p.topic=tp at *
 generalize p.payload=pa at *
 generalize p.props=ps at *
 rw [Zbv (by rfl) ZeN]
 by_cases hq:q > 0
 ·rw [if_pos hq]
  have k1:(l0++D1).length=l0.length+D1.length:=List.length_append
  have k2:(l0++D1++D2).length=l0.length+D1.length+D2.length:=by rw [List.length_append,k1]
  have g2:=fun {σ:Za} {sq:Nat}=>f2 (l0++D1) 1 (by omega) (σ:=σ) (sq:=sq)
  have g3:=fun {σ:Za} {sq:Nat}=>f3 (l0++D1++D2) 2 (by omega) (σ:=σ) (sq:=sq)
  clear k1 k2 f2 f3
  unfold wn wT at *
  simp -implicitDefEqProofs only [EQA,Zq,Nat.reduceAdd,Nat.reduceLT,Nat.reduceEqDiff,Nat.reduceBEq,reduceCtorEq,↓reduceIte,Zd,Zeb,Zdx,Zd9,oI,AVal.cells,a0,a2,a4,a5,a6,a9,Int.reduceBEq,hq,f0,f1,g2,g3,Zag,Zai,Zak,Zav,Zay,Zao]
  exact hO (j:=2) (by decide) rfl rfl
 ·rw [if_neg hq]
  have k2:(l0++D2).length=l0.length+D2.length:=List.length_append
  have g2:=fun {σ:Za} {sq:Nat}=>f2 l0 0 (by omega) (σ:=σ) (sq:=sq)
  have g3:=fun {σ:Za} {sq:Nat}=>f3 (l0++D2) 1 (by omega) (σ:=σ) (sq:=sq)
  clear k2 f2 f3
  unfold wn wT at *
  simp -implicitDefEqProofs only [EQA,Zq,Nat.reduceAdd,Nat.reduceLT,Nat.reduceEqDiff,Nat.reduceBEq,reduceCtorEq,↓reduceIte,Zd,Zeb,Zdx,Zd9,oI,AVal.cells,a0,a2,a5,a6,a9,Int.reduceBEq,hq,f0,g2,g3,Zag,Zai,Zak,Zav,Zay,Zao]
  exact hO (j:=2) (by decide) rfl rfl
theorem ZwU (p:Zs) (h:OkW p) (hk:p.type=1):E1 25 [.ref 0 0,Zaj p] [.var wn]=some (.tup [],wH 0 (Zen p)):=by
 have f0:=fun {σ:Za} {t sq:Nat}=>ZG5 p h (σ:=σ) (t:=t) (sq:=sq)
 have hO:=fun {j g:Nat} {l:Zb} {σ:Za}=>Zd7 (j:=j) (g:=g) (l:=l) (σ:=σ)
 rw [ZbD]
 generalize Zen p=B at *
 have e0:=ZbR p
 have e1:=Zcn p
 have a0:(Zt p)[0]?=some (.int .i64 p.type):=rfl
 rw [hk] at a0
 generalize Zt p=P at *
 rw [Zbv (by rfl) ZeN]
 unfold wn at *
 simp -implicitDefEqProofs only [EQA,Zq,Nat.reduceAdd,Nat.reduceLT,Nat.reduceLeDiff,Nat.reduceEqDiff,Nat.reduceBEq,reduceCtorEq,↓reduceIte,Zd,Zeb,Zdx,Zd9,oI,AVal.cells,a0,e0,e1,f0]
 exact hO (j:=2) (by decide) rfl rfl
theorem ZA9 (p:Zs) (h:OkW p) (hk:p.type=2):E1 25 [.ref 0 0,Zaj p] [.var wn]=some (.tup [],wH 0 (ZhI p)):=by
 have lim:=Zey
 have y1:=Zdy 2 p.props
 have n1:=ZaN 1 (ZC p.code)
 have n0:=ZaN 1 (ZC (Zab p.present 1))
 have hm:=fun b n σ sq own=>Zjt b n σ sq own
 have f0:=fun {σ:Za} {t sq:Nat}=>ZkW (Zab p.present 1) 1 (by omega) (by omega) (m:=1) rfl (σ:=σ) (t:=t) (sq:=sq)
 unfold ZhI
 generalize beB (ZC (Zab p.present 1)) 1=l0 at *
 have f1:=fun {σ:Za} {sq:Nat}=>ZfW l0 p.code 1 (by omega) (by omega) (m:=1) rfl (by omega) (σ:=σ) 0 2 0 (sq:=sq) (by omega)
 generalize beB (ZC p.code) 1=D1 at *
 have k1:(l0++D1).length=l0.length+D1.length:=List.length_append
 have f2:=fun {σ:Za} {sq:Nat}=>Zgz (l0++D1) 2 p.props h.props.1 h.props.2 (by omega) (σ:=σ) 0 2 1 (sq:=sq) (by omega)
 generalize (Zap 2 p.props).1=D2 at *
 have hO:=fun {j g:Nat} {l:Zb} {σ:Za}=>Zd7 (j:=j) (g:=g) (l:=l) (σ:=σ)
 rw [ZbD]
 have e0:=ZbR p
 have a0:(Zt p)[0]?=some (.int .i64 p.type):=rfl
 have a7:(Zt p)[7]?=some (.int .i64 p.code):=rfl
 have a9:(Zt p)[9]?=some (.lst false (p.props.map Zj)):=rfl
 have a25:(Zt p)[25]?=some (.bool p.present):=rfl
 rw [hk] at a0
 clear h hk k1
 generalize Zt p=P at *
 generalize p.code=c at *
 generalize p.present=b at *
 generalize p.props=ps at *
 rw [Zbv (by rfl) ZeN]
 unfold wn at *
 simp -implicitDefEqProofs only [EQA,Zq,Nat.reduceAdd,Nat.reduceLT,Nat.reduceEqDiff,Nat.reduceBEq,reduceCtorEq,↓reduceIte,Zd,Zeb,Zdx,Zd9,oI,AVal.cells,a0,a7,a9,a25,Int.reduceBEq,hm,f0,f1,f2]
 exact hO (j:=2) (by decide) rfl rfl
theorem ZI8 (p:Zs) (h:OkW p) (hk:p.type=4\/p.type=5\/p.type=6\/p.type=7):E1 25 [.ref 0 0,Zaj p] [.var wn]=some (.tup [],wH 0 (beB (ZC p.id) 2++ZbL p)):=by
 have n0:=ZaN 2 (ZC p.id)
 have f0:=fun {σ:Za} {t sq:Nat}=>ZkW p.id 2 (by omega) (by omega) (m:=2) rfl (σ:=σ) (t:=t) (sq:=sq)
 generalize beB (ZC p.id) 2=l0 at *
 have f1:=fun {σ:Za} {sq:Nat}=>Zy6 p h l0 (by omega) (σ:=σ) 0 2 0 (sq:=sq) (by omega)
 have hO:=fun {j g:Nat} {l:Zb} {σ:Za}=>Zd7 (j:=j) (g:=g) (l:=l) (σ:=σ)
 rw [ZbD]
 generalize ZbL p=B at *
 generalize ZfG p=g0 at *
 have e0:=ZbR p
 have e1:=Zcn p
 have a0:(Zt p)[0]?=some (.int .i64 p.type):=rfl
 have a4:(Zt p)[4]?=some (.int .i64 p.id):=rfl
 clear h
 generalize Zt p=P at *
 generalize p.id=c at *
 generalize p.type=ty at *
 rw [Zbv (by rfl) ZeN]
 unfold wn at *
 rcases hk with rfl | rfl | rfl | rfl
 all_goals
  simp -implicitDefEqProofs only [EQA,Zq,Nat.reduceAdd,Nat.reduceLT,Nat.reduceLeDiff,Nat.reduceEqDiff,Nat.reduceBEq,reduceCtorEq,↓reduceIte,Zd,Zeb,Zdx,Zd9,oI,AVal.cells,a0,a4,e0,e1,Int.reduceBEq,f0,f1]
  exact hO (j:=2) (by decide) rfl rfl
theorem ZPn (p:Zs) (h:OkW p) (hb:Zc4 p=none) {σ:Za} {t sq:Nat} (hf:σ[sq]?=some .free) (hs0:σ[t]?=some (.var wn)) :
  Zk E1 BY σ sq 44 1 true [.ref t 0,.agg (Zt p)]=some (.tup [],σ,{ any:=true,upd:=[(t,wn)] }):=by
 have:=Zvf p h
 rw [hb] at this
 exact Zs1 (args:=[.agg (Zt p)]) this (by kernel_rfl) (by rw [List.all_cons,ZdX];rfl) (by rw [List.map_cons,Zd6];rfl) (ff1 hf) hs0
theorem ZMF (p:Zs) (h:OkW p) (hb:Zc4 p≠none) {σ:Za} {t sq:Nat} (hf:σ[sq]?=some .free) (hs0:σ[t]?=some (.var wn)) :
  Zk E1 BY σ sq 44 1 true [.ref t 0,.agg (Zt p)]=some (.tup [],(σ.set t (.var (wv sq 0 (ZbL p).length))).set sq (.row 0 1 ((ZbL p).map Zc)),{ any:=true,upd:=[(t,wv sq 0 (ZbL p).length)] }):=by
 have:=Zvf p h
 unfold Zc4 at this hb
 by_cases hc:p.code≠0\/p.props≠[]
 ·rw [if_pos hc] at this
  exact Zgr (args:=[.agg (Zt p)]) rfl rfl this (by kernel_rfl) (by rw [List.all_cons,ZdX];rfl) (by rw [List.map_cons,Zd6];rfl) hf hs0
 ·rw [if_neg hc] at hb;exact absurd rfl hb
theorem ZCB (p:Zs) (h:OkW p) (hk:p.type=14\/p.type=15):E1 25 [.ref 0 0,Zaj p] [.var wn]=some (.tup [],wO (Zc4 p)):=by
 have hO:=fun {j g:Nat} {l:Zb} {σ:Za}=>Zd7 (j:=j) (g:=g) (l:=l) (σ:=σ)
 have e0:=ZbR p
 have e1:=Zcn p
 have a0:(Zt p)[0]?=some (.int .i64 p.type):=rfl
 by_cases hb:Zc4 p=none
 ·have f1:=fun {σ:Za} {t sq:Nat}=>ZPn p h hb (σ:=σ) (t:=t) (sq:=sq)
  rw [hb,ZbD]
  clear h hb
  generalize Zt p=P at *
  generalize p.type=ty at *
  rw [Zbv (by rfl) ZeN]
  unfold wO wn at *
  rcases hk with rfl | rfl
  all_goals
   simp -implicitDefEqProofs only [EQA,Zq,Z4,Nat.reduceAdd,Nat.reduceLT,Nat.reduceLeDiff,Nat.reduceEqDiff,Nat.reduceBEq,reduceCtorEq,↓reduceIte,Zd,Zeb,Zdx,Zd9,oI,AVal.cells,a0,e0,e1,Int.reduceBEq,f1]
 ·have f1:=fun {σ:Za} {t sq:Nat}=>ZMF p h hb (σ:=σ) (t:=t) (sq:=sq)
  have hr:Zc4 p=some (ZbL p):=by unfold Zc4 at hb ⊢;split at hb <;> simp_all
  rw [hr,ZbD]
  clear h hb hr
  generalize ZbL p=B at *
  generalize Zt p=P at *
  generalize p.type=ty at *
  rw [Zbv (by rfl) ZeN]
  unfold wO wn at *
  rcases hk with rfl | rfl
  all_goals
   simp -implicitDefEqProofs only [EQA,Zq,Nat.reduceAdd,Nat.reduceLT,Nat.reduceLeDiff,Nat.reduceEqDiff,Nat.reduceBEq,reduceCtorEq,↓reduceIte,Zd,Zeb,Zdx,Zd9,oI,AVal.cells,a0,e0,e1,Int.reduceBEq,f1]
   exact hO (j:=2) (by decide) rfl rfl
theorem ZF2 (p:Zs) (hk:p.type < 1\/p.type=12\/p.type=13\/15 < p.type):E1 25 [.ref 0 0,Zaj p] [.var wn]=some (.tup [],[.var wn]):=by
 have e0:=ZbR p
 have a0:(Zt p)[0]?=some (.int .i64 p.type):=rfl
 have b:∀ n:Int,n=1\/n=2\/n=3\/n=4\/n=5\/n=6\/n=7\/n=8\/n=9\/n=10\/n=11\/n=14\/n=15->(p.type == n)=false:=by
  intro n hn
  have : p.type≠n:=by omega
  simpa using this
 have b1:=b 1 (by simp)
 have b2:=b 2 (by simp)
 have b3:=b 3 (by simp)
 have b4:=b 4 (by simp)
 have b5:=b 5 (by simp)
 have b6:=b 6 (by simp)
 have b7:=b 7 (by simp)
 have b8:=b 8 (by simp)
 have b9:=b 9 (by simp)
 have b10:=b 10 (by simp)
 have b11:=b 11 (by simp)
 have b14:=b 14 (by simp)
 have b15:=b 15 (by simp)
 rw [ZbD]
 generalize Zt p=P at *
 generalize p.type=ty at *
 rw [Zbv (by rfl) ZeN]
 unfold wn at *
 simp -implicitDefEqProofs only [EQA,Zq,Z4,Nat.reduceAdd,Nat.reduceLT,Nat.reduceEqDiff,Nat.reduceBEq,reduceCtorEq,↓reduceIte,Zd,Zeb,Zdx,Zd9,oI,AVal.cells,a0,b1,b2,b3,b4,b5,b6,b7,b8,b9,b10,b11,b14,b15]
end
section
theorem xw1 (c d:Ze) (h:c=d) (m:Nat) (tm:Tms) (σ:Za):evC FC PR1 BY m c tm σ=evC FC PR1 BY m d tm σ:=by rw [h]
def Zv8:=xw1 Zo1 Zki rfl
def ZuZ:=xw1 ZpJ ZkX rfl
def Zt7:=xw1 Znb ZkL rfl
noncomputable def Zj8 (m:Nat) (tm:Tms) (σ:Za):Option (AVal×Za):=(Zat m ZhB (Option.map (ZaX 0) (Option.map (ZaX 1) (evL FC PR1 BY m [75,74,73,0] Zo1 tm σ))))
noncomputable def ZlD (m:Nat) (tm:Tms) (σ:Za):Option (AVal×Za):=(Zat m ZhB (Option.map (ZaX 0) (Option.map (ZaX 3) (evL FC PR1 BY m [110,109,108,0] ZpJ tm σ))))
noncomputable def Zkz (m:Nat) (tm:Tms) (σ:Za):Option (AVal×Za):=(Zat m ZhB (Option.map (ZaX 0) (Option.map (ZaX 5) (evL FC PR1 BY m [127,126,125,0] Znb tm σ))))
theorem ZhL {a b c d:Nat} {x y z:AVal} (hx:ZK x=true) (hy:ZK y=true) (hz:ZK z=true) (r g:Nat) (hr:r≠0) (l:Zb) (σ:Za) (h0:σ[0]?=some (.var (wv r g l.length))) (h1:σ[r]?=some (.row g 1 (l.map Zc))) :
  gcT 1 [(a,x),(b,y),(c,z),(d,.ref 0 0)] σ=([(a,x),(b,y),(c,z),(d,.ref 0 0)],[.var (wv 1 0 l.length),.row 0 1 (l.map Zc)]):=by
 have d0:σ.getD 0 .free=.var (wv r g l.length):=by simp [List.getD_eq_getElem?_getD,h0]
 have d1:σ.getD r .free=.row g 1 (l.map Zc):=by simp [List.getD_eq_getElem?_getD,h1]
 have ej:([0]:List Nat).contains r=false:=by simp;omega
 have hrf:Zr (wv r g l.length)=[r]:=rfl
 have e1:=fun ρ=>Za8 ρ x hx
 have e2:=fun ρ=>Za8 ρ y hy
 have e3:=fun ρ=>Za8 ρ z hz
 have hv:Zr [x,y,z,.ref 0 0]=[0]:=by
  simp only [Zr,(e1 (fun _ _=>none)).2,(e2 (fun _ _=>none)).2,(e3 (fun _ _=>none)).2];rfl
 have hi:ZA 1 [x,y,z,.ref 0 0] σ=[0,r]:=by
  have hR:List.range 1=[0]:=rfl
  have e0:([]:List Nat).contains r=false:=rfl
  simp only [ZA,hv,hR,List.flatMap_cons,List.flatMap_nil,List.append_nil,d0,ZP,hrf]
  rw [show (1000:Nat)=996+1+1+1+1 from rfl]
  simp only [List.cons_append,List.nil_append,Zy,ej,d1,ZP,List.append_nil,Bool.false_eq_true,if_false]
  have ej0:([0]:List Nat).contains 0=true:=rfl
  have ejr:([0,r]:List Nat).contains r=true:=by simp
  simp []
 have hρ:Zn σ 1 [0,r] r g=some (1,0):=by
  have : ¬(0:Nat)=r:=fun e=>hr e.symm
  simp [Zn,Z0,Zp,ZT,h1,this]
 have hρ0:Zn σ 1 [0,r] 0 0=some (0,0):=by
  simp [Zn,Z0,Zp,ZT,h0]
 have hren:Zf (Zn σ 1 [0,r]) (wv r g l.length)=wv 1 0 l.length:=by simp only [wv,Zf,Zl,hρ]
 simp only [gcT,gcA,hi,List.map_cons,List.map_nil,Zu,d0,d1,ZT,Zp,ZH,hren,Zf,(e1 _).1,(e2 _).1,(e3 _).1,Zl,hρ0]
 simp
theorem ZMI (r:List Zb):(Zei r).length<=r.length*65537:=by
 induction r with
 | nil=>simp [Zei]
 | cons x r ih =>
  have:=ZcT x
  simp only [Zei,List.map_cons,List.flatten_cons,List.length_append,List.length_cons] at ih ⊢
  omega
theorem ZMl (r:List Int):(Zek r).length<=r.length:=by
 induction r with
 | nil=>simp [Zek]
 | cons x r ih =>
  have:=ZaN 1 (ZC x)
  simp only [Zek,List.map_cons,List.flatten_cons,List.length_append,List.length_cons] at ih ⊢
  omega
theorem ZEl (r:List Zbx):(Zd1 r).length<=r.length*65538:=by
 induction r with
 | nil=>simp [Zd1]
 | cons x r ih =>
  have:=ZcT x.filter
  have:=ZaN 1 (ZC (Zga x))
  simp only [Zd1,List.map_cons,List.flatten_cons,List.length_append,List.length_cons,Zos] at ih ⊢
  omega
theorem ZrD (fs:List Zb) (hn:fs.length<=1048576) (hx:∀ f ∈ fs,f.length<=9223372036854775807):∀ (r:List Zb) (i:Nat) (l:Zb),fs.drop i=r->l.length+r.length*65537<=1000000000000 ->
  ZlD 1 [(110,.int .i64 i),(109,.int .i64 fs.length),(108,.lst false (fs.map AVal.str)),(0,.ref 0 0)] [.var (wv 1 0 l.length),.row 0 1 (l.map Zc)]=some (.tup [],wH 0 (l++Zei r))
 | [],i,l,h,hl=>by
  have h1:=Zc2 h
  have hO:=fun {j g:Nat} {l:Zb} {σ:Za}=>Zd7 (j:=j) (g:=g) (l:=l) (σ:=σ)
  have e:l++Zei []=l:=by simp [Zei]
  rw [e]
  unfold ZlD
  rw [Zaa]
  simp -implicitDefEqProofs only [EQA,Zq,Nat.reduceAdd,Nat.reduceLT,Nat.reduceEqDiff,reduceCtorEq,↓reduceIte,Zd,Zd9,ZkX,oI,ZuZ,h1]
  exact hO (j:=1) (by decide) rfl rfl
 | x::r,i,l,h,hl=>by
  have hx0:x.length<=9223372036854775807:=hx x (List.mem_of_getElem? (Z9 h).1)
  have t1:=ZcT x
  have lim:=Zey
  simp only [List.length_cons] at hl
  have ih:=ZrD fs hn hx r (i+1) (l++(Z3 x).1) (Z9 h).2.1 (by rw [List.length_append];omega)
  have h1:(i:Int) < fs.length:=by have:=(Z9 h).2.2;omega
  have e1:=iad (Z9 h).1 AVal.str (k:=1) rfl
  have e3:=Zdc h1 (by omega)
  have f1:=fun {σ:Za} {sq:Nat}=>Zim l x hx0 (by omega) (σ:=σ) 0 1 0 (sq:=sq) (by omega)
  have e:l++Zei (x::r)=l++(Z3 x).1++Zei r:=by simp [Zei]
  rw [e]
  generalize (Z3 x).1=D at *
  have hG:=fun {a b c d:Nat} {i n:Int} {σ:Za} h0 h1=>ZhL (a:=a) (b:=b) (c:=c) (d:=d) (x:=.int .i64 i) (y:=.int .i64 n) (z:=.lst false (fs.map AVal.str)) rfl rfl rfl 1 1 (by omega) (l++D) σ h0 h1
  unfold ZlD at ih ⊢
  rw [Zaa]
  simp -implicitDefEqProofs only [EQA,Z4,Nat.reduceAdd,Nat.reduceLT,Nat.reduceEqDiff,Nat.reduceBEq,reduceCtorEq,↓reduceIte,ZkX,oI,ZuZ,AVal.cells,h1,e1,e3,f1,hG]
  exact ih
theorem Zv4 (fs:List Int) (hn:fs.length<=1048576):∀ (r:List Int) (i:Nat) (l:Zb),fs.drop i=r->l.length+r.length<=1000000000000 ->
  Zkz 1 [(127,.int .i64 i),(126,.int .i64 fs.length),(125,.lst false (fs.map (AVal.int .i64))),(0,.ref 0 0)] [.var (wv 1 0 l.length),.row 0 1 (l.map Zc)]=some (.tup [],wH 0 (l++Zek r))
 | [],i,l,h,hl=>by
  have h1:=Zc2 h
  have hO:=fun {j g:Nat} {l:Zb} {σ:Za}=>Zd7 (j:=j) (g:=g) (l:=l) (σ:=σ)
  have e:l++Zek []=l:=by simp [Zek]
  rw [e]
  unfold Zkz
  rw [Zaa]
  simp -implicitDefEqProofs only [EQA,Zq,Nat.reduceAdd,Nat.reduceLT,Nat.reduceEqDiff,reduceCtorEq,↓reduceIte,Zd,Zd9,ZkL,oI,Zt7,h1]
  exact hO (j:=1) (by decide) rfl rfl
 | x::r,i,l,h,hl=>by
  have t1:=ZaN 1 (ZC x)
  have lim:=Zey
  simp only [List.length_cons] at hl
  have ih:=Zv4 fs hn r (i+1) (l++beB (ZC x) 1) (Z9 h).2.1 (by rw [List.length_append];omega)
  have h1:(i:Int) < fs.length:=by have:=(Z9 h).2.2;omega
  have e1:=iad (Z9 h).1 (AVal.int .i64) (k:=1) rfl
  have e3:=Zdc h1 (by omega)
  have f1:=fun {σ:Za} {sq:Nat}=>ZfW l x 1 (by omega) (by omega) (m:=1) rfl (by omega) (σ:=σ) 0 1 0 (sq:=sq) (by omega)
  have e:l++Zek (x::r)=l++beB (ZC x) 1++Zek r:=by simp [Zek]
  rw [e]
  generalize beB (ZC x) 1=D at *
  have hG:=fun {a b c d:Nat} {i n:Int} {σ:Za} h0 h1=>ZhL (a:=a) (b:=b) (c:=c) (d:=d) (x:=.int .i64 i) (y:=.int .i64 n) (z:=.lst false (fs.map (AVal.int .i64))) rfl rfl rfl 1 1 (by omega) (l++D) σ h0 h1
  unfold Zkz at ih ⊢
  rw [Zaa]
  simp -implicitDefEqProofs only [EQA,Z4,Nat.reduceAdd,Nat.reduceLT,Nat.reduceEqDiff,Nat.reduceBEq,reduceCtorEq,↓reduceIte,ZkL,oI,Zt7,AVal.cells,h1,e1,e3,f1,hG]
  exact ih
theorem Zvr (fs:List Zbx) (hn:fs.length<=1048576) (hx:∀ f ∈ fs,f.filter.length<=9223372036854775807):∀ (r:List Zbx) (i:Nat) (l:Zb),fs.drop i=r->l.length+r.length*65538<=1000000000000 ->
  Zj8 1 [(75,.int .i64 i),(74,.int .i64 fs.length),(73,.lst false (fs.map ZY)),(0,.ref 0 0)] [.var (wv 1 0 l.length),.row 0 1 (l.map Zc)]=some (.tup [],wH 0 (l++Zd1 r))
 | [],i,l,h,hl=>by
  have h1:=Zc2 h
  have hO:=fun {j g:Nat} {l:Zb} {σ:Za}=>Zd7 (j:=j) (g:=g) (l:=l) (σ:=σ)
  have e:l++Zd1 []=l:=by simp [Zd1]
  rw [e]
  unfold Zj8
  rw [Zaa]
  simp -implicitDefEqProofs only [EQA,Zq,Nat.reduceAdd,Nat.reduceLT,Nat.reduceEqDiff,reduceCtorEq,↓reduceIte,Zd,Zd9,Zki,oI,oN,Zv8,h1]
  exact hO (j:=1) (by decide) rfl rfl
 | x::r,i,l,h,hl=>by
  have hx0:x.filter.length<=9223372036854775807:=hx x (List.mem_of_getElem? (Z9 h).1)
  have t1:=ZcT x.filter
  have t2:=ZaN 1 (ZC (Zga x))
  have lim:=Zey
  simp only [List.length_cons] at hl
  have ih:=Zvr fs hn hx r (i+1) (l++(Z3 x.filter).1++beB (ZC (Zga x)) 1) (Z9 h).2.1 (by rw [List.length_append,List.length_append];omega)
  have h1:(i:Int) < fs.length:=by have:=(Z9 h).2.2;omega
  have e1:=iad (Z9 h).1 ZY (k:=6) rfl
  have e3:=Zdc h1 (by omega)
  have hm:=fun b n σ sq own=>Zjt b n σ sq own
  have q1:=Zjg x.qos
  have q2:=Zjg x.handling
  have m1:=Zd4 x.noLocal 4 (by omega)
  have m2:=Zd4 x.asPublished 8 (by omega)
  have w1:=ZcG (Zv x.qos 3+Zab x.noLocal 4) (by omega) (by omega)
  have w2:=ZcG (Zv x.qos 3+Zab x.noLocal 4+Zab x.asPublished 8) (by omega) (by omega)
  have w3:=ZcG (Zv x.handling 3*16) (by omega) (by omega)
  have w4:=ZcG (Zv x.qos 3+Zab x.noLocal 4+Zab x.asPublished 8+Zv x.handling 3*16) (by omega) (by omega)
  have f1:=fun {σ:Za} {sq:Nat}=>Zim l x.filter hx0 (by omega) (σ:=σ) 0 1 0 (sq:=sq) (by omega)
  have f2:=fun {σ:Za} {sq:Nat}=>ZfW (l++(Z3 x.filter).1) (Zga x) 1 (by omega) (by omega) (m:=1) rfl (by rw [List.length_append];omega) (σ:=σ) 0 1 1 (sq:=sq) (by omega)
  have e:l++Zd1 (x::r)=l++(Z3 x.filter).1++beB (ZC (Zga x)) 1++Zd1 r:=by simp [Zd1,Zos]
  rw [e]
  generalize (Z3 x.filter).1=D at *
  generalize beB (ZC (Zga x)) 1=D2 at *
  have hG:=fun {a b c d:Nat} {i n:Int} {σ:Za} h0 h1=>ZhL (a:=a) (b:=b) (c:=c) (d:=d) (x:=.int .i64 i) (y:=.int .i64 n) (z:=.lst false (fs.map ZY)) rfl rfl rfl 1 2 (by omega) (l++D++D2) σ h0 h1
  unfold Zga at f2
  unfold Zj8 at ih ⊢
  rw [Zaa]
  simp only [ZY,AVal.cells] at e1
  unfold Zv at *
  simp -implicitDefEqProofs only [EQA,Z4,Nat.reduceAdd,Nat.reduceLT,Nat.reduceLeDiff,Nat.reduceEqDiff,Nat.reduceBEq,reduceCtorEq,↓reduceIte,Zki,oI,oN,Zv8,AVal.cells,h1,e1,e3,hm,w1,w2,w3,w4,f1,f2,hG,Zag,Zai,Zak,Zav,Zay,Zao,List.lookup_nil]
  exact ih
section
variable (p:Zs) (h:OkW p)
include h
theorem ZjL:(ZbT p).length<=300000000:=by
 have:=Zdy p.type p.props
 have:=ZaN 2 (ZC p.id)
 unfold ZbT
 rw [List.length_append];omega
theorem ZJY (hk:p.type=8):E1 25 [.ref 0 0,Zaj p] [.var wn]=some (.tup [],wH 0 (ZbT p++Zd1 p.subs)):=by
 have hh:=ZjL p h
 have f0:=fun {σ:Za} {t sq:Nat}=>Zpx p h (σ:=σ) (t:=t) (sq:=sq)
 have hx:=h.subs
 have hL:=Zvr p.subs hx.1 hx.2 p.subs 0 (ZbT p) rfl (by omega)
 have z:((0:Nat):Int)=0:=rfl
 rw [z] at hL
 unfold Zj8 at hL
 have hG:=fun {a b c d:Nat} {i n:Int} {r g:Nat} {σ:Za} hr h0 h1=>ZhL (a:=a) (b:=b) (c:=c) (d:=d) (x:=.int .i64 i) (y:=.int .i64 n) (z:=.lst false (p.subs.map ZY)) rfl rfl rfl r g hr (ZbT p) σ h0 h1
 have hG2:=fun {a b c d:Nat} {i n:Int} {g:Nat} {σ:Za} h0 h1=>hG (a:=a) (b:=b) (c:=c) (d:=d) (i:=i) (n:=n) (r:=2) (g:=g) (σ:=σ) (by omega) h0 h1
 clear hG
 have hn:(p.subs.map ZY).length=p.subs.length:=by simp
 rw [ZbD]
 generalize ZbT p=B at *
 have e0:=ZbR p
 have e1:=Zcn p
 have a0:(Zt p)[0]?=some (.int .i64 p.type):=rfl
 have a10:(Zt p)[10]?=some (.lst false (p.subs.map ZY)):=rfl
 rw [hk] at a0
 clear h hk hx
 generalize Zt p=P at *
 generalize p.subs=ss at *
 rw [Zbv (by rfl) ZeN]
 unfold wn at *
 simp -implicitDefEqProofs only [EQA,Z4,Nat.reduceAdd,Nat.reduceLT,Nat.reduceLeDiff,Nat.reduceEqDiff,Nat.reduceBEq,reduceCtorEq,↓reduceIte,Zeb,Zdx,oI,AVal.cells,a0,a10,e0,e1,hn,Int.reduceBEq,f0]
 exact hL
theorem Zyj (hk:p.type=10):E1 25 [.ref 0 0,Zaj p] [.var wn]=some (.tup [],wH 0 (ZbT p++Zei p.filters)):=by
 have hh:=ZjL p h
 have f0:=fun {σ:Za} {t sq:Nat}=>Zpx p h (σ:=σ) (t:=t) (sq:=sq)
 have hx:=h.filters
 have hL:=ZrD p.filters hx.1 hx.2 p.filters 0 (ZbT p) rfl (by omega)
 have z:((0:Nat):Int)=0:=rfl
 rw [z] at hL
 unfold ZlD at hL
 have hG2:=fun {a b c d:Nat} {i n:Int} {g:Nat} {σ:Za} h0 h1=>ZhL (a:=a) (b:=b) (c:=c) (d:=d) (x:=.int .i64 i) (y:=.int .i64 n) (z:=.lst false (p.filters.map AVal.str)) rfl rfl rfl 2 g (by omega) (ZbT p) σ h0 h1
 have hn:(p.filters.map AVal.str).length=p.filters.length:=by simp
 rw [ZbD]
 generalize ZbT p=B at *
 have e0:=ZbR p
 have e1:=Zcn p
 have a0:(Zt p)[0]?=some (.int .i64 p.type):=rfl
 have a11:(Zt p)[11]?=some (.lst false (p.filters.map AVal.str)):=rfl
 rw [hk] at a0
 clear h hk hx
 generalize Zt p=P at *
 generalize p.filters=ss at *
 rw [Zbv (by rfl) ZeN]
 unfold wn at *
 simp -implicitDefEqProofs only [EQA,Z4,Nat.reduceAdd,Nat.reduceLT,Nat.reduceLeDiff,Nat.reduceEqDiff,Nat.reduceBEq,reduceCtorEq,↓reduceIte,Zeb,Zdx,oI,AVal.cells,a0,a11,e0,e1,hn,Int.reduceBEq,f0]
 exact hL
theorem ZBH (hk:p.type=9\/p.type=11):E1 25 [.ref 0 0,Zaj p] [.var wn]=some (.tup [],wH 0 (ZbT p++Zek p.codes)):=by
 have hh:=ZjL p h
 have f0:=fun {σ:Za} {t sq:Nat}=>Zpx p h (σ:=σ) (t:=t) (sq:=sq)
 have hx:=h.codes
 have hL:=Zv4 p.codes hx p.codes 0 (ZbT p) rfl (by omega)
 have z:((0:Nat):Int)=0:=rfl
 rw [z] at hL
 unfold Zkz at hL
 have hG2:=fun {a b c d:Nat} {i n:Int} {g:Nat} {σ:Za} h0 h1=>ZhL (a:=a) (b:=b) (c:=c) (d:=d) (x:=.int .i64 i) (y:=.int .i64 n) (z:=.lst false (p.codes.map (AVal.int .i64))) rfl rfl rfl 2 g (by omega) (ZbT p) σ h0 h1
 have hn:(p.codes.map (AVal.int .i64)).length=p.codes.length:=by simp
 rw [ZbD]
 generalize ZbT p=B at *
 have e0:=ZbR p
 have e1:=Zcn p
 have a0:(Zt p)[0]?=some (.int .i64 p.type):=rfl
 have a8:(Zt p)[8]?=some (.lst false (p.codes.map (AVal.int .i64))):=rfl
 clear h hx
 generalize Zt p=P at *
 generalize p.codes=ss at *
 generalize p.type=ty at *
 rw [Zbv (by rfl) ZeN]
 unfold wn at *
 rcases hk with rfl | rfl
 all_goals
  simp -implicitDefEqProofs only [EQA,Z4,Nat.reduceAdd,Nat.reduceLT,Nat.reduceLeDiff,Nat.reduceEqDiff,Nat.reduceBEq,reduceCtorEq,↓reduceIte,Zeb,Zdx,oI,AVal.cells,a0,a8,e0,e1,hn,Int.reduceBEq,f0]
  exact hL
end
end
section
theorem ZtN (a b:List Int) (h:a.length=b.length) (hl:a.length<=9223372036854775807):∀ (r s:List Int) (i:Nat),a.drop i=r->b.drop i=s->Zl3 0 [(13,.int .i64 i),(12,.int .i64 a.length),(1,.lst false (b.map (AVal.int .i64))),(0,.lst false (a.map (AVal.int .i64)))] []=some (.bool (r == s),[])
 | [],s,i,ha,hb=>by
  have hs:s=[]:=by
   subst hb;rw [List.drop_eq_nil_iff] at ha ⊢;omega
  subst hs
  have h1:=Zc2 ha
  unfold Zl3
  rw [Zaa]
  simp -implicitDefEqProofs only [EQA,Nat.reduceLT,Nat.reduceEqDiff,reduceCtorEq,↓reduceIte,Zna,ZFV,ZmI,Zrz,ZlZ,oI,h1]
 | x::r,[],i,ha,hb=>by
  have:=(Z9 ha).2.2;rw [List.drop_eq_nil_iff] at hb;omega
 | x::r,y::s,i,ha,hb=>by
  have ih:=ZtN a b h hl r s (i+1) (Z9 ha).2.1 (Z9 hb).2.1
  have h1:(i:Int) < a.length:=by have:=(Z9 ha).2.2;omega
  have e1:=iad (Z9 ha).1 (AVal.int .i64) (k:=1) rfl
  have e2:=iad (Z9 hb).1 (AVal.int .i64) (k:=1) rfl
  have e3:=Zdc h1 hl
  unfold Zl3 at ih ⊢
  rw [Zaa]
  simp -implicitDefEqProofs only [EQA,ZE,Z4,Nat.reduceLT,Nat.reduceEqDiff,Nat.reduceBEq,reduceCtorEq,↓reduceIte,gcT,gcA,ZA,Zy,Zu,ZP,Zna,Zrz,ZlZ,oI,h1,e1,e2,e3]
  rw [ih]
  by_cases hx:x=y <;> simp [hx]
theorem ZJk (a b:List Int) (hl:a.length<=9223372036854775807):E 49 [.lst false (a.map (AVal.int .i64)),.lst false (b.map (AVal.int .i64))] []=some (.bool (a == b),[]):=by
 rw [Zg (by rfl) ZFq]
 by_cases h:a.length=b.length
 ·have:=ZtN a b h hl a b 0 rfl rfl
  unfold Zl3 at this
  have e:=Zis h
  simp -implicitDefEqProofs only [EQA,Z4,Nat.reduceLT,Nat.reduceEqDiff,reduceCtorEq,↓reduceIte,gcT,gcA,ZA,Zy,Zu,ZP,ZuQ,Zkl,oI,e]
  exact this
 ·have e:=Zjl h
  simp -implicitDefEqProofs only [EQA,Nat.reduceLT,Nat.reduceEqDiff,reduceCtorEq,↓reduceIte,ZuQ,Zkl,Zna,oI,e,ZjF h]
theorem ZMc (σ:Za) (sq own:Nat) (view:Bool) (a b:List Int) (hl:a.length<=9223372036854775807):Zk E BY σ sq 49 own view [.lst false (a.map (AVal.int .i64)),.lst false (b.map (AVal.int .i64))]=some (.bool (a == b),σ,{}) :=
 Zcp (ZJk a b hl) (by kernel_rfl) (by simp -implicitDefEqProofs only [ZcS,Zbq,eq_self]) (by simp -implicitDefEqProofs only [ZE,Zbq,eq_self]) rfl (fun _=>rfl) _ _ _ _
theorem ZrN (a b:List Zb) (h:a.length=b.length) (hl:a.length<=9223372036854775807):∀ (r s:List Zb) (i:Nat),a.drop i=r->b.drop i=s->Zl7 0 [(13,.int .i64 i),(12,.int .i64 a.length),(1,.lst false (b.map AVal.str)),(0,.lst false (a.map AVal.str))] []=some (.bool (r == s),[])
 | [],s,i,ha,hb=>by
  have hs:s=[]:=by
   subst hb;rw [List.drop_eq_nil_iff] at ha ⊢;omega
  subst hs
  have h1:=Zc2 ha
  unfold Zl7
  rw [Zaa]
  simp -implicitDefEqProofs only [EQA,Nat.reduceLT,Nat.reduceEqDiff,reduceCtorEq,↓reduceIte,Zox,ZNs,Zog,Zu8,Zl9,oI,h1]
 | x::r,[],i,ha,hb=>by
  have:=(Z9 ha).2.2;rw [List.drop_eq_nil_iff] at hb;omega
 | x::r,y::s,i,ha,hb=>by
  have ih:=ZrN a b h hl r s (i+1) (Z9 ha).2.1 (Z9 hb).2.1
  have h1:(i:Int) < a.length:=by have:=(Z9 ha).2.2;omega
  have e1:=iad (Z9 ha).1 AVal.str (k:=1) rfl
  have e2:=iad (Z9 hb).1 AVal.str (k:=1) rfl
  have e3:=Zdc h1 hl
  unfold Zl7 at ih ⊢
  rw [Zaa]
  simp -implicitDefEqProofs only [EQA,ZE,Z4,Nat.reduceLT,Nat.reduceEqDiff,Nat.reduceBEq,Zci,reduceCtorEq,↓reduceIte,gcT,gcA,ZA,Zy,Zu,ZP,Zox,Zu8,Zl9,oI,h1,e1,e2,e3]
  rw [ih]
  by_cases hx:x=y <;> simp [hx]
theorem ZLp (a b:List Zb) (hl:a.length<=9223372036854775807):E 51 [.lst false (a.map AVal.str),.lst false (b.map AVal.str)] []=some (.bool (a == b),[]):=by
 rw [Zg (by rfl) ZM5]
 by_cases h:a.length=b.length
 ·have:=ZrN a b h hl a b 0 rfl rfl
  unfold Zl7 at this
  have e:=Zis h
  simp -implicitDefEqProofs only [EQA,Z4,Nat.reduceLT,Nat.reduceEqDiff,reduceCtorEq,↓reduceIte,gcT,gcA,ZA,Zy,Zu,ZP,Zww,Zku,oI,e]
  exact this
 ·have e:=Zjl h
  simp -implicitDefEqProofs only [EQA,Nat.reduceLT,Nat.reduceEqDiff,reduceCtorEq,↓reduceIte,Zww,Zku,Zox,oI,e,ZjF h]
theorem ZPr (σ:Za) (sq own:Nat) (view:Bool) (a b:List Zb) (hl:a.length<=9223372036854775807):Zk E BY σ sq 51 own view [.lst false (a.map AVal.str),.lst false (b.map AVal.str)]=some (.bool (a == b),σ,{}) :=
 Zcp (ZLp a b hl) (by kernel_rfl) (by simp -implicitDefEqProofs only [ZcS,Zbq,eq_self]) (by simp -implicitDefEqProofs only [ZE,Zbq,eq_self]) rfl (fun _=>rfl) _ _ _ _
theorem ZrG (a b:List Zbx) (h:a.length=b.length) (hl:a.length<=9223372036854775807):∀ (r s:List Zbx) (i:Nat),a.drop i=r->b.drop i=s->ZjR 0 [(13,.int .i64 i),(12,.int .i64 a.length),(1,.lst false (b.map ZY)),(0,.lst false (a.map ZY))] []=some (.bool (r == s),[])
 | [],s,i,ha,hb=>by
  have hs:s=[]:=by
   subst hb;rw [List.drop_eq_nil_iff] at ha ⊢;omega
  subst hs
  have h1:=Zc2 ha
  unfold ZjR
  rw [Zaa]
  simp -implicitDefEqProofs only [EQA,Nat.reduceLT,Nat.reduceEqDiff,reduceCtorEq,↓reduceIte,ZoM,Zyl,ZoD,Zut,ZlQ,oI,h1]
 | x::r,[],i,ha,hb=>by
  have:=(Z9 ha).2.2;rw [List.drop_eq_nil_iff] at hb;omega
 | x::r,y::s,i,ha,hb=>by
  have ih:=ZrG a b h hl r s (i+1) (Z9 ha).2.1 (Z9 hb).2.1
  have h1:(i:Int) < a.length:=by have:=(Z9 ha).2.2;omega
  have e1:=iad (Z9 ha).1 ZY (k:=6) rfl
  have e2:=iad (Z9 hb).1 ZY (k:=6) rfl
  have e3:=Zdc h1 hl
  unfold ZjR at ih ⊢
  rw [Zaa]
  obtain ⟨f1,q1,n1,a1,d1,i1⟩:=x
  obtain ⟨f2,q2,n2,a2,d2,i2⟩:=y
  simp only [ZY,AVal.cells] at e1 e2
  have kd:Zf1 [2,0,1,1,0,0] [AVal.str f1,.int .i64 q1,.bool n1,.bool a1,.int .i64 d1,.int .i64 i1]=true:=rfl
  have ke:Zfd [AVal.str f1,.int .i64 q1,.bool n1,.bool a1,.int .i64 d1,.int .i64 i1] [AVal.str f2,.int .i64 q2,.bool n2,.bool a2,.int .i64 d2,.int .i64 i2]=some (f1 == f2 && (q1 == q2 && (n1 == n2 && (a1 == a2 && (d1 == d2 && (i1 == i2 && true)))))):=rfl
  have kd2:Zf1 [2,0,1,1,0,0] [AVal.str f2,.int .i64 q2,.bool n2,.bool a2,.int .i64 d2,.int .i64 i2]=true:=rfl
  simp -implicitDefEqProofs only [EQA,Z4,Nat.reduceAdd,Nat.reduceLT,Nat.reduceLeDiff,Nat.reduceEqDiff,Nat.reduceBEq,reduceCtorEq,↓reduceIte,gcT,gcA,ZA,Zy,Zu,ZP,ZoM,Zut,ZlQ,oI,h1,e1,e2,e3,kd,ke]
  rw [ih]
  have hb:((⟨f1,q1,n1,a1,d1,i1⟩:Zbx) == ⟨f2,q2,n2,a2,d2,i2⟩)=(f1 == f2 && (q1 == q2 && (n1 == n2 && (a1 == a2 && (d1 == d2 && (i1 == i2)))))):=by
   rw [Bool.eq_iff_iff];simp
  rw [List.cons_beq_cons,hb]
  cases f1 == f2 <;> cases q1 == q2 <;> cases n1 == n2 <;> cases a1 == a2 <;> cases d1 == d2 <;> cases i1 == i2 <;> rfl
theorem Zxo (a b:List Zbx) (hl:a.length<=9223372036854775807):E 50 [.lst false (a.map ZY),.lst false (b.map ZY)] []=some (.bool (a == b),[]):=by
 rw [Zg (by rfl) ZLw]
 by_cases h:a.length=b.length
 ·have:=ZrG a b h hl a b 0 rfl rfl
  unfold ZjR at this
  have e:=Zis h
  simp -implicitDefEqProofs only [EQA,Z4,Nat.reduceLT,Nat.reduceEqDiff,reduceCtorEq,↓reduceIte,gcT,gcA,ZA,Zy,Zu,ZP,ZrK,Zj1,oI,e]
  exact this
 ·have e:=Zjl h
  simp -implicitDefEqProofs only [EQA,Nat.reduceLT,Nat.reduceEqDiff,reduceCtorEq,↓reduceIte,ZrK,Zj1,ZoM,oI,e,ZjF h]
theorem ZO3 (σ:Za) (sq own:Nat) (view:Bool) (a b:List Zbx) (hl:a.length<=9223372036854775807):Zk E BY σ sq 50 own view [.lst false (a.map ZY),.lst false (b.map ZY)]=some (.bool (a == b),σ,{}) :=
 Zcp (Zxo a b hl) (by kernel_rfl) (by simp -implicitDefEqProofs only [ZcS,Zbq,eq_self]) (by simp -implicitDefEqProofs only [ZE,Zbq,eq_self]) rfl (fun _=>rfl) _ _ _ _
def ZdV (a b:Zs):Bool :=
 ((((((((((((a.codes == b.codes && a.subs == b.subs && a.filters == b.filters && a.props == b.props && a.will.props == b.will.props)
  && (a.payload == b.payload && a.password == b.password && a.will.data == b.will.data))
  && (a.will.topic == b.will.topic && a.will.qos == b.will.qos && a.will.retain == b.will.retain))
  && (a.dup == b.dup && a.retain == b.retain && a.clean == b.clean && a.hasWill == b.hasWill && a.hasUser == b.hasUser && a.hasPassword == b.hasPassword && a.present == b.present))
  && a.type == b.type) && a.qos == b.qos) && a.id == b.id) && a.topic == b.topic) && a.code == b.code) && a.keep == b.keep) && a.client == b.client) && a.user == b.user)
theorem Zyz (a b:Zs):ZdV a b=true↔a=b:=by
 obtain ⟨a1,a2,a3,a4,a5,a6,a7,a8,a9,a10,a11,a12,a13,a14,a15,a16,⟨a17,a18,a19,a20,a21⟩,a22,a23,a24,a25,a26⟩:=a
 obtain ⟨b1,b2,b3,b4,b5,b6,b7,b8,b9,b10,b11,b12,b13,b14,b15,b16,⟨b17,b18,b19,b20,b21⟩,b22,b23,b24,b25,b26⟩:=b
 simp only [ZdV,Bool.and_eq_true,beq_iff_eq,Zs.mk.injEq,ZrB.mk.injEq]
 constructor
 ·rintro ⟨⟨⟨⟨⟨⟨⟨⟨⟨⟨⟨⟨⟨⟨⟨h1,h2⟩,h3⟩,h4⟩,h5⟩,⟨⟨h6,h7⟩,h8⟩⟩,⟨⟨h9,h10⟩,h11⟩⟩,⟨⟨⟨⟨⟨⟨h12,h13⟩,h14⟩,h15⟩,h16⟩,h17⟩,h18⟩⟩,h19⟩,h20⟩,h21⟩,h22⟩,h23⟩,h24⟩,h25⟩,h26⟩
  simp only [h1,h2,h3,h4,h5,h6,h7,h8,h9,h10,h11,h12,h13,h14,h15,h16,h17,h18,h19,h20,h21,h22,h23,h24,h25,h26,and_self]
 ·rintro ⟨h1,h2,h3,h4,h5,h6,h7,h8,h9,h10,h11,h12,h13,h14,h15,h16,⟨h17,h18,h19,h20,h21⟩,h22,h23,h24,h25,h26⟩
  simp only [h1,h2,h3,h4,h5,h6,h7,h8,h9,h10,h11,h12,h13,h14,h15,h16,h17,h18,h19,h20,h21,h22,h23,h24,h25,h26,and_self]
structure OkL (p:Zs):Prop where
 codes:p.codes.length<=9223372036854775807
 props:p.props.length<=9223372036854775807
 subs:p.subs.length<=9223372036854775807
 filters:p.filters.length<=9223372036854775807
 wprops:p.will.props.length<=9223372036854775807
theorem ZBe (a b:Zs) (h:OkL a):E 30 [Zaj a,Zaj b] []=some (.bool (ZdV a b),[]):=by
 have h1:=fun σ sq own view=>ZMc σ sq own view a.codes b.codes h.codes
 have h2:=fun σ sq own view=>ZO3 σ sq own view a.subs b.subs h.subs
 have h3:=fun σ sq own view=>ZPr σ sq own view a.filters b.filters h.filters
 have h4:=fun σ sq own view=>ZjI σ sq own view a.props b.props h.props
 have h5:=fun σ sq own view=>ZjI σ sq own view a.will.props b.will.props h.wprops
 rw [Zg (by rfl) ZN3]
 unfold Zaj ZdV
 simp -implicitDefEqProofs only [EQA,Z4,Zdt,ZjQ,Nat.reduceAdd,Nat.reduceLT,Nat.reduceEqDiff,Nat.reduceBEq,Zci,ZF,Zaw,unG,reduceCtorEq,ZU,ite_self,↓reduceIte,ZJM,ZmN,Zz1,oI,AVal.cells,h1,h2,h3,h4,h5]
theorem ZrA (σ:Za) (sq own:Nat) (view:Bool) (a b:Zs) (h:OkL a):Zk E BY σ sq 30 own view [Zaj a,Zaj b]=some (.bool (ZdV a b),σ,{}) :=
 Zcp (ZBe a b h) (by kernel_rfl) rfl rfl rfl (fun _=>rfl) _ _ _ _
end
section
def Zlk:Ze:=(.seq (.region [oI 2 (.mov (.c (.lst true [])))] none [0]) (.seq (.region [oI 3 (.mov (.t 0)),oI 4 (.nilchk (.t 3)),oI 5 (.faddr 0 (.t 4)),oI 6 (.ld none (.t 5)),oI 7 (.mov (.t 0)),oI 8 (.nilchk (.t 7)),oI 9 (.faddr 1 (.t 8)),oI 10 (.ld none (.t 9)),oI 11 (.slice 1 (.t 6) (some (.t 10)) none none),oI 2 (.mov (.t 11))] (some [(3,7)]) [2]) .ret))
def Zoc:ZD:=⟨[(.tmp 2)],Zlk⟩
theorem ZvG:FC 27=some Zoc:=by kernel_rfl
theorem Zsp:Zoc.body=Zlk:=rfl
theorem Zu1:Zoc.res=[(.tmp 2)]:=rfl
end
section
theorem ZIY {σ:Za} {t g k n:Nat} {xs:List AVal} (hs:σ[t]?=some (.row g k xs)) (hn:n=xs.length):ZbO σ k (.sl t g 0 n) (some (.int .i64 0)) none none=some (.sl t g 0 n,σ,{ rd:=[t] }):=by
 subst hn
 have he:ZU σ (.sl t g 0 xs.length)=some ((xs.drop 0).take xs.length,[t]):=by simp [ZU,hs]
 simp [ZbO,he,hs,Za1,Zdj]
theorem Zyh (σ:Za) (k:Nat):ZbO σ k (.lst true []) (some (.int .i64 0)) none none=some (.lst true [],σ,{}):=by
 simp [ZbO,Za1,Zdj]
theorem ZIQ (l:Zb):E 27 [.ref 0 0] (wH 0 l)=some (.sl 1 0 0 l.length,wH 0 l):=by
 have h1:((l.map Zc).length)=l.length:=by simp
 rw [Zg (by rfl) ZvG]
 unfold wH wv
 have hS:=fun (σ:Za) (hs:σ[1]?=some (.row 0 1 (l.map Zc)))=>ZIY (n:=l.length) hs h1.symm
 simp -implicitDefEqProofs only [EQA,Nat.reduceAdd,Nat.reduceLT,Nat.reduceEqDiff,Nat.reduceBEq,reduceCtorEq,↓reduceIte,Zsp,Zlk,Zu1,oI,hS]
 simp [Zam,gcA,ZA,Zy,Zr,ZZ,ZP,Zn,Z0,Zp,ZT,Zu,Zf,Zl,ZH,List.range,List.range.loop]
theorem ZxT:E 27 [.ref 0 0] [.var wn]=some (.lst true [],[.var wn]):=by
 rw [Zg (by rfl) ZvG]
 unfold wn
 simp -implicitDefEqProofs only [EQA,Zq,Z4,Nat.reduceLT,Nat.reduceEqDiff,Nat.reduceBEq,reduceCtorEq,↓reduceIte,Zd,Zsp,Zlk,Zu1,oI,Zyh]
theorem ZHM (l:Zb):Zad true 2 (some (.sl 1 0 0 l.length,wH 0 l))=some (.lst false (l.map Zc),[.var (wv 1 0 l.length),.frow 0 1 (l.map Zc)]):=by
 have e1:(0:Nat)+l.length<=(l.map Zc).length:=by simp
 have e2:((l.map Zc).drop 0).take l.length=l.map Zc:=by
  rw [List.drop_zero,<-List.length_map (f:=Zc),List.take_length]
 simp only [Zad,if_true,Zbn,viewR,ZL,ZI,ZU,wH,List.getElem?_cons_succ,List.getElem?_cons_zero,e1,e2,and_self,Zo,List.set_cons_succ,List.set_cons_zero]
 simp [gcA,ZA,Zr,ZZ,List.range,List.range.loop,ZP,wv,Zy,Zn,Z0,Zu,ZT,Zp,ZH,Zf,Zl]
theorem ZND (l:Zb) {σ:Za} (t r g:Nat) {sq:Nat} (htr:t≠r) (hs:σ[t]?=some (.var (wv r g l.length))) (hr:σ[r]?=some (.row g 1 (l.map Zc))) :
  Zk E1 BY σ sq 27 0 true [.ref t 0]=some (.lst false (l.map Zc),(σ.set t (.var (wv r g l.length))).set r (.frow g 1 (l.map Zc)),{ any:=true,upd:=[(t,wv r g l.length)] }):=by
 refine Zbj ?_
 have hrf:Zr (wv r g l.length)=[r]:=rfl
 have htl:t < σ.length:=(List.getElem?_eq_some_iff.1 hs).1
 have hrl:r < σ.length:=(List.getElem?_eq_some_iff.1 hr).1
 have h1:σ.getD t .free=.var (wv r g l.length):=by simp [List.getD_eq_getElem?_getD,hs]
 have h2:σ.getD r .free=.row g 1 (l.map Zc):=by simp [List.getD_eq_getElem?_getD,hr]
 have hf0:Zo σ []=σ:=rfl
 have hsh:showAs σ [.ref t 0]=some ([.ref t 0],[]):=rfl
 have href:Zr [AVal.ref t 0]=[t]:=rfl
 have hup:Zbb ((σ.set t (.var (wv r g l.length))).set r (.frow g 1 (l.map Zc))) [t,r]=[(t,wv r g l.length)]:=by
  have e1:((σ.set t (.var (wv r g l.length))).set r (.frow g 1 (l.map Zc)))[t]?=some (.var (wv r g l.length)):=by
   rw [List.getElem?_set_ne (fun e=>htr e.symm),List.getElem?_set_self htl]
  have e2:((σ.set t (.var (wv r g l.length))).set r (.frow g 1 (l.map Zc)))[r]?=some (.frow g 1 (l.map Zc)):=by
   rw [List.getElem?_set_self (by simpa using hrl)]
  simp only [Zbb,e1,e2]
 unfold Zk ZbN
 rw [show BY 27=false by kernel_rfl]
 simp only [Bool.false_eq_true,if_false,hsh,hf0,href,ZnW hs hr htr hrf]
 unfold ZbE
 have hall:([t,r].all fun t=>okB (σ.getD t .free))=true:=by simp only [List.all_cons,List.all_nil,h1,h2,okB,Bool.and_true]
 rw [if_pos hall]
 have hρt:Zn σ 0 [t,r] t 0=some (0,0):=by simp [Zn,Z0,hs,Zp,ZT]
 have hρr:Zn σ 0 [t,r] r g=some (1,0):=by simp [Zn,Z0,hr,Zp,ZT,htr]
 have hargs:Zf (Zn σ 0 [t,r]) [.ref t 0]=[.ref 0 0]:=by simp only [Zf,Zl,hρt]
 have hren:Zf (Zn σ 0 [t,r]) (wv r g l.length)=wv 1 0 l.length:=by simp only [wv,Zf,Zl,hρr]
 have hheap:Zu σ 0 [t,r] (Zn σ 0 [t,r]) [t,r] 0=wH 0 l:=by
  simp only [Zu,h1,h2,ZT,Zp,ZH,hren,wH]
  simp
 rw [hargs,hheap,ZIQ l,show [t,r].length=2 from rfl,ZHM l]
 have hk:Za3 σ [t,r] [.var (wv 1 0 l.length),.frow 0 1 (l.map Zc)] 0=true:=by simp [Za3,okB,Zcc,Zp,hs,hr]
 have hff:Za0 σ sq 0=true:=by simp [Za0]
 have hb3:Zf (ZaA σ [t,r] sq) (wv 1 0 l.length)=wv r g l.length:=by
  have : ZaA σ [t,r] sq 1 0=some (r,g):=by simp only [ZaA,List.getElem?_cons_succ,List.getElem?_cons_zero,h2,Zp];rfl
  simp only [wv,Zf,Zl,this]
 simp only [ZaI,List.isEmpty_cons,Bool.false_eq_true,if_false,List.length_cons,List.length_nil,Nat.zero_add,Nat.reduceAdd,Nat.add_zero,Nat.le_refl,decide_true,hk,hff,Bool.and_self,if_true,Za4,ZaM,List.getD_cons_zero,List.getD_cons_succ,Zch,List.getElem?_cons_zero,List.getElem?_cons_succ,h2,Zp,ZH,Zl,hb3,hup]
theorem Zzy {σ:Za} {t sq:Nat} (hs:σ[t]?=some (.var wn)):Zk E1 BY σ sq 27 0 true [.ref t 0]=some (.lst false [],σ,{ any:=true,upd:=[(t,wn)] }):=by
 refine Zbj ?_
 have htl:t < σ.length:=(List.getElem?_eq_some_iff.1 hs).1
 have h1:σ.getD t .free=.var wn:=by simp [List.getD_eq_getElem?_getD,hs]
 have hf0:Zo σ []=σ:=rfl
 have hsh:showAs σ [.ref t 0]=some ([.ref t 0],[]):=rfl
 have href:Zr [AVal.ref t 0]=[t]:=rfl
 have hre:Zy σ 1000 [t] []=[t]:=by
  have e1:([]:List Nat).contains t=false:=rfl
  rw [show (1000:Nat)=998+1+1 from rfl,Zy,e1]
  simp only [Bool.false_eq_true,if_false,h1,ZP]
  rfl
 unfold Zk ZbN
 rw [show BY 27=false by kernel_rfl]
 simp only [Bool.false_eq_true,if_false,hsh,hf0,href,hre]
 unfold ZbE
 have hall:([t].all fun t=>okB (σ.getD t .free))=true:=by simp only [List.all_cons,List.all_nil,h1,okB,Bool.and_true]
 rw [if_pos hall]
 have hρt:Zn σ 0 [t] t 0=some (0,0):=by simp [Zn,Z0,hs,Zp,ZT]
 have hargs:Zf (Zn σ 0 [t]) [.ref t 0]=[.ref 0 0]:=by simp only [Zf,Zl,hρt]
 have hheap:Zu σ 0 [t] (Zn σ 0 [t]) [t] 0=[.var wn]:=by
  simp only [Zu,h1,ZH]
  rfl
 rw [hargs,hheap,ZxT]
 have hv:Zad true 1 (some (.lst true [],[.var wn]))=some (.lst false [],[.var wn]):=rfl
 rw [show [t].length=1 from rfl,hv]
 have hk:Za3 σ [t] [.var wn] 0=true:=by simp [Za3,okB,Zcc,Zp,hs]
 have hset:σ.set t (.var wn)=σ:=by
  apply List.ext_getElem?
  intro i
  rw [List.getElem?_set]
  by_cases e:t=i
  ·subst e;rw [if_pos rfl,if_pos htl,hs]
  ·simp [e]
 have hup:Zbb σ [t]=[(t,wn)]:=by simp only [Zbb,hs]
 have hff:Za0 σ sq 0=true:=by simp [Za0]
 have hlay:Za4 σ [t] sq [.var wn] 0 σ=σ:=by
  simp only [Za4,ZaM,ZH,List.getD_cons_zero]
  exact hset
 simp only [ZaI,List.isEmpty_cons,Bool.false_eq_true,if_false,hk,hff,hlay,hup,Zl,List.length_cons,List.length_nil,Nat.zero_add,Nat.add_zero,Nat.le_refl,decide_true,Bool.and_self,if_true]
theorem ZsA (σ:Za) (sq own:Nat) (f:Bool) (a:Zb) (h:a.length<=140737488355328):Zk E BY σ sq 19 own true [.lst f [.lst false (a.map Zc)]]=some (.lst false (a.map Zc),σ,{}):=by
 have:=Zhe σ sq own f a [] (by simp) (by simpa using h)
 simpa [ZJ] using this
theorem Zxu {p:Zs} {l:Zb} (h:E1 25 [.ref 0 0,Zaj p] [.var wn]=some (.tup [],wH 0 l)) {σ:Za} {t sq:Nat} (hf:σ[sq]?=some .free) (hs0:σ[t]?=some (.var wn)) :
  Zk E1 BY σ sq 25 1 true [.ref t 0,.agg (Zt p)]=some (.tup [],(σ.set t (.var (wv sq 0 l.length))).set sq (.row 0 1 (l.map Zc)),{ any:=true,upd:=[(t,wv sq 0 l.length)] }) :=
 Zgr (args:=[.agg (Zt p)]) rfl rfl h (by kernel_rfl) (by rw [List.all_cons,ZdX];rfl) (by rw [List.map_cons,Zd6];rfl) hf hs0
theorem Zzb {p:Zs} (h:E1 25 [.ref 0 0,Zaj p] [.var wn]=some (.tup [],[.var wn])) {σ:Za} {t sq:Nat} (hf:σ[sq]?=some .free) (hs0:σ[t]?=some (.var wn)) :
  Zk E1 BY σ sq 25 1 true [.ref t 0,.agg (Zt p)]=some (.tup [],σ,{ any:=true,upd:=[(t,wn)] }) :=
 Zs1 (args:=[.agg (Zt p)]) h (by kernel_rfl) (by rw [List.all_cons,ZdX];rfl) (by rw [List.map_cons,Zd6];rfl) (ff1 hf) hs0
def orU (a b:Int):Int:=IntKind.u8.wrap (BitVec.ofInt IntKind.u8.bits a ||| BitVec.ofInt IntKind.u8.bits b).toNat
def ZcV (t:Int):Int:=orU (IntKind.u8.wrap (IntKind.i64.wrap (t*2 ^ min (Int.toNat 4) IntKind.i64.bits))) (Zc3 t)
def ZqN (p:Zs):Int:=IntKind.u8.wrap (Zab p.dup 8+Zv p.qos 3*2+Zab p.retain 1)
def ZbX (p:Zs):Int:=if p.type=3 then orU (ZcV 3) (ZqN p) else ZcV p.type
theorem ZMz (m:Nat) (h:m < 256):IntKind.u8.wrap (m:Int)=m:=by
 unfold IntKind.wrap IntKind.signed IntKind.bits
 simp
 omega
theorem Zv3 (a b:Int):0<=orU a b/\orU a b < 256:=by
 have h:∀ x y:BitVec 8,(x ||| y).toNat < 256:=fun x y=>(x ||| y).isLt
 have h2:=h (BitVec.ofInt 8 a) (BitVec.ofInt 8 b)
 unfold orU
 rw [show IntKind.u8.bits=8 from rfl,ZMz _ h2]
 omega
theorem Ztx (p:Zs):0<=ZbX p/\ZbX p < 256:=by
 unfold ZbX
 split
 ·exact Zv3 _ _
 ·exact Zv3 _ _
theorem Zwc (B:Zb):(Z2 (B.length:Nat)).2=0↔B.length<=268435455:=by
 unfold Z2
 split
 ·simp only []
  constructor
  ·intro h;simp at h
  ·intro h;omega
 ·simp only [true_iff]
  omega
def Ze4 (first:Int) (B:Zb) (c:Int) (s:Bool):AVal :=
 if B.length<=268435455/\c=0/\s=true then .tup [.agg [.int .u8 first,.lst false (B.map Zc)],.int .i64 0] else .tup [.agg [.int .u8 0,.lst true []],.int .i64 129]
section
variable (p q:Zs) (c:Int)
theorem ZPk (B:Zb) (hb:E1 25 [.ref 0 0,Zaj p] [.var wn]=some (.tup [],wH 0 B)) (hB:B.length<=140737488355328)
  (hr:∀ σ sq own,Zk E1 BY σ sq 29 own true [.agg [.int .u8 (ZbX p),.lst false (B.map Zc)]]=some (.tup [Zaj q,.int .i64 c],σ,{})) (hq:OkL q) :
  E1 17 [Zaj p] []=some (Ze4 (ZbX p) B c (ZdV q p),[]):=by
 have fb:=fun {σ:Za} {t sq:Nat}=>Zxu hb (σ:=σ) (t:=t) (sq:=sq)
 have fB:=fun {σ:Za} {sq:Nat}=>ZND B 2 3 0 (by omega) (σ:=σ) (sq:=sq)
 have fj:=fun σ sq own f=>Zbj (ZsA σ sq own f B hB)
 have ff:=fun σ sq own=>Zbj (ZlP p.type σ sq own)
 have fm:=fun b n σ sq own=>Zjt b n σ sq own
 have fv:=fun σ sq own=>Zbj (ZfN σ sq own (B.length:Nat))
 have fs:=fun σ sq own=>Zbj (ZrA σ sq own true q p hq)
 have hn:(B.map Zc).length=B.length:=by simp
 unfold Ze4
 generalize ZdV q p=s at *
 rw [ZbD] at *
 rw [ZbD] at *
 have e0:=ZbR p
 have e1:=Zcn p
 have a0:(Zt p)[0]?=some (.int .i64 p.type):=rfl
 have a1:(Zt p)[1]?=some (.bool p.dup):=rfl
 have a2:(Zt p)[2]?=some (.int .i64 p.qos):=rfl
 have a3:(Zt p)[3]?=some (.bool p.retain):=rfl
 have d0:=ZbR q
 have d1:=Zcn q
 have oq:(Zt q).all ZR=true:=rfl
 have m1:=Zd4 p.dup 8 (by omega)
 have m2:=Zd4 p.retain 1 (by omega)
 have m3:=Zjg p.qos
 have w2:=ZcG (Zv p.qos 3*2) (by omega) (by omega)
 have w3:=ZcG (Zab p.dup 8+Zv p.qos 3*2) (by omega) (by omega)
 have w4:=ZcG (Zab p.dup 8+Zv p.qos 3*2+Zab p.retain 1) (by omega) (by omega)
 clear m1 m2 m3
 unfold ZbX at hr ⊢
 have hv:=Zwc B
 unfold Zet at fv
 generalize (Z2 (B.length:Nat)).1=V at *
 generalize (Z2 (B.length:Nat)).2=v at *
 by_cases h3:p.type=3
 ·rw [if_pos h3] at hr ⊢
  rw [h3] at ff a0
  unfold ZcV ZqN orU Zv at *
  clear h3
  generalize Zt p=P at *
  generalize Zt q=Q at *
  generalize p.dup=pd at *
  generalize p.qos=pq at *
  generalize p.retain=pr at *
  unfold wn at *
  rw [Zbv (by rfl) Zln]
  by_cases v0:v=0
  ·have hL:=hv.1 v0
   subst v0
   by_cases c0:c=0
   ·subst c0
    cases s
    ·rw [if_neg (by simp)]
     simp -implicitDefEqProofs only [EQA,Za6,Zq,Nat.reduceAdd,Nat.reduceLT,Nat.reduceLeDiff,Nat.reduceEqDiff,Nat.reduceBEq,ZaG,unA,ZF,unG,↓reduceIte,Zd,Zcy,Zcj,Zcx,oI,oN,AVal.cells,a0,a1,a2,a3,e0,e1,d0,d1,oq,Zae,fb,fB,fj,ff,fm,fv,fs,hr,hn,w2,w3,w4,Int.reduceLT,viewAs,ZL,ZI,Zo,Zag,Zai,Zak,Zav,Zay,Zao,List.lookup_cons,List.lookup_nil,bne_self_eq_false]
    ·rw [if_pos ⟨hL,rfl,rfl⟩]
     simp -implicitDefEqProofs only [EQA,Za6,Zq,Nat.reduceAdd,Nat.reduceLT,Nat.reduceLeDiff,Nat.reduceEqDiff,Nat.reduceBEq,ZaG,unA,ZF,unG,↓reduceIte,Zd,Zcy,Zcj,Zcx,oI,oN,AVal.cells,a0,a1,a2,a3,e0,e1,d0,d1,oq,Zae,fb,fB,fj,ff,fm,fv,fs,hr,hn,w2,w3,w4,Int.reduceLT,viewAs,ZL,ZI,Zo,Zag,Zai,Zak,Zav,Zay,Zao,List.lookup_cons,List.lookup_nil,bne_self_eq_false]
   ·have c1:(c != 0)=true:=by simpa using c0
    rw [if_neg (fun h=>c0 h.2.1)]
    simp -implicitDefEqProofs only [EQA,Za6,Zq,Nat.reduceAdd,Nat.reduceLT,Nat.reduceLeDiff,Nat.reduceEqDiff,Nat.reduceBEq,ZaG,ZF,Zaw,unG,reduceCtorEq,↓reduceIte,Zd,Zcy,Zcj,Zcx,oI,oN,AVal.cells,a0,a1,a2,a3,e0,e1,d0,oq,Zae,fb,fB,fj,ff,fm,fv,hr,hn,w2,w3,w4,c1,Int.reduceLT,viewAs,ZL,ZI,Zo,Zag,Zai,Zak,Zav,Zay,Zao,List.lookup_cons,List.lookup_nil,bne_self_eq_false]
  ·have v1:(v != 0)=true:=by simpa using v0
   rw [if_neg (fun h=>v0 (hv.2 h.1))]
   simp -implicitDefEqProofs only [EQA,Za6,Zq,Nat.reduceAdd,Nat.reduceLT,Nat.reduceLeDiff,Nat.reduceEqDiff,Nat.reduceBEq,ZaG,ZF,Zaw,reduceCtorEq,↓reduceIte,Zd,Zcy,Zcj,Zcx,oI,oN,AVal.cells,a0,a1,a2,a3,e0,e1,d0,oq,Zae,fb,fB,fj,ff,fm,fv,hr,hn,w2,w3,w4,v1,Int.reduceLT,viewAs,ZL,ZI,Zo,Zag,Zai,Zak,Zav,Zay,Zao,List.lookup_cons,List.lookup_nil]
 ·rw [if_neg h3] at hr ⊢
  have h3b:(p.type == 3)=false:=by simpa using h3
  unfold ZcV orU at *
  clear h3
  generalize Zt p=P at *
  generalize Zt q=Q at *
  generalize p.dup=pd at *
  generalize p.qos=pq at *
  generalize p.retain=pr at *
  generalize p.type=ty at *
  unfold wn at *
  rw [Zbv (by rfl) Zln]
  by_cases v0:v=0
  ·have hL:=hv.1 v0
   subst v0
   by_cases c0:c=0
   ·subst c0
    cases s
    ·rw [if_neg (by simp)]
     simp -implicitDefEqProofs only [EQA,Za6,Zq,Nat.reduceAdd,Nat.reduceLT,Nat.reduceLeDiff,Nat.reduceEqDiff,Nat.reduceBEq,ZaG,unA,ZF,unG,↓reduceIte,Zd,Zcy,Zcj,Zcx,oI,oN,AVal.cells,a0,e0,e1,d0,d1,oq,Zae,fb,fB,fj,ff,fv,fs,hr,hn,h3b,Int.reduceLT,viewAs,ZL,ZI,Zo,Zag,Zai,Zak,Zav,Zay,Zao,List.lookup_cons,List.lookup_nil,bne_self_eq_false]
    ·rw [if_pos ⟨hL,rfl,rfl⟩]
     simp -implicitDefEqProofs only [EQA,Za6,Zq,Nat.reduceAdd,Nat.reduceLT,Nat.reduceLeDiff,Nat.reduceEqDiff,Nat.reduceBEq,ZaG,unA,ZF,unG,↓reduceIte,Zd,Zcy,Zcj,Zcx,oI,oN,AVal.cells,a0,e0,e1,d0,d1,oq,Zae,fb,fB,fj,ff,fv,fs,hr,hn,h3b,Int.reduceLT,viewAs,ZL,ZI,Zo,Zag,Zai,Zak,Zav,Zay,Zao,List.lookup_cons,List.lookup_nil,bne_self_eq_false]
   ·have c1:(c != 0)=true:=by simpa using c0
    rw [if_neg (fun h=>c0 h.2.1)]
    simp -implicitDefEqProofs only [EQA,Za6,Zq,Nat.reduceAdd,Nat.reduceLT,Nat.reduceLeDiff,Nat.reduceEqDiff,Nat.reduceBEq,ZaG,ZF,Zaw,unG,reduceCtorEq,↓reduceIte,Zd,Zcy,Zcj,Zcx,oI,oN,AVal.cells,a0,e0,e1,d0,oq,Zae,fb,fB,fj,ff,fv,hr,hn,h3b,c1,Int.reduceLT,viewAs,ZL,ZI,Zo,Zag,Zai,Zak,Zav,Zay,Zao,List.lookup_cons,List.lookup_nil,bne_self_eq_false]
  ·have v1:(v != 0)=true:=by simpa using v0
   rw [if_neg (fun h=>v0 (hv.2 h.1))]
   simp -implicitDefEqProofs only [EQA,Za6,Zq,Nat.reduceAdd,Nat.reduceLT,Nat.reduceLeDiff,Nat.reduceEqDiff,Nat.reduceBEq,ZaG,ZF,Zaw,reduceCtorEq,↓reduceIte,Zd,Zcy,Zcj,Zcx,oI,oN,AVal.cells,a0,e0,e1,d0,oq,Zae,fb,fB,fj,ff,fv,hr,hn,h3b,v1,Int.reduceLT,viewAs,ZL,ZI,Zo,Zag,Zai,Zak,Zav,Zay,Zao,List.lookup_cons,List.lookup_nil]
theorem ZwY (hb:E1 25 [.ref 0 0,Zaj p] [.var wn]=some (.tup [],[.var wn]))
  (hr:∀ σ sq own,Zk E1 BY σ sq 29 own true [.agg [.int .u8 (ZbX p),.lst false (([]:Zb).map Zc)]]=some (.tup [Zaj q,.int .i64 c],σ,{})) (hq:OkL q) :
  E1 17 [Zaj p] []=some (Ze4 (ZbX p) [] c (ZdV q p),[]):=by
 have fb:=fun {σ:Za} {t sq:Nat}=>Zzb hb (σ:=σ) (t:=t) (sq:=sq)
 have fB:=fun {σ:Za} {sq:Nat}=>Zzy (σ:=σ) (t:=2) (sq:=sq)
 have fj:=fun σ sq own f=>Zbj (ZsA σ sq own f [] (by decide))
 have ff:=fun σ sq own=>Zbj (ZlP p.type σ sq own)
 have fm:=fun b n σ sq own=>Zjt b n σ sq own
 have fv:=fun σ sq own=>Zbj (ZfN σ sq own (([]:Zb).length:Nat))
 have fs:=fun σ sq own=>Zbj (ZrA σ sq own true q p hq)
 have hn:(([]:Zb).map Zc).length=([]:Zb).length:=by simp
 unfold Ze4
 generalize ZdV q p=s at *
 rw [ZbD] at *
 rw [ZbD] at *
 have e0:=ZbR p
 have e1:=Zcn p
 have a0:(Zt p)[0]?=some (.int .i64 p.type):=rfl
 have a1:(Zt p)[1]?=some (.bool p.dup):=rfl
 have a2:(Zt p)[2]?=some (.int .i64 p.qos):=rfl
 have a3:(Zt p)[3]?=some (.bool p.retain):=rfl
 have d0:=ZbR q
 have d1:=Zcn q
 have oq:(Zt q).all ZR=true:=rfl
 have m1:=Zd4 p.dup 8 (by omega)
 have m2:=Zd4 p.retain 1 (by omega)
 have m3:=Zjg p.qos
 have w2:=ZcG (Zv p.qos 3*2) (by omega) (by omega)
 have w3:=ZcG (Zab p.dup 8+Zv p.qos 3*2) (by omega) (by omega)
 have w4:=ZcG (Zab p.dup 8+Zv p.qos 3*2+Zab p.retain 1) (by omega) (by omega)
 clear m1 m2 m3
 unfold ZbX at hr ⊢
 have hv:=Zwc []
 unfold Zet at fv
 generalize (Z2 (([]:Zb).length:Nat)).1=V at *
 generalize (Z2 (([]:Zb).length:Nat)).2=v at *
 simp only [List.map_nil,List.length_nil] at fj hr fv hn hv
 by_cases h3:p.type=3
 ·rw [if_pos h3] at hr ⊢
  rw [h3] at ff a0
  unfold ZcV ZqN orU Zv at *
  clear h3
  generalize Zt p=P at *
  generalize Zt q=Q at *
  generalize p.dup=pd at *
  generalize p.qos=pq at *
  generalize p.retain=pr at *
  unfold wn at *
  rw [Zbv (by rfl) Zln]
  by_cases v0:v=0
  ·have hL:=hv.1 v0
   subst v0
   by_cases c0:c=0
   ·subst c0
    cases s
    ·rw [if_neg (by simp)]
     simp -implicitDefEqProofs only [EQA,Za6,Zq,Nat.reduceAdd,Nat.reduceLT,Nat.reduceLeDiff,Nat.reduceEqDiff,Nat.reduceBEq,ZaG,unA,ZF,unG,↓reduceIte,Zd,Zcy,Zcj,Zcx,oI,oN,AVal.cells,a0,a1,a2,a3,e0,e1,d0,d1,oq,Zae,fb,fB,fj,ff,fm,fv,fs,hr,w2,w3,w4,Int.reduceLT,viewAs,ZL,ZI,Zo,Zag,Zai,Zak,Zav,Zay,Zao,List.lookup_cons,List.lookup_nil,bne_self_eq_false]
    ·rw [if_pos ⟨by decide,rfl,rfl⟩]
     simp -implicitDefEqProofs only [EQA,Za6,Zq,Nat.reduceAdd,Nat.reduceLT,Nat.reduceLeDiff,Nat.reduceEqDiff,Nat.reduceBEq,ZaG,unA,ZF,unG,↓reduceIte,Zd,Zcy,Zcj,Zcx,oI,oN,AVal.cells,a0,a1,a2,a3,e0,e1,d0,d1,oq,Zae,fb,fB,fj,ff,fm,fv,fs,hr,w2,w3,w4,Int.reduceLT,viewAs,ZL,ZI,Zo,Zag,Zai,Zak,Zav,Zay,Zao,List.lookup_cons,List.lookup_nil,bne_self_eq_false]
   ·have c1:(c != 0)=true:=by simpa using c0
    rw [if_neg (fun h=>c0 h.2.1)]
    simp -implicitDefEqProofs only [EQA,Za6,Zq,Nat.reduceAdd,Nat.reduceLT,Nat.reduceLeDiff,Nat.reduceEqDiff,Nat.reduceBEq,ZaG,ZF,Zaw,unG,reduceCtorEq,↓reduceIte,Zd,Zcy,Zcj,Zcx,oI,oN,AVal.cells,a0,a1,a2,a3,e0,e1,d0,oq,Zae,fb,fB,fj,ff,fm,fv,hr,w2,w3,w4,c1,Int.reduceLT,viewAs,ZL,ZI,Zo,Zag,Zai,Zak,Zav,Zay,Zao,List.lookup_cons,List.lookup_nil,bne_self_eq_false]
  ·have v1:(v != 0)=true:=by simpa using v0
   rw [if_neg (fun h=>v0 (hv.2 (by decide)))]
   simp -implicitDefEqProofs only [EQA,Za6,Zq,Nat.reduceAdd,Nat.reduceLT,Nat.reduceLeDiff,Nat.reduceEqDiff,Nat.reduceBEq,ZaG,ZF,Zaw,reduceCtorEq,↓reduceIte,Zd,Zcy,Zcj,Zcx,oI,oN,AVal.cells,a0,a1,a2,a3,e0,e1,d0,oq,Zae,fb,fB,fj,ff,fm,fv,hr,w2,w3,w4,v1,Int.reduceLT,viewAs,ZL,ZI,Zo,Zag,Zai,Zak,Zav,Zay,Zao,List.lookup_cons,List.lookup_nil]
 ·rw [if_neg h3] at hr ⊢
  have h3b:(p.type == 3)=false:=by simpa using h3
  unfold ZcV orU at *
  clear h3
  generalize Zt p=P at *
  generalize Zt q=Q at *
  generalize p.dup=pd at *
  generalize p.qos=pq at *
  generalize p.retain=pr at *
  generalize p.type=ty at *
  unfold wn at *
  rw [Zbv (by rfl) Zln]
  by_cases v0:v=0
  ·have hL:=hv.1 v0
   subst v0
   by_cases c0:c=0
   ·subst c0
    cases s
    ·rw [if_neg (by simp)]
     simp -implicitDefEqProofs only [EQA,Za6,Zq,Nat.reduceAdd,Nat.reduceLT,Nat.reduceLeDiff,Nat.reduceEqDiff,Nat.reduceBEq,ZaG,unA,ZF,unG,↓reduceIte,Zd,Zcy,Zcj,Zcx,oI,oN,AVal.cells,a0,e0,e1,d0,d1,oq,Zae,fb,fB,fj,ff,fv,fs,hr,h3b,Int.reduceLT,viewAs,ZL,ZI,Zo,Zag,Zai,Zak,Zav,Zay,Zao,List.lookup_cons,List.lookup_nil,bne_self_eq_false]
    ·rw [if_pos ⟨by decide,rfl,rfl⟩]
     simp -implicitDefEqProofs only [EQA,Za6,Zq,Nat.reduceAdd,Nat.reduceLT,Nat.reduceLeDiff,Nat.reduceEqDiff,Nat.reduceBEq,ZaG,unA,ZF,unG,↓reduceIte,Zd,Zcy,Zcj,Zcx,oI,oN,AVal.cells,a0,e0,e1,d0,d1,oq,Zae,fb,fB,fj,ff,fv,fs,hr,h3b,Int.reduceLT,viewAs,ZL,ZI,Zo,Zag,Zai,Zak,Zav,Zay,Zao,List.lookup_cons,List.lookup_nil,bne_self_eq_false]
   ·have c1:(c != 0)=true:=by simpa using c0
    rw [if_neg (fun h=>c0 h.2.1)]
    simp -implicitDefEqProofs only [EQA,Za6,Zq,Nat.reduceAdd,Nat.reduceLT,Nat.reduceLeDiff,Nat.reduceEqDiff,Nat.reduceBEq,ZaG,ZF,Zaw,unG,reduceCtorEq,↓reduceIte,Zd,Zcy,Zcj,Zcx,oI,oN,AVal.cells,a0,e0,e1,d0,oq,Zae,fb,fB,fj,ff,fv,hr,h3b,c1,Int.reduceLT,viewAs,ZL,ZI,Zo,Zag,Zai,Zak,Zav,Zay,Zao,List.lookup_cons,List.lookup_nil,bne_self_eq_false]
  ·have v1:(v != 0)=true:=by simpa using v0
   rw [if_neg (fun h=>v0 (hv.2 (by decide)))]
   simp -implicitDefEqProofs only [EQA,Za6,Zq,Nat.reduceAdd,Nat.reduceLT,Nat.reduceLeDiff,Nat.reduceEqDiff,Nat.reduceBEq,ZaG,ZF,Zaw,reduceCtorEq,↓reduceIte,Zd,Zcy,Zcj,Zcx,oI,oN,AVal.cells,a0,e0,e1,d0,oq,Zae,fb,fB,fj,ff,fv,hr,h3b,v1,Int.reduceLT,viewAs,ZL,ZI,Zo,Zag,Zai,Zak,Zav,Zay,Zao,List.lookup_cons,List.lookup_nil]
end
end
section
def Zll (x:UInt8) (B:Zb):AVal:=.tup [.agg [Zc x,.lst false (B.map Zc)],.int .i64 0]
def Zkf:AVal:=.tup [.agg [.int .u8 0,.lst false []],.int .i64 129]
theorem ZKi {args:List AVal} {p:Zs} {x:UInt8} {B:Zb} (h:E1 17 [Zaj p] []=some (Ze4 x.toNat B 0 true,[])) (hB:B.length<=268435455) (hp:args.all Z7=true) (hn:args.map ZG=[Zaj p]) (σ:Za) (sq own:Nat) :
  Zk E1 BY σ sq 17 own true args=some (Zll x B,σ,{}):=by
 unfold Ze4 at h
 rw [if_pos ⟨hB,rfl,rfl⟩] at h
 exact ZbB h (by kernel_rfl) hp hn rfl (fun _=>rfl) σ sq own
theorem ZHp {args:List AVal} {p:Zs} {x c:Int} {B:Zb} {s:Bool} (h:E1 17 [Zaj p] []=some (Ze4 x B c s,[])) (hB:¬(B.length<=268435455/\c=0/\s=true)) (hp:args.all Z7=true) (hn:args.map ZG=[Zaj p]) (σ:Za) (sq own:Nat) :
  Zk E1 BY σ sq 17 own true args=some (Zkf,σ,{}):=by
 unfold Ze4 at h
 rw [if_neg hB] at h
 exact ZbB h (by kernel_rfl) hp hn rfl (fun _=>rfl) σ sq own
def ZpD (x:UInt8) (B:Zb):Zb:=x::((Z2 B.length).1++B)
theorem Zyb (σ:Za) (sq own:Nat) (f:Bool) (x:UInt8) (b c:Zb) (h:1+b.length+c.length<=140737488355328):Zk E BY σ sq 19 own true [.lst f [.lst false [Zc x],.lst false (b.map Zc),.lst false (c.map Zc)]]=some (.lst false ((x::(b++c)).map Zc),σ,{}):=by
 have:=Zhe σ sq own f [x] [b,c] (by simp) (by simp;omega)
 simpa only [List.map_cons,List.map_nil,ZJ,List.flatten_cons,List.flatten_nil,List.append_nil,List.cons_append,List.nil_append] using this
theorem ZKd (p:Zs) (x:UInt8) (B:Zb) (hB:B.length<=268435455) (hF:∀ σ sq own,Zk E1 BY σ sq 17 own true [.agg (Zt p)]=some (Zll x B,σ,{})) :
  E1 12 [Zaj p] []=some (.tup [.lst false ((ZpD x B).map Zc),.int .i64 0],[]):=by
 have hv:=Zgc (B.length:Nat)
 have fv:=fun σ sq own=>Zbj (ZfN σ sq own (B.length:Nat))
 have fj:=fun σ sq own f=>Zbj (Zyb σ sq own f x (Z2 (B.length:Nat)).1 B (by omega))
 have hn:(B.map Zc).length=B.length:=by simp
 rw [ZbD]
 have e0:=ZbR p
 have e1:=Zcn p
 unfold ZpD
 unfold Zet at fv
 unfold Zll at hF
 generalize (Z2 (B.length:Nat)).1=V at *
 generalize (Z2 (B.length:Nat)).2=c at *
 generalize Zt p=P at *
 generalize (x::(V++B)).map Zc=R at *
 generalize hBB:B.map Zc=BB at *
 have bx:Zc x=.int .u8 (x.toNat:Nat):=rfl
 simp only [bx] at fj hF
 rw [Zbv (by rfl) Zu0]
 simp -implicitDefEqProofs only [EQA,Zq,Nat.reduceAdd,Nat.reduceLT,Nat.reduceLeDiff,Nat.reduceEqDiff,Nat.reduceBEq,↓reduceIte,Zd,Zvw,ZkE,Zsm,oI,oN,AVal.cells,e0,e1,hF,fv,fj,hn,bne_self_eq_false,viewAs,ZL,ZI,Zo]
theorem Zw3 (p:Zs) (hF:∀ σ sq own,Zk E1 BY σ sq 17 own true [.agg (Zt p)]=some (Zkf,σ,{})) :
  E1 12 [Zaj p] []=some (.tup [.lst true [],.int .i64 129],[]):=by
 rw [ZbD]
 have e0:=ZbR p
 have e1:=Zcn p
 unfold Zkf at hF
 generalize Zt p=P at *
 rw [Zbv (by rfl) Zu0]
 simp -implicitDefEqProofs only [EQA,Zq,Nat.reduceAdd,Nat.reduceLT,Nat.reduceLeDiff,Nat.reduceEqDiff,Nat.reduceBEq,↓reduceIte,Zd,Zvw,ZkE,Zsm,oI,oN,AVal.cells,e0,e1,hF,Int.reduceBNe]
end
section
def ZgC (p:Zs):Option Zb :=
 if p.type=1 then some (Zen p) else if p.type=2 then some (ZhI p) else if p.type=3 then some (ZkY p)
 else if p.type=4\/p.type=5\/p.type=6\/p.type=7 then some (beB (ZC p.id) 2++ZbL p)
 else if p.type=8 then some (ZbT p++Zd1 p.subs) else if p.type=10 then some (ZbT p++Zei p.filters)
 else if p.type=9\/p.type=11 then some (ZbT p++Zek p.codes)
 else if p.type=14\/p.type=15 then Zc4 p else none
def Zbk (p:Zs):Zb:=(ZgC p).getD []
theorem ZAW (p:Zs) (h:OkW p):E1 25 [.ref 0 0,Zaj p] [.var wn]=some (.tup [],wO (ZgC p)):=by
 unfold ZgC
 by_cases h1:p.type=1
 ·rw [if_pos h1];exact ZwU p h h1
 rw [if_neg h1]
 by_cases h2:p.type=2
 ·rw [if_pos h2];exact ZA9 p h h2
 rw [if_neg h2]
 by_cases h3:p.type=3
 ·rw [if_pos h3];exact ZFM p h h3
 rw [if_neg h3]
 by_cases h4:p.type=4\/p.type=5\/p.type=6\/p.type=7
 ·rw [if_pos h4];exact ZI8 p h h4
 rw [if_neg h4]
 by_cases h8:p.type=8
 ·rw [if_pos h8];exact ZJY p h h8
 rw [if_neg h8]
 by_cases h10:p.type=10
 ·rw [if_pos h10];exact Zyj p h h10
 rw [if_neg h10]
 by_cases h9:p.type=9\/p.type=11
 ·rw [if_pos h9];exact ZBH p h h9
 rw [if_neg h9]
 by_cases h14:p.type=14\/p.type=15
 ·rw [if_pos h14];exact ZCB p h h14
 rw [if_neg h14]
 exact ZF2 p (by omega)
theorem ZF8 (p:Zs):(ZbL p).length<=300000000:=by
 have h1:=ZaN 1 (ZC p.code)
 have h2:=Zdy p.type p.props
 unfold ZbL
 repeat' split
 all_goals simp only [List.length_append,List.length_nil]
 all_goals omega
theorem ZFI (p:Zs) (h:OkW p) (hp:p.payload.length<=1000000):(Zbk p).length<=1000000000000:=by
 have a1:=ZyC p h
 have a2:=ZF8 p
 have a3:=ZaN 2 (ZC p.id)
 have a4:=ZaN 1 (ZC p.code)
 have a5:=ZaN 1 (ZC (Zab p.present 1))
 have a6:=Zdy 2 p.props
 have a7:=Zdy 3 p.props
 have a8:=ZcT p.topic
 have a9:=ZjL p h
 have b1:=ZEl p.subs
 have b2:=ZMI p.filters
 have b3:=ZMl p.codes
 have c1:=h.subs.1
 have c2:=h.filters.1
 have c3:=h.codes
 have a10:(Zmq p).length<=70000:=by
  unfold Zmq
  split
  ·rw [List.length_append];omega
  ·omega
 have a11:((Zc4 p).getD []).length<=300000000:=by
  unfold Zc4
  split
  ·simpa using a2
  ·simp
 unfold Zbk ZgC
 generalize Zc4 p=ro at *
 repeat' split
 all_goals try simp only [Option.getD_some,Option.getD_none,List.length_append,List.length_nil,ZhI,ZkY]
 all_goals omega
theorem Zgo {w:Int} {b:Zb} {l:List Zm} {r:Zb} (h:Zbt w b=.ok (l,r)):l.length<=268435455:=by
 unfold Zbt at h
 split at h
 ·injection h with h
  injection h with h1 h2
  rw [<-h1];exact ZKP w b
 ·cases h
theorem ZsY {α:Type} {one:Zb->RK α}:∀ {n:Nat} {l:Zb} {ts:List α},ZaL one n l=.ok ts->ts.length<=n
 | 0,l,ts,h=>by
  unfold ZaL at h
  split at h
  ·injection h with h;subst h;simp
  ·cases h
 | n+1,l,ts,h=>by
  unfold ZaL at h
  split at h
  ·injection h with h;subst h;simp
  ·split at h
   ·cases h
   ·split at h
    ·cases h
    ·rename_i t ht
     injection h with h;subst h
     have:=ZsY ht
     simp;omega
theorem Zqw {α:Type} {one:Zb->RK α} {k:Int} {l:Zb} {n:Int} {ps:List Zm} {ts:List α} (h:Zbw one k l=.ok (n,ps,ts)):ps.length<=268435455/\ts.length<=l.length:=by
 unfold Zbw at h
 split at h
 ·cases h
 rename_i n' ps' r hm
 have l1:=ZiV hm
 split at h
 ·cases h
 rename_i us hu
 injection h with h;injection h with e1 h;injection h with e2 e3;subst e1 e2 e3
 have:=ZsY hu
 refine ⟨?_,by omega⟩
 unfold Zc0 at hm
 split at hm
 ·cases hm
 split at hm
 ·cases hm
 rename_i hp
 split at hm
 ·cases hm
 injection hm with hm;injection hm with _ hm;injection hm with e _;subst e
 exact Zgo hp
theorem ZFe {k:Int} {l:Zb} {c:Int} {ps:Option (List Zm)} {r:Zb} (h:Zcs k l=.ok ((c,ps),r)):(ps.getD []).length<=268435455:=by
 unfold Zcs at h
 split at h
 ·injection h with h;injection h with h _;injection h with _ h;subst h;simp
 split at h
 ·cases h
 split at h
 ·injection h with h;injection h with h _;injection h with _ h;subst h;simp
 split at h
 ·cases h
 rename_i hp
 injection h with h;injection h with h _;injection h with _ h;subst h
 exact Zgo hp
theorem ZcM:OkL Zan:=⟨by simp [Zan],by simp [Zan],by simp [Zan],by simp [Zan],by simp [Zan]⟩
theorem Zsk {q q':Zs} {l r:Zb} (h:OkL q) (e:Zee q l=.ok (q',r)):OkL q':=by
 unfold Zee at e
 split at e
 ·cases e
 rename_i c ps r' hr
 injection e with e;injection e with e _;subst e
 have:=ZFe hr
 exact ⟨h.codes,by simp only;omega,h.subs,h.filters,h.wprops⟩
theorem ZAf {q q':Zs} {l r:Zb} (h:OkL q) (e:idQ q l=.ok (q',r)):OkL q':=by
 unfold idQ at e
 split at e
 ·cases e
 rename_i n r1 _
 exact Zsk (q:={ q with id:=n }) ⟨h.codes,h.props,h.subs,h.filters,h.wprops⟩ e
theorem ZOP {q q':Zs} {l r:Zb} (h:OkL q) (e:Zd2 q l=.ok (q',r)):OkL q':=by
 unfold Zd2 at e
 split at e
 ·cases e
 split at e
 case isFalse=>cases e
 split at e
 ·cases e
 split at e
 ·cases e
 rename_i hp
 injection e with e;injection e with e _;subst e
 have:=Zgo hp
 exact ⟨h.codes,by simp only;omega,h.subs,h.filters,h.wprops⟩
theorem ZxQ {b:Bool} {q q':Zs} {l r:Zb} (h:OkL q) (e:ZgF b q l=.ok (q',r)):OkL q':=by
 unfold ZgF at e
 split at e
 ·split at e
  ·cases e
  ·injection e with e;injection e with e _;subst e;exact ⟨h.codes,h.props,h.subs,h.filters,h.wprops⟩
 ·injection e with e;injection e with e _;subst e;exact h
theorem ZDL {b:Bool} {q q':Zs} {l r:Zb} (h:OkL q) (e:ZfH b q l=.ok (q',r)):OkL q':=by
 unfold ZfH at e
 split at e
 ·split at e
  ·cases e
  ·injection e with e;injection e with e _;subst e;exact ⟨h.codes,h.props,h.subs,h.filters,h.wprops⟩
 ·injection e with e;injection e with e _;subst e;exact h
theorem Zy9 {b:Bool} {q q':Zs} {l r:Zb} (h:OkL q) (e:ZfZ b q l=.ok (q',r)):OkL q':=by
 unfold ZfZ at e
 split at e
 ·split at e
  ·cases e
  ·rename_i ps tp d r' hw
   injection e with e;injection e with e _;subst e
   refine ⟨h.codes,h.props,h.subs,h.filters,?_⟩
   unfold Zdw at hw
   split at hw
   ·cases hw
   rename_i hp
   split at hw
   ·cases hw
   split at hw
   ·cases hw
   injection hw with hw;injection hw with e1 _;subst e1
   have:=Zgo hp
   simp only;omega
 ·injection e with e;injection e with e _;subst e;exact h
theorem ZDS {q:Zs} (h:OkL q) (m k:Int) {ps:List Zm} (cl:Zb) (hp:ps.length<=268435455):OkL (headD (ZpS q m) k ps cl):=⟨h.codes,Nat.le_trans hp (by decide),h.subs,h.filters,h.wprops⟩
theorem ZGj {q q':Zs} {l r:Zb} (h:OkL q) (e:Ze9 q l=.ok (q',r)):OkL q':=by
 unfold Ze9 at e
 split at e
 ·cases e
 split at e
 case isFalse=>cases e
 split at e
 ·cases e
 split at e
 case isFalse=>cases e
 split at e
 ·cases e
 split at e
 case isFalse=>cases e
 unfold Zh9 at e
 split at e
 ·cases e
 split at e
 ·cases e
 rename_i hp
 split at e
 ·cases e
 unfold Zia at e
 split at e
 ·cases e
 rename_i hw
 split at e
 ·cases e
 rename_i hu
 exact ZxQ (ZDL (Zy9 (ZDS h _ _ _ (Zgo hp)) hw) hu) e
theorem Zji {x:Except Int (Zs×Zb)} (h:∀ q r,x=.ok (q,r)->OkL q) {q:Zs} (e:ZbZ x=.ok q):OkL q:=by
 unfold ZbZ at e
 split at e
 ·cases e
 rename_i q' r'
 split at e
 ·injection e with e;subst e;exact h _ _ rfl
 ·cases e
theorem ZJ5 {t:Int} {l:Zb} (hl:l.length<=9223372036854775807) {q:Zs} (e:Zcl t l=.ok q):OkL q:=by
 have h0:∀ k:Int,OkL { Zan with type:=k }:=fun k=>⟨ZcM.codes,ZcM.props,ZcM.subs,ZcM.filters,ZcM.wprops⟩
 unfold Zcl at e
 split at e
 ·exact Zji (fun _ _ h=>ZGj (h0 1) h) e
 split at e
 ·exact Zji (fun _ _ h=>ZOP (h0 2) h) e
 split at e
 ·exact Zji (fun _ _ h=>ZAf (h0 t) h) e
 split at e
 ·unfold Zjn at e
  split at e
  ·cases e
  rename_i hm
  injection e with e;subst e
  have:=Zqw hm
  exact ⟨(h0 8).codes,by simp only;omega,by simp only;omega,(h0 8).filters,(h0 8).wprops⟩
 split at e
 ·unfold Zjb at e
  split at e
  ·cases e
  rename_i hm
  injection e with e;subst e
  have:=Zqw hm
  exact ⟨(h0 8).codes,by simp only;omega,(h0 8).subs,by simp only;omega,(h0 8).wprops⟩
 split at e
 ·unfold Zgw at e
  split at e
  ·cases e
  rename_i hm
  injection e with e;subst e
  have:=Zqw hm
  exact ⟨by simp only;omega,by simp only;omega,(h0 8).subs,(h0 8).filters,(h0 8).wprops⟩
 split at e
 ·exact Zji (fun _ _ h=>Zsk (h0 t) h) e
 ·exact Zji (fun q r h=>by injection h with h;injection h with h _;subst h;exact h0 t) e
theorem ZKr {qos:Int} {l:Zb} {tp:Zb} {n:Int} {ps:List Zm} {q:Zb} (e:ZeT qos l=.ok (tp,n,ps,q)):ps.length<=268435455:=by
 unfold ZeT at e
 split at e
 ·cases e
 split at e
 ·split at e
  ·cases e
  split at e
  ·cases e
  rename_i hp
  injection e with e;injection e with _ e;injection e with _ e;injection e with e _;subst e
  exact Zgo hp
 ·split at e
  ·cases e
  rename_i hp
  injection e with e;injection e with _ e;injection e with _ e;injection e with e _;subst e
  exact Zgo hp
theorem Zs5 (b:Int) (l:Zb) (hl:l.length<=9223372036854775807):OkL (Zc9 b l).1:=by
 unfold Zc9
 split
 ·exact ZcM
 split
 ·unfold ZiC
  split
  ·split
   ·split
    ·exact ZcM
    ·rename_i h
     have:=ZKr h
     exact ⟨ZcM.codes,by simp only;omega,ZcM.subs,ZcM.filters,ZcM.wprops⟩
   ·exact ZcM
  ·exact ZcM
 split
 ·split
  ·exact ZcM
  ·rename_i h
   exact ZJ5 hl h
 ·exact ZcM
theorem Zwo (p:Zs) (h:OkW p) (hp:p.payload.length<=1000000):E1 17 [Zaj p] []=some (Ze4 (ZbX p) (Zbk p) (Zc9 (ZbX p) (Zbk p)).2 (ZdV (Zc9 (ZbX p) (Zbk p)).1 p),[]):=by
 have hb:=ZAW p h
 have hl:=ZFI p h hp
 have hw:=Ztx p
 unfold Zbk at hl ⊢
 cases hB:ZgC p with
 | none =>
  rw [hB] at hb
  exact ZwY p _ _ hb (fun σ sq own=>ZrM _ hw [] (by decide) false σ sq own) (Zs5 _ _ (by decide))
 | some B =>
  rw [hB] at hb hl
  simp only [Option.getD_some] at hl ⊢
  exact ZPk p _ _ B hb (by omega) (fun σ sq own=>ZrM _ hw B (by omega) false σ sq own) (Zs5 _ _ (by omega))
def Zde (p:Zs):Prop:=(Zbk p).length<=268435455/\Zc9 (ZbX p) (Zbk p)=(p,0)
instance (p:Zs):Decidable (Zde p):=inferInstanceAs (Decidable (_/\_))
def ZjC (p:Zs):UInt8:=UInt8.ofNat (ZbX p).toNat
theorem Zy1 (p:Zs):((ZjC p).toNat:Int)=ZbX p:=by
 have:=Ztx p
 unfold ZjC
 rw [UInt8.toNat_ofNat']
 omega
section
variable (p:Zs) (h:OkW p) (hp:p.payload.length<=1000000)
include h hp
theorem ZuB:Zde p↔((Zbk p).length<=268435455/\(Zc9 (ZbX p) (Zbk p)).2=0/\ZdV (Zc9 (ZbX p) (Zbk p)).1 p=true):=by
 unfold Zde
 rw [Zyz]
 constructor
 ·rintro ⟨h1,h2⟩
  rw [h2];exact ⟨h1,rfl,rfl⟩
 ·rintro ⟨h1,h2,h3⟩
  exact ⟨h1,Prod.ext h3 h2⟩
theorem ZAH (hg:Zde p) (args:List AVal) (ha:args.all Z7=true) (hn:args.map ZG=[Zaj p]) (σ:Za) (sq own:Nat):Zk E1 BY σ sq 17 own true args=some (Zll (ZjC p) (Zbk p),σ,{}):=by
 have hF:=Zwo p h hp
 obtain ⟨h1,h2,h3⟩:=(ZuB p h hp).1 hg
 rw [h2,h3,<-Zy1 p] at hF
 exact ZKi (by rw [hF]) h1 ha hn σ sq own
theorem ZDn (hg:¬Zde p) (args:List AVal) (ha:args.all Z7=true) (hn:args.map ZG=[Zaj p]) (σ:Za) (sq own:Nat):Zk E1 BY σ sq 17 own true args=some (Zkf,σ,{}) :=
 ZHp (Zwo p h hp) (fun e=>hg ((ZuB p h hp).2 e)) ha hn σ sq own
theorem Zlu (p:Zs):([AVal.agg (Zt p)].all Z7=true)/\[AVal.agg (Zt p)].map ZG=[Zaj p]:=⟨by rw [List.all_cons,ZdX];rfl,by rw [List.map_cons,Zd6];rfl⟩
def Zse (p:Zs):Zb:=ZpD (ZjC p) (Zbk p)
theorem Zu9 (hg:Zde p) (args:List AVal) (ha:args.all Z7=true) (hn:args.map ZG=[Zaj p]) (σ:Za) (sq own:Nat):Zk E1 BY σ sq 12 own true args=some (.tup [.lst false ((Zse p).map Zc),.int .i64 0],σ,{}) :=
 ZbB (ZKd p (ZjC p) (Zbk p) hg.1 fun σ sq own=>ZAH p h hp hg _ (Zlu p h hp p).1 (Zlu p h hp p).2 σ sq own) (by kernel_rfl) ha hn rfl (fun _=>rfl) σ sq own
theorem ZEV (hg:¬Zde p) (args:List AVal) (ha:args.all Z7=true) (hn:args.map ZG=[Zaj p]) (σ:Za) (sq own:Nat):Zk E1 BY σ sq 12 own true args=some (.tup [.lst false [],.int .i64 129],σ,{}) :=
 ZbB (Zw3 p fun σ sq own=>ZDn p h hp hg _ (Zlu p h hp p).1 (Zlu p h hp p).2 σ sq own) (by kernel_rfl) ha hn rfl (fun _=>rfl) σ sq own
end
end
section
theorem Zvn (rest:Zb):∀ (b:Zb) (i n:Nat),(gvA i n b).2.2=0->gvA i n (b++rest)=gvA i n b
 | [],i,n,h=>by
  unfold gvA at h
  split at h <;> simp at h
 | c::r,i,n,h=>by
  rw [List.cons_append]
  unfold gvA at h ⊢
  split at h
  ·simp at h
  ·rename_i h4
   rw [if_neg h4,if_neg h4]
   split at h
   ·rename_i hc
    rw [if_pos hc,if_pos hc]
   ·rename_i hc
    rw [if_neg hc,if_neg hc]
    exact Zvn rest r (i+1) _ h
theorem ZJT (b rest:Zb) (h:(ZS b).2.2=0):ZS (b++rest)=ZS b:=Zvn rest b 0 0 h
theorem Zyr (w:Int) (b rest:Zb) (h:(ZV w b).2.2=0):ZV w (b++rest)=ZV w b:=by
 have hx:¬((ZS b).2.2≠0\/((ZS b).1:Int) > (b.length:Int) - ((ZS b).2.1:Nat)):=by
  intro hx
  unfold ZV at h
  rw [if_pos hx] at h
  simp at h
 have h1:(ZS b).2.2=0:=Classical.byContradiction fun e=>hx (Or.inl e)
 have h2:¬(((ZS b).1:Int) > (b.length:Int) - ((ZS b).2.1:Nat)):=fun e=>hx (Or.inr e)
 have hg:=ZJT b rest h1
 have hle:(ZS b).2.1+(ZS b).1<=b.length:=by omega
 have ht:(b++rest).take ((ZS b).2.1+(ZS b).1)=b.take ((ZS b).2.1+(ZS b).1):=List.take_append_of_le_length hle
 have hl:(b++rest).length=b.length+rest.length:=List.length_append
 have hx':¬((ZS b).2.2≠0\/((ZS b).1:Int) > ((b++rest).length:Int) - ((ZS b).2.1:Nat)):=by
  rintro (e | e)
  ·exact e h1
  ·rw [hl] at e;omega
 unfold ZV
 rw [hg,ht,if_neg hx,if_neg hx']
theorem ZBI (w:Int) (l:List Zm):(ZV w (Zap w l).1=(l,(Zap w l).1.length,0)/\(Zap w l).2=0)\/((Zap w l).1=[]/\(Zap w l).2≠0):=by
 unfold Zap Ze8
 generalize (l.map ZaJ).flatten=b
 by_cases h:(Z2 b.length).2≠0
 ·rw [if_pos h];exact Or.inr ⟨rfl,by decide⟩
 ·rw [if_neg h]
  split
  ·exact Or.inr ⟨rfl,by decide⟩
  ·rename_i h2
   refine Or.inl ⟨?_,rfl⟩
   have h0:(ZV w ((Z2 b.length).1++b)).2.2=0:=Classical.byContradiction fun e=>h2 (Or.inl e)
   have h1:(ZV w ((Z2 b.length).1++b)).2.1=((Z2 b.length).1++b).length:=Classical.byContradiction fun e=>h2 (Or.inr (Or.inl e))
   have h3:(ZV w ((Z2 b.length).1++b)).1=l:=by
    by_cases e:((ZV w ((Z2 b.length).1++b)).1 == l)=true
    ·exact beq_iff_eq.1 e
    ·exact absurd (Or.inr (Or.inr (by simpa using e))) h2
   simp only
   generalize ZV w ((Z2 b.length).1++b)=R at *
   obtain ⟨a,n,c⟩:=R
   simp only at h0 h1 h3
   rw [h0,h1,h3]
theorem Zts (w:Int) (l:List Zm) (rest:Zb) (h:(Zap w l).2=0):Zbt w ((Zap w l).1++rest)=.ok (l,rest):=by
 rcases ZBI w l with ⟨h1,_⟩ | ⟨_,h2⟩
 ·have h0:(ZV w (Zap w l).1).2.2=0:=by rw [h1]
  unfold Zbt
  rw [Zyr w _ rest h0,h1]
  simp
 ·exact absurd h h2
end
section
end
section
def p7:Zs:={ Zan with type:=4,id:=7,code:=16 }
def b7:Zb:=[0,7,16]
end
section
open Go.RowKit
section
variable {H:Type} {enc:TypeId×Value->H} {P:Program} {w:World} {spare:Nat->Bool} {held:Bool} {R:Nat}
end
end
section
open Go.RowKit
variable {R:Nat}
def okI (n:Int):Prop:=-9223372036854775808<=n/\n<=9223372036854775807
def ZNK (R:Nat) (p:Zm):Prop:=okI p.id/\okI p.num/\p.text.length<=R/\p.pair.length<=R/\p.data.length<=R
def ZvC (R:Nat) (l:List Zm):Prop:=l.length<=R/\∀ p ∈ l,ZNK R p
structure ZQa (R:Nat) (p:Zs):Prop where
 topic:p.topic.length<=R
 payload:p.payload.length<=R
 codes:p.codes.length<=R/\∀ n ∈ p.codes,okI n
 props:ZvC R p.props
 subs:p.subs.length<=R/\∀ s ∈ p.subs,s.filter.length<=R/\okI s.qos/\okI s.handling/\okI s.id
 filters:p.filters.length<=R/\∀ f ∈ p.filters,f.length<=R
 client:p.client.length<=R
 wtopic:p.will.topic.length<=R
 wdata:p.will.data.length<=R
 wprops:ZvC R p.will.props
 user:p.user.length<=R
 password:p.password.length<=R
 ints:okI p.type/\okI p.qos/\okI p.id/\okI p.code/\okI p.keep/\okI p.will.qos
end
section
end
section
def NZ {α:Type} (x:Except Int α):Prop:=∀ e,x=.error e->e≠0
theorem Zbo {α:Type} (a:α):NZ (.ok a:Except Int α):=fun _ h=>by cases h
theorem ZcQ {α:Type} {e:Int} (h:e≠0):NZ (.error e:Except Int α):=fun _ k=>by injection k with k;subst k;exact h
theorem ZgL (n:Nat) (l:Zb):NZ (ZaC n l):=by unfold ZaC;split;exact ZcQ (by decide);exact Zbo _
theorem Zh3 (l:Zb):NZ (Zaq l):=by unfold Zaq;split;exact Zbo _;exact ZcQ (by decide)
theorem Zsz (l:Zb):NZ (ZcJ l):=by unfold ZcJ;split;exact Zbo _;exact ZcQ (by decide)
theorem Zjj (w:Int) (l:Zb):NZ (Zbt w l):=by
 unfold Zbt
 split
 ·exact Zbo _
 ·rename_i h;exact ZcQ h
theorem Za7 {α β:Type} {x:Except Int α} (h:NZ x) {e:Int} (k:x=.error e):NZ (.error e:Except Int β):=ZcQ (h e k)
theorem Zt5 (l:Zb):NZ (idK l):=by
 unfold idK
 split
 ·split
  ·exact ZcQ (by decide)
  ·exact Zbo _
 ·rename_i h;exact Za7 (ZgL 2 l) h
theorem Zra (k:Int) (l:Zb):NZ (ZaB k l):=by
 unfold ZaB
 split
 ·split
  ·exact Zbo _
  ·exact ZcQ (by decide)
 ·rename_i h;exact Za7 (ZgL 1 l) h
theorem ZFl (k:Int) (l:Zb):NZ (Zcs k l):=by
 unfold Zcs
 split
 ·exact Zbo _
 split
 ·rename_i h;exact Za7 (Zra k l) h
 split
 ·exact Zbo _
 split
 ·rename_i h;exact Za7 (Zjj k _) h
 ·exact Zbo _
theorem ZMs (l:Zb):NZ (Zbp l):=by
 unfold Zbp
 split
 ·rename_i h;exact Za7 (Zh3 l) h
 split
 ·rename_i h;exact Za7 (ZgL 1 _) h
 split
 ·split
  ·exact Zbo _
  ·exact ZcQ (by decide)
 ·exact ZcQ (by decide)
theorem ZwE {α:Type} {one:Zb->RK α} (h1:∀ l,NZ (one l)) (hlen:∀ {l s r},one l=.ok (s,r)->r.length < l.length):∀ (n:Nat) (l:Zb),l.length<=n->NZ (ZaL one n l)
 | 0,l,h=>by
  unfold ZaL
  rw [if_pos (by omega)]
  exact Zbo _
 | n+1,l,h=>by
  unfold ZaL
  split
  ·exact Zbo _
  split
  ·rename_i k;exact Za7 (h1 l) k
  ·rename_i s r k
   have:=hlen k
   split
   ·rename_i k2;exact Za7 (ZwE h1 hlen n r (by omega)) k2
   ·exact Zbo _
theorem ZAX (k:Int) (l:Zb):NZ (Zc0 k l):=by
 unfold Zc0
 split
 ·rename_i h;exact Za7 (Zt5 l) h
 split
 ·rename_i h;exact Za7 (Zjj k _) h
 split
 ·exact ZcQ (by decide)
 ·exact Zbo _
theorem Zn8 {α:Type} {one:Zb->RK α} (h1:∀ l,NZ (one l)) (hlen:∀ {l s r},one l=.ok (s,r)->r.length < l.length) (k:Int) (l:Zb):NZ (Zbw one k l):=by
 unfold Zbw
 split
 ·rename_i h;exact Za7 (ZAX k l) h
 split
 ·rename_i h;exact Za7 (ZwE h1 hlen _ _ (Nat.le_refl _)) h
 ·exact Zbo _
theorem Ziz {x:Except Int (Zs×Zb)} (h:NZ x):NZ (ZbZ x):=by
 unfold ZbZ
 split
 ·exact Za7 h rfl
 split
 ·exact Zbo _
 ·exact ZcQ (by decide)
theorem Zt8 (q:Zs) (l:Zb):NZ (Zee q l):=by
 unfold Zee
 split
 ·rename_i h;exact Za7 (ZFl _ l) h
 ·exact Zbo _
theorem ZzB (q:Zs) (l:Zb):NZ (idQ q l):=by
 unfold idQ
 split
 ·rename_i h;exact Za7 (Zt5 l) h
 ·exact Zt8 _ _
theorem ZEg (q:Zs) (l:Zb):NZ (Zd2 q l):=by
 unfold Zd2
 split
 ·rename_i h;exact Za7 (ZgL 1 l) h
 split
 ·split
  ·rename_i h;exact Za7 (Zra 2 _) h
  split
  ·rename_i h;exact Za7 (Zjj 2 _) h
  ·exact Zbo _
 ·exact ZcQ (by decide)
theorem ZFN (b:Bool) (q:Zs) (l:Zb):NZ (ZgF b q l):=by
 unfold ZgF
 split
 ·split
  ·rename_i h;exact Za7 (Zsz l) h
  ·exact Zbo _
 ·exact Zbo _
theorem ZBU (b:Bool) (q:Zs) (l:Zb):NZ (ZfH b q l):=by
 unfold ZfH
 split
 ·split
  ·rename_i h;exact Za7 (Zh3 l) h
  ·exact Zbo _
 ·exact Zbo _
theorem ZAo (l:Zb):NZ (Zdw l):=by
 unfold Zdw
 split
 ·rename_i h;exact Za7 (Zjj 16 l) h
 split
 ·rename_i h;exact Za7 (Zh3 _) h
 split
 ·rename_i h;exact Za7 (Zsz _) h
 ·exact Zbo _
theorem ZBm (b:Bool) (q:Zs) (l:Zb):NZ (ZfZ b q l):=by
 unfold ZfZ
 split
 ·split
  ·rename_i h;exact Za7 (ZAo l) h
  ·exact Zbo _
 ·exact Zbo _
theorem ZyM (m:Int) (q:Zs) (l:Zb):NZ (Zia m q l):=by
 unfold Zia
 split
 ·rename_i h;exact Za7 (ZBm _ q l) h
 split
 ·rename_i h;exact Za7 (ZBU _ _ _) h
 ·exact ZFN _ _ _
theorem ZyR (q:Zs) (m:Int) (l:Zb):NZ (Zh9 q m l):=by
 unfold Zh9
 split
 ·rename_i h;exact Za7 (ZgL 2 l) h
 split
 ·rename_i h;exact Za7 (Zjj 1 _) h
 split
 ·rename_i h;exact Za7 (Zh3 _) h
 ·exact ZyM _ _ _
theorem ZJU (q:Zs) (l:Zb):NZ (Ze9 q l):=by
 unfold Ze9
 split
 ·rename_i h;exact Za7 (Zh3 l) h
 split
 case isFalse=>exact ZcQ (by decide)
 split
 ·rename_i h;exact Za7 (ZgL 1 _) h
 split
 case isFalse=>exact ZcQ (by decide)
 split
 ·rename_i h;exact Za7 (ZgL 1 _) h
 split
 case isFalse=>exact ZcQ (by decide)
 exact ZyR _ _ _
theorem ZI0 (t:Int) (l:Zb):NZ (Zcl t l):=by
 unfold Zcl
 split
 ·exact Ziz (ZJU _ l)
 split
 ·exact Ziz (ZEg _ l)
 split
 ·exact Ziz (ZzB _ l)
 split
 ·unfold Zjn
  split
  ·rename_i h;exact Za7 (Zn8 ZMs ZhD 8 l) h
  ·exact Zbo _
 split
 ·unfold Zjb
  split
  ·rename_i h;exact Za7 (Zn8 Zh3 Zkd 10 l) h
  ·exact Zbo _
 split
 ·unfold Zgw
  split
  ·rename_i h;exact Za7 (Zn8 (Zra _) ZiU _ l) h
  ·exact Zbo _
 split
 ·exact Ziz (Zt8 _ l)
 ·exact Ziz (Zbo _)
theorem ZrR {b:Int} (h0:tyI b≠0) (h3:tyI b≠3) (hf:Zbf b 15=Zc3 (tyI b)) (l:Zb):Zc9 b l=match Zcl (tyI b) l with
  | .error e=>(Zan,e)
  | .ok q=>(q,0):=by
 unfold Zc9
 rw [if_neg h0,if_neg h3,if_pos hf]
 all_goals rfl
end
section
theorem Zqh {w:Nat} {x:Int} (r:Zb) (hw:w<=4) (h0:0<=x) (h:x.toNat < 256 ^ w):ZaC w (beB (ZC x) w++r)=.ok (x,r):=by
 have hl:=ZaN w (ZC x)
 have hu:ZC x=x.toNat:=by
  refine Zvs h0 ?_
  have : (256:Nat) ^ w<=256 ^ 4:=Nat.pow_le_pow_right (by omega) hw
  have e4:(256:Nat) ^ 4=4294967296:=rfl
  omega
 have hp:(256:Nat) ^ w<=4294967296:=by
  have : (256:Nat) ^ w<=256 ^ 4:=Nat.pow_le_pow_right (by omega) hw
  have e4:(256:Nat) ^ 4=4294967296:=rfl
  omega
 have hx:ZC x<=4294967296:=by rw [hu];omega
 unfold ZaC
 rw [if_neg (by rw [List.length_append];omega),List.take_append_of_le_length (by omega),List.take_of_length_le (by omega),List.drop_append_of_le_length (by omega),List.drop_of_length_le (by omega),List.nil_append,hu,ZA7 (by omega) h (by omega)]
 have : ((x.toNat:Nat):Int)=x:=by omega
 rw [this]
theorem Znc (k:Int) {x:Int} (r:Zb) (h0:0<=x) (h:x<=255):ZaB k (beB (ZC x) 1++r)=if Zcw k x=true then .ok (x,r) else .error 130:=by
 unfold ZaB
 rw [Zqh r (by omega) (by omega) (by have : (256:Nat) ^ 1=256:=rfl;omega)]
theorem Zui (w:Int):(Zap w []).2=0/\(Zap w []).1=[0]:=by
 have e:Zap w []=([0],0):=by kernel_rfl
 rw [e];exact ⟨rfl,rfl⟩
theorem ZJZ (w:Int) (r:Zb):Zbt w ((Zap w []).1++r)=.ok ([],r):=Zts w [] r (Zui w).1
theorem ZvK {p:Zs} (h3:p.type≠3) (ht:tyI (ZcV p.type)=p.type) (h0:p.type≠0) (hf:Zbf (ZcV p.type) 15=Zc3 p.type) (hl:(Zbk p).length<=268435455):Zde p↔Zcl p.type (Zbk p)=.ok p:=by
 have hw:ZbX p=ZcV p.type:=if_neg h3
 unfold Zde
 rw [hw,ZrR (by rw [ht];exact h0) (by rw [ht];exact h3) (by rw [ht];exact hf),ht]
 constructor
 ·rintro ⟨_,h⟩
  cases hb:Zcl p.type (Zbk p) with
  | error e =>
   rw [hb] at h
   injection h with _ h
   exact absurd h (ZI0 _ _ _ hb)
  | ok q =>
   rw [hb] at h
   injection h with h _
   rw [h]
 ·intro h
  rw [h]
  exact ⟨hl,rfl⟩
section
variable (c id:Int) (hc:0<=c/\c<=255) (hi:1<=id/\id<=4096)
include hc hi
theorem ZHq (p:Zs) (h:p.type=2):Zbk p=ZhI p:=by
 unfold Zbk ZgC
 rw [if_neg (by omega),if_pos h]
 rfl
theorem ZsT:Zde { Zan with type:=2,code:=c }↔Zcw 2 c=true:=by
 have hB:Zbk { Zan with type:=2,code:=c }=beB (ZC 0) 1++(beB (ZC c) 1++((Zap 2 []).1++[])):=by
  rw [ZHq c id hc hi _ rfl,List.append_nil,<-List.append_assoc]
  rfl
 have hl:(Zbk { Zan with type:=2,code:=c }).length<=268435455:=by
  rw [hB,(Zui 2).2,List.length_append,List.length_append,ZaN,ZaN];simp
 have hg:=ZvK (p:={ Zan with type:=2,code:=c }) (show (2:Int)≠3 by decide) (show tyI (ZcV 2)=2 by decide) (show (2:Int)≠0 by decide) (show Zbf (ZcV 2) 15=Zc3 2 by decide) hl
 rw [hg,hB]
 generalize hp:({ Zan with type:=2,code:=c }:Zs)=p
 have ht:p.type=2:=by rw [<-hp]
 rw [ht]
 have hb:∀ l,Zcl 2 l=ZbZ (Zd2 { Zan with type:=2 } l):=fun l=>by
  unfold Zcl
  rw [if_neg (by decide),if_pos rfl]
 rw [hb]
 unfold Zd2
 rw [Zqh _ (by omega) (by omega) (by decide)]
 simp only
 rw [if_pos (by decide),Znc 2 _ hc.1 hc.2]
 by_cases hx:Zcw 2 c=true
 ·rw [if_pos hx]
  simp only
  rw [ZJZ]
  simp only [List.length_nil,if_true,ZbZ,hx,iff_true]
  rw [<-hp]
  rfl
 ·rw [if_neg hx]
  constructor
  ·intro h;cases h
  ·intro h;exact absurd h hx
end
end
section
def ZcN (c:Int):Zs:={ Zan with type:=2,code:=c }
theorem ZLr (k c:Int) (h:Zcw k c=true):0<=c/\c<=255:=by
 unfold Zcw Zft at h
 repeat' split at h
 all_goals simp only [List.any_cons,List.any_nil,Zfs,Bool.or_eq_true,Bool.and_eq_true,decide_eq_true_eq,Bool.or_false] at h
 all_goals first | omega | (rcases h with h | h <;> omega) | cases h
theorem ZDM (c:Int):beB (ZC c) 1=beB (ZC (c % 256)) 1:=by
 have h:ZC c % 256=ZC (c % 256) % 256:=by unfold ZC;omega
 simp only [beB,h]
theorem ZoZ (c:Int):Zbk (ZcN c)=beB (ZC 0) 1++(beB (ZC c) 1++((Zap 2 []).1++[])):=by
 rw [show Zbk (ZcN c)=ZhI (ZcN c) from rfl,List.append_nil,<-List.append_assoc]
 rfl
theorem ZIa (c:Int) (h0:0<=c) (h:c<=255) (hx:Zcw 2 c=false):Zcl 2 (Zbk (ZcN c))=.error 130:=by
 rw [ZoZ]
 have hb:∀ l,Zcl 2 l=ZbZ (Zd2 { Zan with type:=2 } l):=fun l=>rfl
 rw [hb]
 unfold Zd2
 rw [Zqh _ (by omega) (by omega) (by decide)]
 simp only
 rw [if_pos (by decide),Znc 2 _ h0 h,if_neg (by rw [hx];simp)]
 rfl
theorem ZsX (c:Int):Zde (ZcN c)↔Zcw 2 c=true:=by
 by_cases hc:0<=c/\c<=255
 ·exact ZsT c 1 hc (by decide)
 ·have h2:¬Zcw 2 c=true:=fun h=>hc (ZLr 2 c h)
  refine iff_of_false (fun hg=>?_) h2
  have hc':0<=c % 256/\c % 256<=255:=by omega
  have hbody:Zbk (ZcN c)=Zbk (ZcN (c % 256)):=by
   rw [ZoZ,ZoZ,ZDM c]
  have hfst:ZbX (ZcN c)=ZbX (ZcN (c % 256)):=rfl
  have h1:=hg.2
  rw [hbody,hfst] at h1
  cases hx:Zcw 2 (c % 256) with
  | true =>
   have h3:=((ZsT (c % 256) 1 hc' (by decide)).2 hx).2
   have h4:(ZcN c,(0:Int))=(ZcN (c % 256),0):=h1.symm.trans h3
   have h5:c=c % 256:=congrArg (fun x=>x.1.code) h4
   omega
  | false =>
   have h3:=ZIa (c % 256) hc'.1 hc'.2 hx
   rw [show ZbX (ZcN (c % 256))=ZcV 2 from rfl,ZrR (by decide) (by decide) (by decide),show tyI (ZcV 2)=2 by decide,h3] at h1
   cases h1
theorem ZfY:Zbm 21=5/\Zbm 22=6/\Zdm 21 15=true/\Zdm 22 15=true:=by decide +kernel
theorem Zy5 {acc:List Zm} (h:ZdZ 21 acc=none):Zl6 15 acc ⟨21,0,[112,114,111,111,102],[],[]⟩:=by
 refine ⟨?_,ZfY.2.2.1,?_,?_,?_⟩
 ·unfold ZhF okV
  simp [ZfY.1]
  decide +kernel
 ·unfold ZlN;simp [ZfY.1]
 ·unfold Zfr;simp [ZfY.1]
 ·simp [h]
theorem Zx5 {acc:List Zm} (b:Zb) (hl:b.length<=65535) (h:ZdZ 22 acc=none):Zl6 15 acc ⟨22,0,[],[],b⟩:=by
 refine ⟨?_,ZfY.2.2.2,?_,?_,?_⟩
 ·unfold ZhF okV
  simp [ZfY.2.1,ZLY hl]
 ·unfold ZlN;simp [ZfY.2.1]
 ·unfold Zfr;simp [ZfY.2.1]
 ·simp [h]
theorem ZN8 (p:Zs) (ht:p.type=15) (hc:p.code=24) (hp:p.props≠[]):Zbk p=beB (ZC 24) 1++((Zap 15 p.props).1++[]):=by
 have hn:p.code≠0:=by omega
 unfold Zbk ZgC
 rw [if_neg (by omega),if_neg (by omega),if_neg (by omega),if_neg (by omega),if_neg (by omega),if_neg (by omega),if_neg (by omega),if_pos (by omega)]
 unfold Zc4
 rw [if_pos (Or.inl hn)]
 unfold ZbL
 rw [if_pos (Or.inl hn),if_pos hp,ht,hc,List.append_nil]
 rfl
theorem ZBR (l:Zb):Zcl 15 l=ZbZ (Zee { Zan with type:=15 } l):=rfl
theorem ZwW (P:List Zm) (h0:(Zap 15 P).2=0) (hne:(Zap 15 P).1.length≠0):Zcl 15 (beB (ZC 24) 1++((Zap 15 P).1++[]))=.ok { Zan with type:=15,code:=24,props:=P }:=by
 rw [ZBR]
 unfold Zee Zcs
 rw [if_neg (by rw [List.length_append,ZaN];omega)]
 simp only
 rw [Znc 15 _ (by decide) (by decide),if_pos (by decide)]
 simp only
 rw [if_neg (by rw [List.append_nil];exact hne),Zts 15 _ [] h0]
 rfl
def Zhd (P:List Zm):Zs:={ Zan with type:=15,code:=24,props:=P }
theorem ZGx (P:List Zm) (hs:Zi8 15 [] P) (hb:(P.map ZaJ).flatten.length<=1000000) (hn:0 < (P.map ZaJ).flatten.length) (hp:P≠[]):Zde (Zhd P):=by
 have hL:=ZLj 15 P hs (by omega)
 have h0:(Zap 15 P).2=0:=by rw [hL]
 have hne:(Zap 15 P).1.length≠0:=by
  rw [hL]
  simp only [List.length_append]
  omega
 have hB:Zbk (Zhd P)=beB (ZC 24) 1++((Zap 15 P).1++[]):=ZN8 (Zhd P) rfl rfl hp
 have hl:(Zbk (Zhd P)).length<=268435455:=by
  rw [hB,hL]
  have h3:=Zgc ((P.map ZaJ).flatten.length:Nat)
  simp only [List.length_append,ZaN,List.length_nil]
  omega
 have hg:=ZvK (p:=Zhd P) (show (15:Int)≠3 by decide) (show tyI (ZcV 15)=15 by decide) (show (15:Int)≠0 by decide) (show Zbf (ZcV 15) 15=Zc3 15 by decide) hl
 refine hg.2 ?_
 rw [hB]
 exact ZwW P h0 hne
def Zgj:Zm:=⟨21,0,[112,114,111,111,102],[],[]⟩
def Zb3 (b:Zb):List Zm:=[Zgj,⟨22,0,[],[],b⟩]
def ZkD (b:Zb):Zs:=Zhd (Zb3 b)
theorem ZK5 (b:Zb) (h:b.length<=60):Zde (ZkD b):=by
 have hf:ZdZ 22 ([]++[Zgj])=none:=by decide
 have h1:=Zlm Zgj
 have h2:=Zlm ⟨22,0,[],[],b⟩
 have h3:=Zvx Zgj (by decide)
 have e:((Zb3 b).map ZaJ).flatten.length=(ZaJ Zgj).length+((ZaJ ⟨22,0,[],[],b⟩).length+0):=by
  simp only [Zb3,List.map_cons,List.map_nil,List.flatten_cons,List.flatten_nil,List.length_append,List.length_nil]
 exact ZGx (Zb3 b) ⟨Zy5 rfl,Zx5 b (by omega) hf,trivial⟩ (by omega) (by omega) (fun e=>by cases e)
end
section
end
section
def Zg5:Ze:=(.seq (.region [oI 3 (.box (.t 0)),oI 6 (.alloc [(.int .i64 0),(.bool false),(.int .i64 0),(.bool false),(.int .i64 0),(.str []),(.lst true []),(.int .i64 0),(.lst true []),(.lst true []),(.lst true []),(.lst true []),(.bool false),(.int .i64 0),(.str []),(.bool false),(.str []),(.lst true []),(.int .i64 0),(.bool false),(.lst true []),(.bool false),(.str []),(.bool false),(.lst true []),(.bool false)])] none [6,3,2,1]) (.seq (.region [oI 8 (.mov (.t 2)),oI 9 (.build [(.int .i64 0),(.int .i64 0),(.str []),(.str []),(.lst true [])] [(0,1,(.c (.int .i64 33))),(1,1,(.c (.int .i64 8)))]),oI 10 (.build [(.int .i64 0),(.int .i64 0),(.str []),(.str []),(.lst true [])] [(0,1,(.c (.int .i64 39))),(1,1,(.c (.int .i64 512)))]),oI 11 (.build [(.int .i64 0),(.int .i64 0),(.str []),(.str []),(.lst true [])] [(0,1,(.c (.int .i64 34))),(1,1,(.c (.int .i64 4)))]),oI 12 (.bslice false 5 3 (.agg [(.int .i64 0),(.int .i64 0),(.str []),(.str []),(.lst true [])]) [(0,(.t 9)),(1,(.t 10)),(2,(.t 11))]),oI 13 (.build [(.int .i64 0),(.bool false),(.int .i64 0),(.bool false),(.int .i64 0),(.str []),(.lst true []),(.int .i64 0),(.lst true []),(.lst true []),(.lst true []),(.lst true []),(.bool false),(.int .i64 0),(.str []),(.bool false),(.str []),(.lst true []),(.int .i64 0),(.bool false),(.lst true []),(.bool false),(.str []),(.bool false),(.lst true []),(.bool false)] [(0,1,(.c (.int .i64 2))),(25,1,(.t 8)),(9,1,(.t 12))]),oI 7 (.alloc [(.int .i64 0),(.bool false),(.int .i64 0),(.bool false),(.int .i64 0),(.str []),(.lst true []),(.int .i64 0),(.lst true []),(.lst true []),(.lst true []),(.lst true []),(.bool false),(.int .i64 0),(.str []),(.bool false),(.str []),(.lst true []),(.int .i64 0),(.bool false),(.lst true []),(.bool false),(.str []),(.bool false),(.lst true []),(.bool false)]),oN (.st 26 (.t 7) (.t 13))] none [7,6,3,1]) (.seq (.seq (.region [oI 14 (.mov (.t 1))] none [14,7,6,3]) (.cond (.t 14) (.region [oI 15 (.faddr 9 (.t 7)),oI 16 (.ld none (.t 15)),oI 17 (.faddr 0 (.t 3)),oI 18 (.ld none (.t 17)),oI 19 (.build [(.int .i64 0),(.int .i64 0),(.str []),(.str []),(.lst true [])] [(0,1,(.c (.int .i64 18))),(2,1,(.t 18))]),oI 20 (.bslice false 5 1 (.agg [(.int .i64 0),(.int .i64 0),(.str []),(.str []),(.lst true [])]) [(0,(.t 19))]),oI 21 (.app 5 72 (.agg [(.int .i64 0),(.int .i64 0),(.str []),(.str []),(.lst true [])]) (.t 16) (.t 20)),oI 22 (.faddr 9 (.t 7)),oN (.st 1 (.t 22) (.t 21))] none [7,6,3]) .skip)) (.seq (.seq (.region [oI 23 (.faddr 7 (.t 3)),oI 24 (.ld none (.t 23)),oI 25 (.bin .neq (.t 24) (.c (.str [])))] none [25,7,6,3]) (.cond (.t 25) (.region [oI 26 (.faddr 9 (.t 7)),oI 27 (.ld none (.t 26)),oI 28 (.faddr 7 (.t 3)),oI 29 (.ld none (.t 28)),oI 30 (.build [(.int .i64 0),(.int .i64 0),(.str []),(.str []),(.lst true [])] [(0,1,(.c (.int .i64 21))),(2,1,(.t 29))]),oI 31 (.bslice false 5 1 (.agg [(.int .i64 0),(.int .i64 0),(.str []),(.str []),(.lst true [])]) [(0,(.t 30))]),oI 32 (.app 5 72 (.agg [(.int .i64 0),(.int .i64 0),(.str []),(.str []),(.lst true [])]) (.t 27) (.t 31)),oI 33 (.faddr 9 (.t 7)),oN (.st 1 (.t 33) (.t 32))] none [7,6]) .skip)) (.seq (.region [oI 34 (.ld (some 26) (.t 7)),oN (.st 26 (.t 6) (.t 34))] none [6]) .ret)))))
def Zoo:ZD:=⟨[(.cell 6 (some 26))],Zg5⟩
theorem ZAr:FC 5=some Zoo:=by kernel_rfl
theorem Zlr:Zoo.body=Zg5:=rfl
theorem Zk8:Zoo.res=[(.cell 6 (some 26))]:=rfl
def ZqJ:Ze:=(.seq (.region [oI 2 (.alloc [(.int .i64 0),(.bool false),(.int .i64 0),(.bool false),(.int .i64 0),(.str []),(.lst true []),(.int .i64 0),(.lst true []),(.lst true []),(.lst true []),(.lst true []),(.bool false),(.int .i64 0),(.str []),(.bool false),(.str []),(.lst true []),(.int .i64 0),(.bool false),(.lst true []),(.bool false),(.str []),(.bool false),(.lst true []),(.bool false)])] none [2,0]) (.seq (.region [oI 3 (.build [(.int .i64 0),(.int .i64 0),(.str []),(.str []),(.lst true [])] [(0,1,(.c (.int .i64 21))),(2,1,(.c (.str [112,114,111,111,102])))]),oI 4 (.mov (.t 0)),oI 5 (.call 15 0 true [(.t 4)]),oI 6 (.build [(.int .i64 0),(.int .i64 0),(.str []),(.str []),(.lst true [])] [(0,1,(.c (.int .i64 22))),(4,1,(.t 5))]),oI 7 (.bslice false 5 2 (.agg [(.int .i64 0),(.int .i64 0),(.str []),(.str []),(.lst true [])]) [(0,(.t 3)),(1,(.t 6))]),oI 8 (.build [(.int .i64 0),(.bool false),(.int .i64 0),(.bool false),(.int .i64 0),(.str []),(.lst true []),(.int .i64 0),(.lst true []),(.lst true []),(.lst true []),(.lst true []),(.bool false),(.int .i64 0),(.str []),(.bool false),(.str []),(.lst true []),(.int .i64 0),(.bool false),(.lst true []),(.bool false),(.str []),(.bool false),(.lst true []),(.bool false)] [(0,1,(.c (.int .i64 15))),(7,1,(.c (.int .i64 24))),(9,1,(.t 7))]),oN (.st 26 (.t 2) (.t 8))] none [2]) .ret))
def Zn7:ZD:=⟨[(.cell 2 (some 26))],ZqJ⟩
theorem Zys:FC 7=some Zn7:=by kernel_rfl
theorem ZF6:Zn7.body=ZqJ:=rfl
theorem ZNw:Zn7.res=[(.cell 2 (some 26))]:=rfl
def ZmJ:Ze:=(.seq (.region [oI 2 (.alloc [(.int .i64 0),(.bool false),(.int .i64 0),(.bool false),(.int .i64 0),(.str []),(.lst true []),(.int .i64 0),(.lst true []),(.lst true []),(.lst true []),(.lst true []),(.bool false),(.int .i64 0),(.str []),(.bool false),(.str []),(.lst true []),(.int .i64 0),(.bool false),(.lst true []),(.bool false),(.str []),(.bool false),(.lst true []),(.bool false)])] none [2,0]) (.seq (.region [oI 3 (.mov (.t 0)),oI 4 (.build [(.int .i64 0),(.bool false),(.int .i64 0),(.bool false),(.int .i64 0),(.str []),(.lst true []),(.int .i64 0),(.lst true []),(.lst true []),(.lst true []),(.lst true []),(.bool false),(.int .i64 0),(.str []),(.bool false),(.str []),(.lst true []),(.int .i64 0),(.bool false),(.lst true []),(.bool false),(.str []),(.bool false),(.lst true []),(.bool false)] [(0,1,(.c (.int .i64 2))),(7,1,(.t 3))]),oN (.st 26 (.t 2) (.t 4))] none [2]) .ret))
def ZnQ:ZD:=⟨[(.cell 2 (some 26))],ZmJ⟩
theorem ZBc:FC 6=some ZnQ:=by kernel_rfl
theorem ZBk:ZnQ.body=ZmJ:=rfl
theorem ZAc:ZnQ.res=[(.cell 2 (some 26))]:=rfl
def Zhk:Ze:=(.seq (.region [oI 3 (.box (.t 0)),oI 6 (.alloc [(.int .i64 0),(.bool false),(.int .i64 0),(.bool false),(.int .i64 0),(.str []),(.lst true []),(.int .i64 0),(.lst true []),(.lst true []),(.lst true []),(.lst true []),(.bool false),(.int .i64 0),(.str []),(.bool false),(.str []),(.lst true []),(.int .i64 0),(.bool false),(.lst true []),(.bool false),(.str []),(.bool false),(.lst true []),(.bool false)])] none [6,3,2,1]) (.seq (.region [oI 8 (.mov (.t 2)),oI 9 (.build [(.int .i64 0),(.int .i64 0),(.str []),(.str []),(.lst true [])] [(0,1,(.c (.int .i64 33))),(1,1,(.c (.int .i64 8)))]),oI 10 (.build [(.int .i64 0),(.int .i64 0),(.str []),(.str []),(.lst true [])] [(0,1,(.c (.int .i64 39))),(1,1,(.c (.int .i64 512)))]),oI 11 (.build [(.int .i64 0),(.int .i64 0),(.str []),(.str []),(.lst true [])] [(0,1,(.c (.int .i64 34))),(1,1,(.c (.int .i64 4)))]),oI 12 (.bslice false 5 3 (.agg [(.int .i64 0),(.int .i64 0),(.str []),(.str []),(.lst true [])]) [(0,(.t 9)),(1,(.t 10)),(2,(.t 11))]),oI 13 (.build [(.int .i64 0),(.bool false),(.int .i64 0),(.bool false),(.int .i64 0),(.str []),(.lst true []),(.int .i64 0),(.lst true []),(.lst true []),(.lst true []),(.lst true []),(.bool false),(.int .i64 0),(.str []),(.bool false),(.str []),(.lst true []),(.int .i64 0),(.bool false),(.lst true []),(.bool false),(.str []),(.bool false),(.lst true []),(.bool false)] [(0,1,(.c (.int .i64 2))),(25,1,(.t 8)),(9,1,(.t 12))]),oI 7 (.alloc [(.int .i64 0),(.bool false),(.int .i64 0),(.bool false),(.int .i64 0),(.str []),(.lst true []),(.int .i64 0),(.lst true []),(.lst true []),(.lst true []),(.lst true []),(.bool false),(.int .i64 0),(.str []),(.bool false),(.str []),(.lst true []),(.int .i64 0),(.bool false),(.lst true []),(.bool false),(.str []),(.bool false),(.lst true []),(.bool false)]),oN (.st 26 (.t 7) (.t 13))] none [7,6,3,1]) (.seq (.seq (.region [oI 14 (.mov (.t 1))] none [14,7,6,3]) (.cond (.t 14) (.region [oI 15 (.faddr 9 (.t 7)),oI 16 (.ld none (.t 15)),oI 17 (.faddr 0 (.t 3)),oI 18 (.ld none (.t 17)),oI 19 (.build [(.int .i64 0),(.int .i64 0),(.str []),(.str []),(.lst true [])] [(0,1,(.c (.int .i64 18))),(2,1,(.t 18))]),oI 20 (.bslice false 5 1 (.agg [(.int .i64 0),(.int .i64 0),(.str []),(.str []),(.lst true [])]) [(0,(.t 19))]),oI 21 (.app 5 72 (.agg [(.int .i64 0),(.int .i64 0),(.str []),(.str []),(.lst true [])]) (.t 16) (.t 20)),oI 22 (.faddr 9 (.t 7)),oN (.st 1 (.t 22) (.t 21))] none [7,6,3]) .skip)) (.seq (.seq (.region [oI 23 (.faddr 7 (.t 3)),oI 24 (.ld none (.t 23)),oI 25 (.bin .neq (.t 24) (.c (.str [])))] none [25,7,6,3]) (.cond (.t 25) (.region [oI 26 (.faddr 9 (.t 7)),oI 27 (.ld none (.t 26)),oI 28 (.faddr 7 (.t 3)),oI 29 (.ld none (.t 28)),oI 30 (.build [(.int .i64 0),(.int .i64 0),(.str []),(.str []),(.lst true [])] [(0,1,(.c (.int .i64 21))),(2,1,(.t 29))]),oI 31 (.bslice false 5 1 (.agg [(.int .i64 0),(.int .i64 0),(.str []),(.str []),(.lst true [])]) [(0,(.t 30))]),oI 32 (.app 5 72 (.agg [(.int .i64 0),(.int .i64 0),(.str []),(.str []),(.lst true [])]) (.t 27) (.t 31)),oI 33 (.faddr 9 (.t 7)),oN (.st 1 (.t 33) (.t 32))] none [7,6]) .skip)) (.seq (.region [oI 34 (.ld (some 26) (.t 7)),oN (.st 26 (.t 6) (.t 34))] none [6]) .ret)))))
def Zqm:ZD:=⟨[(.cell 6 (some 26))],Zhk⟩
theorem ZG4:FC 9=some Zqm:=by kernel_rfl
theorem Zk0:Zqm.body=Zhk:=rfl
theorem Zk3:Zqm.res=[(.cell 6 (some 26))]:=rfl
def Zoi:Ze:=(.seq (.region [oI 2 (.alloc [(.int .i64 0),(.bool false),(.int .i64 0),(.bool false),(.int .i64 0),(.str []),(.lst true []),(.int .i64 0),(.lst true []),(.lst true []),(.lst true []),(.lst true []),(.bool false),(.int .i64 0),(.str []),(.bool false),(.str []),(.lst true []),(.int .i64 0),(.bool false),(.lst true []),(.bool false),(.str []),(.bool false),(.lst true []),(.bool false)])] none [2,0]) (.seq (.region [oI 3 (.build [(.int .i64 0),(.int .i64 0),(.str []),(.str []),(.lst true [])] [(0,1,(.c (.int .i64 21))),(2,1,(.c (.str [112,114,111,111,102])))]),oI 4 (.bslice false 1 0 (.int .u8 0) []),oI 5 (.mov (.t 0)),oI 6 (.app 1 1 (.int .u8 0) (.t 4) (.t 5)),oI 7 (.build [(.int .i64 0),(.int .i64 0),(.str []),(.str []),(.lst true [])] [(0,1,(.c (.int .i64 22))),(4,1,(.t 6))]),oI 8 (.bslice false 5 2 (.agg [(.int .i64 0),(.int .i64 0),(.str []),(.str []),(.lst true [])]) [(0,(.t 3)),(1,(.t 7))]),oI 9 (.build [(.int .i64 0),(.bool false),(.int .i64 0),(.bool false),(.int .i64 0),(.str []),(.lst true []),(.int .i64 0),(.lst true []),(.lst true []),(.lst true []),(.lst true []),(.bool false),(.int .i64 0),(.str []),(.bool false),(.str []),(.lst true []),(.int .i64 0),(.bool false),(.lst true []),(.bool false),(.str []),(.bool false),(.lst true []),(.bool false)] [(0,1,(.c (.int .i64 15))),(7,1,(.c (.int .i64 24))),(9,1,(.t 8))]),oN (.st 26 (.t 2) (.t 9))] none [2]) .ret))
def ZnJ:ZD:=⟨[(.cell 2 (some 26))],Zoi⟩
theorem ZMT:FC 11=some ZnJ:=by kernel_rfl
theorem Zzm:ZnJ.body=Zoi:=rfl
theorem ZNg:ZnJ.res=[(.cell 2 (some 26))]:=rfl
def ZqP:Ze:=(.seq (.region [oI 2 (.alloc [(.int .i64 0),(.bool false),(.int .i64 0),(.bool false),(.int .i64 0),(.str []),(.lst true []),(.int .i64 0),(.lst true []),(.lst true []),(.lst true []),(.lst true []),(.bool false),(.int .i64 0),(.str []),(.bool false),(.str []),(.lst true []),(.int .i64 0),(.bool false),(.lst true []),(.bool false),(.str []),(.bool false),(.lst true []),(.bool false)])] none [2,0]) (.seq (.region [oI 3 (.mov (.t 0)),oI 4 (.build [(.int .i64 0),(.bool false),(.int .i64 0),(.bool false),(.int .i64 0),(.str []),(.lst true []),(.int .i64 0),(.lst true []),(.lst true []),(.lst true []),(.lst true []),(.bool false),(.int .i64 0),(.str []),(.bool false),(.str []),(.lst true []),(.int .i64 0),(.bool false),(.lst true []),(.bool false),(.str []),(.bool false),(.lst true []),(.bool false)] [(0,1,(.c (.int .i64 2))),(7,1,(.t 3))]),oN (.st 26 (.t 2) (.t 4))] none [2]) .ret))
def Zm0:ZD:=⟨[(.cell 2 (some 26))],ZqP⟩
theorem ZDm:FC 10=some Zm0:=by kernel_rfl
theorem ZGy:Zm0.body=ZqP:=rfl
theorem ZCf:Zm0.res=[(.cell 2 (some 26))]:=rfl
end
section
structure ZhO where
 client:Zb
 clean:Bool
 keep:Int
 expiry:Int
 receive:Int
 maxPacket:Int
 aliasMax:Int
 method:Zb
 user:Zb
 hasWill:Bool
 will:Zle
 willDelay:Int
 willLife:Int
theorem Zhx {O:ZO} {bf:Nat->Bool} {f:Nat} {args args':List AVal} {r r':AVal} {h:Za} (hO:O f args' []=some (r,h)) (hb:bf f=false) (hp:args.all Z7=true) (hn:args.map ZG=args') (hv:Zbn 0 (some (r,h))=some (r',[])) (hr:∀ sq,Zl (ZaA [] [] sq) r'=r') (σ:Za) (sq own:Nat):Zk O bf σ sq f own true args=some (r',σ,{}):=by
 rw [Zfo hb hp,hn,hO]
 have : Zad true 0 (some (r,h))=some (r',[]):=by
  unfold Zad
  rw [if_pos rfl];exact hv
 rw [this,Zg2 _ _ _ _ (hr sq)]
def ZcI (t c:Int) (pr:Bool) (x:AVal):AVal:=.agg [.int .i64 t,.bool false,.int .i64 0,.bool false,.int .i64 0,.str [],.lst true [],.int .i64 c,.lst true [],x,.lst true [],.lst true [],.bool false,.int .i64 0,.str [],.bool false,.str [],.lst true [],.int .i64 0,.bool false,.lst true [],.bool false,.str [],.bool false,.lst true [],.bool pr]
def Zcb (t c:Int) (pr:Bool) (ps:List Zm):Zs:={ Zan with type:=t,code:=c,present:=pr,props:=ps }
def ZcC (t c:Int) (pr:Bool) (x:AVal):AVal:=.agg [.int .i64 t,.bool false,.int .i64 0,.bool false,.int .i64 0,.str [],.lst false [],.int .i64 c,.lst false [],x,.lst false [],.lst false [],.bool false,.int .i64 0,.str [],.bool false,.str [],.lst false [],.int .i64 0,.bool false,.lst false [],.bool false,.str [],.bool false,.lst false [],.bool pr]
theorem ZlI (t c:Int) (pr:Bool) (b:Bool) (xs:List AVal):Zbn 0 (some (ZcI t c pr (.lst b xs),[]))=some (ZcC t c pr (.lst false xs),[]):=rfl
theorem ZCb (t c:Int) (pr:Bool) (n:Nat) (xs:List AVal) (hn:xs.length=n):Zbn 0 (some (ZcI t c pr (.sl 0 0 0 n),[.row 0 5 xs]))=some (ZcC t c pr (.lst false xs),[]):=by
 subst hn
 simp [ZcI,ZcC,Zbn,viewR,ZL,Zar,ZI,ZU,Zo,gcA,ZA,Zy,Zr,ZZ,Zf,Zl,Zu]
def Zwa:List Zm:=[⟨33,8,[],[],[]⟩,⟨39,512,[],[],[]⟩,⟨34,4,[],[],[]⟩]
def ZcK (a:Bool) (cl m:Zb):List Zm:=Zwa++(if a then [⟨18,0,cl,[],[]⟩] else [])++(if m=[] then [] else [⟨21,0,m,[],[]⟩])
def Zg1 (xs:List AVal):AVal×Za:=if xs.length=3 then (.lst true xs,[]) else (.sl 0 0 0 xs.length,[.row 0 5 xs])
theorem ZDN (d:ZhO) (a pr:Bool):E 5 [.agg [.str d.client,.bool d.clean,.int .i64 d.keep,.int .i64 d.expiry,.int .i64 d.receive,.int .i64 d.maxPacket,.int .i64 d.aliasMax,.str d.method,.str d.user,.bool d.hasWill,.str d.will.topic,.lst false (d.will.payload.map Zc),.int .i64 d.will.qos,.bool d.will.retain,.str d.will.sender,.int .i64 d.will.expires,.lst false (d.will.props.map Zj),.int .i64 d.will.origin,.int .i64 d.will.number,.int .i64 d.will.hops,.int .i64 d.willDelay,.int .i64 d.willLife],.bool a,.bool pr] []=some (ZcI 2 0 pr (Zg1 ((ZcK a d.client d.method).map Zj)).1,(Zg1 ((ZcK a d.client d.method).map Zj)).2):=by
 rw [Zg (by rfl) ZAr]
 have b1:(3+1)*72<=140737488355328:=by decide
 have b2:(4+1)*72<=140737488355328:=by decide
 unfold ZcI ZcK
 by_cases hm:d.method=[]
 ·have hn:(d.method == [])=true:=by simpa using hm
  rw [if_pos hm]
  cases a
  ·simp only [Bool.false_eq_true,if_false,List.append_nil]
   simp -implicitDefEqProofs only [EQA,Zq,Nat.reduceAdd,Nat.reduceLT,Nat.reduceLeDiff,Nat.reduceEqDiff,Nat.reduceBEq,Zci,reduceCtorEq,↓reduceIte,Zd,Zlr,Zg5,Zk8,oI,oN,hn,Zae,AVal.cells,ZaS,viewAs,ZL,ZI,Zar,Zo,ZR]
   rfl
  ·simp only [if_true,List.append_nil]
   simp -implicitDefEqProofs only [EQA,Nat.reduceAdd,Nat.reduceLT,Nat.reduceLeDiff,Nat.reduceEqDiff,Nat.reduceBEq,Nat.reduceMul,Zci,reduceCtorEq,ZU,↓reduceIte,Zlr,Zg5,Zk8,oI,oN,hn,Zae,b1,AVal.cells,ZaS,ZaF,kOk,viewAs,ZL,ZI,Zar,Zo,ZR]
   rfl
 ·have hn:(d.method == [])=false:=by simpa using hm
  rw [if_neg hm]
  cases a
  ·simp only [Bool.false_eq_true,if_false,List.append_nil]
   simp -implicitDefEqProofs only [EQA,Nat.reduceAdd,Nat.reduceLT,Nat.reduceLeDiff,Nat.reduceEqDiff,Nat.reduceBEq,Nat.reduceMul,Zci,reduceCtorEq,ZU,↓reduceIte,Zlr,Zg5,Zk8,oI,oN,hn,Zae,b1,AVal.cells,ZaS,ZaF,kOk,viewAs,ZL,ZI,Zar,Zo,ZR]
   rfl
  ·simp only [if_true]
   simp -implicitDefEqProofs only [EQA,Nat.reduceAdd,Nat.reduceLT,Nat.reduceLeDiff,Nat.reduceEqDiff,Nat.reduceBEq,Nat.reduceMul,Zci,reduceCtorEq,ZU,↓reduceIte,Zlr,Zg5,Zk8,oI,oN,hn,Zae,b1,b2,AVal.cells,ZaS,ZaF,kOk,viewAs,ZL,ZI,Zar,Zo,ZR]
   rfl
theorem ZPo (d:ZhO) (a pr:Bool):E 9 [.agg [.str d.client,.bool d.clean,.int .i64 d.keep,.int .i64 d.expiry,.int .i64 d.receive,.int .i64 d.maxPacket,.int .i64 d.aliasMax,.str d.method,.str d.user,.bool d.hasWill,.str d.will.topic,.lst false (d.will.payload.map Zc),.int .i64 d.will.qos,.bool d.will.retain,.str d.will.sender,.int .i64 d.will.expires,.lst false (d.will.props.map Zj),.int .i64 d.will.origin,.int .i64 d.will.number,.int .i64 d.will.hops,.int .i64 d.willDelay,.int .i64 d.willLife],.bool a,.bool pr] []=some (ZcI 2 0 pr (Zg1 ((ZcK a d.client d.method).map Zj)).1,(Zg1 ((ZcK a d.client d.method).map Zj)).2):=by
 rw [Zg (by rfl) ZG4]
 have b1:(3+1)*72<=140737488355328:=by decide
 have b2:(4+1)*72<=140737488355328:=by decide
 unfold ZcI ZcK
 by_cases hm:d.method=[]
 ·have hn:(d.method == [])=true:=by simpa using hm
  rw [if_pos hm]
  cases a
  ·simp only [Bool.false_eq_true,if_false,List.append_nil]
   simp -implicitDefEqProofs only [EQA,Zq,Nat.reduceAdd,Nat.reduceLT,Nat.reduceLeDiff,Nat.reduceEqDiff,Nat.reduceBEq,Zci,reduceCtorEq,↓reduceIte,Zd,Zk0,Zhk,Zk3,oI,oN,hn,Zae,AVal.cells,ZaS,viewAs,ZL,ZI,Zar,Zo,ZR]
   rfl
  ·simp only [if_true,List.append_nil]
   simp -implicitDefEqProofs only [EQA,Nat.reduceAdd,Nat.reduceLT,Nat.reduceLeDiff,Nat.reduceEqDiff,Nat.reduceBEq,Nat.reduceMul,Zci,reduceCtorEq,ZU,↓reduceIte,Zk0,Zhk,Zk3,oI,oN,hn,Zae,b1,AVal.cells,ZaS,ZaF,kOk,viewAs,ZL,ZI,Zar,Zo,ZR]
   rfl
 ·have hn:(d.method == [])=false:=by simpa using hm
  rw [if_neg hm]
  cases a
  ·simp only [Bool.false_eq_true,if_false,List.append_nil]
   simp -implicitDefEqProofs only [EQA,Nat.reduceAdd,Nat.reduceLT,Nat.reduceLeDiff,Nat.reduceEqDiff,Nat.reduceBEq,Nat.reduceMul,Zci,reduceCtorEq,ZU,↓reduceIte,Zk0,Zhk,Zk3,oI,oN,hn,Zae,b1,AVal.cells,ZaS,ZaF,kOk,viewAs,ZL,ZI,Zar,Zo,ZR]
   rfl
  ·simp only [if_true]
   simp -implicitDefEqProofs only [EQA,Nat.reduceAdd,Nat.reduceLT,Nat.reduceLeDiff,Nat.reduceEqDiff,Nat.reduceBEq,Nat.reduceMul,Zci,reduceCtorEq,ZU,↓reduceIte,Zk0,Zhk,Zk3,oI,oN,hn,Zae,b1,b2,AVal.cells,ZaS,ZaF,kOk,viewAs,ZL,ZI,Zar,Zo,ZR]
   rfl
end
section
end
section
def Zht:Ze:=(.seq (.region [oI 5 (.box (.t 0)),oI 10 (.mov (.c (.bool false)))] none [5,4,3,2,1]) (.seq (.region [oI 18 (.mov (.t 4)),oI 19 (.call 4 0 true [(.t 18),(.c (.int .i64 60))]),oI 4 (.mov (.t 19))] none [5,4,3,2,1]) (.seq (.seq (.region [oI 20 (.faddr 0 (.t 5)),oI 21 (.ld none (.t 20)),oI 22 (.slen (.t 21)),oI 23 (.bin .gtr (.t 22) (.c (.int .i64 100)))] none [23,5,4,3,2,1]) (.cond (.t 23) (.region [oI 24 (.faddr 0 (.t 5)),oI 25 (.ld none (.t 24)),oI 26 (.sslice (.t 25) none (some (.c (.int .i64 100)))),oI 27 (.faddr 0 (.t 5)),oN (.st 1 (.t 27) (.t 26))] none [5,4,3,2,1]) .skip)) (.seq (.region [oI 28 (.ld (some 22) (.t 5)),oI 29 (.mov (.t 1)),oI 30 (.mov (.t 2)),oI 31 (.call 5 0 true [(.t 28),(.t 29),(.t 30)]),oI 32 (.mov (.t 3)),oI 33 (.call 6 0 true [(.t 32)]),oI 34 (.mov (.t 4)),oI 35 (.call 7 0 true [(.t 34)]),oI 11 (.alloc [(.int .i64 0),(.bool false),(.int .i64 0),(.bool false),(.int .i64 0),(.str []),(.lst true []),(.int .i64 0),(.lst true []),(.lst true []),(.lst true []),(.lst true []),(.bool false),(.int .i64 0),(.str []),(.bool false),(.str []),(.lst true []),(.int .i64 0),(.bool false),(.lst true []),(.bool false),(.str []),(.bool false),(.lst true []),(.bool false)]),oI 12 (.alloc [(.int .i64 0),(.bool false),(.int .i64 0),(.bool false),(.int .i64 0),(.str []),(.lst true []),(.int .i64 0),(.lst true []),(.lst true []),(.lst true []),(.lst true []),(.bool false),(.int .i64 0),(.str []),(.bool false),(.str []),(.lst true []),(.int .i64 0),(.bool false),(.lst true []),(.bool false),(.str []),(.bool false),(.lst true []),(.bool false)]),oI 13 (.alloc [(.int .i64 0),(.bool false),(.int .i64 0),(.bool false),(.int .i64 0),(.str []),(.lst true []),(.int .i64 0),(.lst true []),(.lst true []),(.lst true []),(.lst true []),(.bool false),(.int .i64 0),(.str []),(.bool false),(.str []),(.lst true []),(.int .i64 0),(.bool false),(.lst true []),(.bool false),(.str []),(.bool false),(.lst true []),(.bool false)]),oN (.st 26 (.t 11) (.t 31)),oN (.st 26 (.t 12) (.t 33)),oN (.st 26 (.t 13) (.t 35))] none [13,12,11,5,4,3,2,1]) (.seq (.seq (.region [oI 36 (.ld (some 26) (.t 11)),oI 37 (.ld (some 22) (.t 5)),oI 38 (.mov (.t 1)),oI 39 (.mov (.t 2)),oI 40 (.call 9 0 true [(.t 37),(.t 38),(.t 39)]),oI 41 (.call 8 0 true [(.t 36),(.t 40)]),oI 42 (.un .not (.t 41)),oI 43 (.mov (.t 42)),⟨(some 44),(.ld (some 26) (.t 12)),(some (43,false)),[]⟩,⟨(some 45),(.mov (.t 3)),(some (43,false)),[]⟩,⟨(some 46),(.call 10 0 true [(.t 45)]),(some (43,false)),[]⟩,⟨(some 47),(.call 8 0 true [(.t 44),(.t 46)]),(some (43,false)),[]⟩,⟨(some 48),(.un .not (.t 47)),(some (43,false)),[]⟩,oI 49 (.pick (.t 43) (.c (.bool true)) (.t 48)),oI 50 (.mov (.t 49)),⟨(some 51),(.ld (some 26) (.t 13)),(some (50,false)),[]⟩,⟨(some 52),(.mov (.t 4)),(some (50,false)),[]⟩,⟨(some 53),(.call 11 0 true [(.t 52)]),(some (50,false)),[]⟩,⟨(some 54),(.call 8 0 true [(.t 51),(.t 53)]),(some (50,false)),[]⟩,⟨(some 55),(.un .not (.t 54)),(some (50,false)),[]⟩,oI 56 (.pick (.t 50) (.c (.bool true)) (.t 55))] (some [(0,1),(0,4),(8,10),(15,17),(4,4),(5,5),(10,10),(11,11),(17,17),(18,18)]) [56,13,12,3]) (.cond (.t 56) (.seq (.region [oI 10 (.mov (.c (.bool false)))] none [10]) .ret) .skip)) (.seq (.region [oI 58 (.ld (some 26) (.t 13)),oI 59 (.call 12 0 true [(.t 58)]),oI 57 (.mov (.t 59)),oI 60 (.ext (.t 57) 0),oI 61 (.ext (.t 57) 1),oI 14 (.mov (.t 60)),oI 15 (.mov (.t 61))] none [15,12,3]) (.seq (.region [oI 63 (.ld (some 26) (.t 12)),oI 64 (.call 12 0 true [(.t 63)]),oI 62 (.mov (.t 64)),oI 65 (.ext (.t 62) 0),oI 66 (.ext (.t 62) 1),oI 16 (.mov (.t 65)),oI 17 (.mov (.t 66))] none [17,15,3]) (.seq (.region [oI 67 (.mov (.t 15)),oI 68 (.bin .eql (.t 67) (.c (.int .i64 0))),oI 69 (.mov (.t 68)),⟨(some 70),(.mov (.t 17)),(some (69,true)),[]⟩,⟨(some 71),(.bin .eql (.t 70) (.c (.int .i64 0))),(some (69,true)),[]⟩,⟨(some 72),(.mov (.t 3)),(some (69,true)),[]⟩,⟨(some 73),(.call 13 0 true [(.c (.int .i64 2)),(.t 72)]),(some (69,true)),[]⟩,⟨(some 74),(.beq false (.t 71) (.t 73)),(some (69,true)),[]⟩,oI 75 (.pick (.t 69) (.t 74) (.c (.bool false))),oI 76 (.mov (.t 75)),⟨(some 77),(.call 14 0 true []),(some (76,true)),[]⟩,oI 78 (.pick (.t 76) (.t 77) (.c (.bool false))),oI 10 (.mov (.t 78))] none [10]) .ret))))))))
def ZnD:ZD:=⟨[(.tmp 10)],Zht⟩
theorem Zyq:FC 3=some ZnD:=by kernel_rfl
theorem ZjG:ZnD.body=Zht:=rfl
theorem Zmb:ZnD.res=[(.tmp 10)]:=rfl
end
section
theorem ZDj {O:ZO} {bf:Nat->Bool} {f:Nat} {args args':List AVal} {r r':AVal} (h:O f args' []=some (r,[])) (hb:bf f=false) (hp:args.all Z7=true) (hn:args.map ZG=args') (hv:Zbn 0 (some (r,[]))=some (r',[])) (hr:∀ sq,Zl (ZaA [] [] sq) r'=r') (σ:Za) (sq own:Nat):Zk O bf σ sq f own true args=some (r',σ,{}):=by
 rw [Zfo hb hp,hn,h]
 have : Zad true 0 (some (r,[]))=some (r',[]):=by
  unfold Zad
  rw [if_pos rfl];exact hv
 rw [this,Zg2 _ _ _ _ (hr sq)]
theorem Zxy:E 14 [] []=some (.bool true,[]):=Zdo.2 ⟨30,by kernel_rfl⟩
theorem ZL0 (σ:Za) (sq own:Nat):Zk E BY σ sq 14 own true []=some (.bool true,σ,{}) :=
 ZDj Zxy (by kernel_rfl) rfl rfl rfl (fun _=>rfl) _ _ _
def pk (s:List UInt8) (b:Bool):AVal:=.agg [.int .i64 1,.bool false,.int .i64 0,.bool false,.int .i64 0,.str [],.lst false [],.int .i64 0,.lst false [],.lst false [],.lst false [],.lst false [],.bool b,.int .i64 0,.str s,.bool false,.str [],.lst false [],.int .i64 0,.bool false,.lst false [],.bool false,.str [],.bool false,.lst false [],.bool false]
end
section
theorem ZsL (t c:Int) (pr:Bool) (xs:List AVal):Zbn 0 (some (ZcI t c pr (Zg1 xs).1,(Zg1 xs).2))=some (ZcC t c pr (.lst false xs),[]):=by
 unfold Zg1
 by_cases h:xs.length=3
 ·rw [if_pos h];rfl
 ·rw [if_neg h];exact ZCb t c pr _ xs rfl
theorem ZNn (σ:Za) (sq own:Nat) (d:ZhO) (a pr:Bool):Zk E BY σ sq 5 own true [.agg [.str d.client,.bool d.clean,.int .i64 d.keep,.int .i64 d.expiry,.int .i64 d.receive,.int .i64 d.maxPacket,.int .i64 d.aliasMax,.str d.method,.str d.user,.bool d.hasWill,.str d.will.topic,.lst false (d.will.payload.map Zc),.int .i64 d.will.qos,.bool d.will.retain,.str d.will.sender,.int .i64 d.will.expires,.lst false (d.will.props.map Zj),.int .i64 d.will.origin,.int .i64 d.will.number,.int .i64 d.will.hops,.int .i64 d.willDelay,.int .i64 d.willLife],.bool a,.bool pr]=some (ZcC 2 0 pr (.lst false ((ZcK a d.client d.method).map Zj)),σ,{}) :=
 Zhx (ZDN d a pr) (by kernel_rfl) rfl rfl (ZsL _ _ _ _) (fun _=>rfl) σ sq own
theorem ZMd (σ:Za) (sq own:Nat) (d:ZhO) (a pr:Bool):Zk E BY σ sq 9 own true [.agg [.str d.client,.bool d.clean,.int .i64 d.keep,.int .i64 d.expiry,.int .i64 d.receive,.int .i64 d.maxPacket,.int .i64 d.aliasMax,.str d.method,.str d.user,.bool d.hasWill,.str d.will.topic,.lst false (d.will.payload.map Zc),.int .i64 d.will.qos,.bool d.will.retain,.str d.will.sender,.int .i64 d.will.expires,.lst false (d.will.props.map Zj),.int .i64 d.will.origin,.int .i64 d.will.number,.int .i64 d.will.hops,.int .i64 d.willDelay,.int .i64 d.willLife],.bool a,.bool pr]=some (ZcC 2 0 pr (.lst false ((ZcK a d.client d.method).map Zj)),σ,{}) :=
 Zhx (ZPo d a pr) (by kernel_rfl) rfl rfl (ZsL _ _ _ _) (fun _=>rfl) σ sq own
theorem ZK0 (c:Int):E 6 [.int .i64 c] []=some (ZcI 2 c false (.lst true []),[]):=by
 rw [Zg (by rfl) ZBc]
 unfold ZcI
 simp -implicitDefEqProofs only [EQA,Za6,Zq,Nat.reduceAdd,Nat.reduceLT,Nat.reduceLeDiff,Nat.reduceEqDiff,Nat.reduceBEq,reduceCtorEq,↓reduceIte,Zd,ZBk,ZmJ,ZAc,oI,oN,Zae,AVal.cells]
theorem ZyW (σ:Za) (sq own:Nat) (c:Int):Zk E BY σ sq 6 own true [.int .i64 c]=some (ZcC 2 c false (.lst false []),σ,{}) :=
 Zhx (ZK0 c) (by kernel_rfl) rfl rfl (ZlI _ _ _ _ _) (fun _=>rfl) σ sq own
theorem ZLs (c:Int):E 10 [.int .i64 c] []=some (ZcI 2 c false (.lst true []),[]):=by
 rw [Zg (by rfl) ZDm]
 unfold ZcI
 simp -implicitDefEqProofs only [EQA,Za6,Zq,Nat.reduceAdd,Nat.reduceLT,Nat.reduceLeDiff,Nat.reduceEqDiff,Nat.reduceBEq,reduceCtorEq,↓reduceIte,Zd,ZGy,ZqP,ZCf,oI,oN,Zae,AVal.cells]
theorem ZwX (σ:Za) (sq own:Nat) (c:Int):Zk E BY σ sq 10 own true [.int .i64 c]=some (ZcC 2 c false (.lst false []),σ,{}) :=
 Zhx (ZLs c) (by kernel_rfl) rfl rfl (ZlI _ _ _ _ _) (fun _=>rfl) σ sq own
theorem ZJA (b:Zb) (h:b.length<=140737488355328):E 7 [.lst false (b.map Zc)] []=some (ZcI 15 24 false (.lst true ((Zb3 b).map Zj)),[]):=by
 have hC:=fun σ sq own=>Zj9 σ sq own b h
 rw [Zg (by rfl) Zys]
 unfold ZcI Zb3 Zgj
 simp -implicitDefEqProofs only [EQA,Za6,Zq,Nat.reduceAdd,Nat.reduceLT,Nat.reduceLeDiff,Nat.reduceEqDiff,Nat.reduceBEq,reduceCtorEq,↓reduceIte,Zd,ZF6,ZqJ,ZNw,oI,oN,ZJ,Zj,Zbu,hC,Zae,AVal.cells,viewAs,ZL,ZI,Zar,Zo]
theorem ZEq (σ:Za) (sq own:Nat) (b:Zb) (h:b.length<=140737488355328):Zk E BY σ sq 7 own true [.lst false (b.map Zc)]=some (ZcC 15 24 false (.lst false ((Zb3 b).map Zj)),σ,{}) :=
 Zhx (ZJA b h) (by kernel_rfl) rfl rfl (ZlI _ _ _ _ _) (fun _=>rfl) σ sq own
theorem ZF0 (b:Zb) (h:b.length<=140737488355328):E 11 [.lst false (b.map Zc)] []=some (ZcI 15 24 false (.lst true ((Zb3 b).map Zj)),[]):=by
 have hk:=Ze0 b
 have hl:b.length*1<=140737488355328:=by omega
 have ht:(b.map Zc).take b.length=b.map Zc:=List.take_of_length_le (by simp)
 rw [Zg (by rfl) ZMT]
 unfold ZcI Zb3 Zgj
 simp -implicitDefEqProofs only [EQA,Za6,Zq,Zck,Nat.reduceAdd,Nat.reduceLT,Nat.reduceLeDiff,Nat.reduceEqDiff,Nat.reduceBEq,reduceCtorEq,ZU,↓reduceIte,Zd,Zzm,Zoi,ZNg,oI,oN,ZJ,Zj,Zbu,hk,hl,ht,Nat.le_refl,Zae,AVal.cells,ZaF,viewAs,ZL,ZI,Zar,Zo]
theorem ZPU (σ:Za) (sq own:Nat) (b:Zb) (h:b.length<=140737488355328):Zk E BY σ sq 11 own true [.lst false (b.map Zc)]=some (ZcC 15 24 false (.lst false ((Zb3 b).map Zj)),σ,{}) :=
 Zhx (ZF0 b h) (by kernel_rfl) rfl rfl (ZlI _ _ _ _ _) (fun _=>rfl) σ sq own
theorem ZDI (t c:Int) (pr:Bool) (ps:List Zm) (hp:ps.length<=9223372036854775807):E 8 [ZcC t c pr (.lst false (ps.map Zj)),ZcC t c pr (.lst false (ps.map Zj))] []=some (.bool true,[]):=by
 unfold ZcC
 have hb:Zfu []=some []:=rfl
 have zl:¬(((0:Nat):Int) < ((0:Nat):Int)):=by omega
 have zl2:¬((0:Int) < ((0:Nat):Int)):=by omega
 have zn:(((0:Nat):Int) != ((0:Nat):Int))=false:=rfl
 have hps:∀ (σ:Za) (sq own:Nat),Zk E BY σ sq 16 own true [.lst false [],.lst false []]=some (.bool true,σ,{}):=fun σ sq own=>Zsr σ sq own true [] [] (by decide)
 have hpp:=fun σ sq own=>Zsr σ sq own true ps ps hp
 rw [show (ps == ps)=true from by simp] at hpp
 rw [Zg (by rfl) ZDH]
 simp -implicitDefEqProofs only [EQA,Z4,Zck,Nat.reduceAdd,Nat.reduceLT,Nat.reduceEqDiff,Nat.reduceBEq,Zci,unA,ZF,unG,reduceCtorEq,ZU,↓reduceIte,gcT,gcA,ZA,Zy,Zn,Zu,Z0,Zp,ZT,ZH,ZP,ZJD,Zqy,oI,AVal.cells,hb,zn,hpp,bne_self_eq_false]
 rw [Zaa]
 simp -implicitDefEqProofs only [EQA,Z4,Zck,Nat.reduceAdd,Nat.reduceLT,Nat.reduceEqDiff,Nat.reduceBEq,reduceCtorEq,↓reduceIte,gcT,gcA,ZA,Zy,Zn,Zu,Z0,Zp,ZT,ZH,ZP,ZxL,ZoG,ZHd,ZpZ,oI,zl2]
 rw [Zaa]
 simp -implicitDefEqProofs only [EQA,Z4,Zck,Nat.reduceAdd,Nat.reduceLT,Nat.reduceEqDiff,Nat.reduceBEq,reduceCtorEq,↓reduceIte,gcT,gcA,ZA,Zy,Zn,Zu,Z0,Zp,ZT,ZH,ZP,ZOh,ZpB,ZE4,ZmT,oI,zl2]
 rw [Zaa]
 simp -implicitDefEqProofs only [EQA,Nat.reduceAdd,Nat.reduceLT,Nat.reduceLeDiff,Nat.reduceEqDiff,Nat.reduceBEq,Zci,ZF,unG,ZU,↓reduceIte,ZKX,ZF3,Zp5,ZBQ,Zqr,oI,oN,AVal.cells,hb,zl2,hps,ZR,Zag,Zai,Zak,Zav,Zay,Zao,List.lookup_nil]
theorem Zor (σ:Za) (sq own:Nat) (t c:Int) (pr:Bool) (ps:List Zm) (hp:ps.length<=9223372036854775807):Zk E BY σ sq 8 own true [ZcC t c pr (.lst false (ps.map Zj)),ZcC t c pr (.lst false (ps.map Zj))]=some (.bool true,σ,{}) :=
 ZbB (ZDI t c pr ps hp) (by kernel_rfl) rfl rfl rfl (fun _=>rfl) σ sq own
end
section
theorem ZwG (t c:Int) (pr:Bool) (ps:List Zm) (h:ps.length<=700000000/\∀ q ∈ ps,ZeX q):OkW (Zcb t c pr ps):=by
 refine ⟨?_,?_,?_,h,?_,?_,?_,?_,?_,?_,?_,?_⟩ <;> simp [Zcb,Zan]
theorem ZCy (b:Zb) (h:b.length<=60):OkW (ZkD b):=by
 refine ZwG 15 24 false (Zb3 b) ⟨by simp [Zb3],fun q hq=>?_⟩
 simp only [Zb3,Zgj,List.mem_cons,List.not_mem_nil,or_false] at hq
 rcases hq with rfl | rfl
 ·exact ⟨by simp,by simp,by simp⟩
 ·exact ⟨by simp,by simp,by simp only;omega⟩
theorem Zwr (c:Int):OkW (ZcN c):=ZwG 2 c false [] ⟨by simp,fun q hq=>by cases hq⟩
theorem ZtE (t c:Int) (pr:Bool) (ps:List Zm):ZcC t c pr (.lst false (ps.map Zj))=.agg (Zt (Zcb t c pr ps)):=rfl
theorem ZNS (d:ZhO) (a pr:Bool) (c:Int) (b:Zb) (hc:c<=9223372036854775807/\-9223372036854775808<=c):E1 3 [.agg [.str d.client,.bool d.clean,.int .i64 d.keep,.int .i64 d.expiry,.int .i64 d.receive,.int .i64 d.maxPacket,.int .i64 d.aliasMax,.str d.method,.str d.user,.bool d.hasWill,.str d.will.topic,.lst false (d.will.payload.map Zc),.int .i64 d.will.qos,.bool d.will.retain,.str d.will.sender,.int .i64 d.will.expires,.lst false (d.will.props.map Zj),.int .i64 d.will.origin,.int .i64 d.will.number,.int .i64 d.will.hops,.int .i64 d.willDelay,.int .i64 d.willLife],.bool a,.bool pr,.int .i64 c,.lst false (b.map Zc)] []=some (.bool true,[]):=by
 have hcut:=fun σ sq own=>Zbj (ZGM σ sq own true b 60 (by decide))
 rw [show (60:Int).toNat=60 from rfl] at hcut
 generalize hb:b.take 60=b' at *
 have hbl:b'.length<=60:=by rw [<-hb];simp;omega
 have hR:=fun σ sq own=>Zbj (ZyW σ sq own c)
 have hRr:=fun σ sq own=>Zbj (ZwX σ sq own c)
 have hK:=fun σ sq own=>Zbj (ZEq σ sq own b' (by omega))
 have hKr:=fun σ sq own=>Zbj (ZPU σ sq own b' (by omega))
 have hS2:=fun σ sq own=>Zbj (Zor σ sq own 2 c false [] (by decide))
 have hS3:=fun σ sq own=>Zbj (Zor σ sq own 15 24 false (Zb3 b') (by simp [Zb3]))
 rw [show AVal.lst false []=.lst false (([]:List Zm).map Zj) from rfl] at hR hRr
 rw [ZtE] at hR hRr hK hKr hS2 hS3
 have pk:=fun p:Zs=>(show ([AVal.agg (Zt p)].all Z7=true)/\[AVal.agg (Zt p)].map ZG=[Zaj p] from ⟨by rw [List.all_cons,ZdX];rfl,by rw [List.map_cons,Zd6];rfl⟩)
 have hL3:=Zu9 (ZkD b') (ZCy b' hbl) (show 0<=1000000 by decide) (ZK5 b' hbl) [.agg (Zt (Zcb 15 24 false (Zb3 b')))] (pk _).1 (pk _).2
 have hw:=fun σ sq own=>Zbj (ZL0 σ sq own)
 have hco:=fun σ sq own=>Zbj (Zif 2 c σ sq own)
 have l3:=ZbR (Zcb 15 24 false (Zb3 b'))
 have t3:=Zcn (Zcb 15 24 false (Zb3 b'))
 have o3:(Zt (Zcb 15 24 false (Zb3 b'))).all ZR=true:=rfl
 have l2:=ZbR (Zcb 2 c false [])
 have t2:=Zcn (Zcb 2 c false [])
 have o2:(Zt (Zcb 2 c false [])).all ZR=true:=rfl
 have main:∀ cl:Zb,(d.client.length:Int) > 100/\cl=d.client.take 100\/¬(d.client.length:Int) > 100/\cl=d.client->E1 3 [.agg [.str d.client,.bool d.clean,.int .i64 d.keep,.int .i64 d.expiry,.int .i64 d.receive,.int .i64 d.maxPacket,.int .i64 d.aliasMax,.str d.method,.str d.user,.bool d.hasWill,.str d.will.topic,.lst false (d.will.payload.map Zc),.int .i64 d.will.qos,.bool d.will.retain,.str d.will.sender,.int .i64 d.will.expires,.lst false (d.will.props.map Zj),.int .i64 d.will.origin,.int .i64 d.will.number,.int .i64 d.will.hops,.int .i64 d.willDelay,.int .i64 d.willLife],.bool a,.bool pr,.int .i64 c,.lst false (b.map Zc)] []=some (.bool true,[]):=by
  intro cl hcl
  have hA:=fun σ sq own=>Zbj (ZNn σ sq own ⟨cl,d.clean,d.keep,d.expiry,d.receive,d.maxPacket,d.aliasMax,d.method,d.user,d.hasWill,d.will,d.willDelay,d.willLife⟩ a pr)
  have hAr:=fun σ sq own=>Zbj (ZMd σ sq own ⟨cl,d.clean,d.keep,d.expiry,d.receive,d.maxPacket,d.aliasMax,d.method,d.user,d.hasWill,d.will,d.willDelay,d.willLife⟩ a pr)
  simp only at hA hAr
  have hps:(ZcK a cl d.method).length<=9223372036854775807:=by unfold ZcK Zwa;split <;> split <;> simp
  have hS1:=fun σ sq own=>Zbj (Zor σ sq own 2 0 pr (ZcK a cl d.method) hps)
  rw [ZtE] at hA hAr hS1
  have lA:=ZbR (Zcb 2 0 pr (ZcK a cl d.method))
  have tA:=Zcn (Zcb 2 0 pr (ZcK a cl d.method))
  have oA:(Zt (Zcb 2 0 pr (ZcK a cl d.method))).all ZR=true:=rfl
  have hL2:∃ B:List AVal,∀ σ sq own,Zk E1 BY σ sq 12 own true [.agg (Zt (Zcb 2 c false []))]=some (.tup [.lst false B,.int .i64 (if Zcw 2 c=true then 0 else 129)],σ,{}):=by
   by_cases hx:Zcw 2 c=true
   ·rw [if_pos hx]
    exact ⟨_,Zu9 (ZcN c) (Zwr c) (show 0<=1000000 by decide) ((ZsX c).2 hx) [.agg (Zt (Zcb 2 c false []))] (pk _).1 (pk _).2⟩
   ·rw [if_neg hx]
    exact ⟨_,ZEV (ZcN c) (Zwr c) (show 0<=1000000 by decide) (fun h=>hx ((ZsX c).1 h)) [.agg (Zt (Zcb 2 c false []))] (pk _).1 (pk _).2⟩
  obtain ⟨B2,hL2⟩:=hL2
  generalize Zt (Zcb 2 0 pr (ZcK a cl d.method))=A at *
  generalize Zt (Zcb 2 c false [])=R at *
  generalize Zt (Zcb 15 24 false (Zb3 b'))=K at *
  generalize (Zse (ZkD b')).map Zc=L3 at *
  generalize b.map Zc=BB at *
  generalize b'.map Zc=BB' at *
  rw [Zbv (by rfl) Zyq]
  have z1:((129:Int) == 0)=false:=rfl
  cases hx:Zcw 2 c
  ·rw [hx] at hL2 hco
   rw [if_neg (by simp)] at hL2
   rcases hcl with ⟨hcl,rfl⟩ | ⟨hcl,rfl⟩
   ·have ho1:Za1 (some (.int .i64 100)) d.client.length d.client.length=some 100:=by
     have h100:(100:Int)<=(d.client.length:Int):=by omega
     simp [Za1,Zdj,h100]
    have ho2:Za1 none 0 100=some 0:=rfl
    simp -implicitDefEqProofs only [EQA,Nat.reduceAdd,Nat.reduceLT,Nat.reduceLeDiff,Nat.reduceEqDiff,Nat.reduceBEq,unA,ZF,unG,reduceCtorEq,↓reduceIte,ZjG,Zht,Zmb,oI,oN,hcl,ho1,ho2,AVal.cells,ZR,l2,t2,o2,l3,t3,o3,lA,tA,oA,hcut,hA,hAr,hS1,hR,hRr,hK,hKr,hS2,hS3,hL3,hL2,hw,hco,z1]
   ·simp -implicitDefEqProofs only [EQA,Nat.reduceAdd,Nat.reduceLT,Nat.reduceLeDiff,Nat.reduceEqDiff,Nat.reduceBEq,unA,ZF,unG,reduceCtorEq,↓reduceIte,ZjG,Zht,Zmb,oI,oN,hcl,AVal.cells,l2,t2,o2,l3,t3,o3,lA,tA,oA,hcut,hA,hAr,hS1,hR,hRr,hK,hKr,hS2,hS3,hL3,hL2,hw,hco,z1]
  ·rw [hx] at hL2 hco
   rw [if_pos rfl] at hL2
   rcases hcl with ⟨hcl,rfl⟩ | ⟨hcl,rfl⟩
   ·have ho1:Za1 (some (.int .i64 100)) d.client.length d.client.length=some 100:=by
     have h100:(100:Int)<=(d.client.length:Int):=by omega
     simp [Za1,Zdj,h100]
    have ho2:Za1 none 0 100=some 0:=rfl
    simp -implicitDefEqProofs only [EQA,Nat.reduceAdd,Nat.reduceLT,Nat.reduceLeDiff,Nat.reduceEqDiff,Nat.reduceBEq,unA,ZF,unG,reduceCtorEq,↓reduceIte,ZjG,Zht,Zmb,oI,oN,hcl,ho1,ho2,AVal.cells,ZR,l2,t2,o2,l3,t3,o3,lA,tA,oA,hcut,hA,hAr,hS1,hR,hRr,hK,hKr,hS2,hS3,hL3,hL2,hw,hco]
   ·simp -implicitDefEqProofs only [EQA,Nat.reduceAdd,Nat.reduceLT,Nat.reduceLeDiff,Nat.reduceEqDiff,Nat.reduceBEq,unA,ZF,unG,reduceCtorEq,↓reduceIte,ZjG,Zht,Zmb,oI,oN,hcl,AVal.cells,l2,t2,o2,l3,t3,o3,lA,tA,oA,hcut,hA,hAr,hS1,hR,hRr,hK,hKr,hS2,hS3,hL3,hL2,hw,hco]
 by_cases h:(d.client.length:Int) > 100
 ·exact main (d.client.take 100) (Or.inl ⟨h,rfl⟩)
 ·exact main d.client (Or.inr ⟨h,rfl⟩)
end
section
open Go.RowKit
theorem Zvo {α:Type} {T:Ty} {s:Bool} {f:α->AVal} (h:∀ y,TyC T y->∃ a,Zca s y=f a) {xs:List AVal} (hx:TyC (.slice s T) xs):∃ l:List α,xs=[.lst false (l.map f)]/\l.length<=9223372036854775807:=by
 simp only [TyC] at hx
 obtain ⟨ys,rfl,h1,h2⟩:=hx
 have : ∀ ys:List (List AVal),(∀ y ∈ ys,TyC T y)->∃ l:List α,ys.map (Zca s)=l.map f:=by
  intro ys
  induction ys with
  | nil=>intro _;exact ⟨[],rfl⟩
  | cons y ys ih =>
   intro hy
   obtain ⟨a,ha⟩:=h y (hy y (by simp))
   obtain ⟨l,hl⟩:=ih fun y' h'=>hy y' (by simp [h'])
   exact ⟨a::l,by simp [ha,hl]⟩
 obtain ⟨l,hl⟩:=this ys h2
 refine ⟨l,by rw [hl],?_⟩
 have:=congrArg List.length hl
 simp only [List.length_map] at this
 omega
theorem ZFv {y:List AVal} (h:TyC (.int .u8) y):∃ b,Zca false y=Zc b:=by
 simp only [TyC] at h
 obtain ⟨n,hw,rfl⟩:=h
 have h1:0<=n/\n<=255:=by
  simp only [Lit.wf,Bool.and_eq_true,decide_eq_true_eq] at hw
  exact hw
 refine ⟨UInt8.ofNat n.toNat,?_⟩
 simp only [Zca,Bool.false_eq_true,if_false,List.headD_cons,Zc,AVal.int.injEq,true_and]
 rw [UInt8.toNat_ofNat']
 omega
theorem Znd {xs:List AVal} (h:TyC (.slice false (.int .u8)) xs):∃ b:Zb,xs=[ZJ b]/\b.length<=9223372036854775807:=Zvo (fun _=>ZFv) h
def Zj7:Ty:=.struct [.int .i64,.int .i64,.str,.str,.slice false (.int .u8)]
theorem ZKG {y:List AVal} (h:TyC Zj7 y):∃ p,Zca true y=Zj p:=by
 unfold Zj7 at h
 rw [TyC] at h
 simp only [Zgn] at h
 obtain ⟨_,_,rfl,h1,_,_,rfl,h2,_,_,rfl,h3,_,_,rfl,h4,_,_,rfl,h5,rfl⟩:=h
 obtain ⟨d,rfl,_⟩:=Znd h5
 simp only [TyC] at h1 h2 h3 h4
 obtain ⟨i,_,rfl⟩:=h1
 obtain ⟨n,_,rfl⟩:=h2
 obtain ⟨t,_,rfl⟩:=h3
 obtain ⟨p,_,rfl⟩:=h4
 exact ⟨⟨i,n,t,p,d⟩,rfl⟩
theorem Zxq {xs:List AVal} (h:TyC (.slice true Zj7) xs):∃ l:List Zm,xs=[Zaz l]/\l.length<=9223372036854775807:=Zvo (fun _=>ZKG) h
def Zrd:Ty:=.struct [.str,.slice false (.int .u8),.int .i64,.bool,.str,.int .i64,.slice true Zj7,.int .i64,.int .i64,.int .i64]
theorem ZLq {y:List AVal} (h:TyC Zrd y):∃ n,y=ZMK n:=by
 unfold Zrd at h
 rw [TyC] at h
 simp only [Zgn] at h
 obtain ⟨_,_,rfl,h1,_,_,rfl,h2,_,_,rfl,h3,_,_,rfl,h4,_,_,rfl,h5,_,_,rfl,h6,_,_,rfl,h7,_,_,rfl,h8,_,_,rfl,h9,_,_,rfl,h10,rfl⟩:=h
 obtain ⟨d,rfl,_⟩:=Znd h2
 obtain ⟨ps,rfl,_⟩:=Zxq h7
 simp only [TyC] at h1 h3 h4 h5 h6 h8 h9 h10
 obtain ⟨a1,_,rfl⟩:=h1
 obtain ⟨a3,_,rfl⟩:=h3
 obtain ⟨a4,rfl⟩:=h4
 obtain ⟨a5,_,rfl⟩:=h5
 obtain ⟨a6,_,rfl⟩:=h6
 obtain ⟨a8,_,rfl⟩:=h8
 obtain ⟨a9,_,rfl⟩:=h9
 obtain ⟨a10,_,rfl⟩:=h10
 exact ⟨⟨a1,d,a3,a4,a5,a6,ps,a8,a9,a10⟩,rfl⟩
end
section
open Go.RowKit
def Ztb (d:ZhO):AVal:=.agg [.str d.client,.bool d.clean,.int .i64 d.keep,.int .i64 d.expiry,.int .i64 d.receive,.int .i64 d.maxPacket,.int .i64 d.aliasMax,.str d.method,.str d.user,.bool d.hasWill,.str d.will.topic,.lst false (d.will.payload.map Zc),.int .i64 d.will.qos,.bool d.will.retain,.str d.will.sender,.int .i64 d.will.expires,.lst false (d.will.props.map Zj),.int .i64 d.will.origin,.int .i64 d.will.number,.int .i64 d.will.hops,.int .i64 d.willDelay,.int .i64 d.willLife]
def ZoV:Ty:=.struct [.str,.bool,.int .i64,.int .i64,.int .i64,.int .i64,.int .i64,.str,.str,.bool,Zrd,.int .i64,.int .i64]
theorem ZxY {x:AVal} (h:Zjq true ZoV x):∃ d,x=Ztb d:=by
 obtain ⟨y,h,rfl⟩:=h
 unfold ZoV at h
 rw [TyC] at h
 simp only [Zgn] at h
 obtain ⟨_,_,rfl,h1,_,_,rfl,h2,_,_,rfl,h3,_,_,rfl,h4,_,_,rfl,h5,_,_,rfl,h6,_,_,rfl,h7,_,_,rfl,h8,_,_,rfl,h9,_,_,rfl,h10,_,_,rfl,h11,_,_,rfl,h12,_,_,rfl,h13,rfl⟩:=h
 obtain ⟨n,rfl⟩:=ZLq h11
 simp only [TyC] at h1 h2 h3 h4 h5 h6 h7 h8 h9 h10 h12 h13
 obtain ⟨a1,_,rfl⟩:=h1
 obtain ⟨a2,rfl⟩:=h2
 obtain ⟨a3,_,rfl⟩:=h3
 obtain ⟨a4,_,rfl⟩:=h4
 obtain ⟨a5,_,rfl⟩:=h5
 obtain ⟨a6,_,rfl⟩:=h6
 obtain ⟨a7,_,rfl⟩:=h7
 obtain ⟨a8,_,rfl⟩:=h8
 obtain ⟨a9,_,rfl⟩:=h9
 obtain ⟨a10,rfl⟩:=h10
 obtain ⟨a12,_,rfl⟩:=h12
 obtain ⟨a13,_,rfl⟩:=h13
 exact ⟨⟨a1,a2,a3,a4,a5,a6,a7,a8,a9,a10,n,a12,a13⟩,rfl⟩
theorem ZC3 {x:AVal} (h:Zjq false (.slice false (.int .u8)) x):∃ b:Zb,x=.lst false (b.map Zc):=by
 obtain ⟨y,h,rfl⟩:=h
 obtain ⟨b,rfl,_⟩:=Znd h
 exact ⟨b,rfl⟩
end
section
open Go.Shelf Go.RowKit
section
variable {P:Program} {ρ:Ren}
theorem ZkF (W:World) (dT sT ty elem:TypeId) (g o dLen dCap:Nat) (A:Option Addr) (sLen sCap:Nat) (cur:Array Value) (t:TypeId) (cs:List Value)
  (hu:P.underlying dT=some (.slice elem)) (hs:(P.info? elem).map (·.size)=some 1) (hg:W.heap[g]?=some (.cells cur t (0,0))) (hn:cs.length=sLen) (hd:sLen<=dLen)
  (hsrc:sLen=0\/∃ a,A=some a/\∀ j v,cs[j]?=some v->W.cell? (a.add j)=some v) (hfit:o+cs.length<=cur.size) (h1:∀ v ∈ cs,v.oneCell'=true) :
  ∃ W2 Y,(Builtin.copy_ #[dT,sT] ty #[.slice (some ⟨g,o,none⟩) dLen dCap,.slice A sLen sCap]).run P W=.ok (goInt sLen) W2/\W2.heap[g]?=some (.cells Y t (0,0)) /\
   Y.toList=cur.toList.take o++cs++cur.toList.drop (o+sLen)/\W.grownBy W2 (some g)/\W2.heap.size=W.heap.size:=by
 rcases hsrc with h0 | ⟨a,rfl,hsrc⟩
 ·have hc:cs=[]:=List.eq_nil_of_length_eq_zero (by omega)
  subst hc
  subst h0
  exact ⟨W,cur,run_copy_none W dT sT ty elem _ _ _ _ _ _ hu hs (by simp),hg,by simp,⟨rfl,rfl,rfl,Nat.le_refl _,fun _ _ _=>rfl⟩,rfl⟩
 ·have h:=run_copy_row (P:=P) W dT sT ty elem g o dLen dCap a sLen sCap cur t cs hu hs hg (by rw [hn];exact (Nat.min_eq_left hd).symm) hsrc hfit h1
  rw [hn] at h
  refine ⟨_,_,h,setRow_heap _ _ _ _ _ _ hg,by simp,⟨rfl,rfl,rfl,by simp,fun k _ hk=>setRow_other _ _ _ _ (fun e=>hk (by rw [e]))⟩,by simp⟩
set_option maxRecDepth 100000 in
theorem Znl (L:LaysM.n290 P ρ) (A:Option Addr) (l c n:Nat) (olds:List Value) (w:World) (ho:olds.length=l) (hlc:l<=c) (hn:1<=n)
  (hlim:l+n<=140737488355328) (hc2:c<=140737488355328) (hsrc:l=0\/∃ a,A=some a/\∀ j v,olds[j]?=some v->w.cell? (a.add j)=some v) (h1:∀ v ∈ olds,v.oneCell'=true) :
  Calls P (ρ.f 290) #[.slice A l c,.int .i64 n] w fun e w'=>∃ cap2 cells,e=.returned (.slice (some ⟨w.heap.size,0,none⟩) l cap2)/\w'.heap[w.heap.size]?=some (.cells cells (ρ.t 5) (0,0)) /\
   cells.size=cap2/\cells.toList.take l=olds/\l+n<=cap2/\cap2<=maxLen/\Below w.heap.size w w':=by
 have mixed:=L.mixed
 have t5:=L.t5;have a5:=L.a5;have z5:=L.z5;have v5:=L.v5
 have t37:=L.t37;have a37:=L.a37;have z37:=L.z37;have v37:=L.v37
 have t3:=L.t3;have a3:=L.a3;have z3:=L.z3;have v3:=L.v3
 have t0:=L.t0;have a0:=L.a0;have z0:=L.z0;have v0:=L.v0
 have t4:=L.t4;have a4:=L.a4;have z4:=L.z4;have v4:=L.v4
 obtain ⟨i0,hi,hz0,hz1,hz2⟩:=info_parts L.i5
 have hsz1:(P.info? (ρ.t 5)).map (·.size)=some 1:=by rw [hi];simp [hz1]
 by_cases hC:l+n < 2*c
 ·have happ:=Lib.run_append_nil_zeros (P:=P) w (ρ.t 37) (ρ.t 3) (ρ.t 37) (ρ.t 5) i0 (.int .u8 0) .i64 .i64 L.t37 L.t3 hi hz0 (2*c) (by omega) (by omega) (by omega) (by rw [hz2];omega)
  rw [show (((2*c:Nat)):Int)=2*(c:Int) by omega] at happ
  generalize hcap:grownCap w (2*c) 0 (ρ.t 5)=cap2 at happ
  have hcapge:2*c<=cap2:=by rw [<-hcap];exact grownCap_ge w _ 0 (ρ.t 5)
  have hcaple:cap2<=maxLen:=by rw [<-hcap];exact grownCap_le_maxLen w _ 0 (ρ.t 5) (by unfold maxLen;omega)
  generalize hZ:(Builtin.zeroCells (Value.int .u8 0).cells (2*c)++Builtin.zeroCells (Value.int .u8 0).cells (cap2 - (2*c)))=Z at happ
  have hZs:Z.size=cap2:=by rw [<-hZ];simp [size_zeroCells,Value.cells];omega
  clear hcap hZ
  have hsrc1:l=0\/∃ a,A=some a/\∀ j v,olds[j]?=some v->(w.alloc (.cells Z (ρ.t 5))).drew.cell? (a.add j)=some v:=hsrc.imp id fun ⟨a,e,h⟩=>⟨a,e,fun j v hj=>(World.cell?_of_block (a:=a.add j) (Below.heap_alloc w _ _ (World.block_lt_of_cell? w _ (h j v hj)))).trans (h j v hj)⟩
  obtain ⟨W2,Y,hcopy,hY,hYl,hgb,hsz⟩:=ZkF (P:=P) (w.alloc (.cells Z (ρ.t 5))).drew (ρ.t 37) (ρ.t 37) (ρ.t 3) (ρ.t 5) w.heap.size 0 (2*c) cap2 A l c Z (ρ.t 5) olds L.t37 hsz1 (heap_alloc_new w _) ho (by omega) hsrc1 (by omega) h1
  go_enter_defers L.f290,Body.n290_ntmps ρ
  go_wp2_with (at_builtin;refine Lib.wpList_append_run _ rfl _ _ _ _ rfl _ _ rfl rfl _ _ happ ?_)
  refine leaves_cons (f:=(ρ.f 324)) (args:=#[]) (by simp) (enters_of L.f324 (by kernel_rfl) rfl _ _) ?_
  refine (Any.growSlice_catch_idle { L with } _).mono ?_
  rintro e u' w'' ⟨rfl,rfl,rfl⟩
  refine ⟨_,results_tmp rfl _ _ _,?_⟩
  refine ⟨cap2,Y,rfl,hY,?_,?_,by omega,hcaple,?_⟩
  ·have h3:=congrArg List.length hYl
   simp only [List.length_append,List.length_drop,List.take_zero,List.length_nil,Array.length_toList] at h3
   omega
  ·rw [hYl,List.take_zero,List.nil_append,List.take_append_of_le_length (by omega),List.take_of_length_le (by omega)]
  ·have hs1:(w.alloc (.cells Z (ρ.t 5))).drew.heap.size=w.heap.size+1:=by show (w.alloc (.cells Z (ρ.t 5))).heap.size=_;simp
   exact ⟨hgb.os,hgb.tape,hgb.output,by omega,fun k hk=>(hgb.block k (by omega) (fun e=>by injection e with e;omega)).trans (Below.heap_alloc w _ k hk)⟩
 ·have happ:=Lib.run_append_nil_zeros (P:=P) w (ρ.t 37) (ρ.t 3) (ρ.t 37) (ρ.t 5) i0 (.int .u8 0) .i64 .i64 L.t37 L.t3 hi hz0 (l+n) (by omega) (by omega) (by omega) (by rw [hz2];omega)
  rw [show (((l+n:Nat)):Int)=(l:Int)+(n:Int) by omega] at happ
  generalize hcap:grownCap w (l+n) 0 (ρ.t 5)=cap2 at happ
  have hcapge:l+n<=cap2:=by rw [<-hcap];exact grownCap_ge w _ 0 (ρ.t 5)
  have hcaple:cap2<=maxLen:=by rw [<-hcap];exact grownCap_le_maxLen w _ 0 (ρ.t 5) (by unfold maxLen;omega)
  generalize hZ:(Builtin.zeroCells (Value.int .u8 0).cells (l+n)++Builtin.zeroCells (Value.int .u8 0).cells (cap2 - (l+n)))=Z at happ
  have hZs:Z.size=cap2:=by rw [<-hZ];simp [size_zeroCells,Value.cells];omega
  clear hcap hZ
  have hsrc1:l=0\/∃ a,A=some a/\∀ j v,olds[j]?=some v->(w.alloc (.cells Z (ρ.t 5))).drew.cell? (a.add j)=some v:=hsrc.imp id fun ⟨a,e,h⟩=>⟨a,e,fun j v hj=>(World.cell?_of_block (a:=a.add j) (Below.heap_alloc w _ _ (World.block_lt_of_cell? w _ (h j v hj)))).trans (h j v hj)⟩
  obtain ⟨W2,Y,hcopy,hY,hYl,hgb,hsz⟩:=ZkF (P:=P) (w.alloc (.cells Z (ρ.t 5))).drew (ρ.t 37) (ρ.t 37) (ρ.t 3) (ρ.t 5) w.heap.size 0 (l+n) cap2 A l c Z (ρ.t 5) olds L.t37 hsz1 (heap_alloc_new w _) ho (by omega) hsrc1 (by omega) h1
  go_enter_defers L.f290,Body.n290_ntmps ρ
  go_wp2_with (at_builtin;refine Lib.wpList_append_run _ rfl _ _ _ _ rfl _ _ rfl rfl _ _ happ ?_)
  refine leaves_cons (f:=(ρ.f 324)) (args:=#[]) (by simp) (enters_of L.f324 (by kernel_rfl) rfl _ _) ?_
  refine (Any.growSlice_catch_idle { L with } _).mono ?_
  rintro e u' w'' ⟨rfl,rfl,rfl⟩
  refine ⟨_,results_tmp rfl _ _ _,?_⟩
  refine ⟨cap2,Y,rfl,hY,?_,?_,by omega,hcaple,?_⟩
  ·have h3:=congrArg List.length hYl
   simp only [List.length_append,List.length_drop,List.take_zero,List.length_nil,Array.length_toList] at h3
   omega
  ·rw [hYl,List.take_zero,List.nil_append,List.take_append_of_le_length (by omega),List.take_of_length_le (by omega)]
  ·have hs1:(w.alloc (.cells Z (ρ.t 5))).drew.heap.size=w.heap.size+1:=by show (w.alloc (.cells Z (ρ.t 5))).heap.size=_;simp
   exact ⟨hgb.os,hgb.tape,hgb.output,by omega,fun k hk=>(hgb.block k (by omega) (fun e=>by injection e with e;omega)).trans (Below.heap_alloc w _ k hk)⟩
set_option maxRecDepth 100000 in
theorem Zkn (L:LaysM.n181 P ρ) (b:Nat) (ao:Option Addr) (l cap:Nat) (w:World) (c0:w.cell? ⟨b,0,none⟩=some (.slice ao l cap)) (c1:w.cell? ⟨b,1,none⟩=some (.int .i64 0)) (hmax:l<=maxLen) :
  Calls P (ρ.f 181) #[.pointer (some ⟨b,0,none⟩)] w fun e w'=>e=.returned (.int .i64 l)/\∃ n,w'=w.drewN n:=by
 have mixed:=L.mixed
 have t5:=L.t5;have a5:=L.a5;have z5:=L.z5;have v5:=L.v5
 have t130:=L.t130;have a130:=L.a130;have z130:=L.z130;have v130:=L.v130
 have t3:=L.t3;have a3:=L.a3;have z3:=L.z3;have v3:=L.v3
 have t0:=L.t0;have a0:=L.a0;have z0:=L.z0;have v0:=L.v0
 have t93:=L.t93;have u93:=run_underlying L.t93;have a93:=L.a93;have z93:=L.z93;have v93:=L.v93
 have t37:=L.t37;have a37:=L.a37;have z37:=L.z37;have v37:=L.v37
 unfold maxLen at hmax
 go_enter L.f181,Body.n181_ntmps ρ
 go_wp2
 go_region_o
 all_goals (go_wp2;go_ret;exact ⟨by simp,1,rfl⟩)
def Zjr (w:World) (T:TypeId) (R:Nat->Option Value) (b l n:Nat) (olds:List Value) (lr:Int) (e:TypeId) (w':World):Prop :=
 ∃ cap2 cells,LibA.Three w' b 0 T R (.slice (some ⟨w.heap.size,0,none⟩) (l+n) cap2) (.int .i64 0) (.int .i8 lr)/\w'.heap[w.heap.size]?=some (.cells cells e (0,0)) /\
  cells.size=cap2/\cells.toList.take l=olds/\l+n<=cap2/\cap2<=maxLen/\w.grownBy w' (some b)
theorem ZmP {w:World} {b:Nat} {T:TypeId} {R:Nat->Option Value} {x y z:Value} (h:LibA.Three w b 0 T R x y z) (v1 s:Value) :
  LibA.Three (((w.setCell ⟨b,0,none⟩ v1).setCell ⟨b,1,none⟩ (.int .i64 0)).setCell ⟨b,0,none⟩ s) b 0 T R s (.int .i64 0) z:=((h.set0 v1).set1 (.int .i64 0)).set0 s
end
end
end Go.Proofs.YthfdocdjpdkmoaaGreatDoor
