/- The card of PacketCodes: for every input the law returns true, and each argument reads afterwards as it read before. No other condition; the tables of unicode/utf8 are tied to the program. -/
import Derived.Test.YtmlkhhidifjjfaaDoorMc4
import Derived.Test.YtmlkhhidifjjfaaDoorMc3
import Derived.Test.YtmlkhhidifjjfaaDoorMc2
import Derived.Shelf.LaysM
import Derived.Shelf.Bytes.TryGrowAt
import Derived.Shelf.Bytes.GrowSliceCatch
import Derived.Lib.ByteType
import Derived.Lib.BufferAt
import Derived.Lib.BufferOwn
import Derived.Lib.AppendZeros
import Derived.Lib.Walk
import Derived.Lib.Hide
import Derived.Laws.CopyRow
import Derived.Laws.IdiomCopy
import Derived.Laws.MakeOwn
import Derived.WalkKit
import Derived.OwnWalk
import Derived.Defers
import Derived.Recover
import Derived.RegionTactic
import Derived.Shelf.RegionOpenPlain
import Derived.Deep.RegionWith
import Derived.Deep.Draws
import Derived.BigCall
import Derived.BigGuard
import Derived.Lib.BufferSrc
import Derived.Test.YtmlkhhidifjjfaaDoorMc1
import Derived.Test.YtmlkhhidifjjfaaDoorProg
import Derived.Lib.LaidU8T
import Derived.Test.YtmlkhhidifjjfaaDoorRows
import Derived.Deep.Slices
import Derived.Test.YtmlkhhidifjjfaaDoorCards
import Derived.Test.YtmlkhhidifjjfaaDoorTie
import Derived.ProofKit
import Derived.OpenShut
import Derived.ShutString
import Derived.ChangeOld
import Derived.Below
import Derived.SevenTiedAt
import Derived.LaidByTextLater
import Derived.Lib.LaidIn
import Derived.Deep.DeepHandedRow
import Derived.MakeChecks
import Derived.SizedLaws
set_option linter.defProp false
set_option linter.unusedSectionVars false
set_option linter.unusedSimpArgs false
set_option linter.unusedVariables false
namespace Go.Proofs.YtmlkhhidifjjfaaDoor
set_option maxHeartbeats 16000000
set_option maxRecDepth 10000
def Zhx:Zb:=[77,81,84,84]
theorem Zip (q:Int):0≤Zv q 3∧Zv q 3≤3:=by
 have h:∀ x:BitVec 64,(x &&& BitVec.ofInt 64 3).toNat≤3:=by
  intro x
  rw [BitVec.toNat_and]
  exact Nat.and_le_right
 have h2:=h (BitVec.ofInt 64 q)
 unfold Zv
 have h3:IntKind.i64.bits=64:=rfl
 rw [h3,Zb3 (by omega) (by omega)]
 omega
def Zps (p:Zq):Int:=Z8 p.clean 2+Z8 p.hasWill 4+Zv p.will.qos 3*8+Z8 p.will.retain 32+Z8 p.hasPassword 64+Z8 p.hasUser 128
theorem Zd9 (b:Bool) (n:Int) (h:0≤n):0≤Z8 b n∧Z8 b n≤n:=by unfold Z8;split <;> omega
theorem ZbV (n:Int) (h0:0≤n) (h1:n < 9223372036854775808):IntKind.i64.wrap n=n:=by
 obtain ⟨m,rfl⟩:∃ m:Nat,n=m:=⟨n.toNat,by omega⟩
 exact Zb3 (by omega) (by omega)
def ZjS (p:Zq):Zb:=((((Zah Zhx).1++beB (ZC 5) 1)++beB (ZC (Zps p)) 1)++beB (ZC p.keep) 2)++(ZaF 1 p.props).1++(Zah p.client).1
def ZlS (p:Zq):Zb:=if p.hasWill then ((ZjS p++(ZaF 16 p.will.props).1)++(Zah p.will.topic).1)++(ZbF p.will.data).1 else ZjS p
def Zjz (p:Zq):Zb:=if p.hasUser then ZlS p++(Zah p.user).1 else ZlS p
def Zei (p:Zq):Zb:=if p.hasPassword then Zjz p++(ZbF p.password).1 else Zjz p
section
variable (p:Zq) (h:OkW p)
include h
theorem ZIi:E1 126 [.ref 0 0,Z7 p] [.var wn]=some (.tup [],wH 0 (Zei p)):=by
 have hq:=Zip p.will.qos
 have m1:=Zd9 p.clean 2 (by omega)
 have m2:=Zd9 p.hasWill 4 (by omega)
 have m3:=Zd9 p.will.retain 32 (by omega)
 have m4:=Zd9 p.hasPassword 64 (by omega)
 have m5:=Zd9 p.hasUser 128 (by omega)
 have hm:=fun b n σ site own=>Zi2 b n σ site own
 have w1:=ZbV (Z8 p.clean 2+Z8 p.hasWill 4) (by omega) (by omega)
 have w2:=ZbV (Zv p.will.qos 3*8) (by omega) (by omega)
 have w3:=ZbV (Z8 p.clean 2+Z8 p.hasWill 4+Zv p.will.qos 3*8) (by omega) (by omega)
 have w4:=ZbV (Z8 p.clean 2+Z8 p.hasWill 4+Zv p.will.qos 3*8+Z8 p.will.retain 32) (by omega) (by omega)
 have w5:=ZbV (Z8 p.clean 2+Z8 p.hasWill 4+Zv p.will.qos 3*8+Z8 p.will.retain 32+Z8 p.hasPassword 64) (by omega) (by omega)
 have w6:=ZbV (Z8 p.clean 2+Z8 p.hasWill 4+Zv p.will.qos 3*8+Z8 p.will.retain 32+Z8 p.hasPassword 64+Z8 p.hasUser 128) (by omega) (by omega)
 have lim:=ZeI
 have t0:=ZcM Zhx
 have t1:=ZcM p.client
 have t2:=ZcM p.will.topic
 have t3:=ZcM p.user
 have d1:=Zi3 p.will.data
 have d2:=Zi3 p.password
 have y1:=Zdi 1 p.props
 have y2:=Zdi 16 p.will.props
 have f0:=fun {σ:Za} {t site:Nat}=>Zt7 Zhx (by decide) (σ:=σ) (t:=t) (site:=site)
 unfold Zei Zjz ZlS ZjS Zps
 have n1:=ZaJ 1 (ZC 5)
 generalize (Zah Zhx).1=l0 at *
 have f1:=fun {σ:Za} {site:Nat}=>ZfV l0 5 1 (by omega) (by omega) (m:=1) rfl (by omega) (σ:=σ) 0 2 0 (site:=site) (by omega)
 generalize beB (ZC 5) 1=D1 at *
 obtain ⟨l1,e1⟩:∃ l1,l0++D1=l1:=⟨_,rfl⟩
 have k1:l1.length=l0.length+D1.length:=by rw [←e1,List.length_append]
 simp only [e1] at f1 ⊢
 have n2:=ZaJ 1 (ZC (Z8 p.clean 2+Z8 p.hasWill 4+Zv p.will.qos 3*8+Z8 p.will.retain 32+Z8 p.hasPassword 64+Z8 p.hasUser 128))
 have f2:=fun {σ:Za} {site:Nat}=>ZfV l1 (Z8 p.clean 2+Z8 p.hasWill 4+Zv p.will.qos 3*8+Z8 p.will.retain 32+Z8 p.hasPassword 64+Z8 p.hasUser 128) 1 (by omega) (by omega) (m:=1) rfl (by omega) (σ:=σ) 0 2 1 (site:=site) (by omega)
 generalize beB (ZC (Z8 p.clean 2+Z8 p.hasWill 4+Zv p.will.qos 3*8+Z8 p.will.retain 32+Z8 p.hasPassword 64+Z8 p.hasUser 128)) 1=D2 at *
 obtain ⟨l2,e2⟩:∃ l2,l1++D2=l2:=⟨_,rfl⟩
 have k2:l2.length=l1.length+D2.length:=by rw [←e2,List.length_append]
 simp only [e2] at f2 ⊢
 have n3:=ZaJ 2 (ZC p.keep)
 have f3:=fun {σ:Za} {site:Nat}=>ZfV l2 p.keep 2 (by omega) (by omega) (m:=2) rfl (by omega) (σ:=σ) 0 2 2 (site:=site) (by omega)
 generalize beB (ZC p.keep) 2=D3 at *
 obtain ⟨l3,e3⟩:∃ l3,l2++D3=l3:=⟨_,rfl⟩
 have k3:l3.length=l2.length+D3.length:=by rw [←e3,List.length_append]
 simp only [e3] at f3 ⊢
 have f4:=fun {σ:Za} {site:Nat}=>Zgu l3 1 p.props h.props.1 h.props.2 (by omega) (σ:=σ) 0 2 3 (site:=site) (by omega)
 generalize (ZaF 1 p.props).1=D4 at *
 obtain ⟨l4,e4⟩:∃ l4,l3++D4=l4:=⟨_,rfl⟩
 have k4:l4.length=l3.length+D4.length:=by rw [←e4,List.length_append]
 simp only [e4] at f4 ⊢
 have f5:=fun {σ:Za} {site:Nat}=>ZiQ l4 p.client h.client (by omega) (σ:=σ) 0 2 4 (site:=site) (by omega)
 generalize (Zah p.client).1=D5 at *
 obtain ⟨l5,e5⟩:∃ l5,l4++D5=l5:=⟨_,rfl⟩
 have k5:l5.length=l4.length+D5.length:=by rw [←e5,List.length_append]
 simp only [e5] at f5 ⊢
 have f6:=fun {σ:Za} {site:Nat}=>Zgu l5 16 p.will.props h.wprops.1 h.wprops.2 (by omega) (σ:=σ) 0 2 5 (site:=site) (by omega)
 generalize (ZaF 16 p.will.props).1=D6 at *
 obtain ⟨l6,e6⟩:∃ l6,l5++D6=l6:=⟨_,rfl⟩
 have k6:l6.length=l5.length+D6.length:=by rw [←e6,List.length_append]
 simp only [e6] at f6 ⊢
 have f7:=fun {σ:Za} {site:Nat}=>ZiQ l6 p.will.topic h.wtopic (by omega) (σ:=σ) 0 2 6 (site:=site) (by omega)
 generalize (Zah p.will.topic).1=D7 at *
 obtain ⟨l7,e7⟩:∃ l7,l6++D7=l7:=⟨_,rfl⟩
 have k7:l7.length=l6.length+D7.length:=by rw [←e7,List.length_append]
 simp only [e7] at f7 ⊢
 have f8:=fun {σ:Za} {site:Nat}=>ZuT l7 p.will.data h.wdata (by omega) (σ:=σ) 0 2 7 (site:=site) (by omega)
 generalize (ZbF p.will.data).1=D8 at *
 obtain ⟨l8,e8⟩:∃ l8,l7++D8=l8:=⟨_,rfl⟩
 have k8:l8.length=l7.length+D8.length:=by rw [←e8,List.length_append]
 simp only [e8] at f8 ⊢
 have hO:=fun {j g:Nat} {l:Zb} {σ:Za}=>ZdR (j:=j) (g:=g) (l:=l) (σ:=σ)
 rw [ZbB]
 have e0:=Zbt p
 have a9:(Zt p)[9]?=some (.lst false (p.props.map Zo)):=rfl
 have a12:(Zt p)[12]?=some (.bool p.clean):=rfl
 have a13:(Zt p)[13]?=some (.int .i64 p.keep):=rfl
 have a14:(Zt p)[14]?=some (.str p.client):=rfl
 have a15:(Zt p)[15]?=some (.bool p.hasWill):=rfl
 have a16:(Zt p)[16]?=some (.str p.will.topic):=rfl
 have a17:(Zt p)[17]?=some (.lst false (p.will.data.map Zc)):=rfl
 have a18:(Zt p)[18]?=some (.int .i64 p.will.qos):=rfl
 have a19:(Zt p)[19]?=some (.bool p.will.retain):=rfl
 have a20:(Zt p)[20]?=some (.lst false (p.will.props.map Zo)):=rfl
 have a21:(Zt p)[21]?=some (.bool p.hasUser):=rfl
 have a22:(Zt p)[22]?=some (.str p.user):=rfl
 have a23:(Zt p)[23]?=some (.bool p.hasPassword):=rfl
 have a24:(Zt p)[24]?=some (.lst false (p.password.map Zc)):=rfl
 have b5:=h.user
 have b6:=h.password
 clear h
 generalize Zt p=P at *
 generalize p.will.qos=wq at *
 generalize p.will.retain=wr at *
 generalize p.will.topic=wt at *
 generalize p.will.data=wd at *
 generalize p.will.props=wp at *
 generalize p.clean=cl at *
 generalize p.keep=kp at *
 generalize p.client=ci at *
 generalize p.props=ps at *
 generalize p.hasWill=hw at *
 generalize p.hasUser=hu at *
 generalize p.hasPassword=hp at *
 generalize p.user=us at *
 generalize p.password=pw at *
 unfold Zv Zhx at *
 rw [Zbp (by rfl) ZyZ]
 have fu:=fun (l:Zb) (g:Nat) (hl:l.length≤1000000000) {σ:Za} {site:Nat}=>ZiQ l us b5 (by omega) (σ:=σ) 0 2 g (site:=site) (by omega)
 have fp:=fun (l:Zb) (g:Nat) (hl:l.length≤1000000000) {σ:Za} {site:Nat}=>ZuT l pw b6 (by omega) (σ:=σ) 0 2 g (site:=site) (by omega)
 generalize (Zah us).1=Du at *
 generalize (ZbF pw).1=Dp at *
 cases hw <;> cases hu <;> cases hp
 ·simp only [Bool.false_eq_true,if_false]
  unfold wn at *
  simp -implicitDefEqProofs only [EQA,Zs,Nat.reduceAdd,Nat.reduceLT,Nat.reduceEqDiff,Nat.reduceBEq,reduceCtorEq,↓reduceIte,Zd,List.contains_cons,Zf7,ZeG,ZfK,oI,AVal.cells,a9,a12,a13,a14,a15,a18,a19,a21,a23,hm,w1,w2,w3,w4,w5,w6,f0,f1,f2,f3,f4,f5,Zaj,Zak,Zav,Zar,Zay,Zam,List.lookup_nil]
  exact hO (j:=2) (by decide) rfl rfl
 ·have g1:=fun {σ:Za} {site:Nat}=>fp l5 5 (by omega) (σ:=σ) (site:=site)
  simp only [Bool.false_eq_true,if_false,if_true]
  unfold wn at *
  simp -implicitDefEqProofs only [EQA,Zs,Nat.reduceAdd,Nat.reduceLT,Nat.reduceEqDiff,Nat.reduceBEq,reduceCtorEq,↓reduceIte,Zd,List.contains_cons,Zf7,ZeG,ZfK,oI,AVal.cells,a9,a12,a13,a14,a15,a18,a19,a21,a23,a24,hm,w1,w2,w3,w4,w5,w6,f0,f1,f2,f3,f4,f5,g1,Zaj,Zak,Zav,Zar,Zay,Zam,List.lookup_nil]
  exact hO (j:=2) (by decide) rfl rfl
 ·have g1:=fun {σ:Za} {site:Nat}=>fu l5 5 (by omega) (σ:=σ) (site:=site)
  simp only [Bool.false_eq_true,if_false,if_true]
  unfold wn at *
  simp -implicitDefEqProofs only [EQA,Zs,Nat.reduceAdd,Nat.reduceLT,Nat.reduceEqDiff,Nat.reduceBEq,reduceCtorEq,↓reduceIte,Zd,List.contains_cons,Zf7,ZeG,ZfK,oI,AVal.cells,a9,a12,a13,a14,a15,a18,a19,a21,a22,a23,hm,w1,w2,w3,w4,w5,w6,f0,f1,f2,f3,f4,f5,g1,Zaj,Zak,Zav,Zar,Zay,Zam,List.lookup_nil]
  exact hO (j:=2) (by decide) rfl rfl
 ·have g1:=fun {σ:Za} {site:Nat}=>fu l5 5 (by omega) (σ:=σ) (site:=site)
  have g2:=fun {σ:Za} {site:Nat}=>fp (l5++Du) 6 (by rw [List.length_append];omega) (σ:=σ) (site:=site)
  simp only [Bool.false_eq_true,if_false,if_true]
  unfold wn at *
  simp -implicitDefEqProofs only [EQA,Zs,Nat.reduceAdd,Nat.reduceLT,Nat.reduceEqDiff,Nat.reduceBEq,reduceCtorEq,↓reduceIte,Zd,List.contains_cons,Zf7,ZeG,ZfK,oI,AVal.cells,a9,a12,a13,a14,a15,a18,a19,a21,a22,a23,a24,hm,w1,w2,w3,w4,w5,w6,f0,f1,f2,f3,f4,f5,g1,g2,Zaj,Zak,Zav,Zar,Zay,Zam,List.lookup_nil]
  exact hO (j:=2) (by decide) rfl rfl
 ·simp only [Bool.false_eq_true,if_false,if_true]
  unfold wn at *
  simp -implicitDefEqProofs only [EQA,Zs,Nat.reduceAdd,Nat.reduceLT,Nat.reduceEqDiff,Nat.reduceBEq,reduceCtorEq,↓reduceIte,Zd,List.contains_cons,Zf7,ZeG,ZfK,oI,AVal.cells,a9,a12,a13,a14,a15,a16,a17,a18,a19,a20,a21,a23,hm,w1,w2,w3,w4,w5,w6,f0,f1,f2,f3,f4,f5,f6,f7,f8,Zaj,Zak,Zav,Zar,Zay,Zam,List.lookup_nil]
  exact hO (j:=2) (by decide) rfl rfl
 ·have g1:=fun {σ:Za} {site:Nat}=>fp l8 8 (by omega) (σ:=σ) (site:=site)
  simp only [Bool.false_eq_true,if_false,if_true]
  unfold wn at *
  simp -implicitDefEqProofs only [EQA,Zs,Nat.reduceAdd,Nat.reduceLT,Nat.reduceEqDiff,Nat.reduceBEq,reduceCtorEq,↓reduceIte,Zd,List.contains_cons,Zf7,ZeG,ZfK,oI,AVal.cells,a9,a12,a13,a14,a15,a16,a17,a18,a19,a20,a21,a23,a24,hm,w1,w2,w3,w4,w5,w6,f0,f1,f2,f3,f4,f5,f6,f7,f8,g1,Zaj,Zak,Zav,Zar,Zay,Zam,List.lookup_nil]
  exact hO (j:=2) (by decide) rfl rfl
 ·have g1:=fun {σ:Za} {site:Nat}=>fu l8 8 (by omega) (σ:=σ) (site:=site)
  simp only [Bool.false_eq_true,if_false,if_true]
  unfold wn at *
  simp -implicitDefEqProofs only [EQA,Zs,Nat.reduceAdd,Nat.reduceLT,Nat.reduceEqDiff,Nat.reduceBEq,reduceCtorEq,↓reduceIte,Zd,List.contains_cons,Zf7,ZeG,ZfK,oI,AVal.cells,a9,a12,a13,a14,a15,a16,a17,a18,a19,a20,a21,a22,a23,hm,w1,w2,w3,w4,w5,w6,f0,f1,f2,f3,f4,f5,f6,f7,f8,g1,Zaj,Zak,Zav,Zar,Zay,Zam,List.lookup_nil]
  exact hO (j:=2) (by decide) rfl rfl
 ·have g1:=fun {σ:Za} {site:Nat}=>fu l8 8 (by omega) (σ:=σ) (site:=site)
  have g2:=fun {σ:Za} {site:Nat}=>fp (l8++Du) 9 (by rw [List.length_append];omega) (σ:=σ) (site:=site)
  simp only [if_true]
  unfold wn at *
  simp -implicitDefEqProofs only [EQA,Zs,Nat.reduceAdd,Nat.reduceLT,Nat.reduceEqDiff,Nat.reduceBEq,reduceCtorEq,↓reduceIte,Zd,List.contains_cons,Zf7,ZeG,ZfK,oI,AVal.cells,a9,a12,a13,a14,a15,a16,a17,a18,a19,a20,a21,a22,a23,a24,hm,w1,w2,w3,w4,w5,w6,f0,f1,f2,f3,f4,f5,f6,f7,f8,g1,g2,Zaj,Zak,Zav,Zar,Zay,Zam,List.lookup_nil]
  exact hO (j:=2) (by decide) rfl rfl
theorem ZKa:(Zei p).length≤1000000000:=by
 have t0:=ZcM Zhx
 have t1:=ZcM p.client
 have t2:=ZcM p.will.topic
 have t3:=ZcM p.user
 have d1:=Zi3 p.will.data
 have d2:=Zi3 p.password
 have y1:=Zdi 1 p.props
 have y2:=Zdi 16 p.will.props
 have n1:=ZaJ 1 (ZC 5)
 have n2:=ZaJ 1 (ZC (Zps p))
 have n3:=ZaJ 2 (ZC p.keep)
 unfold Zei Zjz ZlS ZjS
 cases p.hasWill <;> cases p.hasUser <;> cases p.hasPassword <;> simp only [Bool.false_eq_true,if_false,if_true,List.length_append] <;> omega
theorem Zzn {σ:Za} {t site:Nat} (hf:σ[site]?=some .free) (hs0:σ[t]?=some (.var wn)) :
  Zj E1 BY σ site 126 1 true [.ref t 0,.agg (Zt p)]=some (.tup [],(σ.set t (.var (wv site 0 (Zei p).length))).set site (.row 0 1 ((Zei p).map Zc)),{ any:=true,upd:=[(t,wv site 0 (Zei p).length)] }) :=
 Zgs (args:=[.agg (Zt p)]) rfl rfl (ZIi p h) (by kernel_rfl) (by rw [List.all_cons,Zdu];rfl) (by rw [List.map_cons,ZdG];rfl) hf hs0
end
end Go.Proofs.YtmlkhhidifjjfaaDoor
namespace Go.Proofs.YtmlkhhidifjjfaaDoor
set_option maxHeartbeats 16000000
set_option maxRecDepth 10000
def Zk3 (p:Zq):Zb:=if p.qos > 0 then (Zah p.topic).1++beB (ZC p.id) 2 else (Zah p.topic).1
def Zk5 (p:Zq):Zb:=(Zk3 p++(ZaF 3 p.props).1)++p.payload
def Zi1 (p:Zq):Zb:=(beB (ZC (Z8 p.present 1)) 1++beB (ZC p.code) 1)++(ZaF 2 p.props).1
def ZfQ (s:Zbv):Int:=Zv s.qos 3+Z8 s.noLocal 4+Z8 s.asPublished 8+Zv s.handling 3*16
def ZmY (s:Zbv):Zb:=(Zah s.filter).1++beB (ZC (ZfQ s)) 1
def ZdL (l:List Zbv):Zb:=(l.map ZmY).flatten
def ZdO (l:List Zb):Zb:=(l.map fun f=>(Zah f).1).flatten
def Zd6 (l:List Int):Zb:=(l.map fun c=>beB (ZC c) 1).flatten
theorem ZJG (p:Zq) (h:OkW p) (hk:p.type=3):E1 78 [.ref 0 0,Z7 p] [.var wn]=some (.tup [],wH 0 (Zk5 p)):=by
 have lim:=ZeI
 have t1:=ZcM p.topic
 have y1:=Zdi 3 p.props
 have n1:=ZaJ 2 (ZC p.id)
 have f0:=fun {σ:Za} {t site:Nat}=>Zt7 p.topic h.topic (σ:=σ) (t:=t) (site:=site)
 have pl:=h.payload
 unfold Zk5 Zk3
 generalize (Zah p.topic).1=l0 at *
 have f1:=fun {σ:Za} {site:Nat}=>ZfV l0 p.id 2 (by omega) (by omega) (m:=2) rfl (by omega) (σ:=σ) 0 2 0 (site:=site) (by omega)
 generalize beB (ZC p.id) 2=D1 at *
 have f2:=fun (l:Zb) (g:Nat) (hl:l.length≤1000000000) {σ:Za} {site:Nat}=>Zgu l 3 p.props h.props.1 h.props.2 (by omega) (σ:=σ) 0 2 g (site:=site) (by omega)
 generalize (ZaF 3 p.props).1=D2 at *
 have f3:=fun (l:Zb) (g:Nat) (hl:l.length≤2000000000) {σ:Za} {site:Nat}=>Zi7 l p.payload (by omega) (σ:=σ) 0 2 g (site:=site) (by omega)
 have hO:=fun {j g:Nat} {l:Zb} {σ:Za}=>ZdR (j:=j) (g:=g) (l:=l) (σ:=σ)
 rw [ZbB]
 have e0:=Zbt p
 have a0:(Zt p)[0]?=some (.int .i64 p.type):=rfl
 have a2:(Zt p)[2]?=some (.int .i64 p.qos):=rfl
 have a4:(Zt p)[4]?=some (.int .i64 p.id):=rfl
 have a5:(Zt p)[5]?=some (.str p.topic):=rfl
 have a6:(Zt p)[6]?=some (.lst false (p.payload.map Zc)):=rfl
 have a9:(Zt p)[9]?=some (.lst false (p.props.map Zo)):=rfl
 rw [hk] at a0
 clear h hk
 generalize Zt p=P at *
 generalize p.qos=q at *
 generalize p.id=c at *
 generalize p.topic=tp at *
 generalize p.payload=pa at *
 generalize p.props=ps at *
 rw [Zbp (by rfl) Zeb]
 by_cases hq:q > 0
 ·rw [if_pos hq]
  have k1:(l0++D1).length=l0.length+D1.length:=List.length_append
  have k2:(l0++D1++D2).length=l0.length+D1.length+D2.length:=by rw [List.length_append,k1]
  have g2:=fun {σ:Za} {site:Nat}=>f2 (l0++D1) 1 (by omega) (σ:=σ) (site:=site)
  have g3:=fun {σ:Za} {site:Nat}=>f3 (l0++D1++D2) 2 (by omega) (σ:=σ) (site:=site)
  clear k1 k2 f2 f3
  unfold wn wT at *
  simp -implicitDefEqProofs only [EQA,Zs,Nat.reduceAdd,Nat.reduceLT,Nat.reduceEqDiff,Nat.reduceBEq,reduceCtorEq,decide_true,↓reduceIte,Zd,ZdM,Zdk,ZdV,oI,AVal.cells,a0,a2,a4,a5,a6,a9,Int.reduceBEq,hq,f0,f1,g2,g3,Zaj,Zak,Zav,Zar,Zay,Zam]
  exact hO (j:=2) (by decide) rfl rfl
 ·rw [if_neg hq]
  have k2:(l0++D2).length=l0.length+D2.length:=List.length_append
  have g2:=fun {σ:Za} {site:Nat}=>f2 l0 0 (by omega) (σ:=σ) (site:=site)
  have g3:=fun {σ:Za} {site:Nat}=>f3 (l0++D2) 1 (by omega) (σ:=σ) (site:=site)
  clear k2 f2 f3
  unfold wn wT at *
  simp -implicitDefEqProofs only [EQA,Zs,Nat.reduceAdd,Nat.reduceLT,Nat.reduceEqDiff,Nat.reduceBEq,reduceCtorEq,decide_false,↓reduceIte,Zd,ZdM,Zdk,ZdV,oI,AVal.cells,a0,a2,a5,a6,a9,Int.reduceBEq,hq,f0,g2,g3,Zaj,Zak,Zav,Zar,Zay,Zam]
  exact hO (j:=2) (by decide) rfl rfl
theorem ZEv (p:Zq) (h:OkW p) (hk:p.type=1):E1 78 [.ref 0 0,Z7 p] [.var wn]=some (.tup [],wH 0 (Zei p)):=by
 have f0:=fun {σ:Za} {t site:Nat}=>Zzn p h (σ:=σ) (t:=t) (site:=site)
 have hO:=fun {j g:Nat} {l:Zb} {σ:Za}=>ZdR (j:=j) (g:=g) (l:=l) (σ:=σ)
 rw [ZbB]
 generalize Zei p=B at *
 have e0:=Zbt p
 have e1:=ZbP p
 have a0:(Zt p)[0]?=some (.int .i64 p.type):=rfl
 rw [hk] at a0
 generalize Zt p=P at *
 rw [Zbp (by rfl) Zeb]
 unfold wn at *
 simp -implicitDefEqProofs only [EQA,Zs,Nat.reduceAdd,Nat.reduceLT,Nat.reduceLeDiff,Nat.reduceEqDiff,Nat.reduceBEq,reduceCtorEq,↓reduceIte,Zd,ZdM,Zdk,ZdV,oI,AVal.cells,a0,e0,e1,f0]
 exact hO (j:=2) (by decide) rfl rfl
theorem ZJZ (p:Zq) (h:OkW p) (hk:p.type=2):E1 78 [.ref 0 0,Z7 p] [.var wn]=some (.tup [],wH 0 (Zi1 p)):=by
 have lim:=ZeI
 have y1:=Zdi 2 p.props
 have n1:=ZaJ 1 (ZC p.code)
 have n0:=ZaJ 1 (ZC (Z8 p.present 1))
 have hm:=fun b n σ site own=>Zi2 b n σ site own
 have f0:=fun {σ:Za} {t site:Nat}=>Zlz (Z8 p.present 1) 1 (by omega) (by omega) (m:=1) rfl (σ:=σ) (t:=t) (site:=site)
 unfold Zi1
 generalize beB (ZC (Z8 p.present 1)) 1=l0 at *
 have f1:=fun {σ:Za} {site:Nat}=>ZfV l0 p.code 1 (by omega) (by omega) (m:=1) rfl (by omega) (σ:=σ) 0 2 0 (site:=site) (by omega)
 generalize beB (ZC p.code) 1=D1 at *
 have k1:(l0++D1).length=l0.length+D1.length:=List.length_append
 have f2:=fun {σ:Za} {site:Nat}=>Zgu (l0++D1) 2 p.props h.props.1 h.props.2 (by omega) (σ:=σ) 0 2 1 (site:=site) (by omega)
 generalize (ZaF 2 p.props).1=D2 at *
 have hO:=fun {j g:Nat} {l:Zb} {σ:Za}=>ZdR (j:=j) (g:=g) (l:=l) (σ:=σ)
 rw [ZbB]
 have e0:=Zbt p
 have a0:(Zt p)[0]?=some (.int .i64 p.type):=rfl
 have a7:(Zt p)[7]?=some (.int .i64 p.code):=rfl
 have a9:(Zt p)[9]?=some (.lst false (p.props.map Zo)):=rfl
 have a25:(Zt p)[25]?=some (.bool p.present):=rfl
 rw [hk] at a0
 clear h hk k1
 generalize Zt p=P at *
 generalize p.code=c at *
 generalize p.present=b at *
 generalize p.props=ps at *
 rw [Zbp (by rfl) Zeb]
 unfold wn at *
 simp -implicitDefEqProofs only [EQA,Zs,Nat.reduceAdd,Nat.reduceLT,Nat.reduceEqDiff,Nat.reduceBEq,reduceCtorEq,↓reduceIte,Zd,ZdM,Zdk,ZdV,oI,AVal.cells,a0,a7,a9,a25,Int.reduceBEq,hm,f0,f1,f2]
 exact hO (j:=2) (by decide) rfl rfl
theorem ZuP (p:Zq) (h:OkW p) (hk:p.type=4∨p.type=5∨p.type=6∨p.type=7):E1 78 [.ref 0 0,Z7 p] [.var wn]=some (.tup [],wH 0 (beB (ZC p.id) 2++Za2 p)):=by
 have n0:=ZaJ 2 (ZC p.id)
 have f0:=fun {σ:Za} {t site:Nat}=>Zlz p.id 2 (by omega) (by omega) (m:=2) rfl (σ:=σ) (t:=t) (site:=site)
 generalize beB (ZC p.id) 2=l0 at *
 have f1:=fun {σ:Za} {site:Nat}=>ZKw p h l0 (by omega) (σ:=σ) 0 2 0 (site:=site) (by omega)
 have hO:=fun {j g:Nat} {l:Zb} {σ:Za}=>ZdR (j:=j) (g:=g) (l:=l) (σ:=σ)
 rw [ZbB]
 generalize Za2 p=B at *
 generalize ZfT p=g0 at *
 have e0:=Zbt p
 have e1:=ZbP p
 have a0:(Zt p)[0]?=some (.int .i64 p.type):=rfl
 have a4:(Zt p)[4]?=some (.int .i64 p.id):=rfl
 clear h
 generalize Zt p=P at *
 generalize p.id=c at *
 generalize p.type=ty at *
 rw [Zbp (by rfl) Zeb]
 unfold wn at *
 rcases hk with rfl | rfl | rfl | rfl
 all_goals
  simp -implicitDefEqProofs only [EQA,Zs,Nat.reduceAdd,Nat.reduceLT,Nat.reduceLeDiff,Nat.reduceEqDiff,Nat.reduceBEq,reduceCtorEq,↓reduceIte,Zd,ZdM,Zdk,ZdV,oI,AVal.cells,a0,a4,e0,e1,Int.reduceBEq,f0,f1]
  exact hO (j:=2) (by decide) rfl rfl
theorem ZCw (p:Zq) (h:OkW p) (hb:ZcK p=none) {σ:Za} {t site:Nat} (hf:σ[site]?=some .free) (hs0:σ[t]?=some (.var wn)) :
  Zj E1 BY σ site 131 1 true [.ref t 0,.agg (Zt p)]=some (.tup [],σ,{ any:=true,upd:=[(t,wn)] }):=by
 have:=Zuc p h
 rw [hb] at this
 exact ZrJ (args:=[.agg (Zt p)]) this (by kernel_rfl) (by rw [List.all_cons,Zdu];rfl) (by rw [List.map_cons,ZdG];rfl) (ff1 hf) hs0
theorem ZDP (p:Zq) (h:OkW p) (hb:ZcK p≠none) {σ:Za} {t site:Nat} (hf:σ[site]?=some .free) (hs0:σ[t]?=some (.var wn)) :
  Zj E1 BY σ site 131 1 true [.ref t 0,.agg (Zt p)]=some (.tup [],(σ.set t (.var (wv site 0 (Za2 p).length))).set site (.row 0 1 ((Za2 p).map Zc)),{ any:=true,upd:=[(t,wv site 0 (Za2 p).length)] }):=by
 have:=Zuc p h
 unfold ZcK at this hb
 by_cases hc:p.code≠0∨p.props≠[]
 ·rw [if_pos hc] at this
  exact Zgs (args:=[.agg (Zt p)]) rfl rfl this (by kernel_rfl) (by rw [List.all_cons,Zdu];rfl) (by rw [List.map_cons,ZdG];rfl) hf hs0
 ·rw [if_neg hc] at hb;exact absurd rfl hb
theorem ZM9 (p:Zq) (h:OkW p) (hk:p.type=14∨p.type=15):E1 78 [.ref 0 0,Z7 p] [.var wn]=some (.tup [],wO (ZcK p)):=by
 have hO:=fun {j g:Nat} {l:Zb} {σ:Za}=>ZdR (j:=j) (g:=g) (l:=l) (σ:=σ)
 have e0:=Zbt p
 have e1:=ZbP p
 have a0:(Zt p)[0]?=some (.int .i64 p.type):=rfl
 by_cases hb:ZcK p=none
 ·have f1:=fun {σ:Za} {t site:Nat}=>ZCw p h hb (σ:=σ) (t:=t) (site:=site)
  rw [hb,ZbB]
  clear h hb
  generalize Zt p=P at *
  generalize p.type=ty at *
  rw [Zbp (by rfl) Zeb]
  unfold wO wn at *
  rcases hk with rfl | rfl
  all_goals
   simp -implicitDefEqProofs only [EQA,Zs,Zac,Nat.reduceAdd,Nat.reduceLT,Nat.reduceLeDiff,Nat.reduceEqDiff,Nat.reduceBEq,reduceCtorEq,↓reduceIte,Zd,ZdM,Zdk,ZdV,oI,AVal.cells,a0,e0,e1,Int.reduceBEq,f1]
 ·have f1:=fun {σ:Za} {t site:Nat}=>ZDP p h hb (σ:=σ) (t:=t) (site:=site)
  have hr:ZcK p=some (Za2 p):=by unfold ZcK at hb ⊢;split at hb <;> simp_all
  rw [hr,ZbB]
  clear h hb hr
  generalize Za2 p=B at *
  generalize Zt p=P at *
  generalize p.type=ty at *
  rw [Zbp (by rfl) Zeb]
  unfold wO wn at *
  rcases hk with rfl | rfl
  all_goals
   simp -implicitDefEqProofs only [EQA,Zs,Nat.reduceAdd,Nat.reduceLT,Nat.reduceLeDiff,Nat.reduceEqDiff,Nat.reduceBEq,reduceCtorEq,↓reduceIte,Zd,ZdM,Zdk,ZdV,oI,AVal.cells,a0,e0,e1,Int.reduceBEq,f1]
   exact hO (j:=2) (by decide) rfl rfl
theorem ZDK (p:Zq) (hk:p.type < 1∨p.type=12∨p.type=13∨15 < p.type):E1 78 [.ref 0 0,Z7 p] [.var wn]=some (.tup [],[.var wn]):=by
 have e0:=Zbt p
 have a0:(Zt p)[0]?=some (.int .i64 p.type):=rfl
 have b:∀ n:Int,n=1∨n=2∨n=3∨n=4∨n=5∨n=6∨n=7∨n=8∨n=9∨n=10∨n=11∨n=14∨n=15→(p.type == n)=false:=by
  intro n hn
  have : p.type≠n:=by omega
  simpa using this
 have b1:=b 1 (by simp)
 have b2:=b 2 (by simp)
 have b3:=b 3 (by simp)
 have b4:=b 4 (by simp)
 have b5:=b 5 (by simp)
 have b6:=b 6 (by simp)
 have b7:=b 7 (by simp)
 have b8:=b 8 (by simp)
 have b9:=b 9 (by simp)
 have b10:=b 10 (by simp)
 have b11:=b 11 (by simp)
 have b14:=b 14 (by simp)
 have b15:=b 15 (by simp)
 rw [ZbB]
 generalize Zt p=P at *
 generalize p.type=ty at *
 rw [Zbp (by rfl) Zeb]
 unfold wn at *
 simp -implicitDefEqProofs only [EQA,Zs,Zac,Nat.reduceAdd,Nat.reduceLT,Nat.reduceEqDiff,Nat.reduceBEq,reduceCtorEq,↓reduceIte,Zd,ZdM,Zdk,ZdV,oI,AVal.cells,a0,b1,b2,b3,b4,b5,b6,b7,b8,b9,b10,b11,b14,b15]
end Go.Proofs.YtmlkhhidifjjfaaDoor
namespace Go.Proofs.YtmlkhhidifjjfaaDoor
set_option maxHeartbeats 16000000
set_option maxRecDepth 10000
theorem xw1 (c d:Zf) (h:c=d) (m:Nat) (tm:Tms) (σ:Za):evC FC PR1 BY m c tm σ=evC FC PR1 BY m d tm σ:=by rw [h]
def Zut:=xw1 Zmx ZjL rfl
def ZsN:=xw1 Zms Zjq rfl
def Zse:=xw1 ZmE Zj6 rfl
noncomputable def Zlj (m:Nat) (tm:Tms) (σ:Za):Option (AVal×Za):=(Zap m ZhG (Option.map (ZaX 0) (Option.map (ZaX 1) (evL FC PR1 BY m [75,74,73,0] Zmx tm σ))))
noncomputable def Zlo (m:Nat) (tm:Tms) (σ:Za):Option (AVal×Za):=(Zap m ZhG (Option.map (ZaX 0) (Option.map (ZaX 3) (evL FC PR1 BY m [110,109,108,0] Zms tm σ))))
noncomputable def ZkF (m:Nat) (tm:Tms) (σ:Za):Option (AVal×Za):=(Zap m ZhG (Option.map (ZaX 0) (Option.map (ZaX 5) (evL FC PR1 BY m [127,126,125,0] ZmE tm σ))))
theorem Zhp {a b c d:Nat} {x y z:AVal} (hx:ZK x=true) (hy:ZK y=true) (hz:ZK z=true) (r g:Nat) (hr:r≠0) (l:Zb) (σ:Za) (h0:σ[0]?=some (.var (wv r g l.length))) (h1:σ[r]?=some (.row g 1 (l.map Zc))) :
  gcT 1 [(a,x),(b,y),(c,z),(d,.ref 0 0)] σ=([(a,x),(b,y),(c,z),(d,.ref 0 0)],[.var (wv 1 0 l.length),.row 0 1 (l.map Zc)]):=by
 have d0:σ.getD 0 .free=.var (wv r g l.length):=by simp [List.getD_eq_getElem?_getD,h0]
 have d1:σ.getD r .free=.row g 1 (l.map Zc):=by simp [List.getD_eq_getElem?_getD,h1]
 have ej:([0]:List Nat).contains r=false:=by simp;omega
 have hrf:Zr (wv r g l.length)=[r]:=rfl
 have e1:=fun ρ=>Za4 ρ x hx
 have e2:=fun ρ=>Za4 ρ y hy
 have e3:=fun ρ=>Za4 ρ z hz
 have hv:Zr [x,y,z,.ref 0 0]=[0]:=by
  simp only [Zr,(e1 (fun _ _=>none)).2,(e2 (fun _ _=>none)).2,(e3 (fun _ _=>none)).2];rfl
 have hi:ZE 1 [x,y,z,.ref 0 0] σ=[0,r]:=by
  have hR:List.range 1=[0]:=rfl
  have e0:([]:List Nat).contains r=false:=rfl
  simp only [ZE,hv,hR,List.flatMap_cons,List.flatMap_nil,List.append_nil,d0,ZQ,hrf]
  rw [show (1000:Nat)=996+1+1+1+1 from rfl]
  simp only [List.cons_append,List.nil_append,ZA,ej,d1,ZQ,List.append_nil,Bool.false_eq_true,if_false]
  have ej0:([0]:List Nat).contains 0=true:=rfl
  have ejr:([0,r]:List Nat).contains r=true:=by simp
  simp []
 have hρ:Zl σ 1 [0,r] r g=some (1,0):=by
  have : ¬(0:Nat)=r:=fun e=>hr e.symm
  simp [Zl,Z1,Zp,ZU,h1,this]
 have hρ0:Zl σ 1 [0,r] 0 0=some (0,0):=by
  simp [Zl,Z1,Zp,ZU,h0]
 have hren:Ze (Zl σ 1 [0,r]) (wv r g l.length)=wv 1 0 l.length:=by simp only [wv,Ze,Zk,hρ]
 simp only [gcT,gcA,hi,List.map_cons,List.map_nil,Zx,d0,d1,ZU,Zp,ZJ,hren,Ze,(e1 _).1,(e2 _).1,(e3 _).1,Zk,hρ0]
 simp
theorem ZyE (r:List Zb):(ZdO r).length≤r.length*65537:=by
 induction r with
 | nil=>simp [ZdO]
 | cons x r ih =>
  have:=ZcM x
  simp only [ZdO,List.map_cons,List.flatten_cons,List.length_append,List.length_cons] at ih ⊢
  omega
theorem ZIR (r:List Int):(Zd6 r).length≤r.length:=by
 induction r with
 | nil=>simp [Zd6]
 | cons x r ih =>
  have:=ZaJ 1 (ZC x)
  simp only [Zd6,List.map_cons,List.flatten_cons,List.length_append,List.length_cons] at ih ⊢
  omega
theorem ZGb (r:List Zbv):(ZdL r).length≤r.length*65538:=by
 induction r with
 | nil=>simp [ZdL]
 | cons x r ih =>
  have:=ZcM x.filter
  have:=ZaJ 1 (ZC (ZfQ x))
  simp only [ZdL,List.map_cons,List.flatten_cons,List.length_append,List.length_cons,ZmY] at ih ⊢
  omega
theorem Zru (fs:List Zb) (hn:fs.length≤1048576) (hx:∀ f ∈ fs,f.length≤9223372036854775807):∀ (r:List Zb) (i:Nat) (l:Zb),fs.drop i=r→l.length+r.length*65537≤1000000000000 →
  Zlo 1 [(110,.int .i64 i),(109,.int .i64 fs.length),(108,.lst false (fs.map AVal.str)),(0,.ref 0 0)] [.var (wv 1 0 l.length),.row 0 1 (l.map Zc)]=some (.tup [],wH 0 (l++ZdO r))
 | [],i,l,h,hl=>by
  have h1:=Zdm h
  have hO:=fun {j g:Nat} {l:Zb} {σ:Za}=>ZdR (j:=j) (g:=g) (l:=l) (σ:=σ)
  have e:l++ZdO []=l:=by simp [ZdO]
  rw [e]
  unfold Zlo
  rw [Zad]
  simp -implicitDefEqProofs only [EQA,Zs,Nat.reduceAdd,Nat.reduceLT,Nat.reduceEqDiff,reduceCtorEq,decide_false,↓reduceIte,Zd,ZdV,Zjq,oI,ZsN,h1]
  exact hO (j:=1) (by decide) rfl rfl
 | x::r,i,l,h,hl=>by
  have hx0:x.length≤9223372036854775807:=hx x (List.mem_of_getElem? (Zaf h).1)
  have t1:=ZcM x
  have lim:=ZeI
  simp only [List.length_cons] at hl
  have ih:=Zru fs hn hx r (i+1) (l++(Zah x).1) (Zaf h).2.1 (by rw [List.length_append];omega)
  have h1:(i:Int) < fs.length:=by have:=(Zaf h).2.2;omega
  have e1:=iad (Zaf h).1 AVal.str (k:=1) rfl
  have e3:=Zc7 h1 (by omega)
  have f1:=fun {σ:Za} {site:Nat}=>ZiQ l x hx0 (by omega) (σ:=σ) 0 1 0 (site:=site) (by omega)
  have e:l++ZdO (x::r)=l++(Zah x).1++ZdO r:=by simp [ZdO]
  rw [e]
  generalize (Zah x).1=D at *
  have hG:=fun {a b c d:Nat} {i n:Int} {σ:Za} h0 h1=>Zhp (a:=a) (b:=b) (c:=c) (d:=d) (x:=.int .i64 i) (y:=.int .i64 n) (z:=.lst false (fs.map AVal.str)) rfl rfl rfl 1 1 (by omega) (l++D) σ h0 h1
  unfold Zlo at ih ⊢
  rw [Zad]
  simp -implicitDefEqProofs only [EQA,Zac,Nat.reduceAdd,Nat.reduceLT,Nat.reduceEqDiff,Nat.reduceBEq,reduceCtorEq,decide_true,↓reduceIte,Zjq,oI,ZsN,AVal.cells,h1,e1,e3,f1,hG]
  exact ih
theorem Zr0 (fs:List Int) (hn:fs.length≤1048576):∀ (r:List Int) (i:Nat) (l:Zb),fs.drop i=r→l.length+r.length≤1000000000000 →
  ZkF 1 [(127,.int .i64 i),(126,.int .i64 fs.length),(125,.lst false (fs.map (AVal.int .i64))),(0,.ref 0 0)] [.var (wv 1 0 l.length),.row 0 1 (l.map Zc)]=some (.tup [],wH 0 (l++Zd6 r))
 | [],i,l,h,hl=>by
  have h1:=Zdm h
  have hO:=fun {j g:Nat} {l:Zb} {σ:Za}=>ZdR (j:=j) (g:=g) (l:=l) (σ:=σ)
  have e:l++Zd6 []=l:=by simp [Zd6]
  rw [e]
  unfold ZkF
  rw [Zad]
  simp -implicitDefEqProofs only [EQA,Zs,Nat.reduceAdd,Nat.reduceLT,Nat.reduceEqDiff,reduceCtorEq,decide_false,↓reduceIte,Zd,ZdV,Zj6,oI,Zse,h1]
  exact hO (j:=1) (by decide) rfl rfl
 | x::r,i,l,h,hl=>by
  have t1:=ZaJ 1 (ZC x)
  have lim:=ZeI
  simp only [List.length_cons] at hl
  have ih:=Zr0 fs hn r (i+1) (l++beB (ZC x) 1) (Zaf h).2.1 (by rw [List.length_append];omega)
  have h1:(i:Int) < fs.length:=by have:=(Zaf h).2.2;omega
  have e1:=iad (Zaf h).1 (AVal.int .i64) (k:=1) rfl
  have e3:=Zc7 h1 (by omega)
  have f1:=fun {σ:Za} {site:Nat}=>ZfV l x 1 (by omega) (by omega) (m:=1) rfl (by omega) (σ:=σ) 0 1 0 (site:=site) (by omega)
  have e:l++Zd6 (x::r)=l++beB (ZC x) 1++Zd6 r:=by simp [Zd6]
  rw [e]
  generalize beB (ZC x) 1=D at *
  have hG:=fun {a b c d:Nat} {i n:Int} {σ:Za} h0 h1=>Zhp (a:=a) (b:=b) (c:=c) (d:=d) (x:=.int .i64 i) (y:=.int .i64 n) (z:=.lst false (fs.map (AVal.int .i64))) rfl rfl rfl 1 1 (by omega) (l++D) σ h0 h1
  unfold ZkF at ih ⊢
  rw [Zad]
  simp -implicitDefEqProofs only [EQA,Zac,Nat.reduceAdd,Nat.reduceLT,Nat.reduceEqDiff,Nat.reduceBEq,reduceCtorEq,decide_true,↓reduceIte,Zj6,oI,Zse,AVal.cells,h1,e1,e3,f1,hG]
  exact ih
theorem ZqD (fs:List Zbv) (hn:fs.length≤1048576) (hx:∀ f ∈ fs,f.filter.length≤9223372036854775807):∀ (r:List Zbv) (i:Nat) (l:Zb),fs.drop i=r→l.length+r.length*65538≤1000000000000 →
  Zlj 1 [(75,.int .i64 i),(74,.int .i64 fs.length),(73,.lst false (fs.map ZY)),(0,.ref 0 0)] [.var (wv 1 0 l.length),.row 0 1 (l.map Zc)]=some (.tup [],wH 0 (l++ZdL r))
 | [],i,l,h,hl=>by
  have h1:=Zdm h
  have hO:=fun {j g:Nat} {l:Zb} {σ:Za}=>ZdR (j:=j) (g:=g) (l:=l) (σ:=σ)
  have e:l++ZdL []=l:=by simp [ZdL]
  rw [e]
  unfold Zlj
  rw [Zad]
  simp -implicitDefEqProofs only [EQA,Zs,Nat.reduceAdd,Nat.reduceLT,Nat.reduceEqDiff,reduceCtorEq,decide_false,↓reduceIte,Zd,ZdV,ZjL,oI,oN,Zut,h1]
  exact hO (j:=1) (by decide) rfl rfl
 | x::r,i,l,h,hl=>by
  have hx0:x.filter.length≤9223372036854775807:=hx x (List.mem_of_getElem? (Zaf h).1)
  have t1:=ZcM x.filter
  have t2:=ZaJ 1 (ZC (ZfQ x))
  have lim:=ZeI
  simp only [List.length_cons] at hl
  have ih:=ZqD fs hn hx r (i+1) (l++(Zah x.filter).1++beB (ZC (ZfQ x)) 1) (Zaf h).2.1 (by rw [List.length_append,List.length_append];omega)
  have h1:(i:Int) < fs.length:=by have:=(Zaf h).2.2;omega
  have e1:=iad (Zaf h).1 ZY (k:=6) rfl
  have e3:=Zc7 h1 (by omega)
  have hm:=fun b n σ site own=>Zi2 b n σ site own
  have q1:=Zip x.qos
  have q2:=Zip x.handling
  have m1:=Zd9 x.noLocal 4 (by omega)
  have m2:=Zd9 x.asPublished 8 (by omega)
  have w1:=ZbV (Zv x.qos 3+Z8 x.noLocal 4) (by omega) (by omega)
  have w2:=ZbV (Zv x.qos 3+Z8 x.noLocal 4+Z8 x.asPublished 8) (by omega) (by omega)
  have w3:=ZbV (Zv x.handling 3*16) (by omega) (by omega)
  have w4:=ZbV (Zv x.qos 3+Z8 x.noLocal 4+Z8 x.asPublished 8+Zv x.handling 3*16) (by omega) (by omega)
  have f1:=fun {σ:Za} {site:Nat}=>ZiQ l x.filter hx0 (by omega) (σ:=σ) 0 1 0 (site:=site) (by omega)
  have f2:=fun {σ:Za} {site:Nat}=>ZfV (l++(Zah x.filter).1) (ZfQ x) 1 (by omega) (by omega) (m:=1) rfl (by rw [List.length_append];omega) (σ:=σ) 0 1 1 (site:=site) (by omega)
  have e:l++ZdL (x::r)=l++(Zah x.filter).1++beB (ZC (ZfQ x)) 1++ZdL r:=by simp [ZdL,ZmY]
  rw [e]
  generalize (Zah x.filter).1=D at *
  generalize beB (ZC (ZfQ x)) 1=D2 at *
  have hG:=fun {a b c d:Nat} {i n:Int} {σ:Za} h0 h1=>Zhp (a:=a) (b:=b) (c:=c) (d:=d) (x:=.int .i64 i) (y:=.int .i64 n) (z:=.lst false (fs.map ZY)) rfl rfl rfl 1 2 (by omega) (l++D++D2) σ h0 h1
  unfold ZfQ at f2
  unfold Zlj at ih ⊢
  rw [Zad]
  simp only [ZY,AVal.cells] at e1
  unfold Zv at *
  simp -implicitDefEqProofs only [EQA,Zac,Nat.reduceAdd,Nat.reduceLT,Nat.reduceLeDiff,Nat.reduceEqDiff,Nat.reduceBEq,reduceCtorEq,decide_true,↓reduceIte,List.contains_cons,ZjL,oI,oN,Zut,AVal.cells,h1,e1,e3,hm,w1,w2,w3,w4,f1,f2,hG,Zaj,Zak,Zav,Zar,Zay,Zam,List.lookup_nil]
  exact ih
section
variable (p:Zq) (h:OkW p)
include h
theorem ZkU:(Zb0 p).length≤300000000:=by
 have:=Zdi p.type p.props
 have:=ZaJ 2 (ZC p.id)
 unfold Zb0
 rw [List.length_append];omega
theorem ZGt (hk:p.type=8):E1 78 [.ref 0 0,Z7 p] [.var wn]=some (.tup [],wH 0 (Zb0 p++ZdL p.subs)):=by
 have hh:=ZkU p h
 have f0:=fun {σ:Za} {t site:Nat}=>Zpg p h (σ:=σ) (t:=t) (site:=site)
 have hx:=h.subs
 have hL:=ZqD p.subs hx.1 hx.2 p.subs 0 (Zb0 p) rfl (by omega)
 have z:((0:Nat):Int)=0:=rfl
 rw [z] at hL
 unfold Zlj at hL
 have hG:=fun {a b c d:Nat} {i n:Int} {r g:Nat} {σ:Za} hr h0 h1=>Zhp (a:=a) (b:=b) (c:=c) (d:=d) (x:=.int .i64 i) (y:=.int .i64 n) (z:=.lst false (p.subs.map ZY)) rfl rfl rfl r g hr (Zb0 p) σ h0 h1
 have hG2:=fun {a b c d:Nat} {i n:Int} {g:Nat} {σ:Za} h0 h1=>hG (a:=a) (b:=b) (c:=c) (d:=d) (i:=i) (n:=n) (r:=2) (g:=g) (σ:=σ) (by omega) h0 h1
 clear hG
 have hn:(p.subs.map ZY).length=p.subs.length:=by simp
 rw [ZbB]
 generalize Zb0 p=B at *
 have e0:=Zbt p
 have e1:=ZbP p
 have a0:(Zt p)[0]?=some (.int .i64 p.type):=rfl
 have a10:(Zt p)[10]?=some (.lst false (p.subs.map ZY)):=rfl
 rw [hk] at a0
 clear h hk hx
 generalize Zt p=P at *
 generalize p.subs=ss at *
 rw [Zbp (by rfl) Zeb]
 unfold wn at *
 simp -implicitDefEqProofs only [EQA,Zac,Nat.reduceAdd,Nat.reduceLT,Nat.reduceLeDiff,Nat.reduceEqDiff,Nat.reduceBEq,reduceCtorEq,↓reduceIte,ZdM,Zdk,oI,AVal.cells,a0,a10,e0,e1,hn,Int.reduceBEq,f0]
 exact hL
theorem ZFR (hk:p.type=10):E1 78 [.ref 0 0,Z7 p] [.var wn]=some (.tup [],wH 0 (Zb0 p++ZdO p.filters)):=by
 have hh:=ZkU p h
 have f0:=fun {σ:Za} {t site:Nat}=>Zpg p h (σ:=σ) (t:=t) (site:=site)
 have hx:=h.filters
 have hL:=Zru p.filters hx.1 hx.2 p.filters 0 (Zb0 p) rfl (by omega)
 have z:((0:Nat):Int)=0:=rfl
 rw [z] at hL
 unfold Zlo at hL
 have hG2:=fun {a b c d:Nat} {i n:Int} {g:Nat} {σ:Za} h0 h1=>Zhp (a:=a) (b:=b) (c:=c) (d:=d) (x:=.int .i64 i) (y:=.int .i64 n) (z:=.lst false (p.filters.map AVal.str)) rfl rfl rfl 2 g (by omega) (Zb0 p) σ h0 h1
 have hn:(p.filters.map AVal.str).length=p.filters.length:=by simp
 rw [ZbB]
 generalize Zb0 p=B at *
 have e0:=Zbt p
 have e1:=ZbP p
 have a0:(Zt p)[0]?=some (.int .i64 p.type):=rfl
 have a11:(Zt p)[11]?=some (.lst false (p.filters.map AVal.str)):=rfl
 rw [hk] at a0
 clear h hk hx
 generalize Zt p=P at *
 generalize p.filters=ss at *
 rw [Zbp (by rfl) Zeb]
 unfold wn at *
 simp -implicitDefEqProofs only [EQA,Zac,Nat.reduceAdd,Nat.reduceLT,Nat.reduceLeDiff,Nat.reduceEqDiff,Nat.reduceBEq,reduceCtorEq,↓reduceIte,ZdM,Zdk,oI,AVal.cells,a0,a11,e0,e1,hn,Int.reduceBEq,f0]
 exact hL
theorem ZFh (hk:p.type=9∨p.type=11):E1 78 [.ref 0 0,Z7 p] [.var wn]=some (.tup [],wH 0 (Zb0 p++Zd6 p.codes)):=by
 have hh:=ZkU p h
 have f0:=fun {σ:Za} {t site:Nat}=>Zpg p h (σ:=σ) (t:=t) (site:=site)
 have hx:=h.codes
 have hL:=Zr0 p.codes hx p.codes 0 (Zb0 p) rfl (by omega)
 have z:((0:Nat):Int)=0:=rfl
 rw [z] at hL
 unfold ZkF at hL
 have hG2:=fun {a b c d:Nat} {i n:Int} {g:Nat} {σ:Za} h0 h1=>Zhp (a:=a) (b:=b) (c:=c) (d:=d) (x:=.int .i64 i) (y:=.int .i64 n) (z:=.lst false (p.codes.map (AVal.int .i64))) rfl rfl rfl 2 g (by omega) (Zb0 p) σ h0 h1
 have hn:(p.codes.map (AVal.int .i64)).length=p.codes.length:=by simp
 rw [ZbB]
 generalize Zb0 p=B at *
 have e0:=Zbt p
 have e1:=ZbP p
 have a0:(Zt p)[0]?=some (.int .i64 p.type):=rfl
 have a8:(Zt p)[8]?=some (.lst false (p.codes.map (AVal.int .i64))):=rfl
 clear h hx
 generalize Zt p=P at *
 generalize p.codes=ss at *
 generalize p.type=ty at *
 rw [Zbp (by rfl) Zeb]
 unfold wn at *
 rcases hk with rfl | rfl
 all_goals
  simp -implicitDefEqProofs only [EQA,Zac,Nat.reduceAdd,Nat.reduceLT,Nat.reduceLeDiff,Nat.reduceEqDiff,Nat.reduceBEq,reduceCtorEq,↓reduceIte,ZdM,Zdk,oI,AVal.cells,a0,a8,e0,e1,hn,Int.reduceBEq,f0]
  exact hL
end
end Go.Proofs.YtmlkhhidifjjfaaDoor
namespace Go.Proofs.YtmlkhhidifjjfaaDoor
set_option maxHeartbeats 8000000
set_option maxRecDepth 10000
theorem ZqX (a b:List Int) (h:a.length=b.length) (hl:a.length≤9223372036854775807):∀ (r s:List Int) (i:Nat),a.drop i=r→b.drop i=s→ZkG 0 [(13,.int .i64 i),(12,.int .i64 a.length),(1,.lst false (b.map (AVal.int .i64))),(0,.lst false (a.map (AVal.int .i64)))] []=some (.bool (r == s),[])
 | [],s,i,ha,hb=>by
  have hs:s=[]:=by
   subst hb;rw [List.drop_eq_nil_iff] at ha ⊢;omega
  subst hs
  have h1:=Zdm ha
  unfold ZkG
  rw [Zad]
  simp -implicitDefEqProofs only [EQA,Nat.reduceLT,Nat.reduceEqDiff,reduceCtorEq,decide_false,↓reduceIte,Zm2,ZJX,ZoD,Zu7,ZkH,oI,h1]
 | x::r,[],i,ha,hb=>by
  have:=(Zaf ha).2.2;rw [List.drop_eq_nil_iff] at hb;omega
 | x::r,y::s,i,ha,hb=>by
  have ih:=ZqX a b h hl r s (i+1) (Zaf ha).2.1 (Zaf hb).2.1
  have h1:(i:Int) < a.length:=by have:=(Zaf ha).2.2;omega
  have e1:=iad (Zaf ha).1 (AVal.int .i64) (k:=1) rfl
  have e2:=iad (Zaf hb).1 (AVal.int .i64) (k:=1) rfl
  have e3:=Zc7 h1 hl
  unfold ZkG at ih ⊢
  rw [Zad]
  simp -implicitDefEqProofs only [EQA,ZG,Zac,Nat.reduceLT,Nat.reduceEqDiff,Nat.reduceBEq,reduceCtorEq,decide_true,↓reduceIte,gcT,gcA,ZE,ZA,Zx,ZQ,Zm2,Zu7,ZkH,oI,h1,e1,e2,e3]
  rw [ih]
  by_cases hx:x=y <;> simp [hx]
theorem ZGx (a b:List Int) (hl:a.length≤9223372036854775807):E 83 [.lst false (a.map (AVal.int .i64)),.lst false (b.map (AVal.int .i64))] []=some (.bool (a == b),[]):=by
 rw [Zh (by rfl) ZMz]
 by_cases h:a.length=b.length
 ·have:=ZqX a b h hl a b 0 rfl rfl
  unfold ZkG at this
  have e:=Zlq h
  simp -implicitDefEqProofs only [EQA,Zac,Nat.reduceLT,Nat.reduceEqDiff,reduceCtorEq,↓reduceIte,gcT,gcA,ZE,ZA,Zx,ZQ,Zs4,Zk9,oI,e]
  exact this
 ·have e:=Zjs h
  simp -implicitDefEqProofs only [EQA,Nat.reduceLT,Nat.reduceEqDiff,reduceCtorEq,↓reduceIte,Zs4,Zk9,Zm2,oI,e,ZjJ h]
theorem ZvL (σ:Za) (site own:Nat) (view:Bool) (a b:List Int) (hl:a.length≤9223372036854775807):Zj E BY σ site 83 own view [.lst false (a.map (AVal.int .i64)),.lst false (b.map (AVal.int .i64))]=some (.bool (a == b),σ,{}) :=
 Zcp (ZGx a b hl) (by kernel_rfl) (by simp -implicitDefEqProofs only [ZcZ,Zby,eq_self]) (by simp -implicitDefEqProofs only [ZG,Zby,eq_self]) rfl (fun _=>rfl) _ _ _ _
theorem ZsW (a b:List Zb) (h:a.length=b.length) (hl:a.length≤9223372036854775807):∀ (r s:List Zb) (i:Nat),a.drop i=r→b.drop i=s→Zj9 0 [(13,.int .i64 i),(12,.int .i64 a.length),(1,.lst false (b.map AVal.str)),(0,.lst false (a.map AVal.str))] []=some (.bool (r == s),[])
 | [],s,i,ha,hb=>by
  have hs:s=[]:=by
   subst hb;rw [List.drop_eq_nil_iff] at ha ⊢;omega
  subst hs
  have h1:=Zdm ha
  unfold Zj9
  rw [Zad]
  simp -implicitDefEqProofs only [EQA,Nat.reduceLT,Nat.reduceEqDiff,reduceCtorEq,decide_false,↓reduceIte,ZoQ,ZNk,ZnT,Zs9,ZlK,oI,h1]
 | x::r,[],i,ha,hb=>by
  have:=(Zaf ha).2.2;rw [List.drop_eq_nil_iff] at hb;omega
 | x::r,y::s,i,ha,hb=>by
  have ih:=ZsW a b h hl r s (i+1) (Zaf ha).2.1 (Zaf hb).2.1
  have h1:(i:Int) < a.length:=by have:=(Zaf ha).2.2;omega
  have e1:=iad (Zaf ha).1 AVal.str (k:=1) rfl
  have e2:=iad (Zaf hb).1 AVal.str (k:=1) rfl
  have e3:=Zc7 h1 hl
  unfold Zj9 at ih ⊢
  rw [Zad]
  simp -implicitDefEqProofs only [EQA,ZG,Zac,Nat.reduceLT,Nat.reduceEqDiff,Nat.reduceBEq,Zfh,reduceCtorEq,decide_true,↓reduceIte,gcT,gcA,ZE,ZA,Zx,ZQ,ZoQ,Zs9,ZlK,oI,h1,e1,e2,e3]
  rw [ih]
  by_cases hx:x=y <;> simp [hx]
theorem ZD9 (a b:List Zb) (hl:a.length≤9223372036854775807):E 85 [.lst false (a.map AVal.str),.lst false (b.map AVal.str)] []=some (.bool (a == b),[]):=by
 rw [Zh (by rfl) ZFv]
 by_cases h:a.length=b.length
 ·have:=ZsW a b h hl a b 0 rfl rfl
  unfold Zj9 at this
  have e:=Zlq h
  simp -implicitDefEqProofs only [EQA,Zac,Nat.reduceLT,Nat.reduceEqDiff,reduceCtorEq,↓reduceIte,gcT,gcA,ZE,ZA,Zx,ZQ,Zul,Zlc,oI,e]
  exact this
 ·have e:=Zjs h
  simp -implicitDefEqProofs only [EQA,Nat.reduceLT,Nat.reduceEqDiff,reduceCtorEq,↓reduceIte,Zul,Zlc,ZoQ,oI,e,ZjJ h]
theorem ZLY (σ:Za) (site own:Nat) (view:Bool) (a b:List Zb) (hl:a.length≤9223372036854775807):Zj E BY σ site 85 own view [.lst false (a.map AVal.str),.lst false (b.map AVal.str)]=some (.bool (a == b),σ,{}) :=
 Zcp (ZD9 a b hl) (by kernel_rfl) (by simp -implicitDefEqProofs only [ZcZ,Zby,eq_self]) (by simp -implicitDefEqProofs only [ZG,Zby,eq_self]) rfl (fun _=>rfl) _ _ _ _
theorem ZrB (a b:List Zbv) (h:a.length=b.length) (hl:a.length≤9223372036854775807):∀ (r s:List Zbv) (i:Nat),a.drop i=r→b.drop i=s→Zkz 0 [(13,.int .i64 i),(12,.int .i64 a.length),(1,.lst false (b.map ZY)),(0,.lst false (a.map ZY))] []=some (.bool (r == s),[])
 | [],s,i,ha,hb=>by
  have hs:s=[]:=by
   subst hb;rw [List.drop_eq_nil_iff] at ha ⊢;omega
  subst hs
  have h1:=Zdm ha
  unfold Zkz
  rw [Zad]
  simp -implicitDefEqProofs only [EQA,Nat.reduceLT,Nat.reduceEqDiff,reduceCtorEq,decide_false,↓reduceIte,Zne,ZLO,Zn7,Zub,ZjZ,oI,h1]
 | x::r,[],i,ha,hb=>by
  have:=(Zaf ha).2.2;rw [List.drop_eq_nil_iff] at hb;omega
 | x::r,y::s,i,ha,hb=>by
  have ih:=ZrB a b h hl r s (i+1) (Zaf ha).2.1 (Zaf hb).2.1
  have h1:(i:Int) < a.length:=by have:=(Zaf ha).2.2;omega
  have e1:=iad (Zaf ha).1 ZY (k:=6) rfl
  have e2:=iad (Zaf hb).1 ZY (k:=6) rfl
  have e3:=Zc7 h1 hl
  unfold Zkz at ih ⊢
  rw [Zad]
  obtain ⟨f1,q1,n1,a1,d1,i1⟩:=x
  obtain ⟨f2,q2,n2,a2,d2,i2⟩:=y
  simp only [ZY,AVal.cells] at e1 e2
  have kd:ZfY [2,0,1,1,0,0] [AVal.str f1,.int .i64 q1,.bool n1,.bool a1,.int .i64 d1,.int .i64 i1]=true:=rfl
  have ke:Zfg [AVal.str f1,.int .i64 q1,.bool n1,.bool a1,.int .i64 d1,.int .i64 i1] [AVal.str f2,.int .i64 q2,.bool n2,.bool a2,.int .i64 d2,.int .i64 i2]=some (f1 == f2 && (q1 == q2 && (n1 == n2 && (a1 == a2 && (d1 == d2 && (i1 == i2 && true)))))):=rfl
  have kd2:ZfY [2,0,1,1,0,0] [AVal.str f2,.int .i64 q2,.bool n2,.bool a2,.int .i64 d2,.int .i64 i2]=true:=rfl
  simp -implicitDefEqProofs only [EQA,Zac,Nat.reduceAdd,Nat.reduceLT,Nat.reduceLeDiff,Nat.reduceEqDiff,Nat.reduceBEq,reduceCtorEq,decide_true,↓reduceIte,gcT,gcA,ZE,ZA,Zx,ZQ,Zne,Zub,ZjZ,oI,h1,e1,e2,e3,kd,ke]
  rw [ih]
  have hb:((⟨f1,q1,n1,a1,d1,i1⟩:Zbv) == ⟨f2,q2,n2,a2,d2,i2⟩)=(f1 == f2 && (q1 == q2 && (n1 == n2 && (a1 == a2 && (d1 == d2 && (i1 == i2)))))):=by
   rw [Bool.eq_iff_iff];simp
  rw [List.cons_beq_cons,hb]
  cases f1 == f2 <;> cases q1 == q2 <;> cases n1 == n2 <;> cases a1 == a2 <;> cases d1 == d2 <;> cases i1 == i2 <;> rfl
theorem ZK0 (a b:List Zbv) (hl:a.length≤9223372036854775807):E 84 [.lst false (a.map ZY),.lst false (b.map ZY)] []=some (.bool (a == b),[]):=by
 rw [Zh (by rfl) ZxV]
 by_cases h:a.length=b.length
 ·have:=ZrB a b h hl a b 0 rfl rfl
  unfold Zkz at this
  have e:=Zlq h
  simp -implicitDefEqProofs only [EQA,Zac,Nat.reduceLT,Nat.reduceEqDiff,reduceCtorEq,↓reduceIte,gcT,gcA,ZE,ZA,Zx,ZQ,Zqv,Zla,oI,e]
  exact this
 ·have e:=Zjs h
  simp -implicitDefEqProofs only [EQA,Nat.reduceLT,Nat.reduceEqDiff,reduceCtorEq,↓reduceIte,Zqv,Zla,Zne,oI,e,ZjJ h]
theorem ZLH (σ:Za) (site own:Nat) (view:Bool) (a b:List Zbv) (hl:a.length≤9223372036854775807):Zj E BY σ site 84 own view [.lst false (a.map ZY),.lst false (b.map ZY)]=some (.bool (a == b),σ,{}) :=
 Zcp (ZK0 a b hl) (by kernel_rfl) (by simp -implicitDefEqProofs only [ZcZ,Zby,eq_self]) (by simp -implicitDefEqProofs only [ZG,Zby,eq_self]) rfl (fun _=>rfl) _ _ _ _
def ZdI (a b:Zq):Bool :=
 ((((((((((((a.codes == b.codes && a.subs == b.subs && a.filters == b.filters && a.props == b.props && a.will.props == b.will.props)
  && (a.payload == b.payload && a.password == b.password && a.will.data == b.will.data))
  && (a.will.topic == b.will.topic && a.will.qos == b.will.qos && a.will.retain == b.will.retain))
  && (a.dup == b.dup && a.retain == b.retain && a.clean == b.clean && a.hasWill == b.hasWill && a.hasUser == b.hasUser && a.hasPassword == b.hasPassword && a.present == b.present))
  && a.type == b.type) && a.qos == b.qos) && a.id == b.id) && a.topic == b.topic) && a.code == b.code) && a.keep == b.keep) && a.client == b.client) && a.user == b.user)
theorem ZmM (a b:Zq):ZdI a b=true↔a=b:=by
 obtain ⟨a1,a2,a3,a4,a5,a6,a7,a8,a9,a10,a11,a12,a13,a14,a15,a16,⟨a17,a18,a19,a20,a21⟩,a22,a23,a24,a25,a26⟩:=a
 obtain ⟨b1,b2,b3,b4,b5,b6,b7,b8,b9,b10,b11,b12,b13,b14,b15,b16,⟨b17,b18,b19,b20,b21⟩,b22,b23,b24,b25,b26⟩:=b
 simp only [ZdI,Bool.and_eq_true,beq_iff_eq,Zq.mk.injEq,ZuJ.mk.injEq]
 constructor
 ·rintro ⟨⟨⟨⟨⟨⟨⟨⟨⟨⟨⟨⟨⟨⟨⟨h1,h2⟩,h3⟩,h4⟩,h5⟩,⟨⟨h6,h7⟩,h8⟩⟩,⟨⟨h9,h10⟩,h11⟩⟩,⟨⟨⟨⟨⟨⟨h12,h13⟩,h14⟩,h15⟩,h16⟩,h17⟩,h18⟩⟩,h19⟩,h20⟩,h21⟩,h22⟩,h23⟩,h24⟩,h25⟩,h26⟩
  simp only [h1,h2,h3,h4,h5,h6,h7,h8,h9,h10,h11,h12,h13,h14,h15,h16,h17,h18,h19,h20,h21,h22,h23,h24,h25,h26,and_self]
 ·rintro ⟨h1,h2,h3,h4,h5,h6,h7,h8,h9,h10,h11,h12,h13,h14,h15,h16,⟨h17,h18,h19,h20,h21⟩,h22,h23,h24,h25,h26⟩
  simp only [h1,h2,h3,h4,h5,h6,h7,h8,h9,h10,h11,h12,h13,h14,h15,h16,h17,h18,h19,h20,h21,h22,h23,h24,h25,h26,and_self]
structure OkL (p:Zq):Prop where
 codes:p.codes.length≤9223372036854775807
 props:p.props.length≤9223372036854775807
 subs:p.subs.length≤9223372036854775807
 filters:p.filters.length≤9223372036854775807
 wprops:p.will.props.length≤9223372036854775807
theorem Zuv (a b:Zq) (h:OkL a):E 35 [Z7 a,Z7 b] []=some (.bool (ZdI a b),[]):=by
 have h1:=fun σ site own view=>ZvL σ site own view a.codes b.codes h.codes
 have h2:=fun σ site own view=>ZLH σ site own view a.subs b.subs h.subs
 have h3:=fun σ site own view=>ZLY σ site own view a.filters b.filters h.filters
 have h4:=fun σ site own view=>ZkM σ site own view a.props b.props h.props
 have h5:=fun σ site own view=>ZkM σ site own view a.will.props b.will.props h.wprops
 rw [Zh (by rfl) ZJR]
 unfold Z7 ZdI
 simp -implicitDefEqProofs only [EQA,Zac,Zds,Zma,Nat.reduceAdd,Nat.reduceLT,Nat.reduceEqDiff,Nat.reduceBEq,Zfh,Zz,Zau,unG,ne_eq,Option.some.injEq,reduceCtorEq,decide_false,Z6,ite_self,↓reduceIte,ZxP,Zpa,ZBT,oI,AVal.cells,h1,h2,h3,h4,h5]
theorem Zud (σ:Za) (site own:Nat) (view:Bool) (a b:Zq) (h:OkL a):Zj E BY σ site 35 own view [Z7 a,Z7 b]=some (.bool (ZdI a b),σ,{}) :=
 Zcp (Zuv a b h) (by kernel_rfl) rfl rfl rfl (fun _=>rfl) _ _ _ _
end Go.Proofs.YtmlkhhidifjjfaaDoor
namespace Go.Proofs.YtmlkhhidifjjfaaDoor
def ZlP:Zf:=(.seq (.region [oI 2 (.mov (.c (.lst true [])))] none [0]) (.seq (.region [oI 3 (.mov (.t 0)),oI 4 (.nilchk (.t 3)),oI 5 (.faddr 0 (.t 4)),oI 6 (.ld none (.t 5)),oI 7 (.mov (.t 0)),oI 8 (.nilchk (.t 7)),oI 9 (.faddr 1 (.t 8)),oI 10 (.ld none (.t 9)),oI 11 (.slice 1 (.t 6) (some (.t 10)) none none),oI 2 (.mov (.t 11))] (some [(3,7)]) [2]) .ret))
def Zmq:ZI:=⟨[(.tmp 2)],ZlP⟩
theorem ZtU:FC 80=some Zmq:=by kernel_rfl
theorem Zsg:Zmq.body=ZlP:=rfl
theorem Zqq:Zmq.res=[(.tmp 2)]:=rfl
end Go.Proofs.YtmlkhhidifjjfaaDoor
namespace Go.Proofs.YtmlkhhidifjjfaaDoor
set_option maxHeartbeats 16000000
set_option maxRecDepth 10000
theorem ZMb {σ:Za} {t g k n:Nat} {xs:List AVal} (hs:σ[t]?=some (.row g k xs)) (hn:n=xs.length):ZbX σ k (.sl t g 0 n) (some (.int .i64 0)) none none=some (.sl t g 0 n,σ,{ rd:=[t] }):=by
 subst hn
 have he:Z6 σ (.sl t g 0 xs.length)=some ((xs.drop 0).take xs.length,[t]):=by simp [Z6,hs]
 simp [ZbX,he,hs,Zbl,ZdT]
theorem ZGz (σ:Za) (k:Nat):ZbX σ k (.lst true []) (some (.int .i64 0)) none none=some (.lst true [],σ,{}):=by
 simp [ZbX,Zbl,ZdT]
theorem ZGQ (l:Zb):E 80 [.ref 0 0] (wH 0 l)=some (.sl 1 0 0 l.length,wH 0 l):=by
 have h1:((l.map Zc).length)=l.length:=by simp
 rw [Zh (by rfl) ZtU]
 unfold wH wv
 have hS:=fun (σ:Za) (hs:σ[1]?=some (.row 0 1 (l.map Zc)))=>ZMb (n:=l.length) hs h1.symm
 simp -implicitDefEqProofs only [EQA,Nat.reduceAdd,Nat.reduceLT,Nat.reduceEqDiff,Nat.reduceBEq,reduceCtorEq,↓reduceIte,Zsg,ZlP,Zqq,oI,hS]
 simp [Zal,gcA,ZE,ZA,Zr,ZZ,ZQ,Zl,Z1,Zp,ZU,Zx,Ze,Zk,ZJ,List.range,List.range.loop]
theorem ZDR:E 80 [.ref 0 0] [.var wn]=some (.lst true [],[.var wn]):=by
 rw [Zh (by rfl) ZtU]
 unfold wn
 simp -implicitDefEqProofs only [EQA,Zs,Zac,Nat.reduceLT,Nat.reduceEqDiff,Nat.reduceBEq,reduceCtorEq,↓reduceIte,Zd,Zsg,ZlP,Zqq,oI,ZGz]
theorem ZMW (l:Zb):Zae true 2 (some (.sl 1 0 0 l.length,wH 0 l))=some (.lst false (l.map Zc),[.var (wv 1 0 l.length),.frow 0 1 (l.map Zc)]):=by
 have e1:(0:Nat)+l.length≤(l.map Zc).length:=by simp
 have e2:((l.map Zc).drop 0).take l.length=l.map Zc:=by
  rw [List.drop_zero,←List.length_map (f:=Zc),List.take_length]
 simp only [Zae,if_true,ZbI,viewR,ZN,ZL,Z6,wH,List.getElem?_cons_succ,List.getElem?_cons_zero,e1,e2,and_self,Zn,List.set_cons_succ,List.set_cons_zero]
 simp [gcA,ZE,Zr,ZZ,List.range,List.range.loop,ZQ,wv,ZA,Zl,Z1,Zx,ZU,Zp,ZJ,Ze,Zk]
theorem ZwI (l:Zb) {σ:Za} (t r g:Nat) {site:Nat} (htr:t≠r) (hs:σ[t]?=some (.var (wv r g l.length))) (hr:σ[r]?=some (.row g 1 (l.map Zc))) :
  Zj E1 BY σ site 80 0 true [.ref t 0]=some (.lst false (l.map Zc),(σ.set t (.var (wv r g l.length))).set r (.frow g 1 (l.map Zc)),{ any:=true,upd:=[(t,wv r g l.length)] }):=by
 refine ZbD ?_
 have hrf:Zr (wv r g l.length)=[r]:=rfl
 have htl:t < σ.length:=(List.getElem?_eq_some_iff.1 hs).1
 have hrl:r < σ.length:=(List.getElem?_eq_some_iff.1 hr).1
 have h1:σ.getD t .free=.var (wv r g l.length):=by simp [List.getD_eq_getElem?_getD,hs]
 have h2:σ.getD r .free=.row g 1 (l.map Zc):=by simp [List.getD_eq_getElem?_getD,hr]
 have hf0:Zn σ []=σ:=rfl
 have hsh:showAs σ [.ref t 0]=some ([.ref t 0],[]):=rfl
 have href:Zr [AVal.ref t 0]=[t]:=rfl
 have hup:Za7 ((σ.set t (.var (wv r g l.length))).set r (.frow g 1 (l.map Zc))) [t,r]=[(t,wv r g l.length)]:=by
  have e1:((σ.set t (.var (wv r g l.length))).set r (.frow g 1 (l.map Zc)))[t]?=some (.var (wv r g l.length)):=by
   rw [List.getElem?_set_ne (fun e=>htr e.symm),List.getElem?_set_self htl]
  have e2:((σ.set t (.var (wv r g l.length))).set r (.frow g 1 (l.map Zc)))[r]?=some (.frow g 1 (l.map Zc)):=by
   rw [List.getElem?_set_self (by simpa using hrl)]
  simp only [Za7,e1,e2]
 unfold Zj ZbU
 rw [show BY 80=false by kernel_rfl]
 simp only [Bool.false_eq_true,if_false,hsh,hf0,href,Zpc hs hr htr hrf]
 unfold ZbC
 have hall:([t,r].all fun t=>okB (σ.getD t .free))=true:=by simp only [List.all_cons,List.all_nil,h1,h2,okB,Bool.and_true]
 rw [if_pos hall]
 have hρt:Zl σ 0 [t,r] t 0=some (0,0):=by simp [Zl,Z1,hs,Zp,ZU]
 have hρr:Zl σ 0 [t,r] r g=some (1,0):=by simp [Zl,Z1,hr,Zp,ZU,htr]
 have hargs:Ze (Zl σ 0 [t,r]) [.ref t 0]=[.ref 0 0]:=by simp only [Ze,Zk,hρt]
 have hren:Ze (Zl σ 0 [t,r]) (wv r g l.length)=wv 1 0 l.length:=by simp only [wv,Ze,Zk,hρr]
 have hheap:Zx σ 0 [t,r] (Zl σ 0 [t,r]) [t,r] 0=wH 0 l:=by
  simp only [Zx,h1,h2,ZU,Zp,ZJ,hren,wH]
  simp
 rw [hargs,hheap,ZGQ l,show [t,r].length=2 from rfl,ZMW l]
 have hk:ZaZ σ [t,r] [.var (wv 1 0 l.length),.frow 0 1 (l.map Zc)] 0=true:=by simp [ZaZ,okB,Zce,Zp,hs,hr]
 have hff:Za1 σ site 0=true:=by simp [Za1]
 have hb3:Ze (ZaB σ [t,r] site) (wv 1 0 l.length)=wv r g l.length:=by
  have : ZaB σ [t,r] site 1 0=some (r,g):=by simp only [ZaB,List.getElem?_cons_succ,List.getElem?_cons_zero,h2,Zp];rfl
  simp only [wv,Ze,Zk,this]
 simp only [ZaG,List.isEmpty_cons,Bool.false_eq_true,if_false,List.length_cons,List.length_nil,Nat.zero_add,Nat.reduceAdd,Nat.add_zero,Nat.le_refl,decide_true,hk,hff,Bool.and_self,if_true,Za5,ZaK,List.getD_cons_zero,List.getD_cons_succ,Zcl,List.getElem?_cons_zero,List.getElem?_cons_succ,h2,Zp,ZJ,Zk,hb3,hup]
theorem ZxR {σ:Za} {t site:Nat} (hs:σ[t]?=some (.var wn)):Zj E1 BY σ site 80 0 true [.ref t 0]=some (.lst false [],σ,{ any:=true,upd:=[(t,wn)] }):=by
 refine ZbD ?_
 have htl:t < σ.length:=(List.getElem?_eq_some_iff.1 hs).1
 have h1:σ.getD t .free=.var wn:=by simp [List.getD_eq_getElem?_getD,hs]
 have hf0:Zn σ []=σ:=rfl
 have hsh:showAs σ [.ref t 0]=some ([.ref t 0],[]):=rfl
 have href:Zr [AVal.ref t 0]=[t]:=rfl
 have hre:ZA σ 1000 [t] []=[t]:=by
  have e1:([]:List Nat).contains t=false:=rfl
  rw [show (1000:Nat)=998+1+1 from rfl,ZA,e1]
  simp only [Bool.false_eq_true,if_false,h1,ZQ]
  rfl
 unfold Zj ZbU
 rw [show BY 80=false by kernel_rfl]
 simp only [Bool.false_eq_true,if_false,hsh,hf0,href,hre]
 unfold ZbC
 have hall:([t].all fun t=>okB (σ.getD t .free))=true:=by simp only [List.all_cons,List.all_nil,h1,okB,Bool.and_true]
 rw [if_pos hall]
 have hρt:Zl σ 0 [t] t 0=some (0,0):=by simp [Zl,Z1,hs,Zp,ZU]
 have hargs:Ze (Zl σ 0 [t]) [.ref t 0]=[.ref 0 0]:=by simp only [Ze,Zk,hρt]
 have hheap:Zx σ 0 [t] (Zl σ 0 [t]) [t] 0=[.var wn]:=by
  simp only [Zx,h1,ZJ]
  rfl
 rw [hargs,hheap,ZDR]
 have hv:Zae true 1 (some (.lst true [],[.var wn]))=some (.lst false [],[.var wn]):=rfl
 rw [show [t].length=1 from rfl,hv]
 have hk:ZaZ σ [t] [.var wn] 0=true:=by simp [ZaZ,okB,Zce,Zp,hs]
 have hset:σ.set t (.var wn)=σ:=by
  apply List.ext_getElem?
  intro i
  rw [List.getElem?_set]
  by_cases e:t=i
  ·subst e;rw [if_pos rfl,if_pos htl,hs]
  ·simp [e]
 have hup:Za7 σ [t]=[(t,wn)]:=by simp only [Za7,hs]
 have hff:Za1 σ site 0=true:=by simp [Za1]
 have hlay:Za5 σ [t] site [.var wn] 0 σ=σ:=by
  simp only [Za5,ZaK,ZJ,List.getD_cons_zero]
  exact hset
 simp only [ZaG,List.isEmpty_cons,Bool.false_eq_true,if_false,hk,hff,hlay,hup,Zk,List.length_cons,List.length_nil,Nat.zero_add,Nat.add_zero,Nat.le_refl,decide_true,Bool.and_self,if_true]
theorem ZsZ (σ:Za) (site own:Nat) (f:Bool) (a:Zb) (h:a.length≤140737488355328):Zj E BY σ site 56 own true [.lst f [.lst false (a.map Zc)]]=some (.lst false (a.map Zc),σ,{}):=by
 have:=ZhL σ site own f a [] (by simp) (by simpa using h)
 simpa [ZO] using this
theorem ZH7 {p:Zq} {l:Zb} (h:E1 78 [.ref 0 0,Z7 p] [.var wn]=some (.tup [],wH 0 l)) {σ:Za} {t site:Nat} (hf:σ[site]?=some .free) (hs0:σ[t]?=some (.var wn)) :
  Zj E1 BY σ site 78 1 true [.ref t 0,.agg (Zt p)]=some (.tup [],(σ.set t (.var (wv site 0 l.length))).set site (.row 0 1 (l.map Zc)),{ any:=true,upd:=[(t,wv site 0 l.length)] }) :=
 Zgs (args:=[.agg (Zt p)]) rfl rfl h (by kernel_rfl) (by rw [List.all_cons,Zdu];rfl) (by rw [List.map_cons,ZdG];rfl) hf hs0
theorem ZKe {p:Zq} (h:E1 78 [.ref 0 0,Z7 p] [.var wn]=some (.tup [],[.var wn])) {σ:Za} {t site:Nat} (hf:σ[site]?=some .free) (hs0:σ[t]?=some (.var wn)) :
  Zj E1 BY σ site 78 1 true [.ref t 0,.agg (Zt p)]=some (.tup [],σ,{ any:=true,upd:=[(t,wn)] }) :=
 ZrJ (args:=[.agg (Zt p)]) h (by kernel_rfl) (by rw [List.all_cons,Zdu];rfl) (by rw [List.map_cons,ZdG];rfl) (ff1 hf) hs0
def orU (a b:Int):Int:=IntKind.u8.wrap (BitVec.ofInt IntKind.u8.bits a ||| BitVec.ofInt IntKind.u8.bits b).toNat
def ZdU (t:Int):Int:=orU (IntKind.u8.wrap (IntKind.i64.wrap (t*2 ^ min (Int.toNat 4) IntKind.i64.bits))) (Zda t)
def ZpG (p:Zq):Int:=IntKind.u8.wrap (Z8 p.dup 8+Zv p.qos 3*2+Z8 p.retain 1)
def Zbc (p:Zq):Int:=if p.type=3 then orU (ZdU 3) (ZpG p) else ZdU p.type
theorem ZIA (m:Nat) (h:m < 256):IntKind.u8.wrap (m:Int)=m:=by
 unfold IntKind.wrap IntKind.signed IntKind.bits
 simp
 omega
theorem Zq9 (a b:Int):0≤orU a b∧orU a b < 256:=by
 have h:∀ x y:BitVec 8,(x ||| y).toNat < 256:=fun x y=>(x ||| y).isLt
 have h2:=h (BitVec.ofInt 8 a) (BitVec.ofInt 8 b)
 unfold orU
 rw [show IntKind.u8.bits=8 from rfl,ZIA _ h2]
 omega
theorem Zok (p:Zq):0≤Zbc p∧Zbc p < 256:=by
 unfold Zbc
 split
 ·exact Zq9 _ _
 ·exact Zq9 _ _
theorem ZrW (B:Zb):(Zai (B.length:Nat)).2=0↔B.length≤268435455:=by
 unfold Zai
 split
 ·simp only []
  constructor
  ·intro h;simp at h
  ·intro h;omega
 ·simp only [true_iff]
  omega
def Zez (first:Int) (B:Zb) (c:Int) (s:Bool):AVal :=
 if B.length≤268435455∧c=0∧s=true then .tup [.agg [.int .u8 first,.lst false (B.map Zc)],.int .i64 0] else .tup [.agg [.int .u8 0,.lst true []],.int .i64 129]
section
variable (p q:Zq) (c:Int)
theorem ZuV (B:Zb) (hb:E1 78 [.ref 0 0,Z7 p] [.var wn]=some (.tup [],wH 0 B)) (hB:B.length≤140737488355328)
  (hr:∀ σ site own,Zj E1 BY σ site 32 own true [.agg [.int .u8 (Zbc p),.lst false (B.map Zc)]]=some (.tup [Z7 q,.int .i64 c],σ,{})) (hq:OkL q) :
  E1 34 [Z7 p] []=some (Zez (Zbc p) B c (ZdI q p),[]):=by
 have fb:=fun {σ:Za} {t site:Nat}=>ZH7 hb (σ:=σ) (t:=t) (site:=site)
 have fB:=fun {σ:Za} {site:Nat}=>ZwI B 2 3 0 (by omega) (σ:=σ) (site:=site)
 have fj:=fun σ site own f=>ZbD (ZsZ σ site own f B hB)
 have ff:=fun σ site own=>ZbD (ZkT p.type σ site own)
 have fm:=fun b n σ site own=>Zi2 b n σ site own
 have fv:=fun σ site own=>ZbD (Zf3 σ site own (B.length:Nat))
 have fs:=fun σ site own=>ZbD (Zud σ site own true q p hq)
 have hn:(B.map Zc).length=B.length:=by simp
 unfold Zez
 generalize ZdI q p=s at *
 rw [ZbB] at *
 rw [ZbB] at *
 have e0:=Zbt p
 have e1:=ZbP p
 have a0:(Zt p)[0]?=some (.int .i64 p.type):=rfl
 have a1:(Zt p)[1]?=some (.bool p.dup):=rfl
 have a2:(Zt p)[2]?=some (.int .i64 p.qos):=rfl
 have a3:(Zt p)[3]?=some (.bool p.retain):=rfl
 have d0:=Zbt q
 have d1:=ZbP q
 have oq:(Zt q).all ZD=true:=rfl
 have m1:=Zd9 p.dup 8 (by omega)
 have m2:=Zd9 p.retain 1 (by omega)
 have m3:=Zip p.qos
 have w2:=ZbV (Zv p.qos 3*2) (by omega) (by omega)
 have w3:=ZbV (Z8 p.dup 8+Zv p.qos 3*2) (by omega) (by omega)
 have w4:=ZbV (Z8 p.dup 8+Zv p.qos 3*2+Z8 p.retain 1) (by omega) (by omega)
 clear m1 m2 m3
 unfold Zbc at hr ⊢
 have hv:=ZrW B
 unfold ZeJ at fv
 generalize (Zai (B.length:Nat)).1=V at *
 generalize (Zai (B.length:Nat)).2=v at *
 by_cases h3:p.type=3
 ·rw [if_pos h3] at hr ⊢
  rw [h3] at ff a0
  unfold ZdU ZpG orU Zv at *
  clear h3
  generalize Zt p=P at *
  generalize Zt q=Q at *
  generalize p.dup=pd at *
  generalize p.qos=pq at *
  generalize p.retain=pr at *
  unfold wn at *
  rw [Zbp (by rfl) ZkX]
  by_cases v0:v=0
  ·have hL:=hv.1 v0
   subst v0
   by_cases c0:c=0
   ·subst c0
    cases s
    ·rw [if_neg (by simp)]
     simp -implicitDefEqProofs only [EQA,Zag,Zs,Nat.reduceAdd,Nat.reduceLT,Nat.reduceLeDiff,Nat.reduceEqDiff,Nat.reduceBEq,ZaA,unA,Zz,unG,ne_eq,Option.some.injEq,decide_true,decide_false,↓reduceIte,Zd,List.contains_cons,Zcz,Zcj,ZcB,oI,oN,AVal.cells,a0,a1,a2,a3,e0,e1,d0,d1,oq,ZV,fb,fB,fj,ff,fm,fv,fs,hr,hn,w2,w3,w4,Int.reduceLT,viewAs,ZN,ZL,Zn,List.foldl_cons,List.foldl_nil,Zaj,Zak,Zav,Zar,Zay,Zam,List.lookup_cons,List.lookup_nil,bne_self_eq_false]
    ·rw [if_pos ⟨hL,rfl,rfl⟩]
     simp -implicitDefEqProofs only [EQA,Zag,Zs,Nat.reduceAdd,Nat.reduceLT,Nat.reduceLeDiff,Nat.reduceEqDiff,Nat.reduceBEq,ZaA,unA,Zz,unG,ne_eq,Option.some.injEq,decide_true,decide_false,↓reduceIte,Zd,List.contains_cons,Zcz,Zcj,ZcB,oI,oN,AVal.cells,a0,a1,a2,a3,e0,e1,d0,d1,oq,ZV,fb,fB,fj,ff,fm,fv,fs,hr,hn,w2,w3,w4,Int.reduceLT,viewAs,ZN,ZL,Zn,List.foldl_cons,List.foldl_nil,Zaj,Zak,Zav,Zar,Zay,Zam,List.lookup_cons,List.lookup_nil,bne_self_eq_false]
   ·have c1:(c != 0)=true:=by simpa using c0
    rw [if_neg (fun h=>c0 h.2.1)]
    simp -implicitDefEqProofs only [EQA,Zag,Zs,Nat.reduceAdd,Nat.reduceLT,Nat.reduceLeDiff,Nat.reduceEqDiff,Nat.reduceBEq,ZaA,Zz,Zau,unG,ne_eq,Option.some.injEq,reduceCtorEq,decide_true,decide_false,↓reduceIte,Zd,List.contains_cons,Zcz,Zcj,ZcB,oI,oN,AVal.cells,a0,a1,a2,a3,e0,e1,d0,oq,ZV,fb,fB,fj,ff,fm,fv,hr,hn,w2,w3,w4,c1,Int.reduceLT,viewAs,ZN,ZL,Zn,List.foldl_cons,List.foldl_nil,Zaj,Zak,Zav,Zar,Zay,Zam,List.lookup_cons,List.lookup_nil,bne_self_eq_false]
  ·have v1:(v != 0)=true:=by simpa using v0
   rw [if_neg (fun h=>v0 (hv.2 h.1))]
   simp -implicitDefEqProofs only [EQA,Zag,Zs,Nat.reduceAdd,Nat.reduceLT,Nat.reduceLeDiff,Nat.reduceEqDiff,Nat.reduceBEq,ZaA,Zz,Zau,ne_eq,Option.some.injEq,reduceCtorEq,decide_true,decide_false,↓reduceIte,Zd,List.contains_cons,Zcz,Zcj,ZcB,oI,oN,AVal.cells,a0,a1,a2,a3,e0,e1,d0,oq,ZV,fb,fB,fj,ff,fm,fv,hr,hn,w2,w3,w4,v1,Int.reduceLT,viewAs,ZN,ZL,Zn,List.foldl_cons,List.foldl_nil,Zaj,Zak,Zav,Zar,Zay,Zam,List.lookup_cons,List.lookup_nil]
 ·rw [if_neg h3] at hr ⊢
  have h3b:(p.type == 3)=false:=by simpa using h3
  unfold ZdU orU at *
  clear h3
  generalize Zt p=P at *
  generalize Zt q=Q at *
  generalize p.dup=pd at *
  generalize p.qos=pq at *
  generalize p.retain=pr at *
  generalize p.type=ty at *
  unfold wn at *
  rw [Zbp (by rfl) ZkX]
  by_cases v0:v=0
  ·have hL:=hv.1 v0
   subst v0
   by_cases c0:c=0
   ·subst c0
    cases s
    ·rw [if_neg (by simp)]
     simp -implicitDefEqProofs only [EQA,Zag,Zs,Nat.reduceAdd,Nat.reduceLT,Nat.reduceLeDiff,Nat.reduceEqDiff,Nat.reduceBEq,ZaA,unA,Zz,unG,ne_eq,Option.some.injEq,decide_true,decide_false,↓reduceIte,Zd,List.contains_cons,Zcz,Zcj,ZcB,oI,oN,AVal.cells,a0,e0,e1,d0,d1,oq,ZV,fb,fB,fj,ff,fv,fs,hr,hn,h3b,Int.reduceLT,viewAs,ZN,ZL,Zn,List.foldl_cons,List.foldl_nil,Zaj,Zak,Zav,Zar,Zay,Zam,List.lookup_cons,List.lookup_nil,bne_self_eq_false]
    ·rw [if_pos ⟨hL,rfl,rfl⟩]
     simp -implicitDefEqProofs only [EQA,Zag,Zs,Nat.reduceAdd,Nat.reduceLT,Nat.reduceLeDiff,Nat.reduceEqDiff,Nat.reduceBEq,ZaA,unA,Zz,unG,ne_eq,Option.some.injEq,decide_true,decide_false,↓reduceIte,Zd,List.contains_cons,Zcz,Zcj,ZcB,oI,oN,AVal.cells,a0,e0,e1,d0,d1,oq,ZV,fb,fB,fj,ff,fv,fs,hr,hn,h3b,Int.reduceLT,viewAs,ZN,ZL,Zn,List.foldl_cons,List.foldl_nil,Zaj,Zak,Zav,Zar,Zay,Zam,List.lookup_cons,List.lookup_nil,bne_self_eq_false]
   ·have c1:(c != 0)=true:=by simpa using c0
    rw [if_neg (fun h=>c0 h.2.1)]
    simp -implicitDefEqProofs only [EQA,Zag,Zs,Nat.reduceAdd,Nat.reduceLT,Nat.reduceLeDiff,Nat.reduceEqDiff,Nat.reduceBEq,ZaA,Zz,Zau,unG,ne_eq,Option.some.injEq,reduceCtorEq,decide_true,decide_false,↓reduceIte,Zd,List.contains_cons,Zcz,Zcj,ZcB,oI,oN,AVal.cells,a0,e0,e1,d0,oq,ZV,fb,fB,fj,ff,fv,hr,hn,h3b,c1,Int.reduceLT,viewAs,ZN,ZL,Zn,List.foldl_cons,List.foldl_nil,Zaj,Zak,Zav,Zar,Zay,Zam,List.lookup_cons,List.lookup_nil,bne_self_eq_false]
  ·have v1:(v != 0)=true:=by simpa using v0
   rw [if_neg (fun h=>v0 (hv.2 h.1))]
   simp -implicitDefEqProofs only [EQA,Zag,Zs,Nat.reduceAdd,Nat.reduceLT,Nat.reduceLeDiff,Nat.reduceEqDiff,Nat.reduceBEq,ZaA,Zz,Zau,ne_eq,Option.some.injEq,reduceCtorEq,decide_true,decide_false,↓reduceIte,Zd,List.contains_cons,Zcz,Zcj,ZcB,oI,oN,AVal.cells,a0,e0,e1,d0,oq,ZV,fb,fB,fj,ff,fv,hr,hn,h3b,v1,Int.reduceLT,viewAs,ZN,ZL,Zn,List.foldl_cons,List.foldl_nil,Zaj,Zak,Zav,Zar,Zay,Zam,List.lookup_cons,List.lookup_nil]
theorem ZvE (hb:E1 78 [.ref 0 0,Z7 p] [.var wn]=some (.tup [],[.var wn]))
  (hr:∀ σ site own,Zj E1 BY σ site 32 own true [.agg [.int .u8 (Zbc p),.lst false (([]:Zb).map Zc)]]=some (.tup [Z7 q,.int .i64 c],σ,{})) (hq:OkL q) :
  E1 34 [Z7 p] []=some (Zez (Zbc p) [] c (ZdI q p),[]):=by
 have fb:=fun {σ:Za} {t site:Nat}=>ZKe hb (σ:=σ) (t:=t) (site:=site)
 have fB:=fun {σ:Za} {site:Nat}=>ZxR (σ:=σ) (t:=2) (site:=site)
 have fj:=fun σ site own f=>ZbD (ZsZ σ site own f [] (by decide))
 have ff:=fun σ site own=>ZbD (ZkT p.type σ site own)
 have fm:=fun b n σ site own=>Zi2 b n σ site own
 have fv:=fun σ site own=>ZbD (Zf3 σ site own (([]:Zb).length:Nat))
 have fs:=fun σ site own=>ZbD (Zud σ site own true q p hq)
 have hn:(([]:Zb).map Zc).length=([]:Zb).length:=by simp
 unfold Zez
 generalize ZdI q p=s at *
 rw [ZbB] at *
 rw [ZbB] at *
 have e0:=Zbt p
 have e1:=ZbP p
 have a0:(Zt p)[0]?=some (.int .i64 p.type):=rfl
 have a1:(Zt p)[1]?=some (.bool p.dup):=rfl
 have a2:(Zt p)[2]?=some (.int .i64 p.qos):=rfl
 have a3:(Zt p)[3]?=some (.bool p.retain):=rfl
 have d0:=Zbt q
 have d1:=ZbP q
 have oq:(Zt q).all ZD=true:=rfl
 have m1:=Zd9 p.dup 8 (by omega)
 have m2:=Zd9 p.retain 1 (by omega)
 have m3:=Zip p.qos
 have w2:=ZbV (Zv p.qos 3*2) (by omega) (by omega)
 have w3:=ZbV (Z8 p.dup 8+Zv p.qos 3*2) (by omega) (by omega)
 have w4:=ZbV (Z8 p.dup 8+Zv p.qos 3*2+Z8 p.retain 1) (by omega) (by omega)
 clear m1 m2 m3
 unfold Zbc at hr ⊢
 have hv:=ZrW []
 unfold ZeJ at fv
 generalize (Zai (([]:Zb).length:Nat)).1=V at *
 generalize (Zai (([]:Zb).length:Nat)).2=v at *
 simp only [List.map_nil,List.length_nil] at fj hr fv hn hv
 by_cases h3:p.type=3
 ·rw [if_pos h3] at hr ⊢
  rw [h3] at ff a0
  unfold ZdU ZpG orU Zv at *
  clear h3
  generalize Zt p=P at *
  generalize Zt q=Q at *
  generalize p.dup=pd at *
  generalize p.qos=pq at *
  generalize p.retain=pr at *
  unfold wn at *
  rw [Zbp (by rfl) ZkX]
  by_cases v0:v=0
  ·have hL:=hv.1 v0
   subst v0
   by_cases c0:c=0
   ·subst c0
    cases s
    ·rw [if_neg (by simp)]
     simp -implicitDefEqProofs only [EQA,Zag,Zs,Nat.reduceAdd,Nat.reduceLT,Nat.reduceLeDiff,Nat.reduceEqDiff,Nat.reduceBEq,ZaA,unA,Zz,unG,ne_eq,Option.some.injEq,decide_true,decide_false,↓reduceIte,Zd,List.contains_cons,Zcz,Zcj,ZcB,oI,oN,AVal.cells,a0,a1,a2,a3,e0,e1,d0,d1,oq,ZV,fb,fB,fj,ff,fm,fv,fs,hr,w2,w3,w4,Int.reduceLT,viewAs,ZN,ZL,Zn,List.foldl_cons,List.foldl_nil,Zaj,Zak,Zav,Zar,Zay,Zam,List.lookup_cons,List.lookup_nil,bne_self_eq_false]
    ·rw [if_pos ⟨by decide,rfl,rfl⟩]
     simp -implicitDefEqProofs only [EQA,Zag,Zs,Nat.reduceAdd,Nat.reduceLT,Nat.reduceLeDiff,Nat.reduceEqDiff,Nat.reduceBEq,ZaA,unA,Zz,unG,ne_eq,Option.some.injEq,decide_true,decide_false,↓reduceIte,Zd,List.contains_cons,Zcz,Zcj,ZcB,oI,oN,AVal.cells,a0,a1,a2,a3,e0,e1,d0,d1,oq,ZV,fb,fB,fj,ff,fm,fv,fs,hr,w2,w3,w4,Int.reduceLT,viewAs,ZN,ZL,Zn,List.foldl_cons,List.foldl_nil,Zaj,Zak,Zav,Zar,Zay,Zam,List.lookup_cons,List.lookup_nil,bne_self_eq_false]
   ·have c1:(c != 0)=true:=by simpa using c0
    rw [if_neg (fun h=>c0 h.2.1)]
    simp -implicitDefEqProofs only [EQA,Zag,Zs,Nat.reduceAdd,Nat.reduceLT,Nat.reduceLeDiff,Nat.reduceEqDiff,Nat.reduceBEq,ZaA,Zz,Zau,unG,ne_eq,Option.some.injEq,reduceCtorEq,decide_true,decide_false,↓reduceIte,Zd,List.contains_cons,Zcz,Zcj,ZcB,oI,oN,AVal.cells,a0,a1,a2,a3,e0,e1,d0,oq,ZV,fb,fB,fj,ff,fm,fv,hr,w2,w3,w4,c1,Int.reduceLT,viewAs,ZN,ZL,Zn,List.foldl_cons,List.foldl_nil,Zaj,Zak,Zav,Zar,Zay,Zam,List.lookup_cons,List.lookup_nil,bne_self_eq_false]
  ·have v1:(v != 0)=true:=by simpa using v0
   rw [if_neg (fun h=>v0 (hv.2 (by decide)))]
   simp -implicitDefEqProofs only [EQA,Zag,Zs,Nat.reduceAdd,Nat.reduceLT,Nat.reduceLeDiff,Nat.reduceEqDiff,Nat.reduceBEq,ZaA,Zz,Zau,ne_eq,Option.some.injEq,reduceCtorEq,decide_true,decide_false,↓reduceIte,Zd,List.contains_cons,Zcz,Zcj,ZcB,oI,oN,AVal.cells,a0,a1,a2,a3,e0,e1,d0,oq,ZV,fb,fB,fj,ff,fm,fv,hr,w2,w3,w4,v1,Int.reduceLT,viewAs,ZN,ZL,Zn,List.foldl_cons,List.foldl_nil,Zaj,Zak,Zav,Zar,Zay,Zam,List.lookup_cons,List.lookup_nil]
 ·rw [if_neg h3] at hr ⊢
  have h3b:(p.type == 3)=false:=by simpa using h3
  unfold ZdU orU at *
  clear h3
  generalize Zt p=P at *
  generalize Zt q=Q at *
  generalize p.dup=pd at *
  generalize p.qos=pq at *
  generalize p.retain=pr at *
  generalize p.type=ty at *
  unfold wn at *
  rw [Zbp (by rfl) ZkX]
  by_cases v0:v=0
  ·have hL:=hv.1 v0
   subst v0
   by_cases c0:c=0
   ·subst c0
    cases s
    ·rw [if_neg (by simp)]
     simp -implicitDefEqProofs only [EQA,Zag,Zs,Nat.reduceAdd,Nat.reduceLT,Nat.reduceLeDiff,Nat.reduceEqDiff,Nat.reduceBEq,ZaA,unA,Zz,unG,ne_eq,Option.some.injEq,decide_true,decide_false,↓reduceIte,Zd,List.contains_cons,Zcz,Zcj,ZcB,oI,oN,AVal.cells,a0,e0,e1,d0,d1,oq,ZV,fb,fB,fj,ff,fv,fs,hr,h3b,Int.reduceLT,viewAs,ZN,ZL,Zn,List.foldl_cons,List.foldl_nil,Zaj,Zak,Zav,Zar,Zay,Zam,List.lookup_cons,List.lookup_nil,bne_self_eq_false]
    ·rw [if_pos ⟨by decide,rfl,rfl⟩]
     simp -implicitDefEqProofs only [EQA,Zag,Zs,Nat.reduceAdd,Nat.reduceLT,Nat.reduceLeDiff,Nat.reduceEqDiff,Nat.reduceBEq,ZaA,unA,Zz,unG,ne_eq,Option.some.injEq,decide_true,decide_false,↓reduceIte,Zd,List.contains_cons,Zcz,Zcj,ZcB,oI,oN,AVal.cells,a0,e0,e1,d0,d1,oq,ZV,fb,fB,fj,ff,fv,fs,hr,h3b,Int.reduceLT,viewAs,ZN,ZL,Zn,List.foldl_cons,List.foldl_nil,Zaj,Zak,Zav,Zar,Zay,Zam,List.lookup_cons,List.lookup_nil,bne_self_eq_false]
   ·have c1:(c != 0)=true:=by simpa using c0
    rw [if_neg (fun h=>c0 h.2.1)]
    simp -implicitDefEqProofs only [EQA,Zag,Zs,Nat.reduceAdd,Nat.reduceLT,Nat.reduceLeDiff,Nat.reduceEqDiff,Nat.reduceBEq,ZaA,Zz,Zau,unG,ne_eq,Option.some.injEq,reduceCtorEq,decide_true,decide_false,↓reduceIte,Zd,List.contains_cons,Zcz,Zcj,ZcB,oI,oN,AVal.cells,a0,e0,e1,d0,oq,ZV,fb,fB,fj,ff,fv,hr,h3b,c1,Int.reduceLT,viewAs,ZN,ZL,Zn,List.foldl_cons,List.foldl_nil,Zaj,Zak,Zav,Zar,Zay,Zam,List.lookup_cons,List.lookup_nil,bne_self_eq_false]
  ·have v1:(v != 0)=true:=by simpa using v0
   rw [if_neg (fun h=>v0 (hv.2 (by decide)))]
   simp -implicitDefEqProofs only [EQA,Zag,Zs,Nat.reduceAdd,Nat.reduceLT,Nat.reduceLeDiff,Nat.reduceEqDiff,Nat.reduceBEq,ZaA,Zz,Zau,ne_eq,Option.some.injEq,reduceCtorEq,decide_true,decide_false,↓reduceIte,Zd,List.contains_cons,Zcz,Zcj,ZcB,oI,oN,AVal.cells,a0,e0,e1,d0,oq,ZV,fb,fB,fj,ff,fv,hr,h3b,v1,Int.reduceLT,viewAs,ZN,ZL,Zn,List.foldl_cons,List.foldl_nil,Zaj,Zak,Zav,Zar,Zay,Zam,List.lookup_cons,List.lookup_nil]
end
end Go.Proofs.YtmlkhhidifjjfaaDoor
namespace Go.Proofs.YtmlkhhidifjjfaaDoor
set_option maxHeartbeats 16000000
set_option maxRecDepth 10000
def ZiH (x:UInt8) (B:Zb):AVal:=.tup [.agg [Zc x,.lst false (B.map Zc)],.int .i64 0]
def Zkb:AVal:=.tup [.agg [.int .u8 0,.lst false []],.int .i64 129]
theorem ZuI {args:List AVal} {p:Zq} {x:UInt8} {B:Zb} (h:E1 34 [Z7 p] []=some (Zez x.toNat B 0 true,[])) (hB:B.length≤268435455) (hp:args.all Z4=true) (hn:args.map ZH=[Z7 p]) (σ:Za) (site own:Nat) :
  Zj E1 BY σ site 34 own true args=some (ZiH x B,σ,{}):=by
 unfold Zez at h
 rw [if_pos ⟨hB,rfl,rfl⟩] at h
 exact Zbr h (by kernel_rfl) hp hn rfl (fun _=>rfl) σ site own
theorem ZKr {args:List AVal} {p:Zq} {x c:Int} {B:Zb} {s:Bool} (h:E1 34 [Z7 p] []=some (Zez x B c s,[])) (hB:¬(B.length≤268435455∧c=0∧s=true)) (hp:args.all Z4=true) (hn:args.map ZH=[Z7 p]) (σ:Za) (site own:Nat) :
  Zj E1 BY σ site 34 own true args=some (Zkb,σ,{}):=by
 unfold Zez at h
 rw [if_neg hB] at h
 exact Zbr h (by kernel_rfl) hp hn rfl (fun _=>rfl) σ site own
def ZfR (x:UInt8) (B:Zb):Zb:=x::((Zai B.length).1++B)
theorem Zyd (σ:Za) (site own:Nat) (f:Bool) (x:UInt8) (b c:Zb) (h:1+b.length+c.length≤140737488355328):Zj E BY σ site 56 own true [.lst f [.lst false [Zc x],.lst false (b.map Zc),.lst false (c.map Zc)]]=some (.lst false ((x::(b++c)).map Zc),σ,{}):=by
 have:=ZhL σ site own f [x] [b,c] (by simp) (by simp;omega)
 simpa only [List.map_cons,List.map_nil,ZO,List.flatten_cons,List.flatten_nil,List.append_nil,List.cons_append,List.nil_append] using this
theorem Zup (p:Zq) (x:UInt8) (B:Zb) (hB:B.length≤268435455) (hF:∀ σ site own,Zj E1 BY σ site 34 own true [.agg (Zt p)]=some (ZiH x B,σ,{})) :
  E1 40 [Z7 p] []=some (.tup [.lst false ((ZfR x B).map Zc),.int .i64 0],[]):=by
 have hv:=Zgi (B.length:Nat)
 have fv:=fun σ site own=>ZbD (Zf3 σ site own (B.length:Nat))
 have fj:=fun σ site own f=>ZbD (Zyd σ site own f x (Zai (B.length:Nat)).1 B (by omega))
 have hn:(B.map Zc).length=B.length:=by simp
 rw [ZbB]
 have e0:=Zbt p
 have e1:=ZbP p
 unfold ZfR
 unfold ZeJ at fv
 unfold ZiH at hF
 generalize (Zai (B.length:Nat)).1=V at *
 generalize (Zai (B.length:Nat)).2=c at *
 generalize Zt p=P at *
 generalize (x::(V++B)).map Zc=R at *
 generalize hBB:B.map Zc=BB at *
 have bx:Zc x=.int .u8 (x.toNat:Nat):=rfl
 simp only [bx] at fj hF
 rw [Zbp (by rfl) Zsl]
 simp -implicitDefEqProofs only [EQA,Zs,Nat.reduceAdd,Nat.reduceLT,Nat.reduceLeDiff,Nat.reduceEqDiff,Nat.reduceBEq,decide_true,↓reduceIte,Zd,ZsC,Zk2,Zs7,oI,oN,AVal.cells,e0,e1,hF,fv,fj,hn,bne_self_eq_false,viewAs,ZN,ZL,Zn,List.foldl_cons,List.foldl_nil]
theorem ZHM (p:Zq) (hF:∀ σ site own,Zj E1 BY σ site 34 own true [.agg (Zt p)]=some (Zkb,σ,{})) :
  E1 40 [Z7 p] []=some (.tup [.lst true [],.int .i64 129],[]):=by
 rw [ZbB]
 have e0:=Zbt p
 have e1:=ZbP p
 unfold Zkb at hF
 generalize Zt p=P at *
 rw [Zbp (by rfl) Zsl]
 simp -implicitDefEqProofs only [EQA,Zs,Nat.reduceAdd,Nat.reduceLT,Nat.reduceLeDiff,Nat.reduceEqDiff,Nat.reduceBEq,↓reduceIte,Zd,ZsC,Zk2,Zs7,oI,oN,AVal.cells,e0,e1,hF,Int.reduceBNe]
end Go.Proofs.YtmlkhhidifjjfaaDoor
namespace Go.Proofs.YtmlkhhidifjjfaaDoor
set_option maxHeartbeats 8000000
set_option maxRecDepth 10000
def ZhI (p:Zq):Option Zb :=
 if p.type=1 then some (Zei p) else if p.type=2 then some (Zi1 p) else if p.type=3 then some (Zk5 p)
 else if p.type=4∨p.type=5∨p.type=6∨p.type=7 then some (beB (ZC p.id) 2++Za2 p)
 else if p.type=8 then some (Zb0 p++ZdL p.subs) else if p.type=10 then some (Zb0 p++ZdO p.filters)
 else if p.type=9∨p.type=11 then some (Zb0 p++Zd6 p.codes)
 else if p.type=14∨p.type=15 then ZcK p else none
def Zaw (p:Zq):Zb:=(ZhI p).getD []
theorem ZLk (p:Zq) (h:OkW p):E1 78 [.ref 0 0,Z7 p] [.var wn]=some (.tup [],wO (ZhI p)):=by
 unfold ZhI
 by_cases h1:p.type=1
 ·rw [if_pos h1];exact ZEv p h h1
 rw [if_neg h1]
 by_cases h2:p.type=2
 ·rw [if_pos h2];exact ZJZ p h h2
 rw [if_neg h2]
 by_cases h3:p.type=3
 ·rw [if_pos h3];exact ZJG p h h3
 rw [if_neg h3]
 by_cases h4:p.type=4∨p.type=5∨p.type=6∨p.type=7
 ·rw [if_pos h4];exact ZuP p h h4
 rw [if_neg h4]
 by_cases h8:p.type=8
 ·rw [if_pos h8];exact ZGt p h h8
 rw [if_neg h8]
 by_cases h10:p.type=10
 ·rw [if_pos h10];exact ZFR p h h10
 rw [if_neg h10]
 by_cases h9:p.type=9∨p.type=11
 ·rw [if_pos h9];exact ZFh p h h9
 rw [if_neg h9]
 by_cases h14:p.type=14∨p.type=15
 ·rw [if_pos h14];exact ZM9 p h h14
 rw [if_neg h14]
 exact ZDK p (by omega)
theorem ZGv (p:Zq):(Za2 p).length≤300000000:=by
 have h1:=ZaJ 1 (ZC p.code)
 have h2:=Zdi p.type p.props
 unfold Za2
 repeat' split
 all_goals simp only [List.length_append,List.length_nil]
 all_goals omega
theorem ZFX (p:Zq) (h:OkW p) (hp:p.payload.length≤1000000):(Zaw p).length≤1000000000000:=by
 have a1:=ZKa p h
 have a2:=ZGv p
 have a3:=ZaJ 2 (ZC p.id)
 have a4:=ZaJ 1 (ZC p.code)
 have a5:=ZaJ 1 (ZC (Z8 p.present 1))
 have a6:=Zdi 2 p.props
 have a7:=Zdi 3 p.props
 have a8:=ZcM p.topic
 have a9:=ZkU p h
 have b1:=ZGb p.subs
 have b2:=ZyE p.filters
 have b3:=ZIR p.codes
 have c1:=h.subs.1
 have c2:=h.filters.1
 have c3:=h.codes
 have a10:(Zk3 p).length≤70000:=by
  unfold Zk3
  split
  ·rw [List.length_append];omega
  ·omega
 have a11:((ZcK p).getD []).length≤300000000:=by
  unfold ZcK
  split
  ·simpa using a2
  ·simp
 unfold Zaw ZhI
 generalize ZcK p=ro at *
 repeat' split
 all_goals try simp only [Option.getD_some,Option.getD_none,List.length_append,List.length_nil,Zi1,Zk5]
 all_goals omega
theorem ZgR {w:Int} {b:Zb} {l:List Zu} {r:Zb} (h:Zbs w b=.ok (l,r)):l.length≤268435455:=by
 unfold Zbs at h
 split at h
 ·injection h with h
  injection h with h1 h2
  rw [←h1];exact ZB3 w b
 ·cases h
theorem Ztj {α:Type} {one:Zb→RK α}:∀ {n:Nat} {l:Zb} {ts:List α},ZaD one n l=.ok ts→ts.length≤n
 | 0,l,ts,h=>by
  unfold ZaD at h
  split at h
  ·injection h with h;subst h;simp
  ·cases h
 | n+1,l,ts,h=>by
  unfold ZaD at h
  split at h
  ·injection h with h;subst h;simp
  ·split at h
   ·cases h
   ·split at h
    ·cases h
    ·rename_i t ht
     injection h with h;subst h
     have:=Ztj ht
     simp;omega
theorem Zn1 {α:Type} {one:Zb→RK α} {k:Int} {l:Zb} {n:Int} {ps:List Zu} {ts:List α} (h:Zbq one k l=.ok (n,ps,ts)):ps.length≤268435455∧ts.length≤l.length:=by
 unfold Zbq at h
 split at h
 ·cases h
 rename_i n' ps' r hm
 have l1:=Zi6 hm
 split at h
 ·cases h
 rename_i us hu
 injection h with h;injection h with e1 h;injection h with e2 e3;subst e1 e2 e3
 have:=Ztj hu
 refine ⟨?_,by omega⟩
 unfold ZcN at hm
 split at hm
 ·cases hm
 split at hm
 ·cases hm
 rename_i hp
 split at hm
 ·cases hm
 injection hm with hm;injection hm with _ hm;injection hm with e _;subst e
 exact ZgR hp
theorem Zxa {k:Int} {l:Zb} {c:Int} {ps:Option (List Zu)} {r:Zb} (h:Zcf k l=.ok ((c,ps),r)):(ps.getD []).length≤268435455:=by
 unfold Zcf at h
 split at h
 ·injection h with h;injection h with h _;injection h with _ h;subst h;simp
 split at h
 ·cases h
 split at h
 ·injection h with h;injection h with h _;injection h with _ h;subst h;simp
 split at h
 ·cases h
 rename_i hp
 injection h with h;injection h with h _;injection h with _ h;subst h
 exact ZgR hp
theorem ZcH:OkL ZF:=⟨by simp [ZF],by simp [ZF],by simp [ZF],by simp [ZF],by simp [ZF]⟩
theorem Zt6 {q q':Zq} {l r:Zb} (h:OkL q) (e:Zdt q l=.ok (q',r)):OkL q':=by
 unfold Zdt at e
 split at e
 ·cases e
 rename_i c ps r' hr
 injection e with e;injection e with e _;subst e
 have:=Zxa hr
 exact ⟨h.codes,by simp only;omega,h.subs,h.filters,h.wprops⟩
theorem ZKm {q q':Zq} {l r:Zb} (h:OkL q) (e:idQ q l=.ok (q',r)):OkL q':=by
 unfold idQ at e
 split at e
 ·cases e
 rename_i n r1 _
 exact Zt6 (q:={ q with id:=n }) ⟨h.codes,h.props,h.subs,h.filters,h.wprops⟩ e
theorem ZBA {q q':Zq} {l r:Zb} (h:OkL q) (e:Ze4 q l=.ok (q',r)):OkL q':=by
 unfold Ze4 at e
 split at e
 ·cases e
 split at e
 case isFalse=>cases e
 split at e
 ·cases e
 split at e
 ·cases e
 rename_i hp
 injection e with e;injection e with e _;subst e
 have:=ZgR hp
 exact ⟨h.codes,by simp only;omega,h.subs,h.filters,h.wprops⟩
theorem ZMP {b:Bool} {q q':Zq} {l r:Zb} (h:OkL q) (e:Zgp b q l=.ok (q',r)):OkL q':=by
 unfold Zgp at e
 split at e
 ·split at e
  ·cases e
  ·injection e with e;injection e with e _;subst e;exact ⟨h.codes,h.props,h.subs,h.filters,h.wprops⟩
 ·injection e with e;injection e with e _;subst e;exact h
theorem ZyH {b:Bool} {q q':Zq} {l r:Zb} (h:OkL q) (e:Zgg b q l=.ok (q',r)):OkL q':=by
 unfold Zgg at e
 split at e
 ·split at e
  ·cases e
  ·injection e with e;injection e with e _;subst e;exact ⟨h.codes,h.props,h.subs,h.filters,h.wprops⟩
 ·injection e with e;injection e with e _;subst e;exact h
theorem ZvD {b:Bool} {q q':Zq} {l r:Zb} (h:OkL q) (e:ZfE b q l=.ok (q',r)):OkL q':=by
 unfold ZfE at e
 split at e
 ·split at e
  ·cases e
  ·rename_i ps tp d r' hw
   injection e with e;injection e with e _;subst e
   refine ⟨h.codes,h.props,h.subs,h.filters,?_⟩
   unfold Zc8 at hw
   split at hw
   ·cases hw
   rename_i hp
   split at hw
   ·cases hw
   split at hw
   ·cases hw
   injection hw with hw;injection hw with e1 _;subst e1
   have:=ZgR hp
   simp only;omega
 ·injection e with e;injection e with e _;subst e;exact h
theorem ZyC {q:Zq} (h:OkL q) (m k:Int) {ps:List Zu} (cl:Zb) (hp:ps.length≤268435455):OkL (headD (ZnZ q m) k ps cl):=⟨h.codes,Nat.le_trans hp (by decide),h.subs,h.filters,h.wprops⟩
theorem ZI8 {q q':Zq} {l r:Zb} (h:OkL q) (e:ZeV q l=.ok (q',r)):OkL q':=by
 unfold ZeV at e
 split at e
 ·cases e
 split at e
 case isFalse=>cases e
 split at e
 ·cases e
 split at e
 case isFalse=>cases e
 split at e
 ·cases e
 split at e
 case isFalse=>cases e
 unfold Zhh at e
 split at e
 ·cases e
 split at e
 ·cases e
 rename_i hp
 split at e
 ·cases e
 unfold ZgY at e
 split at e
 ·cases e
 rename_i hw
 split at e
 ·cases e
 rename_i hu
 exact ZMP (ZyH (ZvD (ZyC h _ _ _ (ZgR hp)) hw) hu) e
theorem ZiN {x:Except Int (Zq×Zb)} (h:∀ q r,x=.ok (q,r)→OkL q) {q:Zq} (e:ZbM x=.ok q):OkL q:=by
 unfold ZbM at e
 split at e
 ·cases e
 rename_i q' r'
 split at e
 ·injection e with e;subst e;exact h _ _ rfl
 ·cases e
theorem ZA2 {t:Int} {l:Zb} (hl:l.length≤9223372036854775807) {q:Zq} (e:Zcb t l=.ok q):OkL q:=by
 have h0:∀ k:Int,OkL { ZF with type:=k }:=fun k=>⟨ZcH.codes,ZcH.props,ZcH.subs,ZcH.filters,ZcH.wprops⟩
 unfold Zcb at e
 split at e
 ·exact ZiN (fun _ _ h=>ZI8 (h0 1) h) e
 split at e
 ·exact ZiN (fun _ _ h=>ZBA (h0 2) h) e
 split at e
 ·exact ZiN (fun _ _ h=>ZKm (h0 t) h) e
 split at e
 ·unfold Zjd at e
  split at e
  ·cases e
  rename_i hm
  injection e with e;subst e
  have:=Zn1 hm
  exact ⟨(h0 8).codes,by simp only;omega,by simp only;omega,(h0 8).filters,(h0 8).wprops⟩
 split at e
 ·unfold Zjg at e
  split at e
  ·cases e
  rename_i hm
  injection e with e;subst e
  have:=Zn1 hm
  exact ⟨(h0 8).codes,by simp only;omega,(h0 8).subs,by simp only;omega,(h0 8).wprops⟩
 split at e
 ·unfold Ze1 at e
  split at e
  ·cases e
  rename_i hm
  injection e with e;subst e
  have:=Zn1 hm
  exact ⟨by simp only;omega,by simp only;omega,(h0 8).subs,(h0 8).filters,(h0 8).wprops⟩
 split at e
 ·exact ZiN (fun _ _ h=>Zt6 (h0 t) h) e
 ·exact ZiN (fun q r h=>by injection h with h;injection h with h _;subst h;exact h0 t) e
theorem ZKq {qos:Int} {l:Zb} {tp:Zb} {n:Int} {ps:List Zu} {q:Zb} (e:Zej qos l=.ok (tp,n,ps,q)):ps.length≤268435455:=by
 unfold Zej at e
 split at e
 ·cases e
 split at e
 ·split at e
  ·cases e
  split at e
  ·cases e
  rename_i hp
  injection e with e;injection e with _ e;injection e with _ e;injection e with e _;subst e
  exact ZgR hp
 ·split at e
  ·cases e
  rename_i hp
  injection e with e;injection e with _ e;injection e with _ e;injection e with e _;subst e
  exact ZgR hp
theorem ZqN (b:Int) (l:Zb) (hl:l.length≤9223372036854775807):OkL (ZcY b l).1:=by
 unfold ZcY
 split
 ·exact ZcH
 split
 ·unfold Zfu
  split
  ·split
   ·split
    ·exact ZcH
    ·rename_i h
     have:=ZKq h
     exact ⟨ZcH.codes,by simp only;omega,ZcH.subs,ZcH.filters,ZcH.wprops⟩
   ·exact ZcH
  ·exact ZcH
 split
 ·split
  ·exact ZcH
  ·rename_i h
   exact ZA2 hl h
 ·exact ZcH
theorem ZsY (p:Zq) (h:OkW p) (hp:p.payload.length≤1000000):E1 34 [Z7 p] []=some (Zez (Zbc p) (Zaw p) (ZcY (Zbc p) (Zaw p)).2 (ZdI (ZcY (Zbc p) (Zaw p)).1 p),[]):=by
 have hb:=ZLk p h
 have hl:=ZFX p h hp
 have hw:=Zok p
 unfold Zaw at hl ⊢
 cases hB:ZhI p with
 | none =>
  rw [hB] at hb
  exact ZvE p _ _ hb (fun σ site own=>Zmm _ hw [] (by decide) false σ site own) (ZqN _ _ (by decide))
 | some B =>
  rw [hB] at hb hl
  simp only [Option.getD_some] at hl ⊢
  exact ZuV p _ _ B hb (by omega) (fun σ site own=>Zmm _ hw B (by omega) false σ site own) (ZqN _ _ (by omega))
def Zc1 (p:Zq):Prop:=(Zaw p).length≤268435455∧ZcY (Zbc p) (Zaw p)=(p,0)
instance (p:Zq):Decidable (Zc1 p):=inferInstanceAs (Decidable (_∧_))
def Zhg (p:Zq):UInt8:=UInt8.ofNat (Zbc p).toNat
theorem Zqs (p:Zq):((Zhg p).toNat:Int)=Zbc p:=by
 have:=Zok p
 unfold Zhg
 rw [UInt8.toNat_ofNat']
 omega
section
variable (p:Zq) (h:OkW p) (hp:p.payload.length≤1000000)
include h hp
theorem Ztr:Zc1 p↔((Zaw p).length≤268435455∧(ZcY (Zbc p) (Zaw p)).2=0∧ZdI (ZcY (Zbc p) (Zaw p)).1 p=true):=by
 unfold Zc1
 rw [ZmM]
 constructor
 ·rintro ⟨h1,h2⟩
  rw [h2];exact ⟨h1,rfl,rfl⟩
 ·rintro ⟨h1,h2,h3⟩
  exact ⟨h1,Prod.ext h3 h2⟩
theorem Zr1 (hg:Zc1 p) (args:List AVal) (ha:args.all Z4=true) (hn:args.map ZH=[Z7 p]) (σ:Za) (site own:Nat):Zj E1 BY σ site 34 own true args=some (ZiH (Zhg p) (Zaw p),σ,{}):=by
 have hF:=ZsY p h hp
 obtain ⟨h1,h2,h3⟩:=(Ztr p h hp).1 hg
 rw [h2,h3,←Zqs p] at hF
 exact ZuI (by rw [hF]) h1 ha hn σ site own
theorem ZJO (hg:¬Zc1 p) (args:List AVal) (ha:args.all Z4=true) (hn:args.map ZH=[Z7 p]) (σ:Za) (site own:Nat):Zj E1 BY σ site 34 own true args=some (Zkb,σ,{}) :=
 ZKr (ZsY p h hp) (fun e=>hg ((Ztr p h hp).2 e)) ha hn σ site own
theorem ZlQ (p:Zq):([AVal.agg (Zt p)].all Z4=true)∧[AVal.agg (Zt p)].map ZH=[Z7 p]:=⟨by rw [List.all_cons,Zdu];rfl,by rw [List.map_cons,ZdG];rfl⟩
def Zbh (p:Zq):Zb:=ZfR (Zhg p) (Zaw p)
theorem ZH1 (hg:Zc1 p) (args:List AVal) (ha:args.all Z4=true) (hn:args.map ZH=[Z7 p]) (σ:Za) (site own:Nat):Zj E1 BY σ site 40 own true args=some (.tup [.lst false ((Zbh p).map Zc),.int .i64 0],σ,{}) :=
 Zbr (Zup p (Zhg p) (Zaw p) hg.1 fun σ site own=>Zr1 p h hp hg _ (ZlQ p h hp p).1 (ZlQ p h hp p).2 σ site own) (by kernel_rfl) ha hn rfl (fun _=>rfl) σ site own
theorem ZFC (hg:¬Zc1 p) (args:List AVal) (ha:args.all Z4=true) (hn:args.map ZH=[Z7 p]) (σ:Za) (site own:Nat):Zj E1 BY σ site 40 own true args=some (.tup [.lst false [],.int .i64 129],σ,{}) :=
 Zbr (ZHM p fun σ site own=>ZJO p h hp hg _ (ZlQ p h hp p).1 (ZlQ p h hp p).2 σ site own) (by kernel_rfl) ha hn rfl (fun _=>rfl) σ site own
end
end Go.Proofs.YtmlkhhidifjjfaaDoor
namespace Go.Proofs.YtmlkhhidifjjfaaDoor
set_option maxHeartbeats 4000000
theorem ZtJ (rest:Zb):∀ (b:Zb) (i n:Nat),(gvA i n b).2.2=0→gvA i n (b++rest)=gvA i n b
 | [],i,n,h=>by
  unfold gvA at h
  split at h <;> simp at h
 | c::r,i,n,h=>by
  rw [List.cons_append]
  unfold gvA at h ⊢
  split at h
  ·simp at h
  ·rename_i h4
   rw [if_neg h4,if_neg h4]
   split at h
   ·rename_i hc
    rw [if_pos hc,if_pos hc]
   ·rename_i hc
    rw [if_neg hc,if_neg hc]
    exact ZtJ rest r (i+1) _ h
theorem Zyz (b rest:Zb) (h:(ZT b).2.2=0):ZT (b++rest)=ZT b:=ZtJ rest b 0 0 h
theorem ZKP (w:Int) (b rest:Zb) (h:(Z0 w b).2.2=0):Z0 w (b++rest)=Z0 w b:=by
 have hx:¬((ZT b).2.2≠0∨((ZT b).1:Int) > (b.length:Int) - ((ZT b).2.1:Nat)):=by
  intro hx
  unfold Z0 at h
  rw [if_pos hx] at h
  simp at h
 have h1:(ZT b).2.2=0:=Classical.byContradiction fun e=>hx (Or.inl e)
 have h2:¬(((ZT b).1:Int) > (b.length:Int) - ((ZT b).2.1:Nat)):=fun e=>hx (Or.inr e)
 have hg:=Zyz b rest h1
 have hle:(ZT b).2.1+(ZT b).1≤b.length:=by omega
 have ht:(b++rest).take ((ZT b).2.1+(ZT b).1)=b.take ((ZT b).2.1+(ZT b).1):=List.take_append_of_le_length hle
 have hl:(b++rest).length=b.length+rest.length:=List.length_append
 have hx':¬((ZT b).2.2≠0∨((ZT b).1:Int) > ((b++rest).length:Int) - ((ZT b).2.1:Nat)):=by
  rintro (e | e)
  ·exact e h1
  ·rw [hl] at e;omega
 unfold Z0
 rw [hg,ht,if_neg hx,if_neg hx']
theorem ZG7 (w:Int) (l:List Zu):(Z0 w (ZaF w l).1=(l,(ZaF w l).1.length,0)∧(ZaF w l).2=0)∨((ZaF w l).1=[]∧(ZaF w l).2≠0):=by
 unfold ZaF ZfP
 generalize (l.map ZcP).flatten=b
 by_cases h:(Zai b.length).2≠0
 ·rw [if_pos h];exact Or.inr ⟨rfl,by decide⟩
 ·rw [if_neg h]
  split
  ·exact Or.inr ⟨rfl,by decide⟩
  ·rename_i h2
   refine Or.inl ⟨?_,rfl⟩
   have h0:(Z0 w ((Zai b.length).1++b)).2.2=0:=Classical.byContradiction fun e=>h2 (Or.inl e)
   have h1:(Z0 w ((Zai b.length).1++b)).2.1=((Zai b.length).1++b).length:=Classical.byContradiction fun e=>h2 (Or.inr (Or.inl e))
   have h3:(Z0 w ((Zai b.length).1++b)).1=l:=by
    by_cases e:((Z0 w ((Zai b.length).1++b)).1 == l)=true
    ·exact beq_iff_eq.1 e
    ·exact absurd (Or.inr (Or.inr (by simpa using e))) h2
   simp only
   generalize Z0 w ((Zai b.length).1++b)=R at *
   obtain ⟨a,n,c⟩:=R
   simp only at h0 h1 h3
   rw [h0,h1,h3]
theorem ZJK (w:Int) (l:List Zu) (rest:Zb) (h:(ZaF w l).2=0):Zbs w ((ZaF w l).1++rest)=.ok (l,rest):=by
 rcases ZG7 w l with ⟨h1,_⟩ | ⟨_,h2⟩
 ·have h0:(Z0 w (ZaF w l).1).2.2=0:=by rw [h1]
  unfold Zbs
  rw [ZKP w _ rest h0,h1]
  simp
 ·exact absurd h h2
end Go.Proofs.YtmlkhhidifjjfaaDoor
namespace Go.Proofs.YtmlkhhidifjjfaaDoor
def Zbz:Zf:=(.seq (.region [oI 6 (.mov (.c (.bool false)))] none [2,1,0]) (.seq (.region [oI 15 (.mov (.t 0)),oI 16 (.call 39 0 true [(.t 15),(.c (.int .i64 1)),(.c (.int .i64 15))]),oI 17 (.mov (.t 1)),oI 18 (.bin .and (.t 17) (.c (.int .i64 255))),oI 19 (.mov (.t 2)),oI 20 (.bin .and (.t 19) (.c (.int .i64 4095))),oI 21 (.bin .add (.c (.int .i64 1)) (.t 20)),oI 0 (.mov (.t 16)),oI 1 (.mov (.t 18)),oI 2 (.mov (.t 21))] none [2,1,0]) (.seq (.region [oI 22 (.mov (.t 0)),oI 23 (.mov (.t 1)),oI 24 (.build [(.int .i64 0),(.bool false),(.int .i64 0),(.bool false),(.int .i64 0),(.str []),(.lst true []),(.int .i64 0),(.lst true []),(.lst true []),(.lst true []),(.lst true []),(.bool false),(.int .i64 0),(.str []),(.bool false),(.str []),(.lst true []),(.int .i64 0),(.bool false),(.lst true []),(.bool false),(.str []),(.bool false),(.lst true []),(.bool false)] [(0,1,(.t 22)),(7,1,(.t 23))]),oI 7 (.alloc [(.int .i64 0),(.bool false),(.int .i64 0),(.bool false),(.int .i64 0),(.str []),(.lst true []),(.int .i64 0),(.lst true []),(.lst true []),(.lst true []),(.lst true []),(.bool false),(.int .i64 0),(.str []),(.bool false),(.str []),(.lst true []),(.int .i64 0),(.bool false),(.lst true []),(.bool false),(.str []),(.bool false),(.lst true []),(.bool false)]),oN (.st 26 (.t 7) (.t 24))] none [7,2,1,0]) (.seq (.seq (.region [oI 25 (.mov (.t 0))] none [25,7,2,1,0]) (.block 0 (.seq (.seq (.region [oI 34 (.bin .eql (.t 25) (.c (.int .i64 4))),oI 33 (.mov (.t 34))] none [33,25,7,2,1,0]) (.cond (.t 33) .skip (.seq (.region [oI 35 (.bin .eql (.t 25) (.c (.int .i64 5))),oI 33 (.mov (.t 35))] none [33,25,7,2,1,0]) (.cond (.t 33) .skip (.seq (.region [oI 36 (.bin .eql (.t 25) (.c (.int .i64 6))),oI 33 (.mov (.t 36))] none [33,25,7,2,1,0]) (.cond (.t 33) .skip (.region [oI 37 (.bin .eql (.t 25) (.c (.int .i64 7))),oI 33 (.mov (.t 37))] none [33,25,7,2,1,0]))))))) (.cond (.t 33) (.region [oI 38 (.mov (.t 2)),oI 39 (.faddr 4 (.t 7)),oN (.st 1 (.t 39) (.t 38))] none [7,1,0]) (.seq (.seq (.region [oI 41 (.bin .eql (.t 25) (.c (.int .i64 9))),oI 40 (.mov (.t 41))] none [40,25,7,2,1,0]) (.cond (.t 40) .skip (.region [oI 42 (.bin .eql (.t 25) (.c (.int .i64 11))),oI 40 (.mov (.t 42))] none [40,25,7,2,1,0]))) (.cond (.t 40) (.region [oI 43 (.mov (.t 2)),oI 44 (.mov (.t 1)),oI 45 (.bslice false 1 1 (.int .i64 0) [(0,(.t 44))]),oI 46 (.faddr 4 (.t 7)),oN (.st 1 (.t 46) (.t 43)),oI 47 (.faddr 7 (.t 7)),oN (.st 1 (.t 47) (.c (.int .i64 0))),oI 48 (.faddr 8 (.t 7)),oN (.st 1 (.t 48) (.t 45))] none [7,1,0]) (.seq (.seq (.region [oI 50 (.bin .eql (.t 25) (.c (.int .i64 2))),oI 49 (.mov (.t 50))] none [49,25,7,1,0]) (.cond (.t 49) .skip (.seq (.region [oI 51 (.bin .eql (.t 25) (.c (.int .i64 14))),oI 49 (.mov (.t 51))] none [49,25,7,1,0]) (.cond (.t 49) .skip (.region [oI 52 (.bin .eql (.t 25) (.c (.int .i64 15))),oI 49 (.mov (.t 52))] none [49,7,1,0]))))) (.cond (.t 49) .skip (.seq (.region [oI 26 (.mov (.t 0)),oI 27 (.mov (.t 1)),oI 28 (.call 41 0 true [(.t 26),(.t 27)]),oI 29 (.un .not (.t 28)),oI 30 (.mov (.t 29)),⟨(some 31),(.call 38 0 true []),(some (30,true)),[]⟩,oI 32 (.pick (.t 30) (.t 31) (.c (.bool false))),oI 6 (.mov (.t 32))] none [6]) .ret))))))))) (.seq (.region [oI 54 (.ld (some 26) (.t 7)),oI 55 (.call 40 0 true [(.t 54)]),oI 53 (.mov (.t 55)),oI 56 (.ext (.t 53) 0),oI 57 (.ext (.t 53) 1),oI 8 (.mov (.t 56)),oI 9 (.mov (.t 57))] none [9,8,7,1,0]) (.seq (.region [oI 58 (.mov (.t 0)),oI 59 (.mov (.t 1)),oI 60 (.call 41 0 true [(.t 58),(.t 59)]),oI 10 (.mov (.t 60))] none [10,9,8,7]) (.seq (.seq (.region [oI 61 (.mov (.t 10)),oI 62 (.un .not (.t 61))] none [62,9,8,7]) (.cond (.t 62) (.seq (.region [oI 63 (.mov (.t 9)),oI 64 (.call 33 0 true [(.t 63)]),oI 65 (.bin .eql (.t 64) (.c (.int .i64 129))),oI 66 (.mov (.t 65)),⟨(some 67),(.mov (.t 8)),(some (66,true)),[]⟩,⟨(some 68),(.len (.t 67)),(some (66,true)),[]⟩,⟨(some 69),(.bin .eql (.t 68) (.c (.int .i64 0))),(some (66,true)),[]⟩,oI 70 (.pick (.t 66) (.t 69) (.c (.bool false))),oI 71 (.mov (.t 70)),⟨(some 72),(.call 38 0 true []),(some (71,true)),[]⟩,oI 73 (.pick (.t 71) (.t 72) (.c (.bool false))),oI 6 (.mov (.t 73))] none [6]) .ret) .skip)) (.seq (.region [oI 75 (.ld (some 26) (.t 7)),oI 76 (.call 34 0 true [(.t 75)]),oI 74 (.mov (.t 76)),oI 77 (.ext (.t 74) 0),oI 78 (.ext (.t 74) 1),oI 11 (.alloc [(.int .u8 0),(.lst true [])]),oN (.st 2 (.t 11) (.t 77)),oI 12 (.mov (.t 78))] none [12,11,9,8,7]) (.seq (.region [oI 80 (.ld (some 2) (.t 11)),oI 81 (.call 32 0 true [(.t 80)]),oI 79 (.mov (.t 81)),oI 82 (.ext (.t 79) 0),oI 83 (.ext (.t 79) 1),oI 13 (.alloc [(.int .i64 0),(.bool false),(.int .i64 0),(.bool false),(.int .i64 0),(.str []),(.lst true []),(.int .i64 0),(.lst true []),(.lst true []),(.lst true []),(.lst true []),(.bool false),(.int .i64 0),(.str []),(.bool false),(.str []),(.lst true []),(.int .i64 0),(.bool false),(.lst true []),(.bool false),(.str []),(.bool false),(.lst true []),(.bool false)]),oN (.st 26 (.t 13) (.t 82)),oI 14 (.mov (.t 83))] none [14,13,12,9,8,7]) (.seq (.region [oI 84 (.mov (.t 9)),oI 85 (.call 33 0 true [(.t 84)]),oI 86 (.bin .eql (.t 85) (.c (.int .i64 0))),oI 87 (.mov (.t 86)),⟨(some 88),(.mov (.t 8)),(some (87,true)),[]⟩,⟨(some 89),(.len (.t 88)),(some (87,true)),[]⟩,⟨(some 90),(.bin .gtr (.t 89) (.c (.int .i64 1))),(some (87,true)),[]⟩,oI 91 (.pick (.t 87) (.t 90) (.c (.bool false))),oI 92 (.mov (.t 91)),⟨(some 93),(.mov (.t 12)),(some (92,true)),[]⟩,⟨(some 94),(.call 33 0 true [(.t 93)]),(some (92,true)),[]⟩,⟨(some 95),(.bin .eql (.t 94) (.c (.int .i64 0))),(some (92,true)),[]⟩,oI 96 (.pick (.t 92) (.t 95) (.c (.bool false))),oI 97 (.mov (.t 96)),⟨(some 98),(.mov (.t 14)),(some (97,true)),[]⟩,⟨(some 99),(.call 33 0 true [(.t 98)]),(some (97,true)),[]⟩,⟨(some 100),(.bin .eql (.t 99) (.c (.int .i64 0))),(some (97,true)),[]⟩,oI 101 (.pick (.t 97) (.t 100) (.c (.bool false))),oI 102 (.mov (.t 101)),⟨(some 103),(.ld (some 26) (.t 7)),(some (102,true)),[]⟩,⟨(some 104),(.ld (some 26) (.t 13)),(some (102,true)),[]⟩,⟨(some 105),(.call 35 0 true [(.t 103),(.t 104)]),(some (102,true)),[]⟩,oI 106 (.pick (.t 102) (.t 105) (.c (.bool false))),oI 107 (.mov (.t 106)),⟨(some 108),(.call 38 0 true []),(some (107,true)),[]⟩,oI 109 (.pick (.t 107) (.t 108) (.c (.bool false))),oI 6 (.mov (.t 109))] none [6]) .ret))))))))))
def ZmA:ZI:=⟨[(.tmp 6)],Zbz⟩
theorem ZEA:FC 9=some ZmA:=by kernel_rfl
theorem ZbK:ZmA.body=Zbz:=rfl
theorem ZbL:ZmA.res=[(.tmp 6)]:=rfl
def Zni:Zf:=(.seq (.region [oI 2 (.mov (.c (.int .i64 0)))] none [0]) (.seq (.region [oI 3 (.mov (.t 0)),oI 2 (.mov (.t 3))] none [2]) .ret))
def ZmP:ZI:=⟨[(.tmp 2)],Zni⟩
theorem Zwt:FC 33=some ZmP:=by kernel_rfl
theorem Zwk:ZmP.body=Zni:=rfl
theorem ZwZ:ZmP.res=[(.tmp 2)]:=rfl
def ZoS:Zf:=(.seq (.region [oI 0 (.mov (.c (.bool false)))] none []) (.seq (.region [oI 6 (.build [(.int .i64 0),(.bool false),(.int .i64 0),(.bool false),(.int .i64 0),(.str []),(.lst true []),(.int .i64 0),(.lst true []),(.lst true []),(.lst true []),(.lst true []),(.bool false),(.int .i64 0),(.str []),(.bool false),(.str []),(.lst true []),(.int .i64 0),(.bool false),(.lst true []),(.bool false),(.str []),(.bool false),(.lst true []),(.bool false)] [(0,1,(.c (.int .i64 4))),(4,1,(.c (.int .i64 7))),(7,1,(.c (.int .i64 16)))]),oI 7 (.call 40 0 true [(.t 6)]),oI 5 (.mov (.t 7)),oI 8 (.ext (.t 5) 0),oI 9 (.ext (.t 5) 1),oI 1 (.mov (.t 8)),oI 2 (.mov (.t 9))] none [2,1]) (.seq (.region [oI 11 (.bslice false 1 7 (.int .u8 0) [(0,(.c (.int .u8 0))),(1,(.c (.int .u8 1))),(2,(.c (.int .u8 97))),(3,(.c (.int .u8 0))),(4,(.c (.int .u8 1))),(5,(.c (.int .u8 0))),(6,(.c (.int .u8 120)))]),oI 12 (.build [(.int .u8 0),(.lst true [])] [(0,1,(.c (.int .u8 50))),(1,1,(.t 11))]),oI 13 (.call 32 0 true [(.t 12)]),oI 10 (.mov (.t 13)),oI 14 (.ext (.t 10) 0),oI 15 (.ext (.t 10) 1),oI 3 (.alloc [(.int .i64 0),(.bool false),(.int .i64 0),(.bool false),(.int .i64 0),(.str []),(.lst true []),(.int .i64 0),(.lst true []),(.lst true []),(.lst true []),(.lst true []),(.bool false),(.int .i64 0),(.str []),(.bool false),(.str []),(.lst true []),(.int .i64 0),(.bool false),(.lst true []),(.bool false),(.str []),(.bool false),(.lst true []),(.bool false)]),oN (.st 26 (.t 3) (.t 14)),oI 4 (.mov (.t 15))] none [4,3,2,1]) (.seq (.region [oI 16 (.mov (.t 2)),oI 17 (.call 33 0 true [(.t 16)]),oI 18 (.bin .eql (.t 17) (.c (.int .i64 0))),oI 19 (.mov (.t 18)),⟨(some 20),(.mov (.t 1)),(some (19,true)),[]⟩,⟨(some 21),(.bslice false 1 5 (.int .u8 0) [(0,(.c (.int .u8 64))),(1,(.c (.int .u8 3))),(2,(.c (.int .u8 0))),(3,(.c (.int .u8 7))),(4,(.c (.int .u8 16)))]),(some (19,true)),[]⟩,⟨(some 22),(.call 15 0 true [(.t 20),(.t 21)]),(some (19,true)),[]⟩,oI 23 (.pick (.t 19) (.t 22) (.c (.bool false))),oI 24 (.mov (.t 23)),⟨(some 25),(.mov (.t 4)),(some (24,true)),[]⟩,⟨(some 26),(.call 33 0 true [(.t 25)]),(some (24,true)),[]⟩,⟨(some 27),(.bin .eql (.t 26) (.c (.int .i64 0))),(some (24,true)),[]⟩,oI 28 (.pick (.t 24) (.t 27) (.c (.bool false))),oI 29 (.mov (.t 28)),⟨(some 30),(.faddr 5 (.t 3)),(some (29,true)),[]⟩,⟨(some 31),(.ld none (.t 30)),(some (29,true)),[]⟩,⟨(some 32),(.bin .eql (.t 31) (.c (.str [97]))),(some (29,true)),[]⟩,oI 33 (.pick (.t 29) (.t 32) (.c (.bool false))),oI 34 (.mov (.t 33)),⟨(some 35),(.faddr 2 (.t 3)),(some (34,true)),[]⟩,⟨(some 36),(.ld none (.t 35)),(some (34,true)),[]⟩,⟨(some 37),(.bin .eql (.t 36) (.c (.int .i64 1))),(some (34,true)),[]⟩,oI 38 (.pick (.t 34) (.t 37) (.c (.bool false))),oI 39 (.mov (.t 38)),⟨(some 40),(.faddr 4 (.t 3)),(some (39,true)),[]⟩,⟨(some 41),(.ld none (.t 40)),(some (39,true)),[]⟩,⟨(some 42),(.bin .eql (.t 41) (.c (.int .i64 1))),(some (39,true)),[]⟩,oI 43 (.pick (.t 39) (.t 42) (.c (.bool false))),oI 44 (.mov (.t 43)),⟨(some 45),(.faddr 6 (.t 3)),(some (44,true)),[]⟩,⟨(some 46),(.ld none (.t 45)),(some (44,true)),[]⟩,⟨(some 47),(.b2s (.t 46)),(some (44,true)),[]⟩,⟨(some 48),(.bin .eql (.t 47) (.c (.str [120]))),(some (44,true)),[]⟩,oI 49 (.pick (.t 44) (.t 48) (.c (.bool false))),oI 0 (.mov (.t 49))] none [0]) .ret))))
def ZnO:ZI:=⟨[(.tmp 0)],ZoS⟩
theorem ZIa:FC 38=some ZnO:=by kernel_rfl
theorem ZHH:ZnO.body=ZoS:=rfl
theorem ZvT:ZnO.res=[(.tmp 0)]:=rfl
end Go.Proofs.YtmlkhhidifjjfaaDoor
namespace Go.Proofs.YtmlkhhidifjjfaaDoor
set_option maxHeartbeats 16000000
set_option maxRecDepth 10000
theorem ZBi (a b:Zb):E 15 [ZO a,ZO b] []=some (.bool (a == b),[]):=by
 rw [Zh (by rfl) ZAc]
 simp -implicitDefEqProofs only [EQA,Nat.reduceLT,Nat.reduceEqDiff,Zfh,reduceCtorEq,Z6,↓reduceIte,ZEP,Zm9,ZFo,oI,ZO]
theorem ZJJ (σ:Za) (site own:Nat) (f g:Bool) (a b:Zb):Zj E BY σ site 15 own true [.lst f (a.map Zc),.lst g (b.map Zc)]=some (.bool (a == b),σ,{}) :=
 Zbr (ZBi a b) (by kernel_rfl) rfl rfl rfl (fun _=>rfl) σ site own
theorem Zwg (e:Int):E 33 [.int .i64 e] []=some (.int .i64 e,[]):=by
 rw [Zh (by rfl) Zwt]
 simp -implicitDefEqProofs only [EQA,Nat.reduceLT,Nat.reduceEqDiff,reduceCtorEq,↓reduceIte,Zwk,Zni,ZwZ,oI]
theorem ZsL (σ:Za) (site own:Nat) (view:Bool) (e:Int):Zj E BY σ site 33 own view [.int .i64 e]=some (.int .i64 e,σ,{}) :=
 Zcp (Zwg e) (by kernel_rfl) (by simp -implicitDefEqProofs only [ZcZ,Zby,eq_self]) (by simp -implicitDefEqProofs only [ZG,Zby,eq_self]) rfl (fun _=>rfl) _ _ _ _
def p7:Zq:={ ZF with type:=4,id:=7,code:=16 }
def b7:Zb:=[0,7,16]
theorem ZJu:OkW p7:=by
 refine ⟨?_,?_,?_,?_,?_,?_,?_,?_,?_,?_,?_,?_⟩ <;> simp [p7,ZF]
theorem ZKn:E1 78 [.ref 0 0,Z7 p7] [.var wn]=some (.tup [],wH 0 b7):=by
 have h:=ZuP p7 ZJu (Or.inl rfl)
 have e:beB (ZC p7.id) 2++Za2 p7=b7:=by
  unfold Za2
  rw [if_pos (Or.inl (by decide)),if_neg (by simp [p7,ZF])]
  decide
 rw [e] at h;exact h
def Q7:List AVal:=ZdK ((P0.set 0 (.int .i64 4)).set 4 (.int .i64 7)) 16 none
theorem ZJ7:E1 32 [.agg [.int .u8 64,.lst false (b7.map Zc)]] []=some (.tup [.agg Q7,.int .i64 0],[]):=by
 have hi:idK b7=.ok (7,[16]):=by kernel_rfl
 have hr:Zcf 4 [16]=.ok ((16,none),[]):=by kernel_rfl
 have hf:=ZsS P0 rfl (by rfl) 64 4 b7 (by decide) (by decide) (by decide) (by decide)
 have hb:=Zue (P0.set 0 (.int .i64 4)) (by rfl) (by rfl) 4 (Or.inl rfl) rfl rfl rfl (fun r _=>Zdc 4 r) b7 (by decide) hi hr
 rw [Zf1]
 exact Zn4 64 b7 (by rfl) (by rfl) rfl (by rfl) (by rfl) rfl hf hb
theorem ZA5 (σ:Za) (site own:Nat):Zj E1 BY σ site 32 own true [.agg [.int .u8 64,.lst false (b7.map Zc)]]=some (.tup [Z7 p7,.int .i64 0],σ,{}) :=
 Zuy ZJ7 (fun σ=>rfl) false σ site own
theorem ZBj:E1 34 [Z7 p7] []=some (Zez 64 b7 0 true,[]):=by
 have hf:Zbc p7=64:=by decide
 have hs:ZdI p7 p7=true:=(ZmM _ _).2 rfl
 have:=ZuV p7 p7 0 b7 ZKn (by decide) (fun σ site own=>by rw [hf];exact ZA5 σ site own) ⟨by decide,by decide,by decide,by decide,by decide⟩
 rw [hf,hs] at this
 exact this
theorem ZAm:E1 40 [Z7 p7] []=some (.tup [.lst false ((ZfR 64 b7).map Zc),.int .i64 0],[]) :=
 Zup p7 64 b7 (by decide) fun σ site own=>ZuI (x:=64) ZBj (by decide) (by rw [List.all_cons,Zdu];rfl) (by rw [List.map_cons,ZdG];rfl) σ site own
def b50:Zb:=[0,1,97,0,1,0,120]
def p50:Zq:={ ZF with type:=3,qos:=1,id:=1,topic:=[97],payload:=[120] }
theorem ZzG:Zfu 50 b50=(p50,0):=by kernel_rfl
theorem ZCO:E1 38 [] []=some (.bool true,[]):=by
 have h1:=fun (args:List AVal) (hp:args.all Z4=true) (hn:args.map ZH=[Z7 p7]) σ site own=>Zbr (byref:=BY) (args:=args) ZAm (by kernel_rfl) hp hn rfl (fun _=>rfl) σ site own
 have h2:∀ (σ:Za) (site own:Nat) (f:Bool),Zj E1 BY σ site 32 own true [.agg [.int .u8 50,.lst f [.int .u8 0,.int .u8 1,.int .u8 97,.int .u8 0,.int .u8 1,.int .u8 0,.int .u8 120]]]=some (.tup [.agg [.int .i64 3,.bool false,.int .i64 1,.bool false,.int .i64 1,.str [97],.lst false [.int .u8 120],.int .i64 0,.lst false [],.lst false [],.lst false [],.lst false [],.bool false,.int .i64 0,.str [],.bool false,.str [],.lst false [],.int .i64 0,.bool false,.lst false [],.bool false,.str [],.bool false,.lst false [],.bool false],.int .i64 0],σ,{}):=fun σ site own f=>by
  have:=ZD5 50 (by decide) b50 (by decide) f σ site own
  rw [ZzG] at this
  exact this
 have h3:=fun σ site own f g a b=>ZbD (ZJJ σ site own f g a b)
 have h4:=fun σ site own e=>ZbD (ZsL σ site own true e)
 have h5:=h1 [.agg [.int .i64 4,.bool false,.int .i64 0,.bool false,.int .i64 7,.str [],.lst true [],.int .i64 16,.lst true [],.lst true [],.lst true [],.lst true [],.bool false,.int .i64 0,.str [],.bool false,.str [],.lst true [],.int .i64 0,.bool false,.lst true [],.bool false,.str [],.bool false,.lst true [],.bool false]] rfl rfl
 have h6:∀ (σ:Za) (site own:Nat) (f g:Bool),Zj E1 BY σ site 15 own true [.lst f ((ZfR 64 b7).map Zc),.lst g [.int .u8 64,.int .u8 3,.int .u8 0,.int .u8 7,.int .u8 16]]=some (.bool true,σ,{}):=fun σ site own f g=>by
  have:=h3 σ site own f g (ZfR 64 b7) [64,3,0,7,16]
  rw [show (ZfR 64 b7 == [64,3,0,7,16])=true from by decide] at this
  exact this
 have hb:bytesOf [AVal.int .u8 120]=some [120]:=by rfl
 clear h1 h3
 rw [Zbp (by rfl) ZIa]
 simp -implicitDefEqProofs only [EQA,Zag,ZaL,Nat.reduceAdd,Nat.reduceLT,Nat.reduceLeDiff,Nat.reduceEqDiff,Nat.reduceBEq,Zfh,Zz,unG,ne_eq,Option.some.injEq,reduceCtorEq,decide_true,decide_false,Z6,↓reduceIte,ZE,ZA,ZQ,ZHH,ZoS,ZvT,oI,oN,AVal.cells,ZV,h2,h4,h5,h6,hb,viewAs,ZN,ZL,Zn,List.foldl_cons,List.foldl_nil,ZD]
theorem Zye (σ:Za) (site own:Nat) (view:Bool):Zj E1 BY σ site 38 own view []=some (.bool true,σ,{}) :=
 Zcp ZCO (by kernel_rfl) rfl rfl rfl (fun _=>rfl) _ _ _ _
end Go.Proofs.YtmlkhhidifjjfaaDoor
namespace Go.Proofs.YtmlkhhidifjjfaaDoor
open Go.RowKit
def Zgd (P:Program):Nat→TypeId→Bool
 | 0,_=>true
 | n+1,t=>match P.underlying t with
  | some (.slice e)=>decide (1≤P.bytesOf e) && Zgd P n e
  | some (.struct fs)=>fs.toList.all fun f=>Zgd P n f.type
  | _=>true
mutual
def TyR (R:Nat):Ty→List AVal→Prop
 | .bool,xs=>∃ b,xs=[.bool b]
 | .int k,xs=>∃ n,(Lit.int k n).wf=true∧xs=[.int k n]
 | .str,xs=>∃ l:List UInt8,l.length≤R∧xs=[.str l]
 | .slice s e,xs=>∃ ys:List (List AVal),xs=[.lst false (ys.map (ZcX s))]∧ys.length≤R∧∀ y ∈ ys,TyR R e y
 | .struct fs,xs=>Zi5 R fs xs
def Zi5 (R:Nat):List Ty→List AVal→Prop
 | [],xs=>xs=[]
 | f::fs,xs=>∃ a b,xs=a++b∧TyR R f a∧Zi5 R fs b
end
section
variable {H:Type} {enc:TypeId×Value→H} {P:Program} {w:World} {spare:Nat→Bool} {held:Bool} {R:Nat}
theorem Zqx {d:DataW H} {e:TypeId} {n:Nat}:∀ {l:List (DataW H)},d ∈ l→n ∈ d.weights P e→n ∈ DataW.weightsAll P e l
 | x::l,h,hn=>by
  simp only [DataW.weightsAll,List.mem_append]
  rcases List.mem_cons.1 h with rfl | h
  ·exact Or.inl hn
  ·exact Or.inr (Zqx h hn)
theorem ZNa {t e:TypeId} {l m:List (DataW H)} {d:DataW H} (hu:P.underlying t=some (.slice e)) (hd:d ∈ l) {n:Nat} (hn:n ∈ d.weights P e):n ∈ (DataW.slice l m).weights P t:=by
 simp only [DataW.weights,hu,List.mem_cons,List.mem_append]
 exact Or.inr (Or.inl (Zqx hd hn))
theorem ZtX {n fuel:Nat} {cs:List Value} (ih:∀ (t:TypeId) (cs:List Value) (x:DataW H×List MemPlace) (T:Ty),Zdd P n t=some T→Zgd P n t=true→(∀ m ∈ x.1.weights P t,m≤R)→DataW.trod enc P w 0 spare held fuel t cs=some x→∃ xs,TyR R T xs∧VRs (Imm.of w) B0 xs cs∧ZaH xs=true) :
  ∀ (fs:List Field) (at':Nat) (Ts:List Ty) (ys:List (DataW H×List MemPlace)),(fs.all fun f=>Zgd P n f.type)=true→(∀ m ∈ DataW.weightsEach P (fs.map (·.type)) (ys.map (·.1)),m≤R)→ZiI P at' fs cs.length=true→fs.mapM (fun f=>Zdd P n f.type)=some Ts →
   fs.mapM (fun f=>DataW.trod enc P w 0 spare held fuel f.type ((cs.drop f.offset).take (P.cellsOf f.type)))=some ys→∃ xs,Zi5 R Ts xs∧VRs (Imm.of w) B0 xs (cs.drop at')∧ZaH xs=true
 | [],at',Ts,ys,_,_,ho,hT,_=>by
  simp only [ZiI,beq_iff_eq] at ho
  simp only [List.mapM_nil,Option.pure_def,Option.some.injEq] at hT
  subst hT ho
  exact ⟨[],by simp only [Zi5],by simp [VRs],rfl⟩
 | f::fs,at',Ts,ys,hby,hwt,ho,hT,h=>by
  simp only [ZiI,Bool.and_eq_true,beq_iff_eq] at ho
  obtain ⟨T,Ts',h1,h2,rfl⟩:=ZtO hT
  obtain ⟨y,ys',h3,h4,rfl⟩:=ZtO h
  simp only [List.all_cons,Bool.and_eq_true] at hby
  simp only [List.map_cons,DataW.weightsEach,List.mem_append] at hwt
  obtain ⟨a,a1,a2,a3⟩:=ih _ _ _ _ h1 hby.1 (fun m hm=>hwt m (Or.inl hm)) h3
  obtain ⟨b,b1,b2,b3⟩:=ZtX ih fs _ _ _ hby.2 (fun m hm=>hwt m (Or.inr hm)) ho.2 h2 h4
  rw [ho.1] at a2
  refine ⟨a++b,by simp only [Zi5];exact ⟨a,b,rfl,a1,b1⟩,ZLi a2 (by rw [List.drop_drop];exact b2),ZxE a3 b3⟩
theorem ZuS {n:Nat} {e:TypeId} {T:Ty} (hT:Zdd P n e=some T) (hs:Zdq (P.underlying e)=false) {xs:List AVal} (h:TyR R T xs):xs.length=1:=by
 cases n with
 | zero=>simp [Zdd] at hT
 | succ n =>
  simp only [Zdd] at hT
  split at hT
  ·injection hT with hT;subst hT;simp only [TyR] at h;obtain ⟨_,rfl⟩:=h;rfl
  ·injection hT with hT;subst hT;simp only [TyR] at h;obtain ⟨_,_,rfl⟩:=h;rfl
  ·injection hT with hT;subst hT;simp only [TyR] at h;obtain ⟨_,_,rfl⟩:=h;rfl
  ·split at hT
   ·simp only [Option.map_eq_some_iff] at hT
    obtain ⟨T',_,rfl⟩:=hT
    simp only [TyR] at h;obtain ⟨_,rfl,_⟩:=h;rfl
   ·cases hT
  ·rename_i hu;rw [hu] at hs;simp [Zdq] at hs
  ·cases hT
theorem Zo4:∀ (n fuel:Nat) (t:TypeId) (cs:List Value) (x:DataW H×List MemPlace) (T:Ty),Zdd P n t=some T→Zgd P n t=true→(∀ m ∈ x.1.weights P t,m≤R)→DataW.trod enc P w 0 spare held fuel t cs=some x →
  ∃ xs,TyR R T xs∧VRs (Imm.of w) B0 xs cs∧ZaH xs=true
 | 0,fuel,t,cs,x,T,hT,_,_,_=>by simp [Zdd] at hT
 | n+1,0,t,cs,x,T,_,_,_,h=>by simp [DataW.trod] at h
 | n+1,fuel+1,t,cs,x,T,hT,hby,hwt,h=>by
  have h0:=h
  simp only [Zdd] at hT
  unfold DataW.trod at h
  split at hT
  ·rename_i hu
   injection hT with hT;subst hT
   obtain ⟨b,rfl,_⟩:=DataW.trod_bool hu h0
   exact ⟨[.bool b],by simp only [TyR];exact ⟨b,rfl⟩,by simp [VRs,VR],rfl⟩
  ·rename_i k hu
   injection hT with hT;subst hT
   obtain ⟨n',rfl,_,hk⟩:=DataW.trod_int hu h0
   exact ⟨[.int k n'],by simp only [TyR];exact ⟨n',hk,rfl⟩,by simp [VRs,VR],rfl⟩
  ·rename_i hu
   injection hT with hT;subst hT
   obtain ⟨s,rfl,hx,hs⟩:=DataW.trod_string hu h0
   have hs':s.data.toList.length≤9223372036854775807:=by
    rw [Array.length_toList];exact Nat.le_trans hs (by simp [maxLen])
   have hR:s.data.toList.length≤R:=by
    subst hx
    exact hwt _ (by simp [DataW.weights])
   exact ⟨[.str s.data.toList],by simp only [TyR];exact ⟨_,hR,rfl⟩,by simp only [VRs,VR];exact ⟨_,_,rfl,⟨by simp,hs'⟩,rfl⟩,rfl⟩
  ·rename_i e hu
   split at hT
   case isFalse=>cases hT
   rename_i hc
   simp only [Option.map_eq_some_iff] at hT
   obtain ⟨T,hT,rfl⟩:=hT
   rcases Go.Deep.open_slice hu h0 with ⟨hcs,_⟩ | ⟨a,len,cap,m,n',D,Pl,hcs,_,hl,hm,hmm,hx,hi⟩
   ·subst hcs
    exact ⟨[.lst false []],by simp only [TyR];exact ⟨[],by simp,by simp,by simp⟩,by simp only [VRs,VR];exact ⟨_,_,rfl,⟨none,0,rfl,by simp,by simp,by simp,by simp,by simp [Z9]⟩,rfl⟩,rfl⟩
   ·have hlm:len≤m:=by split at hmm <;> omega
    unfold Zgd at hby
    rw [hu] at hby
    simp only [Bool.and_eq_true,decide_eq_true_eq] at hby
    have hlR:len≤R:=by
     have:=hwt _ (by rw [hx];simp only [DataW.weights,hu];exact List.mem_cons_self ..)
     simp only [List.length_map,List.length_range] at this
     have h1:=Nat.le_mul_of_pos_right (len+(m - len)) hby.1
     omega
    have hspot:0 < len→a.spot=none:=by
     intro h0
     obtain ⟨cs',h1,h2⟩:=hi 0 (by omega)
     obtain ⟨_,h6,h7⟩:=World.cells?_some h1
     have h8:=h7 0 hc
     obtain ⟨u,hu⟩:∃ u,cs'[0]?=some u:=⟨cs'[0]'(by omega),by simp⟩
     rw [hu] at h8
     simp only [Nat.zero_mul,Addr.add,if_true] at h8
     exact Zzt (b:=a.block) (off:=a.off) (s:=a.spot) (u:=u) h8
    have hall:∀ i,∃ xs,i < len→TyR R T xs∧(ZcX (Zdq (P.underlying e)) xs).cells=xs∧xs.length=P.cellsOf e∧CR (Imm.of w) B0 xs a.block (a.off+i*P.cellsOf e)∧ZaH xs=true:=by
     intro i
     by_cases hlt:i < len
     ·obtain ⟨cs',h1,h2⟩:=hi i (by omega)
      obtain ⟨xs,h3,h4,h5⟩:=Zo4 n n' e cs' _ T hT hby.2 (fun q hq=>hwt q (by rw [hx];exact ZNa hu (List.mem_map.2 ⟨i,List.mem_range.2 hlt,rfl⟩) hq)) h2
      obtain ⟨_,h6,h7⟩:=World.cells?_some h1
      have hlen:=ZaW h4
      refine ⟨xs,fun _=>⟨h3,ZGW (fun hs=>ZuS hT hs h3) (fun _=>ZsH h5),by omega,Zsj xs cs' _ h4 (fun j hj=>?_),h5⟩⟩
      have h8:=h7 j (by omega)
      rw [Go.Deep.add_add,Zz4 (hspot (by omega)),←Nat.add_assoc] at h8
      exact h8
     ·exact ⟨[],fun h=>absurd h hlt⟩
    obtain ⟨Y,hY⟩:=Classical.axiomOfChoice hall
    subst hcs
    have hmx:maxLen=9223372036854775807:=by simp [maxLen]
    rw [hmx] at hm
    refine ⟨[.lst false ((List.range len).map fun i=>ZcX (Zdq (P.underlying e)) (Y i))],?_,?_,?_⟩
    ·simp only [TyR]
     refine ⟨(List.range len).map Y,by rw [List.map_map];rfl,by simpa using hlR,?_⟩
     intro y hy
     obtain ⟨i,hi',rfl⟩:=List.mem_map.1 hy
     exact (hY i (List.mem_range.1 hi')).1
    ·simp only [VRs,VR,List.length_map,List.length_range]
     refine ⟨_,_,rfl,⟨some a,cap,rfl,hl,hm,by simp,?_,ZpL len Y fun i hlt=>by rw [(hY i hlt).2.1];exact (hY i hlt).2.2.2.2⟩,rfl⟩
     cases len with
     | zero=>exact Or.inl (by simp)
     | succ len =>
      refine Or.inr ⟨a.block,a.off,P.cellsOf e,?_,hc,Zrw (len+1) a.off Y fun i hlt=>?_⟩
      ·have:=hspot (by omega)
       cases a;simp_all
      ·rw [(hY i hlt).2.1];exact ⟨(hY i hlt).2.2.1,(hY i hlt).2.2.2.1⟩
    ·simp only [ZaH,ZaO,Bool.and_true]
     exact ZpL len Y fun i hlt=>by rw [(hY i hlt).2.1];exact (hY i hlt).2.2.2.2
  ·rename_i fs hu
   split at hT
   case isFalse=>cases hT
   rename_i ho
   simp only [Option.map_eq_some_iff] at hT
   obtain ⟨Ts,hT,rfl⟩:=hT
   rw [hu] at h
   simp only at h
   split at h
   ·rename_i hl
    simp only [Option.map_eq_some_iff] at h
    obtain ⟨ys,hy,rfl⟩:=h
    unfold Zgd at hby
    rw [hu] at hby
    simp only [DataW.weights,hu] at hwt
    obtain ⟨xs,h1,h2,h3⟩:=ZtX (fun t cs x T h h1 h2 h'=>Zo4 n fuel t cs x T h h1 h2 h') fs.toList 0 Ts ys hby hwt (by rw [hl];exact ho) hT hy
    exact ⟨xs,by simp only [TyR];exact h1,h2,h3⟩
   ·cases h
  ·cases hT
def Zvb (R:Nat) (s:Bool) (T:Ty) (x:AVal):Prop:=∃ xs,TyR R T xs∧x=ZcX s xs
theorem Zod {n:Nat} {t:TypeId} {v:Value} {d:DataW H} {ps:List MemPlace} {T:Ty} {r:Reach} {b0:Nat} (hT:Zdd P n t=some T) (hby:Zgd P n t=true) (hwt:∀ m ∈ d.weights P t,m≤R) (hv:Value.okWide P w r b0 t v) (h:DataW.Trod enc P w 0 spare held t v d ps) :
  ∃ x,Zvb R (Zdq (P.underlying t)) T x∧VR (Imm.of w) B0 x v∧ZaH x.cells=true:=by
 obtain ⟨fuel,h⟩:=h
 obtain ⟨xs,h1,h2,h3⟩:=Zo4 n fuel t _ _ T hT hby hwt h
 refine ⟨ZcX (Zdq (P.underlying t)) xs,⟨xs,h1,rfl⟩,?_⟩
 by_cases hs:Zdq (P.underlying t)=true
 ·have : ∃ cs,v=.agg cs:=by
   unfold Value.okWide at hv
   cases hu:P.underlying t with
   | none=>rw [hu] at hs;simp [Zdq] at hs
   | some dd =>
    rw [hu] at hv hs
    cases dd <;> first | (simp [Zdq] at hs;done) | (obtain ⟨cs,e,_⟩:=hv;exact ⟨cs,e⟩)
  obtain ⟨cs,rfl⟩:=this
  rw [hs]
  exact ⟨by simp only [ZcX,if_true,VR];exact ⟨cs,rfl,h2⟩,h3⟩
 ·have hs':Zdq (P.underlying t)=false:=by simpa using hs
  have hl:=ZuS hT hs' h1
  have hlen:=ZaW h2
  rw [hs']
  match xs,hl with
  | [x],_ =>
   simp only [ZcX,Bool.false_eq_true,if_false,List.headD_cons]
   have hvc:v.cells=#[v]:=by
    cases n with
    | zero=>simp [Zdd] at hT
    | succ n =>
     simp only [Zdd] at hT
     split at hT
     ·rename_i hu;obtain ⟨b,rfl⟩:=Go.WideShapes.okWide_bool hu hv;rfl
     ·rename_i k hu;obtain ⟨b,rfl⟩:=Go.WideShapes.okWide_int hu hv;rfl
     ·rename_i hu;obtain ⟨b,rfl⟩:=Go.WideShapes.okWide_string hu hv;rfl
     ·rename_i e hu;obtain ⟨a,l,c,rfl⟩:=Go.WideShapes.okWide_slice hu hv;rfl
     ·rename_i fs hu;rw [hu] at hs';simp [Zdq] at hs'
     ·cases hT
   rw [hvc] at h2
   simp only [VRs] at h2
   obtain ⟨v',vs',e,h2,_⟩:=h2
   simp only [List.cons.injEq] at e
   rw [e.1]
   refine ⟨h2,?_⟩
   have hok:=ZsH h3 x (by simp)
   have hx:x.cells=[x]:=by cases x <;> first | rfl | (simp [ZD] at hok;done)
   rw [hx];exact h3
end
end Go.Proofs.YtmlkhhidifjjfaaDoor
namespace Go.Proofs.YtmlkhhidifjjfaaDoor
open Go.RowKit
variable {R:Nat}
def okI (n:Int):Prop:=-9223372036854775808≤n∧n≤9223372036854775807
theorem ZxJ {y:List AVal} (h:TyR R (.int .i64) y):∃ n,okI n∧y=[.int .i64 n]:=by
 simp only [TyR] at h
 obtain ⟨n,hw,rfl⟩:=h
 refine ⟨n,?_,rfl⟩
 simp only [Lit.wf,Bool.and_eq_true,decide_eq_true_eq] at hw
 exact hw
def ZMd (R:Nat) (p:Zu):Prop:=okI p.id∧okI p.num∧p.text.length≤R∧p.pair.length≤R∧p.data.length≤R
def ZsU (R:Nat) (l:List Zu):Prop:=l.length≤R∧∀ p ∈ l,ZMd R p
structure ZNq (R:Nat) (p:Zq):Prop where
 topic:p.topic.length≤R
 payload:p.payload.length≤R
 codes:p.codes.length≤R∧∀ n ∈ p.codes,okI n
 props:ZsU R p.props
 subs:p.subs.length≤R∧∀ s ∈ p.subs,s.filter.length≤R∧okI s.qos∧okI s.handling∧okI s.id
 filters:p.filters.length≤R∧∀ f ∈ p.filters,f.length≤R
 client:p.client.length≤R
 wtopic:p.will.topic.length≤R
 wdata:p.will.data.length≤R
 wprops:ZsU R p.will.props
 user:p.user.length≤R
 password:p.password.length≤R
 ints:okI p.type∧okI p.qos∧okI p.id∧okI p.code∧okI p.keep∧okI p.will.qos
theorem Znn {x:AVal} (h:Zvb R false (.int .i64) x):∃ n:Int,okI n∧x=.int .i64 n:=by
 obtain ⟨y,h,rfl⟩:=h
 obtain ⟨l,h1,rfl⟩:=ZxJ h
 exact ⟨l,h1,rfl⟩
end Go.Proofs.YtmlkhhidifjjfaaDoor
namespace Go.Proofs.YtmlkhhidifjjfaaDoor
set_option maxHeartbeats 16000000
set_option maxRecDepth 10000
theorem ZGy {p:Zq} (h:OkW p):OkL p:=⟨by have:=h.codes;omega,by have:=h.props.1;omega,by have:=h.subs.1;omega,by have:=h.filters.1;omega,by have:=h.wprops.1;omega⟩
end Go.Proofs.YtmlkhhidifjjfaaDoor
namespace Go.Proofs.YtmlkhhidifjjfaaDoor
set_option maxHeartbeats 4000000
def NZ {α:Type} (x:Except Int α):Prop:=∀ e,x=.error e→e≠0
theorem Zbo {α:Type} (a:α):NZ (.ok a:Except Int α):=fun _ h=>by cases h
theorem ZcE {α:Type} {e:Int} (h:e≠0):NZ (.error e:Except Int α):=fun _ k=>by injection k with k;subst k;exact h
theorem ZgT (n:Nat) (l:Zb):NZ (Zaz n l):=by unfold Zaz;split;exact ZcE (by decide);exact Zbo _
theorem ZhV (l:Zb):NZ (Zan l):=by unfold Zan;split;exact Zbo _;exact ZcE (by decide)
theorem Zsp (l:Zb):NZ (ZcC l):=by unfold ZcC;split;exact Zbo _;exact ZcE (by decide)
theorem ZiW (w:Int) (l:Zb):NZ (Zbs w l):=by
 unfold Zbs
 split
 ·exact Zbo _
 ·rename_i h;exact ZcE h
theorem Za3 {α β:Type} {x:Except Int α} (h:NZ x) {e:Int} (k:x=.error e):NZ (.error e:Except Int β):=ZcE (h e k)
theorem Zur (l:Zb):NZ (idK l):=by
 unfold idK
 split
 ·split
  ·exact ZcE (by decide)
  ·exact Zbo _
 ·rename_i h;exact Za3 (ZgT 2 l) h
theorem ZpK (k:Int) (l:Zb):NZ (Zas k l):=by
 unfold Zas
 split
 ·split
  ·exact Zbo _
  ·exact ZcE (by decide)
 ·rename_i h;exact Za3 (ZgT 1 l) h
theorem ZKu (k:Int) (l:Zb):NZ (Zcf k l):=by
 unfold Zcf
 split
 ·exact Zbo _
 split
 ·rename_i h;exact Za3 (ZpK k l) h
 split
 ·exact Zbo _
 split
 ·rename_i h;exact Za3 (ZiW k _) h
 ·exact Zbo _
theorem ZLf (l:Zb):NZ (Zbn l):=by
 unfold Zbn
 split
 ·rename_i h;exact Za3 (ZhV l) h
 split
 ·rename_i h;exact Za3 (ZgT 1 _) h
 split
 ·split
  ·exact Zbo _
  ·exact ZcE (by decide)
 ·exact ZcE (by decide)
theorem Ztv {α:Type} {one:Zb→RK α} (h1:∀ l,NZ (one l)) (hlen:∀ {l s r},one l=.ok (s,r)→r.length < l.length):∀ (n:Nat) (l:Zb),l.length≤n→NZ (ZaD one n l)
 | 0,l,h=>by
  unfold ZaD
  rw [if_pos (by omega)]
  exact Zbo _
 | n+1,l,h=>by
  unfold ZaD
  split
  ·exact Zbo _
  split
  ·rename_i k;exact Za3 (h1 l) k
  ·rename_i s r k
   have:=hlen k
   split
   ·rename_i k2;exact Za3 (Ztv h1 hlen n r (by omega)) k2
   ·exact Zbo _
theorem ZGE (k:Int) (l:Zb):NZ (ZcN k l):=by
 unfold ZcN
 split
 ·rename_i h;exact Za3 (Zur l) h
 split
 ·rename_i h;exact Za3 (ZiW k _) h
 split
 ·exact ZcE (by decide)
 ·exact Zbo _
theorem ZpN {α:Type} {one:Zb→RK α} (h1:∀ l,NZ (one l)) (hlen:∀ {l s r},one l=.ok (s,r)→r.length < l.length) (k:Int) (l:Zb):NZ (Zbq one k l):=by
 unfold Zbq
 split
 ·rename_i h;exact Za3 (ZGE k l) h
 split
 ·rename_i h;exact Za3 (Ztv h1 hlen _ _ (Nat.le_refl _)) h
 ·exact Zbo _
theorem ZiC {x:Except Int (Zq×Zb)} (h:NZ x):NZ (ZbM x):=by
 unfold ZbM
 split
 ·exact Za3 h rfl
 split
 ·exact Zbo _
 ·exact ZcE (by decide)
theorem Zqu (q:Zq) (l:Zb):NZ (Zdt q l):=by
 unfold Zdt
 split
 ·rename_i h;exact Za3 (ZKu _ l) h
 ·exact Zbo _
theorem ZBb (q:Zq) (l:Zb):NZ (idQ q l):=by
 unfold idQ
 split
 ·rename_i h;exact Za3 (Zur l) h
 ·exact Zqu _ _
theorem ZyQ (q:Zq) (l:Zb):NZ (Ze4 q l):=by
 unfold Ze4
 split
 ·rename_i h;exact Za3 (ZgT 1 l) h
 split
 ·split
  ·rename_i h;exact Za3 (ZpK 2 _) h
  split
  ·rename_i h;exact Za3 (ZiW 2 _) h
  ·exact Zbo _
 ·exact ZcE (by decide)
theorem ZFK (b:Bool) (q:Zq) (l:Zb):NZ (Zgp b q l):=by
 unfold Zgp
 split
 ·split
  ·rename_i h;exact Za3 (Zsp l) h
  ·exact Zbo _
 ·exact Zbo _
theorem ZvS (b:Bool) (q:Zq) (l:Zb):NZ (Zgg b q l):=by
 unfold Zgg
 split
 ·split
  ·rename_i h;exact Za3 (ZhV l) h
  ·exact Zbo _
 ·exact Zbo _
theorem ZG1 (l:Zb):NZ (Zc8 l):=by
 unfold Zc8
 split
 ·rename_i h;exact Za3 (ZiW 16 l) h
 split
 ·rename_i h;exact Za3 (ZhV _) h
 split
 ·rename_i h;exact Za3 (Zsp _) h
 ·exact Zbo _
theorem ZyV (b:Bool) (q:Zq) (l:Zb):NZ (ZfE b q l):=by
 unfold ZfE
 split
 ·split
  ·rename_i h;exact Za3 (ZG1 l) h
  ·exact Zbo _
 ·exact Zbo _
theorem ZAD (m:Int) (q:Zq) (l:Zb):NZ (ZgY m q l):=by
 unfold ZgY
 split
 ·rename_i h;exact Za3 (ZyV _ q l) h
 split
 ·rename_i h;exact Za3 (ZvS _ _ _) h
 ·exact ZFK _ _ _
theorem ZEH (q:Zq) (m:Int) (l:Zb):NZ (Zhh q m l):=by
 unfold Zhh
 split
 ·rename_i h;exact Za3 (ZgT 2 l) h
 split
 ·rename_i h;exact Za3 (ZiW 1 _) h
 split
 ·rename_i h;exact Za3 (ZhV _) h
 ·exact ZAD _ _ _
theorem ZAt (q:Zq) (l:Zb):NZ (ZeV q l):=by
 unfold ZeV
 split
 ·rename_i h;exact Za3 (ZhV l) h
 split
 case isFalse=>exact ZcE (by decide)
 split
 ·rename_i h;exact Za3 (ZgT 1 _) h
 split
 case isFalse=>exact ZcE (by decide)
 split
 ·rename_i h;exact Za3 (ZgT 1 _) h
 split
 case isFalse=>exact ZcE (by decide)
 exact ZEH _ _ _
theorem ZAw (t:Int) (l:Zb):NZ (Zcb t l):=by
 unfold Zcb
 split
 ·exact ZiC (ZAt _ l)
 split
 ·exact ZiC (ZyQ _ l)
 split
 ·exact ZiC (ZBb _ l)
 split
 ·unfold Zjd
  split
  ·rename_i h;exact Za3 (ZpN ZLf ZgZ 8 l) h
  ·exact Zbo _
 split
 ·unfold Zjg
  split
  ·rename_i h;exact Za3 (ZpN ZhV Zkr 10 l) h
  ·exact Zbo _
 split
 ·unfold Ze1
  split
  ·rename_i h;exact Za3 (ZpN (ZpK _) ZiD _ l) h
  ·exact Zbo _
 split
 ·exact ZiC (Zqu _ l)
 ·exact ZiC (Zbo _)
theorem ZAd {b:Int} (h0:tyI b≠0) (h3:tyI b≠3) (hf:Zbf b 15=Zda (tyI b)) (l:Zb):ZcY b l=match Zcb (tyI b) l with
  | .error e=>(ZF,e)
  | .ok q=>(q,0):=by
 unfold ZcY
 rw [if_neg h0,if_neg h3,if_pos hf]
 all_goals rfl
end Go.Proofs.YtmlkhhidifjjfaaDoor
namespace Go.Proofs.YtmlkhhidifjjfaaDoor
set_option maxHeartbeats 4000000
set_option maxRecDepth 10000
theorem ZnV {w:Nat} {x:Int} (r:Zb) (hw:w≤4) (h0:0≤x) (h:x.toNat < 256 ^ w):Zaz w (beB (ZC x) w++r)=.ok (x,r):=by
 have hl:=ZaJ w (ZC x)
 have hu:ZC x=x.toNat:=by
  refine ZHi h0 ?_
  have : (256:Nat) ^ w≤256 ^ 4:=Nat.pow_le_pow_right (by omega) hw
  have e4:(256:Nat) ^ 4=4294967296:=rfl
  omega
 have hp:(256:Nat) ^ w≤4294967296:=by
  have : (256:Nat) ^ w≤256 ^ 4:=Nat.pow_le_pow_right (by omega) hw
  have e4:(256:Nat) ^ 4=4294967296:=rfl
  omega
 have hx:ZC x≤4294967296:=by rw [hu];omega
 unfold Zaz
 rw [if_neg (by rw [List.length_append];omega),List.take_append_of_le_length (by omega),List.take_of_length_le (by omega),List.drop_append_of_le_length (by omega),List.drop_of_length_le (by omega),List.nil_append,hu,ZDy (by omega) h (by omega)]
 have : ((x.toNat:Nat):Int)=x:=by omega
 rw [this]
theorem ZtD {x:Int} (r:Zb) (h0:1≤x) (h:x≤65535):idK (beB (ZC x) 2++r)=.ok (x,r):=by
 unfold idK
 rw [ZnV r (by omega) (by omega) (by have : (256:Nat) ^ 2=65536:=rfl;omega)]
 simp only
 rw [if_neg (by omega)]
theorem ZlI (k:Int) {x:Int} (r:Zb) (h0:0≤x) (h:x≤255):Zas k (beB (ZC x) 1++r)=if Za0 k x=true then .ok (x,r) else .error 130:=by
 unfold Zas
 rw [ZnV r (by omega) (by omega) (by have : (256:Nat) ^ 1=256:=rfl;omega)]
theorem Zo9 (w:Int):(ZaF w []).2=0∧(ZaF w []).1=[0]:=by
 have e:ZaF w []=([0],0):=by kernel_rfl
 rw [e];exact ⟨rfl,rfl⟩
theorem Zqa (w:Int) (r:Zb):Zbs w ((ZaF w []).1++r)=.ok ([],r):=ZJK w [] r (Zo9 w).1
theorem Zk6 {p:Zq} (h3:p.type≠3) (ht:tyI (ZdU p.type)=p.type) (h0:p.type≠0) (hf:Zbf (ZdU p.type) 15=Zda p.type) (hl:(Zaw p).length≤268435455):Zc1 p↔Zcb p.type (Zaw p)=.ok p:=by
 have hw:Zbc p=ZdU p.type:=if_neg h3
 unfold Zc1
 rw [hw,ZAd (by rw [ht];exact h0) (by rw [ht];exact h3) (by rw [ht];exact hf),ht]
 constructor
 ·rintro ⟨_,h⟩
  cases hb:Zcb p.type (Zaw p) with
  | error e =>
   rw [hb] at h
   injection h with _ h
   exact absurd h (ZAw _ _ _ hb)
  | ok q =>
   rw [hb] at h
   injection h with h _
   rw [h]
 ·intro h
  rw [h]
  exact ⟨hl,rfl⟩
theorem ZrO (k:Int) (h:k=2∨k=4∨k=5∨k=6∨k=7∨k=14∨k=15):Za0 k 0=true:=by
 rcases h with rfl | rfl | rfl | rfl | rfl | rfl | rfl <;> decide
section
variable (c id:Int) (hc:0≤c∧c≤255) (hi:1≤id∧id≤4096)
include hc hi
theorem Zju (k:Int) (hk:k=4∨k=5∨k=6∨k=7):Zc1 { ZF with type:=k,code:=c,id:=id }↔Za0 k c=true:=by
 have hB:Zaw { ZF with type:=k,code:=c,id:=id }=beB (ZC id) 2++Za2 { ZF with type:=k,code:=c,id:=id }:=by
  rcases hk with rfl | rfl | rfl | rfl <;> rfl
 have hl:(Zaw { ZF with type:=k,code:=c,id:=id }).length≤268435455:=by
  rw [hB,List.length_append,ZaJ]
  have:=ZaJ 1 (ZC c)
  unfold Za2
  split
  ·simp only [ZF,ne_eq,not_true,if_false,List.append_nil];omega
  ·simp
 rw [Zk6 (by simp only;omega) (by simp only;rcases hk with rfl | rfl | rfl | rfl <;> decide) (by simp only;omega) (by simp only;rcases hk with rfl | rfl | rfl | rfl <;> decide) hl,hB]
 have hb:∀ l,Zcb k l=ZbM (idQ { ZF with type:=k } l):=fun l=>by
  rcases hk with rfl | rfl | rfl | rfl <;> rfl
 show Zcb k _=_↔_
 rw [hb]
 unfold idQ
 rw [ZtD _ hi.1 (by omega)]
 simp only
 unfold Zdt Zcf
 by_cases h0:c=0
 ·subst h0
  have : Za2 { ZF with type:=k,code:=0,id:=id }=[]:=by simp [Za2,ZF]
  rw [this]
  simp only [List.length_nil,if_true]
  simp only [ZbM,List.length_nil,if_true]
  constructor
  ·intro _;exact ZrO k (by omega)
  ·intro _;rfl
 ·have : Za2 { ZF with type:=k,code:=c,id:=id }=beB (ZC c) 1++[]:=by
   unfold Za2
   rw [if_pos (Or.inl h0)]
   rfl
  rw [this,if_neg (by rw [List.length_append,ZaJ];simp)]
  simp only
  rw [ZlI k [] hc.1 hc.2]
  by_cases hx:Za0 k c=true
  ·rw [if_pos hx]
   simp only [List.length_nil,if_true,ZbM,hx,iff_true]
   rfl
  ·rw [if_neg hx]
   constructor
   ·intro h;cases h
   ·intro h;exact absurd h hx
theorem Zu9 (k:Int) (hk:k=14∨k=15):Zc1 { ZF with type:=k,code:=c }↔Za0 k c=true:=by
 have hB:Zaw { ZF with type:=k,code:=c }=Za2 { ZF with type:=k,code:=c }:=by
  have : Zaw { ZF with type:=k,code:=c }=(ZcK { ZF with type:=k,code:=c }).getD []:=by
   rcases hk with rfl | rfl <;> rfl
  rw [this]
  unfold ZcK
  split
  ·rfl
  ·rename_i h
   unfold Za2
   rw [if_neg h];rfl
 have hl:(Zaw { ZF with type:=k,code:=c }).length≤268435455:=by
  rw [hB]
  have:=ZaJ 1 (ZC c)
  unfold Za2
  split
  ·simp only [ZF,ne_eq,not_true,if_false,List.append_nil];omega
  ·simp
 rw [Zk6 (by simp only;omega) (by simp only;rcases hk with rfl | rfl <;> decide) (by simp only;omega) (by simp only;rcases hk with rfl | rfl <;> decide) hl,hB]
 have hb:∀ l,Zcb k l=ZbM (Zdt { ZF with type:=k } l):=fun l=>by
  rcases hk with rfl | rfl <;> rfl
 show Zcb k _=_↔_
 rw [hb]
 unfold Zdt Zcf
 by_cases h0:c=0
 ·subst h0
  have : Za2 { ZF with type:=k,code:=0 }=[]:=by simp [Za2,ZF]
  rw [this]
  simp only [List.length_nil,if_true]
  simp only [ZbM,List.length_nil,if_true]
  constructor
  ·intro _;exact ZrO k (by omega)
  ·intro _;rfl
 ·have : Za2 { ZF with type:=k,code:=c }=beB (ZC c) 1++[]:=by
   unfold Za2
   rw [if_pos (Or.inl h0)]
   rfl
  rw [this,if_neg (by rw [List.length_append,ZaJ];simp)]
  simp only
  rw [ZlI k [] hc.1 hc.2]
  by_cases hx:Za0 k c=true
  ·rw [if_pos hx]
   simp only [List.length_nil,if_true,ZbM,hx,iff_true]
   rfl
  ·rw [if_neg hx]
   constructor
   ·intro h;cases h
   ·intro h;exact absurd h hx
theorem ZHN (p:Zq) (h:p.type=2):Zaw p=Zi1 p:=by
 unfold Zaw ZhI
 rw [if_neg (by omega),if_pos h]
 rfl
theorem ZGu:Zc1 { ZF with type:=2,code:=c }↔Za0 2 c=true:=by
 have hB:Zaw { ZF with type:=2,code:=c }=beB (ZC 0) 1++(beB (ZC c) 1++((ZaF 2 []).1++[])):=by
  rw [ZHN c id hc hi _ rfl,List.append_nil,←List.append_assoc]
  rfl
 have hl:(Zaw { ZF with type:=2,code:=c }).length≤268435455:=by
  rw [hB,(Zo9 2).2,List.length_append,List.length_append,ZaJ,ZaJ];simp
 have hg:=Zk6 (p:={ ZF with type:=2,code:=c }) (show (2:Int)≠3 by decide) (show tyI (ZdU 2)=2 by decide) (show (2:Int)≠0 by decide) (show Zbf (ZdU 2) 15=Zda 2 by decide) hl
 rw [hg,hB]
 generalize hp:({ ZF with type:=2,code:=c }:Zq)=p
 have ht:p.type=2:=by rw [←hp]
 rw [ht]
 have hb:∀ l,Zcb 2 l=ZbM (Ze4 { ZF with type:=2 } l):=fun l=>by
  unfold Zcb
  rw [if_neg (by decide),if_pos rfl]
 rw [hb]
 unfold Ze4
 rw [ZnV _ (by omega) (by omega) (by decide)]
 simp only
 rw [if_pos (by decide),ZlI 2 _ hc.1 hc.2]
 by_cases hx:Za0 2 c=true
 ·rw [if_pos hx]
  simp only
  rw [Zqa]
  simp only [List.length_nil,if_true,ZbM,hx,iff_true]
  rw [←hp]
  rfl
 ·rw [if_neg hx]
  constructor
  ·intro h;cases h
  ·intro h;exact absurd h hx
theorem Zt8 (k:Int) (hk:k=9∨k=11):Zc1 { ZF with type:=k,id:=id,codes:=[c] }↔Za0 k c=true:=by
 have hB:Zaw { ZF with type:=k,id:=id,codes:=[c] }=beB (ZC id) 2++((ZaF k []).1++(beB (ZC c) 1++[])):=by
  have : Zaw { ZF with type:=k,id:=id,codes:=[c] }=(beB (ZC id) 2++(ZaF k []).1)++(beB (ZC c) 1++[]):=by
   rcases hk with rfl | rfl <;> rfl
  rw [this,List.append_assoc]
 have hl:(Zaw { ZF with type:=k,id:=id,codes:=[c] }).length≤268435455:=by
  rw [hB,(Zo9 k).2,List.length_append,List.length_append,List.length_append,ZaJ,ZaJ];simp
 rw [Zk6 (by simp only;omega) (by simp only;rcases hk with rfl | rfl <;> decide) (by simp only;omega) (by simp only;rcases hk with rfl | rfl <;> decide) hl,hB]
 have hb:∀ l,Zcb k l=Ze1 { ZF with type:=k } l:=fun l=>by
  rcases hk with rfl | rfl <;> rfl
 show Zcb k _=_↔_
 rw [hb]
 unfold Ze1 Zbq ZcN
 rw [ZtD _ hi.1 (by omega)]
 simp only
 rw [Zqa]
 simp only
 have hl1:(beB (ZC c) 1++[]:Zb).length=1:=by rw [List.length_append,ZaJ];rfl
 rw [if_neg (by rw [hl1];decide)]
 simp only [hl1]
 rw [show ZaD (Zas k) 1 (beB (ZC c) 1++[])=(if Za0 k c=true then .ok [c] else .error 130) from by
  unfold ZaD
  rw [if_neg (by rw [hl1];decide),ZlI k [] hc.1 hc.2]
  by_cases hx:Za0 k c=true
  ·rw [if_pos hx,if_pos hx];rfl
  ·rw [if_neg hx,if_neg hx]]
 by_cases hx:Za0 k c=true
 ·rw [if_pos hx]
  simp only [hx,iff_true]
  rfl
 ·rw [if_neg hx]
  constructor
  ·intro h;cases h
  ·intro h;exact absurd h hx
end
end Go.Proofs.YtmlkhhidifjjfaaDoor
namespace Go.Proofs.YtmlkhhidifjjfaaDoor
set_option maxHeartbeats 16000000
set_option maxRecDepth 10000
theorem ZHz (n:Int):∃ k:Int,(1≤k∧k≤15)∧E 39 [.int .i64 n,.int .i64 1,.int .i64 15] []=some (.int .i64 k,[]):=by
 rw [Zh (by rfl) ZBG]
 have w1:IntKind.i64.wrap (15 - 1)=14:=by rw [ZbV _ (by omega) (by omega)];rfl
 have w2:IntKind.i64.wrap (14+1)=15:=by rw [ZbV _ (by omega) (by omega)];rfl
 have w3:((15:Int)=0)=False:=by simp
 have hb:n.tmod 15 < 15:=Int.tmod_lt_of_pos _ (by omega)
 have hl:-15 < n.tmod 15:=by
  have h1:=Int.tmod_lt_of_pos (-n) (b:=15) (by omega)
  rw [Int.neg_tmod] at h1
  omega
 by_cases h:n.tmod 15 < 0
 ·have w4:IntKind.i64.wrap (n.tmod 15+15)=n.tmod 15+15:=ZbV _ (by omega) (by omega)
  have w5:IntKind.i64.wrap (1+(n.tmod 15+15))=1+(n.tmod 15+15):=ZbV _ (by omega) (by omega)
  refine ⟨1+(n.tmod 15+15),by omega,?_⟩
  simp -implicitDefEqProofs only [EQA,ZaL,Nat.reduceAdd,Nat.reduceLT,Nat.reduceEqDiff,reduceCtorEq,decide_true,↓reduceIte,Zsb,ZlO,ZuU,oI,w1,w2,w3,h,w4,w5]
 ·have w5:IntKind.i64.wrap (1+n.tmod 15)=1+n.tmod 15:=ZbV _ (by omega) (by omega)
  refine ⟨1+n.tmod 15,by omega,?_⟩
  simp -implicitDefEqProofs only [EQA,ZaL,Nat.reduceAdd,Nat.reduceLT,Nat.reduceEqDiff,reduceCtorEq,decide_false,↓reduceIte,Zsb,ZlO,ZuU,oI,w1,w2,w3,h,w5]
theorem Zus (q:Int) (m:Nat) (hm:m≤65535):0≤Zv q m∧Zv q m≤m:=by
 have h:∀ x:BitVec 64,(x &&& BitVec.ofInt 64 (m:Nat)).toNat≤m:=by
  intro x
  rw [BitVec.toNat_and]
  refine Nat.le_trans Nat.and_le_right ?_
  rw [BitVec.toNat_ofInt]
  omega
 have h2:=h (BitVec.ofInt 64 q)
 unfold Zv
 have h3:IntKind.i64.bits=64:=rfl
 rw [h3,Zb3 (by omega) (by omega)]
 omega
theorem ZeZ {p:Zq} (h1:p.topic=[]) (h2:p.payload=[]) (h3:p.codes.length≤1) (h4:p.props=[]) (h5:p.subs=[]) (h6:p.filters=[]) (h7:p.client=[]) (h8:p.will=⟨[],[],0,false,[]⟩) (h9:p.user=[]) (h10:p.password=[]):OkW p:=by
 refine ⟨?_,?_,?_,⟨?_,?_⟩,⟨?_,?_⟩,⟨?_,?_⟩,?_,?_,?_,⟨?_,?_⟩,?_,?_⟩
 all_goals try simp [h1,h2,h4,h5,h6,h7,h8,h9,h10]
 all_goals omega
theorem ZeY (p:Zq):1 < (Zbh p).length:=by
 have h:0 < (Zai ((Zaw p).length:Nat)).1.length∨(Zai ((Zaw p).length:Nat)).1=[]:=by
  cases h:(Zai ((Zaw p).length:Nat)).1 with
  | nil=>exact Or.inr rfl
  | cons=>exact Or.inl (by simp)
 unfold Zbh ZfR
 rw [List.length_cons,List.length_append]
 rcases h with h | h
 ·omega
 ·by_cases hB:(Zaw p).length≤268435455
  ·unfold Zai at h
   rw [if_neg (by omega)] at h
   have:=Zx9 3 (((Zaw p).length:Nat):Int).toNat
   simp only at h
   rw [h] at this
   simp at this
  ·omega
structure Zel (A:List AVal) (p:Zq) (k c:Int):Prop where
 norm:[AVal.agg A].map ZH=[Z7 p]
 plain:[AVal.agg A].all Z4=true
 good:Zc1 p↔Za0 k c=true
 okw:OkW p
 pay:p.payload=[]
section
variable {A:List AVal} {p:Zq} {k c:Int} (h:Zel A p k c)
include h
theorem Zfc (hx:Za0 k c=true) (σ:Za) (site own:Nat):Zj E1 BY σ site 40 own true [.agg A]=some (.tup [.lst false ((Zbh p).map Zc),.int .i64 0],σ,{}) :=
 ZH1 p h.okw (by rw [h.pay];decide) (h.good.2 hx) _ h.plain h.norm σ site own
theorem Zfi (hx:Za0 k c=false) (σ:Za) (site own:Nat):Zj E1 BY σ site 40 own true [.agg A]=some (.tup [.lst false [],.int .i64 129],σ,{}) :=
 ZFC p h.okw (by rw [h.pay];decide) (fun g=>by rw [h.good.1 g] at hx;cases hx) _ h.plain h.norm σ site own
theorem Ze5 (hx:Za0 k c=true) (σ:Za) (site own:Nat):Zj E1 BY σ site 34 own true [.agg A]=some (.tup [.agg [.int .u8 (Zbc p),.lst false ((Zaw p).map Zc)],.int .i64 0],σ,{}):=by
 have:=Zr1 p h.okw (by rw [h.pay];decide) (h.good.2 hx) _ h.plain h.norm σ site own
 unfold ZiH at this
 rw [this,show Zc (Zhg p)=.int .u8 (Zbc p) from by rw [←Zqs];rfl]
theorem Zfb (hx:Za0 k c=true) (σ:Za) (site own:Nat):Zj E1 BY σ site 32 own true [.agg [.int .u8 (Zbc p),.lst false ((Zaw p).map Zc)]]=some (.tup [.agg (Zt p),.int .i64 0],σ,{}):=by
 have hg:=h.good.2 hx
 have:=Zmm (Zbc p) (Zok p) (Zaw p) (by have:=hg.1;omega) false σ site own
 rw [hg.2] at this
 exact this
theorem Zfd (σ:Za) (site own:Nat):Zj E1 BY σ site 35 own true [.agg A,.agg (Zt p)]=some (.bool true,σ,{}):=by
 have h1:=Zuv p p (ZGy h.okw)
 rw [(ZmM p p).2 rfl] at h1
 refine ZbD (Zbr h1 (by kernel_rfl) ?_ ?_ rfl (fun _=>rfl) σ site own)
 ·have hp:=h.plain
  simp only [List.all_cons,List.all_nil,Bool.and_true] at hp ⊢
  rw [hp,Zdu];rfl
 ·have:=h.norm
  rw [List.map_cons,List.map_nil] at this
  injection this with this _
  rw [List.map_cons,List.map_cons,this,ZdG];rfl
end
theorem ZvQ (a0 b0 i0:Int):E1 9 [.int .i64 a0,.int .i64 b0,.int .i64 i0] []=some (.bool true,[]):=by
 obtain ⟨k,hk,hE⟩:=ZHz a0
 have fW:=fun σ site own=>ZbD (Zcp (byref:=BY) hE (by kernel_rfl) rfl rfl rfl (fun _=>rfl) σ site own true)
 have hc:=Zus b0 255 (by omega)
 have hi:=Zus i0 4095 (by omega)
 have fw:=fun σ site own=>Zye σ site own true
 have fn:=fun σ site own e=>ZbD (ZsL σ site own true e)
 obtain ⟨c,hcE⟩:∃ c,Zv b0 255=c:=⟨_,rfl⟩
 obtain ⟨i,hiE⟩:∃ i,Zv i0 4095=i:=⟨_,rfl⟩
 rw [show (((255:Nat):Int))=255 from rfl,hcE] at hc
 rw [show (((4095:Nat):Int))=4095 from rfl,hiE] at hi
 unfold Zv at hcE hiE
 obtain ⟨id,hid⟩:∃ id,1+i=id:=⟨_,rfl⟩
 have w1:IntKind.i64.wrap (1+i)=id:=by rw [ZbV _ (by omega) (by omega),hid]
 have fC:=fun σ site own=>ZbD (Zhb k c σ site own)
 have hj:1≤id∧id≤4096:=by omega
 have hk15:k=1∨k=2∨k=3∨k=4∨k=5∨k=6∨k=7∨k=8∨k=9∨k=10∨k=11∨k=12∨k=13∨k=14∨k=15:=by omega
 clear hE hk
 rw [Zbp (by rfl) ZEA]
 rcases hk15 with rfl | rfl | rfl | rfl | rfl | rfl | rfl | rfl | rfl | rfl | rfl | rfl | rfl | rfl | rfl
 ·have hx:Za0 1 c=false:=rfl
  simp -implicitDefEqProofs only [EQA,Zag,ZaL,Nat.reduceAdd,Nat.reduceLT,Nat.reduceLeDiff,Nat.reduceEqDiff,Nat.reduceBEq,unA,Zz,unG,Option.some.injEq,reduceCtorEq,decide_false,↓reduceIte,ZbK,Zbz,ZbL,oI,oN,AVal.cells,ZV,ZD,fW,hcE,hiE,w1,fC,fw,hx,Int.reduceBEq]
 ·have hO:Zel [.int .i64 2,.bool false,.int .i64 0,.bool false,.int .i64 0,.str [],.lst true [],.int .i64 c,.lst true [],.lst true [],.lst true [],.lst true [],.bool false,.int .i64 0,.str [],.bool false,.str [],.lst true [],.int .i64 0,.bool false,.lst true [],.bool false,.str [],.bool false,.lst true [],.bool false] { ZF with type:=2,code:=c } 2 c:=⟨rfl,rfl,ZGu c id hc hj,ZeZ rfl rfl (by simp [ZF]) rfl rfl rfl rfl rfl rfl rfl,rfl⟩
  generalize ({ ZF with type:=2,code:=c }:Zq)=p at *
  have hl:(((Zbh p).length:Nat):Int) > 1:=by have:=ZeY p;omega
  have hm:((Zbh p).map Zc).length=(Zbh p).length:=by simp
  have d0:=Zbt p
  have d1:=ZbP p
  have d2:(Zt p).all ZD=true:=rfl
  cases hx:Za0 2 c
  ·have fL:=Zfi hO hx
   simp -implicitDefEqProofs only [EQA,Zag,ZaL,Nat.reduceAdd,Nat.reduceLT,Nat.reduceLeDiff,Nat.reduceEqDiff,Nat.reduceBEq,unA,Zz,unG,ne_eq,Option.some.injEq,reduceCtorEq,decide_false,↓reduceIte,ZbK,Zbz,ZbL,oI,oN,AVal.cells,ZV,ZD,fW,hcE,hiE,w1,fC,fw,fn,hx,fL,z0b,Int.reduceBEq]
  ·have fL:=Zfc hO hx
   have fF:=Ze5 hO hx
   have fR:=Zfb hO hx
   have fS:=Zfd hO
   generalize Zt p=Q at *
   generalize Zbc p=x at *
   generalize (Zaw p).map Zc=B at *
   simp -implicitDefEqProofs only [EQA,Zag,ZaL,Nat.reduceAdd,Nat.reduceLT,Nat.reduceLeDiff,Nat.reduceEqDiff,Nat.reduceBEq,unA,Zz,unG,ne_eq,Option.some.injEq,reduceCtorEq,decide_true,decide_false,↓reduceIte,ZbK,Zbz,ZbL,oI,oN,AVal.cells,ZV,ZD,fW,hcE,hiE,w1,fC,fw,fn,hx,fL,fF,fR,fS,hl,hm,d0,d1,d2,Int.reduceBEq]
 ·have hx:Za0 3 c=false:=rfl
  simp -implicitDefEqProofs only [EQA,Zag,ZaL,Nat.reduceAdd,Nat.reduceLT,Nat.reduceLeDiff,Nat.reduceEqDiff,Nat.reduceBEq,unA,Zz,unG,Option.some.injEq,reduceCtorEq,decide_false,↓reduceIte,ZbK,Zbz,ZbL,oI,oN,AVal.cells,ZV,ZD,fW,hcE,hiE,w1,fC,fw,hx,Int.reduceBEq]
 ·have hO:Zel [.int .i64 4,.bool false,.int .i64 0,.bool false,.int .i64 id,.str [],.lst true [],.int .i64 c,.lst true [],.lst true [],.lst true [],.lst true [],.bool false,.int .i64 0,.str [],.bool false,.str [],.lst true [],.int .i64 0,.bool false,.lst true [],.bool false,.str [],.bool false,.lst true [],.bool false] { ZF with type:=4,code:=c,id:=id } 4 c:=⟨rfl,rfl,Zju c id hc hj 4 (by decide),ZeZ rfl rfl (by simp [ZF]) rfl rfl rfl rfl rfl rfl rfl,rfl⟩
  generalize ({ ZF with type:=4,code:=c,id:=id }:Zq)=p at *
  have hl:(((Zbh p).length:Nat):Int) > 1:=by have:=ZeY p;omega
  have hm:((Zbh p).map Zc).length=(Zbh p).length:=by simp
  have d0:=Zbt p
  have d1:=ZbP p
  have d2:(Zt p).all ZD=true:=rfl
  cases hx:Za0 4 c
  ·have fL:=Zfi hO hx
   simp -implicitDefEqProofs only [EQA,Zag,ZaL,Nat.reduceAdd,Nat.reduceLT,Nat.reduceLeDiff,Nat.reduceEqDiff,Nat.reduceBEq,unA,Zz,unG,ne_eq,Option.some.injEq,reduceCtorEq,decide_false,↓reduceIte,ZbK,Zbz,ZbL,oI,oN,AVal.cells,ZV,ZD,fW,hcE,hiE,w1,fC,fw,fn,hx,fL,z0b]
  ·have fL:=Zfc hO hx
   have fF:=Ze5 hO hx
   have fR:=Zfb hO hx
   have fS:=Zfd hO
   generalize Zt p=Q at *
   generalize Zbc p=x at *
   generalize (Zaw p).map Zc=B at *
   simp -implicitDefEqProofs only [EQA,Zag,ZaL,Nat.reduceAdd,Nat.reduceLT,Nat.reduceLeDiff,Nat.reduceEqDiff,Nat.reduceBEq,unA,Zz,unG,ne_eq,Option.some.injEq,reduceCtorEq,decide_true,decide_false,↓reduceIte,ZbK,Zbz,ZbL,oI,oN,AVal.cells,ZV,ZD,fW,hcE,hiE,w1,fC,fw,fn,hx,fL,fF,fR,fS,hl,hm,d0,d1,d2]
 ·have hO:Zel [.int .i64 5,.bool false,.int .i64 0,.bool false,.int .i64 id,.str [],.lst true [],.int .i64 c,.lst true [],.lst true [],.lst true [],.lst true [],.bool false,.int .i64 0,.str [],.bool false,.str [],.lst true [],.int .i64 0,.bool false,.lst true [],.bool false,.str [],.bool false,.lst true [],.bool false] { ZF with type:=5,code:=c,id:=id } 5 c:=⟨rfl,rfl,Zju c id hc hj 5 (by decide),ZeZ rfl rfl (by simp [ZF]) rfl rfl rfl rfl rfl rfl rfl,rfl⟩
  generalize ({ ZF with type:=5,code:=c,id:=id }:Zq)=p at *
  have hl:(((Zbh p).length:Nat):Int) > 1:=by have:=ZeY p;omega
  have hm:((Zbh p).map Zc).length=(Zbh p).length:=by simp
  have d0:=Zbt p
  have d1:=ZbP p
  have d2:(Zt p).all ZD=true:=rfl
  cases hx:Za0 5 c
  ·have fL:=Zfi hO hx
   simp -implicitDefEqProofs only [EQA,Zag,ZaL,Nat.reduceAdd,Nat.reduceLT,Nat.reduceLeDiff,Nat.reduceEqDiff,Nat.reduceBEq,unA,Zz,unG,ne_eq,Option.some.injEq,reduceCtorEq,decide_false,↓reduceIte,ZbK,Zbz,ZbL,oI,oN,AVal.cells,ZV,ZD,fW,hcE,hiE,w1,fC,fw,fn,hx,fL,z0b,Int.reduceBEq]
  ·have fL:=Zfc hO hx
   have fF:=Ze5 hO hx
   have fR:=Zfb hO hx
   have fS:=Zfd hO
   generalize Zt p=Q at *
   generalize Zbc p=x at *
   generalize (Zaw p).map Zc=B at *
   simp -implicitDefEqProofs only [EQA,Zag,ZaL,Nat.reduceAdd,Nat.reduceLT,Nat.reduceLeDiff,Nat.reduceEqDiff,Nat.reduceBEq,unA,Zz,unG,ne_eq,Option.some.injEq,reduceCtorEq,decide_true,decide_false,↓reduceIte,ZbK,Zbz,ZbL,oI,oN,AVal.cells,ZV,ZD,fW,hcE,hiE,w1,fC,fw,fn,hx,fL,fF,fR,fS,hl,hm,d0,d1,d2,Int.reduceBEq]
 ·have hO:Zel [.int .i64 6,.bool false,.int .i64 0,.bool false,.int .i64 id,.str [],.lst true [],.int .i64 c,.lst true [],.lst true [],.lst true [],.lst true [],.bool false,.int .i64 0,.str [],.bool false,.str [],.lst true [],.int .i64 0,.bool false,.lst true [],.bool false,.str [],.bool false,.lst true [],.bool false] { ZF with type:=6,code:=c,id:=id } 6 c:=⟨rfl,rfl,Zju c id hc hj 6 (by decide),ZeZ rfl rfl (by simp [ZF]) rfl rfl rfl rfl rfl rfl rfl,rfl⟩
  generalize ({ ZF with type:=6,code:=c,id:=id }:Zq)=p at *
  have hl:(((Zbh p).length:Nat):Int) > 1:=by have:=ZeY p;omega
  have hm:((Zbh p).map Zc).length=(Zbh p).length:=by simp
  have d0:=Zbt p
  have d1:=ZbP p
  have d2:(Zt p).all ZD=true:=rfl
  cases hx:Za0 6 c
  ·have fL:=Zfi hO hx
   simp -implicitDefEqProofs only [EQA,Zag,ZaL,Nat.reduceAdd,Nat.reduceLT,Nat.reduceLeDiff,Nat.reduceEqDiff,Nat.reduceBEq,unA,Zz,unG,ne_eq,Option.some.injEq,reduceCtorEq,decide_false,↓reduceIte,ZbK,Zbz,ZbL,oI,oN,AVal.cells,ZV,ZD,fW,hcE,hiE,w1,fC,fw,fn,hx,fL,z0b,Int.reduceBEq]
  ·have fL:=Zfc hO hx
   have fF:=Ze5 hO hx
   have fR:=Zfb hO hx
   have fS:=Zfd hO
   generalize Zt p=Q at *
   generalize Zbc p=x at *
   generalize (Zaw p).map Zc=B at *
   simp -implicitDefEqProofs only [EQA,Zag,ZaL,Nat.reduceAdd,Nat.reduceLT,Nat.reduceLeDiff,Nat.reduceEqDiff,Nat.reduceBEq,unA,Zz,unG,ne_eq,Option.some.injEq,reduceCtorEq,decide_true,decide_false,↓reduceIte,ZbK,Zbz,ZbL,oI,oN,AVal.cells,ZV,ZD,fW,hcE,hiE,w1,fC,fw,fn,hx,fL,fF,fR,fS,hl,hm,d0,d1,d2,Int.reduceBEq]
 ·have hO:Zel [.int .i64 7,.bool false,.int .i64 0,.bool false,.int .i64 id,.str [],.lst true [],.int .i64 c,.lst true [],.lst true [],.lst true [],.lst true [],.bool false,.int .i64 0,.str [],.bool false,.str [],.lst true [],.int .i64 0,.bool false,.lst true [],.bool false,.str [],.bool false,.lst true [],.bool false] { ZF with type:=7,code:=c,id:=id } 7 c:=⟨rfl,rfl,Zju c id hc hj 7 (by decide),ZeZ rfl rfl (by simp [ZF]) rfl rfl rfl rfl rfl rfl rfl,rfl⟩
  generalize ({ ZF with type:=7,code:=c,id:=id }:Zq)=p at *
  have hl:(((Zbh p).length:Nat):Int) > 1:=by have:=ZeY p;omega
  have hm:((Zbh p).map Zc).length=(Zbh p).length:=by simp
  have d0:=Zbt p
  have d1:=ZbP p
  have d2:(Zt p).all ZD=true:=rfl
  cases hx:Za0 7 c
  ·have fL:=Zfi hO hx
   simp -implicitDefEqProofs only [EQA,Zag,ZaL,Nat.reduceAdd,Nat.reduceLT,Nat.reduceLeDiff,Nat.reduceEqDiff,Nat.reduceBEq,unA,Zz,unG,ne_eq,Option.some.injEq,reduceCtorEq,decide_false,↓reduceIte,ZbK,Zbz,ZbL,oI,oN,AVal.cells,ZV,ZD,fW,hcE,hiE,w1,fC,fw,fn,hx,fL,z0b,Int.reduceBEq]
  ·have fL:=Zfc hO hx
   have fF:=Ze5 hO hx
   have fR:=Zfb hO hx
   have fS:=Zfd hO
   generalize Zt p=Q at *
   generalize Zbc p=x at *
   generalize (Zaw p).map Zc=B at *
   simp -implicitDefEqProofs only [EQA,Zag,ZaL,Nat.reduceAdd,Nat.reduceLT,Nat.reduceLeDiff,Nat.reduceEqDiff,Nat.reduceBEq,unA,Zz,unG,ne_eq,Option.some.injEq,reduceCtorEq,decide_true,decide_false,↓reduceIte,ZbK,Zbz,ZbL,oI,oN,AVal.cells,ZV,ZD,fW,hcE,hiE,w1,fC,fw,fn,hx,fL,fF,fR,fS,hl,hm,d0,d1,d2,Int.reduceBEq]
 ·have hx:Za0 8 c=false:=rfl
  simp -implicitDefEqProofs only [EQA,Zag,ZaL,Nat.reduceAdd,Nat.reduceLT,Nat.reduceLeDiff,Nat.reduceEqDiff,Nat.reduceBEq,unA,Zz,unG,Option.some.injEq,reduceCtorEq,decide_false,↓reduceIte,ZbK,Zbz,ZbL,oI,oN,AVal.cells,ZV,ZD,fW,hcE,hiE,w1,fC,fw,hx,Int.reduceBEq]
 ·have hO:Zel [.int .i64 9,.bool false,.int .i64 0,.bool false,.int .i64 id,.str [],.lst true [],.int .i64 0,.lst true [.int .i64 c],.lst true [],.lst true [],.lst true [],.bool false,.int .i64 0,.str [],.bool false,.str [],.lst true [],.int .i64 0,.bool false,.lst true [],.bool false,.str [],.bool false,.lst true [],.bool false] { ZF with type:=9,id:=id,codes:=[c] } 9 c:=⟨rfl,rfl,Zt8 c id hc hj 9 (by decide),ZeZ rfl rfl (by simp []) rfl rfl rfl rfl rfl rfl rfl,rfl⟩
  generalize ({ ZF with type:=9,id:=id,codes:=[c] }:Zq)=p at *
  have hl:(((Zbh p).length:Nat):Int) > 1:=by have:=ZeY p;omega
  have hm:((Zbh p).map Zc).length=(Zbh p).length:=by simp
  have d0:=Zbt p
  have d1:=ZbP p
  have d2:(Zt p).all ZD=true:=rfl
  cases hx:Za0 9 c
  ·have fL:=Zfi hO hx
   simp -implicitDefEqProofs only [EQA,Zag,ZaL,Nat.reduceAdd,Nat.reduceLT,Nat.reduceLeDiff,Nat.reduceEqDiff,Nat.reduceBEq,unA,Zz,unG,ne_eq,Option.some.injEq,reduceCtorEq,decide_true,decide_false,↓reduceIte,ZbK,Zbz,ZbL,oI,oN,AVal.cells,ZV,ZD,fW,hcE,hiE,w1,fC,fw,fn,hx,fL,z0b,Int.reduceBEq,viewAs,ZN,ZL,Zn,List.foldl_cons,List.foldl_nil]
  ·have fL:=Zfc hO hx
   have fF:=Ze5 hO hx
   have fR:=Zfb hO hx
   have fS:=Zfd hO
   generalize Zt p=Q at *
   generalize Zbc p=x at *
   generalize (Zaw p).map Zc=B at *
   simp -implicitDefEqProofs only [EQA,Zag,ZaL,Nat.reduceAdd,Nat.reduceLT,Nat.reduceLeDiff,Nat.reduceEqDiff,Nat.reduceBEq,unA,Zz,unG,ne_eq,Option.some.injEq,reduceCtorEq,decide_true,decide_false,↓reduceIte,ZbK,Zbz,ZbL,oI,oN,AVal.cells,ZV,ZD,fW,hcE,hiE,w1,fC,fw,fn,hx,fL,fF,fR,fS,hl,hm,d0,d1,d2,Int.reduceBEq,viewAs,ZN,ZL,Zn,List.foldl_cons,List.foldl_nil]
 ·have hx:Za0 10 c=false:=rfl
  simp -implicitDefEqProofs only [EQA,Zag,ZaL,Nat.reduceAdd,Nat.reduceLT,Nat.reduceLeDiff,Nat.reduceEqDiff,Nat.reduceBEq,unA,Zz,unG,Option.some.injEq,reduceCtorEq,decide_false,↓reduceIte,ZbK,Zbz,ZbL,oI,oN,AVal.cells,ZV,ZD,fW,hcE,hiE,w1,fC,fw,hx,Int.reduceBEq]
 ·have hO:Zel [.int .i64 11,.bool false,.int .i64 0,.bool false,.int .i64 id,.str [],.lst true [],.int .i64 0,.lst true [.int .i64 c],.lst true [],.lst true [],.lst true [],.bool false,.int .i64 0,.str [],.bool false,.str [],.lst true [],.int .i64 0,.bool false,.lst true [],.bool false,.str [],.bool false,.lst true [],.bool false] { ZF with type:=11,id:=id,codes:=[c] } 11 c:=⟨rfl,rfl,Zt8 c id hc hj 11 (by decide),ZeZ rfl rfl (by simp []) rfl rfl rfl rfl rfl rfl rfl,rfl⟩
  generalize ({ ZF with type:=11,id:=id,codes:=[c] }:Zq)=p at *
  have hl:(((Zbh p).length:Nat):Int) > 1:=by have:=ZeY p;omega
  have hm:((Zbh p).map Zc).length=(Zbh p).length:=by simp
  have d0:=Zbt p
  have d1:=ZbP p
  have d2:(Zt p).all ZD=true:=rfl
  cases hx:Za0 11 c
  ·have fL:=Zfi hO hx
   simp -implicitDefEqProofs only [EQA,Zag,ZaL,Nat.reduceAdd,Nat.reduceLT,Nat.reduceLeDiff,Nat.reduceEqDiff,Nat.reduceBEq,unA,Zz,unG,ne_eq,Option.some.injEq,reduceCtorEq,decide_true,decide_false,↓reduceIte,ZbK,Zbz,ZbL,oI,oN,AVal.cells,ZV,ZD,fW,hcE,hiE,w1,fC,fw,fn,hx,fL,z0b,Int.reduceBEq,viewAs,ZN,ZL,Zn,List.foldl_cons,List.foldl_nil]
  ·have fL:=Zfc hO hx
   have fF:=Ze5 hO hx
   have fR:=Zfb hO hx
   have fS:=Zfd hO
   generalize Zt p=Q at *
   generalize Zbc p=x at *
   generalize (Zaw p).map Zc=B at *
   simp -implicitDefEqProofs only [EQA,Zag,ZaL,Nat.reduceAdd,Nat.reduceLT,Nat.reduceLeDiff,Nat.reduceEqDiff,Nat.reduceBEq,unA,Zz,unG,ne_eq,Option.some.injEq,reduceCtorEq,decide_true,decide_false,↓reduceIte,ZbK,Zbz,ZbL,oI,oN,AVal.cells,ZV,ZD,fW,hcE,hiE,w1,fC,fw,fn,hx,fL,fF,fR,fS,hl,hm,d0,d1,d2,Int.reduceBEq,viewAs,ZN,ZL,Zn,List.foldl_cons,List.foldl_nil]
 ·have hx:Za0 12 c=false:=rfl
  simp -implicitDefEqProofs only [EQA,Zag,ZaL,Nat.reduceAdd,Nat.reduceLT,Nat.reduceLeDiff,Nat.reduceEqDiff,Nat.reduceBEq,unA,Zz,unG,Option.some.injEq,reduceCtorEq,decide_false,↓reduceIte,ZbK,Zbz,ZbL,oI,oN,AVal.cells,ZV,ZD,fW,hcE,hiE,w1,fC,fw,hx,Int.reduceBEq]
 ·have hx:Za0 13 c=false:=rfl
  simp -implicitDefEqProofs only [EQA,Zag,ZaL,Nat.reduceAdd,Nat.reduceLT,Nat.reduceLeDiff,Nat.reduceEqDiff,Nat.reduceBEq,unA,Zz,unG,Option.some.injEq,reduceCtorEq,decide_false,↓reduceIte,ZbK,Zbz,ZbL,oI,oN,AVal.cells,ZV,ZD,fW,hcE,hiE,w1,fC,fw,hx,Int.reduceBEq]
 ·have hO:Zel [.int .i64 14,.bool false,.int .i64 0,.bool false,.int .i64 0,.str [],.lst true [],.int .i64 c,.lst true [],.lst true [],.lst true [],.lst true [],.bool false,.int .i64 0,.str [],.bool false,.str [],.lst true [],.int .i64 0,.bool false,.lst true [],.bool false,.str [],.bool false,.lst true [],.bool false] { ZF with type:=14,code:=c } 14 c:=⟨rfl,rfl,Zu9 c id hc hj 14 (by decide),ZeZ rfl rfl (by simp [ZF]) rfl rfl rfl rfl rfl rfl rfl,rfl⟩
  generalize ({ ZF with type:=14,code:=c }:Zq)=p at *
  have hl:(((Zbh p).length:Nat):Int) > 1:=by have:=ZeY p;omega
  have hm:((Zbh p).map Zc).length=(Zbh p).length:=by simp
  have d0:=Zbt p
  have d1:=ZbP p
  have d2:(Zt p).all ZD=true:=rfl
  cases hx:Za0 14 c
  ·have fL:=Zfi hO hx
   simp -implicitDefEqProofs only [EQA,Zag,ZaL,Nat.reduceAdd,Nat.reduceLT,Nat.reduceLeDiff,Nat.reduceEqDiff,Nat.reduceBEq,unA,Zz,unG,ne_eq,Option.some.injEq,reduceCtorEq,decide_false,↓reduceIte,ZbK,Zbz,ZbL,oI,oN,AVal.cells,ZV,ZD,fW,hcE,hiE,w1,fC,fw,fn,hx,fL,z0b,Int.reduceBEq]
  ·have fL:=Zfc hO hx
   have fF:=Ze5 hO hx
   have fR:=Zfb hO hx
   have fS:=Zfd hO
   generalize Zt p=Q at *
   generalize Zbc p=x at *
   generalize (Zaw p).map Zc=B at *
   simp -implicitDefEqProofs only [EQA,Zag,ZaL,Nat.reduceAdd,Nat.reduceLT,Nat.reduceLeDiff,Nat.reduceEqDiff,Nat.reduceBEq,unA,Zz,unG,ne_eq,Option.some.injEq,reduceCtorEq,decide_true,decide_false,↓reduceIte,ZbK,Zbz,ZbL,oI,oN,AVal.cells,ZV,ZD,fW,hcE,hiE,w1,fC,fw,fn,hx,fL,fF,fR,fS,hl,hm,d0,d1,d2,Int.reduceBEq]
 ·have hO:Zel [.int .i64 15,.bool false,.int .i64 0,.bool false,.int .i64 0,.str [],.lst true [],.int .i64 c,.lst true [],.lst true [],.lst true [],.lst true [],.bool false,.int .i64 0,.str [],.bool false,.str [],.lst true [],.int .i64 0,.bool false,.lst true [],.bool false,.str [],.bool false,.lst true [],.bool false] { ZF with type:=15,code:=c } 15 c:=⟨rfl,rfl,Zu9 c id hc hj 15 (by decide),ZeZ rfl rfl (by simp [ZF]) rfl rfl rfl rfl rfl rfl rfl,rfl⟩
  generalize ({ ZF with type:=15,code:=c }:Zq)=p at *
  have hl:(((Zbh p).length:Nat):Int) > 1:=by have:=ZeY p;omega
  have hm:((Zbh p).map Zc).length=(Zbh p).length:=by simp
  have d0:=Zbt p
  have d1:=ZbP p
  have d2:(Zt p).all ZD=true:=rfl
  cases hx:Za0 15 c
  ·have fL:=Zfi hO hx
   simp -implicitDefEqProofs only [EQA,Zag,ZaL,Nat.reduceAdd,Nat.reduceLT,Nat.reduceLeDiff,Nat.reduceEqDiff,Nat.reduceBEq,unA,Zz,unG,ne_eq,Option.some.injEq,reduceCtorEq,decide_false,↓reduceIte,ZbK,Zbz,ZbL,oI,oN,AVal.cells,ZV,ZD,fW,hcE,hiE,w1,fC,fw,fn,hx,fL,z0b,Int.reduceBEq]
  ·have fL:=Zfc hO hx
   have fF:=Ze5 hO hx
   have fR:=Zfb hO hx
   have fS:=Zfd hO
   generalize Zt p=Q at *
   generalize Zbc p=x at *
   generalize (Zaw p).map Zc=B at *
   simp -implicitDefEqProofs only [EQA,Zag,ZaL,Nat.reduceAdd,Nat.reduceLT,Nat.reduceLeDiff,Nat.reduceEqDiff,Nat.reduceBEq,unA,Zz,unG,ne_eq,Option.some.injEq,reduceCtorEq,decide_true,decide_false,↓reduceIte,ZbK,Zbz,ZbL,oI,oN,AVal.cells,ZV,ZD,fW,hcE,hiE,w1,fC,fw,fn,hx,fL,fF,fR,fS,hl,hm,d0,d1,d2,Int.reduceBEq]
end Go.Proofs.YtmlkhhidifjjfaaDoor
namespace Go.Proofs.YtmlkhhidifjjfaaDoor
open Go.Shelf Go.RowKit
section
variable {P:Program} {ρ:Ren}
theorem Zlk (W:World) (dT sT ty elem:TypeId) (g o dLen dCap:Nat) (A:Option Addr) (sLen sCap:Nat) (cur:Array Value) (t:TypeId) (cs:List Value)
  (hu:P.underlying dT=some (.slice elem)) (hs:(P.info? elem).map (·.size)=some 1) (hg:W.heap[g]?=some (.cells cur t (0,0))) (hn:cs.length=sLen) (hd:sLen≤dLen)
  (hsrc:sLen=0∨∃ a,A=some a∧∀ j v,cs[j]?=some v→W.cell? (a.add j)=some v) (hfit:o+cs.length≤cur.size) (h1:∀ v ∈ cs,v.oneCell'=true) :
  ∃ W2 Y,(Builtin.copy_ #[dT,sT] ty #[.slice (some ⟨g,o,none⟩) dLen dCap,.slice A sLen sCap]).run P W=.ok (goInt sLen) W2∧W2.heap[g]?=some (.cells Y t (0,0)) ∧
   Y.toList=cur.toList.take o++cs++cur.toList.drop (o+sLen)∧W.grownBy W2 (some g)∧W2.heap.size=W.heap.size:=by
 rcases hsrc with h0 | ⟨a,rfl,hsrc⟩
 ·have hc:cs=[]:=List.eq_nil_of_length_eq_zero (by omega)
  subst hc
  subst h0
  exact ⟨W,cur,run_copy_none W dT sT ty elem _ _ _ _ _ _ hu hs (by simp),hg,by simp,⟨rfl,rfl,rfl,Nat.le_refl _,fun _ _ _=>rfl⟩,rfl⟩
 ·have h:=run_copy_row (P:=P) W dT sT ty elem g o dLen dCap a sLen sCap cur t cs hu hs hg (by rw [hn];exact (Nat.min_eq_left hd).symm) hsrc hfit h1
  rw [hn] at h
  refine ⟨_,_,h,setRow_heap _ _ _ _ _ _ hg,by simp,⟨rfl,rfl,rfl,by simp,fun k _ hk=>setRow_other _ _ _ _ (fun e=>hk (by rw [e]))⟩,by simp⟩
set_option maxHeartbeats 6400000 in
set_option maxRecDepth 100000 in
theorem ZpS (L:LaysM.n290 P ρ) (A:Option Addr) (l c n:Nat) (olds:List Value) (w:World) (ho:olds.length=l) (hlc:l≤c) (hn:1≤n)
  (hlim:l+n≤140737488355328) (hc2:c≤140737488355328) (hsrc:l=0∨∃ a,A=some a∧∀ j v,olds[j]?=some v→w.cell? (a.add j)=some v) (h1:∀ v ∈ olds,v.oneCell'=true) :
  Calls P (ρ.f 290) #[.slice A l c,.int .i64 n] w fun e w'=>∃ cap2 cells,e=.returned (.slice (some ⟨w.heap.size,0,none⟩) l cap2)∧w'.heap[w.heap.size]?=some (.cells cells (ρ.t 5) (0,0)) ∧
   cells.size=cap2∧cells.toList.take l=olds∧l+n≤cap2∧cap2≤maxLen∧Below w.heap.size w w':=by
 have mixed:=L.mixed
 have t5:=L.t5;have a5:=L.a5;have z5:=L.z5;have v5:=L.v5
 have t37:=L.t37;have a37:=L.a37;have z37:=L.z37;have v37:=L.v37
 have t3:=L.t3;have a3:=L.a3;have z3:=L.z3;have v3:=L.v3
 have t0:=L.t0;have a0:=L.a0;have z0:=L.z0;have v0:=L.v0
 have t4:=L.t4;have a4:=L.a4;have z4:=L.z4;have v4:=L.v4
 obtain ⟨i0,hi,hz0,hz1,hz2⟩:=info_parts L.i5
 have hsz1:(P.info? (ρ.t 5)).map (·.size)=some 1:=by rw [hi];simp [hz1]
 by_cases hC:l+n < 2*c
 ·have happ:=Lib.run_append_nil_zeros (P:=P) w (ρ.t 37) (ρ.t 3) (ρ.t 37) (ρ.t 5) i0 (.int .u8 0) .i64 .i64 L.t37 L.t3 hi hz0 (2*c) (by omega) (by omega) (by omega) (by rw [hz2];omega)
  rw [show (((2*c:Nat)):Int)=2*(c:Int) by omega] at happ
  generalize hcap:grownCap w (2*c) 0 (ρ.t 5)=cap2 at happ
  have hcapge:2*c≤cap2:=by rw [←hcap];exact grownCap_ge w _ 0 (ρ.t 5)
  have hcaple:cap2≤maxLen:=by rw [←hcap];exact grownCap_le_maxLen w _ 0 (ρ.t 5) (by unfold maxLen;omega)
  generalize hZ:(Builtin.zeroCells (Value.int .u8 0).cells (2*c)++Builtin.zeroCells (Value.int .u8 0).cells (cap2 - (2*c)))=Z at happ
  have hZs:Z.size=cap2:=by rw [←hZ];simp [size_zeroCells,Value.cells];omega
  clear hcap hZ
  have hsrc1:l=0∨∃ a,A=some a∧∀ j v,olds[j]?=some v→(w.alloc (.cells Z (ρ.t 5))).drew.cell? (a.add j)=some v:=hsrc.imp id fun ⟨a,e,h⟩=>⟨a,e,fun j v hj=>(World.cell?_of_block (a:=a.add j) (Below.heap_alloc w _ _ (World.block_lt_of_cell? w _ (h j v hj)))).trans (h j v hj)⟩
  obtain ⟨W2,Y,hcopy,hY,hYl,hgb,hsz⟩:=Zlk (P:=P) (w.alloc (.cells Z (ρ.t 5))).drew (ρ.t 37) (ρ.t 37) (ρ.t 3) (ρ.t 5) w.heap.size 0 (2*c) cap2 A l c Z (ρ.t 5) olds L.t37 hsz1 (heap_alloc_new w _) ho (by omega) hsrc1 (by omega) h1
  go_enter_defers L.f290,Body.n290_ntmps ρ
  go_wp2_with (at_builtin;refine Lib.wpList_append_run _ rfl _ _ _ _ rfl _ _ rfl rfl _ _ happ ?_)
  refine leaves_cons (f:=(ρ.f 324)) (args:=#[]) (by simp) (enters_of L.f324 (by kernel_rfl) rfl _ _) ?_
  refine (Any.growSlice_catch_idle { L with } _).mono ?_
  rintro e u' w'' ⟨rfl,rfl,rfl⟩
  refine ⟨_,results_tmp rfl _ _ _,?_⟩
  refine ⟨cap2,Y,rfl,hY,?_,?_,by omega,hcaple,?_⟩
  ·have h3:=congrArg List.length hYl
   simp only [List.length_append,List.length_drop,List.take_zero,List.length_nil,Array.length_toList] at h3
   omega
  ·rw [hYl,List.take_zero,List.nil_append,List.take_append_of_le_length (by omega),List.take_of_length_le (by omega)]
  ·have hs1:(w.alloc (.cells Z (ρ.t 5))).drew.heap.size=w.heap.size+1:=by show (w.alloc (.cells Z (ρ.t 5))).heap.size=_;simp
   exact ⟨hgb.os,hgb.tape,hgb.output,by omega,fun k hk=>(hgb.block k (by omega) (fun e=>by injection e with e;omega)).trans (Below.heap_alloc w _ k hk)⟩
 ·have happ:=Lib.run_append_nil_zeros (P:=P) w (ρ.t 37) (ρ.t 3) (ρ.t 37) (ρ.t 5) i0 (.int .u8 0) .i64 .i64 L.t37 L.t3 hi hz0 (l+n) (by omega) (by omega) (by omega) (by rw [hz2];omega)
  rw [show (((l+n:Nat)):Int)=(l:Int)+(n:Int) by omega] at happ
  generalize hcap:grownCap w (l+n) 0 (ρ.t 5)=cap2 at happ
  have hcapge:l+n≤cap2:=by rw [←hcap];exact grownCap_ge w _ 0 (ρ.t 5)
  have hcaple:cap2≤maxLen:=by rw [←hcap];exact grownCap_le_maxLen w _ 0 (ρ.t 5) (by unfold maxLen;omega)
  generalize hZ:(Builtin.zeroCells (Value.int .u8 0).cells (l+n)++Builtin.zeroCells (Value.int .u8 0).cells (cap2 - (l+n)))=Z at happ
  have hZs:Z.size=cap2:=by rw [←hZ];simp [size_zeroCells,Value.cells];omega
  clear hcap hZ
  have hsrc1:l=0∨∃ a,A=some a∧∀ j v,olds[j]?=some v→(w.alloc (.cells Z (ρ.t 5))).drew.cell? (a.add j)=some v:=hsrc.imp id fun ⟨a,e,h⟩=>⟨a,e,fun j v hj=>(World.cell?_of_block (a:=a.add j) (Below.heap_alloc w _ _ (World.block_lt_of_cell? w _ (h j v hj)))).trans (h j v hj)⟩
  obtain ⟨W2,Y,hcopy,hY,hYl,hgb,hsz⟩:=Zlk (P:=P) (w.alloc (.cells Z (ρ.t 5))).drew (ρ.t 37) (ρ.t 37) (ρ.t 3) (ρ.t 5) w.heap.size 0 (l+n) cap2 A l c Z (ρ.t 5) olds L.t37 hsz1 (heap_alloc_new w _) ho (by omega) hsrc1 (by omega) h1
  go_enter_defers L.f290,Body.n290_ntmps ρ
  go_wp2_with (at_builtin;refine Lib.wpList_append_run _ rfl _ _ _ _ rfl _ _ rfl rfl _ _ happ ?_)
  refine leaves_cons (f:=(ρ.f 324)) (args:=#[]) (by simp) (enters_of L.f324 (by kernel_rfl) rfl _ _) ?_
  refine (Any.growSlice_catch_idle { L with } _).mono ?_
  rintro e u' w'' ⟨rfl,rfl,rfl⟩
  refine ⟨_,results_tmp rfl _ _ _,?_⟩
  refine ⟨cap2,Y,rfl,hY,?_,?_,by omega,hcaple,?_⟩
  ·have h3:=congrArg List.length hYl
   simp only [List.length_append,List.length_drop,List.take_zero,List.length_nil,Array.length_toList] at h3
   omega
  ·rw [hYl,List.take_zero,List.nil_append,List.take_append_of_le_length (by omega),List.take_of_length_le (by omega)]
  ·have hs1:(w.alloc (.cells Z (ρ.t 5))).drew.heap.size=w.heap.size+1:=by show (w.alloc (.cells Z (ρ.t 5))).heap.size=_;simp
   exact ⟨hgb.os,hgb.tape,hgb.output,by omega,fun k hk=>(hgb.block k (by omega) (fun e=>by injection e with e;omega)).trans (Below.heap_alloc w _ k hk)⟩
set_option maxHeartbeats 2000000 in
set_option maxRecDepth 100000 in
theorem Zjw (L:LaysM.n181 P ρ) (b:Nat) (ao:Option Addr) (l cap:Nat) (w:World) (c0:w.cell? ⟨b,0,none⟩=some (.slice ao l cap)) (c1:w.cell? ⟨b,1,none⟩=some (.int .i64 0)) (hmax:l≤maxLen) :
  Calls P (ρ.f 181) #[.pointer (some ⟨b,0,none⟩)] w fun e w'=>e=.returned (.int .i64 l)∧∃ n,w'=w.drewN n:=by
 have mixed:=L.mixed
 have t5:=L.t5;have a5:=L.a5;have z5:=L.z5;have v5:=L.v5
 have t130:=L.t130;have a130:=L.a130;have z130:=L.z130;have v130:=L.v130
 have t3:=L.t3;have a3:=L.a3;have z3:=L.z3;have v3:=L.v3
 have t0:=L.t0;have a0:=L.a0;have z0:=L.z0;have v0:=L.v0
 have t93:=L.t93;have u93:=run_underlying L.t93;have a93:=L.a93;have z93:=L.z93;have v93:=L.v93
 have t37:=L.t37;have a37:=L.a37;have z37:=L.z37;have v37:=L.v37
 unfold maxLen at hmax
 go_enter L.f181,Body.n181_ntmps ρ
 go_wp2
 go_region_o
 all_goals (go_wp2;go_ret;exact ⟨by simp,1,rfl⟩)
def Ziw (w:World) (T:TypeId) (R:Nat→Option Value) (b l n:Nat) (olds:List Value) (lr:Int) (e:TypeId) (w':World):Prop :=
 ∃ cap2 cells,LibA.Three w' b 0 T R (.slice (some ⟨w.heap.size,0,none⟩) (l+n) cap2) (.int .i64 0) (.int .i8 lr)∧w'.heap[w.heap.size]?=some (.cells cells e (0,0)) ∧
  cells.size=cap2∧cells.toList.take l=olds∧l+n≤cap2∧cap2≤maxLen∧w.grownBy w' (some b)
theorem Zm3 {w:World} {b:Nat} {T:TypeId} {R:Nat→Option Value} {x y z:Value} (h:LibA.Three w b 0 T R x y z) (v1 s:Value) :
  LibA.Three (((w.setCell ⟨b,0,none⟩ v1).setCell ⟨b,1,none⟩ (.int .i64 0)).setCell ⟨b,0,none⟩ s) b 0 T R s (.int .i64 0) z:=((h.set0 v1).set1 (.int .i64 0)).set0 s
end
end Go.Proofs.YtmlkhhidifjjfaaDoor
namespace Go.Proofs.YtmlkhhidifjjfaaDoor
open Go.Shelf Go.RowKit
section
variable {P:Program} {ρ:Ren}
set_option maxHeartbeats 12800000 in
set_option maxRecDepth 100000 in
theorem ZHm (L:LaysM.n252 P ρ) (T:TypeId) (R:Nat→Option Value) (b:Nat)  (n:Nat) (lr:Int) (w:World)
  (hbk:LibA.Three w b 0 T R (.slice none 0 0) (.int .i64 0) (.int .i8 lr)) (hn:1≤n) (h64:n≤64) :
  Calls P (ρ.f 252) #[.pointer (some ⟨b,0,none⟩),.int .i64 n] w fun e w'=>e=.returned (.int .i64 0)∧Ziw w T R b 0 n [] lr (ρ.t 5) w':=by
 have mixed:=L.mixed
 have t5:=L.t5;have a5:=L.a5;have z5:=L.z5;have v5:=L.v5
 have t130:=L.t130;have a130:=L.a130;have z130:=L.z130;have v130:=L.v130
 have t3:=L.t3;have a3:=L.a3;have z3:=L.z3;have v3:=L.v3
 have t4:=L.t4;have a4:=L.a4;have z4:=L.z4;have v4:=L.v4
 have t0:=L.t0;have a0:=L.a0;have z0:=L.z0;have v0:=L.v0
 have t93:=L.t93;have u93:=run_underlying L.t93;have a93:=L.a93;have z93:=L.z93;have v93:=L.v93
 have t131:=L.t131;have a131:=L.a131;have z131:=L.z131;have v131:=L.v131
 have t37:=L.t37;have a37:=L.a37;have z37:=L.z37;have v37:=L.v37
 have t75:=L.t75;have a75:=L.a75;have z75:=L.z75;have v75:=L.v75
 have e181:∀ args w,(callFunc (ρ.f 181) args).run P w=.ok (.enter (ρ.f 181) args) w:=enters_of L.f181 (by kernel_rfl) rfl
 have e251:∀ args w,(callFunc (ρ.f 251) args).run P w=.ok (.enter (ρ.f 251) args) w:=enters_of L.f251 (by kernel_rfl) rfl
 have e290:∀ args w,(callFunc (ρ.f 290) args).run P w=.ok (.enter (ρ.f 290) args) w:=enters_of L.f290 (by kernel_rfl) rfl
 have hnil:∀ W,(binOp .eql (ρ.t 37) (.slice none 0 0) (.slice none 0 0)).run P W=.ok (.bool true) W:=fun W=>Lib.run_eql_slice_nil_nil W _ _ L.t37
 obtain ⟨i0,hi,hz0,hz1,hz2⟩:=info_parts L.i5
 obtain ⟨M,hM⟩:∃ M,M=madeCells (Value.int .u8 0).cells ((64:Int).toNat*i0.size):=⟨_,rfl⟩
 have hMs:M.size=64:=by rw [hM,size_madeCells,hz1];rfl
 have hmk:∀ W:World,(Instr.makeSlice (ρ.t 37) (.int .i64 (n:Int)) (.int .i64 64)).run P W=.ok (.slice (some ⟨W.heap.size,0,none⟩) n 64) (W.alloc (.cells M (ρ.t 5))):=fun W=>by
  have h:=run_makeSlice (P:=P) W (ρ.t 37) (ρ.t 5) i0 (.int .u8 0) L.t37 hi hz0 .i64 .i64 (n:Int) 64 (by omega) (by omega) (by rw [hz1];decide) (by rw [hz2];decide) (by decide)
  rw [←hM] at h
  simpa using h
 clear hM
 go_enter L.f252,Body.n252_ntmps ρ
 go_wp2_with (go_at_fn (ρ.f 181);refine (Zjw { L with } b none 0 0 _ hbk.c0 hbk.c1 (by unfold maxLen;omega)).mono ?_)
 rintro e W0 ⟨rfl,k,hW0⟩
 have hbk0:LibA.Three W0 b 0 T R (.slice none 0 0) (.int .i64 0) (.int .i8 lr):=by rw [hW0];exact hbk
 have c0:W0.cell? ⟨b,0,none⟩=some (.slice none 0 0):=hbk0.c0
 have c1:W0.cell? ⟨b,1,none⟩=some (.int .i64 0):=hbk0.c1
 have f0:W0.frozen? ⟨b,0,none⟩=false:=hbk0.f 0
 have f1:W0.frozen? ⟨b,1,none⟩=false:=hbk0.f 1
 have hbW0:=hbk0.lt
 have c0a:∀ o,(W0.alloc o).cell? ⟨b,0,none⟩=some (.slice none 0 0):=fun o=>(World.cell?_of_block (a:=⟨b,0,none⟩) (Below.heap_alloc W0 o b hbW0)).trans c0
 have f0a:∀ o,(W0.alloc o).frozen? ⟨b,0,none⟩=false:=fun o=>(World.frozen?_of_block (a:=⟨b,0,none⟩) (Below.heap_alloc W0 o b hbW0)).trans f0
 have HW0:=Lib.hid hW0
 clear hW0
 go_wp2_with (go_at_fn (ρ.f 251);refine (Any.Buffer_tryGrow_none_at { L with } b 0 _ 0 0 n _ c0 (Nat.le_refl _) (Nat.zero_le _) (by omega)).mono ?_;rintro e w' ⟨rfl,rfl⟩)
 go_ret
 have hsz0:w'.heap.size=w.heap.size:=by rw [HW0.out];rfl
 have hg0:w.grownBy w' (some b):=by rw [HW0.out];exact ⟨rfl,rfl,rfl,Nat.le_refl _,fun _ _ _=>rfl⟩
 have hszc:(w'.setCell ⟨b,0,none⟩ (.slice (some ⟨w'.heap.size,0,none⟩) n 64)).heap.size=w'.heap.size:=by simp [World.setCell]
 refine ⟨rfl,64,M,?_,?_,hMs,by simp,by omega,by unfold maxLen;omega,Lib.grownBy_allocR (Lib.grownBy_setB hg0 0 _) _⟩
 ·rw [Nat.zero_add,←hsz0]
  exact (hbk0.set0 (.slice (some ⟨w'.heap.size,0,none⟩) n 64)).of_heap (Below.heap_alloc _ _ b (by rw [hszc];exact hbW0))
 ·have h:=heap_alloc_new (w'.setCell ⟨b,0,none⟩ (.slice (some ⟨w'.heap.size,0,none⟩) n 64)) (.cells M (ρ.t 5))
  rw [hszc] at h
  rw [←hsz0]
  exact h
set_option maxHeartbeats 12800000 in
set_option maxRecDepth 100000 in
theorem ZMM (L : LaysM.n252 P ρ) (T : TypeId) (R : Nat → Option Value) (b : Nat)  (n : Nat) (lr : Int) (w : World)
    (hbk : LibA.Three w b 0 T R (.slice none 0 0) (.int .i64 0) (.int .i8 lr)) (h64 : 64 < n) (hlim : n ≤ 70368744177664) :
    Calls P (ρ.f 252) #[.pointer (some ⟨b, 0, none⟩), .int .i64 n] w fun e w' => e = .returned (.int .i64 0) ∧ Ziw w T R b 0 n [] lr (ρ.t 5) w' := by
  have mixed := L.mixed
  have t5 := L.t5; have a5 := L.a5; have z5 := L.z5; have v5 := L.v5
  have t130 := L.t130; have a130 := L.a130; have z130 := L.z130; have v130 := L.v130
  have t3 := L.t3; have a3 := L.a3; have z3 := L.z3; have v3 := L.v3
  have t4 := L.t4; have a4 := L.a4; have z4 := L.z4; have v4 := L.v4
  have t0 := L.t0; have a0 := L.a0; have z0 := L.z0; have v0 := L.v0
  have t93 := L.t93; have u93 := run_underlying L.t93; have a93 := L.a93; have z93 := L.z93; have v93 := L.v93
  have t131 := L.t131; have a131 := L.a131; have z131 := L.z131; have v131 := L.v131
  have t37 := L.t37; have a37 := L.a37; have z37 := L.z37; have v37 := L.v37
  have t75 := L.t75; have a75 := L.a75; have z75 := L.z75; have v75 := L.v75
  have e181 : ∀ args w, (callFunc (ρ.f 181) args).run P w = .ok (.enter (ρ.f 181) args) w := enters_of L.f181 (by kernel_rfl) rfl
  have e251 : ∀ args w, (callFunc (ρ.f 251) args).run P w = .ok (.enter (ρ.f 251) args) w := enters_of L.f251 (by kernel_rfl) rfl
  have e290 : ∀ args w, (callFunc (ρ.f 290) args).run P w = .ok (.enter (ρ.f 290) args) w := enters_of L.f290 (by kernel_rfl) rfl
  have hnil : ∀ W, (binOp .eql (ρ.t 37) (.slice none 0 0) (.slice none 0 0)).run P W = .ok (.bool true) W := fun W => Lib.run_eql_slice_nil_nil W _ _ L.t37
  have hc2 : 0 ≤ 140737488355328 := by omega
  have hcm' : 0 ≤ maxLen := by unfold maxLen; omega
  go_enter L.f252, Body.n252_ntmps ρ
  go_wp2_with (go_at_fn (ρ.f 181); refine (Zjw { L with } b none 0 0 _ hbk.c0 hbk.c1 (by unfold maxLen; omega)).mono ?_)
  rintro e W0 ⟨rfl, k, hW0⟩
  have hbk0 : LibA.Three W0 b 0 T R (.slice none 0 0) (.int .i64 0) (.int .i8 lr) := by rw [hW0]; exact hbk
  have c0 : W0.cell? ⟨b, 0, none⟩ = some (.slice none 0 0) := hbk0.c0
  have c1 : W0.cell? ⟨b, 1, none⟩ = some (.int .i64 0) := hbk0.c1
  have f0 : W0.frozen? ⟨b, 0, none⟩ = false := hbk0.f 0
  have f1 : W0.frozen? ⟨b, 1, none⟩ = false := hbk0.f 1
  have HW0 := Lib.hid hW0
  clear hW0
  go_wp2_with (go_at_fn (ρ.f 251); refine (Any.Buffer_tryGrow_none_at { L with } b 0 _ 0 0 n _ c0 (by omega) hcm' (by omega)).mono ?_; rintro e w' ⟨rfl, rfl⟩)
  have hbW := hbk0.lt
  have hwn : IntKind.i64.wrap (n : Int) = n := by rw [IntKind.wrap_i64]; omega
  go_region_with_o (
      go_at_fn (ρ.f 290)
      refine (ZpS { L with } none 0 0 n [] _ ?_ (by omega) (by omega) (by omega) hc2 ?_ ?_).mono ?_
      · first | exact ho | rfl
      · exact Or.inl rfl
      · first | exact h1 | exact fun v h => by cases h
      rintro e w2 ⟨cap2, cells, rfl, hN, hcsz, htk, hcap2, hcm2, hbel⟩
      have hbk2 : LibA.Three w2 b 0 T R (.slice none 0 0) (.int .i64 0) (.int .i8 lr) := hbk0.of_heap (hbel.block b hbW)
      have d0 : w2.cell? ⟨b, 0, none⟩ = some (.slice none 0 0) := hbk2.c0
      have d1 : w2.cell? ⟨b, 1, none⟩ = some (.int .i64 0) := hbk2.c1
      have e0 : w2.frozen? ⟨b, 0, none⟩ = false := hbk2.f 0
      have e1 : w2.frozen? ⟨b, 1, none⟩ = false := hbk2.f 1)
  all_goals (
    go_wp2
    go_ret
    have hsz0 : w'.heap.size = w.heap.size := by rw [HW0.out]; rfl
    have hg2 : w.grownBy w2 (some b) := Lib.grownBy_below (w := w'.drew) (by rw [HW0.out]; exact ⟨rfl, rfl, rfl, Nat.le_refl _, fun _ _ _ => rfl⟩) hbel
    refine ⟨rfl, cap2, cells, ?_, ?_, hcsz, htk, hcap2, hcm2, Lib.grownBy_setB (Lib.grownBy_setB (Lib.grownBy_setB hg2 0 _) 1 _) 0 _⟩
    · rw [Nat.zero_add, ← hsz0]; exact Zm3 hbk2 _ _
    · have hNb : w.heap.size ≠ b := by omega
      rw [Below.heap_setCell _ _ _ _ hNb, Below.heap_setCell _ _ _ _ hNb, Below.heap_setCell _ _ _ _ hNb]
      rw [← hsz0]; exact hN)
end
end Go.Proofs.YtmlkhhidifjjfaaDoor
namespace Go.Proofs.YtmlkhhidifjjfaaDoor
open Go.Shelf Go.RowKit
section
variable {P:Program} {ρ:Ren}
set_option maxHeartbeats 12800000 in
set_option maxRecDepth 100000 in
theorem ZHc (L : LaysM.n252 P ρ) (T : TypeId) (R : Nat → Option Value) (b : Nat) (x : Addr) (cap : Nat) (n : Nat) (lr : Int) (w : World)
    (hbk : LibA.Three w b 0 T R (.slice (some x) 0 cap) (.int .i64 0) (.int .i8 lr)) (hroom : cap < n) (hlim : n ≤ 70368744177664) :
    Calls P (ρ.f 252) #[.pointer (some ⟨b, 0, none⟩), .int .i64 n] w fun e w' => e = .returned (.int .i64 0) ∧ Ziw w T R b 0 n [] lr (ρ.t 5) w' := by
  have mixed := L.mixed
  have t5 := L.t5; have a5 := L.a5; have z5 := L.z5; have v5 := L.v5
  have t130 := L.t130; have a130 := L.a130; have z130 := L.z130; have v130 := L.v130
  have t3 := L.t3; have a3 := L.a3; have z3 := L.z3; have v3 := L.v3
  have t4 := L.t4; have a4 := L.a4; have z4 := L.z4; have v4 := L.v4
  have t0 := L.t0; have a0 := L.a0; have z0 := L.z0; have v0 := L.v0
  have t93 := L.t93; have u93 := run_underlying L.t93; have a93 := L.a93; have z93 := L.z93; have v93 := L.v93
  have t131 := L.t131; have a131 := L.a131; have z131 := L.z131; have v131 := L.v131
  have t37 := L.t37; have a37 := L.a37; have z37 := L.z37; have v37 := L.v37
  have t75 := L.t75; have a75 := L.a75; have z75 := L.z75; have v75 := L.v75
  have e181 : ∀ args w, (callFunc (ρ.f 181) args).run P w = .ok (.enter (ρ.f 181) args) w := enters_of L.f181 (by kernel_rfl) rfl
  have e251 : ∀ args w, (callFunc (ρ.f 251) args).run P w = .ok (.enter (ρ.f 251) args) w := enters_of L.f251 (by kernel_rfl) rfl
  have e290 : ∀ args w, (callFunc (ρ.f 290) args).run P w = .ok (.enter (ρ.f 290) args) w := enters_of L.f290 (by kernel_rfl) rfl
  have hnil : ∀ W, (binOp .eql (ρ.t 37) (.slice (some x) 0 cap) (.slice none 0 0)).run P W = .ok (.bool false) W := fun W => Lib.run_eql_slice_some_nil W _ _ _ L.t37
  have hc2 : cap ≤ 140737488355328 := by omega
  have hcm' : cap ≤ maxLen := by unfold maxLen; omega
  go_enter L.f252, Body.n252_ntmps ρ
  go_wp2_with (go_at_fn (ρ.f 181); refine (Zjw { L with } b (some x) 0 cap _ hbk.c0 hbk.c1 (by unfold maxLen; omega)).mono ?_)
  rintro e W0 ⟨rfl, k, hW0⟩
  have hbk0 : LibA.Three W0 b 0 T R (.slice (some x) 0 cap) (.int .i64 0) (.int .i8 lr) := by rw [hW0]; exact hbk
  have c0 : W0.cell? ⟨b, 0, none⟩ = some (.slice (some x) 0 cap) := hbk0.c0
  have c1 : W0.cell? ⟨b, 1, none⟩ = some (.int .i64 0) := hbk0.c1
  have f0 : W0.frozen? ⟨b, 0, none⟩ = false := hbk0.f 0
  have f1 : W0.frozen? ⟨b, 1, none⟩ = false := hbk0.f 1
  have HW0 := Lib.hid hW0
  clear hW0
  go_wp2_with (go_at_fn (ρ.f 251); refine (Any.Buffer_tryGrow_none_at { L with } b 0 _ 0 cap n _ c0 (by omega) hcm' (by omega)).mono ?_; rintro e w' ⟨rfl, rfl⟩)
  have hbW := hbk0.lt
  have hwn : IntKind.i64.wrap (n : Int) = n := by rw [IntKind.wrap_i64]; omega
  go_region_with_o (
      go_at_fn (ρ.f 290)
      refine (ZpS { L with } (some x) 0 cap n [] _ ?_ (by omega) (by omega) (by omega) hc2 ?_ ?_).mono ?_
      · first | exact ho | rfl
      · exact Or.inl rfl
      · first | exact h1 | exact fun v h => by cases h
      rintro e w2 ⟨cap2, cells, rfl, hN, hcsz, htk, hcap2, hcm2, hbel⟩
      have hbk2 : LibA.Three w2 b 0 T R (.slice (some x) 0 cap) (.int .i64 0) (.int .i8 lr) := hbk0.of_heap (hbel.block b hbW)
      have d0 : w2.cell? ⟨b, 0, none⟩ = some (.slice (some x) 0 cap) := hbk2.c0
      have d1 : w2.cell? ⟨b, 1, none⟩ = some (.int .i64 0) := hbk2.c1
      have e0 : w2.frozen? ⟨b, 0, none⟩ = false := hbk2.f 0
      have e1 : w2.frozen? ⟨b, 1, none⟩ = false := hbk2.f 1)
  all_goals (
    go_wp2
    go_ret
    have hsz0 : w'.heap.size = w.heap.size := by rw [HW0.out]; rfl
    have hg2 : w.grownBy w2 (some b) := Lib.grownBy_below (w := w'.drew) (by rw [HW0.out]; exact ⟨rfl, rfl, rfl, Nat.le_refl _, fun _ _ _ => rfl⟩) hbel
    refine ⟨rfl, cap2, cells, ?_, ?_, hcsz, htk, hcap2, hcm2, Lib.grownBy_setB (Lib.grownBy_setB (Lib.grownBy_setB hg2 0 _) 1 _) 0 _⟩
    · rw [Nat.zero_add, ← hsz0]; exact Zm3 hbk2 _ _
    · have hNb : w.heap.size ≠ b := by omega
      rw [Below.heap_setCell _ _ _ _ hNb, Below.heap_setCell _ _ _ _ hNb, Below.heap_setCell _ _ _ _ hNb]
      rw [← hsz0]; exact hN)
end
end Go.Proofs.YtmlkhhidifjjfaaDoor
namespace Go.Proofs.YtmlkhhidifjjfaaDoor
open Go.Shelf Go.RowKit
section
variable {P:Program} {ρ:Ren}
set_option maxHeartbeats 12800000 in
set_option maxRecDepth 100000 in
theorem Zvz (L : LaysM.n252 P ρ) (T : TypeId) (R : Nat → Option Value) (b : Nat) (x : Addr) (l cap : Nat) (olds : List Value) (n : Nat) (lr : Int) (w : World)
    (hbk : LibA.Three w b 0 T R (.slice (some x) l cap) (.int .i64 0) (.int .i8 lr)) (hl0 : l ≠ 0) (ho : olds.length = l) (h1 : ∀ v ∈ olds, v.oneCell' = true) (hlc : l ≤ cap) (hroom : cap - l < n) (hlim : l + n ≤ 70368744177664)
    (hold : l = 0 ∨ ∃ a, some x = some a ∧ ∀ j v, (olds)[j]? = some v → w.cell? (a.add j) = some v)  :
    Calls P (ρ.f 252) #[.pointer (some ⟨b, 0, none⟩), .int .i64 n] w fun e w' => e = .returned (.int .i64 l) ∧ Ziw w T R b l n olds lr (ρ.t 5) w' := by
  have mixed := L.mixed
  have t5 := L.t5; have a5 := L.a5; have z5 := L.z5; have v5 := L.v5
  have t130 := L.t130; have a130 := L.a130; have z130 := L.z130; have v130 := L.v130
  have t3 := L.t3; have a3 := L.a3; have z3 := L.z3; have v3 := L.v3
  have t4 := L.t4; have a4 := L.a4; have z4 := L.z4; have v4 := L.v4
  have t0 := L.t0; have a0 := L.a0; have z0 := L.z0; have v0 := L.v0
  have t93 := L.t93; have u93 := run_underlying L.t93; have a93 := L.a93; have z93 := L.z93; have v93 := L.v93
  have t131 := L.t131; have a131 := L.a131; have z131 := L.z131; have v131 := L.v131
  have t37 := L.t37; have a37 := L.a37; have z37 := L.z37; have v37 := L.v37
  have t75 := L.t75; have a75 := L.a75; have z75 := L.z75; have v75 := L.v75
  have e181 : ∀ args w, (callFunc (ρ.f 181) args).run P w = .ok (.enter (ρ.f 181) args) w := enters_of L.f181 (by kernel_rfl) rfl
  have e251 : ∀ args w, (callFunc (ρ.f 251) args).run P w = .ok (.enter (ρ.f 251) args) w := enters_of L.f251 (by kernel_rfl) rfl
  have e290 : ∀ args w, (callFunc (ρ.f 290) args).run P w = .ok (.enter (ρ.f 290) args) w := enters_of L.f290 (by kernel_rfl) rfl
  have hnil : ∀ W, (binOp .eql (ρ.t 37) (.slice (some x) l cap) (.slice none 0 0)).run P W = .ok (.bool false) W := fun W => Lib.run_eql_slice_some_nil W _ _ _ L.t37
  have hc2 : cap ≤ 140737488355328 := by omega
  have hcm' : cap ≤ maxLen := by unfold maxLen; omega
  go_enter L.f252, Body.n252_ntmps ρ
  go_wp2_with (go_at_fn (ρ.f 181); refine (Zjw { L with } b (some x) l cap _ hbk.c0 hbk.c1 (by unfold maxLen; omega)).mono ?_)
  rintro e W0 ⟨rfl, k, hW0⟩
  have hbk0 : LibA.Three W0 b 0 T R (.slice (some x) l cap) (.int .i64 0) (.int .i8 lr) := by rw [hW0]; exact hbk
  have c0 : W0.cell? ⟨b, 0, none⟩ = some (.slice (some x) l cap) := hbk0.c0
  have c1 : W0.cell? ⟨b, 1, none⟩ = some (.int .i64 0) := hbk0.c1
  have f0 : W0.frozen? ⟨b, 0, none⟩ = false := hbk0.f 0
  have f1 : W0.frozen? ⟨b, 1, none⟩ = false := hbk0.f 1
  have hold0 : l = 0 ∨ ∃ a, some x = some a ∧ ∀ j v, (olds)[j]? = some v → W0.cell? (a.add j) = some v := by rw [hW0]; exact hold
  have HW0 := Lib.hid hW0
  clear hW0 hold
  go_wp2_with (go_at_fn (ρ.f 251); refine (Any.Buffer_tryGrow_none_at { L with } b 0 _ l cap n _ c0 (by omega) hcm' (by omega)).mono ?_; rintro e w' ⟨rfl, rfl⟩)
  have hbW := hbk0.lt
  have hwn : IntKind.i64.wrap (n : Int) = n := by rw [IntKind.wrap_i64]; omega
  go_region_with_o (
      go_at_fn (ρ.f 290)
      refine (ZpS { L with } (some x) l cap n olds _ ?_ (by omega) (by omega) (by omega) hc2 ?_ ?_).mono ?_
      · first | exact ho | rfl
      · exact hold0
      · first | exact h1 | exact fun v h => by cases h
      rintro e w2 ⟨cap2, cells, rfl, hN, hcsz, htk, hcap2, hcm2, hbel⟩
      have hbk2 : LibA.Three w2 b 0 T R (.slice (some x) l cap) (.int .i64 0) (.int .i8 lr) := hbk0.of_heap (hbel.block b hbW)
      have d0 : w2.cell? ⟨b, 0, none⟩ = some (.slice (some x) l cap) := hbk2.c0
      have d1 : w2.cell? ⟨b, 1, none⟩ = some (.int .i64 0) := hbk2.c1
      have e0 : w2.frozen? ⟨b, 0, none⟩ = false := hbk2.f 0
      have e1 : w2.frozen? ⟨b, 1, none⟩ = false := hbk2.f 1)
  all_goals (
    go_wp2
    go_ret
    have hsz0 : w'.heap.size = w.heap.size := by rw [HW0.out]; rfl
    have hg2 : w.grownBy w2 (some b) := Lib.grownBy_below (w := w'.drew) (by rw [HW0.out]; exact ⟨rfl, rfl, rfl, Nat.le_refl _, fun _ _ _ => rfl⟩) hbel
    refine ⟨rfl, cap2, cells, ?_, ?_, hcsz, htk, hcap2, hcm2, Lib.grownBy_setB (Lib.grownBy_setB (Lib.grownBy_setB hg2 0 _) 1 _) 0 _⟩
    · rw [← hsz0]; exact Zm3 hbk2 _ _
    · have hNb : w.heap.size ≠ b := by omega
      rw [Below.heap_setCell _ _ _ _ hNb, Below.heap_setCell _ _ _ _ hNb, Below.heap_setCell _ _ _ _ hNb]
      rw [← hsz0]; exact hN)
end
end Go.Proofs.YtmlkhhidifjjfaaDoor
namespace Go.Proofs.YtmlkhhidifjjfaaDoor
open Go.Shelf Go.RowKit
section
variable {P:Program} {ρ:Ren}
def BufRow (w:World) (b:Nat) (A:Option Addr) (l cap:Nat) (olds:List Value):Prop :=
 olds.length=l∧l≤cap∧cap≤maxLen∧(∀ v ∈ olds,v.oneCell'=true)∧(cap=0∨∃ g cur t,A=some ⟨g,0,none⟩∧g≠b∧w.heap[g]?=some (.cells cur t (0,0))∧cur.size=cap∧cur.toList.take l=olds)
theorem BufRow.hold {w:World} {b:Nat} {A:Option Addr} {l cap:Nat} {olds:List Value} (h:BufRow w b A l cap olds):l=0∨∃ a,A=some a∧∀ j v,olds[j]?=some v→w.cell? (a.add j)=some v:=by
 obtain ⟨h1,h2,h3,h4,h5 | ⟨g,cur,t,h5,h6,h7,h8,h9⟩⟩:=h
 ·exact Or.inl (by omega)
 ·exact Or.inr ⟨_,h5,by rw [←h9];exact Lib.cells_of_row h7 l⟩
theorem ZCr (L:LaysM.n252 P ρ) (T:TypeId) (R:Nat→Option Value) (b:Nat) (A:Option Addr) (l cap:Nat) (olds:List Value) (n:Nat) (lr:Int) (w:World)
  (hbk:LibA.Three w b 0 T R (.slice A l cap) (.int .i64 0) (.int .i8 lr)) (hr:BufRow w b A l cap olds) (hA:A=none→cap=0) (hroom:cap - l < n) (hlim:l+n≤70368744177664) :
  Calls P (ρ.f 252) #[.pointer (some ⟨b,0,none⟩),.int .i64 n] w fun e w'=>e=.returned (.int .i64 l)∧Ziw w T R b l n olds lr (ρ.t 5) w':=by
 have hold:=hr.hold
 obtain ⟨h1,h2,h3,h4,h5⟩:=hr
 cases A with
 | none =>
  have hc:=hA rfl
  subst hc
  have hl0:l=0:=by omega
  subst hl0
  have ho:olds=[]:=List.eq_nil_of_length_eq_zero h1
  subst ho
  by_cases h64:n≤64
  ·exact ZHm L T R b n lr w hbk (by omega) h64
  ·exact ZMM L T R b n lr w hbk (by omega) (by omega)
 | some x =>
  by_cases hl0:l=0
  ·subst hl0
   have ho:olds=[]:=List.eq_nil_of_length_eq_zero h1
   subst ho
   exact ZHc L T R b x cap n lr w hbk (by omega) (by omega)
  ·exact Zvz L T R b x l cap olds n lr w hbk hl0 h1 h4 h2 hroom hlim hold
def ZqR (w:World) (T:TypeId) (R:Nat→Option Value) (b:Nat) (A:Option Addr) (l n cap:Nat) (all:List Value) (w':World):Prop :=
 ∃ A' cap',LibA.Three w' b 0 T R (.slice A' (l+n) cap') (.int .i64 0) (.int .i8 0)∧l+n≤cap'∧cap'≤maxLen ∧
  ((n=0∧A'=A∧cap'=cap∧w.grownBy w' (some b)) ∨
   ∃ G W1 Y t,A'=some ⟨G,0,none⟩∧(G=w.heap.size∨(A=some ⟨G,0,none⟩∧cap≠0))∧G≠b∧w.grownBy W1 (some b)∧W1.grownBy w' (some G)∧w'.heap[G]?=some (.cells Y t (0,0))∧Y.size=cap'∧Y.toList.take (l+n)=all)
set_option maxHeartbeats 6400000 in
set_option maxRecDepth 100000 in
theorem ZEF (L:LaysM.n180 P ρ) (T:TypeId) (R:Nat→Option Value) (b:Nat) (A:Option Addr) (l cap:Nat) (lr:Int) (olds news:List Value) (pa:Option Addr) (n pc:Nat) (w:World)
  (hbk:LibA.Three w b 0 T R (.slice A l cap) (.int .i64 0) (.int .i8 lr)) (hr:BufRow w b A l cap olds) (hA:A=none→cap=0) (hnews:news.length=n) (h1c:∀ v ∈ news,v.oneCell'=true)
  (hsrc:n=0∨∃ a,pa=some a∧a.block≠b∧∀ j v,news[j]?=some v→w.cell? (a.add j)=some v) (hlim:l+n≤70368744177664) :
  Calls P (ρ.f 180) #[.pointer (some ⟨b,0,none⟩),.slice pa n pc] w fun e w'=>e=.returned (.tuple #[.int .i64 n,.nilIface])∧ZqR w T R b A l n cap (olds++news) w':=by
 have mixed:=L.mixed
 have t5:=L.t5;have a5:=L.a5;have z5:=L.z5;have v5:=L.v5
 have t130:=L.t130;have a130:=L.a130;have z130:=L.z130;have v130:=L.v130
 have t37:=L.t37;have a37:=L.a37;have z37:=L.z37;have v37:=L.v37
 have t3:=L.t3;have a3:=L.a3;have z3:=L.z3;have v3:=L.v3
 have t75:=L.t75;have a75:=L.a75;have z75:=L.z75;have v75:=L.v75
 have t0:=L.t0;have a0:=L.a0;have z0:=L.z0;have v0:=L.v0
 have t93:=L.t93;have u93:=run_underlying L.t93;have a93:=L.a93;have z93:=L.z93;have v93:=L.v93
 have t91:=L.t91;have a91:=L.a91;have z91:=L.z91;have v91:=L.v91
 have t131:=L.t131;have a131:=L.a131;have z131:=L.z131;have v131:=L.v131
 have t4:=L.t4;have a4:=L.a4;have z4:=L.z4;have v4:=L.v4
 have e251:∀ args w,(callFunc (ρ.f 251) args).run P w=.ok (.enter (ρ.f 251) args) w:=enters_of L.f251 (by kernel_rfl) rfl
 have e252:∀ args w,(callFunc (ρ.f 252) args).run P w=.ok (.enter (ρ.f 252) args) w:=enters_of L.f252 (by kernel_rfl) rfl
 have c2:w.cell? ⟨b,2,none⟩=some (.int .i8 lr):=hbk.c2
 have f2:w.frozen? ⟨b,2,none⟩=false:=hbk.f 2
 have hinfo:(P.info? (ρ.t 5)).map (·.size)=some 1:=by
  obtain ⟨i0,hi,-,hz1,-⟩:=info_parts L.i5
  rw [hi];simp [hz1]
 obtain ⟨ho,hlc,hcm,h1,hrow⟩:=id hr
 have hbkA:LibA.Three (w.setCell ⟨b,2,none⟩ (.int .i8 0)) b 0 T R (.slice A l cap) (.int .i64 0) (.int .i8 0):=hbk.set2 _
 have hgA:w.grownBy (w.setCell ⟨b,2,none⟩ (.int .i8 0)) (some b):=Lib.grownBy_setCell w b 2 _
 have hszA:(w.setCell ⟨b,2,none⟩ (.int .i8 0)).heap.size=w.heap.size:=by simp [World.setCell]
 have hrA:BufRow (w.setCell ⟨b,2,none⟩ (.int .i8 0)) b A l cap olds:=⟨ho,hlc,hcm,h1,hrow.imp id fun ⟨g,cur,t,e,hgb,hg,r⟩=>⟨g,cur,t,e,hgb,(Below.heap_setCell _ _ _ _ hgb).trans hg,r⟩⟩
 by_cases hroom:n≤cap - l
 ·by_cases hs0:n=0
  ·
   subst hs0
   have hc0:news=[]:=List.eq_nil_of_length_eq_zero hnews
   subst hc0
   have hce:∀ d dLen dCap W,(Builtin.copy_ #[(ρ.t 37),(ρ.t 37)] (ρ.t 3) #[.slice d dLen dCap,.slice pa 0 pc]).run P W=.ok (goInt 0) W:=fun d dLen dCap W=>run_copy_none W (ρ.t 37) (ρ.t 37) (ρ.t 3) (ρ.t 5) d pa dLen dCap 0 pc L.t37 hinfo (by simp)
   have hT:∀ W,W.cell? ⟨b,0,none⟩=some (.slice A l cap)→W.frozen? ⟨b,0,none⟩=false→Calls P (ρ.f 251) #[.pointer (some ⟨b,0,none⟩),.int .i64 0] W (fun e w'=>e=.returned (.tuple #[.int .i64 l,.bool true])∧w'=W.setCell ⟨b,0,none⟩ (.slice A l cap)):=fun W q1 q2=>Any.Buffer_tryGrow_room_at { L with } b 0 A l cap 0 W q1 q2 hlc hcm (Nat.zero_le _)
   clear hsrc hroom hlim
   go_enter L.f180,Body.n180_ntmps ρ
   go_wp2_with (go_at_fn (ρ.f 251);refine (hT _ ?_ ?_).mono ?_)
   ·exact hbkA.c0
   ·exact hbkA.f 0
   rintro e W1 ⟨rfl,hW1⟩
   have hbk1:LibA.Three W1 b 0 T R (.slice A l cap) (.int .i64 0) (.int .i8 0):=by rw [hW1];exact hbkA.set0 _
   have hgW:w.grownBy W1 (some b):=by rw [hW1];exact Lib.grownBy_setB hgA 0 _
   clear hW1 hbkA hgA hszA hrA c2 f2 hT
   have d0:W1.cell? ⟨b,0,none⟩=some (.slice A l cap):=hbk1.c0
   have hcm':=hcm
   unfold maxLen at hcm'
   have hfin:ZqR w T R b A l 0 cap (olds++[]) W1:=⟨A,cap,hbk1,hlc,hcm,Or.inl ⟨rfl,rfl,rfl,hgW⟩⟩
   clear hrow hr
   cases A
   all_goals (go_wp2;all_goals (go_ret2;first | exact ⟨rfl,hfin⟩ | exact ⟨by simp,by simpa using hfin⟩ | (refine ⟨by simp,?_⟩;have hcl:l=cap:=(by omega);simpa [hcl] using hfin)))
  ·
   go_enter L.f180,Body.n180_ntmps ρ
   go_wp2_with (go_at_fn (ρ.f 251);refine (Any.Buffer_tryGrow_room_at { L with } b 0 A l cap n _ ?_ ?_ hlc hcm hroom).mono ?_)
   ·exact hbkA.c0
   ·exact hbkA.f 0
   rintro e W1 ⟨rfl,hW1⟩
   obtain ⟨G,cap',cur,t,hbk1,hG,hcs,htk,hlc',hcm',hGb,hGw,hgW⟩:∃ G cap' cur t,LibA.Three W1 b 0 T R (.slice (some ⟨G,0,none⟩) (l+n) cap') (.int .i64 0) (.int .i8 0)∧W1.heap[G]?=some (.cells cur t (0,0))∧cur.size=cap'∧cur.toList.take l=olds∧l+n≤cap'∧cap'≤maxLen∧G≠b∧(G=w.heap.size∨(A=some ⟨G,0,none⟩∧cap≠0))∧w.grownBy W1 (some b):=by
    obtain hc | ⟨g,cur,t,e,hgb,hg,hcs,htk⟩:=hrow
    ·omega
    ·refine ⟨g,cap,cur,t,?_,?_,hcs,htk,by omega,hcm,hgb,Or.inr ⟨e,by omega⟩,?_⟩
     ·rw [hW1,e];rw [e] at hbkA;exact hbkA.set0 _
     ·rw [hW1,Below.heap_setCell _ _ _ _ hgb,Below.heap_setCell _ _ _ _ hgb];exact hg
     ·rw [hW1];exact Lib.grownBy_setB hgA 0 _
   clear hW1 hbkA hgA hszA hrA c2 f2 hrow
   have d0:W1.cell? ⟨b,0,none⟩=some (.slice (some ⟨G,0,none⟩) (l+n) cap'):=hbk1.c0
   have hne:¬cap'=l:=by omega
   have hsrc1:n=0∨∃ a,pa=some a∧∀ j v,news[j]?=some v→W1.cell? (a.add j)=some v:=hsrc.imp id fun ⟨a,e,hab,h⟩=>⟨a,e,fun j v hj=>hgW.cell (h j v hj) (by rw [Lib.block_add];exact fun e=>hab (Option.some.inj e))⟩
   obtain ⟨W2,Y,hcp,hY,hYl,hgb,hsz⟩:=Zlk (P:=P) W1 (ρ.t 37) (ρ.t 37) (ρ.t 3) (ρ.t 5) G l n (cap' - l) pa n pc cur t news L.t37 hinfo hG hnews (Nat.le_refl _) hsrc1 (by omega) h1c
   have hYs:Y.size=cap':=by
    have h3:=congrArg List.length hYl
    simp only [List.length_append,List.length_drop,List.length_take,Array.length_toList] at h3
    omega
   have hYt:Y.toList.take (l+n)=olds++news:=by
    rw [hYl,htk,List.take_append_of_le_length (by simp;omega),List.take_of_length_le (by simp;omega)]
   have hW2:LibA.Three W2 b 0 T R (.slice (some ⟨G,0,none⟩) (l+n) cap') (.int .i64 0) (.int .i8 0):=hbk1.of_heap (hgb.block b hbk1.lt (fun e=>hGb (Option.some.inj e).symm))
   have hcm2:=hcm'
   unfold maxLen at hcm2
   have hgb0:=hgb
   have hYr:=hY
   clear hsrc hsrc1 hr hA
   go_wp2
   go_ret2
   exact ⟨rfl,_,_,hW2,hlc',hcm',Or.inr ⟨G,W1,Y,t,rfl,hGw,hGb,hgW,hgb0,hYr,hYs,hYt⟩⟩
 ·
  go_enter L.f180,Body.n180_ntmps ρ
  go_wp2_with (go_at_fn (ρ.f 251);refine (Any.Buffer_tryGrow_none_at { L with } b 0 A l cap n _ ?_ hlc hcm (by omega)).mono ?_)
  ·exact hbkA.c0
  rintro e W0 ⟨rfl,hW0⟩
  rw [←hW0] at hbkA hgA hszA hrA
  clear hW0 c2 f2
  have hroom':cap - l < n:=by omega
  go_wp2_with (go_at_fn (ρ.f 252);refine (ZCr { L with } T R b A l cap olds n 0 _ ?_ ?_ hA hroom' hlim).mono ?_)
  ·exact hbkA
  ·exact hrA
  rintro e W1 ⟨rfl,cap',cur,hbk1,hG,hcs,htk,hlc',hcm',hgB⟩
  obtain ⟨G,hGe⟩:∃ G,G=w.heap.size:=⟨_,rfl⟩
  rw [hszA,←hGe] at hbk1 hG
  have hGw:G=w.heap.size∨(A=some ⟨G,0,none⟩∧cap≠0):=Or.inl hGe
  have hGb:G≠b:=by have:=hbk.lt;omega
  have hgW:w.grownBy W1 (some b):=Lib.grownBy_trans hgA hgB
  obtain ⟨t,ht⟩:∃ t,t=ρ.t 5:=⟨_,rfl⟩
  rw [←ht] at hG
  clear hbkA hgA hszA hrA hgB hGe hrow hroom
  have d0:W1.cell? ⟨b,0,none⟩=some (.slice (some ⟨G,0,none⟩) (l+n) cap'):=hbk1.c0
  have hne:¬cap'=l:=by omega
  have hsrc1:n=0∨∃ a,pa=some a∧∀ j v,news[j]?=some v→W1.cell? (a.add j)=some v:=hsrc.imp id fun ⟨a,e,hab,h⟩=>⟨a,e,fun j v hj=>hgW.cell (h j v hj) (by rw [Lib.block_add];exact fun e=>hab (Option.some.inj e))⟩
  obtain ⟨W2,Y,hcp,hY,hYl,hgb,hsz⟩:=Zlk (P:=P) W1 (ρ.t 37) (ρ.t 37) (ρ.t 3) (ρ.t 5) G l n (cap' - l) pa n pc cur t news L.t37 hinfo hG hnews (Nat.le_refl _) hsrc1 (by omega) h1c
  have hYs:Y.size=cap':=by
   have h3:=congrArg List.length hYl
   simp only [List.length_append,List.length_drop,List.length_take,Array.length_toList] at h3
   omega
  have hYt:Y.toList.take (l+n)=olds++news:=by
   rw [hYl,htk,List.take_append_of_le_length (by simp;omega),List.take_of_length_le (by simp;omega)]
  have hW2:LibA.Three W2 b 0 T R (.slice (some ⟨G,0,none⟩) (l+n) cap') (.int .i64 0) (.int .i8 0):=hbk1.of_heap (hgb.block b hbk1.lt (fun e=>hGb (Option.some.inj e).symm))
  have hcm2:=hcm'
  unfold maxLen at hcm2
  have hgb0:=hgb
  have hYr:=hY
  clear hsrc hsrc1 hr hA
  go_wp2
  go_ret2
  exact ⟨rfl,_,_,hW2,hlc',hcm',Or.inr ⟨G,W1,Y,t,rfl,hGw,hGb,hgW,hgb0,hYr,hYs,hYt⟩⟩
end
end Go.Proofs.YtmlkhhidifjjfaaDoor
namespace Go.Proofs.YtmlkhhidifjjfaaDoor
open Go.Shelf Go.RowKit
section
variable {P:Program} {ρ:Ren} {base:Nat→Prop} {w0 w w':World} {I0 I:Imm} {β:Bmap} {σ:Za}
theorem ZLm {b:Nat} {ty:TypeId} {x y z:Value} (h:LibA.Three w b 0 ty (fun _=>none) x y z):w.heap[b]?=some (.cells #[x,y,z] ty (0,0)):=by
 obtain ⟨cs,hb,h0,h1,h2,hr⟩:=h
 rw [hb]
 have : cs=#[x,y,z]:=by
  apply Array.ext_getElem?
  intro i
  match i with
  | 0=>exact h0
  | 1=>exact h1
  | 2=>exact h2
  | i+3=>rw [hr (i+3) (Or.inr (by omega))];exact (Array.getElem?_eq_none (by simp)).symm
 rw [this]
theorem ZIU {k:Nat} {y:AVal} {ys:List AVal} {b off:Nat} (h:LR I β k (y::ys) b off) (hk:0 < k):∃ u,I b off=some u:=by
 rw [Zgf] at h
 obtain ⟨⟨h1,h2⟩,_⟩:=h
 cases hc:y.cells with
 | nil=>rw [hc] at h1;simp at h1;omega
 | cons c cs =>
  rw [hc] at h2
  simp only [CR] at h2
  obtain ⟨⟨u,hu,_⟩,_⟩:=h2
  exact ⟨u,hu⟩
theorem ZKd (R:Rel base w0 I0 I β σ w) {b:Nat} (hb:∀ o,I b o=none) {y:Bool} {ys:List AVal} {v:Value} (hv:VR I β (.lst y ys) v) (hk:kOk 1 ys=true) :
  ∃ A cap news,v=.slice A ys.length cap∧news.length=ys.length∧VRs I β (ys.flatMap AVal.cells) news∧Z9 ys=true∧(∀ x ∈ ys,x.cells.length=1)∧(∀ v ∈ news,v.oneCell'=true) ∧
   (ys.length=0∨∃ a,A=some a∧a.block≠b∧∀ j v,news[j]?=some v→w.cell? (a.add j)=some v):=by
 have hv0:=hv
 obtain ⟨A,cap,e,_,_,htree,hc⟩:=Zjn R hv
 by_cases hne:ys=[]
 ·subst hne
  exact ⟨A,cap,[],e,rfl,by simp [VRs],rfl,by simp,by simp,Or.inl rfl⟩
 ·rcases hc with hc | ⟨b',off,k,us,hA,hk0,hl,hvs,hcell⟩
  ·exact absurd hc hne
  have e1:=ZjP hk hl hne
  subst e1
  refine ⟨A,cap,us,e,by rw [←ZaW hvs,Zd3 hl,Nat.mul_one],hvs,htree,hl,Zgt (fun z hz=>Zje (Zc2.1 (Zls htree) z hz)) hvs,Or.inr ⟨⟨b',off,none⟩,hA,?_,fun j v hj=>by rw [Addr.add_mid];exact hcell j v hj⟩⟩
  rintro rfl
  simp only [VR] at hv0
  obtain ⟨A',cap',e',_,_,_,h5,_⟩:=hv0
  rcases h5 with h5 | ⟨b2,off2,k2,e2,hk2,h5⟩
  ·exact hne h5
  ·rw [e] at e'
   injection e' with e' _ _
   rw [e'] at hA
   rw [hA] at e2
   injection e2 with e2
   injection e2 with e2 e3
   cases ys with
   | nil=>exact hne rfl
   | cons z zs =>
    obtain ⟨u,hu⟩:=ZIU h5 hk2
    rw [←e2,hb] at hu;cases hu
theorem Zte (L : LaysM.n180 P ρ) (hb : KLt base w0) {c0 : AVal} {lr : Int} {g : Nat} {xs : List AVal} (R : Rel base w0 I0 I β [.var [c0, .int .i64 0, .int .i8 lr], .row g 1 xs] w)
    {bi : BI} (hbi : β 1 g = some bi) {b kk cc : Nat} (hβ0 : β 0 0 = some ⟨some b, kk, cc⟩) {A : Option Addr} {cap : Nat} {ty : TypeId}
    (hheap : w.heap[b]? = some (.cells #[.slice A xs.length cap, .int .i64 0, .int .i8 lr] ty (0, 0)))
    (hA : (∃ gb, bi.b = some gb ∧ A = some ⟨gb, 0, none⟩ ∧ cap = bi.cap) ∨ (bi.b = none ∧ cap = 0 ∧ bi.cap = 0))
    {y : Bool} {ys : List AVal} {v1 : Value} (hv1 : VR I β (.lst y ys) v1) (hlim : xs.length + ys.length ≤ ZbW) (hk : kOk 1 ys = true) :
    Calls P (ρ.f 180) #[.pointer (some ⟨b, 0, none⟩), v1] w (fun e w' => ∃ u, Ends (.tup [.int .i64 ys.length, .nili]) e u ∧ ∃ β', β.le β' ∧
      Rel base w0 I0 I β' [.var [.sl 1 (g + 1) 0 (xs ++ ys).length, .int .i64 0, .int .i8 0], .row (g + 1) 1 (xs ++ ys)] w' ∧ VR I β' (.tup [.int .i64 ys.length, .nili]) u) := by
  have hbw := R.base_le hb
  have how : ZB β 0 (.var [c0, .int .i64 0, .int .i8 lr]) = some b := by simp only [ZB, hβ0, Option.bind_some]
  have hob := R.own 0 _ b rfl how
  obtain ⟨bi', hbi', hk1, _, hcap63, hxl, htree, hlens, hrow⟩ := R.blk 1 (.row g 1 xs) rfl
  rw [hbi] at hbi'; injection hbi' with hbi'; subst hbi'
  have hor : ZB β 1 (.row g 1 xs) = bi.b := by simp only [ZB, hbi, Option.bind_some]
  obtain ⟨olds, hBR, hvo, hA0⟩ : ∃ olds, BufRow w b A xs.length cap olds ∧ VRs I β (xs.flatMap AVal.cells) olds ∧ (A = none → cap = 0) := by
    rcases hA with ⟨gb, e1, e2, e3⟩ | ⟨e1, e2, e3⟩
    · rcases hrow with ⟨h1, h2⟩ | ⟨gb', us, ty', h1, h2, h3, h4⟩
      · rw [e1] at h1; cases h1
      · rw [e1] at h1; injection h1 with h1; subst h1
        rw [Nat.mul_one] at h3 h4
        have hgb : gb ≠ b := by
          rintro rfl
          have := R.apart 0 _ 1 _ gb rfl rfl how (by rw [hor, e1])
          omega
        refine ⟨us.toList.take xs.length, ⟨by have h9 : us.toList.length = us.size := us.length_toList; rw [List.length_take]; omega, by omega, by unfold maxLen; omega, Zgt (fun z hz => Zje (Zc2.1 (Zls htree) z hz)) h4, Or.inr ⟨gb, us, ty', e2, hgb, h2, by omega, rfl⟩⟩, h4, by rw [e2]; intro h; cases h⟩
    · have hx : xs = [] := List.eq_nil_of_length_eq_zero (by omega)
      subst hx
      exact ⟨[], ⟨rfl, by simp, by unfold maxLen; omega, by simp, Or.inl e2⟩, by simp [VRs], fun _ => e2⟩
  obtain ⟨A1, cap1, news, rfl, hnl, hvn, htn, hln, hn1, hsrc⟩ := ZKd R hob.2 hv1 hk
  refine (ZEF L ty (fun _ => none) b A xs.length cap lr olds news A1 ys.length cap1 w (LibA.three_whole hheap) hBR hA0 hnl hn1 hsrc (by unfold ZbW at hlim; omega)).mono ?_
  rintro e w' ⟨rfl, A', cap', hT, hle, hcm, hcase⟩
  refine ⟨_, rfl, ?_⟩
  have hT' := ZLm hT
  unfold maxLen at hcm
  obtain ⟨w1, hw1⟩ : ∃ w1 : World, w1 = { w with heap := w.heap.setIfInBounds b (.cells #[.slice A' (xs.length + ys.length) cap', .int .i64 0, .int .i8 0] ty (0, 0)) } := ⟨_, rfl⟩
  have hbl : b < w.heap.size := Lib.lt_of_heap hheap
  have h1b : w1.heap[b]? = w'.heap[b]? := by rw [hw1, hT']; simp [hbl]
  have h1o : ∀ k, k ≠ b → w1.heap[k]? = w.heap[k]? := fun k hk => by rw [hw1]; exact Array.getElem?_setIfInBounds_ne (fun e => hk e.symm)
  have h1s : w1.heap.size = w.heap.size := by rw [hw1]; simp
  have R1 : Rel base w0 I0 I β [.var [.top, .int .i64 0, .int .i8 0], .row g 1 xs] w1 := by
    have := R.putObj (t := 0) (x' := .var [.top, .int .i64 0, .int .i8 0]) rfl how (by simp only [ZB, hβ0, Option.bind_some]) (.cells #[.slice A' (xs.length + ys.length) cap', .int .i64 0, .int .i8 0] ty (0, 0))
      ⟨b, kk, cc, _, ty, hβ0, by simp [hbl]; rfl, by simp [VRs, VR]⟩ rfl
    rw [hw1]; exact this
  obtain ⟨bi2, hB, keep, hbi2, hblk, hv2⟩ : ∃ bi2 : BI, KB base w1 w' ∧ (∀ b', ZB β 1 (.row g 1 xs) ≠ some b' → b' < w1.heap.size → w'.heap[b']? = w1.heap[b']?) ∧ (bi2.b = none ∨ ∃ b', bi2.b = some b' ∧ (ZB β 1 (.row g 1 xs) = some b' ∨ b' = w1.heap.size)) ∧
      BR I (β.put 1 (g + 1) bi2) w' 1 (.row (g + 1) 1 (xs ++ ys)) ∧ VR I (β.put 1 (g + 1) bi2) (.sl 1 (g + 1) 0 (xs ++ ys).length) (.slice A' (xs.length + ys.length) cap') := by
    have hle2 : β.le (β.put 1 (g + 1) bi) → True := fun _ => trivial
    have hnone : β 1 (g + 1) = none := R.gen 1 _ (g + 1) rfl (by simp [Zp])
    rcases hcase with ⟨hn0, rfl, rfl, hgB⟩ | ⟨G, W1, Y, t, rfl, hGw, hGb, hg1, hg2, hY, hYs, hYt⟩
    · have hy : ys = [] := List.eq_nil_of_length_eq_zero hn0
      subst hy
      simp only [List.append_nil, List.length_nil, Nat.add_zero]
      have hbl' : β.le (β.put 1 (g + 1) bi) := Bmap.put_le hnone
      have same : ∀ k, k < w.heap.size → w'.heap[k]? = w1.heap[k]? := by
        intro k hk
        by_cases e : k = b
        · rw [e, h1b]
        · rw [h1o k e]; exact hgB.block k hk (fun h => e (Option.some.inj h))
      refine ⟨bi, ⟨by rw [hw1]; exact hgB.os, by rw [hw1]; exact hgB.tape, by rw [hw1]; exact hgB.output, by rw [h1s]; exact hgB.size, fun k hk => same k (hbw k hk)⟩, fun b' _ hb' => same b' (by omega), ?_, ?_, ?_⟩
      · rw [hor]
        cases bi.b with
        | none => exact Or.inl rfl
        | some x => exact Or.inr ⟨x, rfl, Or.inl rfl⟩
      · refine ⟨bi, Bmap.put_same β 1 (g + 1) bi, hk1, by omega, hcap63, hxl, htree, hlens, hrow.imp id ?_⟩
        rintro ⟨gb, us, ty', q1, q2, q3, q4⟩
        have hgb : gb ≠ b := by
          rintro rfl
          have := R.apart 0 _ 1 _ gb rfl rfl how (by rw [hor, q1])
          omega
        exact ⟨gb, us, ty', q1, by rw [same gb (Lib.lt_of_heap q2), h1o gb hgb]; exact q2, q3, VRs.mono (Imm.le.refl I) hbl' _ _ q4⟩
      · rw [Zb8]
        refine ⟨bi, Bmap.put_same β 1 (g + 1) bi, hxl, hcap63, ?_⟩
        rcases hA with ⟨gb, e1, e2, e3⟩ | ⟨e1, e2, e3⟩
        · exact Or.inl ⟨gb, e1, by rw [e2, e3]⟩
        · have hx : xs.length = 0 := by omega
          exact Or.inr ⟨e1, e3, _, by rw [hx, e2]⟩
    · have hbl' : β.le (β.put 1 (g + 1) ⟨some G, 1, cap'⟩) := Bmap.put_le hnone
      have hGo : ZB β 1 (.row g 1 xs) = some G ∨ G = w1.heap.size := by
        rcases hGw with e | ⟨e, hc0⟩
        · exact Or.inr (by rw [h1s]; exact e)
        · refine Or.inl ?_
          rw [hor]
          rcases hA with ⟨gb, e1, e2, e3⟩ | ⟨e1, e2, e3⟩
          · rw [e2] at e; injection e with e; injection e with e; rw [e1, e]
          · exact absurd e2 hc0
      have hsz1 : w.heap.size ≤ W1.heap.size := hg1.size
      have same : ∀ k, k < w.heap.size → k ≠ G → w'.heap[k]? = w1.heap[k]? := by
        intro k hk hkG
        by_cases e : k = b
        · rw [e, h1b]
        · rw [h1o k e]; exact (hg2.block k (by omega) (fun h => hkG (Option.some.inj h))).trans (hg1.block k hk (fun h => e (Option.some.inj h)))
      refine ⟨⟨some G, 1, cap'⟩, ⟨by rw [hw1]; exact hg2.os.trans hg1.os, by rw [hw1]; exact hg2.tape.trans hg1.tape, by rw [hw1]; exact hg2.output.trans hg1.output, by rw [h1s]; exact Nat.le_trans hg1.size hg2.size, fun k hk => same k (hbw k hk) ?_⟩, fun b' hb1 hb' => same b' (by omega) ?_, Or.inr ⟨G, rfl, hGo⟩, ?_, ?_⟩
      · rintro rfl
        rcases hGo with e | e
        · exact (R.own 1 _ _ rfl e).1 hk
        · have := hbw _ hk; omega
      · rintro rfl
        rcases hGo with e | e
        · exact hb1 e
        · omega
      · refine ⟨_, Bmap.put_same β 1 (g + 1) _, rfl, by omega, hcm, by rw [List.length_append]; exact hle, by rw [ZgD htree htn], ?_, Or.inr ⟨G, Y, t, rfl, hY, by rw [hYs, Nat.mul_one], ?_⟩⟩
        · intro x hx
          rcases List.mem_append.1 hx with h | h
          · exact hlens x h
          · exact hln x h
        · rw [List.length_append, Nat.mul_one, hYt, Zfe]
          exact Zcs (VRs.mono (Imm.le.refl I) hbl' _ _ hvo) (VRs.mono (Imm.le.refl I) hbl' _ _ hvn)
      · rw [Zb8]
        exact ⟨_, Bmap.put_same β 1 (g + 1) _, by rw [List.length_append]; exact hle, hcm, Or.inl ⟨G, rfl, by rw [List.length_append]⟩⟩
  have hbw1 : KLt base w1 := fun k hk => by rw [h1s]; exact hbw k hk
  obtain ⟨R2, hle2⟩ := R1.grow (t := 1) (g := g) (k := 1) (xs := xs) (xs' := xs ++ ys) rfl bi2 hB (by
    intro b' o u hI
    have hne : b' ≠ b := by rintro rfl; rw [hob.2 o] at hI; cases hI
    have hlt : b' < w1.heap.size := by rw [h1s]; exact ZdP (R.imm _ _ _ hI)
    have hno : ZB β 1 (.row g 1 xs) ≠ some b' := fun e => by have := (R.own 1 _ b' rfl e).2 o; rw [this] at hI; cases hI
    rw [← R1.imm b' o u hI]
    simp only [World.cell?, keep b' hno hlt]) keep hbi2 hbw1 hblk
  have hβ2 : (β.put 1 (g + 1) bi2) 0 0 = some ⟨some b, kk, cc⟩ := hle2 _ _ _ hβ0
  refine ⟨β.put 1 (g + 1) bi2, hle2, ?_, by simp [VR, VRs]⟩
  refine R2.upd (Imm.le.refl I) (Bmap.le.refl _) (KB.refl _ _) (fun _ _ _ => rfl) R2.imm 0 (.var [.sl 1 (g + 1) 0 (xs ++ ys).length, .int .i64 0, .int .i8 0]) rfl (by simp) (fun _ _ _ => rfl) ?_ ?_ ?_ ?_ (by simp)
  · intro t' x b' hne hx hb'
    refine ⟨rfl, (R2.own t' x b' hx hb').2, ?_⟩
    simp only [ZB, hβ2, Option.bind_some]
    intro e; injection e with e; subst e
    exact hne (R2.apart t' x 0 _ b hx rfl hb' (by simp only [ZB, hβ2, Option.bind_some]))
  · exact ⟨b, kk, cc, _, ty, hβ2, hT', by simp only [VRs]; exact ⟨_, _, rfl, hv2, _, _, rfl, by simp [VR], _, _, rfl, by simp [VR], rfl⟩⟩
  · intro b' e
    simp only [ZB, hβ2, Option.bind_some] at e; injection e with e; subst e
    exact R2.own 0 _ b rfl (by simp only [ZB, hβ2, Option.bind_some])
  · intro g' hg'
    exact R2.gen 0 _ g' rfl (by simpa [Zp] using hg')
theorem ZKI (L:LaysM.n180 P ρ) {f:FuncId} (hf:ρ.f 180=f) (hx:∃ fn,P.funcs[f]?=some fn∧fn.body.isSome=true∧(fn.name == "runtime.NumGoroutine")=false) {args:List AVal} {σ σ':Za} {r:AVal} (hg:Zhn args σ=some (r,σ')) :
  (∃ fn,P.funcs[f]?=some fn∧fn.body.isSome=true∧(fn.name == "runtime.NumGoroutine")=false) ∧
  ∀ base w0 I0 I β w (vs:Array Value),KLt base w0→Rel base w0 I0 I β σ w→VRs I β args vs.toList →
   Calls P f vs w (fun e w'=>∃ u,Ends r e u∧Zb5 σ.length base w0 I0 I β r σ' u w'):=by
 refine ⟨hx,?_⟩
 intro base w0 I0 I β w vs hb R hargs
 subst hf
 unfold Zhn at hg
 split at hg
 ·
  rename_i y ys lr
  split at hg
  case isFalse=>cases hg
  rename_i hc
  simp only [Option.some.injEq,Prod.mk.injEq] at hg
  obtain ⟨rfl,rfl⟩:=hg
  simp only [VRs] at hargs
  obtain ⟨v0,_,hvs,h0,v1,_,rfl,h1,rfl⟩:=hargs
  have hvs':vs=#[v0,v1]:=by rw [←Array.toList_inj];exact hvs
  subst hvs'
  simp only [VR] at h0
  obtain ⟨b,k,c,hβ0,rfl⟩:=h0
  obtain ⟨b',k',c',us,ty,hβ,hheap,hcs⟩:=R.blk 0 _ rfl
  rw [hβ0] at hβ;injection hβ with hβ;injection hβ with hβ1 hβ2 hβ3;injection hβ1 with hβ1;subst hβ1 hβ2 hβ3
  simp only [VRs] at hcs
  obtain ⟨u0,_,hus,hu0,u1,_,rfl,hu1,u2,_,rfl,hu2,rfl⟩:=hcs
  simp only [VR] at hu0 hu1 hu2
  obtain ⟨A,cap,rfl,_,_,hcap,_,_⟩:=hu0
  have hcap0:cap=0:=by simpa using hcap
  subst hu1 hu2 hcap0
  have hus':us=#[.slice A 0 0,.int .i64 0,.int .i8 lr]:=by rw [←Array.toList_inj];simpa using hus
  subst hus'
  have R1:=R.reserve 1
  have hfree:([.var [.lst true [],.int .i64 0,.int .i8 lr]]++List.replicate 1 ZM.free)[1]?=some .free:=rfl
  obtain ⟨R2,hle⟩:=R1.newNone hfree 1 (by omega)
  have R3:Rel base w0 I0 I (β.put 1 0 ⟨none,1,0⟩) [.var [.lst true [],.int .i64 0,.int .i8 lr],.row 0 1 []] w:=R2
  refine (Zte L hb R3 (bi:=⟨none,1,0⟩) (Bmap.put_same β 1 0 _) (hle _ _ _ hβ0) (A:=A) (cap:=0) hheap (Or.inr ⟨rfl,rfl,rfl⟩) (h1.mono (Imm.le.refl I) hle _ _) (by simpa using hc.1) hc.2).mono ?_
  rintro e w' ⟨u,he,β',hb',hR,hv⟩
  obtain ⟨β2,hk2,hR2,_⟩:=ZnX hR 1 []
  refine ⟨u,he,I,β2,Imm.le.refl I,(KeptE.of_le (hle.trans hb')).trans hk2,?_,by simpa [ZaS,VR,VRs] using hv⟩
  have hgc:(gcA 1 [] [.var [.sl 1 (0+1) 0 ([]++ys).length,.int .i64 0,.int .i8 0],.row (0+1) 1 ([]++ys)]).2=[.var [.sl 1 0 0 ys.length,.int .i64 0,.int .i8 0],.row 0 1 ys]:=rfl
  rw [hgc] at hR2
  exact hR2
 ·rename_i y ys g m lr g' xs
  split at hg
  case isFalse=>cases hg
  rename_i hc
  obtain ⟨rfl,rfl,hc1,hc2⟩:=hc
  simp only [Option.some.injEq,Prod.mk.injEq] at hg
  obtain ⟨rfl,rfl⟩:=hg
  simp only [VRs] at hargs
  obtain ⟨v0,_,hvs,h0,v1,_,rfl,h1,rfl⟩:=hargs
  have hvs':vs=#[v0,v1]:=by rw [←Array.toList_inj];exact hvs
  subst hvs'
  simp only [VR] at h0
  obtain ⟨b,k,c,hβ0,rfl⟩:=h0
  obtain ⟨b',k',c',us,ty,hβ,hheap,hcs⟩:=R.blk 0 _ rfl
  rw [hβ0] at hβ;injection hβ with hβ;injection hβ with hβ1 hβ2 hβ3;injection hβ1 with hβ1;subst hβ1 hβ2 hβ3
  obtain ⟨bi,hbi,hk1,_⟩:=R.blk 1 (.row g 1 xs) rfl
  simp only [VRs] at hcs
  obtain ⟨u0,_,hus,hu0,u1,_,rfl,hu1,u2,_,rfl,hu2,rfl⟩:=hcs
  rw [Zb8] at hu0
  simp only [VR] at hu1 hu2
  subst hu1 hu2
  obtain ⟨bi',hbi',_,_,hcase⟩:=hu0
  rw [hbi] at hbi';injection hbi' with hbi';subst hbi'
  obtain ⟨A,cap,rfl,hA⟩:∃ A cap,u0=.slice A xs.length cap∧((∃ gb,bi.b=some gb∧A=some ⟨gb,0,none⟩∧cap=bi.cap)∨(bi.b=none∧cap=0∧bi.cap=0)):=by
   rcases hcase with ⟨gb,e1,e2⟩ | ⟨e1,e2,A,e3⟩
   ·exact ⟨_,_,e2,Or.inl ⟨gb,e1,rfl,rfl⟩⟩
   ·obtain ⟨bi2,hbi2,_,_,_,hxl,_⟩:=R.blk 1 (.row g 1 xs) rfl
    rw [hbi] at hbi2;injection hbi2 with hbi2;subst hbi2
    exact ⟨A,0,by rw [e3,show xs.length=0 by omega],Or.inr ⟨e1,rfl,e2⟩⟩
  have hus':us=#[.slice A xs.length cap,.int .i64 0,.int .i8 lr]:=by rw [←Array.toList_inj];simpa using hus
  subst hus'
  refine (Zte L hb R hbi hβ0 hheap hA h1 hc1 hc2).mono ?_
  rintro e w' ⟨u,he,β',hb',hR,hv⟩
  exact ⟨u,he,I,β',Imm.le.refl I,KeptE.of_le hb',hR,hv⟩
 ·cases hg
end
end Go.Proofs.YtmlkhhidifjjfaaDoor
namespace Go.Proofs.YtmlkhhidifjjfaaDoor
open Go.Shelf
def ZGJ:Ren:=⟨fun | 180=>130 | 251=>150 | 252=>151 | 181=>159 | 184=>160 | 290=>161 | 324=>164 | n=>n,fun | 130=>190 | 37=>22 | 3=>3 | 75=>187 | 0=>0 | 93=>135 | 91=>133 | 131=>123 | 4=>4 | 20=>20 | 5=>5 | 80=>118 | 9=>9 | n=>n,fun | 14=>2 | n=>n⟩
theorem ZKz:Go.Proofs.LaysM.n180 Tryd.prog ZGJ:={ mixed:=by kernel_rfl,f180:=Tryd.func130.trans (congrArg some (by kernel_rfl)),f181:=Tryd.func159.trans (congrArg some (by kernel_rfl)),f184:=Tryd.func160.trans (congrArg some (by kernel_rfl)),f251:=Tryd.func150.trans (congrArg some (by kernel_rfl)),f252:=Tryd.func151.trans (congrArg some (by kernel_rfl)),f290:=Tryd.func161.trans (congrArg some (by kernel_rfl)),f324:=Tryd.func164.trans (congrArg some (by kernel_rfl)),t0:=Tryd.underlying0,a0:=Tryd.isAgg0,z0:=Tryd.sizeOf0,v0:=Tryd.zeroValue0,t3:=Tryd.underlying3,a3:=Tryd.isAgg3,z3:=Tryd.sizeOf3,v3:=Tryd.zeroValue3,t4:=Tryd.underlying4,a4:=Tryd.isAgg4,z4:=Tryd.sizeOf4,v4:=Tryd.zeroValue4,t20:=Tryd.underlying20,a20:=Tryd.isAgg20,z20:=Tryd.sizeOf20,v20:=Tryd.zeroValue20,t37:=Tryd.underlying22,a37:=Tryd.isAgg22,z37:=Tryd.sizeOf22,v37:=Tryd.zeroValue22,t75:=Tryd.underlying187,a75:=Tryd.isAgg187,z75:=Tryd.sizeOf187,v75:=Tryd.zeroValue187,t91:=Tryd.underlying133,a91:=Tryd.isAgg133,z91:=Tryd.sizeOf133,v91:=Tryd.zeroValue133,t93:=Tryd.underlying135,a93:=Tryd.isAgg135,z93:=Tryd.sizeOf135,v93:=Tryd.zeroValue135,t130:=Tryd.underlying190,a130:=Tryd.isAgg190,z130:=Tryd.sizeOf190,v130:=Tryd.zeroValue190,t131:=Tryd.underlying123,a131:=Tryd.isAgg123,z131:=Tryd.sizeOf123,v131:=Tryd.zeroValue123,g14:=by kernel_rfl,t5:=Tryd.underlying5,a5:=Tryd.isAgg5,z5:=Tryd.sizeOf5,v5:=Tryd.zeroValue5,t9:=Tryd.underlying9,a9:=Tryd.isAgg9,z9:=Tryd.sizeOf9,v9:=Tryd.zeroValue9,t80:=Tryd.underlying118,a80:=Tryd.isAgg118,z80:=Tryd.sizeOf118,v80:=Tryd.zeroValue118,i0:=by kernel_rfl,i3:=by kernel_rfl,i4:=by kernel_rfl,i5:=by kernel_rfl,i9:=by kernel_rfl,i20:=by kernel_rfl,i37:=by kernel_rfl,i75:=by kernel_rfl,i80:=by kernel_rfl,i91:=by kernel_rfl,i93:=by kernel_rfl,i130:=by kernel_rfl,i131:=by kernel_rfl,m14:=by kernel_rfl }
end Go.Proofs.YtmlkhhidifjjfaaDoor
namespace Go.Proofs.YtmlkhhidifjjfaaDoor
theorem ZMa:∃ fn,Tryd.prog.funcs[130]?=some fn∧fn.body.isSome=true∧(fn.name == "runtime.NumGoroutine")=false:=⟨Tryd.f130,Tryd.func130,by kernel_rfl,by kernel_rfl⟩
theorem ZGH:Zk7 Tryd.prog PR1:=by
 intro f g h args σ r σ' hg
 unfold PR1 at h
 split at h
 ·rename_i e;subst e
  injection h with h;subst h
  exact ZJx hg
 ·split at h
  ·rename_i e;subst e
   injection h with h;subst h
   exact ZKI ZKz rfl ZMa hg
  ·exact Zuh f g h args σ r σ' hg
theorem ZwF:ZaN Tryd.prog E1:=by
 have h:E1=EV CF PR1 BY:=ZLW CF PR1 BY
 rw [h]
 exact ZBa Ziz ZGH ann BY
end Go.Proofs.YtmlkhhidifjjfaaDoor
namespace Go.Proofs.YtmlkhhidifjjfaaDoor
open Go.RowKit Go.Shelf Go.Lib
theorem Zx1 {W:World} (h:Lib.Utf8Tabs 0 1 W):Gl.le (Imm.of W):=by
 intro b o u hu
 unfold Gl at hu
 unfold Imm.of
 split at hu
 ·rename_i e;subst e
  split at hu
  ·rename_i ho
   rw [h.1 o ho,←hu]
  ·cases hu
 ·split at hu
  ·rename_i e;subst e
   split at hu
   ·rename_i ho
    rw [←hu]
    obtain ⟨h1,h2⟩:=h.2 (o / 2) (by omega)
    by_cases hp:o % 2=0
    ·rw [if_pos hp,←h1];congr 2;omega
    ·rw [if_neg hp,←h2];congr 2;omega
   ·cases hu
  ·cases hu
section
open Go.RowKit
variable {H:Type} {enc:TypeId×Value→H} {P:Program} {w:World} {spare:Nat→Bool} {held:Bool}
end
end Go.Proofs.YtmlkhhidifjjfaaDoor
namespace Go.Proofs.YtmlkhhidifjjfaaDoor
open Go.ChangeShapes Go.WideShapes Go.ChangeAt Go.RowKit Go.Deep
theorem ZIL:ownKnob Tryd.prog.godebug=none:=by kernel_rfl
theorem Zo0:laidOutB Tryd.prog=true:=by kernel_rfl
theorem ZL4 {W:World} (hLH:laidMetH Tryd.prog Rows.packetCodesRow.laid W):Gl.le (Imm.of W):=by
 have hL:laidMet Tryd.prog Rows.packetCodesRow.laid W:=by rw [←MakeChecks.laidMetH_plain _ _ _ (by kernel_rfl)];exact hLH
 have e1:Rows.laid_unicode_utf8_first=Lib.firstData:=by kernel_rfl
 have e2:(Rows.laid_unicode_utf8_acceptRanges:DataW Unit)=Lib.acceptData:=by kernel_rfl
 have h1:Lib.VarReads Tryd.prog W "unicode/utf8.first" Lib.firstData:=by rw [←e1];exact Lib.laidMet.reads hL (.tail _ (.tail _ (.head _)))
 have h2:Lib.VarReads Tryd.prog W "unicode/utf8.acceptRanges" Lib.acceptData:=by rw [←e2];exact Lib.laidMet.reads hL (.head _)
 exact Zx1 (utf8Tabs_of_readsT (U8Types.of196 Zst) ⟨by kernel_rfl,by kernel_rfl,by kernel_rfl,by kernel_rfl,by kernel_rfl,by kernel_rfl,by kernel_rfl⟩ h1 h2)
set_option maxRecDepth 100000 in
set_option maxHeartbeats 1000000 in
theorem Zx4 (H:Type) (enc:TypeId×Value→H) (W:World) (base:Nat) (args:Array Value) (ds gs:List (DataW H)) (before:List MemPlace) (vts:List TypeId)
  (hval0:∀ (j:Nat) t v,Tryd.f9.params[j]?=some t→args[j]?=some v→Value.okWide Tryd.prog W .any base t v)
  (hW:DataW.Whole enc Tryd.prog Tryd.f9.params.toList Rows.packetCodesSpec.vars false W args.toList ds gs before) (hL:laidMetH Tryd.prog Rows.packetCodesRow.laid W) (hwt:(DataW.weightsEach Tryd.prog (Tryd.f9.params.toList++vts) (ds++gs)).all (·≤reachBytes)=true) :
  Calls Tryd.prog 9 args W fun e W'=>∃ v,e=.returned v∧Rows.packetCodesSpec.post enc Tryd.prog Tryd.f9 false true false false W args v W':=by
 have hW':=hW
 obtain ⟨p,q,hA0,hV,rfl,hfz,hnd⟩:=hW
 have hval:∀ (j:Nat) t v,Tryd.f9.params[j]?=some t→args[j]?=some v→Value.okWide Tryd.prog W .any base t v:=hval0
 have hA:DataW.TrodAll enc Tryd.prog W 0 (fun _=>true) true Tryd.f9.params.toList args.toList ds p:=hA0
 rw [Tryd.params9] at hA hval hwt
 obtain ⟨v0,vs0,d0,ds0,p0,q0,hargs,rfl,rfl,h0,r0⟩:=trodAll_cons hA
 obtain ⟨v1,vs1,d1,ds1,p1,q1,rfl,rfl,rfl,h1,r1⟩:=trodAll_cons r0
 obtain ⟨v2,vs2,d2,ds2,p2,q2,rfl,rfl,rfl,h2,r2⟩:=trodAll_cons r1
 obtain ⟨rfl,rfl,rfl⟩:=trodAll_nil r2
 obtain rfl:args=#[v0,v1,v2]:=by cases args;simp_all
 obtain ⟨rfl,rfl⟩:=trodVars_none hV
 have k0:=h0
 have lt0:∀ x ∈ p0,x.block < W.heap.size:=by obtain ⟨m,hm⟩:=k0;exact DataW.trod_lt m _ _ _ hm
 obtain ⟨x0,y0,z0,_⟩:=Zod (R:=reachBytes) (n:=12) (T:=(.int .i64)) (by kernel_rfl) (by kernel_rfl) (fun m hm=>of_decide_eq_true (List.all_eq_true.1 hwt m (DataW.weights_mem_each (j:=0) rfl rfl m hm))) (hval 0 3 v0 rfl rfl) h0
 rw [Tryd.underlying3] at y0
 obtain ⟨a0,b0,rfl⟩:=Znn y0
 have k1:=h1
 have lt1:∀ x ∈ p1,x.block < W.heap.size:=by obtain ⟨m,hm⟩:=k1;exact DataW.trod_lt m _ _ _ hm
 obtain ⟨x1,y1,z1,_⟩:=Zod (R:=reachBytes) (n:=12) (T:=(.int .i64)) (by kernel_rfl) (by kernel_rfl) (fun m hm=>of_decide_eq_true (List.all_eq_true.1 hwt m (DataW.weights_mem_each (j:=1) rfl rfl m hm))) (hval 1 3 v1 rfl rfl) h1
 rw [Tryd.underlying3] at y1
 obtain ⟨a1,b1,rfl⟩:=Znn y1
 have k2:=h2
 have lt2:∀ x ∈ p2,x.block < W.heap.size:=by obtain ⟨m,hm⟩:=k2;exact DataW.trod_lt m _ _ _ hm
 obtain ⟨x2,y2,z2,_⟩:=Zod (R:=reachBytes) (n:=12) (T:=(.int .i64)) (by kernel_rfl) (by kernel_rfl) (fun m hm=>of_decide_eq_true (List.all_eq_true.1 hwt m (DataW.weights_mem_each (j:=2) rfl rfl m hm))) (hval 2 3 v2 rfl rfl) h2
 rw [Tryd.underlying3] at y2
 obtain ⟨a2,b2,rfl⟩:=Znn y2
 clear hA0 hval0
 have hq:=ZvQ a0 a1 a2
 refine (ZxG ZwF (ZL4 hL) (args:=[.int .i64 a0,.int .i64 a1,.int .i64 a2]) (by simp only [VRs];exact ⟨_,_,rfl,z0,_,_,rfl,z1,_,_,rfl,z2,rfl⟩) (hq)).mono fun e W' ⟨he,bel⟩=>?_
 subst he
 exact ⟨_,rfl,_,_,_,[],_,[],hW',trodAll_mk1 (shut_bool Tryd.underlying4 _),(trodAll_cons_mk (Below.trod Zo0 (by kernel_rfl) (of_decide_eq_true (by kernel_rfl)) k0 bel lt0) (trodAll_cons_mk (Below.trod Zo0 (by kernel_rfl) (of_decide_eq_true (by kernel_rfl)) k1 bel lt1) (trodAll_cons_mk (Below.trod Zo0 (by kernel_rfl) (of_decide_eq_true (by kernel_rfl)) k2 bel lt2) trodAll_mk0))),rfl,bel.frame _,fun h=>by cases h⟩
noncomputable def ZnC (os:Os):World :=
 let w0:=World.holding Tryd.prog os ⟨#[],#[],[]⟩
 let put (h:Array Obj) (g:Nat) (us:Array Value):Array Obj:=h.modify g fun
  | .cells _ t frozen=>.cells us t frozen
  | o=>o
 let h1:=put w0.heap 0 (Lib.firstTab.map fun z=>Value.int .u8 z).toArray
 let h2:=put h1 1 ((List.range 16).flatMap fun i=>[Value.int .u8 (Lib.accLo i),Value.int .u8 (Lib.accHi i)]).toArray
 let h3:=(put h2 2 #[Value.iface 221 (.pointer (some ⟨h2.size,0,none⟩))]).push (.cells #[Value.string ⟨#[98,121,116,101,115,46,66,117,102,102,101,114,58,32,116,111,111,32,108,97,114,103,101]⟩] 237)
 { w0 with heap:=h3 }
theorem ZF2 (os:Os):laidMet Tryd.prog Rows.packetCodesRow.laid ((ZnC os).forCall (fun _ _=>0) ⟨#[],#[.int .i64 0,.int .i64 0,.int .i64 0],[]⟩).memory :=
 laidMet_of_run' 8 (by kernel_rfl) (by kernel_rfl)
theorem ZxA (os:Os) {H:Type} (enc:TypeId×Value→H):∃ ds places,DataW.whole enc Tryd.prog ((ZnC os).forCall (fun _ _=>0) ⟨#[],#[.int .i64 0,.int .i64 0,.int .i64 0],[]⟩).memory Tryd.f9.params.toList Rows.packetCodesSpec.vars false #[.int .i64 0,.int .i64 0,.int .i64 0].toList 8=some (ds,[],places) :=
 ⟨[.lit (.int .i64 0),.lit (.int .i64 0),.lit (.int .i64 0)],[],by kernel_rfl⟩
set_option maxRecDepth 100000 in
set_option maxHeartbeats 1000000 in
theorem ZCK (os:Os) (started:os.Started) (H:Type) (enc:TypeId×Value→H) (F:Stop.Interp) :
  ReturnsInHanded {} Tryd.checked os 9 .any ((OpenSpec.ofChange Rows.packetCodesSpec).preRow enc Tryd.prog Tryd.f9 Rows.packetCodesRow.domain false Rows.packetCodesRow.laid) (((OpenSpec.ofChange Rows.packetCodesSpec).at F).post enc Tryd.prog Tryd.f9 false true false false):=by
 obtain ⟨ds,places,hx⟩:=ZxA os enc
 refine returnsInHanded_of_row (C:=Tryd.checked) (s:=(OpenSpec.ofChange Rows.packetCodesSpec)) ZIL started (by kernel_rfl) Tryd.func9
  (witness_row_at (enc:=enc) (C:=Tryd.checked) false (ZnC os) #[.int .i64 0,.int .i64 0,.int .i64 0] rfl (by kernel_rfl) (by kernel_rfl) (by kernel_rfl)
   (OpenSpec.preRow_of_cond 8 hx (by kernel_rfl) (fun k hk=>by cases hk) (by kernel_rfl) (ZF2 os))) ?_
 intro W base args ds gs before hval hW _ hcond hwt hL _ _
 exact Zx4 H enc W base args ds gs before _ hval hW hL hwt
theorem Zzy:Rows.PacketCodesSaid :=
 OpenClaim.holds_of_cond 9 Tryd.f9 rfl rfl rfl rfl rfl rfl rfl ⟨rfl,rfl,rfl,rfl,rfl⟩ rfl rfl rfl rfl rfl (by kernel_rfl) Tryd.func9 (by kernel_rfl)
  (of_decide_eq_true (by kernel_rfl)) (by unfold Func.isWrapper;first | (rw [if_pos (by decide +kernel)];kernel_rfl) | (rw [if_neg (by decide +kernel)];exact ⟨rfl,rfl⟩))
  (fun os started H enc _ F=>by rw [OpenClaim.pre_eq_preRow];exact ZCK os started H enc F)
theorem ZHg (f:FuncId) (fn:Func) (hf:Tryd.pinned.checked.prog.funcNamed "tidings/tidingslaw12.PacketCodes"=some f) (hfn:Tryd.pinned.checked.prog.funcs[f]?=some fn) :
  true=Tryd.pinned.checked.prog.looks []∧∀ (j:Nat) t,fn.params[j]?=some t→Tryd.pinned.checked.prog.wantsStandIn t=false:=by
 obtain rfl:f=9:=Option.some.inj ((show Tryd.prog.funcNamed "tidings/tidingslaw12.PacketCodes"=some 9 by kernel_rfl).symm.trans hf) |>.symm
 obtain rfl:fn=Tryd.f9:=(Option.some.inj (Tryd.func9.symm.trans hfn)).symm
 refine ⟨by kernel_rfl,fun j t ht=>?_⟩
 rw [Tryd.params9] at ht
 have hm:t=3:=by
  have:=Array.mem_of_getElem? ht
  simp at this
  first | exact this | exact this.symm | omega | (rcases this with h | h | h <;> simp [h]) | (rcases this with h | h | h | h <;> simp [h]) | (rcases this with h | h | h | h | h <;> simp [h]) | (rcases this with h | h | h | h | h | h <;> simp [h]) | (rcases this with h | h | h | h | h | h | h <;> simp [h])
 subst hm
 exact (show Tryd.prog.wantsStandIn 3=false by kernel_rfl)
theorem packetCodes_card:Rows.PacketCodesCardSaid :=
 Claim7.holds_tied_plain_at .later [] _ _ _ _ Zzy (fun _ h=>by cases h) (by kernel_rfl) (fun _ h=>by cases h) packetCodes_row_tie rfl ⟨rfl,rfl⟩ (by kernel_rfl) rfl ZHg (by kernel_rfl)
#print axioms packetCodes_card
end Go.Proofs.YtmlkhhidifjjfaaDoor
